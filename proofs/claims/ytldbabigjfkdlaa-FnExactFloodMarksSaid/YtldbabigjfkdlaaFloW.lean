/- FloodMarks: the program. -/
import Derived.Test.YtldbabigjfkdlaaFloK
import Derived.Deep.RegionHeld3
namespace Go.Proofs.Ytldbabigjfkdlaa
open Go Go.RowKit
theorem nb4_len (W k : Nat) : (nb4 W k).length = 4 := rfl
theorem nb4_eq (W k : Nat) : nb4 W k = [(((k % W : Nat) : Int), ((k / W : Nat) : Int) - 1), (((k % W : Nat) : Int) - 1, ((k / W : Nat) : Int)), (((k % W : Nat) : Int) + 1, ((k / W : Nat) : Int)), (((k % W : Nat) : Int), ((k / W : Nat) : Int) + 1)] := by
  have e : nb4 W k = [(((k % W : Nat) : Int) + 0, ((k / W : Nat) : Int) + -1), (((k % W : Nat) : Int) + -1, ((k / W : Nat) : Int) + 0), (((k % W : Nat) : Int) + 1, ((k / W : Nat) : Int) + 0), (((k % W : Nat) : Int) + 0, ((k / W : Nat) : Int) + 1)] := rfl
  rw [e]
  simp only [Int.add_zero]
  rfl
def FwP (S : Nat → Prop) (lo hi : Nat) (wS : World) (a : Option Addr) (A : Nat → Option Addr) (C : Nat → Nat) (W H : Nat) (nums res : List Int) (B k : Nat) (v : Value) (wr : World) : Prop :=
  ∃ s : FloS, WvSt S lo hi wS a A C W H s.1 (wavL W s.2) v wr ∧ FloI W H s ∧ FloR W H nums s res ∧ floM s ≤ B ∧ floM s = k
noncomputable def FwM (S : Nat → Prop) (lo hi : Nat) (wS : World) (a : Option Addr) (A : Nat → Option Addr) (C : Nat → Nat) (W H : Nat) (nums res : List Int) (B : Nat) (v : Value) (wr : World) : Nat := leastN fun k => FwP S lo hi wS a A C W H nums res B k v wr
theorem FwM_lt {S : Nat → Prop} {lo hi : Nat} {wS : World} {a : Option Addr} {A : Nat → Option Addr} {C : Nat → Nat} {W H : Nat} {nums res : List Int} {B : Nat} {v v' : Value} {wr wr' : World} {k k' : Nat} (h0 : FwM S lo hi wS a A C W H nums res B v wr = k) (h : FwP S lo hi wS a A C W H nums res B k' v' wr') (hn : k' < k) :
    FwM S lo hi wS a A C W H nums res B v' wr' < FwM S lo hi wS a A C W H nums res B v wr := by
  rw [h0]
  exact Nat.lt_of_le_of_lt (leastN_le h) hn
section
variable {S : Nat → Prop} {lo hi : Nat} {wS : World} {a : Option Addr} {A : Nat → Option Addr} {C : Nat → Nat} {W H : Nat} {l : List Int} {ws : List (Int × Int × Int)} {v8 : Value} {wr wI : World}
theorem WvSt.keeps (h : WvSt S lo hi wS a A C W H l ws v8 wr) {k : Nat} (hk : ¬ S k) (hlt : k < wI.heap.size) : ¬ WvS lo hi v8 wI k := fun e => by
  rcases e with e | e | e
  · exact hk (h.tab k e.1 e.2)
  · exact hk (h.own k e)
  · omega
theorem row4 {w : World} {p : Nat} {ps : List (Int × Int)} {T : TypeId} (x0 y0 x1 y1 x2 y2 x3 y3 : Int) (hp : p = w.heap.size) (hps : ps = [(x0, y0), (x1, y1), (x2, y2), (x3, y3)]) :
    RowP (w.alloc (.cells #[.int .i64 x0, .int .i64 y0, .int .i64 x1, .int .i64 y1, .int .i64 x2, .int .i64 y2, .int .i64 x3, .int .i64 y3] T)) (some ⟨p, 0, none⟩) ps := by
  subst hp hps
  intro i hi
  refine ⟨_, _, rfl, ?_⟩
  have hi8 : i < 8 := hi
  rcases i with _ | _ | _ | _ | _ | _ | _ | _ | i
  · simp [go_sem, flatP]
  · simp [go_sem, flatP]
  · simp [go_sem, flatP]
  · simp [go_sem, flatP]
  · simp [go_sem, flatP]
  · simp [go_sem, flatP]
  · simp [go_sem, flatP]
  · simp [go_sem, flatP]
  · omega
end
set_option maxRecDepth 5000 in
set_option maxHeartbeats 6400000 in
theorem implFlood_any (a : Option Addr) (c : Nat) (A : Nat → Option Addr) (C : Nat → Nat) (m : List (List Int)) (a' : Option Addr) (c' : Nat) (A' : Nat → Option Addr) (C' : Nat → Nat) (q : List (List Int)) (res : List Int) (hR : FldO m q res) (w : World) (hb : MatBnd m) (hbq : MatBnd q) (hm : MatAt w a A C m) (hmq : MatAt w a' A' C' q) :
    Calls Try.prog 36 #[.agg #[.slice a m.length c], .slice a' q.length c'] w (MatRet2 w (optM (fldOk m q) (grl (m.getD 0 []).length m.length res)) (fldOk m q)) := by
  obtain ⟨iw, hiw, hw0, hw1, hw2⟩ := info_parts Try.infoWave
  obtain ⟨W0, hW0⟩ : ∃ W0, W0 = w.alloc (.cells #[.slice a m.length c] 45) := ⟨_, rfl⟩
  have hx0 : w.Ext W0 := by rw [hW0]; repeat (first | exact World.Ext.refl _ | exact ⟨_, rfl⟩ | assumption | refine World.Ext.over ?_ _ | refine World.Ext.drewN ?_ _ | refine World.Ext.drew ?_ | refine World.Ext.alloc ?_ _ | refine World.Ext.setCell ?_ (by simp) _)
  have hsz0 : W0.heap.size = w.heap.size + 1 := by rw [hW0]; simp
  have d0 : W0.cell? ⟨w.heap.size, 0, none⟩ = some (.slice a m.length c) := by rw [hW0]; simp [go_sem]
  have HI : Hid (∀ w', W0.Ext w' → Calls Try.prog 118 #[.agg #[.slice a m.length c]] w' fun e w'' => e = .returned (.bool (tableOk m 99)) ∧ w'.Ext w'') := fun w' hx => validGrey_any a c A C m w' hb.1 hb.2 ((hm.ext hx0).ext hx) _ rfl
  have HJ : Hid (∀ w', W0.Ext w' → Calls Try.prog 119 #[.slice a' q.length c', .int .i64 9] w' fun e w'' => e = .returned (.bool (tableOk q 9)) ∧ w'.Ext w'') := fun w' hx => rowsOk_any a' c' A' C' q 9 w' hbq.1 hbq.2 ((hmq.ext hx0).ext hx) _ rfl
  have HX0 := Lib.hid hx0
  have l0 := World.block_lt_of_cell? _ _ d0
  unfold FldO fldOk at hR
  unfold fldOk
  cases hok : tableOk m 99
  · rw [hok] at HI
    clear hb hbq hm hmq hx0 hok hR HJ hsz0
    show Calls _ _ _ _ (MatRet2 w [] false)
    go_enter Try.func36, Try.ntmps36
    go_wp2_with fail
    rw [← hW0]
    clear hW0
    refine wp_region_over_lit (by kernel_rfl) (by kernel_rfl) ?_; (repeat (go_big_quiet_step ((go_at_call 118; exact Calls.over_of (HI.out _ ⟨_, rfl⟩))))); refine wpQuiet_nil ?_; rintro _ ⟨x1, rfl⟩
    have HX1 : Hid (w.Ext (W0.over x1)) := HX0.out.trans ⟨x1, rfl⟩
    clear d0 l0 HI
    go_wp2
    go_ret2
    exact MatRet2.no HX1.out
  · rw [hok] at HI
    cases hoq : tableOk q 9
    · rw [hoq] at HJ
      clear hb hbq hm hmq hx0 hok hoq hR hsz0
      show Calls _ _ _ _ (MatRet2 w [] false)
      go_enter Try.func36, Try.ntmps36
      go_wp2_with fail
      rw [← hW0]
      clear hW0
      refine wp_region_over_lit (by kernel_rfl) (by kernel_rfl) ?_; (repeat (go_big_quiet_step ((first | (go_at_call 118; exact Calls.over_of (HI.out _ ⟨_, rfl⟩)) | (go_at_call 119; exact Calls.over_of (HJ.out _ ⟨_, rfl⟩)))))); refine wpQuiet_nil ?_; rintro _ ⟨x1, rfl⟩
      have HX1 : Hid (w.Ext (W0.over x1)) := HX0.out.trans ⟨x1, rfl⟩
      clear d0 l0 HI HJ
      go_wp2
      go_ret2
      exact MatRet2.no HX1.out
    · rw [hoq] at HJ
      obtain ⟨v1, v2, v3, v4, v5, v6⟩ := tableOk_spec hok
      obtain ⟨u1, u2, u3, u4, u5, u6⟩ := tableOk_spec hoq
      have hfl : m.flatten.length = m.length * (m.getD 0 []).length := by rw [flat_len _ m v5, Nat.mul_comm]
      have hfq : q.flatten.length = q.length * (q.getD 0 []).length := by rw [flat_len _ q u5, Nat.mul_comm]
      have HRM : Hid (∀ w' p, W0.Ext w' → w'.cell? ⟨p, 0, none⟩ = some (.slice a' q.length c') → Calls Try.prog 120 #[.pointer (some ⟨p, 0, none⟩), .func (.func 121) #[.pointer (some ⟨p, 0, none⟩)] #[]] w' (GreyRet w' (grl (q.getD 0 []).length q.length q.flatten))) := fun w' p hx hp =>
        remadeM_any p p a' c' A' C' q 121 #[] (flG (q.getD 0 []).length q.flatten) w' (by omega) (by omega) (by omega) enters_gAt hp ((hmq.ext hx0).ext hx)
          (fun w'' hx' x y hxW hyH => by
            have hrow := u5 y hyH
            have hv : flG (q.getD 0 []).length q.flatten x y = (q.getD y []).getD x 0 := flat_at (q.getD 0 []).length q y x u5 hyH hxW
            rw [hv]
            exact gAt_any p a' c' A' C' q x y w'' hyH (by omega) (by omega) (by omega) (hx'.cell hp) (((hmq.ext hx0).ext hx).ext hx'))
      have HAM : Hid (∀ w' x y, W0.Ext w' → x < (m.getD 0 []).length → y < m.length → Calls Try.prog 121 #[.pointer (some ⟨w.heap.size, 0, none⟩), .agg #[.int .i64 (x : Nat), .int .i64 (y : Nat)]] w' fun e w'' => e = .returned (.int .i64 (m.flatten.getD (y * (m.getD 0 []).length + x) 0)) ∧ w'.Ext w'') := fun w' x y hx hxW hyH => by
        have hrow := v5 y hyH
        rw [flat_at (m.getD 0 []).length m y x v5 hyH hxW]
        exact gAt_any w.heap.size a c A C m x y w' hyH (by omega) (by omega) (by omega) (hx.cell d0) ((hm.ext hx0).ext hx)
      have HRR : Hid (sizeOk3 q m = true → anyPos q.flatten = true → FloR (m.getD 0 []).length m.length m.flatten (floStart q.flatten m.flatten) res) := fun h1 h2 => hR (by rw [hok, hoq, h1, h2]; rfl)
      have HLS : Hid (sizeOk3 q m = true → FloI (m.getD 0 []).length m.length (floStart q.flatten m.flatten)) := fun h1 => fld_start hok hoq h1
      have HFM := Lib.hid (floM_start q.flatten m.flatten)
      have HAN : Hid (anyPos q.flatten = !((floTo q.flatten m.flatten q.flatten.length).length == 0)) := floTo_none (flat_get9 hoq)
      have HFL := Lib.hid hfl
      have HFQ := Lib.hid hfq
      have HGL : Hid (∀ (W H : Nat) l, (grl W H l).length = H) := fun W H l => grl_len W H l
      have HSZ : Hid (sizeOk3 q m = (decide (q.length = m.length) && decide ((q.getD 0 []).length = (m.getD 0 []).length))) := rfl
      obtain ⟨⟨b0, o0, rfl, hc0⟩, -⟩ := hm 0 (by omega)
      obtain ⟨⟨b1, o1, rfl, hc1⟩, -⟩ := hmq 0 (by omega)
      have c0' := hx0.cell hc0
      have c1' := hx0.cell hc1
      simp only [Bool.true_and]
      rw [Nat.add_zero] at c0' c1'
      clear hb hbq hm hmq hx0 hok hoq hR hfl hfq v5 v6 u5 u6 hc0 hc1
      generalize sizeOk3 q m = sz at *
      generalize anyPos q.flatten = ap at *
      generalize m.flatten = mk at *
      generalize q.flatten = qk at *
      generalize (m.getD 0 []).length = W at *
      generalize (q.getD 0 []).length = V at *
      generalize m.length = H at *
      generalize q.length = G at *
      have hG0 : (0 : Int) < (G : Int) := by omega
      have hH0 : (0 : Int) < (H : Int) := by omega
      by_cases hGH : G = H
      · by_cases hVW : V = W
        · have fGH : ((G : Int) != (H : Int)) = false := by rw [hGH]; simp
          have fVW : ((V : Int) != (W : Int)) = false := by rw [hVW]; simp
          have hsz : sz = true := by rw [HSZ.out, hGH, hVW]; simp
          subst hsz
          have HRR2 := Lib.hid (HRR.out rfl)
          have HIS := Lib.hid (HLS.out rfl)
          have HGH := Lib.hid hGH
          have HVW := Lib.hid hVW
          clear hGH hVW HSZ HRR HLS
          simp only [Bool.true_and]
          obtain ⟨n, hn⟩ : ∃ n, n = qk.length := ⟨_, rfl⟩
          have hnm : n = mk.length := by rw [hn, HFQ.out, HFL.out, HGH.out, HVW.out]
          have hn0 : 0 < n := by rw [hnm, HFL.out]; exact Nat.mul_pos v1 v3
          have hn4 : n ≤ 256 := by rw [hnm, HFL.out]; exact Nat.mul_le_mul v2 v4
          rw [← hn] at HAN HFM HFQ
          rw [← hnm] at HFL
          have HN := Lib.hid hn
          have HNM := Lib.hid hnm
          clear hn hnm
          go_enter Try.func36, Try.ntmps36
          go_wp2_with fail
          rw [← hW0]
          clear hW0
          refine wp_region_over_lit (by kernel_rfl) (by kernel_rfl) ?_; (repeat (go_big_quiet_step ((first | (go_at_call 118; exact Calls.over_of (HI.out _ ⟨_, rfl⟩)) | (go_at_call 119; exact Calls.over_of (HJ.out _ ⟨_, rfl⟩)))))); refine wpQuiet_nil ?_; rintro _ ⟨x1, rfl⟩
          have HX1 : Hid (W0.Ext (W0.over x1)) := ⟨x1, rfl⟩
          clear d0 l0 HI HJ c0' c1'
          generalize W0.over x1 = w1 at *
          obtain ⟨w2, hw2⟩ : ∃ w2, w2 = w1.alloc (.cells #[.slice (some ⟨b1, o1, none⟩) G c'] 45) := ⟨_, rfl⟩
          have hx2 : w1.Ext w2 := by rw [hw2]; repeat (first | exact World.Ext.refl _ | exact ⟨_, rfl⟩ | assumption | refine World.Ext.over ?_ _ | refine World.Ext.drewN ?_ _ | refine World.Ext.drew ?_ | refine World.Ext.alloc ?_ _ | refine World.Ext.setCell ?_ (by simp) _)
          have hc2 : w2.cell? ⟨w1.heap.size, 0, none⟩ = some (.slice (some ⟨b1, o1, none⟩) G c') := by rw [hw2]; simp [go_sem]
          have hsz1 := HX1.out.size
          have hsz2 := hx2.size
          have HRC := Lib.hid (HRM.out w2 w1.heap.size (HX1.out.trans hx2) hc2)
          have HX2 := Lib.hid (HX1.out.trans hx2)
          clear HRM HX1 hx2 hc2
          go_wp2_with fail
          rw [← hw2]
          clear hw2
          refine HRC.out.mono ?_
          rintro e w3 ⟨a7, c7, A7, C7, rfl, hx3, ho7⟩
          rw [HGL.out, HGH.out]
          rw [HGH.out, HVW.out] at ho7
          obtain ⟨w4, hw4⟩ : ∃ w4, w4 = (w3.alloc (.cells #[] 164)).alloc (.cells #[.slice a7 H c7] 45) := ⟨_, rfl⟩
          have hx4 : w3.Ext w4 := by rw [hw4]; repeat (first | exact World.Ext.refl _ | exact ⟨_, rfl⟩ | assumption | refine World.Ext.over ?_ _ | refine World.Ext.drewN ?_ _ | refine World.Ext.drew ?_ | refine World.Ext.alloc ?_ _ | refine World.Ext.setCell ?_ (by simp) _)
          have hsz4 : w4.heap.size = w3.heap.size + 1 + 1 := by rw [hw4]; simp
          have hc4 : w4.cell? ⟨w3.heap.size + 1, 0, none⟩ = some (.slice a7 H c7) := by rw [hw4]; simp [go_sem]
          have hg4 : GrowD w3.heap.size 164 w4 (.slice (some ⟨w3.heap.size, 0, none⟩) 0 0) [] := by rw [hw4]; exact (GrowD.empty w3 (Nat.le_refl _)).ext (by repeat (first | exact World.Ext.refl _ | exact ⟨_, rfl⟩ | assumption | refine World.Ext.over ?_ _ | refine World.Ext.drewN ?_ _ | refine World.Ext.drew ?_ | refine World.Ext.alloc ?_ _ | refine World.Ext.setCell ?_ (by simp) _))
          have hsz3 := hx3.size
          have HS4 : Hid (WvSt (WvS w2.heap.size w3.heap.size (.slice (some ⟨w3.heap.size, 0, none⟩) 0 0) w4) w2.heap.size w3.heap.size w4 a7 A7 C7 W H qk (wavL W (floTo qk mk 0)) (.slice (some ⟨w3.heap.size, 0, none⟩) 0 0) w4) :=
            ⟨Wrote.refl _ _, ho7.ext hx4, by rw [← HN.out, HFQ.out, HGH.out, HVW.out], hg4, fun _ hk => .inr (.inl hk), fun _ h1 h2 => .inl ⟨h1, h2⟩, fun _ hk => .inr (.inr hk), by omega⟩
          have HC4 := Lib.hid hc4
          have HX4 := Lib.hid (HX2.out.trans (hx3.trans hx4))
          have HSP : Hid (Calls Try.prog 122 #[.pointer (some ⟨w3.heap.size + 1, 0, none⟩)] w4 (PairsRet w4 (gridP W H))) := by
            have h := gSpots_any (w3.heap.size + 1) a7 c7 A7 C7 (grl W H qk) W w4 (fun r hr => by rw [grl_len] at hr; exact grl_row hr) (by rw [grl_len]; omega) (by omega) (by rw [grl_len]; exact hc4) HS4.out.mat.mat
            rw [grl_len] at h
            exact h
          have hl4 := World.block_lt_of_cell? _ _ hc4
          clear hx3 hx4 ho7 hg4 HRC HX2
          go_wp2_with fail
          rw [← hw4]
          clear hw4
          refine HSP.out.mono ?_
          rintro e w5 ⟨a50, c50, rfl, hx5, ho5⟩
          rw [show (gridP W H).length = n by rw [gridP_len, HFQ.out, HGH.out, HVW.out]]
          have HO5 := Lib.hid ho5
          have HS5 := Lib.hid (HS4.out.rebase hx5)
          have HC5 := Lib.hid (hx5.cell hc4)
          have HX5 := Lib.hid (HX4.out.trans hx5)
          have hsz5 := hx5.size
          have hob : (Value.slice (some ⟨w3.heap.size, 0, none⟩) 0 0).ownBlock = some w3.heap.size := rfl
          have HNS : Hid (∀ k, WvS w2.heap.size w3.heap.size (.slice (some ⟨w3.heap.size, 0, none⟩) 0 0) w5 k → (w2.heap.size ≤ k ∧ k < w3.heap.size) ∨ k = w3.heap.size ∨ w5.heap.size ≤ k) := fun k hk => by
            rcases hk with h | h | h
            · exact .inl h
            · rw [hob, Option.some.injEq] at h
              exact .inr (.inl h.symm)
            · exact .inr (.inr h)
          clear hx5 ho5 HSP HS4 hc4 HC4 HX4 hob hl4
          generalize hS5 : WvS w2.heap.size w3.heap.size (.slice (some ⟨w3.heap.size, 0, none⟩) 0 0) w5 = S5 at *
          clear hS5
          generalize (Value.slice (some ⟨w3.heap.size, 0, none⟩) 0 0) = v80 at *
          have HT7 : Hid (∀ wr, Wrote S5 w5 wr → wr.cell? ⟨w3.heap.size + 1, 0, none⟩ = some (.slice a7 H c7) ∧ W0.Ext wr) := fun wr hw =>
            ⟨hw.cell HC5.out fun h => by have := HNS.out _ h; simp only at this; omega, HX5.out.wroteNew hw fun k h1 h2 => by have := HNS.out _ h2; omega⟩
          go_wp2
          go_loopw [8, 52] (fun v8 i wr => ∃ k : Nat, k ≤ n ∧ i = .int .i64 k ∧ Hid (WvSt S5 w2.heap.size w3.heap.size w5 a7 A7 C7 W H qk (wavL W (floTo qk mk k)) v8 wr)) (fun _ i _ => n - (intOf i).toNat)
          case atStart => exact ⟨0, Nat.zero_le _, rfl, HS5⟩
          case round =>
            clear HS5
            obtain ⟨k, hk, rfl, HS⟩ := hrel
            obtain ⟨wo, rfl⟩ : ∃ wo : World, wo = wr := ⟨_, rfl⟩
            by_cases hltk : k < n
            · have hltk' : (k : Int) < (n : Int) := by omega
              have hk0 : (0 : Int) ≤ (k : Int) := by omega
              have hkn : k < H * W := by have := HFQ.out; rw [HGH.out, HVW.out] at this; omega
              have hkW : k % W < W := Nat.mod_lt _ (by omega)
              have hkH : k / W < H := by rw [Nat.div_lt_iff_lt_mul (by omega)]; exact hkn
              have hKE : k / W * W + k % W = k := by rw [Nat.mul_comm]; exact Nat.div_add_mod _ _
              have hrow : RowP wo a50 (gridP W H) := (HO5.out.wrote HS.out.wrote fun q h1 h2 h3 => by have := HNS.out _ h3; omega).row
              obtain ⟨b, o, rfl, e0, e1⟩ := RowP.at hrow (show k < (gridP W H).length by rw [gridP_len]; exact hkn)
              rw [gridP_at hkn] at e0 e1
              obtain ⟨h7c, hxw⟩ := HT7.out wo HS.out.wrote
              have HXW := Lib.hid hxw
              have HAT : Hid (∀ w', wo.Ext w' → Calls Try.prog 121 #[.pointer (some ⟨w3.heap.size + 1, 0, none⟩), .agg #[.int .i64 ((k % W : Nat) : Int), .int .i64 ((k / W : Nat) : Int)]] w' fun e w'' => e = .returned (.int .i64 (qk.getD k 0)) ∧ w'.Ext w'') := fun w' hx => by
                have h := wvAt HS.out.mat h7c hkW hkH (by omega) (by omega) hx
                rw [hKE] at h
                exact h
              have HAK : Hid (∀ w', wo.Ext w' → Calls Try.prog 121 #[.pointer (some ⟨w.heap.size, 0, none⟩), .agg #[.int .i64 ((k % W : Nat) : Int), .int .i64 ((k / W : Nat) : Int)]] w' fun e w'' => e = .returned (.int .i64 (mk.getD k 0)) ∧ w'.Ext w'') := fun w' hx => by
                have h := HAM.out w' (k % W) (k / W) (hxw.trans hx) hkW hkH
                rw [hKE] at h
                exact h
              have HY : Hid (qk.getD k 0 ≠ 0 → wavL W (floTo qk mk (k + 1)) = wavL W (floTo qk mk k) ++ [(((k % W : Nat) : Int), ((k / W : Nat) : Int), mk.getD k 0)]) := fun h => by rw [floTo_yes h, wavL_push]
              have HNn : Hid (qk.getD k 0 = 0 → wavL W (floTo qk mk (k + 1)) = wavL W (floTo qk mk k)) := fun h => by rw [floTo_no h]
              have HLL : Hid ((wavL W (floTo qk mk k)).length ≤ k) := by show _ ≤ _; rw [wavL_len]; exact floTo_len _ _ _
              clear hrow hkW hkH hKE hxw h7c hkn
              generalize k % W = x at *
              generalize k / W = y at *
              generalize mk.getD k 0 = hz at *
              generalize qk.getD k 0 = z at *
              generalize wavL W (floTo qk mk k) = ws at *
              obtain ⟨w6, hw6⟩ : ∃ w6, w6 = wo.alloc (.cells #[.int .i64 x, .int .i64 y] 67) := ⟨_, rfl⟩
              have hx6 : wo.Ext w6 := by rw [hw6]; repeat (first | exact World.Ext.refl _ | exact ⟨_, rfl⟩ | assumption | refine World.Ext.over ?_ _ | refine World.Ext.drewN ?_ _ | refine World.Ext.drew ?_ | refine World.Ext.alloc ?_ _ | refine World.Ext.setCell ?_ (by simp) _)
              have HP10 : Hid (∀ w', w6.Ext w' → w'.cell? ⟨wo.heap.size, 0, none⟩ = some (.int .i64 x) ∧ w'.cell? ⟨wo.heap.size, 1, none⟩ = some (.int .i64 y)) := fun w' hx' => ⟨hx'.cell (by rw [hw6]; simp [go_sem]), hx'.cell (by rw [hw6]; simp [go_sem])⟩
              have HX6 := Lib.hid hx6
              clear hx6
              go_wp2_with fail
              rw [← hw6]
              clear hw6 e0 e1
              refine (HAT.out w6 HX6.out).mono ?_
              rintro e w7 ⟨rfl, hx7⟩
              have HX7 := Lib.hid (HX6.out.trans hx7)
              obtain ⟨p0, p1⟩ := HP10.out w7 hx7
              have HS7 := Lib.hid (HS.out.ext HX7.out)
              have hne : some wo.heap.size ≠ u8.ownBlock := fun e => by have := (ownsRow_block HS.out.wv e.symm).2; omega
              clear hx7 HX6 HAT HS
              by_cases hz0 : z = 0
              · have HQ := Lib.hid (HNn.out hz0)
                clear HY HNn
                go_wp2
                go_roundw
                case rel => exact ⟨k + 1, by omega, by go_num, by rw [HQ.out]; exact HS7⟩
                case measure => simp [intOf]; omega
              · have HQ := Lib.hid (HY.out hz0)
                have hzb : (z != 0) = true := by simpa using hz0
                have lp := World.block_lt_of_cell? _ _ p0
                obtain ⟨a8, c8, e8, -⟩ := HS7.out.wv.form
                have HOW : Hid (w7.ownsRow w3.heap.size 164 3 u8 ws.length ((flatD ws).map (Value.int .i64))) := HS7.out.wv
                have HBND : Hid (ws.length + 1 ≤ maxLen ∧ (ws.length + 1) * 24 ≤ 140737488355328) := by have := HLL.out; exact ⟨by unfold maxLen; omega, by omega⟩
                have HLO : Hid (∀ w', w7.Ext w' → w3.heap.size ≤ w'.heap.size) := fun w' hx => Nat.le_trans HS7.out.size hx.size
                have HD : Hid (∀ (wa w1 : World) (v' : Value), w7.Ext wa → wa.grownBy w1 u8.ownBlock → w1.ownsRow w3.heap.size 164 3 v' (ws.length + 1) ((flatD ws).map (Value.int .i64) ++ [.int .i64 x, .int .i64 y, .int .i64 hz]) → (v'.ownBlock = u8.ownBlock ∨ v'.ownBlock = some wa.heap.size) → WvSt S5 w2.heap.size w3.heap.size w5 a7 A7 C7 W H qk (wavL W (floTo qk mk (k + 1))) v' w1 ∧ w1.cell? ⟨wo.heap.size, 0, none⟩ = some (.int .i64 x) ∧ w1.cell? ⟨wo.heap.size, 1, none⟩ = some (.int .i64 y)) := fun wa w1 v' hx hg ho hat => by
                  rw [HQ.out]
                  exact ⟨HS7.out.push hx hg ho hat, hg.cell (hx.cell p0) hne, hg.cell (hx.cell p1) hne⟩
                clear HY HNn hz0 e8
                go_upto_region 9 with fail
                go_region_held3 (fun w' => w'.cell? ⟨wo.heap.size, 0, none⟩ = some (.int .i64 x) ∧ w'.cell? ⟨wo.heap.size, 1, none⟩ = some (.int .i64 y))
                  (first | exact k9 | (refine ⟨World.Ext.cell ?_ k8.1, World.Ext.cell ?_ k8.2⟩ <;> ((repeat (first | exact World.Ext.refl _ | exact ⟨_, rfl⟩ | assumption | refine World.Ext.over ?_ _ | refine World.Ext.drewN ?_ _ | refine World.Ext.drew ?_ | refine World.Ext.alloc ?_ _ | refine World.Ext.setCell ?_ ?_ _ | (simp; done))); done)) | (refine ⟨World.Ext.cell ?_ p0, World.Ext.cell ?_ p1⟩ <;> ((repeat (first | exact World.Ext.refl _ | exact ⟨_, rfl⟩ | assumption | refine World.Ext.over ?_ _ | refine World.Ext.drewN ?_ _ | refine World.Ext.drew ?_ | refine World.Ext.alloc ?_ _ | refine World.Ext.setCell ?_ ?_ _ | (simp; done))); done)))
                  (first
                    | (go_at_call 121; go_loud (refine (HAK.out _ (HX7.out.trans (by repeat (first | exact World.Ext.refl _ | exact ⟨_, rfl⟩ | assumption | refine World.Ext.over ?_ _ | refine World.Ext.drewN ?_ _ | refine World.Ext.drew ?_ | refine World.Ext.alloc ?_ _ | refine World.Ext.setCell ?_ (by simp) _)))).mono ?_; rintro e w8 ⟨rfl, hx8⟩; have E8 : w7.Ext w8 := World.Ext.trans (by repeat (first | exact World.Ext.refl _ | exact ⟨_, rfl⟩ | assumption | refine World.Ext.over ?_ _ | refine World.Ext.drewN ?_ _ | refine World.Ext.drew ?_ | refine World.Ext.alloc ?_ _ | refine World.Ext.setCell ?_ (by simp) _)) hx8; have k8 := And.intro (E8.cell p0) (E8.cell p1); clear hx8))
                    | (refine step_append_mine rfl _ _ 160 rfl w3.heap.size 164 iw (.agg #[.int .i64 0, .int .i64 0, .int .i64 0]) 3 24 Try.underlying160 hiw hw0 hw1 hw2 rfl (by decide) u8 ws.length _ rfl (World.ownsRow.ext HOW.out (E8.trans (by repeat (first | exact World.Ext.refl _ | exact ⟨_, rfl⟩ | assumption | refine World.Ext.over ?_ _ | refine World.Ext.drewN ?_ _ | refine World.Ext.drew ?_ | refine World.Ext.alloc ?_ _ | refine World.Ext.setCell ?_ (by simp) _)))) ⟨w8.heap.size, 0, none⟩ 1 1 [.int .i64 x, .int .i64 y, .int .i64 hz] rfl rfl (cell_three_at (by simp)) (by simp [Value.oneCell']) HBND.out.1 HBND.out.2 (HLO.out _ (E8.trans (by repeat (first | exact World.Ext.refl _ | exact ⟨_, rfl⟩ | assumption | refine World.Ext.over ?_ _ | refine World.Ext.drewN ?_ _ | refine World.Ext.drew ?_ | refine World.Ext.alloc ?_ _ | refine World.Ext.setCell ?_ (by simp) _)))) (fun v' w9 hown9 hgrow hat => ?_); obtain ⟨hs9, k9⟩ := HD.out _ _ _ (E8.trans (by repeat (first | exact World.Ext.refl _ | exact ⟨_, rfl⟩ | assumption | refine World.Ext.over ?_ _ | refine World.Ext.drewN ?_ _ | refine World.Ext.drew ?_ | refine World.Ext.alloc ?_ _ | refine World.Ext.setCell ?_ (by simp) _))) hgrow hown9 hat; have HS9 := Lib.hid hs9; clear hown9 hgrow hat hs9))
                clear p0 p1 lp k8 k9 hne HOW HD HS7 HAK
                go_wp2
                go_roundw
                case rel => exact ⟨k + 1, by omega, by go_num, HS9⟩
                case measure => simp [intOf]; omega
            · have hke : k = n := by omega
              subst hke
              have HSn := HS.out
              obtain ⟨wsn, hws⟩ : ∃ wsn, wsn = wavL W (floTo qk mk k) := ⟨_, rfl⟩
              have hwl : wsn.length = (floTo qk mk k).length := by rw [hws, wavL_len]
              have HAP : Hid (ap = !(wsn.length == 0)) := by show _ = _; rw [hwl]; exact HAN.out
              have HWE := Lib.hid hws
              rw [← hws] at HSn
              obtain ⟨a8, c8, e8, -⟩ := HSn.wv.form
              obtain ⟨h7c, hxw⟩ := HT7.out wo HS.out.wrote
              have HXW := Lib.hid hxw
              clear hws HAN hwl
              by_cases hl0 : wsn.length = 0
              · have hap : ap = false := by rw [HAP.out, hl0]; rfl
                subst hap
                rw [hl0] at e8
                subst e8
                have HFIN : Hid (w.Ext wo) := HX0.out.trans HXW.out
                show _
                clear HRR2 HIS HSn HS h7c hxw HAP HWE
                go_wp2
                go_ret2
                exact MatRet2.no HFIN.out
              · have hap : ap = true := by rw [HAP.out]; simpa using hl0
                subst hap
                have HRF := Lib.hid (HRR2.out (by simp))
                subst e8
                have HP0 : Hid (∃ j, FwP S5 w2.heap.size w3.heap.size w5 a7 A7 C7 W H mk res (3 * k) j (.slice a8 wsn.length c8) wo) := by
                  refine ⟨_, floStart qk mk, ?_, HIS.out, HRF.out, HFM.out, rfl⟩
                  have e : (floStart qk mk).2 = floTo qk mk k := by unfold floStart; rw [HN.out]
                  rw [e, ← HWE.out]
                  exact HSn
                have hlb : ((wsn.length : Int) == 0) = false := by rw [beq_eq_false_iff_ne]; omega
                clear HRR2 HRF HIS HSn HS h7c hxw HXW HAP HWE hl0 HFM
                have hBk : 3 * k ≤ 768 := by omega
                generalize 3 * k = B at *
                go_wp2
                go_loopw [8] (fun v wr => ∃ j, Hid (FwP S5 w2.heap.size w3.heap.size w5 a7 A7 C7 W H mk res B j v wr)) (fun v wr => FwM S5 w2.heap.size w3.heap.size w5 a7 A7 C7 W H mk res B v wr)
                case atStart => exact HP0.out
                case round =>
                  clear HP0 hlb
                  obtain ⟨n1, HP1⟩ := hrel
                  obtain ⟨m0, hm0, HP⟩ : ∃ j, Hid (FwM S5 w2.heap.size w3.heap.size w5 a7 A7 C7 W H mk res B u8 wr = j) ∧ Hid (FwP S5 w2.heap.size w3.heap.size w5 a7 A7 C7 W H mk res B j u8 wr) := ⟨_, rfl, leastN_at (p := fun j => FwP S5 w2.heap.size w3.heap.size w5 a7 A7 C7 W H mk res B j u8 wr) HP1.out⟩
                  clear HP1 n1
                  obtain ⟨s, hS, hI, hR, hB, hcnt⟩ := HP.out
                  have HS := Lib.hid hS
                  have HI := Lib.hid hI
                  have HR := Lib.hid hR
                  have HB := Lib.hid hB
                  have HCNT := Lib.hid hcnt
                  clear HP hS hI hR hcnt
                  obtain ⟨wp, rfl⟩ : ∃ wp : World, wp = wr := ⟨_, rfl⟩
                  have hsl : s.2.length ≤ 768 := by unfold floM at hB; omega
                  clear hB
                  have hwl := wavL_len W s.2
                  obtain ⟨h7c, hxw⟩ := HT7.out wp HS.out.wrote
                  have HXW := Lib.hid hxw
                  have l7 := World.block_lt_of_cell? _ _ h7c
                  clear hxw
                  rcases Nat.eq_zero_or_pos s.2.length with h0 | h0
                  · have hres := HR.out.stop h0
                    obtain ⟨a8', c8', e8, -⟩ := HS.out.wv.form
                    rw [hwl, h0] at e8
                    subst e8
                    have HRT : Hid (w.Ext wp ∧ OwnMat w.heap.size wp.heap.size wp a7 A7 C7 (grl W H res)) := ⟨HX0.out.trans HXW.out, by rw [← hres]; exact HS.out.mat.mono (by omega) HS.out.size⟩
                    have HFIN : Hid (MatRet2 w (grl W H res) true (.returned (.tuple #[.slice a7 H c7, .bool true])) wp) := by
                      exact ⟨a7, c7, A7, C7, by rw [HGL.out], HRT.out.1, HRT.out.2⟩
                    clear HS HI HR HB HCNT hm0 hres h0 hwl HRT HXW
                    go_wp2
                    go_ret2
                    exact HFIN.out
                  · obtain ⟨g8, c8', e8, hc8, hcells8⟩ := HS.out.rd (by omega)
                    have hbl := floBest_lt h0
                    have HBE : Hid (floBest s = minTo (heiL s.2) s.2.length) := by show _ = _; rw [floBest_hs]; unfold heiL; rw [List.length_map]
                    have HMT : Hid (∀ k, k ≤ s.2.length → minTo (heiL s.2) k < s.2.length) := fun k hk => by
                      have hhl := heiL_len s.2
                      have h := minTo_lt (heiL s.2) k (by omega) (by omega)
                      omega
                    have HMS : Hid (∀ k, minTo (heiL s.2) (k + 1) = if (heiL s.2).getD k 0 < (heiL s.2).getD (minTo (heiL s.2) k) 0 then k else minTo (heiL s.2) k) := fun k => rfl
                    have HC8 : Hid (∀ j, j < s.2.length → wp.cell? ⟨g8, j * 3, none⟩ = some (.int .i64 (((s.2.getD j (0, 0)).1 % W : Nat) : Int)) ∧ wp.cell? ⟨g8, j * 3 + 1, none⟩ = some (.int .i64 (((s.2.getD j (0, 0)).1 / W : Nat) : Int)) ∧ wp.cell? ⟨g8, j * 3 + 2, none⟩ = some (.int .i64 ((heiL s.2).getD j 0))) := fun j hj => by
                      have h := hcells8 j (by omega)
                      rw [wavL_at W s.2 hj] at h
                      have e : (heiL s.2).getD j 0 = (s.2.getD j (0, 0)).2 := getD_map_hei _ _
                      rw [e]
                      exact h
                    have HAT0 : Hid ((s.2.getD (floBest s) (0, 0)) = floAt s) := rfl
                    have HAH : Hid ((heiL s.2).getD (floBest s) 0 = (floAt s).2) := getD_map_hei _ _
                    rw [hwl] at e8 hc8
                    subst e8
                    clear hcells8 hwl
                    have HN0 := Lib.hid h0
                    clear h0
                    generalize hL : s.2.length = L at *
                    have HL := Lib.hid hL
                    clear hL
                    generalize hb : floBest s = b at *
                    have HBB := Lib.hid hb
                    clear hb
                    have hL0 : (0 : Int) < (L : Int) := by omega
                    have H7C := Lib.hid h7c
                    clear h7c l7
                    go_wp2
                    go_loopw [11, 75] (fun t i wr => ∃ k : Nat, k ≤ L ∧ i = .int .i64 k ∧ t = .int .i64 (minTo (heiL s.2) k : Nat) ∧ Hid (wp.Ext wr)) (fun _ i _ => L - (intOf i).toNat)
                    case atStart => exact ⟨0, Nat.zero_le _, rfl, rfl, .refl _⟩
                    case round =>
                      obtain ⟨k', hk', rfl, rfl, HX⟩ := hrel
                      obtain ⟨w6, rfl⟩ : ∃ w6 : World, w6 = wr := ⟨_, rfl⟩
                      by_cases hltk' : k' < L
                      · have hltk2 : (k' : Int) < (L : Int) := by omega
                        have hk0' : (0 : Int) ≤ (k' : Int) := by omega
                        have hmk := HMT.out k' hk'
                        have hms := HMS.out k'
                        obtain ⟨e0, e1, e2⟩ := HC8.out k' hltk'
                        have e0 := HX.out.cell e0
                        have e1 := HX.out.cell e1
                        have e2 := HX.out.cell e2
                        have f2 := HX.out.cell (HC8.out _ hmk).2.2
                        obtain ⟨w7, hw7⟩ : ∃ w7, w7 = w6.alloc (.cells #[.int .i64 (((s.2.getD k' (0, 0)).1 % W : Nat) : Int), .int .i64 (((s.2.getD k' (0, 0)).1 / W : Nat) : Int), .int .i64 ((heiL s.2).getD k' 0)] 164) := ⟨_, rfl⟩
                        have hx7 : w6.Ext w7 := by rw [hw7]; repeat (first | exact World.Ext.refl _ | exact ⟨_, rfl⟩ | assumption | refine World.Ext.over ?_ _ | refine World.Ext.drewN ?_ _ | refine World.Ext.drew ?_ | refine World.Ext.alloc ?_ _ | refine World.Ext.setCell ?_ (by simp) _)
                        have g2 : w7.cell? ⟨w6.heap.size, 2, none⟩ = some (.int .i64 ((heiL s.2).getD k' 0)) := by rw [hw7]; simp [go_sem]
                        have f2' := hx7.cell f2
                        have lg := World.block_lt_of_cell? _ _ g2
                        have HX7 : Hid (wp.Ext w7) := HX.out.trans hx7
                        by_cases hm : (heiL s.2).getD k' 0 < (heiL s.2).getD (minTo (heiL s.2) k') 0
                        · rw [if_pos hm] at hms
                          have HMM := Lib.hid hms
                          clear hms hx7
                          generalize minTo (heiL s.2) k' = mm at *
                          generalize (s.2.getD k' (0, 0)).1 % W = q1 at *
                          generalize (s.2.getD k' (0, 0)).1 / W = q2 at *
                          generalize (heiL s.2).getD k' 0 = z1 at *
                          generalize (heiL s.2).getD mm 0 = z2 at *
                          have hmk0 : (0 : Int) ≤ (mm : Int) := by omega
                          have hmk1 : (mm : Int) < (L : Int) := by omega
                          go_upto_region 18 with fail
                          rw [← hw7]
                          clear hw7 e0 e1 e2 f2
                          refine wp_region_over_lit (by kernel_rfl) (by kernel_rfl) ?_; (repeat (go_big_quiet_step (fail))); refine wpQuiet_nil ?_; rintro _ ⟨x1, rfl⟩
                          have HX8 : Hid (wp.Ext (w7.over x1)) := HX7.out.trans ⟨x1, rfl⟩
                          clear HX HX7 g2 f2' lg
                          go_wp2
                          go_roundw
                          case rel => exact ⟨k' + 1, by omega, by go_num, by rw [HMM.out], HX8⟩
                          case measure => simp [intOf]; omega
                        · rw [if_neg hm] at hms
                          have HMM := Lib.hid hms
                          clear hms hx7
                          generalize minTo (heiL s.2) k' = mm at *
                          generalize (s.2.getD k' (0, 0)).1 % W = q1 at *
                          generalize (s.2.getD k' (0, 0)).1 / W = q2 at *
                          generalize (heiL s.2).getD k' 0 = z1 at *
                          generalize (heiL s.2).getD mm 0 = z2 at *
                          have hmk0 : (0 : Int) ≤ (mm : Int) := by omega
                          have hmk1 : (mm : Int) < (L : Int) := by omega
                          go_upto_region 18 with fail
                          rw [← hw7]
                          clear hw7 e0 e1 e2 f2
                          refine wp_region_over_lit (by kernel_rfl) (by kernel_rfl) ?_; (repeat (go_big_quiet_step (fail))); refine wpQuiet_nil ?_; rintro _ ⟨x1, rfl⟩
                          have HX8 : Hid (wp.Ext (w7.over x1)) := HX7.out.trans ⟨x1, rfl⟩
                          clear HX HX7 g2 f2' lg
                          go_wp2
                          go_roundw
                          case rel => exact ⟨k' + 1, by omega, by go_num, by rw [HMM.out], HX8⟩
                          case measure => simp [intOf]; omega
                      · have hke : k' = L := by omega
                        have HMB : Hid (minTo (heiL s.2) k' = b) := by show _ = _; rw [hke]; exact HBE.out.symm
                        rw [HMB.out]
                        clear HMB hke HMT HMS HBE
                        obtain ⟨e0, e1, e2⟩ := HC8.out b hbl
                        rw [HAT0.out] at e0 e1
                        rw [HAH.out] at e2
                        have e0 := HX.out.cell e0
                        have e1 := HX.out.cell e1
                        have e2 := HX.out.cell e2
                        clear HC8
                        have HN1 : Hid (0 < s.2.length) := by show _ < _; rw [HL.out]; exact HN0.out
                        obtain ⟨pos, hpos⟩ : ∃ pos, pos = (floAt s).1 := ⟨_, rfl⟩
                        obtain ⟨hv, hhv⟩ : ∃ hv, hv = (floAt s).2 := ⟨_, rfl⟩
                        have hpn : pos < H * W := by rw [hpos]; exact (HI.out.waits _ (floAt_mem HN1.out)).1
                        have hkW : pos % W < W := Nat.mod_lt _ (by omega)
                        have hkH : pos / W < H := by rw [Nat.div_lt_iff_lt_mul (by omega)]; exact hpn
                        have HKE : Hid (pos / W * W + pos % W = pos) := by show _ = _; rw [Nat.mul_comm]; exact Nat.div_add_mod _ _
                        have HNB : Hid (nb4 W pos = [((((pos % W : Nat) : Int)), ((pos / W : Nat) : Int) - 1), (((pos % W : Nat) : Int) - 1, ((pos / W : Nat) : Int)), (((pos % W : Nat) : Int) + 1, ((pos / W : Nat) : Int)), (((pos % W : Nat) : Int), ((pos / W : Nat) : Int) + 1)]) := nb4_eq W pos
                        have HJ0 : Hid (floJ W H mk s 0 = (s.1, s.2.eraseIdx b)) := by show _ = _; rw [← HBB.out]; rfl
                        have HJS : Hid (∀ j, j < 4 → floJ W H mk s (j + 1) = floPut W H mk pos hv (floJ W H mk s j) ((nb4 W pos).getD j (0, 0))) := fun j hj => by rw [hpos, hhv]; exact floJ_succ W H mk s hj
                        have HJ4 : Hid (floJ W H mk s 4 = floStep W H mk s) := floJ_all W H mk s
                        have HIJ := Lib.hid (fun j => HI.out.j (nums := mk) HN1.out j)
                        rw [← hpos] at HIJ
                        have HNX := Lib.hid (HR.out.next HN1.out)
                        rw [← HJ4.out] at HNX
                        have HWE : Hid (wavL W (s.2.eraseIdx b) = (wavL W s.2).eraseIdx b) := wavL_erase _ _ _
                        rw [← hpos] at e0 e1
                        rw [← hhv] at e2
                        have HS6 := Lib.hid (HS.out.ext HX.out)
                        have HX6 := Lib.hid (HXW.out.trans HX.out)
                        have H7D := Lib.hid (HX.out.cell H7C.out)
                        clear hpos hhv HAT0 HAH HS HX HN0 HN1 hpn HXW H7C HR
                        generalize pos % W = x at *
                        generalize pos / W = y at *
                        obtain ⟨w7, hw7⟩ : ∃ w7, w7 = w6.alloc (.cells #[.int .i64 x, .int .i64 y, .int .i64 hv] 164) := ⟨_, rfl⟩
                        have hx7 : w6.Ext w7 := by rw [hw7]; repeat (first | exact World.Ext.refl _ | exact ⟨_, rfl⟩ | assumption | refine World.Ext.over ?_ _ | refine World.Ext.drewN ?_ _ | refine World.Ext.drew ?_ | refine World.Ext.alloc ?_ _ | refine World.Ext.setCell ?_ (by simp) _)
                        have g0 : w7.cell? ⟨w6.heap.size, 0, none⟩ = some (.int .i64 x) := by rw [hw7]; simp [go_sem]
                        have g1 : w7.cell? ⟨w6.heap.size, 1, none⟩ = some (.int .i64 y) := by rw [hw7]; simp [go_sem]
                        have g2 : w7.cell? ⟨w6.heap.size, 2, none⟩ = some (.int .i64 hv) := by rw [hw7]; simp [go_sem]
                        have HS7 := Lib.hid (HS6.out.ext hx7)
                        have hg8 : g8 < w6.heap.size := (ownsRow_block HS6.out.wv (k := g8) rfl).2
                        have hg8l : w3.heap.size ≤ g8 := (ownsRow_block HS6.out.wv (k := g8) rfl).1
                        have h7d := hx7.cell H7D.out
                        have hn7 : g8 ≠ w3.heap.size + 1 := fun e => by
                          have h1 := HNS.out _ (HS6.out.own g8 rfl)
                          omega
                        have HDL : Hid (Calls Try.prog 123 #[.slice (some ⟨g8, 0, none⟩) L c8', .int .i64 b, .int .i64 ((b : Int) + 1)] w7 fun e w' => e = .returned (.slice (some ⟨g8, 0, none⟩) (L - 1) c8') ∧ GrowD w3.heap.size 164 w' (.slice (some ⟨g8, 0, none⟩) (L - 1) c8') ((wavL W s.2).eraseIdx b) ∧ w7.grownBy w' (some g8)) :=
                          deleteW_any w3.heap.size g8 L c8' b (wavL W s.2) w7 (by rw [wavL_len, HL.out]) hbl (by omega) HS7.out.wv
                        have HX7 := Lib.hid (HX6.out.trans hx7)
                        have hsz7 : w6.heap.size < w7.heap.size := by rw [hw7]; simp
                        have hxs7 := HX7.out.size
                        have HG := Lib.hid (And.intro g0 (And.intro g1 (And.intro g2 h7d)))
                        have hb0' : (0 : Int) ≤ (b : Int) := by omega
                        have hbl' : (b : Int) < (L : Int) := by omega
                        have lw7 := World.block_lt_of_cell? _ _ g0
                        clear hx7 g0 g1 g2 h7d H7D HS6 HX6
                        go_wp2_with fail
                        rw [← hw7]
                        clear hw7 e0 e1 e2
                        refine HDL.out.mono ?_
                        rintro e w8 ⟨rfl, hgd, hgr⟩
                        have HS8 : Hid (WvSt S5 w2.heap.size w3.heap.size w5 a7 A7 C7 W H (floJ W H mk s 0).1 (wavL W (floJ W H mk s 0).2) (.slice (some ⟨g8, 0, none⟩) (L - 1) c8') w8) := by
                          rw [HJ0.out, HWE.out]
                          exact HS7.out.cut hgr hgd
                        have g0 := hgr.cell HG.out.1 (by simp only; intro e; cases e; omega)
                        have g1 := hgr.cell HG.out.2.1 (by simp only; intro e; cases e; omega)
                        have g2 := hgr.cell HG.out.2.2.1 (by simp only; intro e; cases e; omega)
                        have h7e := hgr.cell HG.out.2.2.2 (by simp only; intro e; cases e; omega)
                        have hsz8 := hgr.size
                        have HX8 : Hid (W0.Ext w8) := (HT7.out w8 HS8.out.wrote).2
                        clear hgd hgr HS7 HX7 HG HDL HWE HJ0
                        have lg := World.block_lt_of_cell? _ _ g0
                        have hx0' : (0 : Int) ≤ (x : Int) := by omega
                        have hy0' : (0 : Int) ≤ (y : Int) := by omega
                        have hxm : (x : Int) ≤ 64 := by omega
                        have hym : (y : Int) ≤ 64 := by omega
                        obtain ⟨w9, hw9⟩ : ∃ w9, w9 = w8.alloc (.cells #[.int .i64 x, .int .i64 ((y : Int) - 1), .int .i64 ((x : Int) - 1), .int .i64 y, .int .i64 ((x : Int) + 1), .int .i64 y, .int .i64 x, .int .i64 ((y : Int) + 1)] 67) := ⟨_, rfl⟩
                        have HR9 : Hid (RowP w9 (some ⟨w8.heap.size, 0, none⟩) (nb4 W pos)) := by rw [hw9]; exact row4 _ _ _ _ _ _ _ _ rfl HNB.out
                        have hx9 : w8.Ext w9 := by rw [hw9]; repeat (first | exact World.Ext.refl _ | exact ⟨_, rfl⟩ | assumption | refine World.Ext.over ?_ _ | refine World.Ext.drewN ?_ _ | refine World.Ext.drew ?_ | refine World.Ext.alloc ?_ _ | refine World.Ext.setCell ?_ (by simp) _)
                        have hsz9 : w9.heap.size = w8.heap.size + 1 := by rw [hw9]; simp
                        have HX9 := Lib.hid hx9
                        go_upto_region 24 with fail
                        rw [← hw9]
                        have HSb := Lib.hid (HS8.out.rebase hx9)
                        have hsz6 : w3.heap.size ≤ w6.heap.size := by omega
                        have HNJ : Hid (∀ k, WvS w2.heap.size w3.heap.size (.slice (some ⟨g8, 0, none⟩) (L - 1) c8') w9 k → (w2.heap.size ≤ k ∧ k < w3.heap.size) ∨ k = g8 ∨ w9.heap.size ≤ k) := fun k hk => by
                          rcases hk with h | h | h
                          · exact .inl h
                          · have e : some g8 = some k := h
                            rw [Option.some.injEq] at e
                            exact .inr (.inl e.symm)
                          · exact .inr (.inr h)
                        have h7f := hx9.cell h7e
                        have g0' := hx9.cell g0
                        have g1' := hx9.cell g1
                        have g2' := hx9.cell g2
                        have HF9 : Hid (∀ wr, Wrote (WvS w2.heap.size w3.heap.size (.slice (some ⟨g8, 0, none⟩) (L - 1) c8') w9) w9 wr → wr.cell? ⟨w3.heap.size + 1, 0, none⟩ = some (.slice a7 H c7) ∧ W0.Ext wr ∧ (wr.cell? ⟨w6.heap.size, 0, none⟩ = some (.int .i64 x) ∧ wr.cell? ⟨w6.heap.size, 1, none⟩ = some (.int .i64 y) ∧ wr.cell? ⟨w6.heap.size, 2, none⟩ = some (.int .i64 hv)) ∧ RowP wr (some ⟨w8.heap.size, 0, none⟩) (nb4 W pos)) := fun wr hw =>
                          ⟨hw.cell h7f fun h => by have := HNJ.out _ h; simp only at this; omega, (HX8.out.trans hx9).wroteNew hw fun k h1 h2 => by have := HNJ.out _ h2; omega,
                            ⟨hw.cell g0' fun h => by have := HNJ.out _ h; simp only at this; omega, hw.cell g1' fun h => by have := HNJ.out _ h; simp only at this; omega, hw.cell g2' fun h => by have := HNJ.out _ h; simp only at this; omega⟩,
                            fun i hi => by
                              obtain ⟨b2, o2, e2, hc2⟩ := HR9.out i hi
                              refine ⟨b2, o2, e2, hw.cell hc2 fun h => ?_⟩
                              simp only [Option.some.injEq, Addr.mk.injEq, and_true] at e2
                              have := HNJ.out _ h
                              simp only at this
                              omega⟩
                        clear hw9 h7e h7f g0 g1 g2 g0' g1' g2' lg hx9 hx0' hy0' hxm hym
                        generalize hvd : Value.slice (some ⟨g8, 0, none⟩) (L - 1) c8' = vd at *
                        clear hvd
                        generalize hSJ : WvS w2.heap.size w3.heap.size vd w9 = SJ at *
                        have HSJ := Lib.hid hSJ
                        clear hSJ
                        go_wp2
                        go_loopw [8, 133] (fun v i wr => ∃ j : Nat, j ≤ 4 ∧ i = .int .i64 j ∧ Hid (WvSt SJ w2.heap.size w3.heap.size w9 a7 A7 C7 W H (floJ W H mk s j).1 (wavL W (floJ W H mk s j).2) v wr)) (fun _ i _ => 4 - (intOf i).toNat)
                        case atStart => exact ⟨0, Nat.zero_le _, rfl, HSb⟩
                        case round =>
                          clear HSb
                          obtain ⟨j, hj, rfl, HS⟩ := hrel
                          obtain ⟨wq, rfl⟩ : ∃ wq : World, wq = wr := ⟨_, rfl⟩
                          by_cases hltj : j < 4
                          · have hltj' : (j : Int) < 4 := by omega
                            have hj0 : (0 : Int) ≤ (j : Int) := by omega
                            obtain ⟨h7c, hxw, hg3, hrow⟩ := HF9.out wq HS.out.wrote
                            obtain ⟨b2, o2, e2, c0, c1⟩ := hrow.at (show j < (nb4 W pos).length from hltj)
                            simp only [Option.some.injEq, Addr.mk.injEq, and_true] at e2
                            obtain ⟨rfl, rfl⟩ := e2
                            rw [Nat.zero_add] at c0 c1
                            have HV := Lib.hid (HJS.out j hltj)
                            have hqn := nbA_near (getD_mem (show j < (nb4 W pos).length from hltj))
                            simp only at hqn
                            generalize (nb4 W pos).getD j (0, 0) = d at c0 c1 HV hqn
                            obtain ⟨qx, qy⟩ := d
                            dsimp only at c0 c1 hqn
                            have HIV := Lib.hid (HIJ.out j)
                            obtain ⟨w10, hw10⟩ : ∃ w10, w10 = wq.alloc (.cells #[.int .i64 qx, .int .i64 qy] 67) := ⟨_, rfl⟩
                            have hx10 : wq.Ext w10 := by rw [hw10]; repeat (first | exact World.Ext.refl _ | exact ⟨_, rfl⟩ | assumption | refine World.Ext.over ?_ _ | refine World.Ext.drewN ?_ _ | refine World.Ext.drew ?_ | refine World.Ext.alloc ?_ _ | refine World.Ext.setCell ?_ (by simp) _)
                            have f0 : w10.cell? ⟨wq.heap.size, 0, none⟩ = some (.int .i64 qx) := by rw [hw10]; simp [go_sem]
                            have f1 : w10.cell? ⟨wq.heap.size, 1, none⟩ = some (.int .i64 qy) := by rw [hw10]; simp [go_sem]
                            have HHC := Lib.hid (wvHas (x := qx) (y := qy) HS.out.mat h7c (by omega) (by omega) (by omega) (by omega) hx10)
                            have HF := Lib.hid (And.intro f0 f1)
                            have HX10 := Lib.hid hx10
                            have H7 := Lib.hid h7c
                            have HW0 := Lib.hid hxw
                            have HG3 := Lib.hid hg3
                            have hsq := HS.out.size
                            clear hrow hx10 h7c hxw hg3
                            go_upto_region 26 with fail
                            rw [← hw10]
                            clear hw10 c0 c1
                            have lf := World.block_lt_of_cell? _ _ f0
                            go_wp2_with fail
                            refine HHC.out.mono ?_
                            rintro e w11 ⟨rfl, hx11⟩
                            have HX11 := Lib.hid (HX10.out.trans hx11)
                            have HS11 := Lib.hid (HS.out.ext HX11.out)
                            have hne1 : some wq.heap.size ≠ u8.ownBlock := fun e => by have := (ownsRow_block HS.out.wv e.symm).2; omega
                            have hne2 : some w6.heap.size ≠ u8.ownBlock := fun e => by
                              have h1 := HNJ.out _ (HS.out.own _ e.symm)
                              omega
                            have HNE := Lib.hid (And.intro hne1 hne2)
                            clear f0 f1 lf HHC hne1 hne2
                            cases hh : hasB W H qx qy
                            · have HQ : Hid (floJ W H mk s (j + 1) = floJ W H mk s j) := by
                                show _ = _
                                rw [HV.out]
                                exact floPut_out hh
                              clear hx11 hh HV HF HS
                              go_wp2
                              go_roundw
                              case rel => exact ⟨j + 1, by omega, by go_num, by rw [HQ.out]; exact HS11⟩
                              case measure => simp [intOf]; omega
                            · obtain ⟨q1, q2, q3, q4⟩ := hasB_true.1 hh
                              obtain ⟨X, rfl⟩ : ∃ X : Nat, qx = X := ⟨qx.toNat, by omega⟩
                              obtain ⟨Y, rfl⟩ : ∃ Y : Nat, qy = Y := ⟨qy.toNat, by omega⟩
                              have hXW : X < W := by omega
                              have hYH : Y < H := by omega
                              obtain ⟨p, hpN⟩ : ∃ p, p = Y * W + X := ⟨_, rfl⟩
                              have eN : ((Y : Int) * (W : Int) + (X : Int)).toNat = p := by rw [← Int.natCast_mul, ← Int.natCast_add, Int.toNat_natCast, hpN]
                              have hpW : p % W = X := by rw [hpN, Nat.mul_comm, Nat.mul_add_mod, Nat.mod_eq_of_lt hXW]
                              have hpH : p / W = Y := by rw [hpN, Nat.mul_comm, Nat.mul_add_div (by omega), Nat.div_eq_of_lt hXW, Nat.add_zero]
                              have HPY : Hid ((floJ W H mk s j).1.getD p 0 = 0 → floJ W H mk s (j + 1) = ((floJ W H mk s j).1.set p ((floJ W H mk s j).1.getD pos 0), (floJ W H mk s j).2 ++ [(p, mxJ hv (mk.getD p 0))])) := fun h => by
                                rw [HV.out]
                                have h1 := floPut_yes (nums := mk) (pos := pos) (h := hv) (s := floJ W H mk s j) (q := ((X : Int), (Y : Int))) hh (by simp only; rw [eN]; exact h)
                                simp only [eN] at h1
                                exact h1
                              have HPN : Hid ((floJ W H mk s j).1.getD p 0 ≠ 0 → floJ W H mk s (j + 1) = floJ W H mk s j) := fun h => by
                                rw [HV.out]
                                exact floPut_set (by simp only; rw [eN]; exact h)
                              have f0 := hx11.cell HF.out.1
                              have f1 := hx11.cell HF.out.2
                              have lf := World.block_lt_of_cell? _ _ f0
                              have HAP : Hid (∀ w', wq.Ext w' → Calls Try.prog 121 #[.pointer (some ⟨w3.heap.size + 1, 0, none⟩), .agg #[.int .i64 X, .int .i64 Y]] w' fun e w'' => e = .returned (.int .i64 ((floJ W H mk s j).1.getD p 0)) ∧ w'.Ext w'') := fun w' hx => by
                                have h := wvAt HS.out.mat H7.out hXW hYH (by omega) (by omega) hx
                                rw [← hpN] at h
                                exact h
                              have HAC : Hid (∀ w', wq.Ext w' → Calls Try.prog 121 #[.pointer (some ⟨w3.heap.size + 1, 0, none⟩), .agg #[.int .i64 x, .int .i64 y]] w' fun e w'' => e = .returned (.int .i64 ((floJ W H mk s j).1.getD pos 0)) ∧ w'.Ext w'') := fun w' hx => by
                                have h := wvAt HS.out.mat H7.out hkW hkH (by omega) (by omega) hx
                                rw [HKE.out] at h
                                exact h
                              have HAQ : Hid (∀ w', W0.Ext w' → Calls Try.prog 121 #[.pointer (some ⟨w.heap.size, 0, none⟩), .agg #[.int .i64 X, .int .i64 Y]] w' fun e w'' => e = .returned (.int .i64 (mk.getD p 0)) ∧ w'.Ext w'') := fun w' hx => by
                                have h := HAM.out w' X Y hx hXW hYH
                                rw [← hpN] at h
                                exact h
                              have HPE := Lib.hid hpN
                              have HF11 := Lib.hid (And.intro f0 f1)
                              clear hx11 hh HV HF q1 q2 q3 q4 eN hpN hqn
                              go_wp2_with fail
                              refine (HAP.out w11 HX11.out).mono ?_
                              rintro e w12 ⟨rfl, hx12⟩
                              have HX12 := Lib.hid (HX11.out.trans hx12)
                              have HS12 := Lib.hid (HS11.out.ext hx12)
                              have HPUT := Lib.hid (HS12.out.put hXW hYH)
                              rw [← HPE.out] at HPUT
                              obtain ⟨f0, f1⟩ := And.intro (hx12.cell HF11.out.1) (hx12.cell HF11.out.2)
                              have lf := World.block_lt_of_cell? _ _ f0
                              by_cases hz : (floJ W H mk s j).1.getD p 0 = 0
                              · have HQ := Lib.hid (HPY.out hz)
                                clear hx12 HPY HPN HS HS11 HF11
                                rw [hz]
                                obtain ⟨bb, oo, hA7, k2, fz, ⟨b1', o1', rfl, k1⟩, hset⟩ := HPUT.out
                                have hbb : w2.heap.size ≤ bb ∧ bb < w3.heap.size := by
                                  obtain ⟨b9, o9, e9, h1, h2, -⟩ := HS12.out.mat.rows Y (by rw [grl_len]; exact hYH) X (by rw [grl_row hYH]; exact hXW)
                                  rw [hA7] at e9
                                  simp only [Option.some.injEq, Addr.mk.injEq, and_true] at e9
                                  obtain ⟨rfl, rfl⟩ := e9
                                  exact ⟨h1, h2⟩
                                have h7c := HX12.out.cell H7.out
                                obtain ⟨g0, g1, g2⟩ := HG3.out
                                have g0 := HX12.out.cell g0
                                have g1 := HX12.out.cell g1
                                have g2 := HX12.out.cell g2
                                have l7 := World.block_lt_of_cell? _ _ h7c
                                have lg := World.block_lt_of_cell? _ _ g0
                                have lk1 := World.block_lt_of_cell? _ _ k1
                                have lk2 := World.block_lt_of_cell? _ _ k2
                                have hX0 : (0 : Int) ≤ (X : Int) := by omega
                                have hY0 : (0 : Int) ≤ (Y : Int) := by omega
                                have hX1 : (X : Int) < (W : Int) := by omega
                                have hY1 : (Y : Int) < (H : Int) := by omega
                                have HST : Hid (∀ x1, WvSt SJ w2.heap.size w3.heap.size w9 (some ⟨b1', o1', none⟩) A7 C7 W H ((floJ W H mk s j).1.set p ((floJ W H mk s j).1.getD pos 0)) (wavL W (floJ W H mk s j).2) u8 ((w12.over x1).setCell ⟨bb, oo + X, none⟩ (.int .i64 ((floJ W H mk s j).1.getD pos 0)))) := fun x1 => hset _ _ ⟨x1, rfl⟩
                                have fzx : ∀ x1 : World, (w12.over x1).frozen? ⟨bb, oo + X, none⟩ = false := fun x1 => by rw [World.Ext.frozen (w := w12) ⟨x1, rfl⟩ k2]; exact fz
                                have HK : Hid (∀ (x1 : World) (v : Value) (i : Nat) (u : Value) (q : Nat), (q = wq.heap.size ∨ q = w6.heap.size) → w12.cell? ⟨q, i, none⟩ = some u → ((w12.over x1).setCell ⟨bb, oo + X, none⟩ v).cell? ⟨q, i, none⟩ = some u) := fun x1 v i u q hq hc => by
                                  rw [World.cell?_of_block (w := w12.over x1) (Below.heap_setCell _ _ _ _ (by simp only; omega))]
                                  exact World.Ext.cell (w := w12) ⟨x1, rfl⟩ hc
                                have HKC := Lib.hid (And.intro f0 (And.intro f1 g2))
                                have HWP : Hid (wavL W (floJ W H mk s (j + 1)).2 = wavL W (floJ W H mk s j).2 ++ [((X : Int), (Y : Int), mxJ hv (mk.getD p 0))] ∧ (floJ W H mk s (j + 1)).1 = (floJ W H mk s j).1.set p ((floJ W H mk s j).1.getD pos 0)) := by
                                  rw [HQ.out]
                                  exact ⟨by rw [wavL_push, hpW, hpH], rfl⟩
                                have hml := (HIJ.out j).2.2
                                have hwl : (wavL W (floJ W H mk s j).2).length ≤ 768 := by rw [wavL_len]; have := HB.out; unfold floM at hml this; omega
                                have HWL := Lib.hid hwl
                                clear hset hA7 HPUT hz fz hpW hpH hml hwl HQ
                                generalize (floJ W H mk s j).1.getD pos 0 = mv at *
                                generalize mk.getD p 0 = nz at *
                                generalize wavL W (floJ W H mk s j).2 = ws at *
                                generalize (floJ W H mk s j).1.set p mv = l9 at *
                                go_upto_region 27 with fail
                                refine wp_region_over_tail 12 (by kernel_rfl) (by kernel_rfl) ?_; simp only [List.take_succ_cons, List.take_zero, List.drop_succ_cons, List.drop_zero]; (repeat (go_big_quiet_step ((go_at_call 121; exact Calls.over_of (HAC.out _ (HX12.out.trans ⟨_, rfl⟩)))))); refine wpQuiet_nil ?_; rintro _ ⟨x1, rfl⟩
                                have fz1 := fzx x1
                                have k3 := World.Ext.cell (w' := w12.over x1) ⟨x1, rfl⟩ k2
                                have HS13 := Lib.hid (HST.out x1)
                                have d0 := HK.out x1 (.int .i64 mv) _ _ _ (.inl rfl) HKC.out.1
                                have d1 := HK.out x1 (.int .i64 mv) _ _ _ (.inl rfl) HKC.out.2.1
                                have d2 := HK.out x1 (.int .i64 mv) _ _ _ (.inr rfl) HKC.out.2.2
                                clear HK HKC HST fzx k2 k1 g0 g1 g2 f0 f1 lf
                                go_upto_region 28 with fail
                                generalize (w12.over x1).setCell ⟨bb, oo + X, none⟩ (.int .i64 mv) = w13 at *
                                obtain ⟨-, hxw13, -, -⟩ := HF9.out w13 HS13.out.wrote
                                have HXW := Lib.hid hxw13
                                have HOW : Hid (w13.ownsRow w3.heap.size 164 3 u8 ws.length ((flatD ws).map (Value.int .i64))) := HS13.out.wv
                                have HBND : Hid (ws.length + 1 ≤ maxLen ∧ (ws.length + 1) * 24 ≤ 140737488355328) := by have := HWL.out; exact ⟨by unfold maxLen; omega, by omega⟩
                                have HLO : Hid (∀ w', w13.Ext w' → w3.heap.size ≤ w'.heap.size) := fun w' hx => Nat.le_trans HS13.out.size hx.size
                                obtain ⟨hne1, hne2⟩ := HNE.out
                                have hmx : mxJ hv nz = if nz < hv then hv else nz := by
                                  unfold mxJ
                                  split <;> split <;> omega
                                rw [hmx] at HWP
                                have HD : Hid (∀ (wa w1 : World) (v' : Value), w13.Ext wa → wa.grownBy w1 u8.ownBlock → w1.ownsRow w3.heap.size 164 3 v' (ws.length + 1) ((flatD ws).map (Value.int .i64) ++ [.int .i64 X, .int .i64 Y, .int .i64 (if nz < hv then hv else nz)]) → (v'.ownBlock = u8.ownBlock ∨ v'.ownBlock = some wa.heap.size) → WvSt SJ w2.heap.size w3.heap.size w9 (some ⟨b1', o1', none⟩) A7 C7 W H (floJ W H mk s (j + 1)).1 (wavL W (floJ W H mk s (j + 1)).2) v' w1 ∧ w1.cell? ⟨wq.heap.size, 0, none⟩ = some (.int .i64 X) ∧ w1.cell? ⟨wq.heap.size, 1, none⟩ = some (.int .i64 Y) ∧ w1.cell? ⟨w6.heap.size, 2, none⟩ = some (.int .i64 hv)) := fun wa w1 v' hx hg ho hat => by
                                  rw [HWP.out.1, HWP.out.2]
                                  exact ⟨HS13.out.push hx hg ho hat, hg.cell (hx.cell d0) hne1, hg.cell (hx.cell d1) hne1, hg.cell (hx.cell d2) hne2⟩
                                have ld0 := World.block_lt_of_cell? _ _ d0
                                have ld2 := World.block_lt_of_cell? _ _ d2
                                clear hxw13 hmx HWP HS13 k3 fz1 l7 lg lk1 lk2
                                go_region_held3 (fun w' => w'.cell? ⟨wq.heap.size, 0, none⟩ = some (.int .i64 X) ∧ w'.cell? ⟨wq.heap.size, 1, none⟩ = some (.int .i64 Y) ∧ w'.cell? ⟨w6.heap.size, 2, none⟩ = some (.int .i64 hv))
                                  (first | exact k9 | (refine ⟨World.Ext.cell ?_ k8.1, World.Ext.cell ?_ k8.2.1, World.Ext.cell ?_ k8.2.2⟩ <;> ((repeat (first | exact World.Ext.refl _ | exact ⟨_, rfl⟩ | assumption | refine World.Ext.over ?_ _ | refine World.Ext.drewN ?_ _ | refine World.Ext.drew ?_ | refine World.Ext.alloc ?_ _ | refine World.Ext.setCell ?_ ?_ _ | (simp; done))); done)) | (refine ⟨World.Ext.cell ?_ d0, World.Ext.cell ?_ d1, World.Ext.cell ?_ d2⟩ <;> ((repeat (first | exact World.Ext.refl _ | exact ⟨_, rfl⟩ | assumption | refine World.Ext.over ?_ _ | refine World.Ext.drewN ?_ _ | refine World.Ext.drew ?_ | refine World.Ext.alloc ?_ _ | refine World.Ext.setCell ?_ ?_ _ | (simp; done))); done)))
                                  (first
                                    | (go_at_call 121; go_loud (refine (HAQ.out _ (HXW.out.trans (by repeat (first | exact World.Ext.refl _ | exact ⟨_, rfl⟩ | assumption | refine World.Ext.over ?_ _ | refine World.Ext.drewN ?_ _ | refine World.Ext.drew ?_ | refine World.Ext.alloc ?_ _ | refine World.Ext.setCell ?_ (by simp) _)))).mono ?_; rintro e w14 ⟨rfl, hx14⟩; have E8 : w13.Ext w14 := World.Ext.trans (by repeat (first | exact World.Ext.refl _ | exact ⟨_, rfl⟩ | assumption | refine World.Ext.over ?_ _ | refine World.Ext.drewN ?_ _ | refine World.Ext.drew ?_ | refine World.Ext.alloc ?_ _ | refine World.Ext.setCell ?_ (by simp) _)) hx14; have k8 := And.intro (E8.cell d0) (And.intro (E8.cell d1) (E8.cell d2)); clear hx14))
                                    | (refine step_append_mine rfl _ _ 160 rfl w3.heap.size 164 iw (.agg #[.int .i64 0, .int .i64 0, .int .i64 0]) 3 24 Try.underlying160 hiw hw0 hw1 hw2 rfl (by decide) u8 ws.length _ rfl (World.ownsRow.ext HOW.out (E8.trans (by repeat (first | exact World.Ext.refl _ | exact ⟨_, rfl⟩ | assumption | refine World.Ext.over ?_ _ | refine World.Ext.drewN ?_ _ | refine World.Ext.drew ?_ | refine World.Ext.alloc ?_ _ | refine World.Ext.setCell ?_ (by simp) _)))) ⟨w14.heap.size, 0, none⟩ 1 1 [.int .i64 X, .int .i64 Y, .int .i64 (if nz < hv then hv else nz)] rfl rfl (cell_three_at (by simp)) (by simp [Value.oneCell']) HBND.out.1 HBND.out.2 (HLO.out _ (E8.trans (by repeat (first | exact World.Ext.refl _ | exact ⟨_, rfl⟩ | assumption | refine World.Ext.over ?_ _ | refine World.Ext.drewN ?_ _ | refine World.Ext.drew ?_ | refine World.Ext.alloc ?_ _ | refine World.Ext.setCell ?_ (by simp) _)))) (fun v' w9 hown9 hgrow hat => ?_); obtain ⟨hs9, k9⟩ := HD.out _ _ _ (E8.trans (by repeat (first | exact World.Ext.refl _ | exact ⟨_, rfl⟩ | assumption | refine World.Ext.over ?_ _ | refine World.Ext.drewN ?_ _ | refine World.Ext.drew ?_ | refine World.Ext.alloc ?_ _ | refine World.Ext.setCell ?_ (by simp) _))) hgrow hown9 hat; have HS9 := Lib.hid hs9; clear hown9 hgrow hat hs9))
                                clear d0 d1 d2 ld0 ld2 k8 k9 hne1 hne2 HOW HD HAQ
                                go_wp2
                                go_roundw
                                case rel => exact ⟨j + 1, by omega, by go_num, HS9⟩
                                case measure => simp [intOf]; omega
                              · have HQ := Lib.hid (HPN.out hz)
                                have hzb : ((floJ W H mk s j).1.getD p 0 == 0) = false := by simpa using hz
                                clear hx12 HPY HPN HS HS11 hz HF11 HPUT
                                generalize (floJ W H mk s j).1.getD p 0 = z at *
                                go_wp2
                                go_roundw
                                case rel => exact ⟨j + 1, by omega, by go_num, by rw [HQ.out]; exact HS12⟩
                                case measure => simp [intOf]; omega
                          · have hj4 : j = 4 := by omega
                            subst hj4
                            have HJN : Hid (WvSt S5 w2.heap.size w3.heap.size w5 a7 A7 C7 W H (floJ W H mk s 4).1 (wavL W (floJ W H mk s 4).2) u8 wq) := by
                              have h := HS.out
                              rw [← HSJ.out] at h
                              exact HS8.out.join HX9.out h
                            have HPN : Hid (FwP S5 w2.heap.size w3.heap.size w5 a7 A7 C7 W H mk res B (floM (floJ W H mk s 4)) u8 wq) := ⟨_, HJN.out, (HIJ.out 4).1, HNX.out, Nat.le_trans (Nat.le_of_lt (HIJ.out 4).2.2) HB.out, rfl⟩
                            have hlt2 : floM (floJ W H mk s 4) < m0 := Nat.lt_of_lt_of_eq (HIJ.out 4).2.2 HCNT.out
                            have HLT := Lib.hid hlt2
                            clear hlt2 HS
                            go_wp2
                            go_roundw
                            case rel => exact ⟨_, HPN⟩
                            case measure => exact FwM_lt hm0.out HPN.out HLT.out
        · have fGH : ((G : Int) != (H : Int)) = false := by rw [hGH]; simp
          have fVW : ((V : Int) != (W : Int)) = true := by rw [bne_iff_ne]; omega
          have hsz : sz = false := by rw [HSZ.out, decide_eq_false hVW, Bool.and_false]
          subst hsz
          clear hGH hVW HSZ HLS HRR HRM HAM HFM HAN HFL HFQ HGL
          show Calls _ _ _ _ (MatRet2 w [] false)
          go_enter Try.func36, Try.ntmps36
          go_wp2_with fail
          rw [← hW0]
          clear hW0
          refine wp_region_over_lit (by kernel_rfl) (by kernel_rfl) ?_; (repeat (go_big_quiet_step ((first | (go_at_call 118; exact Calls.over_of (HI.out _ ⟨_, rfl⟩)) | (go_at_call 119; exact Calls.over_of (HJ.out _ ⟨_, rfl⟩)))))); refine wpQuiet_nil ?_; rintro _ ⟨x1, rfl⟩
          have HX1 : Hid (w.Ext (W0.over x1)) := HX0.out.trans ⟨x1, rfl⟩
          clear d0 l0 HI HJ c0' c1'
          go_wp2
          go_ret2
          exact MatRet2.no HX1.out
      · have fGH : ((G : Int) != (H : Int)) = true := by rw [bne_iff_ne]; omega
        have hsz : sz = false := by rw [HSZ.out, decide_eq_false hGH, Bool.false_and]
        subst hsz
        clear hGH HSZ HLS HRR HRM HAM HFM HAN HFL HFQ HGL
        show Calls _ _ _ _ (MatRet2 w [] false)
        go_enter Try.func36, Try.ntmps36
        go_wp2_with fail
        rw [← hW0]
        clear hW0
        refine wp_region_over_lit (by kernel_rfl) (by kernel_rfl) ?_; (repeat (go_big_quiet_step ((first | (go_at_call 118; exact Calls.over_of (HI.out _ ⟨_, rfl⟩)) | (go_at_call 119; exact Calls.over_of (HJ.out _ ⟨_, rfl⟩)))))); refine wpQuiet_nil ?_; rintro _ ⟨x1, rfl⟩
        have HX1 : Hid (w.Ext (W0.over x1)) := HX0.out.trans ⟨x1, rfl⟩
        clear d0 l0 HI HJ c0' c1'
        go_wp2
        go_ret2
        exact MatRet2.no HX1.out
end Go.Proofs.Ytldbabigjfkdlaa
