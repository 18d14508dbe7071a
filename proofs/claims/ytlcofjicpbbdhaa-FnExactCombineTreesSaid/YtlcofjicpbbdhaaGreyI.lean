/- Grey pictures that grow within a mask: the program's walk. -/
import Derived.Test.YtlcofjicpbbdhaaGreyC
namespace Go.Proofs.Ytlcofjicpbbdhaa
open Go Go.RowKit
/-- The table under way. -/
structure GrSt (lo hi : Nat) (wS : World) (a : Option Addr) (A : Nat → Option Addr) (C : Nat → Nat) (W H : Nat) (l : List Int) (wr : World) : Prop where
  wrote : Wrote (fun k => (lo ≤ k ∧ k < hi) ∨ wS.heap.size ≤ k) wS wr
  mat : OwnMat lo hi wr a A C (grl W H l)
  len : l.length = H * W
theorem GrSt.ext {lo hi : Nat} {wS : World} {a : Option Addr} {A : Nat → Option Addr} {C : Nat → Nat} {W H : Nat} {l : List Int} {wr w' : World} (h : GrSt lo hi wS a A C W H l wr) (hx : wr.Ext w') : GrSt lo hi wS a A C W H l w' := ⟨h.wrote.trans (hx.wrote _), h.mat.ext hx, h.len⟩
theorem GrSt.base {lo hi : Nat} {w2 wS : World} {a : Option Addr} {A : Nat → Option Addr} {C : Nat → Nat} {W H : Nat} {l l2 : List Int} {wr : World} (h2 : GrSt lo hi w2 a A C W H l2 wS) (h : GrSt lo hi wS a A C W H l wr) : GrSt lo hi w2 a A C W H l wr :=
  ⟨h2.wrote.trans (h.wrote.mono fun k _ hk => by have := h2.wrote.size; omega), h.mat, h.len⟩
theorem GrSt.put {lo hi : Nat} {wS : World} {a : Option Addr} {A : Nat → Option Addr} {C : Nat → Nat} {W H : Nat} {l : List Int} {wr : World} (h : GrSt lo hi wS a A C W H l wr) {x y : Nat} (hx : x < W) (hy : y < H) :
    ∃ b o, A y = some ⟨b, o, none⟩ ∧ wr.cell? ⟨b, o + x, none⟩ = some (.int .i64 (l.getD (y * W + x) 0)) ∧ wr.frozen? ⟨b, o + x, none⟩ = false ∧ (∃ b1 o1, a = some ⟨b1, o1, none⟩ ∧ wr.cell? ⟨b1, o1 + y, none⟩ = some (.slice (some ⟨b, o, none⟩) W (C y))) ∧
      ∀ wq z, wr.Ext wq → GrSt lo hi wS a A C W H (l.set (y * W + x) z) (wq.setCell ⟨b, o + x, none⟩ (.int .i64 z)) := by
  have hy' : y < (grl W H l).length := by rw [grl_len]; exact hy
  have hx' : x < ((grl W H l).getD y []).length := by rw [grl_row hy]; exact hx
  obtain ⟨b, o, hA, h1, h2, h3, h4⟩ := h.mat.rows y hy' x hx'
  obtain ⟨b1, o1, e1, -, -, e2, -⟩ := h.mat.outer y hy'
  rw [grl_at hx hy] at h3
  rw [grl_row hy, hA] at e2
  refine ⟨b, o, hA, h3, h4, ⟨b1, o1, e1, e2⟩, fun wq z hq => ?_⟩
  have hp := OwnMat.put (h.mat.ext hq) hy' hx' hA z
  rw [grl_set hx hy h.len] at hp
  exact ⟨(h.wrote.trans (hq.wrote _)).setCell (p := ⟨b, o + x, none⟩) (.inl ⟨h1, h2⟩) _, hp, by rw [List.length_set, h.len]⟩
def GrP (W H : Nat) (mask res : List Int) (lo hi : Nat) (wS : World) (a : Option Addr) (A : Nat → Option Addr) (C : Nat → Nat) (n : Nat) (k : Nat) (v : Value) (wr : World) : Prop :=
  ∃ l again, v = .bool again ∧ GrSt lo hi wS a A C W H l wr ∧ PasW (greC W H mask) (greV W H mask) n res again l ∧ Under mask l ∧ gap mask l + (if again then 1 else 0) = k
noncomputable def GrM (W H : Nat) (mask res : List Int) (lo hi : Nat) (wS : World) (a : Option Addr) (A : Nat → Option Addr) (C : Nat → Nat) (n : Nat) (v : Value) (wr : World) : Nat := leastN fun k => GrP W H mask res lo hi wS a A C n k v wr
theorem GrM_lt {W H : Nat} {mask res : List Int} {lo hi : Nat} {wS : World} {a : Option Addr} {A : Nat → Option Addr} {C : Nat → Nat} {n : Nat} {v v' : Value} {wr wr' : World} {k k' : Nat} (h0 : GrM W H mask res lo hi wS a A C n v wr = k) (h : GrP W H mask res lo hi wS a A C n k' v' wr') (hn : k' < k) :
    GrM W H mask res lo hi wS a A C n v' wr' < GrM W H mask res lo hi wS a A C n v wr := by
  rw [h0]
  exact Nat.lt_of_le_of_lt (leastN_le h) hn
theorem spotN {s : Int × Int} {x y : Nat} (h : s = ((x : Int), (y : Int))) : s.1 = x ∧ s.2 = y := by rw [h]; exact ⟨rfl, rfl⟩
set_option maxRecDepth 5000 in
set_option maxHeartbeats 3200000 in
theorem reconstructed_any (W H n : Nat) (a0 : Option Addr) (c0 : Nat) (A0 : Nat → Option Addr) (C0 : Nat → Nat) (m0 : List (List Int)) (a1 : Option Addr) (c1 : Nat) (A1 : Nat → Option Addr) (C1 : Nat → Nat) (m1 : List (List Int)) (res : List Int) (w : World)
    (hW1 : 1 ≤ W) (hH1 : 1 ≤ H) (hW : W ≤ 64) (hH : H ≤ 64) (hn : n = H * W) (h0 : m0.length = H) (h0r : ∀ r, r < H → (m0.getD r []).length = W) (h1 : m1.length = H) (h1r : ∀ r, r < H → (m1.getD r []).length = W)
    (hU : Under m1.flatten m0.flatten) (hm0 : MatAt w a0 A0 C0 m0) (hm1 : MatAt w a1 A1 C1 m1) (hR : PasR (greC W H m1.flatten) (greV W H m1.flatten) n m0.flatten res) :
    Calls Try.prog 151 #[.agg #[.slice a0 m0.length c0], .agg #[.slice a1 m1.length c1]] w (GreyRet w (grl W H res)) := by
  obtain ⟨W0, hW0⟩ : ∃ W0, W0 = ((w.alloc (.cells #[.slice a0 m0.length c0] 65)).alloc (.cells #[.slice a1 m1.length c1] 65)).alloc (.cells #[.slice none 0 0] 65) := ⟨_, rfl⟩
  have hx0 : w.Ext W0 := by rw [hW0]; repeat (first | exact World.Ext.refl _ | exact ⟨_, rfl⟩ | assumption | refine World.Ext.over ?_ _ | refine World.Ext.drewN ?_ _ | refine World.Ext.drew ?_ | refine World.Ext.alloc ?_ _ | refine World.Ext.setCell ?_ (by simp) _)
  have hsz0 : W0.heap.size = w.heap.size + 1 + 1 + 1 := by rw [hW0]; simp
  have d0 : W0.cell? ⟨w.heap.size, 0, none⟩ = some (.slice a0 m0.length c0) := by rw [hW0]; simp [go_sem]
  have d1 : W0.cell? ⟨w.heap.size + 1, 0, none⟩ = some (.slice a1 m1.length c1) := by rw [hW0]; simp [go_sem]
  have hone : One W0 (w.heap.size + 1 + 1) 65 (.slice none 0 0) := by rw [hW0]; exact One.new _ _ _ _ (by simp)
  have hr0 : (m0.getD 0 []).length = W := h0r 0 hH1
  have hr1 : (m1.getD 0 []).length = W := h1r 0 hH1
  have hgm : grd W H (flG W m0.flatten) = grl W H m0.flatten := rfl
  have HRM : Hid (Calls Try.prog 152 #[.pointer (some ⟨w.heap.size, 0, none⟩), .func (.func 154) #[.pointer (some ⟨w.heap.size, 0, none⟩)] #[]] W0 (GreyRet W0 (grl W H m0.flatten))) := by
    have h := remadeM_any w.heap.size w.heap.size a0 c0 A0 C0 m0 154 #[] (flG W m0.flatten) W0 (by omega) (by omega) (by omega) enters_gAt d0 (hm0.ext hx0)
      (fun w' hx x y hxW hyH => by
        rw [hr0] at hxW
        have hrow := h0r y (by omega)
        have hv : flG W m0.flatten x y = (m0.getD y []).getD x 0 := flat_at W m0 y x (fun r hr => h0r r (by omega)) hyH hxW
        rw [hv]
        exact gAt_any w.heap.size a0 c0 A0 C0 m0 x y w' hyH (by omega) (by omega) (by omega) (hx.cell d0) ((hm0.ext hx0).ext hx))
    rw [hr0, h0, hgm] at h
    exact h
  have HAM : Hid (∀ w' x y, W0.Ext w' → x < W → y < H → Calls Try.prog 154 #[.pointer (some ⟨w.heap.size + 1, 0, none⟩), .agg #[.int .i64 (x : Nat), .int .i64 (y : Nat)]] w' fun e w'' => e = .returned (.int .i64 (m1.flatten.getD (y * W + x) 0)) ∧ w'.Ext w'') := fun w' x y hx hxW hyH => by
    have hrow := h1r y hyH
    rw [flat_at W m1 y x (fun r hr => h1r r (by omega)) (by omega) hxW]
    exact gAt_any (w.heap.size + 1) a1 c1 A1 C1 m1 x y w' (by omega) (by omega) (by omega) (by omega) (hx.cell d1) ((hm1.ext hx0).ext hx)
  have HAR : Hid (∀ w' (x y : Nat), x < W → y < H → Calls Try.prog 208 #[.int .i64 x, .int .i64 y, .bool false] w' (PairsRet w' (nbA false ((x : Int), (y : Int))))) := fun w' x y h1 h2 => around_any x y false w' (by omega) (by omega)
  have HKL : Hid (m1.flatten.length = n) := by show _ = _; rw [flat_len W m1 (fun r hr => h1r r (by omega)), h1, hn, Nat.mul_comm]
  have HML : Hid (m0.flatten.length = n) := by show _ = _; rw [flat_len W m0 (fun r hr => h0r r (by omega)), h0, hn, Nat.mul_comm]
  have HX0 := Lib.hid hx0
  have HO := Lib.hid hone
  have HN := Lib.hid hn
  have HU := Lib.hid hU
  have HR := Lib.hid hR
  have hn4 : n ≤ 4096 := by rw [hn]; exact Nat.mul_le_mul hH hW
  have HGLN := Lib.hid (fun l => grl_len W H l)
  rw [h0, h1] at hW0
  rw [h0, h1]
  clear hx0 d0 d1 hone hgm hm0 hm1 hU hR hn h0r h1r hr0 hr1 h0 h1
  generalize m1.flatten = mask at *
  generalize m0.flatten = l0 at *
  go_enter Try.func151, Try.ntmps151
  go_wp2_with fail
  rw [← hW0]
  clear hW0
  refine HRM.out.mono ?_
  rintro e w1 ⟨a5, c5, A5, C5, rfl, hx1, ho5⟩
  rw [HGLN.out]
  obtain ⟨w2, hw2⟩ : ∃ w2, w2 = w1.alloc (.cells #[.slice a5 H c5] 65) := ⟨_, rfl⟩
  have hx2 : w1.Ext w2 := by rw [hw2]; repeat (first | exact World.Ext.refl _ | exact ⟨_, rfl⟩ | assumption | refine World.Ext.over ?_ _ | refine World.Ext.drewN ?_ _ | refine World.Ext.drew ?_ | refine World.Ext.alloc ?_ _ | refine World.Ext.setCell ?_ (by simp) _)
  have hsz2 : w2.heap.size = w1.heap.size + 1 := by rw [hw2]; simp
  have HP5 : Hid (w2.cell? ⟨w1.heap.size, 0, none⟩ = some (.slice a5 H c5)) := by rw [hw2]; show _ = _; simp [go_sem]
  have hsz1 := hx1.size
  have HX2 := Lib.hid (hx1.trans hx2)
  have HP0 : Hid (∃ k, GrP W H mask res W0.heap.size w1.heap.size w2 a5 A5 C5 n k (.bool true) w2) := ⟨_, l0, true, rfl, ⟨Wrote.refl _ _, ho5.ext hx2, by rw [HML.out, HN.out]⟩, HR.out, HU.out, rfl⟩
  clear hx1 hx2 ho5 HRM
  go_wp2
  rw [← hw2]
  clear hw2
  go_loopw [6] (fun v wr => ∃ k, Hid (GrP W H mask res W0.heap.size w1.heap.size w2 a5 A5 C5 n k v wr)) (fun v wr => GrM W H mask res W0.heap.size w1.heap.size w2 a5 A5 C5 n v wr)
  case atStart => exact HP0.out
  case round =>
    clear HP0
    obtain ⟨n1, HP1⟩ := hrel
    obtain ⟨k0, hk0, HP⟩ : ∃ k, Hid (GrM W H mask res W0.heap.size w1.heap.size w2 a5 A5 C5 n u6 wr = k) ∧ Hid (GrP W H mask res W0.heap.size w1.heap.size w2 a5 A5 C5 n k u6 wr) := ⟨_, rfl, leastN_at (p := fun k => GrP W H mask res W0.heap.size w1.heap.size w2 a5 A5 C5 n k u6 wr) HP1.out⟩
    clear HP1 n1
    obtain ⟨l, again, rfl, hS, hPW, hUl, hcnt⟩ := HP.out
    have HS := Lib.hid hS
    have HPW := Lib.hid hPW
    have HUL := Lib.hid hUl
    have HCNT := Lib.hid hcnt
    clear HP hS hPW hUl hcnt
    obtain ⟨wo, rfl⟩ : ∃ wo : World, wo = wr := ⟨_, rfl⟩
    have c5' := HS.out.wrote.cell HP5.out (by simp only; omega)
    have l5' := World.block_lt_of_cell? _ _ c5'
    have HXO : Hid (W0.Ext wo) := HX2.out.wroteNew HS.out.wrote fun k h1 h2 => by omega
    cases again
    · have hres := HPW.out.stop
      subst hres
      have hl4 : w.heap.size + 1 + 1 < W0.heap.size := by omega
      have hGL := HGLN.out l
      obtain ⟨r1, r2, r3, HRT⟩ := Res.storeM (.slice a5 H c5) (HX0.out.trans HXO.out) (by omega) (HO.out.ext HXO.out) hl4 (HS.out.mat.mono (Nat.le_refl _) (by have := HS.out.wrote.size; omega))
      have HGL := Lib.hid hGL
      clear HS HPW HUL HCNT hk0 HR HU hGL
      go_wp2
      exact bodyPost_ret (v := .agg #[.slice a5 H c5]) (by simp [results, Try.results151, go_sem, r3]) rfl ⟨a5, c5, A5, C5, by rw [HGL.out], HRT.out.1, HRT.out.2⟩
    · have HNX := Lib.hid HPW.out.next
      have HFL := Lib.hid ((gre_falls W H mask n (by rw [HKL.out])).to HUL.out n (Nat.le_refl _))
      have hN0 : pasTo (greC W H mask) (greV W H mask) l 0 = l ∧ tokTo (greC W H mask) (greV W H mask) l 0 = false := ⟨rfl, rfl⟩
      have HYES : Hid (∀ k, greC W H mask (pasTo (greC W H mask) (greV W H mask) l k) k = true → pasTo (greC W H mask) (greV W H mask) l (k + 1) = (pasTo (greC W H mask) (greV W H mask) l k).set k (greV W H mask (pasTo (greC W H mask) (greV W H mask) l k) k) ∧ tokTo (greC W H mask) (greV W H mask) l (k + 1) = true) := fun k h => pas_yes h
      have HNO : Hid (∀ k, greC W H mask (pasTo (greC W H mask) (greV W H mask) l k) k = false → pasTo (greC W H mask) (greV W H mask) l (k + 1) = pasTo (greC W H mask) (greV W H mask) l k ∧ tokTo (greC W H mask) (greV W H mask) l (k + 1) = tokTo (greC W H mask) (greV W H mask) l k) := fun k h => pas_no h
      have HSP : Hid (Calls Try.prog 156 #[.pointer (some ⟨w1.heap.size, 0, none⟩)] wo (PairsRet wo (gridP W H))) := by
        have h := gSpots_any w1.heap.size a5 c5 A5 C5 (grl W H l) W wo (fun r hr => by rw [grl_len] at hr; exact grl_row hr) (by rw [grl_len]; exact hH) hW (by rw [grl_len]; exact c5') HS.out.mat.mat
        rw [grl_len] at h
        exact h
      clear HPW
      generalize pasTo (greC W H mask) (greV W H mask) l = L at *
      generalize tokTo (greC W H mask) (greV W H mask) l = T at *
      go_wp2_with fail
      refine HSP.out.mono ?_
      rintro e w4 ⟨a15, c15, rfl, hx4, ho15⟩
      rw [show (gridP W H).length = n by rw [gridP_len, HN.out]]
      have HO15 := Lib.hid ho15
      have hsz4 := hx4.size
      have HS4 := Lib.hid (HS.out.ext hx4)
      have hszo := HS.out.wrote.size
      have HP54 := Lib.hid (hx4.cell c5')
      have HXO4 := Lib.hid (HXO.out.trans hx4)
      have HSL : Hid (GrSt W0.heap.size w1.heap.size w4 a5 A5 C5 W H (L 0) w4) := by
        show GrSt _ _ _ _ _ _ _ _ _ _
        rw [hN0.1]
        exact ⟨Wrote.refl _ _, HS4.out.mat, HS4.out.len⟩
      clear hx4 ho15 HSP HS c5' l5' HXO
      go_wp2
      go_loopw [6, 17] (fun v i wr => ∃ k : Nat, k ≤ n ∧ i = .int .i64 k ∧ v = .bool (T k) ∧ Hid (GrSt W0.heap.size w1.heap.size w4 a5 A5 C5 W H (L k) wr)) (fun _ i _ => n - (intOf i).toNat)
      case atStart => exact ⟨0, Nat.zero_le _, rfl, by rw [hN0.2], HSL⟩
      case round =>
        clear HSL hN0
        obtain ⟨k, hk, rfl, rfl, HS⟩ := hrel
        obtain ⟨w5, rfl⟩ : ∃ w5 : World, w5 = wr := ⟨_, rfl⟩
        by_cases hltk : k < n
        · have hltk' : (k : Int) < (n : Int) := by omega
          have hk0 : (0 : Int) ≤ (k : Int) := by omega
          have hkW : k % W < W := Nat.mod_lt _ (by omega)
          have hkH : k / W < H := by rw [Nat.div_lt_iff_lt_mul (by omega)]; have := HN.out; omega
          have HKE : Hid (k / W * W + k % W = k) := by show _ = _; rw [Nat.mul_comm]; exact Nat.div_add_mod _ _
          have hrow : RowP w5 a15 (gridP W H) := (HO15.out.wrote HS.out.wrote fun q h1 h2 h3 => by omega).row
          obtain ⟨b, o, rfl, e0, e1⟩ := RowP.at hrow (show k < (gridP W H).length by rw [gridP_len, ← HN.out]; exact hltk)
          rw [gridP_at (by rw [← HN.out]; exact hltk)] at e0 e1
          have HG : Hid (greV W H mask (L k) k = mnI (upTo W H (L k) ((L k).getD k 0) (nb4 W k)) (mask.getD k 0)) := rfl
          have HC : Hid (greC W H mask (L k) k = decide ((L k).getD k 0 < greV W H mask (L k) k)) := rfl
          have HY := Lib.hid (HYES.out k)
          have HNn := Lib.hid (HNO.out k)
          have HNB : Hid (nb4 W k = nbA false (((k % W : Nat) : Int), ((k / W : Nat) : Int))) := rfl
          have HXW : Hid (W0.Ext w5) := HXO4.out.wroteNew HS.out.wrote fun q h1 h2 => by omega
          have h5c := HS.out.wrote.cell HP54.out (by simp only; omega)
          clear hrow
          generalize hx : k % W = x at *
          generalize hy : k / W = y at *
          clear hx hy
          generalize greC W H mask (L k) k = tc at *
          generalize greV W H mask (L k) k = gv at *
          generalize nb4 W k = Q at *
          generalize hLn : L (k + 1) = Ln at *
          generalize hTn : T (k + 1) = Tn at *
          have HLN := Lib.hid hLn
          have HTN := Lib.hid hTn
          clear hLn hTn
          generalize L k = Lk at *
          generalize T k = Tk at *
          -- facts on the world of the round
          have HATP : Hid (∀ w' (X Y : Nat), w5.Ext w' → X < W → Y < H → Calls Try.prog 154 #[.pointer (some ⟨w1.heap.size, 0, none⟩), .agg #[.int .i64 X, .int .i64 Y]] w' fun e w'' => e = .returned (.int .i64 (Lk.getD (Y * W + X) 0)) ∧ w'.Ext w'') := fun w' X Y hx' hXW hYH => by
            have h := gAt_any w1.heap.size a5 c5 A5 C5 (grl W H Lk) X Y w' (by rw [grl_len]; exact hYH) (by rw [grl_row hYH]; exact hXW) (by rw [grl_len]; omega) (by rw [grl_row hYH]; omega) (by rw [grl_len]; exact hx'.cell h5c) (HS.out.ext hx').mat.mat
            rw [grl_at hXW hYH] at h
            exact h
          have HHAS : Hid (∀ w' (X Y : Int), w5.Ext w' → Calls Try.prog 164 #[.pointer (some ⟨w1.heap.size, 0, none⟩), .agg #[.int .i64 X, .int .i64 Y]] w' fun e w'' => e = .returned (.bool (hasB W H X Y)) ∧ w'.Ext w'') := fun w' X Y hx' => by
            have h := gHas_any w1.heap.size a5 c5 A5 C5 (grl W H Lk) X Y w' (by rw [grl_len]; omega) (by rw [grl_len]; omega) (by rw [grl_row (by omega)]; omega) (by rw [grl_len]; exact hx'.cell h5c) (HS.out.ext hx').mat.mat
            rw [grl_len, grl_row (by omega)] at h
            exact h
          have HQ4 : Hid (Q.length = 4) := by show _ = _; rw [HNB.out]; rfl
          have HQN : Hid (∀ q, q ∈ Q → -1000 ≤ q.1 ∧ q.1 ≤ 1000 ∧ -1000 ≤ q.2 ∧ q.2 ≤ 1000) := fun q hq => by
            rw [HNB.out] at hq
            have h := nbA_near hq
            simp only at h
            omega
          have HVS : Hid (∀ j, j < 4 → upTo W H Lk (Lk.getD k 0) (Q.take (j + 1)) = if hasB W H (Q.getD j (0, 0)).1 (Q.getD j (0, 0)).2 then mxJ (upTo W H Lk (Lk.getD k 0) (Q.take j)) (nbV W Lk (Q.getD j (0, 0)).1 (Q.getD j (0, 0)).2) else upTo W H Lk (Lk.getD k 0) (Q.take j)) := fun j hj => by
            have hl4 := HQ4.out
            have e : Q.take (j + 1) = Q.take j ++ [Q.getD j (0, 0)] := by
              rw [List.take_succ_eq_append_getElem (by omega), List.getD_eq_getElem?_getD, List.getElem?_eq_getElem (by omega)]
              rfl
            rw [e, upTo_snoc]
          have HV0 : Hid (upTo W H Lk (Lk.getD k 0) (Q.take 0) = Lk.getD k 0) := rfl
          have HV4 : Hid (upTo W H Lk (Lk.getD k 0) (Q.take 4) = upTo W H Lk (Lk.getD k 0) Q) := by
            show _ = _
            rw [← HQ4.out, List.take_length]
          rw [← HV4.out] at HG
          have HNBV : Hid (∀ a b : Int, nbV W Lk a b = Lk.getD (b * W + a).toNat 0) := fun a b => rfl
          generalize hcv : (fun j => upTo W H Lk (Lk.getD k 0) (Q.take j)) = cv at *
          have hcv' : ∀ j, upTo W H Lk (Lk.getD k 0) (Q.take j) = cv j := fun j => congrFun hcv j
          simp only [hcv'] at HVS HV0 HG
          clear hcv hcv' HV4
          have HAT0 : Hid (∀ w', w5.Ext w' → Calls Try.prog 154 #[.pointer (some ⟨w1.heap.size, 0, none⟩), .agg #[.int .i64 x, .int .i64 y]] w' fun e w'' => e = .returned (.int .i64 (Lk.getD k 0)) ∧ w'.Ext w'') := fun w' hx' => by
            have h := HATP.out w' x y hx' hkW hkH
            rw [HKE.out] at h
            exact h
          have HAMK : Hid (∀ w', w5.Ext w' → Calls Try.prog 154 #[.pointer (some ⟨w.heap.size + 1, 0, none⟩), .agg #[.int .i64 x, .int .i64 y]] w' fun e w'' => e = .returned (.int .i64 (mask.getD k 0)) ∧ w'.Ext w'') := fun w' hx' => by
            have h := HAM.out w' x y (HXW.out.trans hx') hkW hkH
            rw [HKE.out] at h
            exact h
          generalize mask.getD k 0 = mk at *
          generalize hlk : Lk.getD k 0 = lk at *
          have HLK := Lib.hid hlk
          clear hlk
          obtain ⟨w6, hw6⟩ : ∃ w6, w6 = w5.alloc (.cells #[.int .i64 x, .int .i64 y] 36) := ⟨_, rfl⟩
          have hx6 : w5.Ext w6 := by rw [hw6]; repeat (first | exact World.Ext.refl _ | exact ⟨_, rfl⟩ | assumption | refine World.Ext.over ?_ _ | refine World.Ext.drewN ?_ _ | refine World.Ext.drew ?_ | refine World.Ext.alloc ?_ _ | refine World.Ext.setCell ?_ (by simp) _)
          have HSP8 : Hid (∀ w', w6.Ext w' → w'.cell? ⟨w5.heap.size, 0, none⟩ = some (.int .i64 x) ∧ w'.cell? ⟨w5.heap.size, 1, none⟩ = some (.int .i64 y)) := fun w' hx' => ⟨hx'.cell (by rw [hw6]; simp [go_sem]), hx'.cell (by rw [hw6]; simp [go_sem])⟩
          have HX6 := Lib.hid hx6
          have H5C := Lib.hid h5c
          clear hx6 h5c
          go_wp2_with fail
          rw [← hw6]
          clear hw6 e0 e1
          refine (HAT0.out w6 HX6.out).mono ?_
          rintro e w7 ⟨rfl, hx7⟩
          obtain ⟨s0, s1⟩ := HSP8.out w7 hx7
          have ls := World.block_lt_of_cell? _ _ s0
          have HX7 := Lib.hid hx7
          clear hx7
          go_wp2_with fail
          refine (HAR.out w7 x y hkW hkH).mono ?_
          rintro e w8 ⟨a8, c8, rfl, hx8, ho8⟩
          rw [← HNB.out, HQ4.out]
          have HR8 : Hid (RowP w8 a8 Q) := by
            have := ho8.row
            rw [← HNB.out] at this
            exact this
          have HX8 := Lib.hid (HX7.out.trans hx8)
          clear hx8 ho8 s0 s1 ls
          go_wp2
          go_loopw [9, 29] (fun v i wr => ∃ j : Nat, j ≤ 4 ∧ i = .int .i64 j ∧ v = .int .i64 (cv j) ∧ Hid (w8.Ext wr)) (fun _ i _ => 4 - (intOf i).toNat)
          case atStart => exact ⟨0, Nat.zero_le _, rfl, by rw [HV0.out], .refl _⟩
          case round =>
            obtain ⟨j, hj, rfl, rfl, HX⟩ := hrel
            obtain ⟨w9, rfl⟩ : ∃ w9 : World, w9 = wr := ⟨_, rfl⟩
            by_cases hltj : j < 4
            · have hltj' : (j : Int) < 4 := by omega
              have hj0 : (0 : Int) ≤ (j : Int) := by omega
              have hr9 : RowP w9 a8 Q := RowOf.ext HR8.out HX.out
              obtain ⟨b9, o9, rfl, e0, e1⟩ := hr9.at (show j < Q.length by rw [HQ4.out]; exact hltj)
              have HV := Lib.hid (HVS.out j hltj)
              have hqn := HQN.out _ (getD_mem (show j < Q.length by rw [HQ4.out]; exact hltj))
              generalize Q.getD j (0, 0) = q at e0 e1 HV hqn
              obtain ⟨qx, qy⟩ := q
              dsimp only at e0 e1 hqn
              obtain ⟨w10, hw10⟩ : ∃ w10, w10 = w9.alloc (.cells #[.int .i64 qx, .int .i64 qy] 36) := ⟨_, rfl⟩
              have hx10 : w9.Ext w10 := by rw [hw10]; repeat (first | exact World.Ext.refl _ | exact ⟨_, rfl⟩ | assumption | refine World.Ext.over ?_ _ | refine World.Ext.drewN ?_ _ | refine World.Ext.drew ?_ | refine World.Ext.alloc ?_ _ | refine World.Ext.setCell ?_ (by simp) _)
              have f0 : w10.cell? ⟨w9.heap.size, 0, none⟩ = some (.int .i64 qx) := by rw [hw10]; simp [go_sem]
              have f1 : w10.cell? ⟨w9.heap.size, 1, none⟩ = some (.int .i64 qy) := by rw [hw10]; simp [go_sem]
              have HF := Lib.hid (And.intro f0 f1)
              have HX10 := Lib.hid (HX.out.trans hx10)
              have HHC := Lib.hid (HHAS.out w10 qx qy (HX6.out.trans (HX8.out.trans HX10.out)))
              generalize hcn : cv (j + 1) = cn at *
              have HCN := Lib.hid hcn
              clear hcn hr9 hx10 f0 f1
              go_wp2_with fail
              rw [← hw10]
              clear hw10 e0 e1
              refine HHC.out.mono ?_
              rintro e w11 ⟨rfl, hx11⟩
              have HX11 := Lib.hid (HX10.out.trans hx11)
              cases hh : hasB W H qx qy
              · have HQ : Hid (cn = cv j) := by
                  have h := HV.out
                  simp only [hh, Bool.false_eq_true, if_false] at h
                  exact h
                clear hx11 hh HV HF
                go_wp2
                go_roundw
                case rel => exact ⟨j + 1, by omega, by go_num, by rw [HCN.out, HQ.out], HX11⟩
                case measure => simp [intOf]; omega
              · obtain ⟨q1, q2, q3, q4⟩ := hasB_true.1 hh
                obtain ⟨X, rfl⟩ : ∃ X : Nat, qx = X := ⟨qx.toNat, by omega⟩
                obtain ⟨Y, rfl⟩ : ∃ Y : Nat, qy = Y := ⟨qy.toNat, by omega⟩
                have eN : ((Y : Int) * (W : Int) + (X : Int)).toNat = Y * W + X := by rw [← Int.natCast_mul, ← Int.natCast_add, Int.toNat_natCast]
                have HQ : Hid (cn = mxJ (cv j) (Lk.getD (Y * W + X) 0)) := by
                  have h := HV.out
                  simp only [hh, if_true] at h
                  rw [HNBV.out, eN] at h
                  exact h
                have f0 := hx11.cell HF.out.1
                have f1 := hx11.cell HF.out.2
                have lf := World.block_lt_of_cell? _ _ f0
                have HAC := Lib.hid (HATP.out w11 X Y (HX6.out.trans (HX8.out.trans HX11.out)) (by omega) (by omega))
                clear hx11 hh HV HF eN q1 q2 q3 q4
                go_wp2_with fail
                refine HAC.out.mono ?_
                rintro e w12 ⟨rfl, hx12⟩
                have HX12 := Lib.hid (HX11.out.trans hx12)
                clear hx12 f0 f1 lf HAC
                generalize Lk.getD (Y * W + X) 0 = z at *
                by_cases hlt : cv j < z
                · have HQ3 : Hid (cn = z) := by
                    show _ = _
                    rw [HQ.out]
                    unfold mxJ
                    rw [if_pos hlt]
                  clear HQ
                  generalize cv j = cj at *
                  go_wp2
                  go_roundw
                  case rel => exact ⟨j + 1, by omega, by go_num, by rw [HCN.out, HQ3.out], HX12⟩
                  case measure => simp [intOf]; omega
                · have HQ3 : Hid (cn = cv j) := by
                    show _ = _
                    rw [HQ.out]
                    unfold mxJ
                    rw [if_neg hlt]
                  clear HQ
                  generalize cv j = cj at *
                  go_wp2
                  go_roundw
                  case rel => exact ⟨j + 1, by omega, by go_num, by rw [HCN.out, HQ3.out], HX12⟩
                  case measure => simp [intOf]; omega
            · have : j = 4 := by omega
              subst this
              obtain ⟨s0, s1⟩ := HSP8.out w9 (HX8.out.trans HX.out)
              have ls := World.block_lt_of_cell? _ _ s0
              have HX9 := Lib.hid (HX6.out.trans (HX8.out.trans HX.out))
              clear HVS HV0 HR8 HX HX8 HQN HHAS HATP HNBV HQ4
              generalize cv 4 = c4 at *
              go_wp2_with fail
              refine (HAMK.out w9 HX9.out).mono ?_
              rintro e w10 ⟨rfl, hx10⟩
              have HX10 := Lib.hid (HX9.out.trans hx10)
              replace s0 := hx10.cell s0
              replace s1 := hx10.cell s1
              replace ls := World.block_lt_of_cell? _ _ s0
              have HA0 := Lib.hid (HAT0.out w10 HX10.out)
              have hmc : (c4 < mk ∧ gv = c4) ∨ (mk < c4 ∧ gv = mk) ∨ (mk = c4 ∧ gv = c4) := by
                rw [HG.out]
                unfold mnI
                split <;> omega
              clear hx10 HX9 HAMK HAT0 HG
              rcases hmc with ⟨hmn, hgv⟩ | ⟨hmn, hgv⟩ | ⟨rfl, hgv⟩
              · subst hgv
                by_cases hlt : lk < gv
                · obtain ⟨q1, q2⟩ := HY.out (by rw [HC.out, decide_eq_true hlt])
                  have HQ := Lib.hid (And.intro q1 q2)
                  clear q1 q2 HY HNn HC
                  go_wp2_with fail
                  refine HA0.out.mono ?_
                  rintro e w11 ⟨rfl, hx11⟩
                  replace s0 := hx11.cell s0
                  replace s1 := hx11.cell s1
                  replace ls := World.block_lt_of_cell? _ _ s0
                  have hx5 := HX10.out.trans hx11
                  have h5 := hx5.cell H5C.out
                  obtain ⟨bb, oo, hA, t1, t2, ⟨b1, o1, t3, t4⟩, t5⟩ := (HS.out.ext hx5).put hkW hkH
                  rw [t3] at h5
                  rw [HKE.out] at t1 t5
                  have l5 := World.block_lt_of_cell? _ _ h5
                  have lt1 := World.block_lt_of_cell? _ _ t1
                  have lt4 := World.block_lt_of_cell? _ _ t4
                  have HNS : Hid (∀ x1, GrSt W0.heap.size w1.heap.size w4 a5 A5 C5 W H (Lk.set k gv) ((w11.over x1).setCell ⟨bb, oo + x, none⟩ (.int .i64 gv))) := fun x1 => t5 _ _ ⟨x1, rfl⟩
                  have hy' : (y : Int) < (H : Int) := by omega
                  have hx' : (x : Int) < (W : Int) := by omega
                  have hy0 : (0 : Int) ≤ (y : Int) := by omega
                  have hx0 : (0 : Int) ≤ (x : Int) := by omega
                  clear hx11 hx5 t5 HA0 hA t3
                  generalize Lk.getD k 0 = old at *
                  generalize C5 y = cy at *
                  go_wp2_with fail
                  refine wp_region_over_tail 10 (by kernel_rfl) (by kernel_rfl) ?_; simp only [List.take_succ_cons, List.take_zero, List.drop_succ_cons, List.drop_zero]; (repeat (go_big_quiet_step (fail))); refine wpQuiet_nil ?_; rintro _ ⟨x1, rfl⟩
                  clear s0 s1 ls h5 l5 t4 lt4
                  go_wp2
                  go_roundw
                  case rel => exact ⟨k + 1, by omega, by go_num, by rw [HTN.out, HQ.out.2], by rw [HLN.out, HQ.out.1]; exact HNS.out _⟩
                  case measure => simp [intOf]; omega
                · obtain ⟨q1, q2⟩ := HNn.out (by rw [HC.out, decide_eq_false hlt])
                  have HQ := Lib.hid (And.intro q1 q2)
                  clear q1 q2 HY HNn HC
                  go_wp2_with fail
                  refine HA0.out.mono ?_
                  rintro e w11 ⟨rfl, hx11⟩
                  have HS11 := Lib.hid (HS.out.ext (HX10.out.trans hx11))
                  clear hx11 s0 s1 ls HA0
                  go_wp2
                  go_roundw
                  case rel => exact ⟨k + 1, by omega, by go_num, by rw [HTN.out, HQ.out.2], by rw [HLN.out, HQ.out.1]; exact HS11⟩
                  case measure => simp [intOf]; omega
              · subst hgv
                by_cases hlt : lk < gv
                · obtain ⟨q1, q2⟩ := HY.out (by rw [HC.out, decide_eq_true hlt])
                  have HQ := Lib.hid (And.intro q1 q2)
                  clear q1 q2 HY HNn HC
                  go_wp2_with fail
                  refine HA0.out.mono ?_
                  rintro e w11 ⟨rfl, hx11⟩
                  replace s0 := hx11.cell s0
                  replace s1 := hx11.cell s1
                  replace ls := World.block_lt_of_cell? _ _ s0
                  have hx5 := HX10.out.trans hx11
                  have h5 := hx5.cell H5C.out
                  obtain ⟨bb, oo, hA, t1, t2, ⟨b1, o1, t3, t4⟩, t5⟩ := (HS.out.ext hx5).put hkW hkH
                  rw [t3] at h5
                  rw [HKE.out] at t1 t5
                  have l5 := World.block_lt_of_cell? _ _ h5
                  have lt1 := World.block_lt_of_cell? _ _ t1
                  have lt4 := World.block_lt_of_cell? _ _ t4
                  have HNS : Hid (∀ x1, GrSt W0.heap.size w1.heap.size w4 a5 A5 C5 W H (Lk.set k gv) ((w11.over x1).setCell ⟨bb, oo + x, none⟩ (.int .i64 gv))) := fun x1 => t5 _ _ ⟨x1, rfl⟩
                  have hy' : (y : Int) < (H : Int) := by omega
                  have hx' : (x : Int) < (W : Int) := by omega
                  have hy0 : (0 : Int) ≤ (y : Int) := by omega
                  have hx0 : (0 : Int) ≤ (x : Int) := by omega
                  clear hx11 hx5 t5 HA0 hA t3
                  generalize Lk.getD k 0 = old at *
                  generalize C5 y = cy at *
                  go_wp2_with fail
                  refine wp_region_over_tail 10 (by kernel_rfl) (by kernel_rfl) ?_; simp only [List.take_succ_cons, List.take_zero, List.drop_succ_cons, List.drop_zero]; (repeat (go_big_quiet_step (fail))); refine wpQuiet_nil ?_; rintro _ ⟨x1, rfl⟩
                  clear s0 s1 ls h5 l5 t4 lt4
                  go_wp2
                  go_roundw
                  case rel => exact ⟨k + 1, by omega, by go_num, by rw [HTN.out, HQ.out.2], by rw [HLN.out, HQ.out.1]; exact HNS.out _⟩
                  case measure => simp [intOf]; omega
                · obtain ⟨q1, q2⟩ := HNn.out (by rw [HC.out, decide_eq_false hlt])
                  have HQ := Lib.hid (And.intro q1 q2)
                  clear q1 q2 HY HNn HC
                  go_wp2_with fail
                  refine HA0.out.mono ?_
                  rintro e w11 ⟨rfl, hx11⟩
                  have HS11 := Lib.hid (HS.out.ext (HX10.out.trans hx11))
                  clear hx11 s0 s1 ls HA0
                  go_wp2
                  go_roundw
                  case rel => exact ⟨k + 1, by omega, by go_num, by rw [HTN.out, HQ.out.2], by rw [HLN.out, HQ.out.1]; exact HS11⟩
                  case measure => simp [intOf]; omega
              · subst hgv
                by_cases hlt : lk < gv
                · obtain ⟨q1, q2⟩ := HY.out (by rw [HC.out, decide_eq_true hlt])
                  have HQ := Lib.hid (And.intro q1 q2)
                  clear q1 q2 HY HNn HC
                  go_wp2_with fail
                  refine HA0.out.mono ?_
                  rintro e w11 ⟨rfl, hx11⟩
                  replace s0 := hx11.cell s0
                  replace s1 := hx11.cell s1
                  replace ls := World.block_lt_of_cell? _ _ s0
                  have hx5 := HX10.out.trans hx11
                  have h5 := hx5.cell H5C.out
                  obtain ⟨bb, oo, hA, t1, t2, ⟨b1, o1, t3, t4⟩, t5⟩ := (HS.out.ext hx5).put hkW hkH
                  rw [t3] at h5
                  rw [HKE.out] at t1 t5
                  have l5 := World.block_lt_of_cell? _ _ h5
                  have lt1 := World.block_lt_of_cell? _ _ t1
                  have lt4 := World.block_lt_of_cell? _ _ t4
                  have HNS : Hid (∀ x1, GrSt W0.heap.size w1.heap.size w4 a5 A5 C5 W H (Lk.set k gv) ((w11.over x1).setCell ⟨bb, oo + x, none⟩ (.int .i64 gv))) := fun x1 => t5 _ _ ⟨x1, rfl⟩
                  have hy' : (y : Int) < (H : Int) := by omega
                  have hx' : (x : Int) < (W : Int) := by omega
                  have hy0 : (0 : Int) ≤ (y : Int) := by omega
                  have hx0 : (0 : Int) ≤ (x : Int) := by omega
                  clear hx11 hx5 t5 HA0 hA t3
                  generalize Lk.getD k 0 = old at *
                  generalize C5 y = cy at *
                  go_wp2_with fail
                  refine wp_region_over_tail 10 (by kernel_rfl) (by kernel_rfl) ?_; simp only [List.take_succ_cons, List.take_zero, List.drop_succ_cons, List.drop_zero]; (repeat (go_big_quiet_step (fail))); refine wpQuiet_nil ?_; rintro _ ⟨x1, rfl⟩
                  clear s0 s1 ls h5 l5 t4 lt4
                  go_wp2
                  go_roundw
                  case rel => exact ⟨k + 1, by omega, by go_num, by rw [HTN.out, HQ.out.2], by rw [HLN.out, HQ.out.1]; exact HNS.out _⟩
                  case measure => simp [intOf]; omega
                · obtain ⟨q1, q2⟩ := HNn.out (by rw [HC.out, decide_eq_false hlt])
                  have HQ := Lib.hid (And.intro q1 q2)
                  clear q1 q2 HY HNn HC
                  go_wp2_with fail
                  refine HA0.out.mono ?_
                  rintro e w11 ⟨rfl, hx11⟩
                  have HS11 := Lib.hid (HS.out.ext (HX10.out.trans hx11))
                  clear hx11 s0 s1 ls HA0
                  go_wp2
                  go_roundw
                  case rel => exact ⟨k + 1, by omega, by go_num, by rw [HTN.out, HQ.out.2], by rw [HLN.out, HQ.out.1]; exact HS11⟩
                  case measure => simp [intOf]; omega
        · have : k = n := by omega
          subst this
          have HPN : Hid (GrP W H mask res W0.heap.size w1.heap.size w2 a5 A5 C5 k (gap mask (L k) + (if T k then 1 else 0)) (.bool (T k)) w5) := ⟨_, _, rfl, HS4.out.base HS.out, HNX.out, HFL.out.1, rfl⟩
          have hlt2 : gap mask (L k) + (if T k then 1 else 0) < k0 := by
            have h1 := HFL.out.2
            have h2 := HCNT.out
            simp only [if_true] at h2
            omega
          have HLT := Lib.hid hlt2
          clear hlt2 HS
          go_wp2
          go_roundw
          case rel => exact ⟨_, HPN⟩
          case measure => exact GrM_lt hk0.out HPN.out HLT.out
end Go.Proofs.Ytlcofjicpbbdhaa
