/- Grey pictures that grow within a mask: the reference's walk. -/
import Derived.Test.YtlcofjicpbbdhaaGreyK
namespace Go
open Go.RowKit
theorem GrowOf.raise {α : Type} {f : α → Value} {lo lo' : Nat} {e : TypeId} {w : World} {g n cap : Nat} {xs : List α} (h : GrowOf f lo e w (.slice (Option.some ⟨g, 0, Option.none⟩) n cap) xs) (hg : lo' ≤ g) : GrowOf f lo' e w (.slice (Option.some ⟨g, 0, Option.none⟩) n cap) xs := by
  obtain ⟨h1, h2⟩ := h
  refine ⟨h1, ?_⟩
  rcases h2 with h0 | ⟨g', c, cur, hv, -, r⟩
  · exact .inl h0
  · simp only [Value.slice.injEq, Option.some.injEq, Addr.mk.injEq] at hv
    obtain ⟨⟨rfl, -, -⟩, rfl, rfl⟩ := hv
    exact .inr ⟨g, cap, cur, rfl, hg, r⟩
end Go
namespace Go.Proofs.Ytlcofjicpbbdhaa
open Go Go.RowKit
/-- A list of the call's own that is written in place. -/
structure RcSt (wS : World) (g cap n : Nat) (l : List Int) (wr : World) : Prop where
  wrote : Wrote (fun k => k = g ∨ wS.heap.size ≤ k) wS wr
  grow : GrowOf (Value.int .i64) 0 2 wr (.slice (some ⟨g, 0, none⟩) n cap) l
  len : l.length = n
theorem RcSt.ext {wS : World} {g cap n : Nat} {l : List Int} {wr w' : World} (h : RcSt wS g cap n l wr) (hx : wr.Ext w') : RcSt wS g cap n l w' := ⟨h.wrote.trans (hx.wrote _), h.grow.ext hx, h.len⟩
theorem RcSt.at {wS : World} {g cap n : Nat} {l : List Int} {wr : World} (h : RcSt wS g cap n l wr) {i : Nat} (hi : i < n) :
    wr.cell? ⟨g, i, none⟩ = some (.int .i64 (l.getD i 0)) ∧ wr.frozen? ⟨g, i, none⟩ = false ∧ ∀ z, RcSt wS g cap n (l.set i z) (wr.setCell ⟨g, i, none⟩ (.int .i64 z)) := by
  obtain ⟨g', cap', hv, -, hc, hf, hset⟩ := GrowOf.atI 0 h.grow (i := i) (by rw [h.len]; exact hi)
  simp only [Value.slice.injEq, Option.some.injEq, Addr.mk.injEq] at hv
  obtain ⟨⟨rfl, -, -⟩, -, -⟩ := hv
  exact ⟨hc, hf, fun z => ⟨h.wrote.setCell (p := ⟨g, i, none⟩) (.inl rfl) _, hset z, by rw [List.length_set, h.len]⟩⟩
theorem RcSt.x {w wS : World} {g cap n : Nat} {l : List Int} {wr : World} (h : RcSt wS g cap n l wr) (hx : w.Ext wS) (hg : w.heap.size ≤ g) : w.Ext wr := hx.wroteNew h.wrote fun k hk hs => by have := hx.size; omega
theorem RcSt.start {wS : World} {lo g cap n : Nat} {l : List Int} (h : GrowOf (Value.int .i64) lo 2 wS (.slice (some ⟨g, 0, none⟩) n cap) l) (hl : l.length = n) : RcSt wS g cap n l wS := ⟨Wrote.refl _ _, h.raise (Nat.zero_le _), hl⟩
theorem set_self {l : List Int} {k : Nat} : l.set k (l.getD k 0) = l := by
  apply List.ext_getElem?
  intro i
  rw [List.getElem?_set]
  by_cases e : k = i
  · subst e
    rw [if_pos rfl]
    split
    · rename_i h; rw [List.getD_eq_getElem?_getD, List.getElem?_eq_getElem h]; rfl
    · rename_i h; rw [List.getElem?_eq_none (by omega)]
  · rw [if_neg e]
theorem wrap_small {n : Int} (h0 : 0 ≤ n) (h1 : n ≤ 9000000000) : wrap64 n = n := by
  unfold wrap64
  omega
def mxK (a b : Int) : Int := if b < a then a else b
theorem l00Min_any (a b : Int) (w : World) : Calls Try.prog 216 #[.int .i64 a, .int .i64 b] w fun e w' => e = .returned (.int .i64 (mnI a b)) ∧ w.Ext w' := by
  unfold mnI
  by_cases h : a < b
  · rw [if_pos h]
    go_enter Try.func216, Try.ntmps216
    go_wp2
    go_ret
    exact ⟨rfl, .refl _⟩
  · rw [if_neg h]
    go_enter Try.func216, Try.ntmps216
    go_wp2
    go_ret
    exact ⟨rfl, .refl _⟩
theorem l00MaxK_any (a b : Int) (w : World) : Calls Try.prog 147 #[.int .i64 a, .int .i64 b] w fun e w' => e = .returned (.int .i64 (mxK a b)) ∧ w.Ext w' := by
  unfold mxK
  by_cases h : b < a
  · rw [if_pos h]
    go_enter Try.func147, Try.ntmps147
    go_wp2
    go_ret
    exact ⟨rfl, .refl _⟩
  · rw [if_neg h]
    go_enter Try.func147, Try.ntmps147
    go_wp2
    go_ret
    exact ⟨rfl, .refl _⟩
def RcP (W H : Nat) (mask res : List Int) (wS : World) (g cap n : Nat) (k : Nat) (v : Value) (wr : World) : Prop :=
  ∃ l again, v = .bool again ∧ RcSt wS g cap n l wr ∧ PasW (greC W H mask) (greV W H mask) n res again l ∧ Under mask l ∧ gap mask l + (if again then 1 else 0) = k
noncomputable def RcM (W H : Nat) (mask res : List Int) (wS : World) (g cap n : Nat) (v : Value) (wr : World) : Nat := leastN fun k => RcP W H mask res wS g cap n k v wr
theorem RcM_lt {W H : Nat} {mask res : List Int} {wS : World} {g cap n : Nat} {v v' : Value} {wr wr' : World} {k k' : Nat} (h0 : RcM W H mask res wS g cap n v wr = k) (h : RcP W H mask res wS g cap n k' v' wr') (hn : k' < k) :
    RcM W H mask res wS g cap n v' wr' < RcM W H mask res wS g cap n v wr := by
  rw [h0]
  exact Nat.lt_of_le_of_lt (leastN_le h) hn
set_option maxRecDepth 5000 in
set_option maxHeartbeats 1600000 in
theorem l07Reach_any (W H n bm om cm bk ok ck : Nat) (marker mask res : List Int) (w : World) (hW1 : 1 ≤ W) (hH1 : 1 ≤ H) (hW : W ≤ 64) (hH : H ≤ 64) (hn : n = H * W) (hml : marker.length = n) (hkl : mask.length = n) (hU : Under mask marker)
    (hrm : RowI w (some ⟨bm, om, none⟩) marker) (hrk : RowI w (some ⟨bk, ok, none⟩) mask) (hR : PasR (greC W H mask) (greV W H mask) n marker res) :
    Calls Try.prog 149 #[.int .i64 W, .slice (some ⟨bm, om, none⟩) n cm, .slice (some ⟨bk, ok, none⟩) n ck] w fun e w' => ∃ g cap, e = .returned (.slice (some ⟨g, 0, none⟩) n cap) ∧ w.Ext w' ∧ GrowOf (Value.int .i64) w.heap.size 2 w' (.slice (some ⟨g, 0, none⟩) n cap) res := by
  have hn4 : n ≤ 4096 := by rw [hn]; exact Nat.mul_le_mul hH hW
  have hn0 : 0 < n := by rw [hn]; exact Nat.mul_pos hH1 hW1
  have HOW : Hid (Calls Try.prog 146 #[.slice (some ⟨bm, om, none⟩) n cm] w fun e w' => ∃ v, e = .returned v ∧ w.Ext w' ∧ GrowOf (Value.int .i64) w.heap.size 2 w' v marker) := by
    have h := l00Own_any bm om cm marker w (by omega) hrm
    rw [hml] at h
    exact h
  have HST := Lib.hid (fun w' => l03Steps_any false w')
  have HRK := Lib.hid hrk
  have HN := Lib.hid hn
  have HML := Lib.hid hml
  have HKL := Lib.hid hkl
  have HU := Lib.hid hU
  have HR := Lib.hid hR
  have HDIV : Hid (((n : Int)).tdiv (W : Int) = (H : Int)) := by
    show _ = _
    rw [hn, Int.natCast_mul, Int.mul_tdiv_cancel _ (by omega)]
  clear hrm hrk hn hml hkl hU hR
  go_enter Try.func149, Try.ntmps149
  go_wp2_with fail
  refine HOW.out.mono ?_
  rintro e w1 ⟨v, rfl, hx1, hg1⟩
  obtain ⟨g, cap, rfl, hglo, -, -, -⟩ := GrowOf.atI 0 hg1 (i := 0) (by rw [HML.out]; exact hn0)
  rw [HML.out] at hg1 ⊢
  have HG1 := Lib.hid hg1
  have HX1 := Lib.hid hx1
  have hgl := (hg1.block (k := g) rfl).2
  clear hx1 hg1
  go_wp2_with fail
  refine (HST.out w1).mono ?_
  rintro e w3 ⟨a3, c3, rfl, hx3, ho3⟩
  rw [show (stepL false).length = 4 from rfl]
  have HO3 := Lib.hid ho3
  have HX3 := Lib.hid (HX1.out.trans hx3)
  have hsz3 := hx3.size
  have HP0 : Hid (∃ k, RcP W H mask res w3 g cap n k (.bool true) w3) := ⟨_, marker, true, rfl, RcSt.start (HG1.out.ext hx3) HML.out, HR.out, HU.out, rfl⟩
  clear hx3 ho3 HST HOW HG1 HX1
  go_wp2
  go_loopw [9] (fun v wr => ∃ k, Hid (RcP W H mask res w3 g cap n k v wr)) (fun v wr => RcM W H mask res w3 g cap n v wr)
  case atStart => exact HP0.out
  case round =>
    clear HP0
    obtain ⟨n1, HP1⟩ := hrel
    obtain ⟨m0, hm0, HP⟩ : ∃ k, Hid (RcM W H mask res w3 g cap n u9 wr = k) ∧ Hid (RcP W H mask res w3 g cap n k u9 wr) := ⟨_, rfl, leastN_at (p := fun k => RcP W H mask res w3 g cap n k u9 wr) HP1.out⟩
    clear HP1 n1
    obtain ⟨l, again, rfl, hS, hPW, hUl, hcnt⟩ := HP.out
    have HS := Lib.hid hS
    have HPW := Lib.hid hPW
    have HUL := Lib.hid hUl
    have HCNT := Lib.hid hcnt
    clear HP hS hPW hUl hcnt
    obtain ⟨wo, rfl⟩ : ∃ wo : World, wo = wr := ⟨_, rfl⟩
    cases again
    · have hres := HPW.out.stop
      subst hres
      have HRT : Hid (w.Ext wo ∧ GrowOf (Value.int .i64) w.heap.size 2 wo (.slice (some ⟨g, 0, none⟩) n cap) l) := ⟨HS.out.x HX3.out hglo, HS.out.grow.raise hglo⟩
      clear HS HPW HUL HCNT hm0 HR HU HX3
      go_wp2
      go_ret
      exact ⟨g, cap, rfl, HRT.out⟩
    · have HNX := Lib.hid HPW.out.next
      have HFL := Lib.hid ((gre_falls W H mask n (by rw [HKL.out])).to HUL.out n (Nat.le_refl _))
      have HFK := Lib.hid (fun k (hk : k ≤ n) => ((gre_falls W H mask n (by rw [HKL.out])).to HUL.out k hk).1)
      have hN0 : pasTo (greC W H mask) (greV W H mask) l 0 = l ∧ tokTo (greC W H mask) (greV W H mask) l 0 = false := ⟨rfl, rfl⟩
      have HNXT : Hid (∀ k, k < n → pasTo (greC W H mask) (greV W H mask) l (k + 1) = (pasTo (greC W H mask) (greV W H mask) l k).set k (greV W H mask (pasTo (greC W H mask) (greV W H mask) l k) k) ∧
          tokTo (greC W H mask) (greV W H mask) l (k + 1) = (tokTo (greC W H mask) (greV W H mask) l k || decide ((pasTo (greC W H mask) (greV W H mask) l k).getD k 0 < greV W H mask (pasTo (greC W H mask) (greV W H mask) l k) k))) := fun k hk => by
        have hu := HFK.out k (by omega)
        have hge := greV_ge (W := W) (H := H) hu (k := k) (by rw [hu.1, HKL.out]; exact hk)
        cases hc : greC W H mask (pasTo (greC W H mask) (greV W H mask) l k) k
        · obtain ⟨e1, e2⟩ := pas_no (V := greV W H mask) hc
          have hc2 : ¬ (pasTo (greC W H mask) (greV W H mask) l k).getD k 0 < greV W H mask (pasTo (greC W H mask) (greV W H mask) l k) k := of_decide_eq_false hc
          rw [e1, e2, decide_eq_false hc2, Bool.or_false]
          refine ⟨?_, rfl⟩
          rw [show greV W H mask (pasTo (greC W H mask) (greV W H mask) l k) k = (pasTo (greC W H mask) (greV W H mask) l k).getD k 0 by omega, set_self]
        · obtain ⟨e1, e2⟩ := pas_yes (V := greV W H mask) hc
          have hc2 : (pasTo (greC W H mask) (greV W H mask) l k).getD k 0 < greV W H mask (pasTo (greC W H mask) (greV W H mask) l k) k := of_decide_eq_true hc
          rw [e1, e2, decide_eq_true hc2, Bool.or_true]
          exact ⟨rfl, rfl⟩
      clear HPW
      generalize pasTo (greC W H mask) (greV W H mask) l = L at *
      generalize tokTo (greC W H mask) (greV W H mask) l = T at *
      go_wp2
      go_loopw [9, 23] (fun v i wr => ∃ k : Nat, k ≤ n ∧ i = .int .i64 k ∧ v = .bool (T k) ∧ Hid (RcSt w3 g cap n (L k) wr)) (fun _ i _ => n - (intOf i).toNat)
      case atStart => exact ⟨0, Nat.zero_le _, rfl, by rw [hN0.2], by rw [hN0.1]; exact HS⟩
      case round =>
        clear HS hN0
        obtain ⟨k, hk, rfl, rfl, HS⟩ := hrel
        obtain ⟨w4, rfl⟩ : ∃ w4 : World, w4 = wr := ⟨_, rfl⟩
        by_cases hltk : k < n
        · have hltk' : (k : Int) < (n : Int) := by omega
          have hk0 : (0 : Int) ≤ (k : Int) := by omega
          have hkW : k % W < W := Nat.mod_lt _ (by omega)
          have hkH : k / W < H := by rw [Nat.div_lt_iff_lt_mul (by omega)]; have := HN.out; omega
          have tm : (k : Int) % (W : Int) = ((k % W : Nat) : Int) := by rw [← Int.natCast_emod]
          have td : wrap64 ((k : Int) / (W : Int)) = ((k / W : Nat) : Int) := by
            rw [← Int.natCast_ediv]
            exact wrap_small (Int.natCast_nonneg _) (Int.le_trans (Int.ofNat_le.2 (show k / W ≤ 64 from Nat.le_trans (Nat.le_of_lt hkH) hH)) (by decide))
          have HUk := Lib.hid (HFK.out k hk)
          have hkl : k < (L k).length := by rw [HUk.out.1, HKL.out]; exact hltk
          have HCV4 : Hid (capTo W H (L k) (mask.getD k 0) ((L k).getD k 0) ((nb4 W k).take 4) = greV W H mask (L k) k) := (greV_cap HUk.out hkl).symm
          have HCVG : Hid (∀ j, (L k).getD k 0 ≤ capTo W H (L k) (mask.getD k 0) ((L k).getD k 0) ((nb4 W k).take j)) := fun j => capTo_ge _ _ _ _ _ _
          have HQA : Hid (∀ j, j < 4 → (nb4 W k).getD j (0, 0) = (((k % W : Nat) : Int) + ((stepL false).getD j (0, 0)).1, ((k / W : Nat) : Int) + ((stepL false).getD j (0, 0)).2)) := fun j hj => by
            match j, hj with
            | 0, _ => rfl
            | 1, _ => rfl
            | 2, _ => rfl
            | 3, _ => rfl
          have HCVS : Hid (∀ j, j < 4 → capTo W H (L k) (mask.getD k 0) ((L k).getD k 0) ((nb4 W k).take (j + 1)) =
              if hasB W H ((nb4 W k).getD j (0, 0)).1 ((nb4 W k).getD j (0, 0)).2 then mxJ (capTo W H (L k) (mask.getD k 0) ((L k).getD k 0) ((nb4 W k).take j)) (mnI (nbV W (L k) ((nb4 W k).getD j (0, 0)).1 ((nb4 W k).getD j (0, 0)).2) (mask.getD k 0))
              else capTo W H (L k) (mask.getD k 0) ((L k).getD k 0) ((nb4 W k).take j)) := fun j hj => by
            have hl4 : (nb4 W k).length = 4 := rfl
            have e : (nb4 W k).take (j + 1) = (nb4 W k).take j ++ [(nb4 W k).getD j (0, 0)] := by
              rw [List.take_succ_eq_append_getElem (by omega), List.getD_eq_getElem?_getD, List.getElem?_eq_getElem (by omega)]
              rfl
            rw [e, capTo_snoc]
          have HNE : Hid (∀ j, j < 4 → hasB W H ((nb4 W k).getD j (0, 0)).1 ((nb4 W k).getD j (0, 0)).2 = true → (((nb4 W k).getD j (0, 0)).2 * W + ((nb4 W k).getD j (0, 0)).1).toNat ≠ k ∧ (((nb4 W k).getD j (0, 0)).2 * W + ((nb4 W k).getD j (0, 0)).1).toNat < n) := fun j hj hh =>
            ⟨nb4_ne (by omega) (getD_mem (show j < (nb4 W k).length from hj)) hh, by rw [HN.out]; exact idx_lt hh⟩
          have HNK := Lib.hid (HNXT.out k hltk)
          obtain ⟨bk', ok', ek, hck⟩ := HRK.out k (by rw [HKL.out]; exact hltk)
          simp only [Option.some.injEq, Addr.mk.injEq, and_true] at ek
          obtain ⟨rfl, rfl⟩ := ek
          have HCK : Hid (∀ wr, RcSt w3 g cap n (L k) wr ∨ w.Ext wr → w.Ext wr → wr.cell? ⟨bk, ok + k, none⟩ = some (.int .i64 (mask.getD k 0))) := fun wr _ hx => hx.cell hck
          have HS0 : Hid (RcSt w3 g cap n ((L k).set k (capTo W H (L k) (mask.getD k 0) ((L k).getD k 0) ((nb4 W k).take 0))) w4) := by
            show RcSt _ _ _ _ _ _
            rw [show capTo W H (L k) (mask.getD k 0) ((L k).getD k 0) ((nb4 W k).take 0) = (L k).getD k 0 from rfl, set_self]
            exact HS.out
          have hT0 : decide ((L k).getD k 0 < capTo W H (L k) (mask.getD k 0) ((L k).getD k 0) ((nb4 W k).take 0)) = false := decide_eq_false (by
            rw [show capTo W H (L k) (mask.getD k 0) ((L k).getD k 0) ((nb4 W k).take 0) = (L k).getD k 0 from rfl]
            omega)
          have HT0 := Lib.hid hT0
          clear hck HS HUk hT0
          generalize hTn : T (k + 1) = Tn at *
          generalize hLn : L (k + 1) = Ln at *
          have HTN := Lib.hid hTn
          have HLN := Lib.hid hLn
          clear hTn hLn
          generalize greV W H mask (L k) k = gv at *
          generalize (L k).getD k 0 = lk at *
          generalize mask.getD k 0 = mk at *
          have HNBV : Hid (∀ a b : Int, nbV W (L k) a b = (L k).getD (b * W + a).toNat 0) := fun a b => rfl
          generalize hcv : (fun j => capTo W H (L k) mk lk ((nb4 W k).take j)) = cv at *
          have hcv' : ∀ j, capTo W H (L k) mk lk ((nb4 W k).take j) = cv j := fun j => congrFun hcv j
          simp only [hcv'] at HCV4 HCVG HCVS HS0 HT0
          clear hcv hcv'
          have HQ2 : Hid (∀ j, j < 4 → ∀ sx sy, (stepL false).getD j (0, 0) = (sx, sy) → -1 ≤ sx ∧ sx ≤ 1 ∧ -1 ≤ sy ∧ sy ≤ 1) := fun j hj sx sy hs => by
            have := stepL_at false _ (getD_mem (show j < (stepL false).length from hj))
            rw [hs] at this
            exact this
          generalize nb4 W k = Q at *
          generalize hx : k % W = x at *
          generalize hy : k / W = y at *
          clear hx hy
          generalize L k = Lk at *
          generalize T k = Tk at *
          go_wp2
          rw [tm, td]
          clear tm td
          go_loopw [9, 34] (fun v i wr => ∃ j : Nat, j ≤ 4 ∧ i = .int .i64 j ∧ v = .bool (Tk || decide (lk < cv j)) ∧ Hid (RcSt w3 g cap n (Lk.set k (cv j)) wr)) (fun _ i _ => 4 - (intOf i).toNat)
          case atStart => exact ⟨0, Nat.zero_le _, rfl, by rw [HT0.out, Bool.or_false], HS0⟩
          case round =>
            clear HS0 HT0
            obtain ⟨j, hj, rfl, rfl, HS⟩ := hrel
            obtain ⟨w5, rfl⟩ : ∃ w5 : World, w5 = wr := ⟨_, rfl⟩
            by_cases hltj : j < 4
            · have hltj' : (j : Int) < 4 := by omega
              have hj0 : (0 : Int) ≤ (j : Int) := by omega
              have HRS : Hid (RowP w5 a3 (stepL false)) := (HO3.out.wrote HS.out.wrote fun k h1 h2 h => by omega).row
              obtain ⟨b, o, rfl, c0, c1⟩ := HRS.out.at (show j < (stepL false).length from hltj)
              have HA := Lib.hid (HQA.out j hltj)
              have HV := Lib.hid (HCVS.out j hltj)
              have HE := Lib.hid (HNE.out j hltj)
              have HG := Lib.hid (HCVG.out j)
              have HS2 := Lib.hid (fun sx sy h => HQ2.out j hltj sx sy h)
              generalize (stepL false).getD j (0, 0) = d at c0 c1 HA HS2
              obtain ⟨sx, sy⟩ := d
              dsimp only at c0 c1
              rw [show Q.getD j (0, 0) = ((x : Int) + sx, (y : Int) + sy) from HA.out] at HV HE
              obtain ⟨s1, s2, s3, s4⟩ := HS2.out sx sy rfl
              have HI1 : Hid (∀ w', Calls Try.prog 144 #[.int .i64 ((x : Int) + sx), .int .i64 0, .int .i64 ((W : Int) - 1)] w' fun e w'' => e = .returned (.bool (inB ((x : Int) + sx) 0 ((W : Int) - 1))) ∧ w'.Ext w'') := fun w' => l00In_any _ _ _ w' _ rfl
              have HI2 : Hid (∀ w', Calls Try.prog 144 #[.int .i64 ((y : Int) + sy), .int .i64 0, .int .i64 ((H : Int) - 1)] w' fun e w'' => e = .returned (.bool (inB ((y : Int) + sy) 0 ((H : Int) - 1))) ∧ w'.Ext w'') := fun w' => l00In_any _ _ _ w' _ rfl
              have HHB : Hid (hasB W H ((x : Int) + sx) ((y : Int) + sy) = (inB ((x : Int) + sx) 0 ((W : Int) - 1) && inB ((y : Int) + sy) 0 ((H : Int) - 1))) := rfl
              have hdiv : wrap64 ((n : Int) / (W : Int)) = (H : Int) := by
                have h := HDIV.out
                rw [Int.tdiv_eq_ediv_of_nonneg (by omega)] at h
                rw [h]
                exact wrap_small (by omega) (by omega)
              have HDV := Lib.hid hdiv
              clear hdiv
              generalize hcn : cv (j + 1) = cn at *
              have HCN := Lib.hid hcn
              clear hcn HRS HA HS2
              cases hb1 : inB ((x : Int) + sx) 0 ((W : Int) - 1)
              · have hh : hasB W H ((x : Int) + sx) ((y : Int) + sy) = false := by rw [HHB.out, hb1]; rfl
                rw [hb1] at HI1
                have HQ : Hid (cn = cv j) := by
                  have h := HV.out
                  simp only [hh, Bool.false_eq_true, if_false] at h
                  exact h
                clear hh HV HE HHB HI2 HDV hb1
                go_wp2_with fail
                refine (HI1.out _).mono ?_
                rintro e w6 ⟨rfl, hx6⟩
                have HS6 := Lib.hid (HS.out.ext hx6)
                clear hx6 HS c0 c1
                go_wp2
                go_roundw
                case rel => exact ⟨j + 1, by omega, by go_num, by rw [HCN.out, HQ.out], by rw [HCN.out, HQ.out]; exact HS6⟩
                case measure => simp [intOf]; omega
              · rw [hb1] at HI1
                cases hb2 : inB ((y : Int) + sy) 0 ((H : Int) - 1)
                · have hh : hasB W H ((x : Int) + sx) ((y : Int) + sy) = false := by rw [HHB.out, hb1, hb2]; rfl
                  rw [hb2] at HI2
                  have HQ : Hid (cn = cv j) := by
                    have h := HV.out
                    simp only [hh, Bool.false_eq_true, if_false] at h
                    exact h
                  clear hh HV HE HHB hb1 hb2
                  go_wp2_with fail
                  refine (HI1.out _).mono ?_
                  rintro e w6 ⟨rfl, hx6⟩
                  have HS6 := Lib.hid (HS.out.ext hx6)
                  clear hx6 HS c0 c1
                  go_wp2_with fail
                  rw [HDV.out, wrap_small (n := (H : Int) - 1) (by omega) (by omega)]
                  refine (HI2.out _).mono ?_
                  rintro e w7 ⟨rfl, hx7⟩
                  have HS7 := Lib.hid (HS6.out.ext hx7)
                  clear hx7 HS6
                  go_wp2
                  go_roundw
                  case rel => exact ⟨j + 1, by omega, by go_num, by rw [HCN.out, HQ.out], by rw [HCN.out, HQ.out]; exact HS7⟩
                  case measure => simp [intOf]; omega
                · have hh : hasB W H ((x : Int) + sx) ((y : Int) + sy) = true := by rw [HHB.out, hb1, hb2]; rfl
                  rw [hb2] at HI2
                  obtain ⟨q1, q2, q3, q4⟩ := hasB_true.1 hh
                  obtain ⟨X, hX⟩ : ∃ X : Nat, (x : Int) + sx = X := ⟨((x : Int) + sx).toNat, by omega⟩
                  obtain ⟨Y, hY⟩ : ∃ Y : Nat, (y : Int) + sy = Y := ⟨((y : Int) + sy).toNat, by omega⟩
                  obtain ⟨e1, e2⟩ := HE.out hh
                  simp only at e1 e2
                  rw [hX, hY] at e1 e2
                  have eN : ((Y : Int) * (W : Int) + (X : Int)).toNat = Y * W + X := by rw [← Int.natCast_mul, ← Int.natCast_add, Int.toNat_natCast]
                  rw [eN] at e1 e2
                  have HQ : Hid (cn = mxJ (cv j) (mnI (Lk.getD (Y * W + X) 0) mk)) := by
                    have h := HV.out
                    simp only [hh, if_true] at h
                    rw [HNBV.out, hX, hY, eN] at h
                    exact h
                  have HGN : Hid ((Lk.set k (cv j)).getD (Y * W + X) 0 = Lk.getD (Y * W + X) 0) := by
                    have hlk : k < Lk.length := by have := HS.out.len; rw [List.length_set] at this; omega
                    show _ = _
                    rw [getD_set _ _ _ _ hlk, if_neg e1]
                  have HGK : Hid ((Lk.set k (cv j)).getD k 0 = cv j) := by
                    have hlk : k < Lk.length := by have := HS.out.len; rw [List.length_set] at this; omega
                    show _ = _
                    rw [getD_set _ _ _ _ hlk, if_pos rfl]
                  rw [hX] at HI1
                  rw [hY] at HI2
                  clear hh HV HE HHB hb1 hb2 q1 q2 q3 q4
                  go_wp2_with fail
                  refine (HI1.out _).mono ?_
                  rintro e w6 ⟨rfl, hx6⟩
                  have HS6 := Lib.hid (HS.out.ext hx6)
                  clear hx6 HS c0 c1 HI1
                  go_wp2_with fail
                  rw [HDV.out, wrap_small (n := (H : Int) - 1) (by omega) (by omega)]
                  refine (HI2.out _).mono ?_
                  rintro e w7 ⟨rfl, hx7⟩
                  have HS7 := Lib.hid (HS6.out.ext hx7)
                  clear hx7 HS6 HI2
                  have hcI := (HS7.out.at e2).1
                  rw [HGN.out] at hcI
                  have hcM := HCK.out w7 (.inr (HS7.out.x HX3.out hglo)) (HS7.out.x HX3.out hglo)
                  have i1 : (Y : Int) * (W : Int) = ((Y * W : Nat) : Int) := by rw [Int.natCast_mul]
                  have n1 : 0 ≤ (Y : Int) * (W : Int) := by rw [i1]; omega
                  have n2 : (Y : Int) * (W : Int) + (X : Int) < (n : Int) := by rw [i1]; omega
                  have hcI' := hcI
                  rw [← eN] at hcI'
                  have HMN := Lib.hid (fun a b w' => l00Min_any a b w')
                  clear i1 hX hY
                  generalize Lk.getD (Y * W + X) 0 = z at *
                  go_wp2_with fail
                  refine wp_region_over_lit (by kernel_rfl) (by kernel_rfl) ?_; (repeat (go_big_quiet_step ((go_at_call 216; exact Calls.over_of (HMN.out _ _ _))))); refine wpQuiet_nil ?_; rintro _ ⟨x1, rfl⟩
                  have HS8 := Lib.hid (HS7.out.ext ⟨x1, rfl⟩)
                  clear HS7 hcI hcI' hcM n1 n2 e1 e2 eN HMN HGN
                  generalize w7.over x1 = w8 at *
                  generalize mnI z mk = mn at *
                  obtain ⟨hcK, hfK, hset⟩ := HS8.out.at hltk
                  rw [HGK.out] at hcK
                  by_cases hlt : cv j < mn
                  · have hge := HG.out
                    have hlt2 : lk < mn := by omega
                    have HNS : Hid (RcSt w3 g cap n (Lk.set k mn) (w8.setCell ⟨g, k, none⟩ (.int .i64 mn))) := by
                      have h := hset mn
                      rw [List.set_set] at h
                      exact h
                    have HQ3 : Hid (cn = mn) := by
                      show _ = _
                      rw [HQ.out]
                      unfold mxJ
                      rw [if_pos hlt]
                    have HFL2 : Hid ((Tk || decide (lk < mn)) = true) := by
                      show _ = _
                      rw [decide_eq_true hlt2, Bool.or_true]
                    clear HS8 hset hge hlt2 HG HQ HGK
                    generalize cv j = cj at *
                    go_wp2
                    go_roundw
                    case rel => exact ⟨j + 1, by omega, by go_num, by rw [HCN.out, HQ3.out, HFL2.out], by rw [HCN.out, HQ3.out]; exact HNS⟩
                    case measure => simp [intOf]; omega
                  · have HQ3 : Hid (cn = cv j) := by
                      show _ = _
                      rw [HQ.out]
                      unfold mxJ
                      rw [if_neg hlt]
                    clear hset HG HQ HGK hfK
                    generalize hcj : cv j = cj at *
                    go_wp2
                    go_roundw
                    case rel => exact ⟨j + 1, by omega, by go_num, by rw [HCN.out, HQ3.out], by rw [HCN.out, HQ3.out]; exact HS8⟩
                    case measure => simp [intOf]; omega
            · have : j = 4 := by omega
              subst this
              have HS2 : Hid (RcSt w3 g cap n Ln w5) := by
                show RcSt _ _ _ _ _ _
                rw [← HLN.out, HLN.out, HNK.out.1, ← HCV4.out]
                exact HS.out
              have HTT : Hid ((Tk || decide (lk < cv 4)) = Tn) := by
                show _ = _
                rw [HNK.out.2, HCV4.out]
              rw [HTT.out]
              clear HS
              go_wp2
              go_roundw
              case rel => exact ⟨k + 1, by omega, by go_num, by rw [HTN.out], by rw [HLN.out]; exact HS2⟩
              case measure => simp [intOf]; omega
        · have : k = n := by omega
          subst this
          have HPN : Hid (RcP W H mask res w3 g cap k (gap mask (L k) + (if T k then 1 else 0)) (.bool (T k)) w4) := ⟨_, _, rfl, HS.out, HNX.out, HFL.out.1, rfl⟩
          have hlt2 : gap mask (L k) + (if T k then 1 else 0) < m0 := by
            have h1 := HFL.out.2
            have h2 := HCNT.out
            simp only [if_true] at h2
            omega
          have HLT := Lib.hid hlt2
          clear hlt2 HS
          go_wp2
          go_roundw
          case rel => exact ⟨_, HPN⟩
          case measure => exact RcM_lt hm0.out HPN.out HLT.out
end Go.Proofs.Ytlcofjicpbbdhaa
