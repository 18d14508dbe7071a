/- Trees of grey pictures: what both sides return. -/
import Derived.Test.YtmmanehdmnkekaaNdC
namespace Go.Proofs.Ytmmanehdmnkekaa
open Go Go.RowKit
def GtRet2 (w : World) (R : GT) (ok : Bool) (e : Ending) (w' : World) : Prop :=
  ∃ a1 a2 a3 a4 c1 c2 c3 c4 A C, e = .returned (.tuple #[gtV a1 a2 a3 a4 c1 c2 c3 c4 R, .bool ok]) ∧ w.Ext w' ∧ OwnG w.heap.size w'.heap.size w' a1 a2 a3 a4 A C R
noncomputable def gtO (m : List (List Int)) : GT := if tableOk m 99 then gtR (m.getD 0 []).length m.length m.flatten else ([], [], [], [])
theorem GtRet2.no {w w' : World} {m : List (List Int)} (hx : w.Ext w') (hk : tableOk m 99 = false) : GtRet2 w (gtO m) (tableOk m 99) (.returned (.tuple #[.agg #[.slice none 0 0, .slice none 0 0, .slice none 0 0, .slice none 0 0], .bool false])) w' := by
  unfold gtO
  rw [hk]
  refine ⟨none, none, none, none, 0, 0, 0, 0, fun _ => none, fun _ => 0, rfl, hx, ?_⟩
  exact (OwnG.none w.heap.size w').mono (Nat.le_refl _) hx.size
theorem GtRet2.yes {w w' : World} {m : List (List Int)} {a1 a2 a3 a4 : Option Addr} {c1 c2 c3 c4 : Nat} {A : Nat → Option Addr} {C : Nat → Nat} (hk : tableOk m 99 = true) (hx : w.Ext w' ∧ OwnG w.heap.size w'.heap.size w' a1 a2 a3 a4 A C (gtR (m.getD 0 []).length m.length m.flatten)) : GtRet2 w (gtO m) (tableOk m 99) (.returned (.tuple #[gtV a1 a2 a3 a4 c1 c2 c3 c4 (gtR (m.getD 0 []).length m.length m.flatten), .bool true])) w' := by
  unfold gtO
  rw [hk]
  exact ⟨a1, a2, a3, a4, c1, c2, c3, c4, A, C, rfl, hx.1, hx.2⟩
theorem Res.store4 {w W1 : World} {p : Nat} {T : TypeId} {u v x y : Value} {lo : Nat} {a1 a2 a3 a4 : Option Addr} {A : Nat → Option Addr} {C : Nat → Nat} {R : GT} (s1 s2 s3 s4 : Value) (hX : w.Ext W1) (hp : w.heap.size ≤ p) (hq : Qua W1 p T u v x y) (hlo : p < lo) (ho : OwnG lo W1.heap.size W1 a1 a2 a3 a4 A C R) :
    Qua ((((W1.setCell ⟨p, 0, none⟩ s1).setCell ⟨p, 1, none⟩ s2).setCell ⟨p, 2, none⟩ s3).setCell ⟨p, 3, none⟩ s4) p T s1 s2 s3 s4 ∧
    Hid (w.Ext ((((W1.setCell ⟨p, 0, none⟩ s1).setCell ⟨p, 1, none⟩ s2).setCell ⟨p, 2, none⟩ s3).setCell ⟨p, 3, none⟩ s4) ∧
      OwnG w.heap.size ((((W1.setCell ⟨p, 0, none⟩ s1).setCell ⟨p, 1, none⟩ s2).setCell ⟨p, 2, none⟩ s3).setCell ⟨p, 3, none⟩ s4).heap.size ((((W1.setCell ⟨p, 0, none⟩ s1).setCell ⟨p, 1, none⟩ s2).setCell ⟨p, 2, none⟩ s3).setCell ⟨p, 3, none⟩ s4) a1 a2 a3 a4 A C R) := by
  have hW : Wrote (fun b => b = p) W1 ((((W1.setCell ⟨p, 0, none⟩ s1).setCell ⟨p, 1, none⟩ s2).setCell ⟨p, 2, none⟩ s3).setCell ⟨p, 3, none⟩ s4) :=
    ((((Wrote.refl (fun b => b = p) W1).setCell (p := ⟨p, 0, none⟩) rfl _).setCell (p := ⟨p, 1, none⟩) rfl _).setCell (p := ⟨p, 2, none⟩) rfl _).setCell (p := ⟨p, 3, none⟩) rfl _
  exact ⟨hq.put s1 s2 s3 s4, hX.wroteNew hW (fun k hk hs => by omega), (ho.wrote hW fun k h1 h2 h3 => by omega).mono (by omega) hW.size⟩
theorem GrAt.of {w : World} {p : Nat} {a : Option Addr} {c : Nat} {A : Nat → Option Addr} {C : Nat → Nat} {m : List (List Int)} (hok : tableOk m 99 = true) (hp : w.cell? ⟨p, 0, none⟩ = some (.slice a m.length c)) (hm : MatAt w a A C m) : GrAt w p (m.getD 0 []).length m.length m.flatten :=
  ⟨a, c, A, C, m, hp, hm, rfl, (tableOk_spec hok).2.2.2.2.1, rfl⟩
set_option maxRecDepth 5000 in
set_option maxHeartbeats 1600000 in
theorem implGreyTreeOf_any (a : Option Addr) (c : Nat) (A : Nat → Option Addr) (C : Nat → Nat) (m : List (List Int)) (w : World) (hb : MatBnd m) (hm : MatAt w a A C m) :
    Calls Try.prog 14 #[.agg #[.slice a m.length c]] w (GtRet2 w (gtO m) (tableOk m 99)) := by
  obtain ⟨W0, hW0⟩ : ∃ W0, W0 = (w.alloc (.cells #[.slice a m.length c] 26)).alloc (.cells #[.slice none 0 0, .slice none 0 0, .slice none 0 0, .slice none 0 0] 30) := ⟨_, rfl⟩
  have hx0 : w.Ext W0 := by rw [hW0]; repeat (first | exact World.Ext.refl _ | exact ⟨_, rfl⟩ | assumption | refine World.Ext.over ?_ _ | refine World.Ext.drewN ?_ _ | refine World.Ext.drew ?_ | refine World.Ext.alloc ?_ _ | refine World.Ext.setCell ?_ (by simp) _)
  have d0 : W0.cell? ⟨w.heap.size, 0, none⟩ = some (.slice a m.length c) := by rw [hW0]; simp [go_sem]
  have QR : Hid (Qua W0 (w.heap.size + 1) 30 (.slice none 0 0) (.slice none 0 0) (.slice none 0 0) (.slice none 0 0)) := by rw [hW0]; exact Qua.new _ _ _ _ _ _ _ (by simp)
  have hsz : W0.heap.size = w.heap.size + 2 := by rw [hW0]; simp
  have HSZ := Lib.hid hsz
  have HV := Lib.hid (validGrey_any a c A C m W0 hb.1 hb.2 (hm.ext hx0) _ rfl)
  have HX0 := Lib.hid hx0
  cases hk : tableOk m 99
  · rw [hk] at HV
    have HN := Lib.hid (fun w' (hx : w.Ext w') => GtRet2.no (m := m) hx hk)
    rw [hk] at HN
    clear hm hx0 hk hsz
    go_enter Try.func14, Try.ntmps14
    go_wp2_with fail
    rw [← hW0]
    clear hW0
    refine HV.out.mono ?_
    rintro e w1 ⟨rfl, hx1⟩
    have r := QR.out.ext hx1
    have r0 := r.cell0
    have r1 := r.cell1
    have r2 := r.cell2
    have r3 := r.cell3
    have f0 := r.free 0
    have f1 := r.free 1
    have f2 := r.free 2
    have f3 := r.free 3
    have hp := r.put (.slice none 0 0) (.slice none 0 0) (.slice none 0 0) (.slice none 0 0)
    have s0 := hp.cell0
    have s1 := hp.cell1
    have s2 := hp.cell2
    have s3 := hp.cell3
    have HXF := Lib.hid (HX0.out.trans hx1)
    have HLT := Lib.hid r.lt
    clear r hp hx1
    go_wp2
    refine bodyPost_ret (v := .tuple #[.agg #[.slice none 0 0, .slice none 0 0, .slice none 0 0, .slice none 0 0], .bool false]) (by simp [results, Try.results14, go_sem, s0, s1, s2, s3]) rfl (HN.out _ ?_)
    exact (((HXF.out.setCell (by simp) _).setCell (by simp) _).setCell (by simp) _).setCell (by simp) _
  · rw [hk] at HV
    have HYE : Hid (∀ (w' : World) (a1 a2 a3 a4 : Option Addr) (c1 c2 c3 c4 : Nat) (A : Nat → Option Addr) (C : Nat → Nat), (w.Ext w' ∧ OwnG w.heap.size w'.heap.size w' a1 a2 a3 a4 A C (gtR (m.getD 0 []).length m.length m.flatten)) → GtRet2 w (gtO m) true (.returned (.tuple #[gtV a1 a2 a3 a4 c1 c2 c3 c4 (gtR (m.getD 0 []).length m.length m.flatten), .bool true])) w') := fun w' a1 a2 a3 a4 c1 c2 c3 c4 A C h => by
      have h' := GtRet2.yes (c1 := c1) (c2 := c2) (c3 := c3) (c4 := c4) hk h
      rw [hk] at h'
      exact h'
    have HT : Hid (∀ w', W0.Ext w' → Calls Try.prog 76 #[.pointer (some ⟨w.heap.size, 0, none⟩)] w' (TreeRet w' (gtR (m.getD 0 []).length m.length m.flatten))) := fun w' hx => by
      have hcell := hx.cell d0
      have hmm := hm.ext (hx0.trans hx)
      obtain ⟨q1, q2, q3, q4, -, -⟩ := tableOk_spec hk; exact greyTree_any _ _ _ _ w' q3 q1 q4 q2 (GrAt.of hk hcell hmm) (grL_table hk)
    clear hm hx0 hk hsz
    generalize gtR (m.getD 0 []).length m.length m.flatten = R at *
    go_enter Try.func14, Try.ntmps14
    go_wp2_with fail
    rw [← hW0]
    clear hW0
    refine HV.out.mono ?_
    rintro e w1 ⟨rfl, hx1⟩
    have HX1 := Lib.hid hx1
    clear hx1
    go_wp2_with fail
    refine (HT.out w1 HX1.out).mono ?_
    rintro e w2 ⟨a1, a2, a3, a4, c1, c2, c3, c4, A', C', rfl, hx2, ho2⟩
    have r := QR.out.ext (HX1.out.trans hx2)
    have r0 := r.cell0
    have r1 := r.cell1
    have r2 := r.cell2
    have r3 := r.cell3
    have f0 := r.free 0
    have f1 := r.free 1
    have f2 := r.free 2
    have f3 := r.free 3
    obtain ⟨hp, HR⟩ := Res.store4 (.slice a1 R.1.length c1) (.slice a2 R.2.1.length c2) (.slice a3 R.2.2.1.length c3) (.slice a4 R.2.2.2.length c4) (HX0.out.trans (HX1.out.trans hx2)) (Nat.le_add_right _ 1) r (by have h1 := HX1.out.size; have h2 := HSZ.out; omega) ho2
    have s0 := hp.cell0
    have s1 := hp.cell1
    have s2 := hp.cell2
    have s3 := hp.cell3
    have HLT := Lib.hid r.lt
    have HE := Lib.hid (HYE.out _ _ _ _ _ c1 c2 c3 c4 _ _ HR.out)
    clear r hp hx2 ho2 HR
    unfold gtV at HE
    unfold gtV
    generalize R.1.length = n1 at *
    generalize R.2.1.length = n2 at *
    generalize R.2.2.1.length = n3 at *
    generalize R.2.2.2.length = n4 at *
    go_wp2
    exact bodyPost_ret (v := .tuple #[.agg #[.slice a1 n1 c1, .slice a2 n2 c2, .slice a3 n3 c3, .slice a4 n4 c4], .bool true]) (by simp [results, Try.results14, go_sem, s0, s1, s2, s3]) rfl HE.out
set_option maxRecDepth 5000 in
set_option maxHeartbeats 1600000 in
theorem specGreyTreeOf_any (a : Option Addr) (c : Nat) (A : Nat → Option Addr) (C : Nat → Nat) (m : List (List Int)) (w : World) (hb : MatBnd m) (hm : MatAt w a A C m) :
    Calls Try.prog 68 #[.agg #[.slice a m.length c]] w (GtRet2 w (gtO m) (tableOk m 99)) := by
  obtain ⟨W0, hW0⟩ : ∃ W0, W0 = (w.alloc (.cells #[.slice a m.length c] 26)).alloc (.cells #[.slice none 0 0, .slice none 0 0, .slice none 0 0, .slice none 0 0] 30) := ⟨_, rfl⟩
  have hx0 : w.Ext W0 := by rw [hW0]; repeat (first | exact World.Ext.refl _ | exact ⟨_, rfl⟩ | assumption | refine World.Ext.over ?_ _ | refine World.Ext.drewN ?_ _ | refine World.Ext.drew ?_ | refine World.Ext.alloc ?_ _ | refine World.Ext.setCell ?_ (by simp) _)
  have d0 : W0.cell? ⟨w.heap.size, 0, none⟩ = some (.slice a m.length c) := by rw [hW0]; simp [go_sem]
  have QR : Hid (Qua W0 (w.heap.size + 1) 30 (.slice none 0 0) (.slice none 0 0) (.slice none 0 0) (.slice none 0 0)) := by rw [hW0]; exact Qua.new _ _ _ _ _ _ _ (by simp)
  have hsz : W0.heap.size = w.heap.size + 2 := by rw [hW0]; simp
  have HSZ := Lib.hid hsz
  have HV := Lib.hid (l07Is_any w.heap.size a c A C m W0 hb.1 hb.2 d0 (hm.ext hx0) _ rfl)
  have HX0 := Lib.hid hx0
  cases hk : tableOk m 99
  · rw [hk] at HV
    have HN := Lib.hid (fun w' (hx : w.Ext w') => GtRet2.no (m := m) hx hk)
    rw [hk] at HN
    clear hm hx0 hk hsz
    go_enter Try.func68, Try.ntmps68
    go_wp2_with fail
    rw [← hW0]
    clear hW0
    refine HV.out.mono ?_
    rintro e w1 ⟨rfl, hx1⟩
    have r := QR.out.ext hx1
    have r0 := r.cell0
    have r1 := r.cell1
    have r2 := r.cell2
    have r3 := r.cell3
    have f0 := r.free 0
    have f1 := r.free 1
    have f2 := r.free 2
    have f3 := r.free 3
    have hp := r.put (.slice none 0 0) (.slice none 0 0) (.slice none 0 0) (.slice none 0 0)
    have s0 := hp.cell0
    have s1 := hp.cell1
    have s2 := hp.cell2
    have s3 := hp.cell3
    have HXF := Lib.hid (HX0.out.trans hx1)
    have HLT := Lib.hid r.lt
    clear r hp hx1
    go_wp2
    refine bodyPost_ret (v := .tuple #[.agg #[.slice none 0 0, .slice none 0 0, .slice none 0 0, .slice none 0 0], .bool false]) (by simp [results, Try.results68, go_sem, s0, s1, s2, s3]) rfl (HN.out _ ?_)
    exact (((HXF.out.setCell (by simp) _).setCell (by simp) _).setCell (by simp) _).setCell (by simp) _
  · rw [hk] at HV
    have HYE : Hid (∀ (w' : World) (a1 a2 a3 a4 : Option Addr) (c1 c2 c3 c4 : Nat) (A : Nat → Option Addr) (C : Nat → Nat), (w.Ext w' ∧ OwnG w.heap.size w'.heap.size w' a1 a2 a3 a4 A C (gtR (m.getD 0 []).length m.length m.flatten)) → GtRet2 w (gtO m) true (.returned (.tuple #[gtV a1 a2 a3 a4 c1 c2 c3 c4 (gtR (m.getD 0 []).length m.length m.flatten), .bool true])) w') := fun w' a1 a2 a3 a4 c1 c2 c3 c4 A C h => by
      have h' := GtRet2.yes (c1 := c1) (c2 := c2) (c3 := c3) (c4 := c4) hk h
      rw [hk] at h'
      exact h'
    have HT : Hid (∀ w', W0.Ext w' → Calls Try.prog 163 #[.pointer (some ⟨w.heap.size, 0, none⟩)] w' (TreeRet w' (gtR (m.getD 0 []).length m.length m.flatten))) := fun w' hx => by
      have hcell := hx.cell d0
      have hmm := hm.ext (hx0.trans hx)
      exact l07Tree_any _ _ _ _ _ m w' hk hcell hmm
    clear hm hx0 hk hsz
    generalize gtR (m.getD 0 []).length m.length m.flatten = R at *
    go_enter Try.func68, Try.ntmps68
    go_wp2_with fail
    rw [← hW0]
    clear hW0
    refine HV.out.mono ?_
    rintro e w1 ⟨rfl, hx1⟩
    have HX1 := Lib.hid hx1
    clear hx1
    go_wp2_with fail
    refine (HT.out w1 HX1.out).mono ?_
    rintro e w2 ⟨a1, a2, a3, a4, c1, c2, c3, c4, A', C', rfl, hx2, ho2⟩
    have r := QR.out.ext (HX1.out.trans hx2)
    have r0 := r.cell0
    have r1 := r.cell1
    have r2 := r.cell2
    have r3 := r.cell3
    have f0 := r.free 0
    have f1 := r.free 1
    have f2 := r.free 2
    have f3 := r.free 3
    obtain ⟨hp, HR⟩ := Res.store4 (.slice a1 R.1.length c1) (.slice a2 R.2.1.length c2) (.slice a3 R.2.2.1.length c3) (.slice a4 R.2.2.2.length c4) (HX0.out.trans (HX1.out.trans hx2)) (Nat.le_add_right _ 1) r (by have h1 := HX1.out.size; have h2 := HSZ.out; omega) ho2
    have s0 := hp.cell0
    have s1 := hp.cell1
    have s2 := hp.cell2
    have s3 := hp.cell3
    have HLT := Lib.hid r.lt
    have HE := Lib.hid (HYE.out _ _ _ _ _ c1 c2 c3 c4 _ _ HR.out)
    clear r hp hx2 ho2 HR
    unfold gtV at HE
    unfold gtV
    generalize R.1.length = n1 at *
    generalize R.2.1.length = n2 at *
    generalize R.2.2.1.length = n3 at *
    generalize R.2.2.2.length = n4 at *
    go_wp2
    exact bodyPost_ret (v := .tuple #[.agg #[.slice a1 n1 c1, .slice a2 n2 c2, .slice a3 n3 c3, .slice a4 n4 c4], .bool true]) (by simp [results, Try.results68, go_sem, s0, s1, s2, s3]) rfl HE.out
theorem gt_bnd (m : List (List Int)) : GtBnd (gtO m) ∧ cntG (gtO m) ≤ 1048576 := by
  unfold gtO
  cases hk : tableOk m 99
  · rw [if_neg (by simp)]
    exact ⟨⟨by simp, by simp, by simp, by simp, fun r => by simp⟩, by simp [cntG, offM]⟩
  · rw [if_pos rfl]
    have hg := grL_table hk
    obtain ⟨h1, h2, h3, h4, -, -⟩ := tableOk_spec hk
    have hn := nodeL_len hg
    have hb : m.length * (m.getD 0 []).length ≤ 256 := Nat.mul_le_mul h2 h4
    generalize (m.getD 0 []).length = W at *
    generalize m.length = H at *
    have hr : ∀ r, ((grl W H (nodT W H m.flatten (nodeL W H m.flatten))).getD r []).length ≤ W := fun r => by
      by_cases hr : r < H
      · rw [grl_row hr]; exact Nat.le_refl _
      · rw [List.getD_eq_getElem?_getD, List.getElem?_eq_none (by rw [grl_len]; omega)]; simp
    refine ⟨⟨?_, ?_, ?_, ?_, fun r => Nat.le_trans (hr r) (by omega)⟩, ?_⟩
    · show (levT _).length ≤ _
      rw [levT_len]; omega
    · show (parT _ _ _ _).length ≤ _
      rw [parT_len]; omega
    · show (areT _ _ _ _).length ≤ _
      rw [areT_len]; omega
    · show (grl _ _ _).length ≤ _
      rw [grl_len]; omega
    · have ho : ∀ k, k ≤ H → offM (grl W H (nodT W H m.flatten (nodeL W H m.flatten))) k ≤ k * 16 := by
        intro k
        induction k with
        | zero => intro _; simp [offM]
        | succ k ih =>
          intro hk
          have := ih (by omega)
          have h2 := hr k
          show offM _ k + _ ≤ _
          omega
      have h3 := ho H (Nat.le_refl _)
      unfold cntG gtR
      dsimp only
      rw [levT_len, parT_len, areT_len, grl_len]
      omega
end Go.Proofs.Ytmmanehdmnkekaa
