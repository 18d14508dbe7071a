/- Trees of grey pictures: what both sides return. -/
import Derived.Test.YthgkmaccbcpaeaaNdC
namespace Go.Proofs.Ythgkmaccbcpaeaa
open Go Go.RowKit
def GtRet2 (w : World) (R : GT) (ok : Bool) (e : Ending) (w' : World) : Prop :=
  ∃ a1 a2 a3 a4 c1 c2 c3 c4 A C, e = .returned (.tuple #[gtV a1 a2 a3 a4 c1 c2 c3 c4 R, .bool ok]) ∧ w.Ext w' ∧ OwnG w.heap.size w'.heap.size w' a1 a2 a3 a4 A C R
noncomputable def gtO (m : List (List Int)) : GT := if tableOk m 99 then gtR (m.getD 0 []).length m.length m.flatten else ([], [], [], [])
theorem GtRet2.no {w w' : World} {m : List (List Int)} (hx : w.Ext w') (hk : tableOk m 99 = false) : GtRet2 w (gtO m) (tableOk m 99) (.returned (.tuple #[.agg #[.slice none 0 0, .slice none 0 0, .slice none 0 0, .slice none 0 0], .bool false])) w' := by
  unfold gtO
  rw [hk]
  refine ⟨none, none, none, none, 0, 0, 0, 0, fun _ => none, fun _ => 0, rfl, hx, ?_⟩
  exact (OwnG.none w.heap.size w').mono (Nat.le_refl _) hx.size
theorem GtRet2.yes {w w' : World} {m : List (List Int)} {a1 a2 a3 a4 : Option Addr} {c1 c2 c3 c4 : Nat} {A : Nat → Option Addr} {C : Nat → Nat} (hk : tableOk m 99 = true) (hx : w.Ext w' ∧ OwnG w.heap.size w'.heap.size w' a1 a2 a3 a4 A C (gtR (m.getD 0 []).length m.length m.flatten)) : GtRet2 w (gtO m) (tableOk m 99) (.returned (.tuple #[gtV a1 a2 a3 a4 c1 c2 c3 c4 (gtR (m.getD 0 []).length m.length m.flatten), .bool true])) w' := by
  unfold gtO
  rw [hk]
  exact ⟨a1, a2, a3, a4, c1, c2, c3, c4, A, C, rfl, hx.1, hx.2⟩
theorem Res.store4 {w W1 : World} {p : Nat} {T : TypeId} {u v x y : Value} {lo : Nat} {a1 a2 a3 a4 : Option Addr} {A : Nat → Option Addr} {C : Nat → Nat} {R : GT} (s1 s2 s3 s4 : Value) (hX : w.Ext W1) (hp : w.heap.size ≤ p) (hq : Qua W1 p T u v x y) (hlo : p < lo) (ho : OwnG lo W1.heap.size W1 a1 a2 a3 a4 A C R) :
    Qua ((((W1.setCell ⟨p, 0, none⟩ s1).setCell ⟨p, 1, none⟩ s2).setCell ⟨p, 2, none⟩ s3).setCell ⟨p, 3, none⟩ s4) p T s1 s2 s3 s4 ∧
    Hid (w.Ext ((((W1.setCell ⟨p, 0, none⟩ s1).setCell ⟨p, 1, none⟩ s2).setCell ⟨p, 2, none⟩ s3).setCell ⟨p, 3, none⟩ s4) ∧
      OwnG w.heap.size ((((W1.setCell ⟨p, 0, none⟩ s1).setCell ⟨p, 1, none⟩ s2).setCell ⟨p, 2, none⟩ s3).setCell ⟨p, 3, none⟩ s4).heap.size ((((W1.setCell ⟨p, 0, none⟩ s1).setCell ⟨p, 1, none⟩ s2).setCell ⟨p, 2, none⟩ s3).setCell ⟨p, 3, none⟩ s4) a1 a2 a3 a4 A C R) := by
  have hW : Wrote (fun b => b = p) W1 ((((W1.setCell ⟨p, 0, none⟩ s1).setCell ⟨p, 1, none⟩ s2).setCell ⟨p, 2, none⟩ s3).setCell ⟨p, 3, none⟩ s4) :=
    ((((Wrote.refl (fun b => b = p) W1).setCell (p := ⟨p, 0, none⟩) rfl _).setCell (p := ⟨p, 1, none⟩) rfl _).setCell (p := ⟨p, 2, none⟩) rfl _).setCell (p := ⟨p, 3, none⟩) rfl _
  exact ⟨hq.put s1 s2 s3 s4, hX.wroteNew hW (fun k hk hs => by omega), (ho.wrote hW fun k h1 h2 h3 => by omega).mono (by omega) hW.size⟩
theorem GrAt.of {w : World} {p : Nat} {a : Option Addr} {c : Nat} {A : Nat → Option Addr} {C : Nat → Nat} {m : List (List Int)} (hok : tableOk m 99 = true) (hp : w.cell? ⟨p, 0, none⟩ = some (.slice a m.length c)) (hm : MatAt w a A C m) : GrAt w p (m.getD 0 []).length m.length m.flatten :=
  ⟨a, c, A, C, m, hp, hm, rfl, (tableOk_spec hok).2.2.2.2.1, rfl⟩
theorem gt_bnd (m : List (List Int)) : GtBnd (gtO m) ∧ cntG (gtO m) ≤ 1048576 := by
  unfold gtO
  cases hk : tableOk m 99
  · rw [if_neg (by simp)]
    exact ⟨⟨by simp, by simp, by simp, by simp, fun r => by simp⟩, by simp [cntG, offM]⟩
  · rw [if_pos rfl]
    have hg := grL_table hk
    obtain ⟨h1, h2, h3, h4, -, -⟩ := tableOk_spec hk
    have hn := nodeL_len hg
    have hb : m.length * (m.getD 0 []).length ≤ 256 := Nat.mul_le_mul h2 h4
    generalize (m.getD 0 []).length = W at *
    generalize m.length = H at *
    have hr : ∀ r, ((grl W H (nodT W H m.flatten (nodeL W H m.flatten))).getD r []).length ≤ W := fun r => by
      by_cases hr : r < H
      · rw [grl_row hr]; exact Nat.le_refl _
      · rw [List.getD_eq_getElem?_getD, List.getElem?_eq_none (by rw [grl_len]; omega)]; simp
    refine ⟨⟨?_, ?_, ?_, ?_, fun r => Nat.le_trans (hr r) (by omega)⟩, ?_⟩
    · show (levT _).length ≤ _
      rw [levT_len]; omega
    · show (parT _ _ _ _).length ≤ _
      rw [parT_len]; omega
    · show (areT _ _ _ _).length ≤ _
      rw [areT_len]; omega
    · show (grl _ _ _).length ≤ _
      rw [grl_len]; omega
    · have ho : ∀ k, k ≤ H → offM (grl W H (nodT W H m.flatten (nodeL W H m.flatten))) k ≤ k * 16 := by
        intro k
        induction k with
        | zero => intro _; simp [offM]
        | succ k ih =>
          intro hk
          have := ih (by omega)
          have h2 := hr k
          show offM _ k + _ ≤ _
          omega
      have h3 := ho H (Nat.le_refl _)
      unfold cntG gtR
      dsimp only
      rw [levT_len, parT_len, areT_len, grl_len]
      omega
end Go.Proofs.Ythgkmaccbcpaeaa
