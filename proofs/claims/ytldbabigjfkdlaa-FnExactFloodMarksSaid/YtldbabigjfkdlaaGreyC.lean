/- CutPeaks and ReconstructGrey: the reference's side. -/
import Derived.Test.YtldbabigjfkdlaaGreyS
namespace Go.Proofs.Ytldbabigjfkdlaa
open Go Go.RowKit
/-- Of a list the first k turned. -/
def mapTo (f : Int → Int) (l : List Int) (k : Nat) : List Int := (l.take k).map f ++ l.drop k
theorem mapTo_len (f : Int → Int) (l : List Int) (k : Nat) : (mapTo f l k).length = l.length := by unfold mapTo; simp; omega
theorem mapTo_at {f : Int → Int} {l : List Int} {k : Nat} : (mapTo f l k).getD k 0 = l.getD k 0 := by
  unfold mapTo
  by_cases h : k < l.length
  · have h1 : (List.map f (l.take k)).length = k := by simp; omega
    rw [List.getD_eq_getElem?_getD, List.getElem?_append_right (by omega), h1, Nat.sub_self, List.getElem?_drop, Nat.add_zero, ← List.getD_eq_getElem?_getD]
  · rw [List.getD_eq_getElem?_getD, List.getD_eq_getElem?_getD, List.getElem?_eq_none (by simp; omega), List.getElem?_eq_none (by omega)]
theorem mapTo_set {f : Int → Int} {l : List Int} {k : Nat} (h : k < l.length) : (mapTo f l k).set k (f (l.getD k 0)) = mapTo f l (k + 1) := by
  unfold mapTo
  have h1 : (List.map f (l.take k)).length = k := by simp; omega
  have e2 : l.getD k 0 = l[k] := by rw [List.getD_eq_getElem?_getD, List.getElem?_eq_getElem h]; rfl
  rw [List.set_append_right _ _ (by omega), h1, Nat.sub_self, List.take_succ_eq_append_getElem h, List.map_append, List.append_assoc, List.drop_eq_getElem_cons h, List.set_cons_zero, e2]
  rfl
theorem mapTo_all (f : Int → Int) (l : List Int) : mapTo f l l.length = l.map f := by unfold mapTo; simp
/-- The lowered numbers. -/
def cutF (h z : Int) : Int := mxK 0 (z - h)
def cutL (h : Int) (l : List Int) : List Int := l.map (cutF h)
theorem flat_get {m : List (List Int)} (hok : tableOk m 99 = true) {k : Nat} (hk : k < m.flatten.length) : 0 ≤ m.flatten.getD k 0 ∧ m.flatten.getD k 0 ≤ 99 := by
  obtain ⟨v1, v2, v3, v4, v5, v6⟩ := tableOk_spec hok
  have hl := flat_len (m.getD 0 []).length m v5
  have hW : 0 < (m.getD 0 []).length := by omega
  have hx : k % (m.getD 0 []).length < (m.getD 0 []).length := Nat.mod_lt _ hW
  have hy : k / (m.getD 0 []).length < m.length := by rw [Nat.div_lt_iff_lt_mul hW, Nat.mul_comm]; omega
  have he : k / (m.getD 0 []).length * (m.getD 0 []).length + k % (m.getD 0 []).length = k := by rw [Nat.mul_comm]; exact Nat.div_add_mod _ _
  have h := flat_at (m.getD 0 []).length m _ _ v5 hy hx
  rw [he] at h
  rw [h]
  exact v6 _ _ hy (by rw [v5 _ hy]; exact hx)
theorem cut_under {h : Int} {l : List Int} (h0 : 0 ≤ h) (hl : ∀ k, k < l.length → 0 ≤ l.getD k 0) : Under l (cutL h l) := by
  unfold cutL
  refine ⟨by simp, fun k hk => ?_⟩
  rw [List.length_map] at hk
  have e : (l.map (cutF h)).getD k 0 = cutF h (l.getD k 0) := by
    rw [List.getD_eq_getElem?_getD, List.getElem?_map, List.getD_eq_getElem?_getD, List.getElem?_eq_getElem hk]
    rfl
  rw [e]
  have := hl k hk
  unfold cutF mxK
  split <;> omega
def cutOk (m : List (List Int)) (h : Int) : Bool := tableOk m 99 && inB h 0 99
/-- What is left of the peaks. -/
def CutO (m : List (List Int)) (h : Int) (res : List Int) : Prop := cutOk m h = true → PasR (greC (m.getD 0 []).length m.length m.flatten) (greV (m.getD 0 []).length m.length m.flatten) m.flatten.length (cutL h m.flatten) res
theorem CutO.ex (m : List (List Int)) (h : Int) : ∃ res, CutO m h res := by
  by_cases hc : cutOk m h = true
  · have hc2 := hc
    unfold cutOk at hc2
    rw [Bool.and_eq_true, inB_true] at hc2
    obtain ⟨res, hr⟩ := GreR.ex (m.getD 0 []).length m.length (cut_under hc2.2.1 fun k hk => (flat_get hc2.1 hk).1)
    exact ⟨res, fun _ => hr⟩
  · exact ⟨[], fun h2 => absurd h2 hc⟩
theorem GreyRet2.no {w w' : World} (hx : w.Ext w') : GreyRet2 w [] false (.returned (.tuple #[.agg #[.slice none 0 0], .bool false])) w' := ⟨none, 0, _, _, rfl, hx, OwnMat.none _ _ _ _⟩
end Go.Proofs.Ytldbabigjfkdlaa
