/- The text of a grey picture is read back: plain. -/
import Derived.Test.YtkpgelhmeokemaaGreatDoorRgA
namespace Go.Proofs.YtkpgelhmeokemaaGreatDoor
open Go Go.RowKit
theorem jn_cons2 (c : UInt8) (x y : List UInt8) (r : List (List UInt8)) : jn c (x :: y :: r) = x ++ c :: jn c (y :: r) := by
  unfold jn
  rw [Lib.join_cons, Lib.join_cons]
  simp [Lib.joinTail]
theorem cutY_jn {c : UInt8} : ∀ (xs : List (List UInt8)), xs ≠ [] → (∀ x, x ∈ xs → c ∉ x) → cutY c (jn c xs) = xs
  | [], h, _ => absurd rfl h
  | [x], _, h => by rw [jn_one, cutY_none (h x (List.mem_cons_self ..))]
  | x :: y :: r, _, h => by
    rw [jn_cons2, cutY_hit (h x (List.mem_cons_self ..)), cutY_jn (y :: r) (by simp) fun z hz => h z (List.mem_cons_of_mem _ hz)]
theorem mem_jn {c b : UInt8} : ∀ (xs : List (List UInt8)), b ∈ jn c xs → b = c ∨ ∃ x, x ∈ xs ∧ b ∈ x
  | [], h => by simp [jn, Lib.join_nil] at h
  | [x], h => by rw [jn_one] at h; exact .inr ⟨x, List.mem_cons_self .., h⟩
  | x :: y :: r, h => by
    rw [jn_cons2] at h
    rcases List.mem_append.1 h with h1 | h1
    · exact .inr ⟨x, List.mem_cons_self .., h1⟩
    · rcases List.mem_cons.1 h1 with h2 | h2
      · exact .inl h2
      · rcases mem_jn (y :: r) h2 with h3 | ⟨z, h3, h4⟩
        · exact .inl h3
        · exact .inr ⟨z, List.mem_cons_of_mem _ h3, h4⟩
theorem itoa_bytes (n : Int) (b : UInt8) (h : b ∈ Lib.itoa n) : b.toNat = 45 ∨ (48 ≤ b.toNat ∧ b.toNat ≤ 57) := by
  by_cases hn : n < 0
  · obtain ⟨u, hu⟩ := Int.eq_ofNat_of_zero_le (show 0 ≤ -n by omega)
    have e : n = -(u : Int) := by omega
    subst e
    rw [Lib.itoa_neg u (by omega)] at h
    rcases List.mem_cons.1 h with h1 | h1
    · rw [h1]; exact .inl rfl
    · exact .inr (digs_range u b h1)
  · obtain ⟨u, hu⟩ := Int.eq_ofNat_of_zero_le (show 0 ≤ n by omega)
    subst hu
    rw [Lib.itoa_nonneg] at h
    exact .inr (digs_range u b h)
theorem row_back {zs : List Int} (hf : Few99 zs) (h1 : 1 ≤ zs.length) : lsB (rowT zs) = true ∧ lsV (rowT zs) = zs := by
  have hc : cutY 44 (rowT zs) = zs.map Lib.itoa := by
    refine cutY_jn _ (fun e => ?_) fun x hx h44 => ?_
    · have := congrArg List.length e
      rw [List.length_map] at this
      have h0 : _ = 0 := this
      omega
    · obtain ⟨z, -, rfl⟩ := List.mem_map.1 hx
      have := itoa_bytes z 44 h44
      have e : (44 : UInt8).toNat = 44 := rfl
      omega
  have hne : rowT zs ≠ noneS := fun e => by
    have h2 : cutY 44 noneS = [noneS] := cutY_none (by decide)
    rw [e, h2] at hc
    cases zs with
    | nil => simp at h1
    | cons z r =>
      rw [List.map_cons] at hc
      have h3 : noneS = Lib.itoa z := by
        have := congrArg (fun l => l.head?) hc
        simpa using this
      have h4 := itoa_bytes z 110 (by rw [← h3]; decide)
      have e : (110 : UInt8).toNat = 110 := rfl
      omega
  have hl : (cutY 44 (rowT zs)).length = zs.length := by rw [hc, List.length_map]
  have hd : ∀ k, k < zs.length → rdV ((cutY 44 (rowT zs)).getD k []) = zs.getD k 0 ∧ rdB ((cutY 44 (rowT zs)).getD k []) = true := fun k hk => by
    rw [hc, getD_map Lib.itoa zs k 0 [] hk]
    obtain ⟨q1, q2⟩ := hf.2 k hk
    exact rd_yes ⟨by omega, by omega, rfl⟩
  have h16 := hf.1
  obtain ⟨h2, h3⟩ := ls_all hne (by omega) fun k hk => (hd k (by omega)).2
  refine ⟨h2, ?_⟩
  rw [h3]
  apply List.ext_getElem
  · rw [List.length_map, hl]
  · intro i h4 h5
    have h6 := (hd i h5).1
    rw [List.getD_eq_getElem?_getD, List.getD_eq_getElem?_getD, List.getElem?_eq_getElem h5, List.getElem?_eq_getElem (by rw [hl]; exact h5)] at h6
    rw [List.getElem_map]
    exact h6
theorem grey_back {m : List (List Int)} (ht : tableOk m 99 = true) : gyB (greyT m) = true ∧ gyM (greyT m) = m := by
  obtain ⟨h1, h16, -⟩ := tableOk_spec ht
  have hc : cutY 47 (greyT m) = m.map rowT := by
    refine cutY_jn _ (fun e => ?_) fun x hx h47 => ?_
    · have := congrArg List.length e
      rw [List.length_map] at this
      have h0 : _ = 0 := this
      omega
    · obtain ⟨zs, -, rfl⟩ := List.mem_map.1 hx
      rcases mem_jn _ h47 with h2 | ⟨y, h2, h3⟩
      · exact absurd h2 (by decide)
      · obtain ⟨z, -, rfl⟩ := List.mem_map.1 h2
        have := itoa_bytes z 47 h3
        have e : (47 : UInt8).toNat = 47 := rfl
        omega
  have hrow : ∀ k, k < m.length → lsB ((cutY 47 (greyT m)).getD k []) = true ∧ lsV ((cutY 47 (greyT m)).getD k []) = m.getD k [] := fun k hk => by
    rw [hc, getD_map rowT m k [] [] hk]
    have h2 := few_of ht k hk
    exact row_back h2.1 h2.2
  have hl : (cutY 47 (greyT m)).length = m.length := by rw [hc, List.length_map]
  have hm : (cutY 47 (greyT m)).map lsV = m := by
    apply List.ext_getElem
    · rw [List.length_map, hl]
    · intro i h4 h5
      have h6 := (hrow i h5).2
      rw [List.getD_eq_getElem?_getD, List.getD_eq_getElem?_getD, List.getElem?_eq_getElem h5, List.getElem?_eq_getElem (by rw [hl]; exact h5)] at h6
      rw [List.getElem_map]
      exact h6
  obtain ⟨h2, h3⟩ := gy_yes (by omega) (fun k hk => (hrow k (by omega)).1) (by rw [hm]; exact ht)
  exact ⟨h2, by rw [h3, hm]⟩
end Go.Proofs.YtkpgelhmeokemaaGreatDoor
