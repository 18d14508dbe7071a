/- Plain: discs paint their picture, have just black pixels, and cannot be greater. -/
import Derived.Test.YtahhnjoeaodcjaaPodI
namespace Go.Proofs.Ytahhnjoeaodcjaa
open Go Go.RowKit
theorem spotsP_at {V U : Nat} {p : Int → Int → Bool} {a b : Nat} (ha : a < V) (hb : b < U) : (((a : Int) - 1, (b : Int) - 1) : Int × Int) ∈ spotsP V p (U * V) ↔ p ((a : Int) - 1) ((b : Int) - 1) = true := by
  unfold spotsP
  rw [List.mem_map]
  have hm : (b * V + a) % V = a := by rw [Nat.add_comm, Nat.add_mul_mod_self_right, Nat.mod_eq_of_lt ha]
  have hd : (b * V + a) / V = b := by rw [Nat.add_comm, Nat.add_mul_div_right _ _ (by omega), Nat.div_eq_of_lt ha, Nat.zero_add]
  constructor
  · rintro ⟨k, hk, e⟩
    have h1 := (List.mem_filter.1 hk).2
    simp only [Prod.mk.injEq] at e
    rw [e.1, e.2] at h1
    exact h1
  · intro h
    refine ⟨b * V + a, List.mem_filter.2 ⟨List.mem_range.2 ?_, ?_⟩, ?_⟩
    · have := Nat.mul_le_mul_right V (show b + 1 ≤ U by omega)
      rw [Nat.succ_mul] at this
      omega
    · rw [hm, hd]; exact h
    · rw [hm, hd]
theorem spotsP_form {V U : Nat} {p : Int → Int → Bool} {q : Int × Int} (h : q ∈ spotsP V p (U * V)) : ∃ a b : Nat, a < V ∧ b < U ∧ q = ((a : Int) - 1, (b : Int) - 1) ∧ p ((a : Int) - 1) ((b : Int) - 1) = true := by
  unfold spotsP at h
  obtain ⟨k, hk, rfl⟩ := List.mem_map.1 h
  have h1 := List.mem_filter.1 hk
  have hlt := List.mem_range.1 h1.1
  have hV : 0 < V := by
    rcases Nat.eq_zero_or_pos V with e | e
    · rw [e] at hlt; simp at hlt
    · exact e
  exact ⟨k % V, k / V, Nat.mod_lt _ hV, by rw [Nat.div_lt_iff_lt_mul hV]; exact hlt, rfl, h1.2⟩
section
variable {kind : Int} {W H : Nat} {l : List Bool} {x y : Nat}
/-- What a depth is. -/
theorem dep_spec (kind : Int) (W H : Nat) (l : List Bool) (x y : Nat) : (∃ a b : Nat, a < W + 2 ∧ b < H + 2 ∧ pxl W H l ((a : Int) - 1) ((b : Int) - 1) = false ∧ farI kind ((x : Int), (y : Int)) ((a : Int) - 1, (b : Int) - 1) = depI kind W H l x y) ∧
    ∀ a b : Nat, a < W + 2 → b < H + 2 → pxl W H l ((a : Int) - 1) ((b : Int) - 1) = false → depI kind W H l x y ≤ farI kind ((x : Int), (y : Int)) ((a : Int) - 1, (b : Int) - 1) := by
  unfold depI depthTo
  rcases leastF (kind := kind) (p := ((x : Int), (y : Int))) (spotsP (W + 2) (whiteP W H l) ((H + 2) * (W + 2))) with ⟨e, -⟩ | ⟨-, ⟨q, hq, e⟩, h2⟩
  · have := spotsP_head (V := W + 2) (U := H + 2) (p := whiteP W H l) (by omega) (by omega) (by
      unfold whiteP
      rw [pxl_out]
      · rfl
      · rw [Bool.eq_false_iff]; intro h2; have := hasB_true.1 h2; omega)
    rw [e] at this
    cases this
  · refine ⟨?_, fun a b ha hb hw => h2 _ ((spotsP_at ha hb).2 (by unfold whiteP; rw [hw]; rfl))⟩
    obtain ⟨a, b, ha, hb, rfl, hp⟩ := spotsP_form hq
    exact ⟨a, b, ha, hb, by unfold whiteP at hp; simpa using hp, e⟩
theorem far_512 {kind : Int} {a b c d : Int} (h1 : 0 ≤ a - c ∧ a - c ≤ 16) (h2 : 0 ≤ b - d ∧ b - d ≤ 16) : farI kind (a, b) (c, d) ≤ 512 := by
  unfold farI farD
  dsimp only
  have e1 : mxI (a - c) (c - a) = a - c := by unfold mxI; split <;> omega
  have e2 : mxI (b - d) (d - b) = b - d := by unfold mxI; split <;> omega
  rw [e1, e2]
  split
  · omega
  · split
    · unfold mxI; split <;> omega
    · have s1 := Int.mul_le_mul h1.2 h1.2 h1.1 (by omega : (0 : Int) ≤ 16)
      have s2 := Int.mul_le_mul h2.2 h2.2 h2.1 (by omega : (0 : Int) ≤ 16)
      omega
theorem dep_512 (hH : H ≤ 16) (hx : x < W) (hy : y < H) : depI kind W H l x y ≤ 512 := by
  refine Int.le_trans ((dep_spec kind W H l x y).2 (x + 1) 0 (by omega) (by omega) ?_) ?_
  · rw [pxl_out]
    rw [Bool.eq_false_iff]
    intro h2
    have := hasB_true.1 h2
    omega
  · exact far_512 (by omega) (by omega)
/-- What is known of one disc. -/
structure DskAt (kind : Int) (W H : Nat) (l : List Bool) (d : Int × Int × Int) : Prop where
  form : ∃ x y : Nat, x < W ∧ y < H ∧ d = ((x : Int), (y : Int), depI kind W H l x y)
  pos : 1 ≤ d.2.2
  le : d.2.2 ≤ 512
  black : ∀ a b : Nat, a < W + 2 → b < H + 2 → farI kind (d.1, d.2.1) ((a : Int) - 1, (b : Int) - 1) < d.2.2 → pxl W H l ((a : Int) - 1) ((b : Int) - 1) = true
  hit : ∃ a b : Nat, a < W + 2 ∧ b < H + 2 ∧ pxl W H l ((a : Int) - 1) ((b : Int) - 1) = false ∧ farI kind (d.1, d.2.1) ((a : Int) - 1, (b : Int) - 1) = d.2.2
theorem dskAt_of (hH : H ≤ 16) (hx : x < W) (hy : y < H) (hb : l.getD (y * W + x) false = true) : DskAt kind W H l ((x : Int), (y : Int), depI kind W H l x y) := by
  obtain ⟨⟨a, b, h1, h2, h3, h4⟩, h5⟩ := dep_spec kind W H l x y
  have hp : 0 < depI kind W H l x y := by have := dep_pos (kind := kind) (l := l) hx hy; rw [hb, decide_eq_true_eq] at this; exact this
  refine ⟨⟨x, y, hx, hy, rfl⟩, by dsimp only; omega, dep_512 hH hx hy, fun a b ha hb hlt => ?_, ⟨a, b, h1, h2, h3, h4⟩⟩
  cases hw : pxl W H l ((a : Int) - 1) ((b : Int) - 1)
  · have := h5 a b ha hb hw
    dsimp only at hlt
    omega
  · rfl
theorem dscTo_at (_ : W ≤ 38) (hH : H ≤ 16) {d : Int × Int × Int} (h : d ∈ dscTo kind W H l (H * W)) : DskAt kind W H l d := by
  unfold dscTo at h
  obtain ⟨q, hq, rfl⟩ := List.mem_map.1 h
  have hp := spotsTo_mem.1 hq
  obtain ⟨x, y, rfl, hx, hy⟩ := pxP_nat hp
  unfold pxP at hp
  rw [pxl_at _ _ _ _ _ hx hy] at hp
  exact dskAt_of hH hx hy hp
theorem pickD_mem {D : List (Int × Int × Int)} {js : List Nat} {d : Int × Int × Int} (hj : ∀ j, j ∈ js → j < D.length) (h : d ∈ pickD D js) : d ∈ D := by
  unfold pickD at h
  obtain ⟨j, h1, rfl⟩ := List.mem_map.1 h
  rw [List.getD_eq_getElem?_getD, List.getElem?_eq_getElem (hj j h1)]
  exact List.getElem_mem _
theorem dscL_at (hW : W ≤ 38) (hH : H ≤ 16) {d : Int × Int × Int} (h : d ∈ dscL kind W H l) : DskAt kind W H l d :=
  dscTo_at hW hH (pickD_mem (fun _ hj => (keptL_mem.1 hj).1) h)
theorem fewD_sub (kind : Int) (W H : Nat) (l : List Bool) : (fewD kind W H l).Sublist (dscL kind W H l) := by
  unfold fewD pickD
  have h := (fewL_sub (h := hasH kind W (dscL kind W H l)) (m := H * W) (js := List.range (dscL kind W H l).length)).map fun j => (dscL kind W H l).getD j (0, 0, 0)
  have e : (List.range (dscL kind W H l).length).map (fun j => (dscL kind W H l).getD j (0, 0, 0)) = dscL kind W H l := by
    apply List.ext_getElem
    · simp
    · intro i h1 h2
      simp [List.getD_eq_getElem?_getD, h2]
  rw [e] at h
  exact h
theorem fewD_at (hW : W ≤ 38) (hH : H ≤ 16) {d : Int × Int × Int} (h : d ∈ fewD kind W H l) : DskAt kind W H l d := dscL_at hW hH ((fewD_sub kind W H l).subset h)
theorem dsOk_of {ds : List (Int × Int × Int)} (hn : ds.length ≤ 256) (h : ∀ d, d ∈ ds → DskAt kind W H l d) : DsOk W H ds := by
  refine ⟨hn, fun i hi => ?_⟩
  have hm : ds.getD i (0, 0, 0) ∈ ds := by rw [List.getD_eq_getElem?_getD, List.getElem?_eq_getElem hi]; exact List.getElem_mem hi
  have hd := h _ hm
  obtain ⟨x, y, hx, hy, e⟩ := hd.form
  have h1 := hd.pos
  have h2 := hd.le
  rw [e] at h1 h2 ⊢
  dsimp only at h1 h2 ⊢
  omega
/-- A pixel that a disc has is black. -/
theorem has_black {d : Int × Int × Int} (hd : DskAt kind W H l d) (hx : x < W) (hy : y < H) (h : hasT kind d x y = true) : l.getD (y * W + x) false = true := by
  unfold hasT at h
  rw [decide_eq_true_eq] at h
  have e1 : (((x + 1 : Nat) : Int) - 1) = (x : Int) := by omega
  have e2 : (((y + 1 : Nat) : Int) - 1) = (y : Int) := by omega
  have := hd.black (x + 1) (y + 1) (by omega) (by omega) (by rw [e1, e2]; exact h)
  rw [e1, e2, pxl_at _ _ _ _ _ hx hy] at this
  exact this
theorem hasH_at (kind : Int) (D : List (Int × Int × Int)) (j : Nat) (hx : x < W) : hasH kind W D j (y * W + x) = hasT kind (D.getD j (0, 0, 0)) (x : Int) (y : Int) := by
  have e1 : (y * W + x) % W = x := by rw [Nat.mul_comm, Nat.mul_add_mod, Nat.mod_eq_of_lt hx]
  have e2 : (y * W + x) / W = y := by rw [Nat.mul_comm, Nat.mul_add_div (by omega), Nat.div_eq_of_lt hx]; rfl
  unfold hasH
  rw [e1, e2]
theorem pix_lt (hx : x < W) (hy : y < H) : y * W + x < H * W := by
  have := Nat.mul_le_mul_right W (show y + 1 ≤ H by omega)
  rw [Nat.succ_mul] at this
  omega
/-- A black pixel is within a disc that is kept. -/
theorem dscL_has (hW : W ≤ 38) (hH : H ≤ 38) (hx : x < W) (hy : y < H) (hb : l.getD (y * W + x) false = true) : ∃ d, d ∈ dscL kind W H l ∧ hasT kind d x y = true := by
  have hmem : ((x : Int), (y : Int), depI kind W H l x y) ∈ dscTo kind W H l (H * W) := by
    unfold dscTo
    exact List.mem_map.2 ⟨((x : Int), (y : Int)), (spot_at hx hy).2 hb, rfl⟩
  obtain ⟨i, hi, e⟩ := List.getElem_of_mem hmem
  have hown := hasT_own (kind := kind) (dscTo_in hW hH hmem)
  have hgi : (dscTo kind W H l (H * W)).getD i (0, 0, 0) = ((x : Int), (y : Int), depI kind W H l x y) := by rw [List.getD_eq_getElem?_getD, List.getElem?_eq_getElem hi, e]; rfl
  obtain ⟨k, h1, h2, h3⟩ := kept_has (h := hasH kind W (dscTo kind W H l (H * W))) (n := (dscTo kind W H l (H * W)).length) (m := H * W) _ i (Nat.le_refl _) hi
  have h4 := subH_true.1 h3 (y * W + x) (pix_lt hx hy) (by rw [hasH_at _ _ _ hx, hgi]; exact hown)
  rw [hasH_at _ _ _ hx] at h4
  refine ⟨_, ?_, h4⟩
  unfold dscL pickD
  exact List.mem_map.2 ⟨k, keptL_mem.2 ⟨h1, h2⟩, rfl⟩
theorem anyD_true {ds : List (Int × Int × Int)} : anyD kind ds x y = true ↔ ∃ d, d ∈ ds ∧ hasT kind d x y = true := by
  unfold anyD
  rw [List.any_eq_true]
theorem dscL_paint (hW : W ≤ 38) (hH : H ≤ 16) (hx : x < W) (hy : y < H) : anyD kind (dscL kind W H l) x y = l.getD (y * W + x) false := by
  rw [Bool.eq_iff_iff, anyD_true]
  constructor
  · rintro ⟨d, h1, h2⟩
    exact has_black (dscL_at hW hH h1) hx hy h2
  · intro h
    exact dscL_has hW (by omega) hx hy h
theorem fewD_paint (hW : W ≤ 38) (hH : H ≤ 16) (hx : x < W) (hy : y < H) : anyD kind (fewD kind W H l) x y = l.getD (y * W + x) false := by
  rw [Bool.eq_iff_iff, anyD_true]
  constructor
  · rintro ⟨d, h1, h2⟩
    exact has_black (fewD_at hW hH h1) hx hy h2
  · intro h
    obtain ⟨d, h1, h2⟩ := dscL_has (kind := kind) hW (by omega) hx hy h
    obtain ⟨j, hj, e⟩ := List.getElem_of_mem h1
    have hgj : (dscL kind W H l).getD j (0, 0, 0) = d := by rw [List.getD_eq_getElem?_getD, List.getElem?_eq_getElem hj, e]; rfl
    obtain ⟨k, h3, h4⟩ := fewL_has (h := hasH kind W (dscL kind W H l)) (m := H * W) (js := List.range (dscL kind W H l).length) (p := y * W + x) (pix_lt hx hy) ⟨j, List.mem_range.2 hj, by rw [hasH_at _ _ _ hx, hgj]; exact h2⟩
    rw [hasH_at _ _ _ hx] at h4
    refine ⟨_, ?_, h4⟩
    unfold fewD pickD
    exact List.mem_map.2 ⟨k, h3, rfl⟩
end
/-- The rest of a list is sought on. -/
theorem sub_hit {α : Type} {bs cs : List α} {k i : Nat} {d : α} (hk : k < bs.length) (hi : i < cs.length) (h : (bs.drop k).Sublist (cs.drop i)) (e : cs.getD i d = bs.getD k d) : (bs.drop (k + 1)).Sublist (cs.drop (i + 1)) := by
  rw [List.drop_eq_getElem_cons hk, List.drop_eq_getElem_cons hi] at h
  have e1 : cs.getD i d = cs[i] := by rw [List.getD_eq_getElem?_getD, List.getElem?_eq_getElem hi]; rfl
  have e2 : bs.getD k d = bs[k] := by rw [List.getD_eq_getElem?_getD, List.getElem?_eq_getElem hk]; rfl
  rw [e1, e2] at e
  rw [e] at h
  exact List.cons_sublist_cons.1 h
theorem sub_miss {α : Type} {bs cs : List α} {k i : Nat} {d : α} (hk : k < bs.length) (hi : i < cs.length) (h : (bs.drop k).Sublist (cs.drop i)) (e : cs.getD i d ≠ bs.getD k d) : (bs.drop k).Sublist (cs.drop (i + 1)) := by
  have e1 : cs.getD i d = cs[i] := by rw [List.getD_eq_getElem?_getD, List.getElem?_eq_getElem hi]; rfl
  have e2 : bs.getD k d = bs[k] := by rw [List.getD_eq_getElem?_getD, List.getElem?_eq_getElem hk]; rfl
  rw [e1, e2] at e
  rw [List.drop_eq_getElem_cons hk] at h ⊢
  rw [List.drop_eq_getElem_cons hi] at h
  rcases List.sublist_cons_iff.1 h with h | ⟨r, hr, -⟩
  · exact h
  · rw [List.cons.injEq] at hr
    exact absurd hr.1.symm e
theorem sub_end {α : Type} {bs cs : List α} {k i : Nat} (hk : k < bs.length) (h : (bs.drop k).Sublist (cs.drop i)) : i < cs.length := by
  have h1 := h.length_le
  simp only [List.length_drop] at h1
  omega
end Go.Proofs.Ytahhnjoeaodcjaa
