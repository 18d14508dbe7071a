/- Distances, plain: growing and shrinking by nothing; how far two pictures are apart. -/
import Derived.Test.YtahhnjoeaodcjaaGrwF
import Derived.Test.YtahhnjoeaodcjaaSpotS
namespace Go.Proofs.Ytahhnjoeaodcjaa
open Go Go.RowKit
theorem mxI_zero {a b : Int} : mxI (a - b) (b - a) = 0 ↔ a = b := by unfold mxI; split <;> omega
theorem mxI_nn (a b : Int) : 0 ≤ mxI (a - b) (b - a) := by unfold mxI; split <;> omega
theorem farI_zero (kind : Int) (p q : Int × Int) : farI kind p q = 0 ↔ p = q := by
  have ha := mxI_nn p.1 q.1
  have hb := mxI_nn p.2 q.2
  have ea := mxI_zero (a := p.1) (b := q.1)
  have eb := mxI_zero (a := p.2) (b := q.2)
  have e : p = q ↔ p.1 = q.1 ∧ p.2 = q.2 := Prod.ext_iff
  rw [e, ← ea, ← eb]
  unfold farI farD
  generalize mxI (p.1 - q.1) (q.1 - p.1) = x at *
  generalize mxI (p.2 - q.2) (q.2 - p.2) = y at *
  split
  · omega
  · split
    · unfold mxI; split <;> omega
    · have h1 := Int.mul_nonneg ha ha
      have h2 := Int.mul_nonneg hb hb
      constructor
      · intro h
        exact ⟨(Int.mul_eq_zero.1 (show x * x = 0 by omega)).elim id id, (Int.mul_eq_zero.1 (show y * y = 0 by omega)).elim id id⟩
      · rintro ⟨h3, h4⟩
        rw [h3, h4]
        rfl
theorem farI_nn (kind : Int) (p q : Int × Int) : 0 ≤ farI kind p q := by
  have ha := mxI_nn p.1 q.1
  have hb := mxI_nn p.2 q.2
  unfold farI farD
  generalize mxI (p.1 - q.1) (q.1 - p.1) = x at *
  generalize mxI (p.2 - q.2) (q.2 - p.2) = y at *
  split
  · omega
  · split
    · unfold mxI; split <;> omega
    · have h1 := Int.mul_nonneg ha ha
      have h2 := Int.mul_nonneg hb hb
      omega
theorem leastF {kind : Int} {p : Int × Int} (qs : List (Int × Int)) : (qs = [] ∧ leastD (qs.map (farI kind p)) = -1) ∨ (0 ≤ leastD (qs.map (farI kind p)) ∧ (∃ q, q ∈ qs ∧ farI kind p q = leastD (qs.map (farI kind p))) ∧ ∀ q, q ∈ qs → leastD (qs.map (farI kind p)) ≤ farI kind p q) := by
  have hnn : ∀ d, d ∈ qs.map (farI kind p) → 0 ≤ d := fun d hd => by
    obtain ⟨q, -, rfl⟩ := List.mem_map.1 hd
    exact farI_nn _ _ _
  rcases leastD_spec _ hnn with ⟨h0, h1⟩ | ⟨h1, h2, h3⟩
  · exact .inl ⟨by simpa using h0, h1⟩
  · obtain ⟨q, hq, e⟩ := List.mem_map.1 h1
    exact .inr ⟨h3, ⟨q, hq, e⟩, fun q hq => h2 _ (List.mem_map_of_mem hq)⟩
theorem least_zero {kind : Int} {p : Int × Int} {qs : List (Int × Int)} : leastD (qs.map (farI kind p)) = 0 ↔ p ∈ qs := by
  rcases leastF (kind := kind) (p := p) qs with ⟨h0, h1⟩ | ⟨h1, ⟨q, hq, e⟩, h3⟩
  · rw [h1, h0]; simp
  · constructor
    · intro h
      rw [h] at e
      rw [(farI_zero kind p q).1 e]
      exact hq
    · intro h
      have := h3 p h
      rw [(farI_zero kind p p).2 rfl] at this
      omega
theorem spot_at {W H : Nat} {L : List Bool} {x y : Nat} (hx : x < W) (hy : y < H) : ((x : Int), (y : Int)) ∈ spotsTo W L (H * W) ↔ L.getD (y * W + x) false = true := by
  rw [spotsTo_mem]
  unfold pxP
  dsimp only
  rw [pxl_at _ _ _ _ _ hx hy]
theorem grow_zero {kind : Int} {W H : Nat} {L : List Bool} {x y : Nat} (hx : x < W) (hy : y < H) : growB kind 0 W H L x y = L.getD (y * W + x) false := by
  rw [Bool.eq_iff_iff, ← spot_at hx hy, ← least_zero (kind := kind)]
  unfold growB nearTo
  rw [Bool.and_eq_true, decide_eq_true_eq, decide_eq_true_eq]
  omega
theorem spotsP_mem {V U : Nat} {p : Int → Int → Bool} {x y : Nat} (hx : x + 1 < V) (hy : y + 1 < U) : ((x : Int), (y : Int)) ∈ spotsP V p (U * V) ↔ p x y = true := by
  unfold spotsP
  rw [List.mem_map]
  have hm : ((y + 1) * V + (x + 1)) % V = x + 1 := by rw [Nat.add_comm, Nat.add_mul_mod_self_right, Nat.mod_eq_of_lt hx]
  have hd : ((y + 1) * V + (x + 1)) / V = y + 1 := by rw [Nat.add_comm, Nat.add_mul_div_right _ _ (by omega), Nat.div_eq_of_lt hx, Nat.zero_add]
  constructor
  · rintro ⟨k, hk, e⟩
    have h1 := (List.mem_filter.1 hk).2
    simp only [Prod.mk.injEq] at e
    rw [e.1, e.2] at h1
    exact h1
  · intro h
    refine ⟨(y + 1) * V + (x + 1), List.mem_filter.2 ⟨List.mem_range.2 ?_, ?_⟩, ?_⟩
    · have := Nat.mul_le_mul_right V (show y + 2 ≤ U by omega)
      rw [Nat.succ_mul] at this
      omega
    · rw [hm, hd]
      rw [show ((x + 1 : Nat) : Int) - 1 = x by omega, show ((y + 1 : Nat) : Int) - 1 = y by omega]
      exact h
    · rw [hm, hd]
      rw [show ((x + 1 : Nat) : Int) - 1 = x by omega, show ((y + 1 : Nat) : Int) - 1 = y by omega]
theorem shrink_zero {kind : Int} {W H : Nat} {L : List Bool} {x y : Nat} (hx : x < W) (hy : y < H) : shrB kind 0 W H L x y = L.getD (y * W + x) false := by
  have h := spotsP_mem (V := W + 2) (U := H + 2) (p := whiteP W H L) (x := x) (y := y) (by omega) (by omega)
  rw [← least_zero (kind := kind)] at h
  have h0 : 0 ≤ depI kind W H L x y := by
    unfold depI depthTo
    rcases leastF (kind := kind) (p := ((x : Int), (y : Int))) (spotsP (W + 2) (whiteP W H L) ((H + 2) * (W + 2))) with ⟨e, -⟩ | ⟨h1, -⟩
    · have := spotsP_head (V := W + 2) (U := H + 2) (p := whiteP W H L) (by omega) (by omega) (by
        unfold whiteP
        rw [pxl_out]
        · rfl
        · rw [Bool.eq_false_iff]; intro h2; have := hasB_true.1 h2; omega)
      rw [e] at this
      cases this
    · exact h1
  have hw : whiteP W H L x y = !L.getD (y * W + x) false := by unfold whiteP; rw [pxl_at _ _ _ _ _ hx hy]
  rw [hw] at h
  unfold shrB
  show decide (0 < depI kind W H L x y) = _
  have h : depI kind W H L x y = 0 ↔ (!L.getD (y * W + x) false) = true := h
  cases hb : L.getD (y * W + x) false
  · rw [hb] at h
    rw [h.2 rfl]
    rfl
  · rw [hb] at h
    rw [decide_eq_true_eq]
    have : depI kind W H L x y ≠ 0 := fun e => by have := h.1 e; cases this
    omega
/-- How far the farthest of some spots is from others. -/
def aprL (kind : Int) (ps qs : List (Int × Int)) : Int := (ps.map fun s => leastD (qs.map (farI kind s))).foldl mxI 0
theorem foldl_mx : ∀ (ds : List Int) (m : Int), m ≤ ds.foldl mxI m ∧ (∀ d, d ∈ ds → d ≤ ds.foldl mxI m) ∧ (ds.foldl mxI m = m ∨ ds.foldl mxI m ∈ ds)
  | [], m => ⟨Int.le_refl _, fun _ h => (List.not_mem_nil h).elim, .inl rfl⟩
  | d :: ds, m => by
    obtain ⟨h1, h2, h3⟩ := foldl_mx ds (mxI m d)
    have hm : m ≤ mxI m d ∧ d ≤ mxI m d ∧ (mxI m d = m ∨ mxI m d = d) := by unfold mxI; split <;> omega
    rw [List.foldl_cons]
    refine ⟨by omega, fun x hx => ?_, ?_⟩
    · rcases List.mem_cons.1 hx with rfl | hx
      · omega
      · exact h2 x hx
    · rcases h3 with h3 | h3
      · rcases hm.2.2 with e | e
        · left; rw [h3, e]
        · right; rw [h3, e]; exact List.mem_cons_self ..
      · right; exact List.mem_cons_of_mem _ h3
theorem aprL_ge {kind : Int} {ps qs : List (Int × Int)} {s : Int × Int} (h : s ∈ ps) : leastD (qs.map (farI kind s)) ≤ aprL kind ps qs := (foldl_mx _ 0).2.1 _ (List.mem_map_of_mem h)
theorem aprL_nn (kind : Int) (ps qs : List (Int × Int)) : 0 ≤ aprL kind ps qs := (foldl_mx _ 0).1
theorem aprL_zero {kind : Int} {ps qs : List (Int × Int)} (hq : qs ≠ []) : aprL kind ps qs = 0 ↔ ∀ s, s ∈ ps → s ∈ qs := by
  constructor
  · intro h s hs
    have h1 := aprL_ge (kind := kind) (qs := qs) hs
    rcases leastF (kind := kind) (p := s) qs with ⟨e, -⟩ | ⟨h2, -⟩
    · exact absurd e hq
    · exact least_zero.1 (show leastD (qs.map (farI kind s)) = 0 by omega)
  · intro h
    rcases (foldl_mx (ps.map fun s => leastD (qs.map (farI kind s))) 0).2.2 with e | e
    · exact e
    · obtain ⟨s, hs, e2⟩ := List.mem_map.1 e
      unfold aprL
      rw [← e2]
      exact least_zero.2 (h s hs)
theorem aprL_snoc (kind : Int) (ps qs : List (Int × Int)) (s : Int × Int) : aprL kind (ps ++ [s]) qs = mxI (aprL kind ps qs) (leastD (qs.map (farI kind s))) := by
  unfold aprL
  rw [List.map_append, List.foldl_append]
  rfl
theorem aprL_le {kind : Int} {ps qs : List (Int × Int)} {n : Int} (hn : 0 ≤ n) (h : ∀ s, s ∈ ps → leastD (qs.map (farI kind s)) ≤ n) : aprL kind ps qs ≤ n := by
  rcases (foldl_mx (ps.map fun s => leastD (qs.map (farI kind s))) 0).2.2 with e | e
  · unfold aprL; omega
  · obtain ⟨s, hs, e2⟩ := List.mem_map.1 e
    have := h s hs
    unfold aprL
    omega
/-- Growing by how far two are apart gives the other one. -/
theorem grow_apart {kind d : Int} {W H : Nat} {L L2 : List Bool} {x y : Nat} (hx : x < W) (hy : y < H) (hne : spotsTo W L (H * W) ≠ []) (hd : aprL kind (spotsTo W L2 (H * W)) (spotsTo W L (H * W)) ≤ d) (hb : L2.getD (y * W + x) false = true) : growB kind d W H L x y = true := by
  have hm := (spot_at (L := L2) hx hy).2 hb
  have h1 := aprL_ge (kind := kind) (qs := spotsTo W L (H * W)) hm
  unfold growB nearTo
  rw [Bool.and_eq_true, decide_eq_true_eq, decide_eq_true_eq]
  rcases leastF (kind := kind) (p := ((x : Int), (y : Int))) (spotsTo W L (H * W)) with ⟨e, -⟩ | ⟨h2, -⟩
  · exact absurd e hne
  · exact ⟨h2, by omega⟩
theorem apart_eq {kind : Int} {W H : Nat} {L L2 : List Bool} (hl : L.length = W * H) (hl2 : L2.length = W * H) (hne : spotsTo W L (H * W) ≠ []) (hne2 : spotsTo W L2 (H * W) ≠ []) :
    mxI (aprL kind (spotsTo W L (H * W)) (spotsTo W L2 (H * W))) (aprL kind (spotsTo W L2 (H * W)) (spotsTo W L (H * W))) = 0 ↔ L = L2 := by
  have n1 := aprL_nn kind (spotsTo W L (H * W)) (spotsTo W L2 (H * W))
  have n2 := aprL_nn kind (spotsTo W L2 (H * W)) (spotsTo W L (H * W))
  have z1 := aprL_zero (kind := kind) (ps := spotsTo W L (H * W)) hne2
  have z2 := aprL_zero (kind := kind) (ps := spotsTo W L2 (H * W)) hne
  have e : mxI (aprL kind (spotsTo W L (H * W)) (spotsTo W L2 (H * W))) (aprL kind (spotsTo W L2 (H * W)) (spotsTo W L (H * W))) = 0 ↔ (aprL kind (spotsTo W L (H * W)) (spotsTo W L2 (H * W)) = 0 ∧ aprL kind (spotsTo W L2 (H * W)) (spotsTo W L (H * W)) = 0) := by
    unfold mxI; split <;> omega
  rw [e, z1, z2]
  constructor
  · rintro ⟨h1, h2⟩
    apply List.ext_getElem (by rw [hl, hl2])
    intro k k1 k2
    rw [hl] at k1
    have hW : 0 < W := by
      rcases Nat.eq_zero_or_pos W with h | h
      · rw [h] at k1; simp at k1
      · exact h
    have hx : k % W < W := Nat.mod_lt _ hW
    have hy : k / W < H := Nat.div_lt_of_lt_mul k1
    have hk : k / W * W + k % W = k := by rw [Nat.mul_comm]; exact Nat.div_add_mod k W
    have g1 := (spot_at (L := L) hx hy)
    have g2 := (spot_at (L := L2) hx hy)
    rw [hk] at g1 g2
    have e3 : L.getD k false = L2.getD k false := by
      rw [Bool.eq_iff_iff, ← g1, ← g2]
      exact ⟨h1 _, h2 _⟩
    rw [List.getD_eq_getElem?_getD, List.getD_eq_getElem?_getD, List.getElem?_eq_getElem (by rw [hl]; exact k1), List.getElem?_eq_getElem k2] at e3
    exact e3
  · rintro rfl
    exact ⟨fun _ h => h, fun _ h => h⟩
end Go.Proofs.Ytahhnjoeaodcjaa
