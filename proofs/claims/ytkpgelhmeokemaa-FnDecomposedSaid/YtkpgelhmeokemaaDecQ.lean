/- Plain: growing by a sum of elements far from the edges; factors of an element. -/
import Derived.Test.YtkpgelhmeokemaaDecP
import Derived.Test.YtkpgelhmeokemaaOpnP
import Derived.Test.YtkpgelhmeokemaaReach
namespace Go.Proofs.Ytkpgelhmeokemaa
open Go Go.RowKit
theorem someB_true {W H : Nat} {l : List Bool} {os : List (Int × Int)} {x y : Int} : someB W H l os x y = true ↔ ∃ o, o ∈ os ∧ pxl W H l (x - o.1) (y - o.2) = true := by unfold someB; rw [List.any_eq_true]
/-- Growing by a sum is growing by both. -/
theorem grow_sum {l : List Bool} {a b : List (Int × Int)} (hl : ∀ x y, pxl 16 16 l x y = true → 6 ≤ x ∧ x ≤ 9 ∧ 6 ≤ y ∧ y ≤ 9) (ha : ∀ x, x ∈ a → -2 ≤ x.1 ∧ x.1 ≤ 2 ∧ -2 ≤ x.2 ∧ x.2 ≤ 2) (hb : ∀ x, x ∈ b → -2 ≤ x.1 ∧ x.1 ≤ 2 ∧ -2 ≤ x.2 ∧ x.2 ≤ 2) (x y : Nat) :
    someB 16 16 (mkl 16 16 fun i j => someB 16 16 l a i j) b x y = someB 16 16 l (sumL a b) x y := by
  rw [Bool.eq_iff_iff, someB_true, someB_true]
  constructor
  · rintro ⟨q, hq, h⟩
    obtain ⟨i, j, e1, e2, -, -, h⟩ := pxl_mk.1 h
    obtain ⟨o, ho, h⟩ := someB_true.1 h
    refine ⟨(o.1 + q.1, o.2 + q.2), (setL_iff _).2 (sumP_mem.2 ⟨o, ho, q, hq, rfl⟩), ?_⟩
    rw [← e1, ← e2] at h
    rw [show (x : Int) - (o.1 + q.1, o.2 + q.2).1 = x - q.1 - o.1 by simp only; omega, show (y : Int) - (o.1 + q.1, o.2 + q.2).2 = y - q.2 - o.2 by simp only; omega]
    exact h
  · rintro ⟨d, hd, h⟩
    obtain ⟨o, ho, q, hq, rfl⟩ := sumP_mem.1 ((setL_iff _).1 hd)
    have h1 := ha o ho
    have h2 := hb q hq
    simp only at h
    have h3 := hl _ _ h
    refine ⟨q, hq, pxl_mk.2 ⟨((x : Int) - q.1).toNat, ((y : Int) - q.2).toNat, by omega, by omega, by omega, by omega, someB_true.2 ⟨o, ho, ?_⟩⟩⟩
    rw [show (((x : Int) - q.1).toNat : Int) - o.1 = x - (o.1 + q.1) by omega, show (((y : Int) - q.2).toNat : Int) - o.2 = y - (o.2 + q.2) by omega]
    exact h
/-- The spots of a small picture, moved to the middle: what a round of the rows leaves, up to a pixel. -/
def midL (f : Nat → Nat → Bool) (W k : Nat) : List (Int × Int) := ((List.range k).filter fun i => f (i % W) (i / W)).map fun i => (((i % W : Nat) : Int) + 6, ((i / W : Nat) : Int) + 6)
theorem midL_no {f : Nat → Nat → Bool} {W x y : Nat} (hx : x < W) (h : f x y = false) : midL f W (y * W + (x + 1)) = midL f W (y * W + x) := by
  unfold midL
  rw [← Nat.add_assoc, List.range_succ, List.filter_append, List.map_append]
  have e1 : (y * W + x) % W = x := by rw [Nat.mul_comm, Nat.mul_add_mod, Nat.mod_eq_of_lt hx]
  have e2 : (y * W + x) / W = y := by rw [Nat.mul_comm, Nat.mul_add_div (by omega), Nat.div_eq_of_lt hx, Nat.add_zero]
  simp [e1, e2, h]
theorem midL_yes {f : Nat → Nat → Bool} {W x y : Nat} (hx : x < W) (h : f x y = true) : midL f W (y * W + (x + 1)) = midL f W (y * W + x) ++ [((x : Int) + 6, (y : Int) + 6)] := by
  unfold midL
  rw [← Nat.add_assoc, List.range_succ, List.filter_append, List.map_append]
  have e1 : (y * W + x) % W = x := by rw [Nat.mul_comm, Nat.mul_add_mod, Nat.mod_eq_of_lt hx]
  have e2 : (y * W + x) / W = y := by rw [Nat.mul_comm, Nat.mul_add_div (by omega), Nat.div_eq_of_lt hx, Nat.add_zero]
  rw [List.filter_cons_of_pos (by simp only [e1, e2]; exact h), List.filter_nil, List.map_singleton, e1, e2]
theorem midL_len (f : Nat → Nat → Bool) (W k : Nat) : (midL f W k).length ≤ k := by
  unfold midL
  rw [List.length_map]
  have := List.length_filter_le (fun i => f (i % W) (i / W)) (List.range k)
  rwa [List.length_range] at this
theorem midL_in {f : Nat → Nat → Bool} {W H : Nat} (hW : 1 ≤ W) (hW4 : W ≤ 4) (hH4 : H ≤ 4) {d : Int × Int} (hd : d ∈ midL f W (H * W)) : 6 ≤ d.1 ∧ d.1 ≤ 9 ∧ 6 ≤ d.2 ∧ d.2 ≤ 9 := by
  unfold midL at hd
  rw [List.mem_map] at hd
  obtain ⟨i, hi, rfl⟩ := hd
  have h1 := List.mem_range.1 (List.mem_filter.1 hi).1
  have h2 := Nat.mod_lt i (show W > 0 by omega)
  have h3 : i / W < H := Nat.div_lt_of_lt_mul (by rw [Nat.mul_comm]; exact h1)
  simp only
  generalize i % W = r at *
  generalize i / W = t at *
  omega
theorem inL_mid {ds : List (Int × Int)} (h : ∀ d, d ∈ ds → 6 ≤ d.1 ∧ d.1 ≤ 9 ∧ 6 ≤ d.2 ∧ d.2 ≤ 9) (x y : Int) (hp : pxl 16 16 (mkl 16 16 (inL ds)) x y = true) : 6 ≤ x ∧ x ≤ 9 ∧ 6 ≤ y ∧ y ≤ 9 := by
  obtain ⟨i, j, rfl, rfl, -, -, h1⟩ := pxl_mk.1 hp
  exact h _ (of_decide_eq_true h1)
/-- The offsets that are tried as a factor, in order. -/
def facC (k : Nat) : Int × Int := (((k % 9 : Nat) : Int) - 4, ((k / 9 : Nat) : Int))
def facB (e : List (Int × Int)) (o : Int × Int) : List (Int × Int) := e.filter fun q => decide ((q.1 + o.1, q.2 + o.2) ∈ e)
def facS (e : List (Int × Int)) (o : Int × Int) : List (Int × Int) := sumL [(0, 0), o] (facB e o)
def facG (e : List (Int × Int)) (k : Nat) : Bool := decide (0 < ordJ (facC k) (0, 0)) && decide (facS e (facC k) = e)
def facN (e : List (Int × Int)) (k : Nat) : Prop := ∀ i, i < k → facG e i = false
theorem facN_zero (e : List (Int × Int)) : facN e 0 := fun i h => by omega
theorem facN_next {e : List (Int × Int)} {k : Nat} (h : facN e k) (h2 : facG e k = false) : facN e (k + 1) := fun i hi => by
  by_cases he : i = k
  · rw [he]; exact h2
  · exact h i (by omega)
theorem facC_at {x y : Nat} (hx : x < 9) : facC (y * 9 + x) = ((x : Int) - 4, (y : Int)) := by
  unfold facC
  have e1 : (y * 9 + x) % 9 = x := by omega
  have e2 : (y * 9 + x) / 9 = y := by omega
  rw [e1, e2]
theorem facB_sub {e : List (Int × Int)} {o q : Int × Int} (h : q ∈ facB e o) : q ∈ e := (List.mem_filter.1 h).1
theorem facB_len (e : List (Int × Int)) (o : Int × Int) : (facB e o).length ≤ e.length := List.length_filter_le _ _
theorem facB_take {e es : List (Int × Int)} {o : Int × Int} {k : Nat} (hk : k < e.length) : (e.take (k + 1)).filter (fun q => decide ((q.1 + o.1, q.2 + o.2) ∈ es)) = (e.take k).filter (fun q => decide ((q.1 + o.1, q.2 + o.2) ∈ es)) ++ if ((e.getD k (0, 0)).1 + o.1, (e.getD k (0, 0)).2 + o.2) ∈ es then [e.getD k (0, 0)] else [] := by
  rw [List.take_succ_eq_append_getElem hk, List.filter_append, List.getD_eq_getElem?_getD, List.getElem?_eq_getElem hk]
  congr 1
  simp only [Option.getD_some, List.filter_cons, List.filter_nil, decide_eq_true_eq]
/-- A factor that is found: both are elements, and the sum is the element. -/
theorem fac_ok {e : List (Int × Int)} {k : Nat} (he : elemOk e = true) (hk : k < 45) (hg : facG e k = true) : elemOk [(0, 0), facC k] = true ∧ elemOk (facB e (facC k)) = true ∧ sumL [(0, 0), facC k] (facB e (facC k)) = e := by
  unfold facG at hg
  rw [Bool.and_eq_true, decide_eq_true_iff, decide_eq_true_iff] at hg
  obtain ⟨h1, h2⟩ := hg
  have hord : ordJ (0, 0) (facC k) < 0 := by
    refine ordJ_tot (by omega) fun e => ?_
    rw [← e] at h1
    have : ordJ (0, 0) (0, 0) = 0 := rfl
    omega
  have hc : offOk (facC k) = true := offOk_iff.2 (by unfold facC; simp only; omega)
  obtain ⟨e1, e2, -⟩ := elemOk_spec he
  refine ⟨Offs.ok ⟨?_, ?_⟩ (by simp) (by simp), Offs.ok ⟨?_, fun x hx => elemOk_off he (facB_sub hx)⟩ ?_ (by have := facB_len e (facC k); omega), h2⟩
  · rw [List.pairwise_cons]
    exact ⟨fun x hx => by rw [List.mem_singleton] at hx; rw [hx]; exact bef_ord.2 hord, List.pairwise_singleton _ _⟩
  · intro x hx
    rcases List.mem_cons.1 hx with rfl | hx
    · rfl
    · rw [List.mem_singleton] at hx
      rw [hx]
      exact hc
  · exact ((elemOk_incr he).imp fun h => bef_ord.2 h).sublist List.filter_sublist
  · refine Nat.pos_of_ne_zero fun h0 => ?_
    have h3 := sumP_len (facB e (facC k)) [(0, 0), facC k]
    have h4 := setL_len (sumP [(0, 0), facC k] (facB e (facC k)))
    unfold facS sumL at h2
    rw [h2] at h4
    rw [h0] at h3
    omega
theorem facS_few {e : List (Int × Int)} (o : Int × Int) (h : e.length ≤ 50) : (sumP [(0, 0), o] (facB e o)).length ≤ 100 := by
  have h1 := sumP_len (facB e o) [(0, 0), o]
  have h2 := facB_len e o
  simp only [List.length_cons, List.length_nil] at h1
  omega
end Go.Proofs.Ytkpgelhmeokemaa
