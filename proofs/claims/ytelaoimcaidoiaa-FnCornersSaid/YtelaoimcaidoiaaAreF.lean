/- Areas of components, both sides. -/
import Derived.Test.YtelaoimcaidoiaaLabI
import Derived.Test.YtelaoimcaidoiaaLabS
namespace Go.Proofs.Ytelaoimcaidoiaa
open Go Go.RowKit
/-- How often the numbers 1 .. n come among the first k. -/
def cntL (h : Nat → Nat) (n k : Nat) : List Int := (List.range n).map fun j => (((List.range k).countP fun i => h i == j + 1 : Nat) : Int)
theorem cntL_len (h : Nat → Nat) (n k : Nat) : (cntL h n k).length = n := by simp [cntL]
theorem cntL_at (h : Nat → Nat) {n j : Nat} (k : Nat) (hj : j < n) : (cntL h n k).getD j 0 = (((List.range k).countP fun i => h i == j + 1 : Nat) : Int) := by
  unfold cntL
  rw [List.getD_eq_getElem?_getD, List.getElem?_map, List.getElem?_range hj]
  rfl
theorem cntL_zero (h : Nat → Nat) (n : Nat) : cntL h n 0 = List.replicate n 0 := by
  unfold cntL
  apply List.ext_getElem?
  intro k
  rw [List.getElem?_map, List.getElem?_replicate]
  by_cases hk : k < n
  · rw [List.getElem?_range hk, if_pos hk]; rfl
  · rw [List.getElem?_eq_none (by simp; omega), if_neg hk]; rfl
theorem cntL_no {h : Nat → Nat} {n k : Nat} (e : h k = 0) : cntL h n (k + 1) = cntL h n k := by
  unfold cntL
  refine List.map_congr_left fun j _ => ?_
  rw [List.range_succ, List.countP_append]
  simp [e]
theorem cntL_yes {h : Nat → Nat} {n k v : Nat} (e : h k = v + 1) (hv : v < n) : (cntL h n k).set v ((cntL h n k).getD v 0 + 1) = cntL h n (k + 1) := by
  apply List.ext_getElem?
  intro j
  rw [List.getElem?_set]
  by_cases ej : v = j
  · subst ej
    rw [if_pos rfl, if_pos (by rw [cntL_len]; exact hv), cntL_at h k hv]
    unfold cntL
    rw [List.getElem?_map, List.getElem?_range hv, Option.map_some, List.range_succ, List.countP_append]
    simp [e]
  · rw [if_neg ej]
    unfold cntL
    rw [List.getElem?_map, List.getElem?_map]
    by_cases hj : j < n
    · rw [List.getElem?_range hj, Option.map_some, Option.map_some, List.range_succ, List.countP_append]
      have : (h k == j + 1) = false := by rw [e]; simp; omega
      simp [this]
    · rw [List.getElem?_eq_none (by simp; omega)]; rfl
theorem cntL_le (h : Nat → Nat) {n j : Nat} (k : Nat) (hj : j < n) : 0 ≤ (cntL h n k).getD j 0 ∧ (cntL h n k).getD j 0 ≤ k := by
  rw [cntL_at h k hj]
  have h1 := List.countP_le_length (p := fun i => h i == j + 1) (l := List.range k)
  rw [List.length_range] at h1
  omega
/-- The number of pixel i. -/
def pixN (W : Nat) (f : Int × Int → Nat) (i : Nat) : Nat := f (((i % W : Nat) : Int), ((i / W : Nat) : Int))
/-- The areas. -/
def areL (W H : Nat) (f : Int × Int → Nat) (n : Nat) : List Int := cntL (pixN W f) n (H * W)
def IntsRet (w : World) (xs : List Int) (e : Ending) (w' : World) : Prop := ∃ a c, e = .returned (.slice a xs.length c) ∧ w.Ext w' ∧ OwnOf (Value.int .i64) 0 w.heap.size w'.heap.size w' a xs
theorem countP_one {L : List (Int × Int)} {p : Int × Int} {A B : Int × Int → Bool} (hnd : L.Nodup) (hp : p ∈ L) (hA : A p = false) (hB1 : B p = true) (hB : ∀ q, q ≠ p → B q = A q) : L.countP B = L.countP A + 1 := by
  induction L with
  | nil => cases hp
  | cons a L ih =>
    obtain ⟨h1, h2⟩ := List.nodup_cons.1 hnd
    rw [List.countP_cons, List.countP_cons]
    by_cases e : a = p
    · subst e
      have : L.countP B = L.countP A := List.countP_congr fun q hq => by rw [hB q (by rintro rfl; exact h1 hq)]
      rw [this, hA, hB1]
      simp
    · have := ih h2 (by
        rcases List.mem_cons.1 hp with h | h
        · exact absurd h.symm e
        · exact h)
      rw [this, hB a e]
      omega
theorem boxL_nodup (x0 y0 : Int) (W H : Nat) : (boxL x0 y0 W H).Nodup := by
  unfold boxL
  rw [List.Nodup, List.pairwise_map]
  refine List.Pairwise.imp (fun {i j} hne e => hne ?_) List.nodup_range
  simp only [Prod.mk.injEq] at e
  have h1 : i % W = j % W := by omega
  have h2 : i / W = j / W := by omega
  rw [← Nat.div_add_mod i W, ← Nat.div_add_mod j W, h1, h2]
/-- Counted are those that have come. -/
def cntB (BL : List (Int × Int)) (f : Int × Int → Nat) (left : Int × Int → Bool) (n : Nat) : List Int := (List.range n).map fun j => ((BL.countP fun q => f q == j + 1 && !left q : Nat) : Int)
theorem cntB_len (BL : List (Int × Int)) (f : Int × Int → Nat) (left : Int × Int → Bool) (n : Nat) : (cntB BL f left n).length = n := by simp [cntB]
theorem cntB_at (BL : List (Int × Int)) (f : Int × Int → Nat) (left : Int × Int → Bool) {n j : Nat} (hj : j < n) : (cntB BL f left n).getD j 0 = ((BL.countP fun q => f q == j + 1 && !left q : Nat) : Int) := by
  unfold cntB
  rw [List.getD_eq_getElem?_getD, List.getElem?_map, List.getElem?_range hj]
  rfl
theorem cntB_le (BL : List (Int × Int)) (f : Int × Int → Nat) (left : Int × Int → Bool) {n j : Nat} (hj : j < n) : 0 ≤ (cntB BL f left n).getD j 0 ∧ (cntB BL f left n).getD j 0 ≤ BL.length := by
  rw [cntB_at BL f left hj]
  have h1 := List.countP_le_length (p := fun q => f q == j + 1 && !left q) (l := BL)
  omega
theorem cntB_start (BL : List (Int × Int)) (f : Int × Int → Nat) (left : Int × Int → Bool) (n : Nat) (h : ∀ q, 0 < f q → left q = true) : cntB BL f left n = List.replicate n 0 := by
  unfold cntB
  apply List.ext_getElem?
  intro k
  rw [List.getElem?_map, List.getElem?_replicate]
  by_cases hk : k < n
  · rw [List.getElem?_range hk, if_pos hk, Option.map_some, List.countP_eq_zero.2]
    · rfl
    · intro q _ hq
      simp only [Bool.and_eq_true, beq_iff_eq, Bool.not_eq_true'] at hq
      rw [h q (by omega)] at hq
      cases hq.2
  · rw [List.getElem?_eq_none (by simp; omega), if_neg hk]; rfl
theorem cntB_step {BL : List (Int × Int)} {f : Int × Int → Nat} {left : Int × Int → Bool} {n v : Nat} {p : Int × Int} (hnd : BL.Nodup) (hp : p ∈ BL) (hl : left p = true) (hf : f p = v + 1) (hv : v < n) :
    (cntB BL f left n).set v ((cntB BL f left n).getD v 0 + 1) = cntB BL f (fun q => left q && !(q == p)) n := by
  apply List.ext_getElem?
  intro j
  rw [List.getElem?_set]
  by_cases ej : v = j
  · subst ej
    rw [if_pos rfl, if_pos (by rw [cntB_len]; exact hv), cntB_at BL f left hv]
    unfold cntB
    rw [List.getElem?_map, List.getElem?_range hv, Option.map_some]
    rw [countP_one (A := fun q => f q == v + 1 && !left q) (B := fun q => f q == v + 1 && !(left q && !(q == p))) hnd hp (by simp [hl]) (by simp [hf]) (fun q hq => by rw [beq_eq_false_iff_ne.2 hq]; simp)]
    rfl
  · rw [if_neg ej]
    unfold cntB
    rw [List.getElem?_map, List.getElem?_map]
    by_cases hj : j < n
    · rw [List.getElem?_range hj, Option.map_some, Option.map_some]
      congr 2
      refine List.countP_congr fun q _ => ?_
      by_cases e : q = p
      · subst e
        simp [hf]
        omega
      · simp [e]
    · rw [List.getElem?_eq_none (by simp; omega)]; rfl
theorem cntB_done (W H : Nat) (f : Int × Int → Nat) (left : Int × Int → Bool) (n : Nat) (h : ∀ q, left q = false) : cntB (boxL 0 0 W H) f left n = areL W H f n := by
  unfold cntB areL cntL boxL
  refine List.map_congr_left fun j _ => ?_
  rw [List.countP_map]
  congr 1
  refine List.countP_congr fun i _ => ?_
  simp [h, pixN]
/-- The areas under way. -/
def ArSt2 (W3 : World) (g : Nat) (xs : List Int) (wr : World) : Prop := LsSt W3 g xs wr
theorem LsSt.grown {W3 : World} {g r : Nat} {xs : List Int} {wr w' : World} (h : LsSt W3 g xs wr) (hg : wr.grownBy w' (some r)) (h1 : r ≠ g) (h2 : W3.heap.size ≤ r) : LsSt W3 g xs w' :=
  ⟨h.1.trans ⟨hg.os, hg.tape, hg.output, hg.size, fun k hk hs => hg.block k hk (by simp only [ne_eq, Option.some.injEq]; exact fun e => hs (.inr (by omega)))⟩, h.2.keep (hg.block g h.2.lt (by simp only [ne_eq, Option.some.injEq]; omega))⟩
theorem areL_len (W H : Nat) (f : Int × Int → Nat) (n : Nat) : (areL W H f n).length = n := cntL_len _ _ _
def optZ (ok : Bool) (xs : List Int) : List Int := if ok then xs else []
def IntsRet2 (w : World) (xs : List Int) (ok : Bool) (e : Ending) (w' : World) : Prop := ∃ a c, e = .returned (.tuple #[.slice a xs.length c, .bool ok]) ∧ w.Ext w' ∧ OwnOf (Value.int .i64) 0 w.heap.size w'.heap.size w' a xs
def LabP (ss : List ByteArray) (eight : Bool) (F : Int × Int → Nat) (n : Nat) : Prop := LabK (pxP (picW ss) ss.length (picL ss)) (nbA eight) (spotsTo (picW ss) (picL ss) (ss.length * picW ss)) (spotsTo (picW ss) (picL ss) (ss.length * picW ss)).length F n
theorem LabP.ex (ss : List ByteArray) (eight : Bool) : ∃ F n, LabP ss eight F n := LabK.ex _ _ _ _
theorem LabP.few {ss : List ByteArray} {eight : Bool} {F : Int × Int → Nat} {n : Nat} (h : LabP ss eight F n) (hW : picW ss ≤ 64) (hH : ss.length ≤ 64) : n ≤ 4096 := Nat.le_trans (Nat.le_trans (LabK.few h).1 (spotsTo_len _ _ _)) (Nat.mul_le_mul hH hW)
theorem areas_bnd {ss : List ByteArray} {eight : Bool} {F : Int × Int → Nat} {n : Nat} (h : LabP ss eight F n) : (optZ (picOk ss) (areL (picW ss) ss.length F n)).length ≤ 1048576 := by
  cases hk : picOk ss
  · simp [optZ]
  · obtain ⟨v1, v2, v3, v4, e1, -⟩ := picOk_spec hk
    have := h.few (by omega) (by omega)
    show (areL _ _ _ _).length ≤ _
    rw [areL_len]
    omega
end Go.Proofs.Ytelaoimcaidoiaa
