/- Numbers of components: the reference's side. -/
import Derived.Test.YtelaoimcaidoiaaListS
import Derived.Test.YtelaoimcaidoiaaLab
import Derived.Test.YtelaoimcaidoiaaRecF
namespace Go.Proofs.Ytelaoimcaidoiaa
open Go.RowKit
/-- The numbers under way: of all that was there behind W3, just block g has been written. -/
def LsSt (W3 : World) (g : Nat) (xs : List Int) (wr : World) : Prop := Wrote (fun k => k = g ∨ W3.heap.size ≤ k) W3 wr ∧ BlkOf (Value.int .i64) wr g 2 xs
theorem LsSt.ext {W3 : World} {g : Nat} {xs : List Int} {wr w' : World} (h : LsSt W3 g xs wr) (hx : wr.Ext w') : LsSt W3 g xs w' := ⟨h.1.trans (hx.wrote _), h.2.ext hx⟩
theorem LsSt.set {W3 : World} {g : Nat} {xs : List Int} {wr : World} (h : LsSt W3 g xs wr) (k : Nat) (v : Int) : LsSt W3 g (xs.set k v) (wr.setCell ⟨g, k, none⟩ (.int .i64 v)) := ⟨h.1.setCell (p := ⟨g, k, none⟩) (.inl rfl) _, h.2.set k v⟩
/-- Numbers of all pixels, in reading order. -/
def numL (W H : Nat) (f : Int × Int → Nat) : List Int := (List.range (H * W)).map fun j => (f (((j % W : Nat) : Int), ((j / W : Nat) : Int)) : Int)
theorem numL_len (W H : Nat) (f : Int × Int → Nat) : (numL W H f).length = H * W := by simp [numL]
theorem numL_at (W H : Nat) (f : Int × Int → Nat) {x y : Nat} (hx : x < W) (hy : y < H) : (numL W H f).getD (y * W + x) 0 = (f ((x : Int), (y : Int)) : Int) := by
  have e1 : (y * W + x) % W = x := by rw [Nat.mul_comm, Nat.mul_add_mod, Nat.mod_eq_of_lt hx]
  have e2 : (y * W + x) / W = y := by rw [Nat.mul_comm, Nat.mul_add_div (by omega), Nat.div_eq_of_lt hx]; rfl
  have hk : y * W + x < H * W := by
    have := Nat.mul_le_mul_right W (show y + 1 ≤ H by omega)
    rw [Nat.add_mul] at this
    omega
  unfold numL
  rw [List.getD_eq_getElem?_getD, List.getElem?_map, List.getElem?_range hk]
  simp only [Option.map_some, Option.getD_some, e1, e2]
theorem numL_zero (W H : Nat) : numL W H (fun _ => 0) = List.replicate (H * W) 0 := by
  unfold numL
  apply List.ext_getElem?
  intro k
  rw [List.getElem?_map, List.getElem?_replicate]
  by_cases hk : k < H * W
  · rw [List.getElem?_range hk, if_pos hk]; rfl
  · rw [List.getElem?_eq_none (by simp; omega), if_neg hk]; rfl
/-- Of the first k pixels those of a part have the number m. -/
def mixL (W H : Nat) (g : Nat → Nat → Bool) (m : Nat) (f : Int × Int → Nat) (k : Nat) : List Int :=
  (List.range (H * W)).map fun j => if j < k ∧ g (j % W) (j / W) = true then (m : Int) else (f (((j % W : Nat) : Int), ((j / W : Nat) : Int)) : Int)
theorem mixL_len (W H : Nat) (g : Nat → Nat → Bool) (m : Nat) (f : Int × Int → Nat) (k : Nat) : (mixL W H g m f k).length = H * W := by simp [mixL]
theorem mixL_zero (W H : Nat) (g : Nat → Nat → Bool) (m : Nat) (f : Int × Int → Nat) : mixL W H g m f 0 = numL W H f := by
  unfold mixL numL
  refine List.map_congr_left fun j _ => ?_
  rw [if_neg (by omega)]
theorem mixL_all (W H : Nat) (g : Nat → Nat → Bool) (m : Nat) (f f' : Int × Int → Nat) (h : ∀ x y : Nat, x < W → y < H → (g x y = true → f' ((x : Int), (y : Int)) = m) ∧ (g x y = false → f' ((x : Int), (y : Int)) = f ((x : Int), (y : Int)))) : mixL W H g m f (H * W) = numL W H f' := by
  unfold mixL numL
  refine List.map_congr_left fun j hj => ?_
  have hj' : j < H * W := by simpa using hj
  have hW : 0 < W := by
    rcases Nat.eq_zero_or_pos W with e | e
    · rw [e] at hj'; simp at hj'
    · exact e
  have hx : j % W < W := Nat.mod_lt _ hW
  have hy : j / W < H := Nat.div_lt_of_lt_mul (by rw [Nat.mul_comm]; exact hj')
  obtain ⟨h1, h2⟩ := h _ _ hx hy
  cases hg : g (j % W) (j / W)
  · rw [if_neg (by simp), h2 hg]
  · rw [if_pos ⟨hj', rfl⟩, h1 hg]
theorem mixL_no {W H : Nat} {g : Nat → Nat → Bool} {m : Nat} {f : Int × Int → Nat} {k : Nat} (h : g (k % W) (k / W) = false) : mixL W H g m f (k + 1) = mixL W H g m f k := by
  unfold mixL
  refine List.map_congr_left fun j _ => ?_
  by_cases e : j = k
  · subst e
    rw [if_neg (by rw [h]; simp), if_neg (by omega)]
  · have : (j < k + 1 ∧ g (j % W) (j / W) = true) ↔ (j < k ∧ g (j % W) (j / W) = true) := by
      constructor <;> rintro ⟨h1, h2⟩ <;> exact ⟨by omega, h2⟩
    simp only [this]
theorem mixL_yes {W H : Nat} {g : Nat → Nat → Bool} {m : Nat} {f : Int × Int → Nat} {k : Nat} (hk : k < H * W) (h : g (k % W) (k / W) = true) : (mixL W H g m f k).set k (m : Int) = mixL W H g m f (k + 1) := by
  apply List.ext_getElem?
  intro j
  rw [List.getElem?_set]
  by_cases e : k = j
  · subst e
    rw [if_pos rfl, if_pos (by rw [mixL_len]; exact hk)]
    unfold mixL
    rw [List.getElem?_map, List.getElem?_range hk]
    simp [h]
  · rw [if_neg e]
    unfold mixL
    rw [List.getElem?_map, List.getElem?_map]
    by_cases hj : j < H * W
    · rw [List.getElem?_range hj]
      simp only [Option.map_some]
      have : (j < k + 1 ∧ g (j % W) (j / W) = true) ↔ (j < k ∧ g (j % W) (j / W) = true) := by
        constructor <;> rintro ⟨h1, h2⟩ <;> exact ⟨by omega, h2⟩
      simp only [this]
    · rw [List.getElem?_eq_none (by simp; omega)]; rfl
def LabSRet (w : World) (W H : Nat) (f : Int × Int → Nat) (n : Nat) (e : Ending) (w' : World) : Prop :=
  ∃ a c, e = .returned (.tuple #[.slice a (W * H) c, .int .i64 n]) ∧ w.Ext w' ∧ OwnOf (Value.int .i64) 0 w.heap.size w'.heap.size w' a (numL W H f)
/-- .. with just that room. -/
def LabCRet (w : World) (W H : Nat) (f : Int × Int → Nat) (n : Nat) (e : Ending) (w' : World) : Prop :=
  ∃ a, e = .returned (.tuple #[.slice a (W * H) (W * H), .int .i64 n]) ∧ w.Ext w' ∧ OwnOf (Value.int .i64) 0 w.heap.size w'.heap.size w' a (numL W H f)
theorem LabCRet.any {w w' : World} {W H n : Nat} {f : Int × Int → Nat} {e : Ending} (h : LabCRet w W H f n e w') : LabSRet w W H f n e w' := let ⟨a, h1, h2⟩ := h; ⟨a, _, h1, h2⟩
end Go.Proofs.Ytelaoimcaidoiaa
