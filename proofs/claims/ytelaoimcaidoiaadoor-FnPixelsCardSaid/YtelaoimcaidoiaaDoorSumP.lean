/- Sums over numbers; over the black pixels. -/
import Derived.Test.YtelaoimcaidoiaaDoorReach
namespace Go.Proofs.YtelaoimcaidoiaaDoor
open Go Go.RowKit
def sumN (f : Nat → Nat) : Nat → Nat
  | 0 => 0
  | n + 1 => sumN f n + f n
theorem sumN_congr {f g : Nat → Nat} : ∀ n, (∀ i, i < n → f i = g i) → sumN f n = sumN g n
  | 0, _ => rfl
  | n + 1, h => by show sumN f n + f n = sumN g n + g n; rw [sumN_congr n (fun i hi => h i (by omega)), h n (by omega)]
theorem sumN_add (f g : Nat → Nat) : ∀ n, sumN (fun i => f i + g i) n = sumN f n + sumN g n
  | 0 => rfl
  | n + 1 => by show sumN _ n + (f n + g n) = (sumN f n + f n) + (sumN g n + g n); rw [sumN_add f g n]; omega
theorem sumN_zero : ∀ n, sumN (fun _ => 0) n = 0
  | 0 => rfl
  | n + 1 => by show sumN _ n + 0 = 0; rw [sumN_zero n]
theorem sumN_swap (f : Nat → Nat → Nat) (m : Nat) : ∀ n, sumN (fun y => sumN (fun x => f x y) m) n = sumN (fun x => sumN (fun y => f x y) n) m
  | 0 => (sumN_zero m).symm
  | n + 1 => by
    show sumN (fun y => sumN (fun x => f x y) m) n + sumN (fun x => f x n) m = sumN (fun x => sumN (fun y => f x y) n + f x n) m
    rw [sumN_swap f m n, sumN_add]
theorem sumN_more (f : Nat → Nat) (a : Nat) : ∀ n, sumN f (a + n) = sumN f a + sumN (fun x => f (a + x)) n
  | 0 => rfl
  | n + 1 => by show sumN f (a + n) + f (a + n) = sumN f a + (sumN _ n + f (a + n)); rw [sumN_more f a n]; omega
theorem sumN_rows (f : Nat → Nat) (W : Nat) : ∀ H, sumN f (H * W) = sumN (fun y => sumN (fun x => f (y * W + x)) W) H
  | 0 => by rw [Nat.zero_mul]; rfl
  | H + 1 => by
    rw [Nat.succ_mul, sumN_more, sumN_rows f W H]
    rfl
theorem spots_sum (W : Nat) (L : List Bool) (g : Int × Int → Nat) : ∀ k, ((spotsTo W L k).map g).sum = sumN (fun i => if L.getD i false then g (((i % W : Nat) : Int), ((i / W : Nat) : Int)) else 0) k
  | 0 => by simp [spotsTo, sumN]
  | k + 1 => by
    show _ = sumN _ k + _
    rw [← spots_sum W L g k]
    unfold spotsTo
    rw [List.range_succ, List.filter_append, List.map_append, List.map_append, List.sum_append]
    show _ + _ = _ + (if L.getD k false = true then _ else 0)
    cases h : L.getD k false
    · rw [List.filter_cons_of_neg (by rw [h]; decide), if_neg (by decide)]; rfl
    · rw [List.filter_cons_of_pos (by rw [h]), if_pos rfl]
      show _ + (_ + 0) = _
      rw [Nat.add_zero]
theorem pxl_off {W H : Nat} {L : List Bool} {x y : Int} (h : x < 0 ∨ (W : Int) ≤ x ∨ y < 0 ∨ (H : Int) ≤ y) : pxl W H L x y = false := by
  apply pxl_out
  rw [Bool.eq_false_iff]
  intro h2
  have := hasB_true.1 h2
  omega
end Go.Proofs.YtelaoimcaidoiaaDoor
