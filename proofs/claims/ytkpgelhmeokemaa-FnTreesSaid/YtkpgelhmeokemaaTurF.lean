/- The program's TurnPicture; equal trees. -/
import Derived.Test.YtkpgelhmeokemaaQtD
import Derived.Test.YtkpgelhmeokemaaTreeR
import Derived.Test.YtkpgelhmeokemaaJoinF
namespace Go.Proofs.Ytkpgelhmeokemaa
open Go Go.RowKit
@[go_sem] theorem Try.eqTreeQ (a b : Int) (s t : ByteArray) (w : World) : (Op.equalIn 10000 29 (.agg #[.int .i64 a, .string s]) (.agg #[.int .i64 b, .string t])).run Try.prog w = .ok (a == b && s.toList == t.toList) w := by
  have u3 := Try.underlying2
  have u9 := Try.underlying9
  have hS : Try.prog.underlying 29 = some (.struct (Try.prog.fieldsOf 29)) := by kernel_rfl
  have hp : Try.prog.stoodInHeld 29 = false := by kernel_rfl
  rw [show (10000 : Nat) = 9999 + 1 from rfl, run_equalIn_agg w 9999 29 _ _ hS hp]
  simp only [Program.fieldsOf, Try.underlying29]
  go_simp
  by_cases h1 : a = b <;> by_cases h2 : s.toList = t.toList <;> simp [h1, h2]
theorem opn_m {n m : Nat} (hm : m = 2 ^ n) (hn : n ≤ 4) (g : Nat → Nat → Bool) : opn (m : Int) (txG n g) = some (n, qtr g n 0 0) := by rw [hm]; exact opn_tx hn g
theorem txG_ok {n : Nat} (hn : n ≤ 4) (g : Nat → Nat → Bool) : (txG n g).size ≤ 1048576 := Nat.le_trans (txG_size g hn) (by decide)
theorem qtr_at {n : Nat} (g : Nat → Nat → Bool) {i j : Nat} (hi : i < 2 ^ n) (hj : j < 2 ^ n) : (qtr g n 0 0).on n 0 0 i j = g i j := qtr_on g n 0 0 i j (Nat.zero_le _) (by omega) (Nat.zero_le _) (by omega)
theorem treeOf_m (a : Option Addr) (c : Nat) (ss : List ByteArray) (n m : Nat) (g : Nat → Nat → Bool) (w : World) (hm : m = 2 ^ n) (hn : n ≤ 4) (hP : PicOf m m ss) (hg : ∀ i j, i < m → j < m → (picL ss).getD (j * m + i) false = g i j) (hr : RowS w a ss) :
    Calls Try.prog 8 #[.agg #[.slice a m c]] w fun e w' => e = .returned (.tuple #[.agg #[.int .i64 m, .string (txG n g)], .bool true]) ∧ w.Ext w' := by
  obtain ⟨h1, h2, h3⟩ := hP
  have h := implTreeOf_any a c ss n g w hn (by rw [h3, hm]) (by rw [h2, hm]) h1 (by rw [← hm]; exact hg) hr
  rw [h2, ← hm] at h
  exact h
theorem leaves_m (n m : Nat) (f : Nat → Nat → Bool) (w : World) (hm : m = 2 ^ n) (hn : n ≤ 4) :
    Calls Try.prog 10 #[.agg #[.int .i64 m, .string (txG n f)]] w (TabRet w (lvM ((qtr f n 0 0).lvs n 0 0 ⟨#[]⟩))) := implLeavesOf_any m (txG n f) n _ w (txG_ok hn f) (opn_m hm hn f)
end Go.Proofs.Ytkpgelhmeokemaa
