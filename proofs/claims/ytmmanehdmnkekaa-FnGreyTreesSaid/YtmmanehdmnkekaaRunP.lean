/- Runs of a picture, as plain lists. -/
import Derived.Test.YtmmanehdmnkekaaPic
namespace Go.Proofs.Ytmmanehdmnkekaa
open Go Go.RowKit
/-- The last run is one longer. -/
def incL (R : List (List Int)) : List (List Int) := R.set (R.length - 1) ((R.getD (R.length - 1) []).set 2 ((R.getD (R.length - 1) []).getD 2 0 + 1))
/-- The runs among the first pixels. -/
def runsTo (W : Nat) (l : List Bool) : Nat → List (List Int)
  | 0 => []
  | k + 1 => if l.getD k false = true then (if k % W ≠ 0 ∧ l.getD (k - 1) false = true then incL (runsTo W l k) else runsTo W l k ++ [[((k / W : Nat) : Int), ((k % W : Nat) : Int), 1]]) else runsTo W l k
theorem incL_append (R : List (List Int)) (a b c : Int) : incL (R ++ [[a, b, c]]) = R ++ [[a, b, c + 1]] := by
  unfold incL
  have h : (R ++ [[a, b, c]]).length - 1 = R.length := by simp
  have h2 : (R ++ [[a, b, c]]).getD R.length [] = [a, b, c] := by simp [List.getD_eq_getElem?_getD]
  rw [h, h2, List.set_append_right _ _ (Nat.le_refl _)]
  simp
theorem runsTo_no {W : Nat} {l : List Bool} {k : Nat} (h : l.getD k false = false) : runsTo W l (k + 1) = runsTo W l k := by
  show (if l.getD k false = true then _ else _) = _
  rw [if_neg (by rw [h]; decide)]
theorem runsTo_new {W : Nat} {l : List Bool} {x y : Nat} (hx : x < W) (h : l.getD (y * W + x) false = true) (hp : x = 0 ∨ l.getD (y * W + x - 1) false = false) :
    runsTo W l (y * W + x + 1) = runsTo W l (y * W + x) ++ [[(y : Int), (x : Int), 1]] := by
  show (if l.getD (y * W + x) false = true then _ else _) = _
  have hm : (y * W + x) % W = x := by rw [Nat.add_comm, Nat.add_mul_mod_self_right, Nat.mod_eq_of_lt hx]
  have hd : (y * W + x) / W = y := by rw [Nat.add_comm, Nat.add_mul_div_right _ _ (by omega), Nat.div_eq_of_lt hx, Nat.zero_add]
  rw [if_pos h, if_neg, hm, hd]
  rintro ⟨h1, h2⟩
  rw [hm] at h1
  rcases hp with hp | hp
  · exact h1 hp
  · rw [hp] at h2; cases h2
theorem runsTo_inc {W : Nat} {l : List Bool} {x y : Nat} (hx : x < W) (hx0 : 0 < x) (h : l.getD (y * W + x) false = true) (hp : l.getD (y * W + x - 1) false = true) :
    runsTo W l (y * W + x + 1) = incL (runsTo W l (y * W + x)) := by
  show (if l.getD (y * W + x) false = true then _ else _) = _
  have hm : (y * W + x) % W = x := by rw [Nat.add_comm, Nat.add_mul_mod_self_right, Nat.mod_eq_of_lt hx]
  rw [if_pos h, if_pos ⟨by rw [hm]; omega, hp⟩]
theorem runsTo_run {W : Nat} {l : List Bool} {x y : Nat} : ∀ (j : Nat), x + j < W → (∀ i, i ≤ j → l.getD (y * W + (x + i)) false = true) → (x = 0 ∨ l.getD (y * W + x - 1) false = false) →
    runsTo W l (y * W + (x + j) + 1) = runsTo W l (y * W + x) ++ [[(y : Int), (x : Int), (j : Int) + 1]]
  | 0, hx, h, hp => runsTo_new hx (h 0 (Nat.le_refl _)) hp
  | j + 1, hx, h, hp => by
    have ih := runsTo_run (W := W) (l := l) (x := x) (y := y) j (by omega) (fun i hi => h i (by omega)) hp
    have h1 := h j (by omega)
    have h2 := h (j + 1) (Nat.le_refl _)
    rw [runsTo_inc (x := x + (j + 1)) hx (by omega) h2 (by rw [show y * W + (x + (j + 1)) - 1 = y * W + (x + j) by omega]; exact h1), show y * W + (x + (j + 1)) = y * W + (x + j) + 1 by omega, ih, incL_append]
    simp
theorem incL_len (R : List (List Int)) : (incL R).length = R.length := by simp [incL]
theorem runsTo_len (W : Nat) (l : List Bool) : ∀ k, (runsTo W l k).length ≤ k
  | 0 => Nat.le_refl _
  | k + 1 => by
    have ih := runsTo_len W l k
    show (if l.getD k false = true then _ else _ : List (List Int)).length ≤ _
    split
    · split
      · rw [incL_len]; omega
      · simp; omega
    · omega
/-- Three numbers each, none great. -/
def RunsFit (k : Nat) (R : List (List Int)) : Prop := ∀ r, r ∈ R → ∃ a b c : Nat, r = [(a : Int), (b : Int), (c : Int)] ∧ a ≤ k ∧ b ≤ k ∧ c ≤ k
theorem runsTo_fit (W : Nat) (l : List Bool) : ∀ k, RunsFit k (runsTo W l k)
  | 0 => fun r h => by simp [runsTo] at h
  | k + 1 => by
    have ih := runsTo_fit W l k
    have up : RunsFit (k + 1) (runsTo W l k) := fun r h => by
      obtain ⟨a, b, c, e, h1, h2, h3⟩ := ih r h
      exact ⟨a, b, c, e, by omega, by omega, by omega⟩
    show RunsFit (k + 1) (if l.getD k false = true then _ else _)
    split
    · split
      · intro r h
        unfold incL at h
        rcases List.mem_or_eq_of_mem_set h with h | h
        · exact up r h
        · by_cases hn : (runsTo W l k).length = 0
          · have : runsTo W l k = [] := List.eq_nil_of_length_eq_zero hn
            rw [this] at h
            rename_i h0
            rw [this] at h0
            simp at h0
          · have hm : (runsTo W l k).getD ((runsTo W l k).length - 1) [] ∈ runsTo W l k := by
              rw [List.getD_eq_getElem?_getD, List.getElem?_eq_getElem (by omega)]
              exact List.getElem_mem _
            obtain ⟨a, b, c, e, h1, h2, h3⟩ := ih _ hm
            rw [e] at h
            refine ⟨a, b, c + 1, ?_, by omega, by omega, by omega⟩
            rw [h]
            simp
      · intro r h
        rcases List.mem_append.1 h with h | h
        · exact up r h
        · have h := List.mem_singleton.1 h
          exact ⟨k / W, k % W, 1, by rw [h]; rfl, by have := Nat.div_le_self k W; omega, by have := Nat.mod_le k W; omega, by omega⟩
    · exact up
theorem runsTo_pos {W : Nat} {l : List Bool} {k : Nat} (h : l.getD k false = true) : 0 < (runsTo W l (k + 1)).length := by
  induction k with
  | zero =>
    show 0 < (if l.getD 0 false = true then (if 0 % W ≠ 0 ∧ l.getD (0 - 1) false = true then incL (runsTo W l 0) else runsTo W l 0 ++ [[((0 / W : Nat) : Int), ((0 % W : Nat) : Int), 1]]) else runsTo W l 0).length
    rw [if_pos h, if_neg (by simp)]
    simp
  | succ k ih =>
    show 0 < (if l.getD (k + 1) false = true then (if (k + 1) % W ≠ 0 ∧ l.getD (k + 1 - 1) false = true then incL (runsTo W l (k + 1)) else runsTo W l (k + 1) ++ [[(((k + 1) / W : Nat) : Int), (((k + 1) % W : Nat) : Int), 1]]) else runsTo W l (k + 1)).length
    rw [if_pos h]
    split
    · rename_i h2
      rw [incL_len]
      exact ih h2.2
    · simp
/-- A run drawn. -/
def paintRun (l : List Bool) (k : Nat) : Nat → List Bool
  | 0 => l
  | n + 1 => (paintRun l k n).set (k + n) true
theorem paintRun_len (l : List Bool) (k : Nat) : ∀ n, (paintRun l k n).length = l.length
  | 0 => rfl
  | n + 1 => by show ((paintRun l k n).set _ _).length = _; rw [List.length_set, paintRun_len l k n]
/-- A run that lies in a picture. -/
def runGood (W H : Int) (r : List Int) : Bool := decide (r.length = 3) && (inB (r.getD 0 0) 0 (H - 1) && (inB (r.getD 1 0) 0 (W - 1) && inB (r.getD 2 0) 1 (W - r.getD 1 0)))
def runAt (W : Int) (r : List Int) : Nat := (r.getD 0 0 * W + r.getD 1 0).toNat
/-- The picture of the first runs. -/
def paintTo (W H : Nat) (m : List (List Int)) : Nat → List Bool
  | 0 => List.replicate (W * H) false
  | k + 1 => paintRun (paintTo W H m k) (runAt W (m.getD k [])) ((m.getD k []).getD 2 0).toNat
theorem paintTo_len (W H : Nat) (m : List (List Int)) : ∀ k, (paintTo W H m k).length = W * H
  | 0 => by simp [paintTo]
  | k + 1 => by show (paintRun _ _ _).length = _; rw [paintRun_len, paintTo_len W H m k]
theorem runGood_spec {W H : Int} {r : List Int} (h : runGood W H r = true) : ∃ a b c : Nat, r = [(a : Int), (b : Int), (c : Int)] ∧ (a : Int) < H ∧ (b : Int) + c ≤ W ∧ 1 ≤ c := by
  unfold runGood at h
  simp only [Bool.and_eq_true, decide_eq_true_eq] at h
  obtain ⟨h0, h1, h2, h3⟩ := h
  match r, h0 with
  | [x, y, z], _ =>
    simp only [List.getD_cons_zero, List.getD_cons_succ] at h1 h2 h3
    have i1 := inB_true.1 h1
    have i2 := inB_true.1 h2
    have i3 := inB_true.1 h3
    obtain ⟨a, rfl⟩ := Int.eq_ofNat_of_zero_le i1.1
    obtain ⟨b, rfl⟩ := Int.eq_ofNat_of_zero_le i2.1
    obtain ⟨c, rfl⟩ := Int.eq_ofNat_of_zero_le (show 0 ≤ z by omega)
    exact ⟨a, b, c, rfl, by omega, by omega, by omega⟩
/-- The runs are those of the picture that they draw. -/
def runsOkB (W H : Nat) (m : List (List Int)) : Bool := m.all (runGood W H) && decide (runsTo W (paintTo W H m m.length) (H * W) = m)
def porOk (i0 i1 : Int) (m : List (List Int)) : Bool := (inB i0 1 16 && inB i1 1 16) && runsOkB i0.toNat i1.toNat m
def porRows (i0 i1 : Int) (m : List (List Int)) : List ByteArray := if porOk i0 i1 m then picRows i0.toNat i1.toNat (paintTo i0.toNat i1.toNat m m.length) else []
end Go.Proofs.Ytmmanehdmnkekaa
