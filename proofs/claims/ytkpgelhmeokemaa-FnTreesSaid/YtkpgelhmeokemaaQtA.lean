/- Quadtrees: texts, pictures, leaves. -/
import Derived.Test.YtkpgelhmeokemaaRecF
import Derived.Test.YtkpgelhmeokemaaListS
import Derived.Test.YtkpgelhmeokemaaCount
import Derived.Test.YtkpgelhmeokemaaJnP
namespace Go.Proofs.Ytkpgelhmeokemaa
open Go Go.RowKit
inductive QT where
  | leaf (b : Bool)
  | node (a b c d : QT)
def tokB (b : Bool) : UInt8 := if b then 35 else 46
def QT.text : QT → List UInt8
  | .leaf b => [tokB b]
  | .node a b c d => 40 :: (a.text ++ b.text ++ c.text ++ d.text ++ [41])
def inSq (m x y i j : Nat) : Bool := decide (x ≤ i ∧ i < x + m ∧ y ≤ j ∧ j < y + m)
def QT.on : QT → Nat → Nat → Nat → Nat → Nat → Bool
  | .leaf b, n, x, y, i, j => b && inSq (2 ^ n) x y i j
  | .node a b c d, n, x, y, i, j => a.on (n - 1) x y i j || b.on (n - 1) (x + 2 ^ (n - 1)) y i j || c.on (n - 1) x (y + 2 ^ (n - 1)) i j || d.on (n - 1) (x + 2 ^ (n - 1)) (y + 2 ^ (n - 1)) i j
def QT.fits : QT → Nat → Prop
  | .leaf _, _ => True
  | .node _ _ _ _, 0 => False
  | .node a b c d, n + 1 => a.fits n ∧ b.fits n ∧ c.fits n ∧ d.fits n
def QT.isB (v : Bool) : QT → Bool
  | .leaf b => b == v
  | .node _ _ _ _ => false
def four (v : Bool) (a b c d : QT) : Bool := a.isB v && b.isB v && c.isB v && d.isB v
def QT.red : QT → Bool
  | .leaf _ => true
  | .node a b c d => a.red && b.red && c.red && d.red && !four true a b c d && !four false a b c d
/-- Reading a text. -/
def byt (s : ByteArray) (k : Nat) : Nat := if h : k < s.size then (s[k]'h).toNat else 0
def pk : Option (QT × Nat) → Int
  | none => -1
  | some p => (p.2 : Int)
def pT : Option (QT × Nat) → QT
  | none => .leaf false
  | some p => p.1
def nxtF (f : Nat → Option (QT × Nat)) (r : Option (QT × Nat)) : Option (QT × Nat) := r.bind fun p => f p.2
def nodeF (s : ByteArray) (f : Nat → Option (QT × Nat)) (k : Nat) : Option (QT × Nat) :=
  let r1 := f (k + 1)
  let r2 := nxtF f r1
  let r3 := nxtF f r2
  let r4 := nxtF f r3
  match r4 with
  | none => none
  | some p => if byt s p.2 = 41 then some (.node (pT r1) (pT r2) (pT r3) (pT r4), p.2 + 1) else none
def leafF (s : ByteArray) (g : Nat → Option (QT × Nat)) (k : Nat) : Option (QT × Nat) :=
  if byt s k = 35 then some (.leaf true, k + 1) else if byt s k = 46 then some (.leaf false, k + 1) else if byt s k = 40 then g k else none
def parse (s : ByteArray) : Nat → Nat → Option (QT × Nat)
  | 0 => leafF s fun _ => none
  | n + 1 => leafF s (nodeF s (parse s n))
def cut (s : ByteArray) (k k' : Nat) : List UInt8 := (s.data.toList.drop k).take (k' - k)
theorem cut_one {s : ByteArray} {k : Nat} {c : UInt8} (h : byt s k = c.toNat) (h0 : c.toNat ≠ 0) : k < s.size ∧ cut s k (k + 1) = [c] := by
  unfold byt at h
  split at h
  · rename_i hk
    refine ⟨hk, ?_⟩
    have hk' : k < s.data.toList.length := by cases s; exact hk
    have e : s[k] = s.data.toList[k] := by cases s; rfl
    unfold cut
    rw [List.drop_eq_getElem_cons hk', Nat.add_sub_cancel_left, List.take_succ_cons, List.take_zero, ← e]
    rw [UInt8.toNat_inj.1 h]
  · exact absurd h.symm h0
theorem cut_app {s : ByteArray} {a b c : Nat} (h1 : a ≤ b) (h2 : b ≤ c) : cut s a c = cut s a b ++ cut s b c := by
  unfold cut
  have e1 : c - a = (b - a) + (c - b) := by omega
  have e2 : s.data.toList.drop b = (s.data.toList.drop a).drop (b - a) := by rw [List.drop_drop]; congr 1; omega
  rw [e1, List.take_add, e2]
theorem cut_len {s : ByteArray} {a b : Nat} (h1 : a ≤ b) (h2 : b ≤ s.size) : (cut s a b).length = b - a := by
  unfold cut
  have : s.data.toList.length = s.size := by cases s; rfl
  rw [List.length_take, List.length_drop, this]; omega
def RdOk (s : ByteArray) (n k : Nat) (r : Option (QT × Nat)) : Prop := ∀ T k', r = some (T, k') → T.fits n ∧ k < k' ∧ k' ≤ s.size ∧ cut s k k' = T.text
theorem leafF_ok {s : ByteArray} {n k : Nat} {g : Nat → Option (QT × Nat)} (hg : byt s k = 40 → RdOk s n k (g k)) : RdOk s n k (leafF s g k) := by
  intro T k' h
  unfold leafF at h
  split at h
  · rename_i hb
    obtain ⟨h1, h2⟩ := cut_one (c := 35) hb (by decide)
    cases h
    exact ⟨trivial, by omega, by omega, h2⟩
  · split at h
    · rename_i hb
      obtain ⟨h1, h2⟩ := cut_one (c := 46) hb (by decide)
      cases h
      exact ⟨trivial, by omega, by omega, h2⟩
    · split at h
      · rename_i hb
        exact hg hb T k' h
      · cases h
theorem parse_ok (s : ByteArray) : ∀ n k, RdOk s n k (parse s n k)
  | 0, k => leafF_ok fun _ => fun T k' h => by cases h
  | n + 1, k => by
    refine leafF_ok fun hb => ?_
    intro T k' h
    obtain ⟨h1, h2⟩ := cut_one (c := 40) hb (by decide)
    unfold nodeF at h
    have ih := parse_ok s n
    cases e1 : parse s n (k + 1) with
    | none => simp [e1, nxtF] at h
    | some p1 =>
      cases e2 : parse s n p1.2 with
      | none => simp [e1, e2, nxtF] at h
      | some p2 =>
        cases e3 : parse s n p2.2 with
        | none => simp [e1, e2, e3, nxtF] at h
        | some p3 =>
          cases e4 : parse s n p3.2 with
          | none => simp [e1, e2, e3, e4, nxtF] at h
          | some p4 =>
            simp [e1, e2, e3, e4, nxtF, pT] at h
            obtain ⟨hb4, rfl, rfl⟩ := h
            obtain ⟨h5, h6⟩ := cut_one (c := 41) hb4 (by decide)
            obtain ⟨f1, l1, m1, t1⟩ := ih (k + 1) p1.1 p1.2 e1
            obtain ⟨f2, l2, m2, t2⟩ := ih p1.2 p2.1 p2.2 e2
            obtain ⟨f3, l3, m3, t3⟩ := ih p2.2 p3.1 p3.2 e3
            obtain ⟨f4, l4, m4, t4⟩ := ih p3.2 p4.1 p4.2 e4
            refine ⟨⟨f1, f2, f3, f4⟩, by omega, by omega, ?_⟩
            rw [cut_app (b := k + 1) (by omega) (by omega), cut_app (a := k + 1) (b := p1.2) (by omega) (by omega), cut_app (a := p1.2) (b := p2.2) (by omega) (by omega),
              cut_app (a := p2.2) (b := p3.2) (by omega) (by omega), cut_app (a := p3.2) (b := p4.2) (by omega) (by omega), h2, t1, t2, t3, t4, h6]
            simp [QT.text]
theorem QT.text_pos : ∀ T : QT, 0 < T.text.length
  | .leaf _ => by simp [QT.text]
  | .node _ _ _ _ => by simp [QT.text]
def Lq : Nat → Nat
  | 0 => 1
  | n + 1 => 4 * Lq n + 2
theorem Lq_pos : ∀ n, 1 ≤ Lq n
  | 0 => Nat.le_refl _
  | n + 1 => by unfold Lq; omega
theorem Lq_4 {n : Nat} (h : n ≤ 4) : Lq n ≤ 426 := by
  match n, h with
  | 0, _ => decide
  | 1, _ => decide
  | 2, _ => decide
  | 3, _ => decide
  | 4, _ => decide
theorem QT.text_le : ∀ (T : QT) (n : Nat), T.fits n → T.text.length ≤ Lq n
  | .leaf b, n, _ => Lq_pos n
  | .node a b c d, 0, h => h.elim
  | .node a b c d, n + 1, h => by
    have h1 := QT.text_le a n h.1
    have h2 := QT.text_le b n h.2.1
    have h3 := QT.text_le c n h.2.2.1
    have h4 := QT.text_le d n h.2.2.2
    simp [QT.text, Lq]
    omega
theorem parse_le {s : ByteArray} {n k k' : Nat} {T : QT} (hn : n ≤ 4) (h : parse s n k = some (T, k')) : k' ≤ k + 426 := by
  obtain ⟨f, l, m, t⟩ := parse_ok s n k T k' h
  have h1 := QT.text_le T n f
  have h2 := Lq_4 hn
  have h3 := cut_len (s := s) (a := k) (b := k') (by omega) m
  rw [t] at h3
  omega
/-- The text of a picture. -/
def uni (f : Nat → Nat → Bool) (m x y : Nat) : Bool := (List.range m).all fun j => (List.range m).all fun i => f (x + i) (y + j) == f x y
theorem uni_iff {f : Nat → Nat → Bool} {m x y : Nat} : uni f m x y = true ↔ ∀ i j, i < m → j < m → f (x + i) (y + j) = f x y := by
  simp only [uni, List.all_eq_true, List.mem_range, beq_iff_eq]
  exact ⟨fun h i j hi hj => h j hj i hi, fun h j hj i hi => h i j hi hj⟩
def nodeT (a b c d : List UInt8) : List UInt8 := 40 :: (a ++ b ++ c ++ d ++ [41])
def qtext (f : Nat → Nat → Bool) : Nat → Nat → Nat → List UInt8
  | 0, x, y => [tokB (f x y)]
  | n + 1, x, y => if uni f (2 ^ (n + 1)) x y then [tokB (f x y)] else nodeT (qtext f n x y) (qtext f n (x + 2 ^ n) y) (qtext f n x (y + 2 ^ n)) (qtext f n (x + 2 ^ n) (y + 2 ^ n))
theorem uni_one (f : Nat → Nat → Bool) (x y : Nat) : uni f 1 x y = true := uni_iff.2 fun i j hi hj => by
  have : i = 0 := by omega
  have : j = 0 := by omega
  subst i j
  rfl
theorem qtext_eq (f : Nat → Nat → Bool) (n x y : Nat) : qtext f n x y = if uni f (2 ^ n) x y then [tokB (f x y)] else nodeT (qtext f (n - 1) x y) (qtext f (n - 1) (x + 2 ^ (n - 1)) y) (qtext f (n - 1) x (y + 2 ^ (n - 1))) (qtext f (n - 1) (x + 2 ^ (n - 1)) (y + 2 ^ (n - 1))) := by
  cases n with
  | zero => rw [show (2 : Nat) ^ 0 = 1 from rfl, uni_one, if_pos rfl]; rfl
  | succ n => rfl
theorem qtext_le (f : Nat → Nat → Bool) : ∀ n x y, (qtext f n x y).length ≤ Lq n
  | 0, x, y => Nat.le_refl _
  | n + 1, x, y => by
    have h1 := qtext_le f n x y
    have h2 := qtext_le f n (x + 2 ^ n) y
    have h3 := qtext_le f n x (y + 2 ^ n)
    have h4 := qtext_le f n (x + 2 ^ n) (y + 2 ^ n)
    unfold qtext
    split
    · exact Lq_pos _
    · simp [nodeT, Lq]; omega
theorem qtext_pos (f : Nat → Nat → Bool) (n x y : Nat) : 0 < (qtext f n x y).length := by
  rw [qtext_eq]
  split <;> simp [nodeT]
theorem uni_quarter {f : Nat → Nat → Bool} {m x y dx dy : Nat} (hm : 0 < m) (hx : dx ≤ m) (hy : dy ≤ m) (h : uni f (2 * m) x y = true) : uni f m (x + dx) (y + dy) = true ∧ f (x + dx) (y + dy) = f x y := by
  rw [uni_iff] at h
  have e0 := h dx dy (by omega) (by omega)
  refine ⟨uni_iff.2 fun i j hi hj => ?_, e0⟩
  rw [e0, ← h (dx + i) (dy + j) (by omega) (by omega)]
  congr 1 <;> omega
theorem uni_four {f : Nat → Nat → Bool} {m x y : Nat} (h1 : uni f m x y = true) (h2 : uni f m (x + m) y = true) (h3 : uni f m x (y + m) = true) (h4 : uni f m (x + m) (y + m) = true)
    (e2 : f (x + m) y = f x y) (e3 : f x (y + m) = f x y) (e4 : f (x + m) (y + m) = f x y) : uni f (2 * m) x y = true := by
  rw [uni_iff] at *
  intro i j hi hj
  by_cases a : i < m
  · by_cases b : j < m
    · exact h1 i j a b
    · have := h3 i (j - m) a (by omega)
      rw [← e3, ← this]; congr 1; omega
  · by_cases b : j < m
    · have := h2 (i - m) j (by omega) b
      rw [← e2, ← this]; congr 1; omega
    · have := h4 (i - m) (j - m) (by omega) (by omega)
      rw [← e4, ← this]; congr 1 <;> omega
theorem qtext_uni {f : Nat → Nat → Bool} {n x y : Nat} (h : uni f (2 ^ n) x y = true) : qtext f n x y = [tokB (f x y)] := by rw [qtext_eq, if_pos h]
theorem qtext_one {f : Nat → Nat → Bool} {n x y : Nat} : (qtext f n x y).length = 1 ↔ uni f (2 ^ n) x y = true := by
  constructor
  · intro h
    cases hu : uni f (2 ^ n) x y
    · rw [qtext_eq, hu] at h
      simp [nodeT] at h
    · rfl
  · intro h; rw [qtext_uni h]; rfl
theorem tokB_inj {a b : Bool} (h : tokB a = tokB b) : a = b := by
  cases a <;> cases b <;> first | rfl | exact absurd h (by decide)
/-- What the implementation does: the quarters' texts, joined if they are alike. -/
theorem qtext_four (f : Nat → Nat → Bool) (n x y : Nat) : qtext f (n + 1) x y = if (qtext f n x y).length = 1 ∧ qtext f n (x + 2 ^ n) y = qtext f n x y ∧ qtext f n x (y + 2 ^ n) = qtext f n x y ∧ qtext f n (x + 2 ^ n) (y + 2 ^ n) = qtext f n x y then qtext f n x y
    else nodeT (qtext f n x y) (qtext f n (x + 2 ^ n) y) (qtext f n x (y + 2 ^ n)) (qtext f n (x + 2 ^ n) (y + 2 ^ n)) := by
  have hp : (0 : Nat) < 2 ^ n := Nat.two_pow_pos n
  have e2 : (2 : Nat) ^ (n + 1) = 2 * 2 ^ n := by rw [Nat.pow_succ]; omega
  rw [qtext, e2]
  by_cases hu : uni f (2 * 2 ^ n) x y = true
  · obtain ⟨u1, -⟩ := uni_quarter (dx := 0) (dy := 0) hp (by omega) (by omega) hu
    obtain ⟨u2, c2⟩ := uni_quarter (dx := 2 ^ n) (dy := 0) hp (by omega) (by omega) hu
    obtain ⟨u3, c3⟩ := uni_quarter (dx := 0) (dy := 2 ^ n) hp (by omega) (by omega) hu
    obtain ⟨u4, c4⟩ := uni_quarter (dx := 2 ^ n) (dy := 2 ^ n) hp (by omega) (by omega) hu
    simp only [Nat.add_zero] at u1 u2 u3 u4 c2 c3 c4
    rw [if_pos hu, qtext_uni u1, qtext_uni u2, qtext_uni u3, qtext_uni u4, c2, c3, c4, if_pos ⟨rfl, rfl, rfl, rfl⟩]
  · rw [if_neg hu, if_neg]
    rintro ⟨h1, h2, h3, h4⟩
    have u1 := qtext_one.1 h1
    have u2 := qtext_one.1 (h2 ▸ h1)
    have u3 := qtext_one.1 (h3 ▸ h1)
    have u4 := qtext_one.1 (h4 ▸ h1)
    rw [qtext_uni u1] at h2 h3 h4
    rw [qtext_uni u2] at h2
    rw [qtext_uni u3] at h3
    rw [qtext_uni u4] at h4
    exact hu (uni_four u1 u2 u3 u4 (tokB_inj (List.cons.inj h2).1) (tokB_inj (List.cons.inj h3).1) (tokB_inj (List.cons.inj h4).1))
theorem qtext_congr {f g : Nat → Nat → Bool} : ∀ n x y, (∀ i j, x ≤ i → i < x + 2 ^ n → y ≤ j → j < y + 2 ^ n → f i j = g i j) → qtext f n x y = qtext g n x y
  | 0, x, y, h => by unfold qtext; rw [h x y (by omega) (by simp) (by omega) (by simp)]
  | n + 1, x, y, h => by
    have hp : (0 : Nat) < 2 ^ n := Nat.two_pow_pos n
    have e2 : (2 : Nat) ^ (n + 1) = 2 * 2 ^ n := by rw [Nat.pow_succ]; omega
    rw [e2] at h
    rw [qtext_four, qtext_four, qtext_congr n x y fun i j a b c d => h i j (by omega) (by omega) (by omega) (by omega), qtext_congr n (x + 2 ^ n) y fun i j a b c d => h i j (by omega) (by omega) (by omega) (by omega),
      qtext_congr n x (y + 2 ^ n) fun i j a b c d => h i j (by omega) (by omega) (by omega) (by omega), qtext_congr n (x + 2 ^ n) (y + 2 ^ n) fun i j a b c d => h i j (by omega) (by omega) (by omega) (by omega)]
theorem inSq_not {m x y i j : Nat} (h : ¬ (x ≤ i ∧ i < x + m ∧ y ≤ j ∧ j < y + m)) : inSq m x y i j = false := decide_eq_false h
theorem inSq_yes {m x y i j : Nat} (h : x ≤ i ∧ i < x + m ∧ y ≤ j ∧ j < y + m) : inSq m x y i j = true := decide_eq_true h
theorem QT.on_out : ∀ (T : QT) (n x y i j : Nat), T.fits n → ¬ (x ≤ i ∧ i < x + 2 ^ n ∧ y ≤ j ∧ j < y + 2 ^ n) → T.on n x y i j = false
  | .leaf b, n, x, y, i, j, _, h => by unfold QT.on; rw [inSq_not h, Bool.and_false]
  | .node a b c d, 0, _, _, _, _, h, _ => h.elim
  | .node a b c d, n + 1, x, y, i, j, hf, h => by
    have e2 : (2 : Nat) ^ (n + 1) = 2 * 2 ^ n := by rw [Nat.pow_succ]; omega
    rw [e2] at h
    unfold QT.on
    rw [Nat.add_sub_cancel, QT.on_out a n x y i j hf.1 (by omega), QT.on_out b n _ _ i j hf.2.1 (by omega), QT.on_out c n _ _ i j hf.2.2.1 (by omega), QT.on_out d n _ _ i j hf.2.2.2 (by omega)]
    rfl
theorem QT.on_q {a b c d : QT} {n x y i j : Nat} (hf : (QT.node a b c d).fits (n + 1)) :
    (x ≤ i → i < x + 2 ^ n → y ≤ j → j < y + 2 ^ n → (QT.node a b c d).on (n + 1) x y i j = a.on n x y i j) ∧
    (x + 2 ^ n ≤ i → i < x + 2 ^ n + 2 ^ n → y ≤ j → j < y + 2 ^ n → (QT.node a b c d).on (n + 1) x y i j = b.on n (x + 2 ^ n) y i j) ∧
    (x ≤ i → i < x + 2 ^ n → y + 2 ^ n ≤ j → j < y + 2 ^ n + 2 ^ n → (QT.node a b c d).on (n + 1) x y i j = c.on n x (y + 2 ^ n) i j) ∧
    (x + 2 ^ n ≤ i → i < x + 2 ^ n + 2 ^ n → y + 2 ^ n ≤ j → j < y + 2 ^ n + 2 ^ n → (QT.node a b c d).on (n + 1) x y i j = d.on n (x + 2 ^ n) (y + 2 ^ n) i j) := by
  refine ⟨fun h1 h2 h3 h4 => ?_, fun h1 h2 h3 h4 => ?_, fun h1 h2 h3 h4 => ?_, fun h1 h2 h3 h4 => ?_⟩ <;> rw [QT.on, Nat.add_sub_cancel]
  · rw [QT.on_out b n _ _ i j hf.2.1 (by omega), QT.on_out c n _ _ i j hf.2.2.1 (by omega), QT.on_out d n _ _ i j hf.2.2.2 (by omega)]; simp
  · rw [QT.on_out a n _ _ i j hf.1 (by omega), QT.on_out c n _ _ i j hf.2.2.1 (by omega), QT.on_out d n _ _ i j hf.2.2.2 (by omega)]; simp
  · rw [QT.on_out a n _ _ i j hf.1 (by omega), QT.on_out b n _ _ i j hf.2.1 (by omega), QT.on_out d n _ _ i j hf.2.2.2 (by omega)]; simp
  · rw [QT.on_out a n _ _ i j hf.1 (by omega), QT.on_out b n _ _ i j hf.2.1 (by omega), QT.on_out c n _ _ i j hf.2.2.1 (by omega)]; simp
theorem uni_leaf (b : Bool) (n x y : Nat) : uni (fun i j => (QT.leaf b).on n x y i j) (2 ^ n) x y = true := uni_iff.2 fun i j hi hj => by
  have hp : (0 : Nat) < 2 ^ n := Nat.two_pow_pos n
  simp only [QT.on]
  rw [inSq_yes (by omega), inSq_yes (by omega)]
theorem leaf_at (b : Bool) (n x y : Nat) : (QT.leaf b).on n x y x y = b := by
  have hp : (0 : Nat) < 2 ^ n := Nat.two_pow_pos n
  simp only [QT.on]
  rw [inSq_yes (by omega), Bool.and_true]
theorem QT.isB_of {T : QT} {b : Bool} (h : T.text = [tokB b]) : T.isB b = true := by
  cases T with
  | leaf c => simp [QT.text] at h; simp [QT.isB, tokB_inj h]
  | node a b c d => exact absurd (congrArg List.length h) (by simp [QT.text])
theorem QT.of_isB {T : QT} {b : Bool} (h : T.isB b = true) : T = .leaf b := by
  cases T with
  | leaf c => simp [QT.isB] at h; rw [h]
  | node a b c d => cases h
/-- Quarters of a node's picture have the quarters' texts. -/
theorem quarters_text {a b c d : QT} {n x y : Nat} (hf : (QT.node a b c d).fits (n + 1)) :
    qtext (fun i j => (QT.node a b c d).on (n + 1) x y i j) n x y = qtext (fun i j => a.on n x y i j) n x y ∧
    qtext (fun i j => (QT.node a b c d).on (n + 1) x y i j) n (x + 2 ^ n) y = qtext (fun i j => b.on n (x + 2 ^ n) y i j) n (x + 2 ^ n) y ∧
    qtext (fun i j => (QT.node a b c d).on (n + 1) x y i j) n x (y + 2 ^ n) = qtext (fun i j => c.on n x (y + 2 ^ n) i j) n x (y + 2 ^ n) ∧
    qtext (fun i j => (QT.node a b c d).on (n + 1) x y i j) n (x + 2 ^ n) (y + 2 ^ n) = qtext (fun i j => d.on n (x + 2 ^ n) (y + 2 ^ n) i j) n (x + 2 ^ n) (y + 2 ^ n) :=
  ⟨qtext_congr _ _ _ fun _ _ h1 h2 h3 h4 => (QT.on_q hf).1 h1 h2 h3 h4, qtext_congr _ _ _ fun _ _ h1 h2 h3 h4 => (QT.on_q hf).2.1 h1 h2 h3 h4,
    qtext_congr _ _ _ fun _ _ h1 h2 h3 h4 => (QT.on_q hf).2.2.1 h1 h2 h3 h4, qtext_congr _ _ _ fun _ _ h1 h2 h3 h4 => (QT.on_q hf).2.2.2 h1 h2 h3 h4⟩
theorem red_text : ∀ (T : QT) (n x y : Nat), T.fits n → T.red = true → qtext (fun i j => T.on n x y i j) n x y = T.text
  | .leaf b, n, x, y, _, _ => by rw [qtext_uni (uni_leaf b n x y), leaf_at]; rfl
  | .node a b c d, 0, _, _, h, _ => h.elim
  | .node a b c d, n + 1, x, y, hf, hr => by
    obtain ⟨q1, q2, q3, q4⟩ := quarters_text (x := x) (y := y) hf
    simp only [QT.red, Bool.and_eq_true, Bool.not_eq_true'] at hr
    obtain ⟨⟨⟨⟨⟨r1, r2⟩, r3⟩, r4⟩, f1⟩, f2⟩ := hr
    rw [red_text a n _ _ hf.1 r1] at q1
    rw [red_text b n _ _ hf.2.1 r2] at q2
    rw [red_text c n _ _ hf.2.2.1 r3] at q3
    rw [red_text d n _ _ hf.2.2.2 r4] at q4
    rw [qtext_four, q1, q2, q3, q4, if_neg]
    · rfl
    · rintro ⟨h1, h2, h3, h4⟩
      cases a with
      | node => simp [QT.text] at h1
      | leaf v =>
        have e1 : (QT.leaf v).isB v = true := by simp [QT.isB]
        have e2 := QT.isB_of (b := v) h2
        have e3 := QT.isB_of (b := v) h3
        have e4 := QT.isB_of (b := v) h4
        cases v <;> simp [four, e1, e2, e3, e4] at f1 f2
theorem text_short : ∀ (T : QT) (n x y : Nat), T.fits n → (qtext (fun i j => T.on n x y i j) n x y).length ≤ T.text.length ∧ (T.red = false → (qtext (fun i j => T.on n x y i j) n x y).length < T.text.length)
  | .leaf b, n, x, y, _ => by rw [qtext_uni (uni_leaf b n x y)]; exact ⟨Nat.le_refl _, fun h => by cases h⟩
  | .node a b c d, 0, _, _, h => h.elim
  | .node a b c d, n + 1, x, y, hf => by
    obtain ⟨q1, q2, q3, q4⟩ := quarters_text (x := x) (y := y) hf
    obtain ⟨l1, s1⟩ := text_short a n x y hf.1
    obtain ⟨l2, s2⟩ := text_short b n (x + 2 ^ n) y hf.2.1
    obtain ⟨l3, s3⟩ := text_short c n x (y + 2 ^ n) hf.2.2.1
    obtain ⟨l4, s4⟩ := text_short d n (x + 2 ^ n) (y + 2 ^ n) hf.2.2.2
    have p1 := QT.text_pos a
    rw [qtext_four, q1, q2, q3, q4]
    split
    · rename_i h
      rw [h.1]
      simp [QT.text]; omega
    · rename_i h
      simp only [nodeT, QT.text, List.length_cons, List.length_append, List.length_nil]
      refine ⟨by omega, fun hr => ?_⟩
      cases ra : a.red
      · have := s1 ra; omega
      · cases rb : b.red
        · have := s2 rb; omega
        · cases rc : c.red
          · have := s3 rc; omega
          · cases rd : d.red
            · have := s4 rd; omega
            · exfalso
              apply h
              have hv : ∃ v, four v a b c d = true := by
                cases ft : four true a b c d
                · cases ff : four false a b c d
                  · simp [QT.red, ra, rb, rc, rd, ft, ff] at hr
                  · exact ⟨_, ff⟩
                · exact ⟨_, ft⟩
              obtain ⟨v, hv⟩ := hv
              simp only [four, Bool.and_eq_true] at hv
              obtain ⟨⟨⟨i1, i2⟩, i3⟩, i4⟩ := hv
              rw [QT.of_isB i1, QT.of_isB i2, QT.of_isB i3, QT.of_isB i4]
              rw [qtext_uni (uni_leaf v n _ _), qtext_uni (uni_leaf v n _ _), qtext_uni (uni_leaf v n _ _), qtext_uni (uni_leaf v n _ _), leaf_at, leaf_at, leaf_at, leaf_at]
              exact ⟨rfl, rfl, rfl, rfl⟩
theorem text_iff {T : QT} {n : Nat} (hf : T.fits n) : (qtext (fun i j => T.on n 0 0 i j) n 0 0 == T.text) = T.red := by
  cases hr : T.red
  · have := (text_short T n 0 0 hf).2 hr
    cases he : (qtext (fun i j => T.on n 0 0 i j) n 0 0 == T.text)
    · rfl
    · rw [eq_of_beq he] at this; omega
  · rw [red_text T n 0 0 hf hr]; exact beq_self_eq_true _
/-- Lists of pixels by what they show. -/
def PtL (W : Nat) (l : List Bool) (f : Nat → Nat → Bool) : Prop := l.length = W * W ∧ ∀ i j, i < W → j < W → l.getD (j * W + i) false = f i j
theorem PtL.congr {W : Nat} {l : List Bool} {f g : Nat → Nat → Bool} (h : PtL W l f) (e : ∀ i j, i < W → j < W → f i j = g i j) : PtL W l g := ⟨h.1, fun i j hi hj => by rw [h.2 i j hi hj, e i j hi hj]⟩
theorem idx2 {W i j : Nat} (hi : i < W) (hj : j < W) : j * W + i < W * W := by
  have : (j + 1) * W ≤ W * W := Nat.mul_le_mul_right _ hj
  have e : (j + 1) * W = j * W + W := by rw [Nat.add_mul, Nat.one_mul]
  omega
theorem idx_inj {W i j i' j' : Nat} (hi : i < W) (hi' : i' < W) (h : j * W + i = j' * W + i') : i = i' ∧ j = j' := by
  have h1 : (j * W + i) % W = i := by rw [Nat.mul_comm, Nat.mul_add_mod, Nat.mod_eq_of_lt hi]
  have h2 : (j' * W + i') % W = i' := by rw [Nat.mul_comm, Nat.mul_add_mod, Nat.mod_eq_of_lt hi']
  have e : i = i' := by rw [← h1, ← h2, h]
  subst e
  refine ⟨rfl, ?_⟩
  have : j * W = j' * W := by omega
  exact Nat.eq_of_mul_eq_mul_right (by omega) this
theorem PtL.set {W : Nat} {l : List Bool} {f : Nat → Nat → Bool} (h : PtL W l f) {i0 j0 : Nat} (hi : i0 < W) (hj : j0 < W) (v : Bool) : PtL W (l.set (j0 * W + i0) v) (fun i j => if i = i0 ∧ j = j0 then v else f i j) := by
  refine ⟨by rw [List.length_set, h.1], fun i j hi' hj' => ?_⟩
  show _ = if i = i0 ∧ j = j0 then v else f i j
  rw [List.getD_eq_getElem?_getD, List.getElem?_set]
  by_cases e : j0 * W + i0 = j * W + i
  · obtain ⟨rfl, rfl⟩ := idx_inj hi hi' e
    rw [if_pos rfl, if_pos (by rw [h.1]; exact idx2 hi hj), if_pos ⟨rfl, rfl⟩]
    rfl
  · rw [if_neg e, ← List.getD_eq_getElem?_getD, h.2 i j hi' hj', if_neg]
    rintro ⟨rfl, rfl⟩
    exact e rfl
theorem PtL.mk {W : Nat} {l : List Bool} {f : Nat → Nat → Bool} (hW : 0 < W) (h : PtL W l f) : l = mkl W W f := by
  apply List.ext_getElem?
  intro k
  by_cases hk : k < W * W
  · have e := h.2 (k % W) (k / W) (Nat.mod_lt _ hW) ((Nat.div_lt_iff_lt_mul hW).2 hk)
    have e2 := mkl_at W W f (k % W) (k / W) (Nat.mod_lt _ hW) ((Nat.div_lt_iff_lt_mul hW).2 hk)
    rw [Nat.mul_comm (k / W) W, Nat.div_add_mod] at e e2
    rw [List.getD_eq_getElem?_getD, List.getElem?_eq_getElem (by rw [h.1]; exact hk)] at e
    rw [List.getD_eq_getElem?_getD, List.getElem?_eq_getElem (by rw [mkl_len]; exact hk)] at e2
    rw [List.getElem?_eq_getElem (by rw [h.1]; exact hk), List.getElem?_eq_getElem (by rw [mkl_len]; exact hk)]
    simp only [Option.getD_some] at e e2
    rw [e, e2]
  · rw [List.getElem?_eq_none (by rw [h.1]; omega), List.getElem?_eq_none (by rw [mkl_len]; omega)]
theorem mkl_pt (W : Nat) (f : Nat → Nat → Bool) : PtL W (mkl W W f) f := ⟨mkl_len _ _ _, fun _ _ hi hj => mkl_at _ _ _ _ _ hi hj⟩
/-- Sides. -/
def sdOk (z : Int) : Bool := z == 1 || z == 2 || z == 4 || z == 8 || z == 16
theorem sdOk_pow {z : Int} (h : sdOk z = true) : ∃ n, n ≤ 4 ∧ z = ((2 ^ n : Nat) : Int) := by
  simp only [sdOk, Bool.or_eq_true, beq_iff_eq] at h
  rcases h with (((h | h) | h) | h) | h
  · exact ⟨0, by omega, h⟩
  · exact ⟨1, by omega, h⟩
  · exact ⟨2, by omega, h⟩
  · exact ⟨3, by omega, h⟩
  · exact ⟨4, by omega, h⟩
end Go.Proofs.Ytkpgelhmeokemaa

/- Quadtrees: the reference's walks. -/
namespace Go.Proofs.Ytkpgelhmeokemaa
open Go Go.RowKit
def parseI (s : ByteArray) (n : Nat) (z : Int) : Option (QT × Nat) := if z < 0 then none else parse s n z.toNat
theorem nxt_parseI (s : ByteArray) (n : Nat) (r : Option (QT × Nat)) : parseI s n (pk r) = nxtF (parse s n) r := by
  cases r with
  | none => rfl
  | some p => exact if_neg (by have := Int.natCast_nonneg p.2; simp only [pk]; omega)
structure RdSt (w : World) (g W : Nat) (F : Nat → Nat → Bool) (wr : World) : Prop where
  wrote : Wrote (fun k => k = g) w wr
  l : ∃ l, BlkOf Value.bool wr g 4 l ∧ PtL W l F
theorem RdSt.put {w : World} {g W : Nat} {F G : Nat → Nat → Bool} {wr : World} (h : RdSt w g W F wr) {i0 j0 : Nat} (hi : i0 < W) (hj : j0 < W) (hG : ∀ i j, i < W → j < W → G i j = if i = i0 ∧ j = j0 then true else F i j) :
    (∃ v, wr.cell? ⟨g, j0 * W + i0, none⟩ = some v) ∧ wr.frozen? ⟨g, j0 * W + i0, none⟩ = false ∧ RdSt w g W G (wr.setCell ⟨g, j0 * W + i0, none⟩ (.bool true)) := by
  obtain ⟨l, hb, hl⟩ := h.l
  exact ⟨⟨_, hb.cell false (by rw [hl.1]; exact idx2 hi hj)⟩, hb.free _, h.wrote.setCell (p := ⟨g, j0 * W + i0, none⟩) rfl _, _, hb.set _ true, (hl.set hi hj true).congr fun i j a b => (hG i j a b).symm⟩
def ReadRet (w : World) (r : Option (QT × Nat)) (n g W x y : Nat) (F : Nat → Nat → Bool) (e : Ending) (w' : World) : Prop :=
  e = .returned (.int .i64 (pk r)) ∧ ∃ G, RdSt w g W G w' ∧ ∀ T k', r = some (T, k') → ∀ i j, i < W → j < W → G i j = (F i j || T.on n x y i j)
theorem ReadRet.no {w w' : World} {n g W x y : Nat} {F G : Nat → Nat → Bool} (h : RdSt w g W G w') : ReadRet w none n g W x y F (.returned (.int .i64 (-1))) w' := ⟨rfl, G, h, fun T k' e => by cases e⟩
theorem byt_at {s : ByteArray} {k : Nat} (hk : k < s.size) : byt s k = (s[k]'hk).toNat := by unfold byt; rw [dif_pos hk]
def sqB (x y a b m i j : Nat) : Bool := decide (y ≤ j ∧ j < y + b ∧ x ≤ i ∧ i < x + m) || decide (j = y + b ∧ x ≤ i ∧ i < x + a)
theorem pk_bnd (s : ByteArray) (hs : s.size ≤ 1000) (n : Nat) (z : Int) : -1 ≤ pk (parseI s n z) ∧ pk (parseI s n z) ≤ 1000 := by
  unfold parseI
  split
  · exact ⟨by decide, by decide⟩
  · cases e : parse s n z.toNat with
    | none => exact ⟨by decide, by decide⟩
    | some p =>
      obtain ⟨-, -, h, -⟩ := parse_ok s n z.toNat p.1 p.2 e
      have := Int.natCast_nonneg p.2
      simp only [pk]
      omega
theorem node_some {s : ByteArray} {n k : Nat} {p : QT × Nat} (h : parseI s n (pk (parseI s n (pk (parseI s n (pk (parseI s n ((k : Int) + 1))))))) = some p) :
    ∃ p1 p2 p3 : QT × Nat, parseI s n ((k : Int) + 1) = some p1 ∧ parseI s n (pk (parseI s n ((k : Int) + 1))) = some p2 ∧ parseI s n (pk (parseI s n (pk (parseI s n ((k : Int) + 1))))) = some p3 := by
  cases e1 : parseI s n ((k : Int) + 1) with
  | none => rw [e1] at h; cases h
  | some p1 =>
    rw [e1] at h
    cases e2 : parseI s n (pk (some p1)) with
    | none => rw [e2] at h; cases h
    | some p2 =>
      rw [e2] at h
      cases e3 : parseI s n (pk (some p2)) with
      | none => rw [e3] at h; cases h
      | some p3 => exact ⟨p1, p2, p3, rfl, rfl, rfl⟩
theorem parse_node {s : ByteArray} {n k : Nat} (h : byt s k = 40) : parse s (n + 1) k = nodeF s (parse s n) k := by
  rw [parse]
  unfold leafF
  rw [h]
  rfl
theorem nodeF_I (s : ByteArray) (n k : Nat) : nodeF s (parse s n) k = match parseI s n (pk (parseI s n (pk (parseI s n (pk (parseI s n ((k : Int) + 1))))))) with
    | none => none
    | some p => if byt s p.2 = 41 then some (.node (pT (parseI s n ((k : Int) + 1))) (pT (parseI s n (pk (parseI s n ((k : Int) + 1))))) (pT (parseI s n (pk (parseI s n (pk (parseI s n ((k : Int) + 1))))))) p.1, p.2 + 1) else none := by
  have e : parseI s n ((k : Int) + 1) = parse s n (k + 1) := if_neg (by omega)
  simp only [nxt_parseI]
  rw [e]
  unfold nodeF
  dsimp only
  cases nxtF (parse s n) (nxtF (parse s n) (nxtF (parse s n) (parse s n (k + 1)))) <;> rfl
end Go.Proofs.Ytkpgelhmeokemaa

/- Quadtrees: the reference's text of a picture. -/
namespace Go.Proofs.Ytkpgelhmeokemaa
open Go Go.RowKit
def fS (ss : List ByteArray) (i j : Nat) : Bool := pxl (picW ss) ss.length (picL ss) i j
def txB (l : List UInt8) : ByteArray := ⟨l.toArray⟩
theorem txB_node (a b c d : List UInt8) : (⟨#[40]⟩ : ByteArray) ++ txB a ++ txB b ++ txB c ++ txB d ++ ⟨#[41]⟩ = txB (nodeT a b c d) := by
  have e1 : (⟨#[40]⟩ : ByteArray) = ⟨([40] : List UInt8).toArray⟩ := rfl
  have e2 : (⟨#[41]⟩ : ByteArray) = ⟨([41] : List UInt8).toArray⟩ := rfl
  unfold txB
  rw [e1, e2, ByteArray.mk_append_mk, ByteArray.mk_append_mk, ByteArray.mk_append_mk, ByteArray.mk_append_mk, ByteArray.mk_append_mk]
  unfold nodeT
  simp
theorem txB_size (l : List UInt8) : (txB l).size = l.length := by simp [txB, ByteArray.size]
end Go.Proofs.Ytkpgelhmeokemaa

/- Quadtrees: the reference opens a tree. -/
namespace Go.Proofs.Ytkpgelhmeokemaa
open Go Go.RowKit
def lgN (z : Int) : Nat := if z = 1 then 0 else if z = 2 then 1 else if z = 4 then 2 else if z = 8 then 3 else 4
theorem sdOk_lg {z : Int} (h : sdOk z = true) : lgN z ≤ 4 ∧ z = ((2 ^ lgN z : Nat) : Int) := by
  simp only [sdOk, Bool.or_eq_true, beq_iff_eq] at h
  rcases h with (((h | h) | h) | h) | h <;> subst h <;> decide
def opn (z : Int) (s : ByteArray) : Option (Nat × QT) := if sdOk z then (match parse s (lgN z) 0 with | some p => if p.2 = s.size ∧ p.1.red = true then some (lgN z, p.1) else none | none => none) else none
theorem opn_some {z : Int} {s : ByteArray} {n : Nat} {T : QT} (h : opn z s = some (n, T)) : n ≤ 4 ∧ z = ((2 ^ n : Nat) : Int) ∧ T.fits n ∧ n = lgN z ∧ sdOk z = true ∧ parse s n 0 = some (T, s.size) ∧ T.red = true := by
  unfold opn at h
  split at h
  · rename_i hs
    split at h
    · rename_i p hp
      split at h
      · rename_i hc
        cases h
        obtain ⟨h1, h2⟩ := sdOk_lg hs
        have hp' : parse s (lgN z) 0 = some (p.1, p.2) := hp
        obtain ⟨h3, -⟩ := parse_ok s _ _ _ _ hp'
        exact ⟨h1, h2, h3, rfl, hs, by rw [hp', hc.1], hc.2⟩
      · cases h
    · cases h
  · cases h
def opnR (n : Nat) (T : QT) : List ByteArray := picRows (2 ^ n) (2 ^ n) (mkl (2 ^ n) (2 ^ n) fun i j => T.on n 0 0 i j)
def OpenRet (w : World) (z : Int) (s : ByteArray) (e : Ending) (w' : World) : Prop :=
  ∃ R a c, e = .returned (.tuple #[.agg #[.slice a R.length c], .bool (opn z s).isSome]) ∧ w.Ext w' ∧ OwnOf Value.string ByteArray.empty w.heap.size w'.heap.size w' a R ∧ ∀ n T, opn z s = some (n, T) → R = opnR n T
theorem OpenRet.no {w w' : World} {z : Int} {s : ByteArray} (h : opn z s = none) (hx : w.Ext w') : OpenRet w z s (.returned (.tuple #[.agg #[.slice none 0 0], .bool false])) w' :=
  ⟨[], none, 0, by rw [h]; rfl, hx, OwnOf.nil _ _, fun n T e => by rw [h] at e; cases e⟩
theorem cut_all {s : ByteArray} : cut s 0 s.size = s.data.toList := by
  unfold cut
  have : s.data.toList.length = s.size := by cases s; rfl
  rw [List.drop_zero, Nat.sub_zero, ← this, List.take_length]
theorem opn_big {z : Int} {s : ByteArray} (h : 1000 < s.size) : opn z s = none := by
  cases e : opn z s with
  | none => rfl
  | some p =>
    obtain ⟨h1, -, -, -, -, h6, -⟩ := opn_some (n := p.1) (T := p.2) e
    have := parse_le h1 h6
    omega
theorem even_opn (n : Nat) (T : QT) : Even (opnR n T) ∧ picW (opnR n T) = 2 ^ n ∧ (opnR n T).length = 2 ^ n ∧ picL (opnR n T) = mkl (2 ^ n) (2 ^ n) fun i j => T.on n 0 0 i j := by
  have hp := Nat.two_pow_pos n
  have hl : (mkl (2 ^ n) (2 ^ n) fun i j => T.on n 0 0 i j).length = 2 ^ n * 2 ^ n := mkl_len _ _ _
  exact ⟨even_rows hp hl, picW_rows hp hl, picRows_len _ _ _, picL_rows hl⟩
theorem fS_opn (n : Nat) (T : QT) {i j : Nat} (hi : i < 2 ^ n) (hj : j < 2 ^ n) : fS (opnR n T) i j = T.on n 0 0 i j := by
  obtain ⟨-, h1, h2, h3⟩ := even_opn n T
  unfold fS
  rw [h1, h2, h3, pxl_at _ _ _ _ _ hi hj, mkl_at _ _ _ _ _ hi hj]
theorem RdSt.base {w w1 w2 : World} {g W : Nat} {F : Nat → Nat → Bool} (h : RdSt w g W F w1) (hx : w1.Ext w2) : RdSt w2 g W F w2 := by
  obtain ⟨l, hb, hl⟩ := h.l
  exact ⟨Wrote.refl _ _, l, hb.ext hx, hl⟩
end Go.Proofs.Ytkpgelhmeokemaa

/- Quadtrees: the reference turns and joins pictures. -/
namespace Go.Proofs.Ytkpgelhmeokemaa
open Go Go.RowKit
def trnF (k m : Nat) (f : Nat → Nat → Bool) (x y : Nat) : Bool := match k with
  | 0 => f (m - 1 - x) y
  | 1 => f x (m - 1 - y)
  | 2 => f y x
  | _ => f y (m - 1 - x)
/-- A list that becomes another one, from the left. -/
def mixT (l r : List Bool) (k : Nat) : List Bool := r.take k ++ l.drop k
theorem mixT_len {l r : List Bool} (h : r.length = l.length) (k : Nat) : (mixT l r k).length = l.length := by unfold mixT; simp; omega
theorem mixT_at {l r : List Bool} (h : r.length = l.length) {k : Nat} (hk : k < l.length) : (mixT l r k).getD k false = l.getD k false := by
  unfold mixT
  have h1 : (r.take k).length = k := by simp; omega
  rw [List.getD_eq_getElem?_getD, List.getElem?_append_right (by omega), h1, Nat.sub_self, List.getElem?_drop, Nat.add_zero, ← List.getD_eq_getElem?_getD]
theorem mixT_set {l r : List Bool} (h : r.length = l.length) {k : Nat} (hk : k < l.length) : (mixT l r k).set k (r.getD k false) = mixT l r (k + 1) := by
  unfold mixT
  have h1 : (r.take k).length = k := by simp; omega
  have e2 : r.getD k false = r[k] := by rw [List.getD_eq_getElem?_getD, List.getElem?_eq_getElem (by omega)]; rfl
  rw [List.set_append_right _ _ (by omega), h1, Nat.sub_self, List.take_succ_eq_append_getElem (by omega), List.append_assoc, List.drop_eq_getElem_cons hk, List.set_cons_zero, e2]
  rfl
theorem mixT_all {l r : List Bool} (h : r.length = l.length) : mixT l r l.length = r := by unfold mixT; rw [← h, List.take_length, h, List.drop_length, List.append_nil]
structure JnSt (w : World) (p g cap n : Nat) (l : List Bool) (wr : World) : Prop where
  x : w.Ext wr
  one : One wr p 26 (.slice none 0 0)
  grow : GrowOf Value.bool (w.heap.size + 1) 4 wr (.slice (some ⟨g, 0, none⟩) n cap) l
structure JoSt (w : World) (p g cap g2 cap2 n : Nat) (l l2 : List Bool) (wr : World) : Prop where
  inv : JnSt w p g cap n l wr
  oth : GrowOf Value.bool (g + 1) 4 wr (.slice (some ⟨g2, 0, none⟩) n cap2) l2
  lt : g < g2
theorem JoSt.ext {w : World} {p g cap g2 cap2 n : Nat} {l l2 : List Bool} {wr w' : World} (h : JoSt w p g cap g2 cap2 n l l2 wr) (hx : wr.Ext w') : JoSt w p g cap g2 cap2 n l l2 w' :=
  ⟨⟨h.inv.x.trans hx, h.inv.one.ext hx, h.inv.grow.ext hx⟩, h.oth.ext hx, h.lt⟩
theorem JoSt.at {w : World} {p g cap g2 cap2 n : Nat} {l l2 : List Bool} {wr : World} (h : JoSt w p g cap g2 cap2 n l l2 wr) (hpw : p = w.heap.size) (hg : w.heap.size < g) {k : Nat} (hk : k < l.length) (hk2 : k < l2.length) :
    wr.cell? ⟨g, k, none⟩ = some (.bool (l.getD k false)) ∧ wr.frozen? ⟨g, k, none⟩ = false ∧ wr.cell? ⟨g2, k, none⟩ = some (.bool (l2.getD k false)) ∧ ∀ b, JoSt w p g cap g2 cap2 n (l.set k b) l2 (wr.setCell ⟨g, k, none⟩ (.bool b)) := by
  obtain ⟨g', cap', hv, hlo, hc, hf, hset⟩ := GrowOf.atI false h.inv.grow (i := k) hk
  simp only [Value.slice.injEq, Option.some.injEq, Addr.mk.injEq] at hv
  obtain ⟨⟨rfl, -, -⟩, -, -⟩ := hv
  obtain ⟨g', cap', hv, -, hc2, -, -⟩ := GrowOf.atI false h.oth (i := k) hk2
  simp only [Value.slice.injEq, Option.some.injEq, Addr.mk.injEq] at hv
  obtain ⟨⟨rfl, -, -⟩, -, -⟩ := hv
  have hlt := h.lt
  exact ⟨hc, hf, hc2, fun b => ⟨⟨h.inv.x.setCell (p := ⟨g, k, none⟩) (by dsimp only; omega) _, h.inv.one.other (a := ⟨g, k, none⟩) (by dsimp only; omega) _, hset b⟩,
    h.oth.setCell (a := ⟨g, k, none⟩) (by simp [Value.ownBlock]; omega) _, h.lt⟩⟩
end Go.Proofs.Ytkpgelhmeokemaa

/- Quadtrees: the reference's TurnTree and CombineTrees. -/
namespace Go
open Go.RowKit Go.Proofs.Ytkpgelhmeokemaa
theorem Res.store2 {w W1 : World} {p : Nat} {T : TypeId} {u v : Value} (a b : Value) (hX : w.Ext W1) (hp : w.heap.size ≤ p) (h : Two W1 p T u v) :
    W1.cell? ⟨p, 0, none⟩ = some u ∧ W1.frozen? ⟨p, 0, none⟩ = false ∧ W1.cell? ⟨p, 1, none⟩ = some v ∧ W1.frozen? ⟨p, 1, none⟩ = false ∧
    ((W1.setCell ⟨p, 0, none⟩ a).setCell ⟨p, 1, none⟩ b).cell? ⟨p, 0, none⟩ = some a ∧ ((W1.setCell ⟨p, 0, none⟩ a).setCell ⟨p, 1, none⟩ b).cell? ⟨p, 1, none⟩ = some b ∧
    Hid (w.Ext ((W1.setCell ⟨p, 0, none⟩ a).setCell ⟨p, 1, none⟩ b)) :=
  ⟨h.cell0, h.free 0, h.cell1, h.free 1, (h.set a b).cell0, (h.set a b).cell1, (hX.setCell (p := ⟨p, 0, none⟩) hp a).setCell (p := ⟨p, 1, none⟩) hp b⟩
end Go
namespace Go.Proofs.Ytkpgelhmeokemaa
open Go Go.RowKit
theorem fS_mk {m : Nat} {g : Nat → Nat → Bool} (hm : 0 < m) {i j : Nat} (hi : i < m) (hj : j < m) : fS (picRows m m (mkl m m g)) i j = g i j := by
  have hl : (mkl m m g).length = m * m := mkl_len _ _ _
  unfold fS
  rw [picW_rows hm hl, picRows_len, picL_rows hl, pxl_at _ _ _ _ _ hi hj, mkl_at _ _ _ _ _ hi hj]
/-- The text of a picture with these pixels. -/
def txG (n : Nat) (g : Nat → Nat → Bool) : ByteArray := txB (qtext g n 0 0)
theorem txG_size {n : Nat} (g : Nat → Nat → Bool) (h : n ≤ 4) : (txG n g).size ≤ 426 := by
  unfold txG
  rw [txB_size]
  exact Nat.le_trans (qtext_le _ _ _ _) (Lq_4 h)
theorem txG_congr {n : Nat} {f g : Nat → Nat → Bool} (h : ∀ i j, i < 2 ^ n → j < 2 ^ n → f i j = g i j) : txG n f = txG n g := by
  unfold txG
  rw [qtext_congr n 0 0 fun i j _ hi _ hj => h i j (by omega) (by omega)]
/-- What TurnTree gives. -/
def turnO (z : Int) (s : ByteArray) (k : Int) : Option (Int × ByteArray) := if inB k 0 3 then (opn z s).map fun q => (z, txG q.1 (trnF k.toNat (2 ^ q.1) fun i j => q.2.on q.1 0 0 i j)) else none
def optT (o : Option (Int × ByteArray)) : Int × ByteArray := o.getD (0, ⟨#[]⟩)
theorem trnF_congr {k m : Nat} {f g : Nat → Nat → Bool} (h : ∀ i j, i < m → j < m → f i j = g i j) {x y : Nat} (hx : x < m) (hy : y < m) : trnF k m f x y = trnF k m g x y := by
  unfold trnF
  split
  · exact h _ _ (by omega) hy
  · exact h _ _ hx (by omega)
  · exact h _ _ hy hx
  · exact h _ _ hy (by omega)
theorem mkl_eq {m : Nat} {f g : Nat → Nat → Bool} (h : ∀ i j, i < m → j < m → f i j = g i j) : mkl m m f = mkl m m g := by
  rcases Nat.eq_zero_or_pos m with e | e
  · subst e; rfl
  · exact ((mkl_pt m f).congr h).mk e
def TreeRet (w : World) (o : Option (Int × ByteArray)) (e : Ending) (w' : World) : Prop := e = .returned (.tuple #[.agg #[.int .i64 (optT o).1, .string (optT o).2], .bool o.isSome]) ∧ w.Ext w'
end Go.Proofs.Ytkpgelhmeokemaa

/- Quadtrees: the reference's CombineTrees. -/
namespace Go.Proofs.Ytkpgelhmeokemaa
open Go Go.RowKit
def combO (k z : Int) (s : ByteArray) (z' : Int) (s' : ByteArray) : Option (Int × ByteArray) :=
  if inB k 0 3 = true ∧ z = z' then (opn z s).bind fun q => (opn z' s').map fun q' => (z, txG q.1 fun i j => joinB k.toNat (q.2.on q.1 0 0 i j) (q'.2.on q'.1 0 0 i j)) else none
theorem combO_some {k z z' : Int} {s s' : ByteArray} (h : combO k z s z' s' ≠ none) : inB k 0 3 = true ∧ z = z' ∧ ∃ n T T', opn z s = some (n, T) ∧ opn z' s' = some (n, T') ∧ combO k z s z' s' = some (z, txG n fun i j => joinB k.toNat (T.on n 0 0 i j) (T'.on n 0 0 i j)) := by
  unfold combO at h ⊢
  split at h
  · rename_i hc
    refine ⟨hc.1, hc.2, ?_⟩
    cases h1 : opn z s with
    | none => rw [h1] at h; exact absurd rfl h
    | some q =>
      cases h2 : opn z' s' with
      | none => rw [h1, h2] at h; exact absurd rfl h
      | some q' =>
        obtain ⟨-, -, -, e1, -⟩ := opn_some (n := q.1) (T := q.2) h1
        obtain ⟨-, -, -, e2, -⟩ := opn_some (n := q'.1) (T := q'.2) h2
        have e : q'.1 = q.1 := by rw [e1, e2, hc.2]
        refine ⟨q.1, q.2, q'.2, rfl, by rw [← e], ?_⟩
        rw [if_pos hc]
        show some (z, txG q.1 fun i j => joinB k.toNat (q.2.on q.1 0 0 i j) (q'.2.on q'.1 0 0 i j)) = _
        rw [e]
  · exact absurd rfl h
end Go.Proofs.Ytkpgelhmeokemaa
