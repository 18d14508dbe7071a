/- Texts that are cut at a mark, and numbers that are read in decimal: plain. -/
import Derived.Test.YthgkmaccbcpaeaaDoorDecF
import Derived.Lib.SplitLaws
import Derived.Lib.ParseIntB
namespace Go.Proofs.YthgkmaccbcpaeaaDoor
open Go Go.RowKit
section
variable {c : UInt8}
def stepC (c : UInt8) (s : List (List UInt8) × List UInt8) (b : UInt8) : List (List UInt8) × List UInt8 := if b = c then (s.1 ++ [s.2], []) else (s.1, s.2 ++ [b])
def cutS (c : UInt8) (l : List UInt8) : List (List UInt8) × List UInt8 := l.foldl (stepC c) ([], [])
/-- A text cut at each mark. -/
def cutL (c : UInt8) (l : List UInt8) : List (List UInt8) := (cutS c l).1 ++ [(cutS c l).2]
theorem foldl_stepC : ∀ (l : List UInt8) (P : List (List UInt8)) (q : List UInt8), l.foldl (stepC c) (P, q) = (P ++ (l.foldl (stepC c) ([], q)).1, (l.foldl (stepC c) ([], q)).2)
  | [], P, q => by simp
  | b :: l, P, q => by
    rw [List.foldl_cons, List.foldl_cons]
    by_cases h : b = c
    · have e1 : stepC c (P, q) b = (P ++ [q], []) := by unfold stepC; rw [if_pos h]
      have e2 : stepC c ([], q) b = ([q], []) := by unfold stepC; rw [if_pos h]; rfl
      rw [e1, e2, foldl_stepC l (P ++ [q]) [], foldl_stepC l [q] [], List.append_assoc]
    · have e1 : stepC c (P, q) b = (P, q ++ [b]) := by unfold stepC; rw [if_neg h]
      have e2 : stepC c ([], q) b = ([], q ++ [b]) := by unfold stepC; rw [if_neg h]
      rw [e1, e2, foldl_stepC l P (q ++ [b])]
theorem foldl_none : ∀ (l : List UInt8) (q : List UInt8), c ∉ l → l.foldl (stepC c) ([], q) = ([], q ++ l)
  | [], q, _ => by simp
  | b :: l, q, h => by
    rw [List.foldl_cons]
    have hb : b ≠ c := fun e => h (by rw [e]; exact List.mem_cons_self ..)
    have e2 : stepC c ([], q) b = ([], q ++ [b]) := by unfold stepC; rw [if_neg hb]
    rw [e2, foldl_none l (q ++ [b]) fun h2 => h (List.mem_cons_of_mem _ h2), List.append_assoc]
    rfl
theorem cutL_none {l : List UInt8} (h : c ∉ l) : cutL c l = [l] := by
  unfold cutL cutS
  rw [foldl_none l [] h]
  rfl
theorem cutL_hit {pre post : List UInt8} (h : c ∉ pre) : cutL c (pre ++ c :: post) = pre :: cutL c post := by
  unfold cutL cutS
  rw [List.foldl_append, foldl_none pre [] h, List.foldl_cons]
  have e : stepC c ([], [] ++ pre) c = ([pre], []) := by unfold stepC; rw [if_pos rfl]; rfl
  rw [e, foldl_stepC post [pre] []]
  rfl
theorem cutS_succ (l : List UInt8) {i : Nat} (h : i < l.length) : cutS c (l.take (i + 1)) = stepC c (cutS c (l.take i)) l[i] := by
  unfold cutS
  rw [List.take_succ_eq_append_getElem h, List.foldl_append]
  rfl
theorem splitK_cut : ∀ (n : Nat) (l : List UInt8), l.length ≤ n → Lib.splitK [c] 0 (Lib.count l [c]) l = cutL c l
  | n, l, hn => by
    rcases Lib.index_spec l [c] with ⟨h, -⟩ | ⟨i, h, hi, -⟩
    · rw [Lib.count_miss h]
      have h2 := h
      rw [Lib.index_one] at h2
      have h3 := Lib.indexByte_none h2
      rw [cutL_none]
      · rfl
      · intro hm
        obtain ⟨k, hk, e⟩ := List.getElem_of_mem hm
        exact h3 k (by rw [List.getElem?_eq_getElem hk, e])
    · have h2 := h
      rw [Lib.index_one] at h2
      obtain ⟨h3, h4⟩ := Lib.indexByte_some h2
      have hil : i < l.length := (List.getElem?_eq_some_iff.1 h3).1
      have hc : l[i] = c := (List.getElem?_eq_some_iff.1 h3).2
      have hl : l = l.take i ++ c :: l.drop (i + 1) := by
        rw [← hc, ← List.drop_eq_getElem_cons hil, List.take_append_drop]
      have hnm : c ∉ l.take i := fun hm => by
        obtain ⟨k, hk, e⟩ := List.getElem_of_mem hm
        have hk2 : k < i := by rw [List.length_take] at hk; omega
        rw [List.getElem_take] at e
        exact h4 k hk2 (by rw [List.getElem?_eq_getElem (by omega), e])
      match n, hn with
      | 0, hn => omega
      | n + 1, hn =>
        have ih := splitK_cut n (l.drop (i + 1)) (by rw [List.length_drop]; omega)
        have e1 : Lib.count l [c] = Lib.count (l.drop (i + 1)) [c] + 1 := by
          rw [Lib.count_hit (by simp) h, Nat.add_comm]
          rfl
        rw [e1]
        unfold Lib.splitK
        rw [h, if_neg (by simp), Int.toNat_natCast, Nat.add_zero, show i + [c].length = i + 1 from rfl, ih]
        conv => rhs; rw [hl]
        rw [cutL_hit hnm]
end
theorem bstr_data (s : ByteArray) : bstr s.data.toList = s := by
  unfold bstr
  rw [Array.toArray_toList]
theorem splitB_cut (c : UInt8) (s : ByteArray) : Lib.splitB ⟨#[c]⟩ 0 (Lib.countB s ⟨#[c]⟩) s = (cutL c s.data.toList).map bstr := by
  have h := Lib.splitB_data ⟨#[c]⟩ 0 (Lib.countB s ⟨#[c]⟩) s
  have h2 := splitK_cut (c := c) _ s.data.toList (Nat.le_refl _)
  have e : (⟨#[c]⟩ : ByteArray).data.toList = [c] := rfl
  rw [e] at h
  have h3 : (Lib.splitB ⟨#[c]⟩ 0 (Lib.countB s ⟨#[c]⟩) s).map (·.data.toList) = cutL c s.data.toList := h.trans h2
  rw [← h3, List.map_map]
  conv => lhs; rw [← List.map_id (Lib.splitB ⟨#[c]⟩ 0 (Lib.countB s ⟨#[c]⟩) s)]
  exact List.map_congr_left fun x _ => (bstr_data x).symm
theorem cut_count (c : UInt8) (s : ByteArray) : Lib.countB s ⟨#[c]⟩ + 1 = (cutL c s.data.toList).length := by
  have h := congrArg List.length (splitB_cut c s)
  rw [List.length_map] at h
  rw [← h]
  exact (Lib.splitB_all ⟨#[c]⟩ (Nat.le_refl 1) 0 _ s rfl).symm
theorem digs_range : ∀ (u : Nat) (b : UInt8), b ∈ Lib.decDigits u → 48 ≤ b.toNat ∧ b.toNat ≤ 57
  | u, b, h => by
    rw [Lib.decDigits] at h
    by_cases hu : u < 10
    · rw [dif_pos hu] at h
      have hb : b = UInt8.ofNat (48 + u) := by simpa using h
      rw [hb]
      have : (UInt8.ofNat (48 + u)).toNat = 48 + u := by simp; omega
      omega
    · rw [dif_neg hu] at h
      rcases List.mem_append.1 h with h1 | h1
      · exact digs_range (u / 10) b h1
      · have hb : b = UInt8.ofNat (48 + u % 10) := by simpa using h1
        rw [hb]
        have : (UInt8.ofNat (48 + u % 10)).toNat = 48 + u % 10 := by simp; omega
        omega
termination_by u => u
decreasing_by omega
theorem digs_ne (u : Nat) : Lib.decDigits u ≠ [] := by
  rw [Lib.decDigits]
  split <;> simp
theorem parseM_append (M : Nat) : ∀ (xs : List UInt8) (acc a : Nat) (ys : List UInt8), Lib.parseUintM M acc xs = .ok a → Lib.parseUintM M acc (xs ++ ys) = Lib.parseUintM M a ys
  | [], acc, a, ys, h => by
    unfold Lib.parseUintM at h
    cases h
    rfl
  | x :: xs, acc, a, ys, h => by
    rw [List.cons_append]
    unfold Lib.parseUintM at h
    rw [Lib.parseUintM]
    split at h
    · rename_i h1
      rw [if_pos h1]
      split at h
      · cases h
      · rename_i h2
        rw [if_neg h2]
        split at h
        · cases h
        · rename_i h3
          rw [if_neg h3]
          exact parseM_append M xs _ a ys h
    · cases h
theorem parseM_digs (M : Nat) (hM : 1000000000 ≤ M) : ∀ (u : Nat), u ≤ 1000000000 → Lib.parseUintM M 0 (Lib.decDigits u) = .ok u
  | u, hu => by
    have one : ∀ (a d : Nat), d < 10 → a * 10 + d ≤ 1000000000 → Lib.parseUintM M a [UInt8.ofNat (48 + d)] = .ok (a * 10 + d) := fun a d hd h => by
      have e : (UInt8.ofNat (48 + d)).toNat = 48 + d := by simp; omega
      unfold Lib.parseUintM
      rw [e, if_pos (by omega), if_neg (by omega), if_neg (by omega), show 48 + d - 48 = d by omega]
      rfl
    by_cases h : u < 10
    · rw [Lib.decDigits_one h]
      have := one 0 u h (by omega)
      rw [Nat.zero_mul, Nat.zero_add] at this
      exact this
    · rw [Lib.decDigits, dif_neg h, parseM_append M _ 0 (u / 10) _ (parseM_digs M hM (u / 10) (by omega)), one (u / 10) (u % 10) (Nat.mod_lt _ (by omega)) (by omega)]
      congr 1
      omega
termination_by u => u
decreasing_by omega
theorem parse_itoa (n : Int) (h1 : -1000000000 ≤ n) (h2 : n ≤ 1000000000) : Lib.parseIntB 64 (Lib.itoa n) = .ok n := by
  by_cases h : n < 0
  · obtain ⟨u, hu⟩ := Int.eq_ofNat_of_zero_le (show 0 ≤ -n by omega)
    have hn : n = -(u : Int) := by omega
    subst hn
    rw [Lib.itoa_neg u (by omega)]
    unfold Lib.parseIntB Lib.parseUintB
    have e : (45 : UInt8).toNat = 45 := rfl
    simp only [e, or_true, if_true]
    rw [if_neg (digs_ne u), parseM_digs _ (by decide) u (by omega)]
    have h63 : (2 : Nat) ^ (64 - 1) = 9223372036854775808 := by decide
    rw [h63]
    simp only [not_true_eq_false, false_and, if_false, true_and]
    rw [if_neg (by omega)]
  · obtain ⟨u, hu⟩ := Int.eq_ofNat_of_zero_le (show 0 ≤ n by omega)
    subst hu
    rw [Lib.itoa_nonneg]
    have hd := parseM_digs (2 ^ 64 - 1) (by decide) u (by omega)
    have hr := digs_range u
    cases hl : Lib.decDigits u with
    | nil => exact absurd hl (digs_ne u)
    | cons b r =>
      rw [hl] at hd hr
      have hb := hr b (List.mem_cons_self ..)
      unfold Lib.parseIntB Lib.parseUintB
      simp only
      rw [if_neg (show ¬ (b.toNat = 43 ∨ b.toNat = 45) by omega), if_neg (by simp), hd]
      have h63 : (2 : Nat) ^ (64 - 1) = 9223372036854775808 := by decide
      rw [h63]
      simp only
      rw [if_neg (by omega), if_neg (by omega), if_neg (by omega)]
/-- A number's text. -/
def IsDec (l : List UInt8) (n : Int) : Prop := -1000000000 ≤ n ∧ n ≤ 1000000000 ∧ Lib.itoa n = l
theorem IsDec.one {l : List UInt8} {n m : Int} (h : IsDec l n) (k : IsDec l m) : n = m := by
  have h1 := parse_itoa n h.1 h.2.1
  have h2 := parse_itoa m k.1 k.2.1
  rw [h.2.2] at h1
  rw [k.2.2, h1] at h2
  cases h2
  rfl
open Classical in
noncomputable def rdD (l : List UInt8) : Option Int := if h : ∃ n, IsDec l n then some h.choose else none
theorem rdD_some {l : List UInt8} {n : Int} (h : IsDec l n) : rdD l = some n := by
  have hx : ∃ n, IsDec l n := ⟨n, h⟩
  unfold rdD
  rw [dif_pos hx, hx.choose_spec.one h]
theorem rdD_none {l : List UInt8} (h : ∀ n, ¬ IsDec l n) : rdD l = none := by
  unfold rdD
  rw [dif_neg fun ⟨n, hn⟩ => h n hn]
noncomputable def rdV (l : List UInt8) : Int := (rdD l).getD 0
noncomputable def rdB (l : List UInt8) : Bool := (rdD l).isSome
theorem rd_yes {l : List UInt8} {n : Int} (h : IsDec l n) : rdV l = n ∧ rdB l = true := by
  unfold rdV rdB
  rw [rdD_some h]
  exact ⟨rfl, rfl⟩
theorem rd_no {l : List UInt8} (h : ∀ n, ¬ IsDec l n) : rdV l = 0 ∧ rdB l = false := by
  unfold rdV rdB
  rw [rdD_none h]
  exact ⟨rfl, rfl⟩
theorem rd_parse {l : List UInt8} {v : Int} (hp : Lib.parseIntB 64 l = .ok v) (h : ¬ (-1000000000 ≤ v ∧ v ≤ 1000000000 ∧ Lib.itoa v = l)) (n : Int) : ¬ IsDec l n := fun hn => by
  have h2 := parse_itoa n hn.1 hn.2.1
  rw [hn.2.2, hp] at h2
  cases h2
  exact h hn
theorem rd_fail {l : List UInt8} (hp : ∀ v, Lib.parseIntB 64 l ≠ .ok v) (n : Int) : ¬ IsDec l n := fun hn => by
  have h2 := parse_itoa n hn.1 hn.2.1
  rw [hn.2.2] at h2
  exact hp n h2
end Go.Proofs.YthgkmaccbcpaeaaDoor
