/- Texts that are cut at a mark, and numbers that are read in decimal: plain. -/
import Derived.Test.YtkpgelhmeokemaaGreatDoorDecF
import Derived.Lib.SplitLaws
import Derived.Lib.ParseIntB
namespace Go.Proofs.YtkpgelhmeokemaaGreatDoor
open Go Go.RowKit
section
variable {c : UInt8}
def stepC (c : UInt8) (s : List (List UInt8) × List UInt8) (b : UInt8) : List (List UInt8) × List UInt8 := if b = c then (s.1 ++ [s.2], []) else (s.1, s.2 ++ [b])
def cutS (c : UInt8) (l : List UInt8) : List (List UInt8) × List UInt8 := l.foldl (stepC c) ([], [])
/-- A text cut at each mark. -/
def cutY (c : UInt8) (l : List UInt8) : List (List UInt8) := (cutS c l).1 ++ [(cutS c l).2]
theorem foldl_stepC : ∀ (l : List UInt8) (P : List (List UInt8)) (q : List UInt8), l.foldl (stepC c) (P, q) = (P ++ (l.foldl (stepC c) ([], q)).1, (l.foldl (stepC c) ([], q)).2)
  | [], P, q => by simp
  | b :: l, P, q => by
    rw [List.foldl_cons, List.foldl_cons]
    by_cases h : b = c
    · have e1 : stepC c (P, q) b = (P ++ [q], []) := by unfold stepC; rw [if_pos h]
      have e2 : stepC c ([], q) b = ([q], []) := by unfold stepC; rw [if_pos h]; rfl
      rw [e1, e2, foldl_stepC l (P ++ [q]) [], foldl_stepC l [q] [], List.append_assoc]
    · have e1 : stepC c (P, q) b = (P, q ++ [b]) := by unfold stepC; rw [if_neg h]
      have e2 : stepC c ([], q) b = ([], q ++ [b]) := by unfold stepC; rw [if_neg h]
      rw [e1, e2, foldl_stepC l P (q ++ [b])]
theorem foldl_none : ∀ (l : List UInt8) (q : List UInt8), c ∉ l → l.foldl (stepC c) ([], q) = ([], q ++ l)
  | [], q, _ => by simp
  | b :: l, q, h => by
    rw [List.foldl_cons]
    have hb : b ≠ c := fun e => h (by rw [e]; exact List.mem_cons_self ..)
    have e2 : stepC c ([], q) b = ([], q ++ [b]) := by unfold stepC; rw [if_neg hb]
    rw [e2, foldl_none l (q ++ [b]) fun h2 => h (List.mem_cons_of_mem _ h2), List.append_assoc]
    rfl
theorem cutY_none {l : List UInt8} (h : c ∉ l) : cutY c l = [l] := by
  unfold cutY cutS
  rw [foldl_none l [] h]
  rfl
theorem cutY_hit {pre post : List UInt8} (h : c ∉ pre) : cutY c (pre ++ c :: post) = pre :: cutY c post := by
  unfold cutY cutS
  rw [List.foldl_append, foldl_none pre [] h, List.foldl_cons]
  have e : stepC c ([], [] ++ pre) c = ([pre], []) := by unfold stepC; rw [if_pos rfl]; rfl
  rw [e, foldl_stepC post [pre] []]
  rfl
theorem cutS_succ (l : List UInt8) {i : Nat} (h : i < l.length) : cutS c (l.take (i + 1)) = stepC c (cutS c (l.take i)) l[i] := by
  unfold cutS
  rw [List.take_succ_eq_append_getElem h, List.foldl_append]
  rfl
theorem splitK_cut : ∀ (n : Nat) (l : List UInt8), l.length ≤ n → Lib.splitK [c] 0 (Lib.count l [c]) l = cutY c l
  | n, l, hn => by
    rcases Lib.index_spec l [c] with ⟨h, -⟩ | ⟨i, h, hi, -⟩
    · rw [Lib.count_miss h]
      have h2 := h
      rw [Lib.index_one] at h2
      have h3 := Lib.indexByte_none h2
      rw [cutY_none]
      · rfl
      · intro hm
        obtain ⟨k, hk, e⟩ := List.getElem_of_mem hm
        exact h3 k (by rw [List.getElem?_eq_getElem hk, e])
    · have h2 := h
      rw [Lib.index_one] at h2
      obtain ⟨h3, h4⟩ := Lib.indexByte_some h2
      have hil : i < l.length := (List.getElem?_eq_some_iff.1 h3).1
      have hc : l[i] = c := (List.getElem?_eq_some_iff.1 h3).2
      have hl : l = l.take i ++ c :: l.drop (i + 1) := by
        rw [← hc, ← List.drop_eq_getElem_cons hil, List.take_append_drop]
      have hnm : c ∉ l.take i := fun hm => by
        obtain ⟨k, hk, e⟩ := List.getElem_of_mem hm
        have hk2 : k < i := by rw [List.length_take] at hk; omega
        rw [List.getElem_take] at e
        exact h4 k hk2 (by rw [List.getElem?_eq_getElem (by omega), e])
      match n, hn with
      | 0, hn => omega
      | n + 1, hn =>
        have ih := splitK_cut n (l.drop (i + 1)) (by rw [List.length_drop]; omega)
        have e1 : Lib.count l [c] = Lib.count (l.drop (i + 1)) [c] + 1 := by
          rw [Lib.count_hit (by simp) h, Nat.add_comm]
          rfl
        rw [e1]
        unfold Lib.splitK
        rw [h, if_neg (by simp), Int.toNat_natCast, Nat.add_zero, show i + [c].length = i + 1 from rfl, ih]
        conv => rhs; rw [hl]
        rw [cutY_hit hnm]
end
theorem bstr_data (s : ByteArray) : bstr s.data.toList = s := by
  unfold bstr
  rw [Array.toArray_toList]
theorem splitB_cut (c : UInt8) (s : ByteArray) : Lib.splitB ⟨#[c]⟩ 0 (Lib.countB s ⟨#[c]⟩) s = (cutY c s.data.toList).map bstr := by
  have h := Lib.splitB_data ⟨#[c]⟩ 0 (Lib.countB s ⟨#[c]⟩) s
  have h2 := splitK_cut (c := c) _ s.data.toList (Nat.le_refl _)
  have e : (⟨#[c]⟩ : ByteArray).data.toList = [c] := rfl
  rw [e] at h
  have h3 : (Lib.splitB ⟨#[c]⟩ 0 (Lib.countB s ⟨#[c]⟩) s).map (·.data.toList) = cutY c s.data.toList := h.trans h2
  rw [← h3, List.map_map]
  conv => lhs; rw [← List.map_id (Lib.splitB ⟨#[c]⟩ 0 (Lib.countB s ⟨#[c]⟩) s)]
  exact List.map_congr_left fun x _ => (bstr_data x).symm
theorem cut_count (c : UInt8) (s : ByteArray) : Lib.countB s ⟨#[c]⟩ + 1 = (cutY c s.data.toList).length := by
  have h := congrArg List.length (splitB_cut c s)
  rw [List.length_map] at h
  rw [← h]
  exact (Lib.splitB_all ⟨#[c]⟩ (Nat.le_refl 1) 0 _ s rfl).symm
theorem digs_range : ∀ (u : Nat) (b : UInt8), b ∈ Lib.decDigits u → 48 ≤ b.toNat ∧ b.toNat ≤ 57
  | u, b, h => by
    rw [Lib.decDigits] at h
    by_cases hu : u < 10
    · rw [dif_pos hu] at h
      have hb : b = UInt8.ofNat (48 + u) := by simpa using h
      rw [hb]
      have : (UInt8.ofNat (48 + u)).toNat = 48 + u := by simp; omega
      omega
    · rw [dif_neg hu] at h
      rcases List.mem_append.1 h with h1 | h1
      · exact digs_range (u / 10) b h1
      · have hb : b = UInt8.ofNat (48 + u % 10) := by simpa using h1
        rw [hb]
        have : (UInt8.ofNat (48 + u % 10)).toNat = 48 + u % 10 := by simp; omega
        omega
termination_by u => u
decreasing_by omega
theorem digs_ne (u : Nat) : Lib.decDigits u ≠ [] := by
  rw [Lib.decDigits]
  split <;> simp
theorem parseM_append (M : Nat) : ∀ (xs : List UInt8) (acc a : Nat) (ys : List UInt8), Lib.parseUintM M acc xs = .ok a → Lib.parseUintM M acc (xs ++ ys) = Lib.parseUintM M a ys
  | [], acc, a, ys, h => by
    unfold Lib.parseUintM at h
    cases h
    rfl
  | x :: xs, acc, a, ys, h => by
    rw [List.cons_append]
    unfold Lib.parseUintM at h
    rw [Lib.parseUintM]
    split at h
    · rename_i h1
      rw [if_pos h1]
      split at h
      · cases h
      · rename_i h2
        rw [if_neg h2]
        split at h
        · cases h
        · rename_i h3
          rw [if_neg h3]
          exact parseM_append M xs _ a ys h
    · cases h
theorem parseM_digs (M : Nat) (hM : 1000000000 ≤ M) : ∀ (u : Nat), u ≤ 1000000000 → Lib.parseUintM M 0 (Lib.decDigits u) = .ok u
  | u, hu => by
    have one : ∀ (a d : Nat), d < 10 → a * 10 + d ≤ 1000000000 → Lib.parseUintM M a [UInt8.ofNat (48 + d)] = .ok (a * 10 + d) := fun a d hd h => by
      have e : (UInt8.ofNat (48 + d)).toNat = 48 + d := by simp; omega
      unfold Lib.parseUintM
      rw [e, if_pos (by omega), if_neg (by omega), if_neg (by omega), show 48 + d - 48 = d by omega]
      rfl
    by_cases h : u < 10
    · rw [Lib.decDigits_one h]
      have := one 0 u h (by omega)
      rw [Nat.zero_mul, Nat.zero_add] at this
      exact this
    · rw [Lib.decDigits, dif_neg h, parseM_append M _ 0 (u / 10) _ (parseM_digs M hM (u / 10) (by omega)), one (u / 10) (u % 10) (Nat.mod_lt _ (by omega)) (by omega)]
      congr 1
      omega
termination_by u => u
decreasing_by omega
theorem parse_itoa (n : Int) (h1 : -1000000000 ≤ n) (h2 : n ≤ 1000000000) : Lib.parseIntB 64 (Lib.itoa n) = .ok n := by
  by_cases h : n < 0
  · obtain ⟨u, hu⟩ := Int.eq_ofNat_of_zero_le (show 0 ≤ -n by omega)
    have hn : n = -(u : Int) := by omega
    subst hn
    rw [Lib.itoa_neg u (by omega)]
    unfold Lib.parseIntB Lib.parseUintB
    have e : (45 : UInt8).toNat = 45 := rfl
    simp only [e, or_true, if_true]
    rw [if_neg (digs_ne u), parseM_digs _ (by decide) u (by omega)]
    have h63 : (2 : Nat) ^ (64 - 1) = 9223372036854775808 := by decide
    rw [h63]
    simp only [not_true_eq_false, false_and, if_false, true_and]
    rw [if_neg (by omega)]
  · obtain ⟨u, hu⟩ := Int.eq_ofNat_of_zero_le (show 0 ≤ n by omega)
    subst hu
    rw [Lib.itoa_nonneg]
    have hd := parseM_digs (2 ^ 64 - 1) (by decide) u (by omega)
    have hr := digs_range u
    cases hl : Lib.decDigits u with
    | nil => exact absurd hl (digs_ne u)
    | cons b r =>
      rw [hl] at hd hr
      have hb := hr b (List.mem_cons_self ..)
      unfold Lib.parseIntB Lib.parseUintB
      simp only
      rw [if_neg (show ¬ (b.toNat = 43 ∨ b.toNat = 45) by omega), if_neg (by simp), hd]
      have h63 : (2 : Nat) ^ (64 - 1) = 9223372036854775808 := by decide
      rw [h63]
      simp only
      rw [if_neg (by omega), if_neg (by omega), if_neg (by omega)]
/-- A number's text. -/
def IsDec (l : List UInt8) (n : Int) : Prop := -1000000000 ≤ n ∧ n ≤ 1000000000 ∧ Lib.itoa n = l
theorem IsDec.one {l : List UInt8} {n m : Int} (h : IsDec l n) (k : IsDec l m) : n = m := by
  have h1 := parse_itoa n h.1 h.2.1
  have h2 := parse_itoa m k.1 k.2.1
  rw [h.2.2] at h1
  rw [k.2.2, h1] at h2
  cases h2
  rfl
open Classical in
noncomputable def rdD (l : List UInt8) : Option Int := if h : ∃ n, IsDec l n then some h.choose else none
theorem rdD_some {l : List UInt8} {n : Int} (h : IsDec l n) : rdD l = some n := by
  have hx : ∃ n, IsDec l n := ⟨n, h⟩
  unfold rdD
  rw [dif_pos hx, hx.choose_spec.one h]
theorem rdD_none {l : List UInt8} (h : ∀ n, ¬ IsDec l n) : rdD l = none := by
  unfold rdD
  rw [dif_neg fun ⟨n, hn⟩ => h n hn]
noncomputable def rdV (l : List UInt8) : Int := (rdD l).getD 0
noncomputable def rdB (l : List UInt8) : Bool := (rdD l).isSome
theorem rd_yes {l : List UInt8} {n : Int} (h : IsDec l n) : rdV l = n ∧ rdB l = true := by
  unfold rdV rdB
  rw [rdD_some h]
  exact ⟨rfl, rfl⟩
theorem rd_no {l : List UInt8} (h : ∀ n, ¬ IsDec l n) : rdV l = 0 ∧ rdB l = false := by
  unfold rdV rdB
  rw [rdD_none h]
  exact ⟨rfl, rfl⟩
theorem rd_parse {l : List UInt8} {v : Int} (hp : Lib.parseIntB 64 l = .ok v) (h : ¬ (-1000000000 ≤ v ∧ v ≤ 1000000000 ∧ Lib.itoa v = l)) (n : Int) : ¬ IsDec l n := fun hn => by
  have h2 := parse_itoa n hn.1 hn.2.1
  rw [hn.2.2, hp] at h2
  cases h2
  exact h hn
theorem rd_fail {l : List UInt8} (hp : ∀ v, Lib.parseIntB 64 l ≠ .ok v) (n : Int) : ¬ IsDec l n := fun hn => by
  have h2 := parse_itoa n hn.1 hn.2.1
  rw [hn.2.2] at h2
  exact hp n h2
end Go.Proofs.YtkpgelhmeokemaaGreatDoor

/- Texts of grey pictures are read: the reference. -/
namespace Go.Proofs.YtkpgelhmeokemaaGreatDoor
open Go Go.RowKit
theorem ext_bstr (s : ByteArray) (a b : Nat) : s.extract a b = bstr ((s.data.toList.take b).drop a) := by
  rw [← bstr_data (s.extract a b), Lib.extract_data, List.drop_take]
section
variable {c : UInt8} {l : List UInt8}
theorem cutS_tail (c : UInt8) (l : List UInt8) : ∀ i, i ≤ l.length → (cutS c (l.take i)).2.length ≤ i ∧ (cutS c (l.take i)).2 = (l.take i).drop (i - (cutS c (l.take i)).2.length)
  | 0, _ => by simp [cutS]
  | i + 1, h => by
    obtain ⟨h1, h2⟩ := cutS_tail c l i (by omega)
    have hi : i < l.length := by omega
    rw [cutS_succ l hi]
    unfold stepC
    by_cases e : l[i] = c
    · rw [if_pos e]
      refine ⟨Nat.zero_le _, ?_⟩
      rw [show i + 1 - ([] : List UInt8).length = i + 1 from rfl, List.drop_eq_nil_of_le (by rw [List.length_take]; omega)]
    · rw [if_neg e]
      refine ⟨by simp; omega, ?_⟩
      have e2 : i + 1 - ((cutS c (l.take i)).2 ++ [l[i]]).length = i - (cutS c (l.take i)).2.length := by rw [List.length_append]; simp
      show (cutS c (l.take i)).2 ++ [l[i]] = _
      rw [e2, List.take_succ_eq_append_getElem hi, List.drop_append_of_le_length (by rw [List.length_take]; omega), ← h2]
/-- The pieces that are told when i bytes are seen, and where the next one begins. -/
def cutP (c : UInt8) (l : List UInt8) (i : Nat) : List (List UInt8) := if i ≤ l.length then (cutS c (l.take i)).1 else cutY c l
def cutFy (c : UInt8) (l : List UInt8) (i : Nat) : Nat := if i ≤ l.length then i - (cutS c (l.take i)).2.length else i
theorem cutFy_le (c : UInt8) (l : List UInt8) (i : Nat) : cutFy c l i ≤ i := by unfold cutFy; split <;> omega
theorem cut_piece {i : Nat} (h : i ≤ l.length) : (cutS c (l.take i)).2 = (l.take i).drop (cutFy c l i) := by
  unfold cutFy
  rw [if_pos h]
  exact (cutS_tail c l i h).2
theorem cut_at {i : Nat} (h : i < l.length) (e : l[i] = c) : cutP c l (i + 1) = cutP c l i ++ [(l.take i).drop (cutFy c l i)] ∧ cutFy c l (i + 1) = i + 1 := by
  have h2 : cutS c (l.take (i + 1)) = ((cutS c (l.take i)).1 ++ [(cutS c (l.take i)).2], []) := by rw [cutS_succ l h]; unfold stepC; rw [if_pos e]
  refine ⟨?_, ?_⟩
  · unfold cutP
    rw [if_pos (by omega), if_pos (by omega), h2, cut_piece (by omega)]
  · unfold cutFy
    rw [if_pos (by omega), h2]
    rfl
theorem cut_skip {i : Nat} (h : i < l.length) (e : l[i] ≠ c) : cutP c l (i + 1) = cutP c l i ∧ cutFy c l (i + 1) = cutFy c l i := by
  have h2 : cutS c (l.take (i + 1)) = ((cutS c (l.take i)).1, (cutS c (l.take i)).2 ++ [l[i]]) := by rw [cutS_succ l h]; unfold stepC; rw [if_neg e]
  refine ⟨?_, ?_⟩
  · unfold cutP
    rw [if_pos (by omega), if_pos (by omega), h2]
  · unfold cutFy
    rw [if_pos (by omega), if_pos (by omega), h2, List.length_append]
    simp
theorem cut_end (c : UInt8) (l : List UInt8) : cutP c l (l.length + 1) = cutP c l l.length ++ [(l.take l.length).drop (cutFy c l l.length)] ∧ cutFy c l (l.length + 1) = l.length + 1 := by
  refine ⟨?_, by unfold cutFy; rw [if_neg (by omega)]⟩
  rw [← cut_piece (Nat.le_refl _)]
  unfold cutP
  rw [if_neg (by omega), if_pos (Nat.le_refl _), List.take_length]
  rfl
theorem cutP_len (c : UInt8) (l : List UInt8) : ∀ i, i ≤ l.length + 1 → (cutP c l i).length ≤ i
  | 0, _ => by simp [cutP, cutS]
  | i + 1, h => by
    have ih := cutP_len c l i (by omega)
    by_cases hi : i < l.length
    · by_cases e : l[i] = c
      · rw [(cut_at hi e).1, List.length_append]; simp; omega
      · rw [(cut_skip hi e).1]; omega
    · have : i = l.length := by omega
      subst this
      rw [(cut_end c l).1, List.length_append]; simp; omega
end
theorem cutY_len (c : UInt8) (l : List UInt8) : (cutY c l).length ≤ l.length + 1 := by
  have h := cutP_len c l (l.length + 1) (Nat.le_refl _)
  unfold cutP at h
  rwa [if_neg (by omega)] at h
theorem row_grown {α β : Type} {f : α → Value} {d : α} {g : β → Value} {w w3 : World} {a : Option Addr} {xs : List α} {ys : List β} {e e' : TypeId} {lo : Nat} {v : Value} {o : Obj} (hr : RowOf f d w a xs) (ht : Tag w a e') (hg : GrowOf g lo e w v ys) (hne : e ≠ e') (hgrow : (w.alloc o).grownBy w3 v.ownBlock) : RowOf f d w3 a xs ∧ Tag w3 a e' := by
  have hb : ∀ b o' s, a = some ⟨b, o', s⟩ → w3.heap[b]? = w.heap[b]? := fun b o' s h => by
    have hlt := ht.lt h
    rw [hgrow.block b (by simp; omega) (ht.ne hg hne h), Below.heap_alloc _ _ _ hlt]
  refine ⟨fun i hi => ?_, ht.keep hb⟩
  obtain ⟨b, o', h1, h2⟩ := hr i hi
  exact ⟨b, o', h1, by rw [World.cell?_of_block (a := ⟨b, o' + i, none⟩) (hb b o' none h1)]; exact h2⟩
/-- A row of strings is returned, in new memory. -/
def StrsRet (w : World) (L : List ByteArray) (e : Ending) (w' : World) : Prop := ∃ a c, e = .returned (.slice a L.length c) ∧ w.Ext w' ∧ OwnOf Value.string ByteArray.empty w.heap.size w'.heap.size w' a L ∧ Tag w' a 9
/-- What the digits of a text spell. -/
def valS (a : Nat) (b : UInt8) : Nat := if 48 ≤ b.toNat ∧ b.toNat ≤ 57 then 10 * a + (b.toNat - 48) else a
def valD (l : List UInt8) : Nat := l.foldl valS 0
theorem valD_succ (l : List UInt8) {i : Nat} (h : i < l.length) : valD (l.take (i + 1)) = valS (valD (l.take i)) l[i] := by
  unfold valD
  rw [List.take_succ_eq_append_getElem h, List.foldl_append]
  rfl
theorem valD_lt (l : List UInt8) : ∀ i, valD (l.take i) < 10 ^ i
  | 0 => by simp [valD]
  | i + 1 => by
    have ih := valD_lt l i
    by_cases h : i < l.length
    · rw [valD_succ l h, Nat.pow_succ]
      unfold valS
      split <;> omega
    · rw [List.take_of_length_le (by omega)]
      rw [List.take_of_length_le (by omega)] at ih
      rw [Nat.pow_succ]
      omega
theorem valD_digs : ∀ (u : Nat), valD (Lib.decDigits u) = u
  | u => by
    have one : ∀ (a d : Nat), d < 10 → valS a (UInt8.ofNat (48 + d)) = 10 * a + d := fun a d hd => by
      have e : (UInt8.ofNat (48 + d)).toNat = 48 + d := by simp; omega
      unfold valS
      rw [e, if_pos (by omega)]
      omega
    by_cases h : u < 10
    · rw [Lib.decDigits_one h]
      show valS 0 _ = _
      rw [one 0 u h]
      omega
    · have ih := valD_digs (u / 10)
      rw [Lib.decDigits, dif_neg h]
      unfold valD at ih ⊢
      rw [List.foldl_append, ih]
      show valS (u / 10) _ = _
      rw [one _ _ (Nat.mod_lt _ (by omega))]
      omega
termination_by u => u
decreasing_by omega
theorem valD_itoa (n : Int) : valD (Lib.itoa n) = n.natAbs ∧ (n < 0 ↔ (Lib.itoa n).getD 0 0 = 45) := by
  by_cases h : n < 0
  · obtain ⟨u, hu⟩ := Int.eq_ofNat_of_zero_le (show 0 ≤ -n by omega)
    have hn : n = -(u : Int) := by omega
    subst hn
    rw [Lib.itoa_neg u (by omega)]
    refine ⟨?_, by simpa using h⟩
    show (Lib.decDigits u).foldl valS (valS 0 45) = _
    have e : valS 0 45 = 0 := by decide
    rw [e]
    have := valD_digs u
    unfold valD at this
    rw [this]
    omega
  · obtain ⟨u, hu⟩ := Int.eq_ofNat_of_zero_le (show 0 ≤ n by omega)
    subst hu
    rw [Lib.itoa_nonneg, valD_digs]
    refine ⟨by omega, ⟨fun h2 => by omega, fun h2 => ?_⟩⟩
    have hr := digs_range u
    cases hl : Lib.decDigits u with
    | nil => exact absurd hl (digs_ne u)
    | cons b r =>
      rw [hl] at hr h2
      have hb := hr b (List.mem_cons_self ..)
      have h2 : b = 45 := h2
      rw [h2] at hb
      have : (45 : UInt8).toNat = 45 := rfl
      omega
/-- The number that a text would have. -/
def valZ (l : List UInt8) : Int := if l.getD 0 0 = 45 then -(valD l : Int) else (valD l : Int)
theorem valZ_of {l : List UInt8} {n : Int} (h : IsDec l n) : valZ l = n := by
  obtain ⟨h1, h2⟩ := valD_itoa n
  rw [h.2.2] at h1 h2
  unfold valZ
  by_cases hn : n < 0
  · rw [if_pos (h2.1 hn), h1]; omega
  · rw [if_neg fun h3 => hn (h2.2 h3), h1]; omega
theorem rd_val {l : List UInt8} (h : ¬ (-1000000000 ≤ valZ l ∧ valZ l ≤ 1000000000 ∧ Lib.itoa (valZ l) = l)) (n : Int) : ¬ IsDec l n := fun hn => by
  have e := valZ_of hn
  rw [e] at h
  exact h hn
theorem dec_len {l : List UInt8} {n : Int} (h : IsDec l n) : 1 ≤ l.length ∧ l.length ≤ 11 := by
  rw [← h.2.2]
  obtain ⟨h1, h2, -⟩ := h
  have d : ∀ u : Nat, u ≤ 1000000000 → 1 ≤ (Lib.decDigits u).length ∧ (Lib.decDigits u).length ≤ 10 := fun u hu =>
    ⟨List.length_pos_iff.2 (digs_ne u), digs_le 9 u (by omega)⟩
  by_cases hn : n < 0
  · obtain ⟨u, hu⟩ := Int.eq_ofNat_of_zero_le (show 0 ≤ -n by omega)
    have hn2 : n = -(u : Int) := by omega
    subst hn2
    rw [Lib.itoa_neg u (by omega), List.length_cons]
    have := d u (by omega)
    omega
  · obtain ⟨u, hu⟩ := Int.eq_ofNat_of_zero_le (show 0 ≤ n by omega)
    subst hu
    rw [Lib.itoa_nonneg]
    have := d u (by omega)
    omega
theorem bytes_inj2 {s t : ByteArray} (h : s.toList = t.toList) : s = t := by
  rw [ByteArray.toList_eq, ByteArray.toList_eq] at h
  cases s
  cases t
  congr 1
  exact Array.toList_inj.1 h
/-- A number is read, or none. -/
def RdRet (w : World) (l : List UInt8) (e : Ending) (w' : World) : Prop := e = .returned (.tuple #[.int .i64 (rdV l), .bool (rdB l)]) ∧ w.Ext w'
theorem RdRet.no {w w' : World} {l : List UInt8} (h : ∀ n, ¬ IsDec l n) (hx : w.Ext w') : RdRet w l (.returned (.tuple #[.int .i64 0, .bool false])) w' := by
  obtain ⟨h1, h2⟩ := rd_no h
  unfold RdRet
  rw [h1, h2]
  exact ⟨rfl, hx⟩
theorem RdRet.yes {w w' : World} {l : List UInt8} {n : Int} (h : IsDec l n) (hx : w.Ext w') : RdRet w l (.returned (.tuple #[.int .i64 n, .bool true])) w' := by
  obtain ⟨h1, h2⟩ := rd_yes h
  unfold RdRet
  rw [h1, h2]
  exact ⟨rfl, hx⟩
end Go.Proofs.YtkpgelhmeokemaaGreatDoor

/- Lists of numbers are read: the reference. -/
namespace Go.Proofs.YtkpgelhmeokemaaGreatDoor
open Go Go.RowKit
def noneS : List UInt8 := [110, 111, 110, 101]
noncomputable def lsB (l : List UInt8) : Bool := if l = noneS then true else decide ((cutY 44 l).length ≤ 300) && (cutY 44 l).all rdB
noncomputable def lsV (l : List UInt8) : List Int := if lsB l then (if l = noneS then [] else (cutY 44 l).map rdV) else []
theorem ls_none {l : List UInt8} (h : l = noneS) : lsB l = true ∧ lsV l = [] := by
  have h1 : lsB l = true := by unfold lsB; rw [if_pos h]
  refine ⟨h1, ?_⟩
  unfold lsV
  rw [h1, if_pos rfl, if_pos h]
theorem ls_many {l : List UInt8} (h : l ≠ noneS) (h2 : 300 < (cutY 44 l).length) : lsB l = false ∧ lsV l = [] := by
  have h1 : lsB l = false := by unfold lsB; rw [if_neg h, decide_eq_false (by omega)]; rfl
  refine ⟨h1, ?_⟩
  unfold lsV
  rw [h1]
  rfl
theorem ls_bad {l : List UInt8} (h : l ≠ noneS) {k : Nat} (hk : k < (cutY 44 l).length) (h2 : rdB ((cutY 44 l).getD k []) = false) : lsB l = false ∧ lsV l = [] := by
  have h1 : lsB l = false := by
    unfold lsB
    rw [if_neg h]
    have : (cutY 44 l).all rdB = false := by
      rw [Bool.eq_false_iff]
      intro h3
      have := (all_getD (d := [])).1 h3 k hk
      rw [h2] at this
      cases this
    rw [this, Bool.and_false]
  refine ⟨h1, ?_⟩
  unfold lsV
  rw [h1]
  rfl
theorem ls_all {l : List UInt8} (h : l ≠ noneS) (h2 : (cutY 44 l).length ≤ 300) (h3 : ∀ k, k < (cutY 44 l).length → rdB ((cutY 44 l).getD k []) = true) : lsB l = true ∧ lsV l = (cutY 44 l).map rdV := by
  have h1 : lsB l = true := by
    unfold lsB
    rw [if_neg h, decide_eq_true h2, Bool.true_and]
    exact (all_getD (d := [])).2 h3
  refine ⟨h1, ?_⟩
  unfold lsV
  rw [h1, if_pos rfl, if_neg h]
/-- A list of numbers is read, or none. -/
def LsRet (w : World) (l : List UInt8) (e : Ending) (w' : World) : Prop := ∃ a c, e = .returned (.tuple #[.slice a (lsV l).length c, .bool (lsB l)]) ∧ w.Ext w' ∧ GrowOf (Value.int .i64) w.heap.size 2 w' (.slice a (lsV l).length c) (lsV l)
theorem LsRet.no {w w' : World} {l : List UInt8} (h : lsB l = false ∧ lsV l = []) (hx : w.Ext w') : LsRet w l (.returned (.tuple #[.slice none 0 0, .bool false])) w' := by
  refine ⟨none, 0, ?_, hx, ?_⟩
  · rw [h.1, h.2]; rfl
  · rw [h.2]; exact GrowOf.nilStart _ _ _
theorem str_none (s : ByteArray) : (s.toList == [110, 111, 110, 101]) = decide (s.data.toList = noneS) := by
  rw [ByteArray.toList_eq]
  by_cases h : s.data.toList = noneS
  · rw [decide_eq_true h, beq_iff_eq, h]
    rfl
  · rw [decide_eq_false h, beq_eq_false_iff_ne]
    exact h
theorem cutP_piece (c : UInt8) (l : List UInt8) : ∀ i, i ≤ l.length + 1 → ∀ x, x ∈ cutP c l i → x.length ≤ l.length
  | 0, _, x, hx => by
    unfold cutP at hx
    rw [if_pos (Nat.zero_le _)] at hx
    simp [cutS] at hx
  | i + 1, h, x, hx => by
    have ih := cutP_piece c l i (by omega) x
    have one : ∀ j, ((l.take j).drop (cutFy c l j)).length ≤ l.length := fun j => by rw [List.length_drop, List.length_take]; omega
    by_cases hi : i < l.length
    · by_cases e : l[i] = c
      · rw [(cut_at hi e).1] at hx
        rcases List.mem_append.1 hx with h1 | h1
        · exact ih h1
        · rw [List.mem_singleton.1 h1]; exact one i
      · rw [(cut_skip hi e).1] at hx
        exact ih hx
    · have : i = l.length := by omega
      subst this
      rw [(cut_end c l).1] at hx
      rcases List.mem_append.1 hx with h1 | h1
      · exact ih h1
      · rw [List.mem_singleton.1 h1]; exact one _
theorem cutY_piece (c : UInt8) (l : List UInt8) (k : Nat) : ((cutY c l).getD k []).length ≤ l.length := by
  by_cases hk : k < (cutY c l).length
  · rw [List.getD_eq_getElem?_getD, List.getElem?_eq_getElem hk]
    refine cutP_piece c l (l.length + 1) (Nat.le_refl _) _ ?_
    unfold cutP
    rw [if_neg (by omega)]
    exact List.getElem_mem hk
  · rw [List.getD_eq_getElem?_getD, List.getElem?_eq_none (by omega)]
    exact Nat.zero_le _
end Go.Proofs.YtkpgelhmeokemaaGreatDoor

/- Grey pictures are read: the reference. -/
namespace Go.Proofs.YtkpgelhmeokemaaGreatDoor
open Go Go.RowKit
noncomputable def gyB (l : List UInt8) : Bool := decide ((cutY 47 l).length ≤ 16) && ((cutY 47 l).all lsB && tableOk ((cutY 47 l).map lsV) 99)
noncomputable def gyM (l : List UInt8) : List (List Int) := if gyB l then (cutY 47 l).map lsV else []
theorem gy_no {l : List UInt8} (h : gyB l = false) : gyB l = false ∧ gyM l = [] := ⟨h, by unfold gyM; rw [h]; rfl⟩
theorem gy_many {l : List UInt8} (h : 16 < (cutY 47 l).length) : gyB l = false ∧ gyM l = [] := gy_no (by unfold gyB; rw [decide_eq_false (by omega)]; rfl)
theorem gy_bad {l : List UInt8} {k : Nat} (hk : k < (cutY 47 l).length) (h2 : lsB ((cutY 47 l).getD k []) = false) : gyB l = false ∧ gyM l = [] := gy_no (by
  unfold gyB
  have : (cutY 47 l).all lsB = false := by
    rw [Bool.eq_false_iff]
    intro h3
    have := (all_getD (d := [])).1 h3 k hk
    rw [h2] at this
    cases this
  rw [this, Bool.false_and, Bool.and_false])
theorem gy_tab {l : List UInt8} (h : tableOk ((cutY 47 l).map lsV) 99 = false) : gyB l = false ∧ gyM l = [] := gy_no (by unfold gyB; rw [h, Bool.and_false, Bool.and_false])
theorem gy_yes {l : List UInt8} (h : (cutY 47 l).length ≤ 16) (h2 : ∀ k, k < (cutY 47 l).length → lsB ((cutY 47 l).getD k []) = true) (h3 : tableOk ((cutY 47 l).map lsV) 99 = true) : gyB l = true ∧ gyM l = (cutY 47 l).map lsV := by
  have h1 : gyB l = true := by
    unfold gyB
    rw [decide_eq_true h, h3, Bool.and_true, Bool.true_and]
    exact (all_getD (d := [])).2 h2
  refine ⟨h1, ?_⟩
  unfold gyM
  rw [h1]
  rfl
theorem lsV_len (l : List UInt8) : (lsV l).length ≤ 300 := by
  unfold lsV
  cases h : lsB l
  · simp
  · rw [if_pos rfl]
    split
    · simp
    · rename_i hn
      unfold lsB at h
      rw [if_neg hn, Bool.and_eq_true, decide_eq_true_eq] at h
      rw [List.length_map]
      exact h.1
theorem gy_row (L : List (List UInt8)) (r : Nat) : ((L.map lsV).getD r []).length ≤ 1048576 := by
  by_cases h : r < L.length
  · rw [getD_map lsV L r [] [] h]
    exact Nat.le_trans (lsV_len _) (by omega)
  · rw [List.getD_eq_getElem?_getD, List.getElem?_eq_none (by simp; omega)]
    exact Nat.zero_le _
theorem growM_other {lo : Nat} {TO TI T : TypeId} {w : World} {v x0 : Value} {A : Nat → Option Addr} {C : Nat → Nat} {m : List (List Int)} {p : Nat} (hne : TO ≠ T) (hni : TI ≠ T) (h : GrowM lo TO TI w v A C m) (ho : One w p T x0) (u : Value) : GrowM lo TO TI (w.setCell ⟨p, 0, none⟩ u) v A C m :=
  ⟨World.ownsRow.setCell h.outer (World.ownsRow.ne h.outer (show w.heap[p]? = some (.cells #[x0] T (0, 0)) from ho) hne) u, fun r hr => GrowOf.setCell (h.rows r hr) (GrowOf.ne (h.rows r hr) ho hni) u, h.apart⟩
/-- Rows are read into a box. -/
structure GyR (w : World) (p1 p : Nat) (a1 : Option Addr) (L : List ByteArray) (m : List (List Int)) (wr : World) : Prop where
  x : w.Ext wr
  one : One wr p1 26 (.slice none 0 0)
  st : ∃ v A C, One wr p 26 v ∧ GrowM w.heap.size 57 2 wr v A C m
  row : RowS wr a1 L
  tag : Tag wr a1 9
theorem GyR.ext {w : World} {p1 p : Nat} {a1 : Option Addr} {L : List ByteArray} {m : List (List Int)} {wr w' : World} (h : GyR w p1 p a1 L m wr) (hx : wr.Ext w') : GyR w p1 p a1 L m w' := by
  obtain ⟨v, A, C, h1, h2⟩ := h.st
  exact ⟨h.x.trans hx, h.one.ext hx, ⟨v, A, C, h1.ext hx, h2.ext hx⟩, RowOf.ext h.row hx, h.tag.ext hx⟩
theorem GyR.next {w : World} {p1 p : Nat} {a1 : Option Addr} {L : List ByteArray} {m : List (List Int)} {w1 w3 : World} (h : GyR w p1 p a1 L m w1) (hp : w.heap.size ≤ p) (hpp : p1 ≠ p) (hx : w1.Ext w3) {a : Option Addr} {c : Nat} {zs : List Int} (hg : GrowOf (Value.int .i64) w1.heap.size 2 w3 (.slice a zs.length c) zs) :
    ∃ v pre, w3.cell? ⟨p, 0, none⟩ = some v ∧ p < w3.heap.size ∧ w3.ownsRow w.heap.size 57 1 v m.length pre ∧
      ∀ (o : Obj) (v' : Value) (w4 : World), (w3.alloc o).grownBy w4 v.ownBlock → w4.ownsRow w.heap.size 57 1 v' (m.length + 1) (pre ++ [.slice a zs.length c]) →
        w4.cell? ⟨p, 0, none⟩ = some v ∧ w4.frozen? ⟨p, 0, none⟩ = false ∧ GyR w p1 p a1 L (m ++ [zs]) (w4.setCell ⟨p, 0, none⟩ v') := by
  obtain ⟨v, A, C, h1, h2⟩ := h.st
  have hp3 := h1.ext hx
  have ho3 := h2.outer
  have hown := World.ownsRow.ext h2.outer hx
  have hgo : GrowOf (fun r : Nat => Value.slice (A r) (m.getD r []).length (C r)) w.heap.size 57 w3 v (List.range m.length) := by
    unfold GrowOf
    rw [List.length_range]
    exact hown
  refine ⟨v, _, hp3.cell, hp3.lt, hown, fun o v' w4 hgrow hown' => ?_⟩
  have hm4 := GrowM.push (row := zs) (by decide) h2 hx hg h.x.size hgrow hown'
  have hx4 := GrowM.pushExt h2 h.x hx hgrow
  have a1' := ((h.one.ext hx).ext ((World.Ext.refl _).alloc o)).grown hgrow (World.ownsRow.ne hown (h.one.ext hx) (by decide))
  have ap' := (hp3.ext ((World.Ext.refl _).alloc o)).grown hgrow (World.ownsRow.ne hown hp3 (by decide))
  obtain ⟨r4, t4⟩ := row_grown (RowOf.ext h.row hx) (h.tag.ext hx) hgo (by decide) hgrow
  have hsl : ∀ b o' s, a1 = some ⟨b, o', s⟩ → b ≠ p := fun b o' s e e2 => by
    obtain ⟨cs, fr, hc⟩ := t4 b o' s e
    have hc2 : w4.heap[p]? = some (.cells #[v] 26 (0, 0)) := ap'
    rw [e2, hc2] at hc
    cases hc
  refine ⟨ap'.cell, ap'.free, hx4.setCell (p := ⟨p, 0, none⟩) hp v', a1'.other (a := ⟨p, 0, none⟩) (Ne.symm hpp) v', ⟨v', _, _, ap'.set v', growM_other (by decide) (by decide) hm4 ap' v'⟩, fun i hi => ?_, ?_⟩
  · obtain ⟨b, o', e1, e2⟩ := r4 i hi
    have hb := hsl b o' none e1
    refine ⟨b, o', e1, ?_⟩
    rw [World.cell?_of_block (a := ⟨b, o' + i, none⟩) (Below.heap_setCell w4 ⟨p, 0, none⟩ v' b hb)]
    exact e2
  · exact t4.keep fun b o' s e => Below.heap_setCell w4 ⟨p, 0, none⟩ v' b (hsl b o' s e)
/-- Nothing is stored as a result. -/
theorem one_noPic {w W1 : World} {p : Nat} {T : TypeId} {v0 : Value} (hX : w.Ext W1) (hp : w.heap.size ≤ p) (hone : One W1 p T v0) :
    W1.cell? ⟨p, 0, none⟩ = some v0 ∧ W1.frozen? ⟨p, 0, none⟩ = false ∧ (W1.setCell ⟨p, 0, none⟩ (.slice none 0 0)).cell? ⟨p, 0, none⟩ = some (.slice none 0 0) ∧ Hid (w.Ext (W1.setCell ⟨p, 0, none⟩ (.slice none 0 0))) := by
  obtain ⟨r1, r2, r3, HR⟩ := Res.store (f := Value.string) (d := ByteArray.empty) (a := none) (xs := []) (lo := p + 1) (.slice none 0 0) hX hp hone (by omega) (OwnOf.nil _ _)
  exact ⟨r1, r2, r3, HR.out.1⟩
theorem GreyRet2.noR {w w' : World} (hx : w.Ext w') : GreyRet2 w [] false (.returned (.tuple #[.agg #[.slice none 0 0], .bool false])) w' :=
  ⟨none, 0, fun _ => none, fun _ => 0, rfl, hx, ⟨(fun r hr => by cases hr), (fun r hr => by cases hr), (fun r s b o b' o' hr => by cases hr)⟩⟩
theorem Tryz.infoI64L : (Tryz.prog.info? 57).map (fun i => (i.zero, i.size, i.bytes)) = some (some (.slice none 0 0), 1, 24) := by kernel_rfl
end Go.Proofs.YtkpgelhmeokemaaGreatDoor

/- Texts of grey pictures are read: the program. -/
namespace Go.Proofs.YtkpgelhmeokemaaGreatDoor
open Go Go.RowKit
theorem var_ext {P : Program} {w w' : World} {name : String} {cs : Array Value} (h : w.var? P name = some cs) (hx : w.Ext w') : w'.var? P name = some cs := by
  unfold World.var? at h ⊢
  cases hg : P.globalNamed name with
  | none => rw [hg] at h; cases h
  | some g =>
    rw [hg] at h
    have hlt : g < w.heap.size := by
      rcases Nat.lt_or_ge g w.heap.size with h1 | h1
      · exact h1
      · have e : w.heap[g]? = none := Array.getElem?_eq_none h1
        simp [e] at h
    simp only [Option.bind_some] at h ⊢
    rw [hx.below.block g hlt]
    exact h
/-- What the library's functions ask of the package variables. -/
structure DoorW (w : World) : Prop where
  mx : ∃ m, w.cell? ⟨0, 0, none⟩ = some (.int .i64 m)
  tab : Lib.TabIs Tryz.prog w "internal/strconv.uint64pow10" .u64 Lib.pow10Tab
  es : ∃ tp p, w.var? Tryz.prog "strconv.ErrSyntax" = some #[.iface tp p]
  er : ∃ tp p, w.var? Tryz.prog "strconv.ErrRange" = some #[.iface tp p]
theorem DoorW.ext {w w' : World} (h : DoorW w) (hx : w.Ext w') : DoorW w' := by
  obtain ⟨m, h1⟩ := h.mx
  obtain ⟨t1, p1, h2⟩ := h.es
  obtain ⟨t2, p2, h3⟩ := h.er
  exact ⟨⟨m, hx.cell h1⟩, var_ext h.tab hx, ⟨t1, p1, var_ext h2 hx⟩, ⟨t2, p2, var_ext h3 hx⟩⟩
theorem ext_grow (w : World) (k : Nat) (os : Array Obj) : w.Ext (Sort.grow (w.drewN k) os) := ⟨{ w with heap := os, drawn := (w.drewN k).drawn }, rfl⟩
theorem split_any (s : ByteArray) (c : UInt8) (w : World) (hd : DoorW w) (hs : s.size ≤ 1048576) :
    Calls Tryz.prog 33 #[.string s, .string ⟨#[c]⟩] w (StrsRet w ((cutY c s.data.toList).map bstr)) := by
  obtain ⟨m, hm⟩ := hd.mx
  refine (Tryz.strings_Split s ⟨#[c]⟩ m w (by omega) hm (Nat.le_refl 1)).mono fun e w' ⟨h1, h2⟩ => ?_
  rw [splitB_cut] at h2
  rw [cut_count] at h1
  subst h2
  have hb : BlkOf Value.string (w.alloc (.cells (((cutY c s.data.toList).map bstr).map Value.string).toArray 9)) w.heap.size 9 ((cutY c s.data.toList).map bstr) := heap_alloc_new w _
  exact ⟨some ⟨w.heap.size, 0, none⟩, (cutY c s.data.toList).length, by rw [h1, List.length_map], (World.Ext.refl w).alloc _, hb.own ByteArray.empty (Nat.le_refl _) (Nat.le_refl _), hb.tag⟩
theorem decimal_any (n : Int) (w : World) (h1 : -1000000000 ≤ n) (h2 : n ≤ 1000000000) (hd : DoorW w) : Calls Tryz.prog 47 #[.int .i64 n] w fun e w' => e = .returned (.string (bstr (Lib.itoa n))) ∧ w.Ext w' := by
  have HC := Lib.hid (Tryz.strconv_FormatInt_10 n (by omega) (by omega) w hd.tab)
  go_enter Tryz.func47, Tryz.ntmps47
  go_wp2_with fail
  refine HC.out.mono ?_
  rintro e w' ⟨rfl, k, os, rfl⟩
  have HX := Lib.hid (ext_grow w k os)
  generalize Sort.grow (w.drewN k) os = w2 at *
  go_wp2
  go_ret
  exact ⟨rfl, HX.out⟩
set_option maxRecDepth 5000 in
set_option maxHeartbeats 1600000 in
theorem readDecimal_any (s : ByteArray) (w : World) (hd : DoorW w) (hs : s.size ≤ 1048576) : Calls Tryz.prog 52 #[.string s] w (RdRet w s.data.toList) := by
  obtain ⟨l, hl⟩ : ∃ l, l = s.data.toList := ⟨_, rfl⟩
  have HSL : Hid (bstr l = s) := by show _ = _; rw [hl]; exact bstr_data s
  cases hp : Lib.parseIntB 64 s.data.toList with
  | ok v =>
    have HC := Lib.hid (Tryz.strconv_ParseInt_10_at64_ok s (by omega) v hp w)
    rw [← hl] at hp ⊢
    obtain ⟨t, ht⟩ : ∃ t, inB v (-1000000000) 1000000000 = t := ⟨_, rfl⟩
    have HIN := Lib.hid (fun w' => in_any v (-1000000000) 1000000000 w' t ht)
    have HNO1 : Hid (t = false → ∀ n, ¬ IsDec l n) := fun h => rd_parse hp fun h2 => by
      rw [h] at ht
      have : inB v (-1000000000) 1000000000 = true := inB_true.2 ⟨h2.1, h2.2.1⟩
      rw [this] at ht
      cases ht
    have HDC : Hid (t = true → ∀ w', w.Ext w' → Calls Tryz.prog 47 #[.int .i64 v] w' fun e w'' => e = .returned (.string (bstr (Lib.itoa v))) ∧ w'.Ext w'') := fun h w' hx => by
      rw [h] at ht
      have h2 := inB_true.1 ht
      exact decimal_any v w' h2.1 h2.2 (hd.ext hx)
    have HNO2 : Hid (bstr (Lib.itoa v) ≠ s → ∀ n, ¬ IsDec l n) := fun h => rd_parse hp fun h2 => h (by rw [h2.2.2]; exact HSL.out)
    have HYS : Hid (t = true → bstr (Lib.itoa v) = s → IsDec l v) := fun h h2 => by
      rw [h] at ht
      have h3 := inB_true.1 ht
      refine ⟨h3.1, h3.2, ?_⟩
      rw [← HSL.out] at h2
      have h4 := congrArg (fun b => b.data.toList) h2
      simpa [bstr] using h4
    clear hl hp hd ht
    go_enter Tryz.func52, Tryz.ntmps52
    go_wp2_with fail
    refine HC.out.mono ?_
    rintro e w1 ⟨rfl, hw1⟩
    have HX1 : Hid (w.Ext w1) := by
      rcases hw1 with rfl | ⟨q, rfl⟩
      · exact .refl _
      · exact World.Ext.of_below (Lib.bytesWorld_below _ _ _)
    clear hw1 HC
    go_wp2_with fail
    refine (HIN.out w1).mono ?_
    rintro e w2 ⟨rfl, hx2⟩
    have HX2 := Lib.hid (HX1.out.trans hx2)
    clear hx2 HIN
    cases t
    · have HN := Lib.hid (HNO1.out rfl)
      clear HNO1 HDC HNO2 HYS
      go_wp2
      exact bodyPost_ret (v := .tuple #[.int .i64 0, .bool false]) (by simp [results, Tryz.results52, go_sem]) rfl (RdRet.no HN.out HX2.out)
    · have HDC1 := Lib.hid (HDC.out rfl)
      have HYS1 := Lib.hid (HYS.out rfl)
      clear HNO1 HDC HYS
      go_wp2_with fail
      refine (HDC1.out w2 HX2.out).mono ?_
      rintro e w3 ⟨rfl, hx3⟩
      have HX3 := Lib.hid (HX2.out.trans hx3)
      clear hx3 HDC1
      generalize bstr (Lib.itoa v) = ds at *
      by_cases hq : ds = s
      · have HY := Lib.hid (HYS1.out hq)
        have hqb : (ds.toList == s.toList) = true := by rw [hq, beq_iff_eq]
        clear HYS1 HNO2 hq
        go_wp2
        exact bodyPost_ret (v := .tuple #[.int .i64 v, .bool true]) (by simp [results, Tryz.results52, go_sem]) rfl (RdRet.yes HY.out HX3.out)
      · have HN := Lib.hid (HNO2.out hq)
        have hqb : (ds.toList == s.toList) = false := by
          rw [beq_eq_false_iff_ne]
          intro h
          exact hq (bytes_inj2 h)
        clear HYS1 HNO2
        go_wp2
        exact bodyPost_ret (v := .tuple #[.int .i64 0, .bool false]) (by simp [results, Tryz.results52, go_sem]) rfl (RdRet.no HN.out HX3.out)
  | range =>
    obtain ⟨tp, p, hv⟩ := hd.er
    have HC := Lib.hid (Tryz.strconv_ParseInt_10_at64_range_var s (by omega) hp tp p w hv)
    rw [← hl] at hp ⊢
    have HN : Hid (∀ n, ¬ IsDec l n) := rd_fail fun v h => by rw [hp] at h; cases h
    clear hl hp hd hv
    go_enter Tryz.func52, Tryz.ntmps52
    go_wp2_with fail
    refine HC.out.mono ?_
    rintro e w1 ⟨N, rfl, -, -, hb⟩
    have HX1 := Lib.hid (World.Ext.of_below hb)
    clear hb HC
    go_wp2
    exact bodyPost_ret (v := .tuple #[.int .i64 0, .bool false]) (by simp [results, Tryz.results52, go_sem]) rfl (RdRet.no HN.out HX1.out)
  | _ =>
    obtain ⟨tp, p, hv⟩ := hd.es
    have HC := Lib.hid (Any.strconv_ParseInt_10_at64_syntax_var Tryz.laysC174 s (by omega) hp tp p w hv)
    rw [← hl] at hp ⊢
    have HN : Hid (∀ n, ¬ IsDec l n) := rd_fail fun v h => by rw [hp] at h; cases h
    clear hl hp hd hv
    go_enter Tryz.func52, Tryz.ntmps52
    go_wp2_with fail
    refine HC.out.mono ?_
    rintro e w1 ⟨N, rfl, -, -, hb⟩
    have HX1 := Lib.hid (World.Ext.of_below hb)
    clear hb HC
    go_wp2
    exact bodyPost_ret (v := .tuple #[.int .i64 0, .bool false]) (by simp [results, Tryz.results52, go_sem]) rfl (RdRet.no HN.out HX1.out)
set_option maxRecDepth 5000 in
set_option maxHeartbeats 1600000 in
theorem readList_any (s : ByteArray) (w : World) (hd : DoorW w) (hs : s.size ≤ 1048576) : Calls Tryz.prog 34 #[.string s] w (LsRet w s.data.toList) := by
  obtain ⟨i0, hi, hz0, hz1, hz2⟩ := info_parts Tryz.infoI64
  have hst := str_none s
  have HCT : Hid (∀ w', w.Ext w' → Calls Tryz.prog 33 #[.string s, .string ⟨#[44]⟩] w' (StrsRet w' ((cutY 44 s.data.toList).map bstr))) := fun w' hx => split_any s 44 w' (hd.ext hx) hs
  have HDW := Lib.hid hd
  have HPC : Hid (∀ k, k < (cutY 44 s.data.toList).length → ((cutY 44 s.data.toList).getD k []).length ≤ 1048576) := fun k hk => Nat.le_trans (cutY_piece 44 _ k) (by rw [Array.length_toList]; exact hs)
  obtain ⟨l, hl⟩ : ∃ l, l = s.data.toList := ⟨_, rfl⟩
  rw [← hl] at hst HCT HPC ⊢
  clear hl hd
  have HG0 : Hid (GrowOf (Value.int .i64) w.heap.size 2 (w.alloc (.cells #[] 2)) (.slice (some ⟨w.heap.size, 0, none⟩) 0 0) []) := GrowOf.empty (f := Value.int .i64) (lo := w.heap.size) (e := 2) w (Nat.le_refl _)
  have HX0 : Hid (w.Ext (w.alloc (.cells #[] 2))) := by show w.Ext _; repeat (first | exact World.Ext.refl _ | exact ⟨_, rfl⟩ | assumption | refine World.Ext.over ?_ _ | refine World.Ext.drewN ?_ _ | refine World.Ext.drew ?_ | refine World.Ext.alloc ?_ _ | refine World.Ext.setCell ?_ (by simp) _)
  by_cases hn : l = noneS
  · rw [decide_eq_true hn] at hst
    have HF : Hid (LsRet w l (.returned (.tuple #[.slice (some ⟨w.heap.size, 0, none⟩) 0 0, .bool true])) (w.alloc (.cells #[] 2))) := by
      obtain ⟨h1, h2⟩ := ls_none hn
      refine ⟨some ⟨w.heap.size, 0, none⟩, 0, ?_, HX0.out, ?_⟩
      · rw [h1, h2]; rfl
      · rw [h2]; exact HG0.out
    clear hn HCT HPC HG0 HX0
    go_enter Tryz.func34, Tryz.ntmps34
    go_wp2
    exact bodyPost_ret (v := .tuple #[.slice (some ⟨w.heap.size, 0, none⟩) 0 0, .bool true]) (by simp [results, Tryz.results34, go_sem]) rfl HF.out
  · rw [decide_eq_false hn] at hst
    have HMANY : Hid (300 < (cutY 44 l).length → lsB l = false ∧ lsV l = []) := fun h => ls_many hn h
    have HBAD : Hid (∀ k, k < (cutY 44 l).length → rdB ((cutY 44 l).getD k []) = false → lsB l = false ∧ lsV l = []) := fun k hk h => ls_bad hn hk h
    have HALL : Hid ((cutY 44 l).length ≤ 300 → (∀ k, k < (cutY 44 l).length → rdB ((cutY 44 l).getD k []) = true) → lsB l = true ∧ lsV l = (cutY 44 l).map rdV) := fun h h2 => ls_all hn h h2
    generalize cutY 44 l = L at *
    clear hn
    obtain ⟨n, hnl⟩ : ∃ n, n = (L.map bstr).length := ⟨_, rfl⟩
    have hnl2 : L.length = n := by rw [hnl, List.length_map]
    have HLN := Lib.hid hnl2
    rw [hnl2] at HPC HMANY HBAD HALL
    have HC1 := Lib.hid (HCT.out (w.alloc (.cells #[] 2)) HX0.out)
    clear HCT hnl2
    go_enter Tryz.func34, Tryz.ntmps34
    go_wp2_with fail
    refine HC1.out.mono ?_
    rintro e w1 ⟨a1, c1, rfl, hx1, ho1, hta1⟩
    rw [← hnl]
    have HNL : Hid (n = (L.map bstr).length) := hnl
    have HX1 := Lib.hid (HX0.out.trans hx1)
    have HG1 := Lib.hid (HG0.out.ext hx1)
    have HR1 : Hid (RowS w1 a1 (L.map bstr) ∧ Tag w1 a1 9) := ⟨ho1.row, hta1⟩
    clear hx1 ho1 hnl HG0 HX0 HC1 hta1
    go_wp2
    go_loopw [4, 6, 7, 8, 16] (fun v _ _ _ i wr => ∃ k : Nat, k ≤ n ∧ k ≤ 300 ∧ i = .int .i64 k ∧ Hid ((∀ r, r < k → rdB (L.getD r []) = true) ∧ w.Ext wr ∧ GrowOf (Value.int .i64) w.heap.size 2 wr v ((L.take k).map rdV) ∧ RowS wr a1 (L.map bstr) ∧ Tag wr a1 9)) (fun _ _ _ _ i _ => n - (intOf i).toNat)
    case atStart => exact ⟨0, Nat.zero_le _, by omega, rfl, (fun r hr => by omega), HX1.out, HG1.out, HR1.out⟩
    case round =>
      clear HG1
      obtain ⟨k, hk, hk300, rfl, HS⟩ := hrel
      obtain ⟨wo, rfl⟩ : ∃ wo : World, wo = wr := ⟨_, rfl⟩
      have hk0 : (0 : Int) ≤ (k : Int) := by omega
      by_cases hlt : k < n
      · have hlt' : (k : Int) < (n : Int) := by omega
        obtain ⟨b, of0, rfl, hc⟩ := HS.out.2.2.2.1 k (by rw [← HNL.out]; exact hlt)
        have lb := World.block_lt_of_cell? _ _ hc
        rw [getD_map bstr L k [] _ (by rw [HLN.out]; exact hlt)] at hc
        have hv := readDecimal_any (bstr (L.getD k [])) wo (HDW.out.ext HS.out.2.1) (by rw [bstr_size]; exact HPC.out k hlt)
        rw [bstr_bytes] at hv
        have HV := Lib.hid hv
        obtain ⟨z, hz⟩ : ∃ z, z = rdV (L.getD k []) := ⟨_, rfl⟩
        obtain ⟨t, ht⟩ : ∃ t, t = rdB (L.getD k []) := ⟨_, rfl⟩
        have HT := Lib.hid ht
        have HNX : Hid ((L.take k).map rdV ++ [z] = (L.take (k + 1)).map rdV) := by
          show _ = _
          rw [hz, List.take_succ_eq_append_getElem (by rw [HLN.out]; exact hlt), List.map_append, List.getD_eq_getElem?_getD, List.getElem?_eq_getElem (by rw [HLN.out]; exact hlt)]
          rfl
        have HLK : Hid (((L.take k).map rdV).length = k) := by show _ = _; rw [List.length_map, List.length_take, HLN.out]; omega
        unfold RdRet at HV
        rw [← hz, ← ht] at HV
        clear hv hz ht
        generalize bstr (L.getD k []) = sk at *
        go_wp2_with fail
        refine HV.out.mono ?_
        rintro e w2 ⟨rfl, hx2⟩
        have HS2 : Hid (w.Ext w2 ∧ GrowOf (Value.int .i64) w.heap.size 2 w2 u4 ((L.take k).map rdV) ∧ RowS w2 (some ⟨b, of0, none⟩) (L.map bstr) ∧ Tag w2 (some ⟨b, of0, none⟩) 9) := ⟨HS.out.2.1.trans hx2, HS.out.2.2.1.ext hx2, RowOf.ext HS.out.2.2.2.1 hx2, HS.out.2.2.2.2.ext hx2⟩
        have HOK := Lib.hid HS.out.1
        clear HS hx2 HV hc lb
        cases t
        · have HF := Lib.hid (HBAD.out k hlt HT.out.symm)
          have HX3 := Lib.hid HS2.out.1
          clear HMANY HBAD HALL HOK HNX HLK
          go_wp2
          exact bodyPost_ret (v := .tuple #[.slice none 0 0, .bool false]) (by simp [results, Tryz.results34, go_sem]) rfl (LsRet.no HF.out HX3.out)
        · obtain ⟨a4, c4, e4, _⟩ := HS2.out.2.1.form
          rw [HLK.out] at e4
          subst e4
          by_cases h300 : k = 300
          · have HF := Lib.hid (HMANY.out (by omega))
            have HX3 := Lib.hid HS2.out.1
            have hkb : ((k : Int) == 300) = true := by rw [beq_iff_eq]; omega
            clear HMANY HBAD HALL HOK HNX HS2 h300
            go_wp2
            exact bodyPost_ret (v := .tuple #[.slice none 0 0, .bool false]) (by simp [results, Tryz.results34, go_sem]) rfl (LsRet.no HF.out HX3.out)
          have hkb : ((k : Int) == 300) = false := by rw [beq_eq_false_iff_ne]; omega
          have HOK2 : Hid (∀ r, r < k + 1 → rdB (L.getD r []) = true) := fun r hr => by
            by_cases e : r = k
            · rw [e]; exact HT.out.symm
            · exact HOK.out r (by omega)
          have hown := HS2.out.2.1
          unfold GrowOf at hown
          rw [HLK.out] at hown
          have HY1 : Hid (k + 1 ≤ maxLen) := by show _ ≤ _; unfold maxLen; omega
          have HY2 : Hid ((k + 1) * 1 ≤ 140737488355328) := by show _ ≤ _; omega
          have HY3 : Hid ((k + 1) * 8 ≤ 140737488355328) := by show _ ≤ _; omega
          have HLE : Hid (∀ o : Obj, w.heap.size ≤ (w2.alloc o).heap.size) := fun o => (HS2.out.1.alloc o).size
          have HNEXT : Hid (∀ (o : Obj) (v' : Value) (w3 : World), (w2.alloc o).grownBy w3 (Value.slice a4 k c4).ownBlock → w3.ownsRow w.heap.size 2 1 v' (k + 1) (((L.take k).map rdV).map (Value.int .i64) ++ [Value.int .i64 z]) → w.Ext w3 ∧ GrowOf (Value.int .i64) w.heap.size 2 w3 v' ((L.take (k + 1)).map rdV) ∧ RowS w3 (some ⟨b, of0, none⟩) (L.map bstr) ∧ Tag w3 (some ⟨b, of0, none⟩) 9) := fun ob v' w3 hgrow hown' => by
            refine ⟨HS2.out.2.1.pushExt HS2.out.1 hgrow, ?_, row_grown HS2.out.2.2.1 HS2.out.2.2.2 HS2.out.2.1 (by decide) hgrow⟩
            · rw [← HNX.out]
              exact GrowOf.push (by rw [HLK.out]; exact hown')
          clear HOK HNX HLK HT
          go_wp2_with ((at_builtin; refine wpList_append_own _ rfl _ _ 57 rfl w.heap.size 2 i0 (.int .i64 0) 1 8 Tryz.underlying57 hi hz0 hz1 hz2 rfl (by decide) _ _ _ rfl (hown.alloc _) ⟨w2.heap.size, 0, none⟩ 1 1 [.int .i64 z] rfl rfl (cell_one_new _ _ _) (by simp [Value.oneCell']) HY1.out HY3.out (HLE.out _) (fun v' w1 hown' hgrow _ => ?_)); go_loud (have HRN := Lib.hid (HNEXT.out _ _ _ hgrow hown'); clear hown' hgrow))
          go_roundw
          case rel => exact ⟨k + 1, by omega, by omega, by go_num, HOK2.out, HRN.out⟩
          case measure => simp [intOf]; omega
      · have : k = n := by omega
        subst this
        have hlt' : ¬ (k : Int) < (k : Int) := by omega
        obtain ⟨h1, h2⟩ := HALL.out (by omega) HS.out.1
        have hg := HS.out.2.2.1
        rw [List.take_of_length_le (by rw [HLN.out]; exact Nat.le_refl _), ← h2] at hg
        obtain ⟨a4, c4, rfl, _⟩ := hg.form
        have HF : Hid (LsRet w l (.returned (.tuple #[.slice a4 (lsV l).length c4, .bool true])) wo) := by
          refine ⟨a4, c4, ?_, HS.out.2.1, hg⟩
          rw [h1]
        clear HS hg h1 h2 HMANY HBAD HALL HR1
        generalize (lsV l).length = N at *
        go_wp2
        exact bodyPost_ret (v := .tuple #[.slice a4 N c4, .bool true]) (by simp [results, Tryz.results34, go_sem]) rfl HF.out
end Go.Proofs.YtkpgelhmeokemaaGreatDoor

/- Grey pictures are read: the program; both sides' last words. -/
namespace Go.Proofs.YtkpgelhmeokemaaGreatDoor
open Go Go.RowKit
set_option maxRecDepth 5000 in
set_option maxHeartbeats 3200000 in
theorem implRdg_any (s : ByteArray) (w : World) (hd : DoorW w) (hs : s.size ≤ 1048576) : Calls Tryz.prog 11 #[.string s] w (GreyRet2 w (gyM s.data.toList) (gyB s.data.toList)) := by
  obtain ⟨j0, hj, hz0, hz1, hz2⟩ := info_parts Tryz.infoI64L
  have HCT : Hid (∀ w', w.Ext w' → Calls Tryz.prog 33 #[.string s, .string ⟨#[47]⟩] w' (StrsRet w' ((cutY 47 s.data.toList).map bstr))) := fun w' hx => split_any s 47 w' (hd.ext hx) hs
  have HDW := Lib.hid hd
  have HPC : Hid (∀ k, ((cutY 47 s.data.toList).getD k []).length ≤ 1048576) := fun k => Nat.le_trans (cutY_piece 47 _ k) (by rw [Array.length_toList]; exact hs)
  obtain ⟨l, hl⟩ : ∃ l, l = s.data.toList := ⟨_, rfl⟩
  rw [← hl] at HCT HPC ⊢
  clear hl hd
  have HMANY : Hid (16 < (cutY 47 l).length → gyB l = false ∧ gyM l = []) := fun h => gy_many h
  have HBAD : Hid (∀ k, k < (cutY 47 l).length → lsB ((cutY 47 l).getD k []) = false → gyB l = false ∧ gyM l = []) := fun k hk h => gy_bad hk h
  have HTAB : Hid (tableOk ((cutY 47 l).map lsV) 99 = false → gyB l = false ∧ gyM l = []) := fun h => gy_tab h
  have HALL : Hid ((cutY 47 l).length ≤ 16 → (∀ k, k < (cutY 47 l).length → lsB ((cutY 47 l).getD k []) = true) → tableOk ((cutY 47 l).map lsV) 99 = true → gyB l = true ∧ gyM l = (cutY 47 l).map lsV) := fun h h2 h3 => gy_yes h h2 h3
  generalize cutY 47 l = L at *
  obtain ⟨B, hB⟩ : ∃ B, B = gyB l := ⟨_, rfl⟩
  obtain ⟨M, hM⟩ : ∃ M, M = gyM l := ⟨_, rfl⟩
  rw [← hB, ← hM] at HMANY HBAD HTAB HALL ⊢
  clear hB hM
  obtain ⟨n, hnl⟩ : ∃ n, n = (L.map bstr).length := ⟨_, rfl⟩
  have hnl2 : L.length = n := by rw [hnl, List.length_map]
  have HLN := Lib.hid hnl2
  rw [hnl2] at HMANY HBAD HALL
  obtain ⟨W0, hW0⟩ : ∃ W0, W0 = w.alloc (.cells #[.slice none 0 0] 26) := ⟨_, rfl⟩
  have hx0 : w.Ext W0 := by rw [hW0]; repeat (first | exact World.Ext.refl _ | exact ⟨_, rfl⟩ | assumption | refine World.Ext.over ?_ _ | refine World.Ext.drewN ?_ _ | refine World.Ext.drew ?_ | refine World.Ext.alloc ?_ _ | refine World.Ext.setCell ?_ (by simp) _)
  have hone : One W0 w.heap.size 26 (.slice none 0 0) := by rw [hW0]; exact One.new _ _ _ _ rfl
  have hsz0 : W0.heap.size = w.heap.size + 1 := by rw [hW0]; simp
  have HX0 := Lib.hid hx0
  have HONE := Lib.hid hone
  obtain ⟨W1, hW1⟩ : ∃ W1, W1 = W0.alloc (.cells #[.slice none 0 0] 26) := ⟨_, rfl⟩
  have hx1 : W0.Ext W1 := by rw [hW1]; repeat (first | exact World.Ext.refl _ | exact ⟨_, rfl⟩ | assumption | refine World.Ext.over ?_ _ | refine World.Ext.drewN ?_ _ | refine World.Ext.drew ?_ | refine World.Ext.alloc ?_ _ | refine World.Ext.setCell ?_ (by simp) _)
  have hp1 : One W1 (w.heap.size + 1) 26 (.slice none 0 0) := by rw [hW1]; exact One.new _ _ _ _ hsz0.symm
  have HW1 : Hid (W1 = (w.alloc (.cells #[.slice none 0 0] 26)).alloc (.cells #[.slice none 0 0] 26)) := by show _ = _; rw [hW1, hW0]
  have HX1 := Lib.hid hx1
  have HP1 := Lib.hid hp1
  have HC1 := Lib.hid (HCT.out W1 (hx0.trans hx1))
  have hl0 : w.heap.size < W0.heap.size := by omega
  have hpw : w.heap.size < w.heap.size + 1 := by omega
  have hpW : W0.heap.size ≤ w.heap.size + 1 := by omega
  have lp1 := hp1.lt
  clear HCT hnl2 hx0 hone hW0 hW1 hx1 hp1 hsz0
  go_enter Tryz.func11, Tryz.ntmps11
  go_upto_region 2 with fail
  rw [← HW1.out]
  clear HW1
  go_wp2_with fail
  refine HC1.out.mono ?_
  rintro e w1 ⟨a1, c1, rfl, hx2, ho1, hta1⟩
  rw [← hnl]
  obtain ⟨p, hp⟩ : ∃ p, p = w.heap.size + 1 := ⟨_, rfl⟩
  rw [← hp] at HP1 hpw hpW lp1 ⊢
  have HST : Hid (GyR W0 w.heap.size p a1 (L.map bstr) ((L.take 0).map lsV) w1) :=
    ⟨HX1.out.trans hx2, (HONE.out.ext HX1.out).ext hx2, ⟨.slice none 0 0, fun _ => none, fun _ => 0, HP1.out.ext hx2, ⟨⟨rfl, .inl ⟨rfl, rfl⟩⟩, (fun r hr => by cases hr), (fun r s b o b' o' hr => by cases hr)⟩⟩, ho1.row, hta1⟩
  have HNL : Hid (n = (L.map bstr).length) := hnl
  clear hx2 ho1 hta1 hnl HONE HC1 hp HX1 HP1 lp1
  go_wp2
  go_loopw [6, 7, 8, 13] (fun _ _ _ i wr => ∃ k : Nat, k ≤ n ∧ k ≤ 16 ∧ i = .int .i64 k ∧ Hid ((∀ r, r < k → lsB (L.getD r []) = true) ∧ GyR W0 w.heap.size p a1 (L.map bstr) ((L.take k).map lsV) wr)) (fun _ _ _ i _ => n - (intOf i).toNat)
  case atStart => exact ⟨0, Nat.zero_le _, by omega, rfl, (fun r hr => by omega), HST.out⟩
  case round =>
    clear HST
    obtain ⟨k, hk, hk16, rfl, HS⟩ := hrel
    obtain ⟨wo, rfl⟩ : ∃ wo : World, wo = wr := ⟨_, rfl⟩
    have hk0 : (0 : Int) ≤ (k : Int) := by omega
    by_cases hlt1 : k < n
    · have hlt' : (k : Int) < (n : Int) := by omega
      obtain ⟨b, of0, rfl, hc⟩ := HS.out.2.row k (by rw [← HNL.out]; exact hlt1)
      have lb := World.block_lt_of_cell? _ _ hc
      rw [getD_map bstr L k [] _ (by rw [HLN.out]; exact hlt1)] at hc
      have hv := readList_any (bstr (L.getD k [])) wo (HDW.out.ext (HX0.out.trans HS.out.2.x)) (by rw [bstr_size]; exact HPC.out k)
      rw [bstr_bytes] at hv
      have HV := Lib.hid hv
      obtain ⟨t, ht⟩ : ∃ t, t = lsB (L.getD k []) := ⟨_, rfl⟩
      have HT := Lib.hid ht
      obtain ⟨zs, hzs⟩ : ∃ zs, zs = lsV (L.getD k []) := ⟨_, rfl⟩
      have HNX : Hid ((L.take k).map lsV ++ [zs] = (L.take (k + 1)).map lsV) := by
        show _ = _
        rw [hzs, List.take_succ_eq_append_getElem (by rw [HLN.out]; exact hlt1), List.map_append, List.getD_eq_getElem?_getD, List.getElem?_eq_getElem (by rw [HLN.out]; exact hlt1)]
        rfl
      have HLK : Hid (((L.take k).map lsV).length = k) := by show _ = _; rw [List.length_map, List.length_take, HLN.out]; omega
      unfold LsRet at HV
      rw [← ht, ← hzs] at HV
      clear hv ht hzs
      generalize bstr (L.getD k []) = sk at *
      go_wp2_with fail
      refine HV.out.mono ?_
      rintro e w2 ⟨a2, c2, rfl, hx2, hg2⟩
      cases t
      · have HF := Lib.hid (HBAD.out k hlt1 HT.out.symm)
        have hS2 := HS.out.2.ext hx2
        obtain ⟨r1, r2, r3, HR⟩ := one_noPic (HX0.out.trans hS2.x) (Nat.le_refl _) hS2.one
        have l1 := hS2.one.lt
        have HE : Hid (GreyRet2 w M B (.returned (.tuple #[.agg #[.slice none 0 0], .bool false])) (w2.setCell ⟨w.heap.size, 0, none⟩ (.slice none 0 0))) := by rw [HF.out.1, HF.out.2]; exact GreyRet2.noR HR.out
        clear hx2 HS HV hc lb HMANY HBAD HALL HTAB hS2 hg2 HNX HLK HT HF
        go_wp2
        exact bodyPost_ret (v := .tuple #[.agg #[.slice none 0 0], .bool false]) (by simp [results, Tryz.results11, go_sem, r3]) rfl HE.out
      · have HOK : Hid (∀ r, r < k + 1 → lsB (L.getD r []) = true) := fun r hr => by
          by_cases e : r = k
          · rw [e]; exact HT.out.symm
          · exact HS.out.1 r (by omega)
        obtain ⟨v, pre, hcp, hlp, hown, hnext⟩ := HS.out.2.next hpW (Nat.ne_of_lt hpw) hx2 hg2
        rw [HLK.out] at hown hnext
        obtain ⟨av, cv, rfl, _⟩ := World.ownsRow.form hown
        by_cases h16 : k = 16
        · have HF := Lib.hid (HMANY.out (by omega))
          have hS2 := HS.out.2.ext hx2
          obtain ⟨r1, r2, r3, HR⟩ := one_noPic (HX0.out.trans hS2.x) (Nat.le_refl _) hS2.one
          have l1 := hS2.one.lt
          have HE : Hid (GreyRet2 w M B (.returned (.tuple #[.agg #[.slice none 0 0], .bool false])) (w2.setCell ⟨w.heap.size, 0, none⟩ (.slice none 0 0))) := by rw [HF.out.1, HF.out.2]; exact GreyRet2.noR HR.out
          have hkb : ((k : Int) == 16) = true := by rw [beq_iff_eq]; omega
          clear hx2 HS HV hc lb HMANY HBAD HALL HTAB hS2 hg2 HNX HLK HT HF hnext hown h16
          go_wp2
          exact bodyPost_ret (v := .tuple #[.agg #[.slice none 0 0], .bool false]) (by simp [results, Tryz.results11, go_sem, r3]) rfl HE.out
        have hkb : ((k : Int) == 16) = false := by rw [beq_eq_false_iff_ne]; omega
        have HNEXT : Hid (∀ (o : Obj) (v' : Value) (w4 : World), (w2.alloc o).grownBy w4 (Value.slice av k cv).ownBlock → w4.ownsRow W0.heap.size 57 1 v' (k + 1) (pre ++ [.slice a2 zs.length c2]) → w4.cell? ⟨p, 0, none⟩ = some (.slice av k cv) ∧ w4.frozen? ⟨p, 0, none⟩ = false ∧ Hid (GyR W0 w.heap.size p (some ⟨b, of0, none⟩) (L.map bstr) ((L.take (k + 1)).map lsV) (w4.setCell ⟨p, 0, none⟩ v'))) := fun o v' w4 h1 h2 => by
          obtain ⟨q1, q2, q3⟩ := hnext o v' w4 h1 h2
          rw [HNX.out] at q3
          exact ⟨q1, q2, q3⟩
        have HLE : Hid (∀ o : Obj, W0.heap.size ≤ (w2.alloc o).heap.size) := fun o => ((HS.out.2.x.trans hx2).alloc o).size
        have HB1 : Hid (k + 1 ≤ maxLen) := by show _ ≤ _; unfold maxLen; omega
        have HB2 : Hid ((k + 1) * 24 ≤ 140737488355328) := by show _ ≤ _; omega
        clear hx2 HS HV hc lb hg2 HNX HLK HT hnext
        generalize zs.length = zn at *
        go_wp2_with ((at_builtin; refine wpList_append_own _ rfl _ _ 24 rfl W0.heap.size 57 j0 (.slice none 0 0) 1 24 Tryz.underlying24 hj hz0 hz1 hz2 rfl (by decide) _ _ _ rfl (hown.alloc _) ⟨w2.heap.size, 0, none⟩ 1 1 [.slice a2 zn c2] rfl rfl (cell_one_new _ _ _) (by simp [Value.oneCell']) HB1.out HB2.out (HLE.out _) (fun v' w1 hown' hgrow _ => ?_)); go_loud (obtain ⟨d3, e3, HS4⟩ := HNEXT.out _ _ _ hgrow hown'; obtain ⟨a4, c4, rfl, _⟩ := World.ownsRow.form hown'; clear hgrow hown' hown hcp))
        go_roundw
        case rel => exact ⟨k + 1, by omega, by omega, by go_num, HOK.out, HS4.out⟩
        case measure => simp [intOf]; omega
    · obtain ⟨v, A, C, hv1, hv2⟩ := HS.out.2.st
      obtain ⟨mm, hmm⟩ : ∃ mm, mm = (L.take k).map lsV := ⟨_, rfl⟩
      rw [← hmm] at hv2
      have hkn : k = n := by omega
      have hmk : mm.length ≤ 16 ∧ mm.length = k := by
        have h2 : mm.length = k := by rw [hmm, List.length_map, List.length_take, HLN.out]; omega
        omega
      have hrw : ∀ r, (mm.getD r []).length ≤ 1048576 := fun r => by rw [hmm]; exact gy_row _ r
      obtain ⟨av, cv, rfl, _⟩ := World.ownsRow.form hv2.outer
      have hmat := (hv2.mat (by decide)).mat
      obtain ⟨t, ht⟩ : ∃ t, tableOk mm 99 = t := ⟨_, rfl⟩
      have HIS := Lib.hid (validGrey_any av cv A C mm wo (by omega) hrw hmat t ht)
      have hcp := hv1.cell
      have lpp := hv1.lt
      have hmm2 : mm = L.map lsV := by rw [hmm, List.take_of_length_le (by rw [HLN.out]; omega)]
      have HFN : Hid (t = true → B = true ∧ M = mm) := fun h => by
        rw [h] at ht
        rw [hmm2] at ht ⊢
        exact HALL.out (by omega) (fun r hr => HS.out.1 r (by omega)) ht
      have HFF : Hid (t = false → B = false ∧ M = []) := fun h => by
        rw [h] at ht
        refine HTAB.out ?_
        rw [← hmm2]
        exact ht
      have HST2 : Hid (W0.Ext wo ∧ One wo w.heap.size 26 (.slice none 0 0) ∧ One wo p 26 (.slice av mm.length cv) ∧ OwnMat W0.heap.size wo.heap.size wo av A C mm) := ⟨HS.out.2.x, HS.out.2.one, hv1, hv2.mat (by decide)⟩
      have hltn : ¬ (k : Int) < (n : Int) := by omega
      clear HS hv1 hv2 hmm hmm2 hrw ht hmat HMANY HBAD HALL HTAB hmk hkn hlt1
      go_wp2_with fail
      refine HIS.out.mono ?_
      rintro e w3 ⟨rfl, hx3⟩
      obtain ⟨q1, q2, q3, q4⟩ := HST2.out
      have hX3 := HX0.out.trans (q1.trans hx3)
      cases t
      · have HF := Lib.hid (HFF.out rfl)
        obtain ⟨r1, r2, r3, HR⟩ := one_noPic hX3 (Nat.le_refl _) (q2.ext hx3)
        have HE : Hid (GreyRet2 w M B (.returned (.tuple #[.agg #[.slice none 0 0], .bool false])) (w3.setCell ⟨w.heap.size, 0, none⟩ (.slice none 0 0))) := by rw [HF.out.1, HF.out.2]; exact GreyRet2.noR HR.out
        clear HF HFF HFN HST2 q1 q2 q3 q4 hx3 hX3 HIS
        go_wp2
        exact bodyPost_ret (v := .tuple #[.agg #[.slice none 0 0], .bool false]) (by simp [results, Tryz.results11, go_sem, r3]) rfl HE.out
      · have HF := Lib.hid (HFN.out rfl)
        have hc3 := (q3.ext hx3).cell
        obtain ⟨r1, r2, r3, HR⟩ := Res.storeM (.slice av mm.length cv) hX3 (Nat.le_refl _) (q2.ext hx3) hl0 ((q4.ext hx3).mono (Nat.le_refl _) hx3.size)
        have HE : Hid (GreyRet2 w M B (.returned (.tuple #[.agg #[.slice av mm.length cv], .bool true])) (w3.setCell ⟨w.heap.size, 0, none⟩ (.slice av mm.length cv))) := by
          rw [HF.out.1, HF.out.2]
          exact ⟨av, cv, A, C, rfl, HR.out.1, HR.out.2⟩
        have lp3 := (q3.ext hx3).lt
        clear HF HFF HFN HST2 q1 q2 q3 q4 hx3 hX3 HIS
        generalize mm.length = mn at *
        go_wp2
        exact bodyPost_ret (v := .tuple #[.agg #[.slice av mn cv], .bool true]) (by simp [results, Tryz.results11, go_sem, r3]) rfl HE.out
end Go.Proofs.YtkpgelhmeokemaaGreatDoor
