/- Quadtrees: the implementation reads a tree. -/
import Derived.Test.YtlcofjicpbbdhaaTreeK
namespace Go.Proofs.Ytlcofjicpbbdhaa
open Go Go.RowKit
set_option maxHeartbeats 800000 in
theorem indexI2_any (a : Option Addr) (c : Nat) (xs : List Int) (v : Int) (w : World) (hn : xs.length ≤ 100000) (hr : RowI w a xs) :
    Calls Try.prog 87 #[.slice a xs.length c, .int .i64 v] w fun e w' => (∃ r : Int, e = .returned (.int .i64 r) ∧ decide (0 ≤ r) = decide (v ∈ xs)) ∧ w.Ext w' := by
  have HR := Lib.hid hr
  clear hr
  go_enter Try.func87, Try.ntmps87
  go_wp2
  go_loopw [5, 8] (fun _ m wr => ∃ k : Nat, k ≤ xs.length ∧ m = .int .i64 k ∧ Hid (∀ j, j < k → xs.getD j 0 ≠ v) ∧ w.Ext wr) (fun _ m _ => xs.length - (intOf m).toNat)
  case atStart => exact ⟨0, Nat.zero_le _, rfl, fun j hj => absurd hj (by omega), .refl _⟩
  case round =>
    obtain ⟨k, hk, rfl, HB, hx⟩ := hrel
    by_cases hlt : k < xs.length
    · have hlt' : (k : Int) < (xs.length : Int) := by omega
      have hk0 : (0 : Int) ≤ (k : Int) := by omega
      obtain ⟨b2, o2, rfl, c2⟩ := HR.out k hlt
      replace c2 := hx.cell c2
      by_cases e : v = xs.getD k 0
      · have HM : Hid (v ∈ xs) := by
          show v ∈ xs
          rw [e, List.getD_eq_getElem?_getD, List.getElem?_eq_getElem hlt]
          exact List.getElem_mem hlt
        rw [← e] at c2
        clear e
        go_wp2
        go_ret
        exact ⟨⟨_, rfl, by rw [decide_eq_true (by omega), decide_eq_true HM.out]⟩, hx⟩
      · have HB2 : Hid (∀ j, j < k + 1 → xs.getD j 0 ≠ v) := fun j hj => by
          by_cases h : j < k
          · exact HB.out j h
          · have : j = k := by omega
            subst this
            exact fun h => e h.symm
        have f1 : (v == xs.getD k 0) = false := by rw [beq_eq_false_iff_ne]; exact e
        generalize xs.getD k 0 = m2 at *
        clear HB
        go_wp2
        go_roundw
        case rel => exact ⟨k + 1, by omega, by go_num, HB2, hx⟩
        case measure => simp [intOf]; omega
    · have : k = xs.length := by omega
      subst this
      go_wp2
      go_ret
      refine ⟨⟨_, rfl, ?_⟩, hx⟩
      rw [decide_eq_false (by omega), decide_eq_false]
      intro hm
      obtain ⟨j, hj, e⟩ := List.getElem_of_mem hm
      exact HB.out j hj (by rw [List.getD_eq_getElem?_getD, List.getElem?_eq_getElem hj]; exact e)
set_option maxHeartbeats 800000 in
theorem containsI2_any (a : Option Addr) (c : Nat) (xs : List Int) (v : Int) (w : World) (hn : xs.length ≤ 100000) (hr : RowI w a xs) :
    Calls Try.prog 252 #[.slice a xs.length c, .int .i64 v] w fun e w' => e = .returned (.bool (decide (v ∈ xs))) ∧ w.Ext w' := by
  have HI := Lib.hid (indexI2_any a c xs v w hn hr)
  clear hr hn
  generalize decide (v ∈ xs) = t at *
  go_enter Try.func252, Try.ntmps252
  go_wp2_with fail
  refine HI.out.mono ?_
  rintro e w1 ⟨⟨r, rfl, h⟩, hx⟩
  have H := Lib.hid h
  have HX := Lib.hid hx
  clear h hx HI
  go_wp2_with fail
  go_ret
  exact ⟨ret_bool H.out, HX.out⟩
set_option maxHeartbeats 800000 in
theorem sideOk_any (z : Int) (w : World) : Calls Try.prog 248 #[.int .i64 z] w fun e w' => e = .returned (.bool (sdOk z)) ∧ w.Ext w' := by
  obtain ⟨W0, hW0⟩ : ∃ W0, W0 = w.alloc (.cells #[.int .i64 1, .int .i64 2, .int .i64 4, .int .i64 8, .int .i64 16] 2) := ⟨_, rfl⟩
  have hx0 : w.Ext W0 := by rw [hW0]; repeat (first | exact World.Ext.refl _ | exact ⟨_, rfl⟩ | assumption | refine World.Ext.over ?_ _ | refine World.Ext.drewN ?_ _ | refine World.Ext.drew ?_ | refine World.Ext.alloc ?_ _ | refine World.Ext.setCell ?_ (by simp) _)
  have hr : RowI W0 (some ⟨w.heap.size, 0, none⟩) [1, 2, 4, 8, 16] := by
    intro i hi
    refine ⟨w.heap.size, 0, rfl, ?_⟩
    rw [hW0]
    have hi : i < 5 := hi
    match i, hi with
    | 0, _ => simp [go_sem]
    | 1, _ => simp [go_sem]
    | 2, _ => simp [go_sem]
    | 3, _ => simp [go_sem]
    | 4, _ => simp [go_sem]
  have HC := Lib.hid (containsI2_any (some ⟨w.heap.size, 0, none⟩) 5 [1, 2, 4, 8, 16] z W0 (by simp) hr)
  rw [show decide (z ∈ ([1, 2, 4, 8, 16] : List Int)) = sdOk z by rw [Bool.eq_iff_iff, decide_eq_true_iff]; simp [sdOk, or_assoc]] at HC
  have HX0 := Lib.hid hx0
  clear hr hx0
  generalize sdOk z = t at *
  go_enter Try.func248, Try.ntmps248
  go_wp2_with fail
  rw [← hW0]
  clear hW0
  refine HC.out.mono ?_
  rintro e w1 ⟨rfl, hx1⟩
  have HX1 := Lib.hid (HX0.out.trans hx1)
  clear hx1
  go_wp2_with fail
  go_ret
  exact ⟨rfl, HX1.out⟩
/-- Leaves. -/
structure Lf where
  x : Nat
  y : Nat
  m : Nat
  b : Bool
  p : ByteArray
def lfV (f : Lf) : List Value := [.int .i64 f.x, .int .i64 f.y, .int .i64 f.m, .bool f.b, .string f.p]
def lfC (ls : List Lf) : List Value := ls.flatMap lfV
theorem lfC_len : ∀ ls : List Lf, (lfC ls).length = ls.length * 5
  | [] => rfl
  | f :: ls => by
    have h := lfC_len ls
    unfold lfC at h ⊢
    rw [List.flatMap_cons, List.length_append, h, List.length_cons]
    simp [lfV]; omega
theorem lfC_app (a b : List Lf) : lfC (a ++ b) = lfC a ++ lfC b := List.flatMap_append
def pth (p : ByteArray) (k : Nat) : ByteArray := p ++ txB [UInt8.ofNat (48 + k)]
def QT.lvs : QT → Nat → Nat → Nat → ByteArray → List Lf
  | .leaf b, n, x, y, p => [⟨x, y, 2 ^ n, b, p⟩]
  | .node a b c d, n, x, y, p => a.lvs (n - 1) (qX x (2 ^ (n - 1)) 0) (qY y (2 ^ (n - 1)) 0) (pth p 0) ++ b.lvs (n - 1) (qX x (2 ^ (n - 1)) 1) (qY y (2 ^ (n - 1)) 1) (pth p 1) ++
      c.lvs (n - 1) (qX x (2 ^ (n - 1)) 2) (qY y (2 ^ (n - 1)) 2) (pth p 2) ++ d.lvs (n - 1) (qX x (2 ^ (n - 1)) 3) (qY y (2 ^ (n - 1)) 3) (pth p 3)
/-- Reading without what could be shorter. -/
def rd (s : ByteArray) (n k : Nat) : Option (QT × Nat) := (parse s n k).bind fun p => if p.1.red then some p else none
def chn (s : ByteArray) (n k : Nat) : Nat → Option (List QT × Nat)
  | 0 => some ([], k + 1)
  | j + 1 => (chn s n k j).bind fun q => (rd s n q.2).map fun p => (q.1 ++ [p.1], p.2)
theorem chn_stop {s : ByteArray} {n k j : Nat} {Ts : List QT} {a : Nat} (h : chn s n k j = some (Ts, a)) (hr : rd s n a = none) : ∀ i, chn s n k (j + 1 + i) = none
  | 0 => by show (chn s n k j).bind _ = none; rw [h]; show (rd s n a).map _ = none; rw [hr]; rfl
  | i + 1 => by show (chn s n k (j + 1 + i)).bind _ = none; rw [chn_stop h hr i]; rfl
theorem chn_next {s : ByteArray} {n k j : Nat} {Ts : List QT} {a : Nat} {T : QT} {a' : Nat} (h : chn s n k j = some (Ts, a)) (hr : rd s n a = some (T, a')) : chn s n k (j + 1) = some (Ts ++ [T], a') := by
  show (chn s n k j).bind _ = _; rw [h]; show (rd s n a).map _ = _; rw [hr]; rfl
theorem rd_some {s : ByteArray} {n k : Nat} {T : QT} {k' : Nat} (h : rd s n k = some (T, k')) : parse s n k = some (T, k') ∧ T.red = true := by
  unfold rd at h
  cases e : parse s n k with
  | none => rw [e] at h; cases h
  | some p =>
    rw [e] at h
    dsimp only [Option.bind_some] at h
    split at h
    · cases h; exact ⟨rfl, by assumption⟩
    · cases h
theorem rd_none {s : ByteArray} {n k : Nat} (h : rd s n k = none) : parse s n k = none ∨ ∃ T k', parse s n k = some (T, k') ∧ T.red = false := by
  unfold rd at h
  cases e : parse s n k with
  | none => exact .inl rfl
  | some p =>
    rw [e] at h
    dsimp only [Option.bind_some] at h
    split at h
    · cases h
    · rename_i hr
      exact .inr ⟨p.1, p.2, rfl, by simpa using hr⟩
theorem chn_inv {s : ByteArray} {n k j : Nat} {Ts : List QT} {a : Nat} (h : chn s n k (j + 1) = some (Ts, a)) : ∃ Ts' a' T, chn s n k j = some (Ts', a') ∧ rd s n a' = some (T, a) ∧ Ts = Ts' ++ [T] := by
  have h' : ((chn s n k j).bind fun q => (rd s n q.2).map fun p => (q.1 ++ [p.1], p.2)) = some (Ts, a) := h
  cases e : chn s n k j with
  | none => rw [e] at h'; cases h'
  | some q =>
    rw [e] at h'
    dsimp only [Option.bind_some] at h'
    cases e2 : rd s n q.2 with
    | none => rw [e2] at h'; cases h'
    | some p =>
      rw [e2] at h'
      cases h'
      exact ⟨q.1, q.2, p.1, rfl, e2, rfl⟩
theorem chn_four {s : ByteArray} {n k : Nat} {Ts : List QT} {e : Nat} (h : chn s n k 4 = some (Ts, e)) : ∃ a b c d a1 a2 a3, Ts = [a, b, c, d] ∧ rd s n (k + 1) = some (a, a1) ∧ rd s n a1 = some (b, a2) ∧ rd s n a2 = some (c, a3) ∧ rd s n a3 = some (d, e) := by
  obtain ⟨T3, a3, d, h3, r3, rfl⟩ := chn_inv h
  obtain ⟨T2, a2, c, h2, r2, rfl⟩ := chn_inv h3
  obtain ⟨T1, a1, b, h1, r1, rfl⟩ := chn_inv h2
  obtain ⟨T0, a0, a, h0, r0, rfl⟩ := chn_inv h1
  cases h0
  exact ⟨a, b, c, d, a1, a2, a3, rfl, r0, r1, r2, r3⟩
theorem rd_node {s : ByteArray} {n k : Nat} (hb : byt s k = 40) {T : QT} {k' : Nat} (h : rd s (n + 1) k = some (T, k')) : ∃ a b c d e, chn s n k 4 = some ([a, b, c, d], e) ∧ byt s e = 41 ∧ T = .node a b c d ∧ k' = e + 1 ∧ four true a b c d = false ∧ four false a b c d = false := by
  obtain ⟨hp, hr⟩ := rd_some h
  rw [parse_node hb] at hp
  unfold nodeF at hp
  cases e1 : parse s n (k + 1) with
  | none => simp [e1, nxtF] at hp
  | some p1 =>
    cases e2 : parse s n p1.2 with
    | none => simp [e1, e2, nxtF] at hp
    | some p2 =>
      cases e3 : parse s n p2.2 with
      | none => simp [e1, e2, e3, nxtF] at hp
      | some p3 =>
        cases e4 : parse s n p3.2 with
        | none => simp [e1, e2, e3, e4, nxtF] at hp
        | some p4 =>
          simp [e1, e2, e3, e4, nxtF, pT] at hp
          obtain ⟨hb4, rfl, rfl⟩ := hp
          simp only [QT.red, Bool.and_eq_true, Bool.not_eq_true'] at hr
          obtain ⟨⟨⟨⟨⟨r1, r2⟩, r3⟩, r4⟩, f1⟩, f2⟩ := hr
          have d1 : rd s n (k + 1) = some (p1.1, p1.2) := by unfold rd; rw [e1]; simp [r1]
          have d2 : rd s n p1.2 = some (p2.1, p2.2) := by unfold rd; rw [e2]; simp [r2]
          have d3 : rd s n p2.2 = some (p3.1, p3.2) := by unfold rd; rw [e3]; simp [r3]
          have d4 : rd s n p3.2 = some (p4.1, p4.2) := by unfold rd; rw [e4]; simp [r4]
          have c0 : chn s n k 0 = some ([], k + 1) := rfl
          have c4 := chn_next (chn_next (chn_next (chn_next c0 d1) d2) d3) d4
          exact ⟨p1.1, p2.1, p3.1, p4.1, p4.2, c4, hb4, rfl, rfl, f1, f2⟩
theorem rd_yes {s : ByteArray} {n k : Nat} (hb : byt s k = 40) {a b c d : QT} {e : Nat} (h : chn s n k 4 = some ([a, b, c, d], e)) (h41 : byt s e = 41) (f1 : four true a b c d = false) (f2 : four false a b c d = false) : rd s (n + 1) k = some (.node a b c d, e + 1) := by
  obtain ⟨a', b', c', d', a1, a2, a3, hl, r0, r1, r2, r3⟩ := chn_four h
  cases hl
  obtain ⟨q0, s0⟩ := rd_some r0
  obtain ⟨q1, s1⟩ := rd_some r1
  obtain ⟨q2, s2⟩ := rd_some r2
  obtain ⟨q3, s3⟩ := rd_some r3
  unfold rd
  rw [parse_node hb]
  unfold nodeF
  simp [q0, q1, q2, q3, nxtF, pT, h41, QT.red, s0, s1, s2, s3, f1, f2]
theorem rd_none_of {s : ByteArray} {n k : Nat} (hb : byt s k = 40) (h : ∀ a b c d e, chn s n k 4 = some ([a, b, c, d], e) → byt s e ≠ 41 ∨ four true a b c d = true ∨ four false a b c d = true) : rd s (n + 1) k = none := by
  cases e : rd s (n + 1) k with
  | none => rfl
  | some p =>
    obtain ⟨a, b, c, d, e', h1, h2, -, -, h3, h4⟩ := rd_node (T := p.1) (k' := p.2) hb e
    rcases h a b c d e' h1 with h5 | h5 | h5
    · exact absurd h2 h5
    · rw [h3] at h5; cases h5
    · rw [h4] at h5; cases h5
/-- The text of four quarters. -/
theorem chn_cut {s : ByteArray} {n k : Nat} (hb : byt s k = 40) {a b c d : QT} {e : Nat} (h : chn s n k 4 = some ([a, b, c, d], e)) : k + 5 ≤ e ∧ e ≤ s.size ∧ cut s k e = 40 :: (a.text ++ b.text ++ c.text ++ d.text) := by
  obtain ⟨a', b', c', d', a1, a2, a3, hl, r0, r1, r2, r3⟩ := chn_four h
  cases hl
  obtain ⟨-, l1, m1, t1⟩ := parse_ok s n _ _ _ (rd_some r0).1
  obtain ⟨-, l2, m2, t2⟩ := parse_ok s n _ _ _ (rd_some r1).1
  obtain ⟨-, l3, m3, t3⟩ := parse_ok s n _ _ _ (rd_some r2).1
  obtain ⟨-, l4, m4, t4⟩ := parse_ok s n _ _ _ (rd_some r3).1
  obtain ⟨h1, h2⟩ := cut_one (c := 40) hb (by decide)
  refine ⟨by omega, m4, ?_⟩
  rw [cut_app (b := k + 1) (by omega) (by omega), cut_app (a := k + 1) (b := a1) (by omega) (by omega), cut_app (a := a1) (b := a2) (by omega) (by omega), cut_app (a := a2) (b := a3) (by omega) (by omega), h2, t1, t2, t3, t4]
  simp
theorem four_text (v : Bool) (a b c d : QT) : ((40 :: (a.text ++ b.text ++ c.text ++ d.text)) == [40, tokB v, tokB v, tokB v, tokB v]) = four v a b c d := by
  rw [Bool.eq_iff_iff, beq_iff_eq]
  have ha := a.text_pos
  have hb := b.text_pos
  have hc := c.text_pos
  have hd := d.text_pos
  constructor
  · intro h
    have hl := congrArg List.length h
    simp only [List.length_cons, List.length_append, List.length_nil] at hl
    obtain ⟨ta, ea⟩ := List.length_eq_one_iff.1 (show a.text.length = 1 by omega)
    obtain ⟨tb, eb⟩ := List.length_eq_one_iff.1 (show b.text.length = 1 by omega)
    obtain ⟨tc, ec⟩ := List.length_eq_one_iff.1 (show c.text.length = 1 by omega)
    obtain ⟨td, ed⟩ := List.length_eq_one_iff.1 (show d.text.length = 1 by omega)
    rw [ea, eb, ec, ed] at h
    simp only [List.cons_append, List.nil_append, List.cons.injEq, true_and, and_true] at h
    obtain ⟨h1, h2, h3, h4⟩ := h
    unfold four
    rw [QT.isB_of (by rw [ea, h1]), QT.isB_of (by rw [eb, h2]), QT.isB_of (by rw [ec, h3]), QT.isB_of (by rw [ed, h4])]
    rfl
  · intro h
    simp only [four, Bool.and_eq_true] at h
    obtain ⟨⟨⟨i1, i2⟩, i3⟩, i4⟩ := h
    rw [QT.of_isB i1, QT.of_isB i2, QT.of_isB i3, QT.of_isB i4]
    rfl
/-- The leaves of the quarters so far. -/
def lvC (n x y : Nat) (p : ByteArray) (Ts : List QT) : List Lf := Ts.zipIdx.flatMap fun q => q.1.lvs n (qX x (2 ^ n) q.2) (qY y (2 ^ n) q.2) (pth p q.2)
theorem lvC_next (n x y : Nat) (p : ByteArray) (Ts : List QT) (T : QT) : lvC n x y p (Ts ++ [T]) = lvC n x y p Ts ++ T.lvs n (qX x (2 ^ n) Ts.length) (qY y (2 ^ n) Ts.length) (pth p Ts.length) := by
  unfold lvC
  rw [List.zipIdx_append, List.flatMap_append]
  simp
theorem lvC_four (n x y : Nat) (p : ByteArray) (a b c d : QT) : lvC n x y p [a, b, c, d] = (QT.node a b c d).lvs (n + 1) x y p := by
  simp [lvC, QT.lvs, List.zipIdx]
def Cq : Nat → Nat
  | 0 => 1
  | n + 1 => 4 * Cq n
theorem Cq_pos : ∀ n, 1 ≤ Cq n
  | 0 => Nat.le_refl _
  | n + 1 => by have := Cq_pos n; unfold Cq; omega
theorem lvs_len : ∀ (T : QT) (n x y : Nat) (p : ByteArray), T.fits n → 1 ≤ (T.lvs n x y p).length ∧ (T.lvs n x y p).length ≤ Cq n
  | .leaf b, n, x, y, p, _ => ⟨Nat.le_refl _, Cq_pos n⟩
  | .node a b c d, 0, _, _, _, h => h.elim
  | .node a b c d, n + 1, x, y, p, h => by
    have h1 := lvs_len a n (qX x (2 ^ n) 0) (qY y (2 ^ n) 0) (pth p 0) h.1
    have h2 := lvs_len b n (qX x (2 ^ n) 1) (qY y (2 ^ n) 1) (pth p 1) h.2.1
    have h3 := lvs_len c n (qX x (2 ^ n) 2) (qY y (2 ^ n) 2) (pth p 2) h.2.2.1
    have h4 := lvs_len d n (qX x (2 ^ n) 3) (qY y (2 ^ n) 3) (pth p 3) h.2.2.2
    simp only [QT.lvs, Nat.add_sub_cancel, List.length_append]
    unfold Cq
    omega
end Go.Proofs.Ytlcofjicpbbdhaa
