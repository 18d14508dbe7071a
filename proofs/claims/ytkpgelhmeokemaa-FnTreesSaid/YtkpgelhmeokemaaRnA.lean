/- Runs of a picture, as plain lists. -/
import Derived.Test.YtkpgelhmeokemaaPic
import Derived.Test.YtkpgelhmeokemaaWith
import Derived.Test.YtkpgelhmeokemaaListS
import Derived.Test.YtkpgelhmeokemaaRecP
import Derived.IntWalk
import Derived.Test.YtkpgelhmeokemaaSumP
import Derived.Test.YtkpgelhmeokemaaCount
import Derived.Test.YtkpgelhmeokemaaArnd
import Derived.Test.YtkpgelhmeokemaaGenA
namespace Go.Proofs.Ytkpgelhmeokemaa
open Go Go.RowKit
/-- The last run is one longer. -/
def incL (R : List (List Int)) : List (List Int) := R.set (R.length - 1) ((R.getD (R.length - 1) []).set 2 ((R.getD (R.length - 1) []).getD 2 0 + 1))
/-- The runs among the first pixels. -/
def runsTo (W : Nat) (l : List Bool) : Nat → List (List Int)
  | 0 => []
  | k + 1 => if l.getD k false = true then (if k % W ≠ 0 ∧ l.getD (k - 1) false = true then incL (runsTo W l k) else runsTo W l k ++ [[((k / W : Nat) : Int), ((k % W : Nat) : Int), 1]]) else runsTo W l k
theorem incL_append (R : List (List Int)) (a b c : Int) : incL (R ++ [[a, b, c]]) = R ++ [[a, b, c + 1]] := by
  unfold incL
  have h : (R ++ [[a, b, c]]).length - 1 = R.length := by simp
  have h2 : (R ++ [[a, b, c]]).getD R.length [] = [a, b, c] := by simp [List.getD_eq_getElem?_getD]
  rw [h, h2, List.set_append_right _ _ (Nat.le_refl _)]
  simp
theorem runsTo_no {W : Nat} {l : List Bool} {k : Nat} (h : l.getD k false = false) : runsTo W l (k + 1) = runsTo W l k := by
  show (if l.getD k false = true then _ else _) = _
  rw [if_neg (by rw [h]; decide)]
theorem runsTo_new {W : Nat} {l : List Bool} {x y : Nat} (hx : x < W) (h : l.getD (y * W + x) false = true) (hp : x = 0 ∨ l.getD (y * W + x - 1) false = false) :
    runsTo W l (y * W + x + 1) = runsTo W l (y * W + x) ++ [[(y : Int), (x : Int), 1]] := by
  show (if l.getD (y * W + x) false = true then _ else _) = _
  have hm : (y * W + x) % W = x := by rw [Nat.add_comm, Nat.add_mul_mod_self_right, Nat.mod_eq_of_lt hx]
  have hd : (y * W + x) / W = y := by rw [Nat.add_comm, Nat.add_mul_div_right _ _ (by omega), Nat.div_eq_of_lt hx, Nat.zero_add]
  rw [if_pos h, if_neg, hm, hd]
  rintro ⟨h1, h2⟩
  rw [hm] at h1
  rcases hp with hp | hp
  · exact h1 hp
  · rw [hp] at h2; cases h2
theorem runsTo_inc {W : Nat} {l : List Bool} {x y : Nat} (hx : x < W) (hx0 : 0 < x) (h : l.getD (y * W + x) false = true) (hp : l.getD (y * W + x - 1) false = true) :
    runsTo W l (y * W + x + 1) = incL (runsTo W l (y * W + x)) := by
  show (if l.getD (y * W + x) false = true then _ else _) = _
  have hm : (y * W + x) % W = x := by rw [Nat.add_comm, Nat.add_mul_mod_self_right, Nat.mod_eq_of_lt hx]
  rw [if_pos h, if_pos ⟨by rw [hm]; omega, hp⟩]
theorem runsTo_run {W : Nat} {l : List Bool} {x y : Nat} : ∀ (j : Nat), x + j < W → (∀ i, i ≤ j → l.getD (y * W + (x + i)) false = true) → (x = 0 ∨ l.getD (y * W + x - 1) false = false) →
    runsTo W l (y * W + (x + j) + 1) = runsTo W l (y * W + x) ++ [[(y : Int), (x : Int), (j : Int) + 1]]
  | 0, hx, h, hp => runsTo_new hx (h 0 (Nat.le_refl _)) hp
  | j + 1, hx, h, hp => by
    have ih := runsTo_run (W := W) (l := l) (x := x) (y := y) j (by omega) (fun i hi => h i (by omega)) hp
    have h1 := h j (by omega)
    have h2 := h (j + 1) (Nat.le_refl _)
    rw [runsTo_inc (x := x + (j + 1)) hx (by omega) h2 (by rw [show y * W + (x + (j + 1)) - 1 = y * W + (x + j) by omega]; exact h1), show y * W + (x + (j + 1)) = y * W + (x + j) + 1 by omega, ih, incL_append]
    simp
theorem incL_len (R : List (List Int)) : (incL R).length = R.length := by simp [incL]
theorem runsTo_len (W : Nat) (l : List Bool) : ∀ k, (runsTo W l k).length ≤ k
  | 0 => Nat.le_refl _
  | k + 1 => by
    have ih := runsTo_len W l k
    show (if l.getD k false = true then _ else _ : List (List Int)).length ≤ _
    split
    · split
      · rw [incL_len]; omega
      · simp; omega
    · omega
/-- Three numbers each, none great. -/
def RunsFit (k : Nat) (R : List (List Int)) : Prop := ∀ r, r ∈ R → ∃ a b c : Nat, r = [(a : Int), (b : Int), (c : Int)] ∧ a ≤ k ∧ b ≤ k ∧ c ≤ k
theorem runsTo_fit (W : Nat) (l : List Bool) : ∀ k, RunsFit k (runsTo W l k)
  | 0 => fun r h => by simp [runsTo] at h
  | k + 1 => by
    have ih := runsTo_fit W l k
    have up : RunsFit (k + 1) (runsTo W l k) := fun r h => by
      obtain ⟨a, b, c, e, h1, h2, h3⟩ := ih r h
      exact ⟨a, b, c, e, by omega, by omega, by omega⟩
    show RunsFit (k + 1) (if l.getD k false = true then _ else _)
    split
    · split
      · intro r h
        unfold incL at h
        rcases List.mem_or_eq_of_mem_set h with h | h
        · exact up r h
        · by_cases hn : (runsTo W l k).length = 0
          · have : runsTo W l k = [] := List.eq_nil_of_length_eq_zero hn
            rw [this] at h
            rename_i h0
            rw [this] at h0
            simp at h0
          · have hm : (runsTo W l k).getD ((runsTo W l k).length - 1) [] ∈ runsTo W l k := by
              rw [List.getD_eq_getElem?_getD, List.getElem?_eq_getElem (by omega)]
              exact List.getElem_mem _
            obtain ⟨a, b, c, e, h1, h2, h3⟩ := ih _ hm
            rw [e] at h
            refine ⟨a, b, c + 1, ?_, by omega, by omega, by omega⟩
            rw [h]
            simp
      · intro r h
        rcases List.mem_append.1 h with h | h
        · exact up r h
        · have h := List.mem_singleton.1 h
          exact ⟨k / W, k % W, 1, by rw [h]; rfl, by have := Nat.div_le_self k W; omega, by have := Nat.mod_le k W; omega, by omega⟩
    · exact up
theorem runsTo_pos {W : Nat} {l : List Bool} {k : Nat} (h : l.getD k false = true) : 0 < (runsTo W l (k + 1)).length := by
  induction k with
  | zero =>
    show 0 < (if l.getD 0 false = true then (if 0 % W ≠ 0 ∧ l.getD (0 - 1) false = true then incL (runsTo W l 0) else runsTo W l 0 ++ [[((0 / W : Nat) : Int), ((0 % W : Nat) : Int), 1]]) else runsTo W l 0).length
    rw [if_pos h, if_neg (by simp)]
    simp
  | succ k ih =>
    show 0 < (if l.getD (k + 1) false = true then (if (k + 1) % W ≠ 0 ∧ l.getD (k + 1 - 1) false = true then incL (runsTo W l (k + 1)) else runsTo W l (k + 1) ++ [[(((k + 1) / W : Nat) : Int), (((k + 1) % W : Nat) : Int), 1]]) else runsTo W l (k + 1)).length
    rw [if_pos h]
    split
    · rename_i h2
      rw [incL_len]
      exact ih h2.2
    · simp
/-- A run drawn. -/
def paintRun (l : List Bool) (k : Nat) : Nat → List Bool
  | 0 => l
  | n + 1 => (paintRun l k n).set (k + n) true
theorem paintRun_len (l : List Bool) (k : Nat) : ∀ n, (paintRun l k n).length = l.length
  | 0 => rfl
  | n + 1 => by show ((paintRun l k n).set _ _).length = _; rw [List.length_set, paintRun_len l k n]
/-- A run that lies in a picture. -/
def runGood (W H : Int) (r : List Int) : Bool := decide (r.length = 3) && (inB (r.getD 0 0) 0 (H - 1) && (inB (r.getD 1 0) 0 (W - 1) && inB (r.getD 2 0) 1 (W - r.getD 1 0)))
def runAt (W : Int) (r : List Int) : Nat := (r.getD 0 0 * W + r.getD 1 0).toNat
/-- The picture of the first runs. -/
def paintTo (W H : Nat) (m : List (List Int)) : Nat → List Bool
  | 0 => List.replicate (W * H) false
  | k + 1 => paintRun (paintTo W H m k) (runAt W (m.getD k [])) ((m.getD k []).getD 2 0).toNat
theorem paintTo_len (W H : Nat) (m : List (List Int)) : ∀ k, (paintTo W H m k).length = W * H
  | 0 => by simp [paintTo]
  | k + 1 => by show (paintRun _ _ _).length = _; rw [paintRun_len, paintTo_len W H m k]
theorem runGood_spec {W H : Int} {r : List Int} (h : runGood W H r = true) : ∃ a b c : Nat, r = [(a : Int), (b : Int), (c : Int)] ∧ (a : Int) < H ∧ (b : Int) + c ≤ W ∧ 1 ≤ c := by
  unfold runGood at h
  simp only [Bool.and_eq_true, decide_eq_true_eq] at h
  obtain ⟨h0, h1, h2, h3⟩ := h
  match r, h0 with
  | [x, y, z], _ =>
    simp only [List.getD_cons_zero, List.getD_cons_succ] at h1 h2 h3
    have i1 := inB_true.1 h1
    have i2 := inB_true.1 h2
    have i3 := inB_true.1 h3
    obtain ⟨a, rfl⟩ := Int.eq_ofNat_of_zero_le i1.1
    obtain ⟨b, rfl⟩ := Int.eq_ofNat_of_zero_le i2.1
    obtain ⟨c, rfl⟩ := Int.eq_ofNat_of_zero_le (show 0 ≤ z by omega)
    exact ⟨a, b, c, rfl, by omega, by omega, by omega⟩
/-- The runs are those of the picture that they draw. -/
def runsOkB (W H : Nat) (m : List (List Int)) : Bool := m.all (runGood W H) && decide (runsTo W (paintTo W H m m.length) (H * W) = m)
def porOk (i0 i1 : Int) (m : List (List Int)) : Bool := (inB i0 1 16 && inB i1 1 16) && runsOkB i0.toNat i1.toNat m
def porRows (i0 i1 : Int) (m : List (List Int)) : List ByteArray := if porOk i0 i1 m then picRows i0.toNat i1.toNat (paintTo i0.toNat i1.toNat m m.length) else []
end Go.Proofs.Ytkpgelhmeokemaa

/- Runs, and a picture of runs: the reference. -/
namespace Go.Proofs.Ytkpgelhmeokemaa
open Go Go.RowKit
theorem listI_ext {xs ys : List Int} (hl : xs.length = ys.length) (h : ∀ i, i < xs.length → xs.getD i 0 = ys.getD i 0) : xs = ys := by
  apply List.ext_getElem hl
  intro i h1 h2
  have := h i h1
  rw [List.getD_eq_getElem?_getD, List.getD_eq_getElem?_getD, List.getElem?_eq_getElem h1, List.getElem?_eq_getElem h2] at this
  exact this
theorem listM_ext {xs ys : List (List Int)} (hl : xs.length = ys.length) (h : ∀ i, i < xs.length → xs.getD i [] = ys.getD i []) : xs = ys := by
  apply List.ext_getElem hl
  intro i h1 h2
  have := h i h1
  rw [List.getD_eq_getElem?_getD, List.getD_eq_getElem?_getD, List.getElem?_eq_getElem h1, List.getElem?_eq_getElem h2] at this
  exact this
/-- A table that grows. -/
def MatSt (w : World) (m : List (List Int)) (v : Value) (wr : World) : Prop := ∃ A C, w.Ext wr ∧ GrowM w.heap.size 41 2 wr v A C m
theorem MatSt.ext {w : World} {m : List (List Int)} {v : Value} {wr w' : World} (h : MatSt w m v wr) (hx : wr.Ext w') : MatSt w m v w' := let ⟨A, C, h1, h2⟩ := h; ⟨A, C, h1.trans hx, h2.ext hx⟩
theorem MatSt.x {w : World} {m : List (List Int)} {v : Value} {wr : World} (h : MatSt w m v wr) : w.Ext wr := let ⟨_, _, h1, _⟩ := h; h1
theorem MatSt.start {w w1 : World} (hx : w.Ext w1) : MatSt w [] (.slice (some ⟨w1.heap.size, 0, none⟩) 0 0) (w1.alloc (.cells #[] 41)) := ⟨_, _, hx.alloc _, (GrowM.empty w1 hx.size)⟩
theorem MatSt.ret {w wr : World} {m : List (List Int)} {v : Value} (h : MatSt w m v wr) : MatRet w m (.returned v) wr := by
  obtain ⟨A, C, hx, hm⟩ := h
  obtain ⟨a, c, rfl, _⟩ := World.ownsRow.form hm.outer
  exact ⟨a, c, A, C, rfl, hx, hm⟩
/-- Three numbers, new in the memory. -/
theorem row3_new (w : World) (x y z : Int) (e : TypeId) : GrowOf (Value.int .i64) w.heap.size e (w.alloc (.cells #[.int .i64 x, .int .i64 y, .int .i64 z] e)) (.slice (some ⟨w.heap.size, 0, none⟩) 3 3) [x, y, z] :=
  ⟨by simp, .inr ⟨w.heap.size, 3, _, rfl, Nat.le_refl _, heap_alloc_new w _, Nat.le_refl _, by decide, by simp, by simp⟩⟩
/-- A row of three numbers is appended. -/
theorem MatSt.next3 {w w1 : World} {m : List (List Int)} {v : Value} (h : MatSt w m v w1) (x y z : Int) :
    ∃ pre : List Value, (∃ (A : Nat → Option Addr) (C : Nat → Nat), pre = (List.range m.length).map fun r => Value.slice (A r) (m.getD r []).length (C r)) ∧ (w1.alloc (.cells #[.int .i64 x, .int .i64 y, .int .i64 z] 2)).ownsRow w.heap.size 41 1 v m.length pre ∧
      ∀ (o : Obj) (v' : Value) (w4 : World), ((w1.alloc (.cells #[.int .i64 x, .int .i64 y, .int .i64 z] 2)).alloc o).grownBy w4 v.ownBlock → w4.ownsRow w.heap.size 41 1 v' (m.length + 1) (pre ++ [.slice (some ⟨w1.heap.size, 0, none⟩) 3 3]) → MatSt w (m ++ [[x, y, z]]) v' w4 := by
  obtain ⟨A, C, hx, hm⟩ := h
  have hx1 : w1.Ext (w1.alloc (.cells #[.int .i64 x, .int .i64 y, .int .i64 z] 2)) := by repeat (first | exact World.Ext.refl _ | exact ⟨_, rfl⟩ | assumption | refine World.Ext.over ?_ _ | refine World.Ext.drewN ?_ _ | refine World.Ext.drew ?_ | refine World.Ext.alloc ?_ _ | refine World.Ext.setCell ?_ (by simp) _)
  refine ⟨_, ⟨A, C, rfl⟩, World.ownsRow.ext hm.outer hx1, fun o v' w4 hgrow hown => ⟨(fun r => if r = m.length then some ⟨w1.heap.size, 0, none⟩ else A r), (fun r => if r = m.length then 3 else C r), GrowM.pushExt hm hx hx1 hgrow, GrowM.push (row := [x, y, z]) (by decide) hm hx1 (row3_new w1 x y z _) hx.size hgrow hown⟩⟩
end Go.Proofs.Ytkpgelhmeokemaa

/- Runs, and a picture of runs: the program. -/
namespace Go
open Go.RowKit
/-- Writing into a row of a table of the call's own. -/
theorem GrowM.put {lo : Nat} {TO TI : TypeId} {w : World} {v : Value} {A : Nat → Option Addr} {C : Nat → Nat} {m : List (List Int)} (hne : TO ≠ TI) (h : GrowM lo TO TI w v A C m) {y x : Nat} (hy : y < m.length) (hx : x < (m.getD y []).length) :
    ∃ b, A y = some ⟨b, 0, none⟩ ∧ lo ≤ b ∧ w.cell? ⟨b, x, none⟩ = some (.int .i64 ((m.getD y []).getD x 0)) ∧ w.frozen? ⟨b, x, none⟩ = false ∧ (∃ cs fr, w.heap[b]? = some (.cells cs TI fr)) ∧
      ∀ z : Int, GrowM lo TO TI (w.setCell ⟨b, x, none⟩ (.int .i64 z)) v A C (m.set y ((m.getD y []).set x z)) := by
  obtain ⟨b, cap, e, h1, h2, h3, h4⟩ := GrowOf.atI 0 (h.rows y hy) hx
  have eA : A y = some ⟨b, 0, none⟩ := by
    simp only [Value.slice.injEq] at e
    exact e.1
  have htag := (h.rows y hy).blockTag (k := b) (by rw [eA]; rfl)
  obtain ⟨cs, fr, hcs⟩ := htag
  have hgl : ∀ z : Int, ∀ r, ((m.set y ((m.getD y []).set x z)).getD r []) = if r = y then (m.getD y []).set x z else m.getD r [] := fun z r => by
    by_cases e2 : r = y
    · rw [if_pos e2, e2, List.getD_eq_getElem?_getD, List.getElem?_set_self hy]; rfl
    · rw [if_neg e2, List.getD_eq_getElem?_getD, List.getElem?_set_ne (by omega), List.getD_eq_getElem?_getD]
  have hle : ∀ z : Int, ∀ r, ((m.set y ((m.getD y []).set x z)).getD r []).length = (m.getD r []).length := fun z r => by
    rw [hgl z r]
    split
    · rename_i e2; rw [List.length_set, e2]
    · rfl
  refine ⟨b, eA, h1, h2, h3, ⟨cs, fr, hcs⟩, fun z => ⟨?_, fun r hr => ?_, fun r s p o p' o' hr hs => ?_⟩⟩
  · rw [List.length_set]
    simp only [hle]
    exact World.ownsRow.setCell h.outer (World.ownsRow.ne h.outer hcs hne) _
  · rw [List.length_set] at hr
    rw [hle, hgl]
    split
    · rename_i e2
      subst e2
      rw [eA]
      have := h4 z
      rw [eA] at this
      unfold GrowOf at this ⊢
      rw [List.length_set] at this ⊢
      exact this
    · rename_i e2
      refine GrowOf.setCell (h.rows r hr) ?_ _
      intro e3
      cases hA : A r with
      | none => rw [hA] at e3; cases e3
      | some q =>
        rw [hA] at e3
        have e4 : b = q.block := by simpa [Value.ownBlock] using e3
        obtain ⟨qb, qo, qs⟩ := q
        obtain ⟨-, h6⟩ := h.rows r hr
        rcases h6 with ⟨h6, _⟩ | ⟨g6, cap6, cur6, h6, _⟩
        · simp only [Value.slice.injEq] at h6
          rw [hA] at h6
          cases h6.1
        · simp only [Value.slice.injEq] at h6
          have h7 := h6.1
          rw [hA] at h7
          simp only [Option.some.injEq, Addr.mk.injEq] at h7
          obtain ⟨rfl, rfl, rfl⟩ := h7
          exact h.apart r y _ _ _ _ hr hy e2 hA eA e4.symm
  · rw [List.length_set] at hr hs
    exact h.apart r s p o p' o' hr hs
/-- A store into a cell of another kind. -/
theorem GrowM.setOther {lo : Nat} {TO TI T : TypeId} {w : World} {v x0 : Value} {A : Nat → Option Addr} {C : Nat → Nat} {m : List (List Int)} {p : Nat} (hne : TO ≠ T) (hni : TI ≠ T) (h : GrowM lo TO TI w v A C m) (ho : One w p T x0) (u : Value) : GrowM lo TO TI (w.setCell ⟨p, 0, none⟩ u) v A C m :=
  ⟨World.ownsRow.setCell h.outer (World.ownsRow.ne h.outer (show w.heap[p]? = some (.cells #[x0] T (0, 0)) from ho) hne) u, fun r hr => GrowOf.setCell (h.rows r hr) (GrowOf.ne (h.rows r hr) ho hni) u, h.apart⟩
end Go
namespace Go.Proofs.Ytkpgelhmeokemaa
open Go Go.RowKit
structure RnSt (w : World) (p1 p3 b W : Nat) (l : List Bool) (k : Nat) (wr : World) : Prop where
  x : w.Ext wr
  one : One wr p1 72 (.pointer (some ⟨b, 0, none⟩))
  grow : ∃ v, One wr p3 34 v ∧ MatSt w (runsTo W l k) v wr
theorem RnSt.ext {w : World} {p1 p3 b W : Nat} {l : List Bool} {k : Nat} {wr w' : World} (h : RnSt w p1 p3 b W l k wr) (hx : wr.Ext w') : RnSt w p1 p3 b W l k w' :=
  let ⟨h1, h2, v, h3, h4⟩ := h; ⟨h1.trans hx, h2.ext hx, v, h3.ext hx, h4.ext hx⟩
theorem runsTo_last {W : Nat} {l : List Bool} {k : Nat} (h : l.getD k false = true) : ∃ n a b c : Nat, (runsTo W l (k + 1)).length = n + 1 ∧ (runsTo W l (k + 1)).getD n [] = [(a : Int), (b : Int), (c : Int)] ∧ c ≤ k + 1 := by
  have hp := runsTo_pos (W := W) h
  have hm : (runsTo W l (k + 1)).getD ((runsTo W l (k + 1)).length - 1) [] ∈ runsTo W l (k + 1) := by
    rw [List.getD_eq_getElem?_getD, List.getElem?_eq_getElem (by omega)]
    exact List.getElem_mem _
  obtain ⟨a, b, c, e, h1, h2, h3⟩ := runsTo_fit W l (k + 1) _ hm
  exact ⟨(runsTo W l (k + 1)).length - 1, a, b, c, by omega, e, h3⟩
theorem incL_at {R : List (List Int)} {n : Nat} {a b c : Int} (h : R.length = n + 1) (h2 : R.getD n [] = [a, b, c]) : incL R = R.set n ((R.getD n []).set 2 (c + 1)) := by
  unfold incL
  rw [h, Nat.add_sub_cancel, h2]
  rfl
end Go.Proofs.Ytkpgelhmeokemaa

/- A picture of runs: the program and the reference. -/
namespace Go.Proofs.Ytkpgelhmeokemaa
open Go Go.RowKit
theorem all_false_at {W H : Int} {m : List (List Int)} {k : Nat} (hk : k < m.length) (h : runGood W H (m.getD k []) = false) : m.all (runGood W H) = false := by
  rw [Bool.eq_false_iff]
  intro h2
  rw [List.all_eq_true] at h2
  have := h2 (m.getD k []) (by rw [List.getD_eq_getElem?_getD, List.getElem?_eq_getElem hk]; exact List.getElem_mem hk)
  rw [h] at this
  cases this
theorem all_true_at {W H : Int} {m : List (List Int)} (h : ∀ k, k < m.length → runGood W H (m.getD k []) = true) : m.all (runGood W H) = true := by
  rw [List.all_eq_true]
  intro r hr
  obtain ⟨i, hi, e⟩ := List.getElem_of_mem hr
  have := h i hi
  rw [List.getD_eq_getElem?_getD, List.getElem?_eq_getElem hi] at this
  rw [← e]
  exact this
theorem porOk_size {i0 i1 : Int} {m : List (List Int)} (h : sizeB i0 i1 = false) : porOk i0 i1 m = false := by
  unfold porOk
  unfold sizeB at h
  rw [h, Bool.false_and]
theorem porOk_bad {W H : Nat} {m : List (List Int)} {k : Nat} (hk : k < m.length) (h : runGood W H (m.getD k []) = false) : porOk W H m = false := by
  unfold porOk runsOkB
  simp only [Int.toNat_natCast]
  rw [all_false_at hk h, Bool.false_and, Bool.and_false]
theorem porOk_all {W H : Nat} {m : List (List Int)} (hs : sizeB W H = true) (h : ∀ k, k < m.length → runGood W H (m.getD k []) = true) : porOk W H m = decide (runsTo W (paintTo W H m m.length) (H * W) = m) := by
  unfold porOk runsOkB
  unfold sizeB at hs
  simp only [Int.toNat_natCast]
  rw [all_true_at h, hs, Bool.true_and, Bool.true_and]
theorem porRows_no {i0 i1 : Int} {m : List (List Int)} (h : porOk i0 i1 m = false) : porRows i0 i1 m = [] := by unfold porRows; rw [h]; rfl
theorem porRows_yes {W H : Nat} {m : List (List Int)} (h : porOk W H m = true) : porRows W H m = picRows W H (paintTo W H m m.length) := by unfold porRows; rw [h]; rfl
theorem porRows_bnd (i0 i1 : Int) (m : List (List Int)) : (porRows i0 i1 m).length ≤ 1048576 := by
  unfold porRows
  split
  · rename_i h
    unfold porOk at h
    rw [Bool.and_eq_true, Bool.and_eq_true, inB_true, inB_true] at h
    rw [picRows_len]
    omega
  · simp
theorem runsTo_rowlen (W : Nat) (l : List Bool) (k r : Nat) : ((runsTo W l k).getD r []).length ≤ maxLen := by
  by_cases h : r < (runsTo W l k).length
  · have hm : (runsTo W l k).getD r [] ∈ runsTo W l k := by
      rw [List.getD_eq_getElem?_getD, List.getElem?_eq_getElem h]
      exact List.getElem_mem _
    obtain ⟨a, b, c, e, -⟩ := runsTo_fit W l k _ hm
    rw [e]
    unfold maxLen
    simp
  · rw [List.getD_eq_getElem?_getD, List.getElem?_eq_none (by omega)]
    simp
theorem runAt_nat {W a b c : Nat} : runAt W [(a : Int), (b : Int), (c : Int)] = a * W + b := by
  unfold runAt
  simp only [List.getD_cons_zero, List.getD_cons_succ]
  rw [← Int.natCast_mul, ← Int.natCast_add, Int.toNat_natCast]
theorem paintTo_next {W H : Nat} {m : List (List Int)} {k a b c : Nat} (h : m.getD k [] = [(a : Int), (b : Int), (c : Int)]) : paintTo W H m (k + 1) = paintRun (paintTo W H m k) (a * W + b) c := by
  show paintRun (paintTo W H m k) (runAt W (m.getD k [])) ((m.getD k []).getD 2 0).toNat = _
  rw [h, runAt_nat]
  rfl
/-- How a run is bad. -/
theorem runGood_cases {W H : Nat} (r : List Int) (h : runGood W H r = false) :
    r.length ≠ 3 ∨ ∃ z0 z1 z2 : Int, r = [z0, z1, z2] ∧ (inB z0 0 ((H : Int) - 1) = false ∨ inB z0 0 ((H : Int) - 1) = true ∧ inB z1 0 ((W : Int) - 1) = false ∨ inB z0 0 ((H : Int) - 1) = true ∧ inB z1 0 ((W : Int) - 1) = true ∧ inB z2 1 ((W : Int) - z1) = false) ∧
      (inB z2 1 16 = false ∨ inB z2 1 16 = true ∧ hasB W H z1 z0 = false ∨ inB z2 1 16 = true ∧ hasB W H z1 z0 = true ∧ hasB W H (z1 + z2 - 1) z0 = false) := by
  by_cases hl : r.length = 3
  · right
    match r, hl with
    | [z0, z1, z2], _ =>
      refine ⟨z0, z1, z2, rfl, ?_, ?_⟩
      · cases h1 : inB z0 0 ((H : Int) - 1)
        · exact .inl rfl
        · cases h2 : inB z1 0 ((W : Int) - 1)
          · exact .inr (.inl ⟨rfl, rfl⟩)
          · refine .inr (.inr ⟨rfl, rfl, ?_⟩)
            unfold runGood at h
            simp only [List.getD_cons_zero, List.getD_cons_succ, List.length_cons, List.length_nil] at h
            rw [h1, h2] at h
            simpa using h
      · cases h1 : inB z2 1 16
        · exact .inl rfl
        · cases h2 : hasB W H z1 z0
          · exact .inr (.inl ⟨rfl, rfl⟩)
          · refine .inr (.inr ⟨rfl, rfl, ?_⟩)
            rw [Bool.eq_false_iff]
            intro h3
            have h2 := hasB_true.1 h2
            have h3 := hasB_true.1 h3
            have h1 := inB_true.1 h1
            unfold runGood at h
            simp only [List.getD_cons_zero, List.getD_cons_succ, List.length_cons, List.length_nil] at h
            rw [inB_true.2 ⟨h2.2.2.1, by omega⟩, inB_true.2 ⟨h2.1, by omega⟩, inB_true.2 ⟨h1.1, by omega⟩] at h
            simp at h
  · exact .inl hl
theorem PicRet2.no {w w' : World} (hx : w.Ext w') : PicRet2 w [] false (.returned (.tuple #[.agg #[.slice none 0 0], .bool false])) w' := ⟨none, 0, rfl, hx, OwnOf.nil _ _⟩
/-- Nothing is stored as a result. -/
theorem One.noPic {w W1 : World} {p : Nat} {T : TypeId} {v0 : Value} (hX : w.Ext W1) (hp : w.heap.size ≤ p) (hone : One W1 p T v0) :
    W1.cell? ⟨p, 0, none⟩ = some v0 ∧ W1.frozen? ⟨p, 0, none⟩ = false ∧ (W1.setCell ⟨p, 0, none⟩ (.slice none 0 0)).cell? ⟨p, 0, none⟩ = some (.slice none 0 0) ∧ Hid (w.Ext (W1.setCell ⟨p, 0, none⟩ (.slice none 0 0))) := by
  obtain ⟨r1, r2, r3, HR⟩ := Res.store (f := Value.string) (d := ByteArray.empty) (a := none) (xs := []) (lo := p + 1) (.slice none 0 0) hX hp hone (by omega) (OwnOf.nil _ _)
  exact ⟨r1, r2, r3, HR.out.1⟩
end Go.Proofs.Ytkpgelhmeokemaa

/- A picture comes back from its runs; how many edges it has. -/
namespace Go.Proofs.Ytkpgelhmeokemaa
open Go Go.RowKit
def paintL (W : Int) (l : List Bool) (R : List (List Int)) : List Bool := R.foldl (fun l r => paintRun l (runAt W r) (r.getD 2 0).toNat) l
theorem take_getD {m : List (List Int)} {k : Nat} (h : k < m.length) : m.take (k + 1) = m.take k ++ [m.getD k []] := by
  rw [List.take_succ_eq_append_getElem h, List.getD_eq_getElem?_getD, List.getElem?_eq_getElem h]
  rfl
theorem paintTo_eq (W H : Nat) (m : List (List Int)) : ∀ k, k ≤ m.length → paintTo W H m k = paintL W (List.replicate (W * H) false) (m.take k)
  | 0, _ => by simp [paintTo, paintL]
  | k + 1, h => by
    show paintRun (paintTo W H m k) _ _ = _
    rw [paintTo_eq W H m k (by omega), take_getD h]
    unfold paintL
    rw [List.foldl_append]
    rfl
theorem copied_no {L : List Bool} {k : Nat} (hk : k < L.length) (h : L.getD k false = false) : copied false L (k + 1) = copied false L k := by
  rw [← copied_set false L k hk, h]
  apply List.ext_getElem (by simp)
  intro i h1 h2
  rw [List.getElem_set]
  split
  · rename_i e
    subst e
    have h3 : (copied false L k)[k]? = some false := by
      unfold copied
      rw [List.getElem?_append_right (by rw [List.length_take]; omega), List.length_take, List.getElem?_replicate, if_pos (by omega)]
    rw [List.getElem?_eq_getElem h2] at h3
    simpa using h3.symm
  · rfl
def sumR (R : List (List Int)) : Int := (R.map fun r => r.getD 2 0).sum
theorem sumR_snoc (R : List (List Int)) (a b c : Int) : sumR (R ++ [[a, b, c]]) = sumR R + c := by
  unfold sumR
  rw [List.map_append, List.sum_append]
  simp
structure RunInv (W H : Nat) (L : List Bool) (k : Nat) : Prop where
  good : ∀ r, r ∈ runsTo W L k → runGood W H r = true
  paint : paintL W (List.replicate (W * H) false) (runsTo W L k) = copied false L k
  last : 0 < k → L.getD (k - 1) false = true → ∃ (R' : List (List Int)) (y x n : Nat), runsTo W L k = R' ++ [[(y : Int), (x : Int), (n : Int)]] ∧ y * W + x + n = k ∧ x + n ≤ W ∧ 1 ≤ n ∧ y < H
  sum : sumR (runsTo W L k) = (spotsTo W L k).length
theorem runGood_nat {W H y x n : Nat} (h1 : x + n ≤ W) (h2 : 1 ≤ n) (h3 : y < H) : runGood W H [(y : Int), (x : Int), (n : Int)] = true := by
  unfold runGood
  simp only [List.getD_cons_zero, List.getD_cons_succ, List.length_cons, List.length_nil]
  rw [inB_true.2 (by omega), inB_true.2 (by omega), inB_true.2 (by omega)]
  rfl
theorem runInv {W H : Nat} {L : List Bool} (hl : L.length = W * H) (hW : 1 ≤ W) : ∀ k, k ≤ W * H → RunInv W H L k
  | 0, _ => ⟨fun r h => by simp [runsTo] at h, by
      show List.replicate (W * H) false = _
      rw [copied_zero, hl], fun h => by omega, by simp [runsTo, sumR, spotsTo]⟩
  | k + 1, hk => by
    obtain ⟨g, p, la, s⟩ := runInv hl hW k (by omega)
    have hkl : k < L.length := by omega
    have hc := spotsTo_count (W := W) (l := L) (k := k)
    have hsnoc : ∀ (R : List (List Int)) (y x n : Nat), paintL W (List.replicate (W * H) false) (R ++ [[(y : Int), (x : Int), (n : Int)]]) = paintRun (paintL W (List.replicate (W * H) false) R) (y * W + x) n := fun R y x n => by
      unfold paintL
      rw [List.foldl_append]
      show paintRun _ (runAt _ _) _ = _
      rw [runAt_nat]
      rfl
    cases hb : L.getD k false
    · have e := runsTo_no (W := W) hb
      rw [hb] at hc
      refine ⟨by rw [e]; exact g, by rw [e, copied_no hkl hb]; exact p, fun _ h => ?_, by rw [e, s, hc]; simp⟩
      rw [Nat.add_sub_cancel, hb] at h
      cases h
    · rw [hb] at hc
      have hm := Nat.mod_lt k (show W > 0 by omega)
      have hd := Nat.div_add_mod k W
      have hcs := copied_set false L k hkl
      rw [hb] at hcs
      have hyH : k / W < H := Nat.div_lt_of_lt_mul (by omega)
      by_cases hq : k % W ≠ 0 ∧ L.getD (k - 1) false = true
      · have hk0 : 0 < k := by
          rcases Nat.eq_zero_or_pos k with h | h
          · rw [h] at hq; simp at hq
          · exact h
        obtain ⟨R', y, x, n, e, e1, e2, e3, e4⟩ := la hk0 hq.2
        have hxn : x + n < W := by
          rcases Nat.lt_or_ge (x + n) W with h | h
          · exact h
          · exfalso
            apply hq.1
            rw [← e1, Nat.add_assoc, show x + n = W by omega, ← Nat.succ_mul]
            exact Nat.mul_mod_left _ _
        have er : runsTo W L (k + 1) = R' ++ [[(y : Int), (x : Int), ((n + 1 : Nat) : Int)]] := by
          show (if L.getD k false = true then _ else _) = _
          rw [if_pos hb, if_pos hq, e, incL_append]
          rfl
        refine ⟨fun r h => ?_, ?_, fun _ _ => ⟨R', y, x, n + 1, er, by omega, by omega, by omega, e4⟩, ?_⟩
        · rw [er] at h
          rcases List.mem_append.1 h with h | h
          · exact g r (by rw [e]; exact List.mem_append_left _ h)
          · rw [List.mem_singleton.1 h]
            exact runGood_nat (by omega) (by omega) e4
        · rw [er, hsnoc]
          show (paintRun _ _ n).set _ _ = _
          rw [e, hsnoc] at p
          rw [p, show y * W + x + n = k by omega]
          exact hcs
        · rw [er, sumR_snoc]
          rw [e, sumR_snoc] at s
          rw [hc]
          simp at s ⊢
          omega
      · have er : runsTo W L (k + 1) = runsTo W L k ++ [[((k / W : Nat) : Int), ((k % W : Nat) : Int), ((1 : Nat) : Int)]] := by
          show (if L.getD k false = true then _ else _) = _
          rw [if_pos hb, if_neg hq]
          rfl
        have hkk : k / W * W + k % W = k := by rw [Nat.mul_comm]; exact hd
        refine ⟨fun r h => ?_, ?_, fun _ _ => ⟨_, k / W, k % W, 1, er, by omega, by omega, Nat.le_refl _, hyH⟩, ?_⟩
        · rw [er] at h
          rcases List.mem_append.1 h with h | h
          · exact g r h
          · rw [List.mem_singleton.1 h]
            exact runGood_nat (by omega) (by omega) hyH
        · rw [er, hsnoc, p, hkk]
          show (copied false L k).set (k + 0) true = _
          exact hcs
        · rw [er, sumR_snoc, s, hc]
          simp
/-- The runs of a picture give the picture. -/
theorem por_runs {W H : Nat} {L : List Bool} (hl : L.length = W * H) (hW1 : 1 ≤ W) (hW2 : W ≤ 16) (hH1 : 1 ≤ H) (hH2 : H ≤ 16) :
    porOk W H (runsTo W L (H * W)) = true ∧ porRows W H (runsTo W L (H * W)) = picRows W H L ∧ sumR (runsTo W L (H * W)) = (spotsTo W L (H * W)).length := by
  obtain ⟨g, p, -, s⟩ := runInv (H := H) hl hW1 (W * H) (Nat.le_refl _)
  rw [Nat.mul_comm W H] at g p s
  have hp : paintTo W H (runsTo W L (H * W)) (runsTo W L (H * W)).length = L := by
    rw [paintTo_eq _ _ _ _ (Nat.le_refl _), List.take_length, Nat.mul_comm W H, p, Nat.mul_comm H W, ← hl, copied_all]
  have hok : porOk W H (runsTo W L (H * W)) = true := by
    rw [porOk_all (by unfold sizeB; rw [show inB (W : Int) 1 16 = true from inB_true.2 (by omega), show inB (H : Int) 1 16 = true from inB_true.2 (by omega)]; rfl) (fun k hk => g _ (by rw [List.getD_eq_getElem?_getD, List.getElem?_eq_getElem hk]; exact List.getElem_mem hk)), hp]
    simp
  exact ⟨hok, by rw [porRows_yes hok, hp], s⟩
def whiteN (r : Bool) : Nat := if r then 0 else 1
def diffN (a b : Bool) : Nat := if a = b then 0 else 1
theorem row_edges (r : Int → Bool) (h0 : r (-1) = false) : ∀ n : Nat, sumN (fun x : Nat => if r x then whiteN (r (x - 1)) + whiteN (r (x + 1)) else 0) n + (if r n then whiteN (r (n - 1)) else 0) = sumN (fun x : Nat => diffN (r x) (r (x - 1))) (n + 1)
  | 0 => by
    show 0 + _ = 0 + diffN (r ((0 : Nat) : Int)) (r (((0 : Nat) : Int) - 1))
    rw [show ((0 : Nat) : Int) - 1 = -1 by omega, h0]
    cases r ((0 : Nat) : Int) <;> rfl
  | n + 1 => by
    have ih := row_edges r h0 n
    show (sumN _ n + _) + _ = sumN (fun x : Nat => diffN (r x) (r (x - 1))) (n + 1) + diffN (r ((n + 1 : Nat) : Int)) (r (((n + 1 : Nat) : Int) - 1))
    rw [← ih]
    dsimp only
    have e1 : ((n + 1 : Nat) : Int) - 1 = (n : Int) := by omega
    have e2 : ((n : Int) + 1) = ((n + 1 : Nat) : Int) := by omega
    rw [e1, e2]
    generalize sumN _ n = S
    generalize r (n : Int) = a
    generalize r ((n + 1 : Nat) : Int) = b
    generalize r ((n : Int) - 1) = c
    cases a <;> cases b <;> cases c <;> simp [whiteN, diffN]
theorem row_edges_all (r : Int → Bool) (h0 : r (-1) = false) (W : Nat) (hW : r W = false) : sumN (fun x : Nat => if r x then whiteN (r (x - 1)) + whiteN (r (x + 1)) else 0) W = sumN (fun x : Nat => diffN (r x) (r (x - 1))) (W + 1) := by
  have h := row_edges r h0 W
  rw [hW] at h
  simpa using h
/-- The edges that a picture has, from the black pixels and from all places. -/
def edgI (W H : Nat) (L : List Bool) : Nat := ((spotsTo W L (H * W)).map fun s => ((nbA false s).map fun q => whiteN (pxl W H L q.1 q.2)).sum).sum
def ownN (W H : Nat) (L : List Bool) : Nat := sumN (fun y => sumN (fun x => diffN (pxl W H L x y) (pxl W H L (x - 1) y) + diffN (pxl W H L x y) (pxl W H L x (y - 1))) (W + 1)) (H + 1)
theorem edges_same (W H : Nat) (L : List Bool) : edgI W H L = ownN W H L := by
  unfold edgI ownN
  rw [spots_sum, sumN_rows]
  have e1 : sumN (fun y => sumN (fun x => if L.getD (y * W + x) false then ((nbA false ((((y * W + x) % W : Nat) : Int), (((y * W + x) / W : Nat) : Int))).map fun q => whiteN (pxl W H L q.1 q.2)).sum else 0) W) H =
      sumN (fun y => sumN (fun x => (if pxl W H L x y then whiteN (pxl W H L (x - 1) y) + whiteN (pxl W H L (x + 1) y) else 0) + (if pxl W H L x y then whiteN (pxl W H L x (y - 1)) + whiteN (pxl W H L x (y + 1)) else 0)) W) H := by
    refine sumN_congr H fun y hy => sumN_congr W fun x hx => ?_
    have hm : (y * W + x) % W = x := by rw [Nat.add_comm, Nat.add_mul_mod_self_right, Nat.mod_eq_of_lt hx]
    have hd : (y * W + x) / W = y := by rw [Nat.add_comm, Nat.add_mul_div_right _ _ (by omega), Nat.div_eq_of_lt hx, Nat.zero_add]
    rw [hm, hd, pxl_at W H L x y hx hy]
    have hnb : nbA false ((x : Int), (y : Int)) = [((x : Int) + 0, (y : Int) + -1), ((x : Int) + -1, (y : Int) + 0), ((x : Int) + 1, (y : Int) + 0), ((x : Int) + 0, (y : Int) + 1)] := rfl
    rw [hnb]
    simp only [List.map_cons, List.map_nil, List.sum_cons, List.sum_nil, Int.add_zero]
    rw [show (x : Int) + -1 = (x : Int) - 1 from rfl, show (y : Int) + -1 = (y : Int) - 1 from rfl]
    split <;> omega
  rw [e1]
  have e2 : ∀ y, sumN (fun x : Nat => (if pxl W H L x y then whiteN (pxl W H L (x - 1) y) + whiteN (pxl W H L (x + 1) y) else 0) + (if pxl W H L x y then whiteN (pxl W H L x (y - 1)) + whiteN (pxl W H L x (y + 1)) else 0)) W =
      sumN (fun x : Nat => if pxl W H L x y then whiteN (pxl W H L (x - 1) y) + whiteN (pxl W H L (x + 1) y) else 0) W + sumN (fun x : Nat => if pxl W H L x y then whiteN (pxl W H L x (y - 1)) + whiteN (pxl W H L x (y + 1)) else 0) W := fun y => sumN_add _ _ W
  have e3 : ∀ y : Nat, sumN (fun x : Nat => diffN (pxl W H L x y) (pxl W H L (x - 1) y) + diffN (pxl W H L x y) (pxl W H L x (y - 1))) (W + 1) = sumN (fun x : Nat => diffN (pxl W H L x y) (pxl W H L (x - 1) y)) (W + 1) + sumN (fun x : Nat => diffN (pxl W H L x y) (pxl W H L x (y - 1))) (W + 1) := fun y => sumN_add _ _ _
  rw [sumN_congr H (fun y _ => e2 y), sumN_add, sumN_congr (H + 1) (fun y _ => e3 y), sumN_add]
  congr 1
  · show _ = sumN _ H + sumN (fun x : Nat => diffN (pxl W H L x H) (pxl W H L (x - 1) H)) (W + 1)
    rw [sumN_congr (f := fun x : Nat => diffN (pxl W H L x H) (pxl W H L (x - 1) H)) (g := fun _ => 0) (W + 1) (fun i _ => by rw [pxl_off (by omega), pxl_off (by omega)]; rfl), sumN_zero, Nat.add_zero]
    exact sumN_congr H fun y _ => row_edges_all (fun x => pxl W H L x y) (pxl_off (by omega)) W (pxl_off (by omega))
  · rw [sumN_swap (fun x y : Nat => if pxl W H L x y then whiteN (pxl W H L x (y - 1)) + whiteN (pxl W H L x (y + 1)) else 0) W H, sumN_swap (fun x y : Nat => diffN (pxl W H L x y) (pxl W H L x (y - 1))) (W + 1) (H + 1)]
    show _ = sumN _ W + sumN (fun y : Nat => diffN (pxl W H L W y) (pxl W H L W (y - 1))) (H + 1)
    rw [sumN_congr (f := fun y : Nat => diffN (pxl W H L W y) (pxl W H L W (y - 1))) (g := fun _ => 0) (H + 1) (fun i _ => by rw [pxl_off (by omega), pxl_off (by omega)]; rfl), sumN_zero, Nat.add_zero]
    exact sumN_congr W fun x _ => row_edges_all (fun y => pxl W H L x y) (pxl_off (by omega)) H (pxl_off (by omega))
end Go.Proofs.Ytkpgelhmeokemaa

/- FnRuns: the program's edges, numbers of black pixels, and the law's helpers. -/
namespace Go.Proofs.Ytkpgelhmeokemaa
open Go Go.RowKit
def RunsRet (w : World) (m : List (List Int)) (e : Ending) (w' : World) : Prop := ∃ a c A C, e = .returned (.tuple #[.slice a m.length c, .bool true]) ∧ w.Ext w' ∧ MatAt w' a A C m
set_option maxHeartbeats 400000 in
theorem cnt_any (b ab W H : Nat) (l : List Bool) (w : World) (hW : W ≤ 64) (hH : H ≤ 64) (hI : Img w b ab W H l) :
    Calls Try.prog 43 #[.pointer (some ⟨b, 0, none⟩)] w fun e w' => e = .returned (.int .i64 (spotsTo W l (H * W)).length) ∧ w.Ext w' := by
  have HS := Lib.hid (spots_any b ab W H l w hW hH hI)
  have hn : (spotsTo W l (H * W)).length ≤ 4096 := Nat.le_trans (spotsTo_len _ _ _) (Nat.mul_le_mul hH hW)
  clear hI
  generalize spotsTo W l (H * W) = ps at *
  go_enter Try.func43, Try.ntmps43
  go_wp2_with fail
  refine HS.out.mono ?_
  rintro e w1 ⟨a, c, rfl, hx, ho⟩
  clear ho
  go_wp2
  go_ret
  exact ⟨rfl, hx⟩
theorem oneIf1_any (t : Bool) (w : World) : Calls Try.prog 42 #[.bool (!t)] w fun e w' => e = .returned (.int .i64 (whiteN t)) ∧ w.Ext w' := by
  cases t
  all_goals
    go_enter Try.func42, Try.ntmps42
    go_wp2
    go_ret
    exact ⟨rfl, .refl _⟩
theorem nb4 (x y : Int) : nbA false (x, y) = [(x + 0, y + -1), (x + -1, y + 0), (x + 1, y + 0), (x + 0, y + 1)] := rfl
def edgeS (W H : Nat) (L : List Bool) (s : Int × Int) : Nat := ((nbA false s).map fun q => whiteN (pxl W H L q.1 q.2)).sum
theorem sum_take {α : Type} (f : α → Nat) (d : α) {l : List α} {k : Nat} (h : k < l.length) : ((l.take (k + 1)).map f).sum = ((l.take k).map f).sum + f (l.getD k d) := by
  rw [List.take_succ_eq_append_getElem h, List.map_append, List.sum_append, List.getD_eq_getElem?_getD, List.getElem?_eq_getElem h]
  simp
theorem sum_le {α : Type} (f : α → Nat) (c : Nat) : ∀ l : List α, (∀ x, x ∈ l → f x ≤ c) → (l.map f).sum ≤ l.length * c
  | [], _ => by simp
  | x :: l, h => by
    have h1 := sum_le f c l (fun y hy => h y (List.mem_cons_of_mem _ hy))
    have h2 := h x (List.mem_cons_self ..)
    simp only [List.map_cons, List.sum_cons, List.length_cons]
    rw [Nat.succ_mul]
    omega
theorem whiteN_le (b : Bool) : whiteN b ≤ 1 := by cases b <;> decide
theorem edgeS_le (W H : Nat) (L : List Bool) (s : Int × Int) : edgeS W H L s ≤ 4 := by
  unfold edgeS
  have := sum_le (fun q : Int × Int => whiteN (pxl W H L q.1 q.2)) 1 (nbA false s) (fun q _ => whiteN_le _)
  rw [nbA_len] at this
  exact this
end Go.Proofs.Ytkpgelhmeokemaa
