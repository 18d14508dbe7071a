/- Lists of borders: memory, and what the laws do with them. -/
import Derived.Test.YtahhnjoeaodcjaaLMat
import Derived.Test.YtahhnjoeaodcjaaKit
namespace Go.Proofs.Ytahhnjoeaodcjaa
open Go Go.RowKit
abbrev Bord := Int × Int × ByteArray
def bd0 : Bord := (0, 0, ⟨#[]⟩)
def RowBd (w : World) (a : Option Addr) (bs : List Bord) : Prop := ∀ i, i < bs.length → ∃ b o, a = some ⟨b, o, none⟩ ∧ w.cell? ⟨b, o + i * 3, none⟩ = some (.int .i64 (bs.getD i bd0).1) ∧ w.cell? ⟨b, o + i * 3 + 1, none⟩ = some (.int .i64 (bs.getD i bd0).2.1) ∧ w.cell? ⟨b, o + i * 3 + 2, none⟩ = some (.string (bs.getD i bd0).2.2)
def OwnBd (lo hi : Nat) (w : World) (a : Option Addr) (bs : List Bord) : Prop := ∀ i, i < bs.length → ∃ b o, a = some ⟨b, o, none⟩ ∧ lo ≤ b ∧ b < hi ∧ w.cell? ⟨b, o + i * 3, none⟩ = some (.int .i64 (bs.getD i bd0).1) ∧ w.cell? ⟨b, o + i * 3 + 1, none⟩ = some (.int .i64 (bs.getD i bd0).2.1) ∧ w.cell? ⟨b, o + i * 3 + 2, none⟩ = some (.string (bs.getD i bd0).2.2) ∧
  w.frozen? ⟨b, o + i * 3, none⟩ = false ∧ w.frozen? ⟨b, o + i * 3 + 1, none⟩ = false ∧ w.frozen? ⟨b, o + i * 3 + 2, none⟩ = false
section
variable {lo hi lo' hi' : Nat} {w w' : World} {a : Option Addr} {bs : List Bord}
theorem RowBd.ext (h : RowBd w a bs) (hx : w.Ext w') : RowBd w' a bs := fun i hi => let ⟨b, o, h1, h2, h3, h4⟩ := h i hi; ⟨b, o, h1, hx.cell h2, hx.cell h3, hx.cell h4⟩
theorem OwnBd.row (h : OwnBd lo hi w a bs) : RowBd w a bs := fun i hi => let ⟨b, o, h1, _, _, h2, h3, h4, _⟩ := h i hi; ⟨b, o, h1, h2, h3, h4⟩
theorem OwnBd.mono (h : OwnBd lo hi w a bs) (hl : lo' ≤ lo) (hh : hi ≤ hi') : OwnBd lo' hi' w a bs := fun i hi => let ⟨b, o, h1, h2, h3, r⟩ := h i hi; ⟨b, o, h1, Nat.le_trans hl h2, Nat.lt_of_lt_of_le h3 hh, r⟩
theorem OwnBd.wrote {S : Nat → Prop} (h : OwnBd lo hi w a bs) (hx : Wrote S w w') (hs : ∀ k, lo ≤ k → k < hi → ¬ S k) : OwnBd lo hi w' a bs := fun i hi => by
  obtain ⟨b, o, h1, h2, h3, c0, c1, c2, f0, f1, f2⟩ := h i hi
  have hn := hs b h2 h3
  exact ⟨b, o, h1, h2, h3, hx.cell c0 hn, hx.cell c1 hn, hx.cell c2 hn, by rw [hx.frozen c0 hn]; exact f0, by rw [hx.frozen c1 hn]; exact f1, by rw [hx.frozen c2 hn]; exact f2⟩
theorem OwnBd.ext (h : OwnBd lo hi w a bs) (hx : w.Ext w') : OwnBd lo hi w' a bs := h.wrote (hx.wrote fun _ => False) fun _ _ _ => id
theorem OwnBd.nil (w : World) (a : Option Addr) : OwnBd lo hi w a [] := fun i hi => by cases hi
end
def flatB : List Bord → List Value
  | [] => []
  | b :: bs => .int .i64 b.1 :: .int .i64 b.2.1 :: .string b.2.2 :: flatB bs
theorem flatB_append : ∀ a b, flatB (a ++ b) = flatB a ++ flatB b
  | [], b => rfl
  | d :: a, b => by simp [flatB, flatB_append a b]
theorem flatB_len : ∀ bs, (flatB bs).length = 3 * bs.length
  | [] => rfl
  | d :: ds => by simp [flatB, flatB_len ds]; omega
theorem flatB_at : ∀ (bs : List Bord) (i : Nat), i < bs.length → (flatB bs)[i * 3]? = some (.int .i64 (bs.getD i bd0).1) ∧ (flatB bs)[i * 3 + 1]? = some (.int .i64 (bs.getD i bd0).2.1) ∧ (flatB bs)[i * 3 + 2]? = some (.string (bs.getD i bd0).2.2)
  | [], i, h => by cases h
  | d :: ds, 0, _ => by simp [flatB]
  | d :: ds, i + 1, hi => by
    have h := flatB_at ds i (by simpa using hi)
    have e1 : (i + 1) * 3 = i * 3 + 1 + 1 + 1 := by omega
    have e2 : (i + 1) * 3 + 1 = i * 3 + 1 + 1 + 1 + 1 := by omega
    have e3 : (i + 1) * 3 + 2 = i * 3 + 2 + 1 + 1 + 1 := by omega
    rw [e3, e2, e1]
    simpa [flatB] using h
/-- A slice value owns these borders. -/
def GrowBd (lo : Nat) (w : World) (v : Value) (bs : List Bord) : Prop := w.ownsRow lo 69 3 v bs.length (flatB bs)
theorem GrowBd.empty {lo : Nat} (w : World) (h : lo ≤ w.heap.size) : GrowBd lo (w.alloc (.cells #[] 69)) (.slice (some ⟨w.heap.size, 0, none⟩) 0 0) [] := World.ownsRow_made w #[] 0 h (Nat.zero_le _) rfl
theorem GrowBd.push {lo : Nat} {w : World} {v' : Value} {bs : List Bord} {d : Bord} (h : w.ownsRow lo 69 3 v' (bs.length + 1) (flatB bs ++ [.int .i64 d.1, .int .i64 d.2.1, .string d.2.2])) : GrowBd lo w v' (bs ++ [d]) := by
  unfold GrowBd
  rw [flatB_append, List.length_append]
  exact h
theorem GrowBd.own {lo : Nat} {w : World} {a : Option Addr} {m cap : Nat} {bs : List Bord} (h : GrowBd lo w (.slice a m cap) bs) : OwnBd lo w.heap.size w a bs := by
  intro i hi
  obtain ⟨h1, h2, h3⟩ := flatB_at bs i hi
  obtain ⟨b, o, e, l1, l2, c0, f0⟩ := World.ownsRow.own h (i := i * 3) (by omega)
  obtain ⟨b', o', e', _, _, c1, f1⟩ := World.ownsRow.own h (i := i * 3 + 1) (by omega)
  rw [e] at e'
  cases e'
  obtain ⟨b', o', e', _, _, c2, f2⟩ := World.ownsRow.own h (i := i * 3 + 2) (by omega)
  rw [e] at e'
  cases e'
  rw [h1] at c0
  rw [h2] at c1
  rw [h3] at c2
  exact ⟨b, o, e, l1, l2, c0, by rw [Nat.add_assoc]; exact c1, by rw [Nat.add_assoc]; exact c2, f0, by rw [Nat.add_assoc]; exact f1, by rw [Nat.add_assoc]; exact f2⟩
/-- The marks of n borders. -/
def marksB (k0 n : Nat) : List Bord := (List.range n).map fun i => (((k0 + i * 3 : Nat) : Int), ((k0 + i * 3 : Nat) : Int) + 1, markT (k0 + i * 3 + 2))
theorem marksB_len (k0 n : Nat) : (marksB k0 n).length = n := by simp [marksB]
theorem marksB_at (k0 : Nat) {n i : Nat} (h : i < n) : (marksB k0 n).getD i bd0 = (((k0 + i * 3 : Nat) : Int), ((k0 + i * 3 : Nat) : Int) + 1, markT (k0 + i * 3 + 2)) := by
  unfold marksB
  rw [List.getD_eq_getElem?_getD, List.getElem?_map, List.getElem?_range h]
  rfl
def HalfBd (k0 lo hi : Nat) (w : World) (a : Option Addr) (n k : Nat) : Prop := ∀ i, i < n → ∃ b o x y s, a = some ⟨b, o, none⟩ ∧ lo ≤ b ∧ b < hi ∧ w.cell? ⟨b, o + i * 3, none⟩ = some (.int .i64 x) ∧ w.cell? ⟨b, o + i * 3 + 1, none⟩ = some (.int .i64 y) ∧ w.cell? ⟨b, o + i * 3 + 2, none⟩ = some (.string s) ∧
  (i < k → x = ((k0 + i * 3 : Nat) : Int) ∧ y = ((k0 + i * 3 : Nat) : Int) + 1 ∧ s = markT (k0 + i * 3 + 2)) ∧ w.frozen? ⟨b, o + i * 3, none⟩ = false ∧ w.frozen? ⟨b, o + i * 3 + 1, none⟩ = false ∧ w.frozen? ⟨b, o + i * 3 + 2, none⟩ = false
theorem HalfBd.start {k0 lo hi : Nat} {w : World} {a : Option Addr} {bs : List Bord} (h : OwnBd lo hi w a bs) : HalfBd k0 lo hi w a bs.length 0 := fun i hi => by
  obtain ⟨b, o, h1, h2, h3, c0, c1, c2, f⟩ := h i hi
  exact ⟨b, o, _, _, _, h1, h2, h3, c0, c1, c2, fun h => by omega, f⟩
theorem HalfBd.done {k0 lo hi : Nat} {w : World} {a : Option Addr} {n : Nat} (h : HalfBd k0 lo hi w a n n) : OwnBd lo hi w a (marksB k0 n) := fun i hi => by
  rw [marksB_len] at hi
  obtain ⟨b, o, x, y, s, h1, h2, h3, c0, c1, c2, hk, f⟩ := h i hi
  obtain ⟨rfl, rfl, rfl⟩ := hk hi
  rw [marksB_at _ hi]
  exact ⟨b, o, h1, h2, h3, c0, c1, c2, f⟩
theorem HalfBd.next {k0 lo hi : Nat} {w : World} {b o n k : Nat} (h : HalfBd k0 lo hi w (some ⟨b, o, none⟩) n k) (hk : k < n) (x : World) :
    HalfBd k0 lo hi ((((w.setCell ⟨b, o + k * 3, none⟩ (.int .i64 ((k0 + k * 3 : Nat) : Int))).setCell ⟨b, o + k * 3 + 1, none⟩ (.int .i64 (((k0 + k * 3 : Nat) : Int) + 1))).over x).setCell ⟨b, o + k * 3 + 2, none⟩ (.string (markT (k0 + k * 3 + 2)))) (some ⟨b, o, none⟩) n (k + 1) := by
  intro i hi'
  obtain ⟨b', o', u, v, s, h1, h2, h3, c0, c1, c2, hm, f0, f1, f2⟩ := h i hi'
  cases h1
  have hx : ((w.setCell ⟨b, o + k * 3, none⟩ (.int .i64 ((k0 + k * 3 : Nat) : Int))).setCell ⟨b, o + k * 3 + 1, none⟩ (.int .i64 (((k0 + k * 3 : Nat) : Int) + 1))).Ext (((w.setCell ⟨b, o + k * 3, none⟩ (.int .i64 ((k0 + k * 3 : Nat) : Int))).setCell ⟨b, o + k * 3 + 1, none⟩ (.int .i64 (((k0 + k * 3 : Nat) : Int) + 1))).over x) := ⟨x, rfl⟩
  by_cases e : i = k
  · subst e
    have d0 : ((w.setCell ⟨b, o + i * 3, none⟩ (.int .i64 ((k0 + i * 3 : Nat) : Int))).setCell ⟨b, o + i * 3 + 1, none⟩ (.int .i64 (((k0 + i * 3 : Nat) : Int) + 1))).cell? ⟨b, o + i * 3, none⟩ = some (.int .i64 ((k0 + i * 3 : Nat) : Int)) := by
      rw [cell_set_other (by omega)]; exact cell_set_same c0
    have d1 : ((w.setCell ⟨b, o + i * 3, none⟩ (.int .i64 ((k0 + i * 3 : Nat) : Int))).setCell ⟨b, o + i * 3 + 1, none⟩ (.int .i64 (((k0 + i * 3 : Nat) : Int) + 1))).cell? ⟨b, o + i * 3 + 1, none⟩ = some (.int .i64 (((k0 + i * 3 : Nat) : Int) + 1)) :=
      cell_set_same (by rw [cell_set_other (by omega)]; exact c1)
    have d2 : ((w.setCell ⟨b, o + i * 3, none⟩ (.int .i64 ((k0 + i * 3 : Nat) : Int))).setCell ⟨b, o + i * 3 + 1, none⟩ (.int .i64 (((k0 + i * 3 : Nat) : Int) + 1))).cell? ⟨b, o + i * 3 + 2, none⟩ = some (.string s) := by
      rw [cell_set_other (by omega), cell_set_other (by omega)]; exact c2
    refine ⟨b, o, _, _, _, rfl, h2, h3, ?_, ?_, cell_set_same (hx.cell d2), fun _ => ⟨rfl, rfl, rfl⟩, ?_, ?_, ?_⟩
    · rw [cell_set_other (by omega)]; exact hx.cell d0
    · rw [cell_set_other (by omega)]; exact hx.cell d1
    · rw [frozen_set, hx.frozen d0, frozen_set, frozen_set]; exact f0
    · rw [frozen_set, hx.frozen d1, frozen_set, frozen_set]; exact f1
    · rw [frozen_set, hx.frozen d2, frozen_set, frozen_set]; exact f2
  · have d0 : ((w.setCell ⟨b, o + k * 3, none⟩ (.int .i64 ((k0 + k * 3 : Nat) : Int))).setCell ⟨b, o + k * 3 + 1, none⟩ (.int .i64 (((k0 + k * 3 : Nat) : Int) + 1))).cell? ⟨b, o + i * 3, none⟩ = some (.int .i64 u) := by
      rw [cell_set_other (by omega), cell_set_other (by omega)]; exact c0
    have d1 : ((w.setCell ⟨b, o + k * 3, none⟩ (.int .i64 ((k0 + k * 3 : Nat) : Int))).setCell ⟨b, o + k * 3 + 1, none⟩ (.int .i64 (((k0 + k * 3 : Nat) : Int) + 1))).cell? ⟨b, o + i * 3 + 1, none⟩ = some (.int .i64 v) := by
      rw [cell_set_other (by omega), cell_set_other (by omega)]; exact c1
    have d2 : ((w.setCell ⟨b, o + k * 3, none⟩ (.int .i64 ((k0 + k * 3 : Nat) : Int))).setCell ⟨b, o + k * 3 + 1, none⟩ (.int .i64 (((k0 + k * 3 : Nat) : Int) + 1))).cell? ⟨b, o + i * 3 + 2, none⟩ = some (.string s) := by
      rw [cell_set_other (by omega), cell_set_other (by omega)]; exact c2
    refine ⟨b, o, u, v, s, rfl, h2, h3, ?_, ?_, ?_, fun h => hm (by omega), ?_, ?_, ?_⟩
    · rw [cell_set_other (by omega)]; exact hx.cell d0
    · rw [cell_set_other (by omega)]; exact hx.cell d1
    · rw [cell_set_other (by omega)]; exact hx.cell d2
    · rw [frozen_set, hx.frozen d0, frozen_set, frozen_set]; exact f0
    · rw [frozen_set, hx.frozen d1, frozen_set, frozen_set]; exact f1
    · rw [frozen_set, hx.frozen d2, frozen_set, frozen_set]; exact f2
set_option maxHeartbeats 800000 in
theorem eqBorder_any (x y : Int) (s : ByteArray) (w : World) :
    Calls Try.prog 45 #[.agg #[.int .i64 x, .int .i64 y, .string s], .agg #[.int .i64 x, .int .i64 y, .string s]] w fun e w' => e = .returned (.bool true) ∧ w.Ext w' := by
  obtain ⟨W0, hW0⟩ : ∃ W0, W0 = (w.alloc (.cells #[.int .i64 x, .int .i64 y, .string s] 69)).alloc (.cells #[.int .i64 x, .int .i64 y, .string s] 69) := ⟨_, rfl⟩
  have hx0 : w.Ext W0 := by rw [hW0]; repeat (first | exact World.Ext.refl _ | exact ⟨_, rfl⟩ | assumption | refine World.Ext.over ?_ _ | refine World.Ext.drewN ?_ _ | refine World.Ext.drew ?_ | refine World.Ext.alloc ?_ _ | refine World.Ext.setCell ?_ (by simp) _)
  have HQ : Hid (∀ wr, W0.Ext wr → wr.cell? ⟨w.heap.size, 0, none⟩ = some (.int .i64 x) ∧ wr.cell? ⟨w.heap.size, 1, none⟩ = some (.int .i64 y) ∧ wr.cell? ⟨w.heap.size, 2, none⟩ = some (.string s) ∧ wr.cell? ⟨w.heap.size + 1, 0, none⟩ = some (.int .i64 x) ∧ wr.cell? ⟨w.heap.size + 1, 1, none⟩ = some (.int .i64 y) ∧ wr.cell? ⟨w.heap.size + 1, 2, none⟩ = some (.string s)) := fun wr hx => by
    refine ⟨hx.cell ?_, hx.cell ?_, hx.cell ?_, hx.cell ?_, hx.cell ?_, hx.cell ?_⟩ <;> (rw [hW0]; simp [go_sem])
  have HX0 := Lib.hid hx0
  clear hx0
  go_enter Try.func45, Try.ntmps45
  go_upto_region 1 with fail
  rw [← hW0]
  clear hW0
  obtain ⟨c0, c1, c2, d0, d1, d2⟩ := HQ.out W0 (.refl _)
  have l0 := World.block_lt_of_cell? _ _ d0
  go_wp2_with fail
  refine (eqSpotP_any x y W0).mono ?_
  rintro e w1 ⟨rfl, hx1⟩
  clear c0 c1 c2 d0 d1 d2 l0
  obtain ⟨c0, c1, c2, d0, d1, d2⟩ := HQ.out w1 hx1
  have l0 := World.block_lt_of_cell? _ _ d0
  have HX := Lib.hid (HX0.out.trans hx1)
  clear hx1
  go_wp2
  go_ret
  exact ⟨rfl, HX.out⟩
set_option maxHeartbeats 800000 in
theorem eqBorderS_res (a b : Option Addr) (c c' : Nat) (s : List Bord) (w : World) (hn : s.length ≤ 262144) (ha : RowBd w a s) (hb : RowBd w b s) :
    Calls Try.prog 49 #[.slice a s.length c, .slice b s.length c'] w fun e w' => e = .returned (.bool true) ∧ w.Ext w' := by
  have HA := Lib.hid ha
  have HB := Lib.hid hb
  clear ha hb
  go_enter Try.func49, Try.ntmps49
  go_wp2
  go_loopw [5] (fun i wr => ∃ k : Nat, k ≤ s.length ∧ i = .int .i64 k ∧ Hid (w.Ext wr)) (fun i _ => s.length - (intOf i).toNat)
  case atStart => exact ⟨0, Nat.zero_le _, rfl, .refl _⟩
  case round =>
    obtain ⟨k, hk, rfl, HX⟩ := hrel
    by_cases hlt : k < s.length
    · obtain ⟨b1, o1, rfl, c1, c2, c3⟩ := (HA.out.ext HX.out) k hlt
      obtain ⟨b2, o2, rfl, d1, d2, d3⟩ := (HB.out.ext HX.out) k hlt
      generalize s.getD k bd0 = d at *
      obtain ⟨x, y, r⟩ := d
      dsimp only at c1 c2 c3 d1 d2 d3
      have hlt' : (k : Int) < (s.length : Int) := by omega
      have hk0 : (0 : Int) ≤ (k : Int) := by omega
      go_wp2_with fail
      refine wp_region_over_lit (by kernel_rfl) (by kernel_rfl) ?_; (repeat (go_big_quiet_step ((go_at_call 45; exact Calls.over_of (eqBorder_any x y r _))))); refine wpQuiet_nil ?_; rintro _ ⟨x1, rfl⟩
      go_wp2
      go_roundw
      case rel => exact ⟨k + 1, by omega, by go_num, HX.out.over _⟩
      case measure => simp [intOf]; omega
    · have : k = s.length := by omega
      subst this
      go_wp2
      go_ret
      exact ⟨rfl, HX.out⟩
set_option maxHeartbeats 800000 in
theorem markBorderS_res (a : Option Addr) (c : Nat) (s : List Bord) (k0 lo hi : Nat) (w : World) (hn : s.length ≤ 262144) (h1 : k0 ≤ 2097152) (ha : OwnBd lo hi w a s) :
    Calls Try.prog 51 #[.slice a s.length c, .int .i64 k0] w fun e w' => e = .returned (.int .i64 (k0 + 3 * s.length : Nat)) ∧ Wrote (fun b => lo ≤ b ∧ b < hi) w w' ∧ OwnBd lo hi w' a (marksB k0 s.length) := by
  have HH := Lib.hid (HalfBd.start (k0 := k0) ha)
  generalize s.length = n at *
  clear ha
  go_enter Try.func51, Try.ntmps51
  go_wp2
  go_loopw [1, 5] (fun l i wr => ∃ k : Nat, k ≤ n ∧ i = .int .i64 k ∧ l = .int .i64 (k0 + k * 3 : Nat) ∧ Hid (Wrote (fun b => lo ≤ b ∧ b < hi) w wr ∧ HalfBd k0 lo hi wr a n k)) (fun _ i _ => n - (intOf i).toNat)
  case atStart => exact ⟨0, Nat.zero_le _, rfl, by simp, .refl _ _, HH.out⟩
  case round =>
    clear HH
    obtain ⟨k, hk, rfl, rfl, HW⟩ := hrel
    by_cases hlt : k < n
    · obtain ⟨b, o, x, y, t, rfl, h2, h3, c0, c1, c2, -, f0, f1, f2⟩ := HW.out.2 k hlt
      have hk0 : (0 : Int) ≤ (k : Int) := by omega
      have hlt' : (k : Int) < (n : Int) := by omega
      have HN : Hid (∀ x1, Wrote (fun b => lo ≤ b ∧ b < hi) w ((((wr.setCell ⟨b, o + k * 3, none⟩ (.int .i64 ((k0 + k * 3 : Nat) : Int))).setCell ⟨b, o + k * 3 + 1, none⟩ (.int .i64 (((k0 + k * 3 : Nat) : Int) + 1))).over x1).setCell ⟨b, o + k * 3 + 2, none⟩ (.string (markT (k0 + k * 3 + 2)))) ∧
          HalfBd k0 lo hi ((((wr.setCell ⟨b, o + k * 3, none⟩ (.int .i64 ((k0 + k * 3 : Nat) : Int))).setCell ⟨b, o + k * 3 + 1, none⟩ (.int .i64 (((k0 + k * 3 : Nat) : Int) + 1))).over x1).setCell ⟨b, o + k * 3 + 2, none⟩ (.string (markT (k0 + k * 3 + 2)))) (some ⟨b, o, none⟩) n (k + 1)) := fun x1 =>
        ⟨((((HW.out.1.setCell ⟨h2, h3⟩ _).setCell ⟨h2, h3⟩ _).trans (World.Ext.wrote ⟨x1, rfl⟩ _)).setCell ⟨h2, h3⟩ _), HW.out.2.next hlt x1⟩
      have HT := Lib.hid (fun w' => markText_any (k0 + k * 3 + 2) w' (by omega))
      have e2 : (((k0 + k * 3 : Nat) : Int) + 1 + 1) = ((k0 + k * 3 + 2 : Nat) : Int) := by omega
      have HE : Hid (∀ w', Calls Try.prog 139 #[.int .i64 (((k0 + k * 3 : Nat) : Int) + 1 + 1)] w' fun e w'' => e = .returned (.string (markT (k0 + k * 3 + 2))) ∧ w'.Ext w'') := fun w' => by rw [e2]; exact HT.out w'
      have hb0 : (0 : Int) ≤ ((k0 + k * 3 : Nat) : Int) := by omega
      have hb1 : ((k0 + k * 3 : Nat) : Int) ≤ 4194304 := by omega
      have HQ2 : Hid (∀ z : Nat, z = k0 + k * 3 → ((z : Int) + 1 + 1 + 1 = ((k0 + (k + 1) * 3 : Nat) : Int))) := fun z hz => by omega
      have f2x : ∀ x1 : World, (((wr.setCell ⟨b, o + k * 3, none⟩ (.int .i64 ((k0 + k * 3 : Nat) : Int))).setCell ⟨b, o + k * 3 + 1, none⟩ (.int .i64 (((k0 + k * 3 : Nat) : Int) + 1))).over x1).frozen? ⟨b, o + k * 3 + 2, none⟩ = false := fun x1 => by
        have d2 : ((wr.setCell ⟨b, o + k * 3, none⟩ (.int .i64 ((k0 + k * 3 : Nat) : Int))).setCell ⟨b, o + k * 3 + 1, none⟩ (.int .i64 (((k0 + k * 3 : Nat) : Int) + 1))).cell? ⟨b, o + k * 3 + 2, none⟩ = some (.string t) := by
          rw [cell_set_other (by omega), cell_set_other (by omega)]; exact c2
        rw [World.Ext.frozen ⟨x1, rfl⟩ d2, frozen_set, frozen_set]
        exact f2
      clear e2 HT HW
      generalize markT (k0 + k * 3 + 2) = mt at *
      have HQ3 := Lib.hid (HQ2.out _ rfl)
      clear HQ2
      generalize k0 + k * 3 = q at *
      go_wp2_with (go_at_call 139; refine (HE.out _).mono ?_; rintro e w' ⟨rfl, x1, rfl⟩)
      go_roundw
      case rel => exact ⟨k + 1, by omega, by go_num, congrArg (Value.int .i64) HQ3.out, HN.out _⟩
      case measure => simp [intOf]; omega
    · have : k = n := by omega
      subst this
      go_wp2
      go_ret
      exact ⟨ret_int (by omega), HW.out.1, HW.out.2.done⟩
set_option maxHeartbeats 800000 in
theorem heldBorderS_res (a : Option Addr) (c : Nat) (s : List Bord) (k0 : Nat) (w : World) (hn : s.length ≤ 262144) (h1 : k0 ≤ 2097152) (ha : RowBd w a (marksB k0 s.length)) :
    Calls Try.prog 52 #[.slice a s.length c, .int .i64 k0] w fun e w' => e = .returned (.int .i64 (k0 + 3 * s.length : Nat)) ∧ w.Ext w' := by
  have HA := Lib.hid ha
  generalize s.length = n at *
  clear ha
  go_enter Try.func52, Try.ntmps52
  go_wp2
  go_loopw [1, 5] (fun l i wr => ∃ k : Nat, k ≤ n ∧ i = .int .i64 k ∧ l = .int .i64 (k0 + k * 3 : Nat) ∧ Hid (w.Ext wr)) (fun _ i _ => n - (intOf i).toNat)
  case atStart => exact ⟨0, Nat.zero_le _, rfl, by simp, .refl _⟩
  case round =>
    obtain ⟨k, hk, rfl, rfl, HX⟩ := hrel
    by_cases hlt : k < n
    · obtain ⟨b, o, rfl, c0, c1, c2⟩ := (HA.out.ext HX.out) k (by rw [marksB_len]; exact hlt)
      rw [marksB_at _ hlt] at c0 c1 c2
      dsimp only at c0 c1 c2
      have hlt' : (k : Int) < (n : Int) := by omega
      have hk0 : (0 : Int) ≤ (k : Int) := by omega
      have HT := Lib.hid (fun w' => markText_any (k0 + k * 3 + 2) w' (by omega))
      have e2 : (((k0 + k * 3 : Nat) : Int) + 1 + 1) = ((k0 + k * 3 + 2 : Nat) : Int) := by omega
      have HE : Hid (∀ w', Calls Try.prog 139 #[.int .i64 (((k0 + k * 3 : Nat) : Int) + 1 + 1)] w' fun e w'' => e = .returned (.string (markT (k0 + k * 3 + 2))) ∧ w'.Ext w'') := fun w' => by rw [e2]; exact HT.out w'
      have hb0 : (0 : Int) ≤ ((k0 + k * 3 : Nat) : Int) := by omega
      have hb1 : ((k0 + k * 3 : Nat) : Int) ≤ 4194304 := by omega
      have HQ2 : Hid (∀ z : Nat, z = k0 + k * 3 → ((z : Int) + 1 + 1 + 1 = ((k0 + (k + 1) * 3 : Nat) : Int))) := fun z hz => by omega
      clear e2 HT
      generalize markT (k0 + k * 3 + 2) = mt at *
      have HQ3 := Lib.hid (HQ2.out _ rfl)
      clear HQ2
      generalize k0 + k * 3 = q at *
      go_wp2
      refine wp_region_over_lit (by kernel_rfl) (by kernel_rfl) ?_
      repeat (go_big_quiet_step ((go_at_call 139; exact Calls.over_of (HE.out _))))
      refine wpQuiet_nil ?_
      rintro _ ⟨x1, rfl⟩
      go_wp2
      go_roundw
      case rel => exact ⟨k + 1, by omega, by go_num, congrArg (Value.int .i64) HQ3.out, HX.out.over _⟩
      case measure => simp [intOf]; omega
    · have : k = n := by omega
      subst this
      go_wp2
      go_ret
      exact ⟨ret_int (by omega), HX.out⟩
end Go.Proofs.Ytahhnjoeaodcjaa
