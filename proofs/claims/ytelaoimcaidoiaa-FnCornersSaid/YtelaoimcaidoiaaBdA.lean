/- Borders: the reference's steps, and how it follows a border. -/
import Derived.Test.YtelaoimcaidoiaaBrdP
import Derived.Test.YtelaoimcaidoiaaGenA
import Derived.Test.YtelaoimcaidoiaaRchS
import Derived.Test.YtelaoimcaidoiaaLMat
import Derived.Test.YtelaoimcaidoiaaKit
namespace Go.Proofs.Ytelaoimcaidoiaa
open Go Go.RowKit
def letN (k : Nat) : Nat := if k = 0 then 114 else if k = 1 then 100 else if k = 2 then 108 else 117
/-- The direction of a letter, -1 of none. -/
def wayI (c : Nat) : Int := if c = 114 then 0 else if c = 100 then 1 else if c = 108 then 2 else if c = 117 then 3 else -1
theorem wayI_let {k : Nat} (h : k < 4) : wayI (letN k) = k := by
  match k, h with
  | 0, _ => rfl
  | 1, _ => rfl
  | 2, _ => rfl
  | 3, _ => rfl
theorem inBx_pxl (W H : Nat) (l : List Bool) : InBx (pxl W H l) W H := fun x y h => by
  have hb : hasB W H x y = true := by
    cases hd : hasB W H x y
    · rw [pxl_out hd] at h; cases h
    · rfl
  have := hasB_true.1 hb
  omega
theorem Try.infoBord : (Try.prog.info? 35).map (fun i => (i.zero, i.size, i.bytes)) = some (some (.agg #[.int .i64 0, .int .i64 0, .string ⟨#[]⟩]), 3, 32) := by kernel_rfl
theorem Try.infoU8B : (Try.prog.info? 5).map (fun i => (i.zero, i.size, i.bytes)) = some (some (.int .u8 0), 1, 1) := by kernel_rfl
theorem let_eq (c : Nat) {k : Nat} (h : k < 4) : ∃ hs : k < (⟨#[114, 100, 108, 117]⟩ : ByteArray).size, ((c : Int) == ((((⟨#[114, 100, 108, 117]⟩ : ByteArray)[k]'hs).toNat : Nat) : Int)) = decide (c = letN k) := by
  refine ⟨h, ?_⟩
  have hl : (((⟨#[114, 100, 108, 117]⟩ : ByteArray)[k]'h).toNat : Nat) = letN k := by
    match k, h with
    | 0, _ => rfl
    | 1, _ => rfl
    | 2, _ => rfl
    | 3, _ => rfl
  rw [hl, Bool.eq_iff_iff, beq_iff_eq, decide_eq_true_eq]
  omega
end Go.Proofs.Ytelaoimcaidoiaa

/- Borders: how the reference follows one. -/
namespace Go.Proofs.Ytelaoimcaidoiaa
open Go Go.RowKit
def lenV : Value → Nat | .slice _ n _ => n | _ => 0
theorem tri_put {w : World} {p : Nat} {e : TypeId} {u v x : Value} (h : Tri w p e u v x) (a b c : Value) : Tri (((w.setCell ⟨p, 0, none⟩ a).setCell ⟨p, 1, none⟩ b).setCell ⟨p, 2, none⟩ c) p e a b c := by
  unfold Tri at *
  simp [World.setCell, Array.getElem?_modify, h]
theorem Res.store3 {w W1 : World} {p : Nat} {T : TypeId} {u v x : Value} (a b c : Value) (hX : w.Ext W1) (hp : w.heap.size ≤ p) (h : Tri W1 p T u v x) :
    W1.cell? ⟨p, 0, none⟩ = some u ∧ W1.frozen? ⟨p, 0, none⟩ = false ∧ W1.cell? ⟨p, 1, none⟩ = some v ∧ W1.frozen? ⟨p, 1, none⟩ = false ∧ W1.cell? ⟨p, 2, none⟩ = some x ∧ W1.frozen? ⟨p, 2, none⟩ = false ∧
    (((W1.setCell ⟨p, 0, none⟩ a).setCell ⟨p, 1, none⟩ b).setCell ⟨p, 2, none⟩ c).cell? ⟨p, 0, none⟩ = some a ∧ (((W1.setCell ⟨p, 0, none⟩ a).setCell ⟨p, 1, none⟩ b).setCell ⟨p, 2, none⟩ c).cell? ⟨p, 1, none⟩ = some b ∧ (((W1.setCell ⟨p, 0, none⟩ a).setCell ⟨p, 1, none⟩ b).setCell ⟨p, 2, none⟩ c).cell? ⟨p, 2, none⟩ = some c ∧
    Hid (w.Ext (((W1.setCell ⟨p, 0, none⟩ a).setCell ⟨p, 1, none⟩ b).setCell ⟨p, 2, none⟩ c)) :=
  ⟨h.cell0, h.free 0, h.cell1, h.free 1, h.cell2, h.free 2, (tri_put h a b c).cell0, (tri_put h a b c).cell1, (tri_put h a b c).cell2, ((hX.setCell (p := ⟨p, 0, none⟩) hp a).setCell (p := ⟨p, 1, none⟩) hp b).setCell (p := ⟨p, 2, none⟩) hp c⟩
/-- The letters of the first n steps. -/
def wordL (f : Int → Int → Bool) (e : Edg) (n : Nat) : List Int := (List.range n).map fun i => ((letN (itr f i e).k : Nat) : Int)
theorem wordL_len (f : Int → Int → Bool) (e : Edg) (n : Nat) : (wordL f e n).length = n := by simp [wordL]
theorem wordL_succ (f : Int → Int → Bool) (e : Edg) (n : Nat) : wordL f e (n + 1) = wordL f e n ++ [((letN (itr f n e).k : Nat) : Int)] := by simp [wordL, List.range_succ]
def wrd (f : Int → Int → Bool) (e : Edg) : ByteArray := strOfNums (wordL f e (per f e))
theorem let_at {k : Nat} (h : k < 4) : ∃ hs : k < (⟨#[114, 100, 108, 117]⟩ : ByteArray).size, (((⟨#[114, 100, 108, 117]⟩ : ByteArray)[k]'hs).toNat : Nat) = letN k := by
  refine ⟨h, ?_⟩
  match k, h with
  | 0, _ => rfl
  | 1, _ => rfl
  | 2, _ => rfl
  | 3, _ => rfl
theorem two_put0 {w : World} {p : Nat} {e : TypeId} {u v : Value} (h : Two w p e u v) (a : Value) : Two (w.setCell ⟨p, 0, none⟩ a) p e a v := by
  unfold Two at *
  simp [World.setCell, Array.getElem?_modify, h]
theorem two_put1 {w : World} {p : Nat} {e : TypeId} {u v : Value} (h : Two w p e u v) (a : Value) : Two (w.setCell ⟨p, 1, none⟩ a) p e u a := by
  unfold Two at *
  simp [World.setCell, Array.getElem?_modify, h]
/-- A border under way: where it began, what is returned, where it is, its letters. -/
structure FoSt (w : World) (p3 p4 p6 : Nat) (x0 y0 ax ay : Int) (v : Value) (bs : List Int) (wr : World) : Prop where
  x : w.Ext wr
  s : Two wr p3 33 (.int .i64 x0) (.int .i64 y0)
  r : Tri wr p4 35 (.int .i64 0) (.int .i64 0) (.string ⟨#[]⟩)
  a : Two wr p6 33 (.int .i64 ax) (.int .i64 ay)
  g : GrowOf (Value.int .u8) w.heap.size 5 wr v bs
section
variable {w wr w' : World} {p3 p4 p6 : Nat} {x0 y0 ax ay : Int} {v v' : Value} {bs : List Int}
theorem FoSt.ext (h : FoSt w p3 p4 p6 x0 y0 ax ay v bs wr) (hx : wr.Ext w') : FoSt w p3 p4 p6 x0 y0 ax ay v bs w' := ⟨h.x.trans hx, h.s.keep (hx.block h.s.lt), h.r.ext hx, h.a.keep (hx.block h.a.lt), h.g.ext hx⟩
theorem FoSt.push {z : Int} (h : FoSt w p3 p4 p6 x0 y0 ax ay v bs wr) (hg : wr.grownBy w' v.ownBlock) (ho : w'.ownsRow w.heap.size 5 1 v' (bs.length + 1) (bs.map (Value.int .u8) ++ [.int .u8 z])) : FoSt w p3 p4 p6 x0 y0 ax ay v' (bs ++ [z]) w' := by
  have hs : wr.heap[p3]? = _ := h.s
  have hr : wr.heap[p4]? = _ := h.r
  have ha : wr.heap[p6]? = _ := h.a
  exact ⟨h.x.grown hg fun k hk => (World.ownsRow.lt h.g k hk).1, h.s.keep (hg.block p3 h.s.lt (World.ownsRow.ne h.g hs (by decide))), h.r.keep (hg.block p4 h.r.lt (World.ownsRow.ne h.g hr (by decide))), h.a.keep (hg.block p6 h.a.lt (World.ownsRow.ne h.g ha (by decide))), GrowOf.push ho⟩
theorem FoSt.put (h : FoSt w p3 p4 p6 x0 y0 ax ay v bs wr) (h3 : p6 ≠ p3) (h4 : p6 ≠ p4) (hl : w.heap.size ≤ p6) (bx by' : Int) : FoSt w p3 p4 p6 x0 y0 bx ay v bs (wr.setCell ⟨p6, 0, none⟩ (.int .i64 bx)) ∧ FoSt w p3 p4 p6 x0 y0 ax by' v bs (wr.setCell ⟨p6, 1, none⟩ (.int .i64 by')) := by
  have ha : wr.heap[p6]? = _ := h.a
  have hne : some p6 ≠ v.ownBlock := World.ownsRow.ne h.g ha (by decide)
  exact ⟨⟨h.x.setCell (p := ⟨p6, 0, none⟩) hl _, h.s.keep (Below.heap_setCell _ _ _ _ (Ne.symm h3)), h.r.keep (Below.heap_setCell _ _ _ _ (Ne.symm h4)), two_put0 h.a _, h.g.setCell (a := ⟨p6, 0, none⟩) hne _⟩,
    ⟨h.x.setCell (p := ⟨p6, 1, none⟩) hl _, h.s.keep (Below.heap_setCell _ _ _ _ (Ne.symm h3)), h.r.keep (Below.heap_setCell _ _ _ _ (Ne.symm h4)), two_put1 h.a _, h.g.setCell (a := ⟨p6, 1, none⟩) hne _⟩⟩
end
@[go_sem] theorem Try.eqSpotF (a b c d : Int) (w : World) : (Op.equalIn 10000 33 (.agg #[.int .i64 a, .int .i64 b]) (.agg #[.int .i64 c, .int .i64 d])).run Try.prog w = .ok (a == c && b == d) w := by
  have u3 := Try.underlying2
  have hS : Try.prog.underlying 33 = some (.struct (Try.prog.fieldsOf 33)) := by kernel_rfl
  have hp : Try.prog.stoodInHeld 33 = false := by kernel_rfl
  rw [show (10000 : Nat) = 9999 + 1 from rfl, run_equalIn_agg w 9999 33 _ _ hS hp]
  simp only [Program.fieldsOf, Try.underlying33]
  go_simp
  by_cases h1 : a = c <;> by_cases h2 : b = d <;> simp [h1, h2]
theorem itr_step {f : Int → Int → Bool} (e : Edg) (i : Nat) : (itr f (i + 1) e).x = (itr f i e).x + dX (itr f i e).k ∧ (itr f (i + 1) e).y = (itr f i e).y + dY (itr f i e).k ∧
    (itr f (i + 1) e).k = if canB f ((itr f i e).x + dX (itr f i e).k) ((itr f i e).y + dY (itr f i e).k) (((itr f i e).k + 1) % 4) then ((itr f i e).k + 1) % 4 else if canB f ((itr f i e).x + dX (itr f i e).k) ((itr f i e).y + dY (itr f i e).k) (itr f i e).k then (itr f i e).k else ((itr f i e).k + 3) % 4 := ⟨rfl, rfl, rfl⟩
theorem Edg.eq_of {e e' : Edg} (h1 : e.x = e'.x) (h2 : e.y = e'.y) (h3 : e.k = e'.k) : e = e' := by
  cases e; cases e'; simp_all
end Go.Proofs.Ytelaoimcaidoiaa

/- Borders: the corners that a border goes to the right from. -/
namespace Go.Proofs.Ytelaoimcaidoiaa
open Go Go.RowKit
theorem letN_le (k : Nat) : letN k ≤ 255 := by unfold letN; split <;> (try split) <;> (try split) <;> omega
theorem wrd_size (f : Int → Int → Bool) (e : Edg) : (wrd f e).size = per f e := by unfold wrd; rw [strOfNums_size, wordL_len]
theorem str_at {L : List Int} {i n : Nat} (h : i < L.length) (hz : L[i]'h = ((n : Nat) : Int)) (hn : n ≤ 255) : ∃ hs : i < (strOfNums L).size, (((strOfNums L)[i]'hs).toNat : Nat) = n := by
  refine ⟨by rw [strOfNums_size]; exact h, ?_⟩
  have e1 : (strOfNums L)[i]'(by rw [strOfNums_size]; exact h) = UInt8.ofNat (L[i]'h).toNat := by
    show (L.map fun n => UInt8.ofNat n.toNat).toArray[i]'(by simpa using h) = _
    simp
  rw [e1, hz]
  simp
  omega
set_option maxRecDepth 20000 in
theorem wrd_at {f : Int → Int → Bool} {e : Edg} {i : Nat} (h : i < per f e) : ∃ hs : i < (wrd f e).size, (((wrd f e)[i]'hs).toNat : Nat) = letN (itr f i e).k := by
  unfold wrd
  generalize per f e = n at *
  exact str_at (L := wordL f e n) (by rw [wordL_len]; exact h) (by unfold wordL; simp) (letN_le _)
/-- The corners from which one of the first i steps goes to the right. -/
def onTo (f : Int → Int → Bool) (e : Edg) (i : Nat) (x y : Nat) : Bool := (List.range i).any fun j => decide (itr f j e = ⟨(x : Int), (y : Int), 0⟩)
theorem onTo_succ (f : Int → Int → Bool) (e : Edg) (i x y : Nat) : onTo f e (i + 1) x y = (onTo f e i x y || decide (itr f i e = ⟨(x : Int), (y : Int), 0⟩)) := by
  unfold onTo
  rw [List.range_succ, List.any_append]; simp
theorem onTo_all (f : Int → Int → Bool) (e : Edg) (x y : Nat) : onTo f e (per f e) x y = inOrb f e ⟨(x : Int), (y : Int), 0⟩ := rfl
/-- What has been marked: block g, by a function. -/
def MdSt (w : World) (g : Nat) (m : Nat → Nat → Bool) (wr : World) : Prop := Wrote (fun k => k = g) w wr ∧ BlkOf Value.bool wr g 4 (mkl 17 17 m)
section
variable {w wr w' : World} {g : Nat} {m m' : Nat → Nat → Bool}
theorem MdSt.ext (h : MdSt w g m wr) (hx : wr.Ext w') : MdSt w g m w' := ⟨h.1.trans (hx.wrote _), h.2.ext hx⟩
theorem MdSt.congr (h : MdSt w g m wr) (e : ∀ x y, x < 17 → y < 17 → m x y = m' x y) : MdSt w g m' wr := ⟨h.1, by rw [← mkl_congr e]; exact h.2⟩
theorem MdSt.cell (h : MdSt w g m wr) {x y : Nat} (hx : x < 17) (hy : y < 17) : wr.cell? ⟨g, y * 17 + x, none⟩ = some (.bool (m x y)) ∧ wr.frozen? ⟨g, y * 17 + x, none⟩ = false := by
  refine ⟨?_, h.2.free _⟩
  rw [h.2.cell false (by rw [mkl_len]; omega), mkl_at _ _ _ _ _ hx hy]
theorem MdSt.set (h : MdSt w g m wr) {x y : Nat} (hx : x < 17) (hy : y < 17) (h1 : m' x y = true) (h2 : ∀ i j, i < 17 → j < 17 → (i ≠ x ∨ j ≠ y) → m' i j = m i j) : MdSt w g m' (wr.setCell ⟨g, y * 17 + x, none⟩ (.bool true)) :=
  ⟨h.1.setCell (p := ⟨g, y * 17 + x, none⟩) rfl _, by rw [← mkl_set hx hy true h1 h2]; exact h.2.set _ _⟩
end
theorem MdSt.box {w wr : World} {g : Nat} {m : Nat → Nat → Bool} (h : MdSt w g m wr) {a : Addr} (ha : w.heap.size ≤ a.block) (v : Value) (hg : a.block ≠ g) : MdSt w g m (wr.setCell a v) := by
  refine ⟨⟨h.1.os, h.1.tape, h.1.output, by have := h.1.size; simpa [World.setCell] using this, fun k hk hs => ?_⟩, h.2.setCell_other hg v⟩
  rw [Below.heap_setCell _ _ _ _ (by omega)]
  exact h.1.block k hk hs
end Go.Proofs.Ytelaoimcaidoiaa

/- Lists of borders: memory, and what the laws do with them. -/
namespace Go.Proofs.Ytelaoimcaidoiaa
open Go Go.RowKit
abbrev Bord := Int × Int × ByteArray
def bd0 : Bord := (0, 0, ⟨#[]⟩)
def RowBd (w : World) (a : Option Addr) (bs : List Bord) : Prop := ∀ i, i < bs.length → ∃ b o, a = some ⟨b, o, none⟩ ∧ w.cell? ⟨b, o + i * 3, none⟩ = some (.int .i64 (bs.getD i bd0).1) ∧ w.cell? ⟨b, o + i * 3 + 1, none⟩ = some (.int .i64 (bs.getD i bd0).2.1) ∧ w.cell? ⟨b, o + i * 3 + 2, none⟩ = some (.string (bs.getD i bd0).2.2)
def OwnBd (lo hi : Nat) (w : World) (a : Option Addr) (bs : List Bord) : Prop := ∀ i, i < bs.length → ∃ b o, a = some ⟨b, o, none⟩ ∧ lo ≤ b ∧ b < hi ∧ w.cell? ⟨b, o + i * 3, none⟩ = some (.int .i64 (bs.getD i bd0).1) ∧ w.cell? ⟨b, o + i * 3 + 1, none⟩ = some (.int .i64 (bs.getD i bd0).2.1) ∧ w.cell? ⟨b, o + i * 3 + 2, none⟩ = some (.string (bs.getD i bd0).2.2) ∧
  w.frozen? ⟨b, o + i * 3, none⟩ = false ∧ w.frozen? ⟨b, o + i * 3 + 1, none⟩ = false ∧ w.frozen? ⟨b, o + i * 3 + 2, none⟩ = false
section
variable {lo hi lo' hi' : Nat} {w w' : World} {a : Option Addr} {bs : List Bord}
theorem RowBd.ext (h : RowBd w a bs) (hx : w.Ext w') : RowBd w' a bs := fun i hi => let ⟨b, o, h1, h2, h3, h4⟩ := h i hi; ⟨b, o, h1, hx.cell h2, hx.cell h3, hx.cell h4⟩
theorem OwnBd.row (h : OwnBd lo hi w a bs) : RowBd w a bs := fun i hi => let ⟨b, o, h1, _, _, h2, h3, h4, _⟩ := h i hi; ⟨b, o, h1, h2, h3, h4⟩
theorem OwnBd.mono (h : OwnBd lo hi w a bs) (hl : lo' ≤ lo) (hh : hi ≤ hi') : OwnBd lo' hi' w a bs := fun i hi => let ⟨b, o, h1, h2, h3, r⟩ := h i hi; ⟨b, o, h1, Nat.le_trans hl h2, Nat.lt_of_lt_of_le h3 hh, r⟩
theorem OwnBd.wrote {S : Nat → Prop} (h : OwnBd lo hi w a bs) (hx : Wrote S w w') (hs : ∀ k, lo ≤ k → k < hi → ¬ S k) : OwnBd lo hi w' a bs := fun i hi => by
  obtain ⟨b, o, h1, h2, h3, c0, c1, c2, f0, f1, f2⟩ := h i hi
  have hn := hs b h2 h3
  exact ⟨b, o, h1, h2, h3, hx.cell c0 hn, hx.cell c1 hn, hx.cell c2 hn, by rw [hx.frozen c0 hn]; exact f0, by rw [hx.frozen c1 hn]; exact f1, by rw [hx.frozen c2 hn]; exact f2⟩
theorem OwnBd.ext (h : OwnBd lo hi w a bs) (hx : w.Ext w') : OwnBd lo hi w' a bs := h.wrote (hx.wrote fun _ => False) fun _ _ _ => id
theorem OwnBd.nil (w : World) (a : Option Addr) : OwnBd lo hi w a [] := fun i hi => by cases hi
end
def flatB : List Bord → List Value
  | [] => []
  | b :: bs => .int .i64 b.1 :: .int .i64 b.2.1 :: .string b.2.2 :: flatB bs
theorem flatB_append : ∀ a b, flatB (a ++ b) = flatB a ++ flatB b
  | [], b => rfl
  | d :: a, b => by simp [flatB, flatB_append a b]
theorem flatB_len : ∀ bs, (flatB bs).length = 3 * bs.length
  | [] => rfl
  | d :: ds => by simp [flatB, flatB_len ds]; omega
theorem flatB_at : ∀ (bs : List Bord) (i : Nat), i < bs.length → (flatB bs)[i * 3]? = some (.int .i64 (bs.getD i bd0).1) ∧ (flatB bs)[i * 3 + 1]? = some (.int .i64 (bs.getD i bd0).2.1) ∧ (flatB bs)[i * 3 + 2]? = some (.string (bs.getD i bd0).2.2)
  | [], i, h => by cases h
  | d :: ds, 0, _ => by simp [flatB]
  | d :: ds, i + 1, hi => by
    have h := flatB_at ds i (by simpa using hi)
    have e1 : (i + 1) * 3 = i * 3 + 1 + 1 + 1 := by omega
    have e2 : (i + 1) * 3 + 1 = i * 3 + 1 + 1 + 1 + 1 := by omega
    have e3 : (i + 1) * 3 + 2 = i * 3 + 2 + 1 + 1 + 1 := by omega
    rw [e3, e2, e1]
    simpa [flatB] using h
/-- A slice value owns these borders. -/
def GrowBd (lo : Nat) (w : World) (v : Value) (bs : List Bord) : Prop := w.ownsRow lo 35 3 v bs.length (flatB bs)
theorem GrowBd.empty {lo : Nat} (w : World) (h : lo ≤ w.heap.size) : GrowBd lo (w.alloc (.cells #[] 35)) (.slice (some ⟨w.heap.size, 0, none⟩) 0 0) [] := World.ownsRow_made w #[] 0 h (Nat.zero_le _) rfl
theorem GrowBd.push {lo : Nat} {w : World} {v' : Value} {bs : List Bord} {d : Bord} (h : w.ownsRow lo 35 3 v' (bs.length + 1) (flatB bs ++ [.int .i64 d.1, .int .i64 d.2.1, .string d.2.2])) : GrowBd lo w v' (bs ++ [d]) := by
  unfold GrowBd
  rw [flatB_append, List.length_append]
  exact h
theorem GrowBd.own {lo : Nat} {w : World} {a : Option Addr} {m cap : Nat} {bs : List Bord} (h : GrowBd lo w (.slice a m cap) bs) : OwnBd lo w.heap.size w a bs := by
  intro i hi
  obtain ⟨h1, h2, h3⟩ := flatB_at bs i hi
  obtain ⟨b, o, e, l1, l2, c0, f0⟩ := World.ownsRow.own h (i := i * 3) (by omega)
  obtain ⟨b', o', e', _, _, c1, f1⟩ := World.ownsRow.own h (i := i * 3 + 1) (by omega)
  rw [e] at e'
  cases e'
  obtain ⟨b', o', e', _, _, c2, f2⟩ := World.ownsRow.own h (i := i * 3 + 2) (by omega)
  rw [e] at e'
  cases e'
  rw [h1] at c0
  rw [h2] at c1
  rw [h3] at c2
  exact ⟨b, o, e, l1, l2, c0, by rw [Nat.add_assoc]; exact c1, by rw [Nat.add_assoc]; exact c2, f0, by rw [Nat.add_assoc]; exact f1, by rw [Nat.add_assoc]; exact f2⟩
/-- The marks of n borders. -/
def marksB (k0 n : Nat) : List Bord := (List.range n).map fun i => (((k0 + i * 3 : Nat) : Int), ((k0 + i * 3 : Nat) : Int) + 1, markT (k0 + i * 3 + 2))
theorem marksB_len (k0 n : Nat) : (marksB k0 n).length = n := by simp [marksB]
theorem marksB_at (k0 : Nat) {n i : Nat} (h : i < n) : (marksB k0 n).getD i bd0 = (((k0 + i * 3 : Nat) : Int), ((k0 + i * 3 : Nat) : Int) + 1, markT (k0 + i * 3 + 2)) := by
  unfold marksB
  rw [List.getD_eq_getElem?_getD, List.getElem?_map, List.getElem?_range h]
  rfl
def HalfBd (k0 lo hi : Nat) (w : World) (a : Option Addr) (n k : Nat) : Prop := ∀ i, i < n → ∃ b o x y s, a = some ⟨b, o, none⟩ ∧ lo ≤ b ∧ b < hi ∧ w.cell? ⟨b, o + i * 3, none⟩ = some (.int .i64 x) ∧ w.cell? ⟨b, o + i * 3 + 1, none⟩ = some (.int .i64 y) ∧ w.cell? ⟨b, o + i * 3 + 2, none⟩ = some (.string s) ∧
  (i < k → x = ((k0 + i * 3 : Nat) : Int) ∧ y = ((k0 + i * 3 : Nat) : Int) + 1 ∧ s = markT (k0 + i * 3 + 2)) ∧ w.frozen? ⟨b, o + i * 3, none⟩ = false ∧ w.frozen? ⟨b, o + i * 3 + 1, none⟩ = false ∧ w.frozen? ⟨b, o + i * 3 + 2, none⟩ = false
theorem HalfBd.start {k0 lo hi : Nat} {w : World} {a : Option Addr} {bs : List Bord} (h : OwnBd lo hi w a bs) : HalfBd k0 lo hi w a bs.length 0 := fun i hi => by
  obtain ⟨b, o, h1, h2, h3, c0, c1, c2, f⟩ := h i hi
  exact ⟨b, o, _, _, _, h1, h2, h3, c0, c1, c2, fun h => by omega, f⟩
theorem HalfBd.done {k0 lo hi : Nat} {w : World} {a : Option Addr} {n : Nat} (h : HalfBd k0 lo hi w a n n) : OwnBd lo hi w a (marksB k0 n) := fun i hi => by
  rw [marksB_len] at hi
  obtain ⟨b, o, x, y, s, h1, h2, h3, c0, c1, c2, hk, f⟩ := h i hi
  obtain ⟨rfl, rfl, rfl⟩ := hk hi
  rw [marksB_at _ hi]
  exact ⟨b, o, h1, h2, h3, c0, c1, c2, f⟩
theorem HalfBd.next {k0 lo hi : Nat} {w : World} {b o n k : Nat} (h : HalfBd k0 lo hi w (some ⟨b, o, none⟩) n k) (hk : k < n) (x : World) :
    HalfBd k0 lo hi ((((w.setCell ⟨b, o + k * 3, none⟩ (.int .i64 ((k0 + k * 3 : Nat) : Int))).setCell ⟨b, o + k * 3 + 1, none⟩ (.int .i64 (((k0 + k * 3 : Nat) : Int) + 1))).over x).setCell ⟨b, o + k * 3 + 2, none⟩ (.string (markT (k0 + k * 3 + 2)))) (some ⟨b, o, none⟩) n (k + 1) := by
  intro i hi'
  obtain ⟨b', o', u, v, s, h1, h2, h3, c0, c1, c2, hm, f0, f1, f2⟩ := h i hi'
  cases h1
  have hx : ((w.setCell ⟨b, o + k * 3, none⟩ (.int .i64 ((k0 + k * 3 : Nat) : Int))).setCell ⟨b, o + k * 3 + 1, none⟩ (.int .i64 (((k0 + k * 3 : Nat) : Int) + 1))).Ext (((w.setCell ⟨b, o + k * 3, none⟩ (.int .i64 ((k0 + k * 3 : Nat) : Int))).setCell ⟨b, o + k * 3 + 1, none⟩ (.int .i64 (((k0 + k * 3 : Nat) : Int) + 1))).over x) := ⟨x, rfl⟩
  by_cases e : i = k
  · subst e
    have d0 : ((w.setCell ⟨b, o + i * 3, none⟩ (.int .i64 ((k0 + i * 3 : Nat) : Int))).setCell ⟨b, o + i * 3 + 1, none⟩ (.int .i64 (((k0 + i * 3 : Nat) : Int) + 1))).cell? ⟨b, o + i * 3, none⟩ = some (.int .i64 ((k0 + i * 3 : Nat) : Int)) := by
      rw [cell_set_other (by omega)]; exact cell_set_same c0
    have d1 : ((w.setCell ⟨b, o + i * 3, none⟩ (.int .i64 ((k0 + i * 3 : Nat) : Int))).setCell ⟨b, o + i * 3 + 1, none⟩ (.int .i64 (((k0 + i * 3 : Nat) : Int) + 1))).cell? ⟨b, o + i * 3 + 1, none⟩ = some (.int .i64 (((k0 + i * 3 : Nat) : Int) + 1)) :=
      cell_set_same (by rw [cell_set_other (by omega)]; exact c1)
    have d2 : ((w.setCell ⟨b, o + i * 3, none⟩ (.int .i64 ((k0 + i * 3 : Nat) : Int))).setCell ⟨b, o + i * 3 + 1, none⟩ (.int .i64 (((k0 + i * 3 : Nat) : Int) + 1))).cell? ⟨b, o + i * 3 + 2, none⟩ = some (.string s) := by
      rw [cell_set_other (by omega), cell_set_other (by omega)]; exact c2
    refine ⟨b, o, _, _, _, rfl, h2, h3, ?_, ?_, cell_set_same (hx.cell d2), fun _ => ⟨rfl, rfl, rfl⟩, ?_, ?_, ?_⟩
    · rw [cell_set_other (by omega)]; exact hx.cell d0
    · rw [cell_set_other (by omega)]; exact hx.cell d1
    · rw [frozen_set, hx.frozen d0, frozen_set, frozen_set]; exact f0
    · rw [frozen_set, hx.frozen d1, frozen_set, frozen_set]; exact f1
    · rw [frozen_set, hx.frozen d2, frozen_set, frozen_set]; exact f2
  · have d0 : ((w.setCell ⟨b, o + k * 3, none⟩ (.int .i64 ((k0 + k * 3 : Nat) : Int))).setCell ⟨b, o + k * 3 + 1, none⟩ (.int .i64 (((k0 + k * 3 : Nat) : Int) + 1))).cell? ⟨b, o + i * 3, none⟩ = some (.int .i64 u) := by
      rw [cell_set_other (by omega), cell_set_other (by omega)]; exact c0
    have d1 : ((w.setCell ⟨b, o + k * 3, none⟩ (.int .i64 ((k0 + k * 3 : Nat) : Int))).setCell ⟨b, o + k * 3 + 1, none⟩ (.int .i64 (((k0 + k * 3 : Nat) : Int) + 1))).cell? ⟨b, o + i * 3 + 1, none⟩ = some (.int .i64 v) := by
      rw [cell_set_other (by omega), cell_set_other (by omega)]; exact c1
    have d2 : ((w.setCell ⟨b, o + k * 3, none⟩ (.int .i64 ((k0 + k * 3 : Nat) : Int))).setCell ⟨b, o + k * 3 + 1, none⟩ (.int .i64 (((k0 + k * 3 : Nat) : Int) + 1))).cell? ⟨b, o + i * 3 + 2, none⟩ = some (.string s) := by
      rw [cell_set_other (by omega), cell_set_other (by omega)]; exact c2
    refine ⟨b, o, u, v, s, rfl, h2, h3, ?_, ?_, ?_, fun h => hm (by omega), ?_, ?_, ?_⟩
    · rw [cell_set_other (by omega)]; exact hx.cell d0
    · rw [cell_set_other (by omega)]; exact hx.cell d1
    · rw [cell_set_other (by omega)]; exact hx.cell d2
    · rw [frozen_set, hx.frozen d0, frozen_set, frozen_set]; exact f0
    · rw [frozen_set, hx.frozen d1, frozen_set, frozen_set]; exact f1
    · rw [frozen_set, hx.frozen d2, frozen_set, frozen_set]; exact f2
end Go.Proofs.Ytelaoimcaidoiaa

/- Borders: all borders of a picture, the reference's. -/
namespace Go.Proofs.Ytelaoimcaidoiaa
open Go Go.RowKit
theorem cell3_at {w : World} {u v x : Value} {e : TypeId} {p : Nat} (hp : p = w.heap.size) : ∀ (j : Nat) (y : Value), [u, v, x][j]? = some y → (w.alloc (.cells #[u, v, x] e)).cell? ((⟨p, 0, none⟩ : Addr).add j) = some y := by
  subst hp
  intro j y hj
  rw [Addr.add_mk]
  match j, hj with
  | 0, hj => simp at hj; subst hj; simp [go_sem]
  | 1, hj => simp at hj; subst hj; simp [go_sem]
  | 2, hj => simp at hj; subst hj; simp [go_sem]
  | j + 3, hj => simp at hj
def bdOf (f : Int → Int → Bool) (W j : Nat) : Bord := ((stE W j).x, (stE W j).y, wrd f (stE W j))
def brds (f : Int → Int → Bool) (W k : Nat) : List Bord := (bTo f W k).map (bdOf f W)
def mdB (f : Int → Int → Bool) (W k x y : Nat) : Bool := doneB f W (bTo f W k) ⟨(x : Int), (y : Int), 0⟩
theorem stE_at {W x y : Nat} (hx : x < W) : stE W (y * W + x) = ⟨(x : Int), (y : Int), 0⟩ := by
  have e1 : (y * W + x) % W = x := by rw [Nat.mul_comm, Nat.mul_add_mod, Nat.mod_eq_of_lt hx]
  have e2 : (y * W + x) / W = y := by rw [Nat.mul_comm, Nat.mul_add_div (by omega), Nat.div_eq_of_lt hx, Nat.add_zero]
  unfold stE
  rw [e1, e2]
theorem bTo_len (f : Int → Int → Bool) (W : Nat) : ∀ k, (bTo f W k).length ≤ k
  | 0 => Nat.le_refl _
  | k + 1 => by
    have ih := bTo_len f W k
    unfold bTo
    split
    · simp only [List.length_append, List.length_singleton]; omega
    · omega
theorem brds_len (f : Int → Int → Bool) (W k : Nat) : (brds f W k).length ≤ k := by unfold brds; rw [List.length_map]; exact bTo_len f W k
theorem bTo_no {f : Int → Int → Bool} {W x y : Nat} (hx : x < W) (h : canB f x y 0 = false ∨ mdB f W (y * W + x) x y = true) : bTo f W (y * W + (x + 1)) = bTo f W (y * W + x) := by
  rw [← Nat.add_assoc]
  show bTo f W (y * W + x + 1) = _
  rw [bTo]
  unfold isSt
  rw [stE_at hx, if_neg]
  unfold mdB at h
  rcases h with h | h
  · dsimp only; rw [h]; simp
  · rw [h]; simp
theorem bTo_yes {f : Int → Int → Bool} {W x y : Nat} (hx : x < W) (h1 : canB f x y 0 = true) (h2 : mdB f W (y * W + x) x y = false) : bTo f W (y * W + (x + 1)) = bTo f W (y * W + x) ++ [y * W + x] := by
  rw [← Nat.add_assoc]
  show bTo f W (y * W + x + 1) = _
  rw [bTo]
  unfold isSt
  unfold mdB at h2
  rw [stE_at hx, if_pos]
  dsimp only
  rw [h1, h2]
  rfl
theorem brds_no {f : Int → Int → Bool} {W x y : Nat} (hx : x < W) (h : canB f x y 0 = false ∨ mdB f W (y * W + x) x y = true) : brds f W (y * W + (x + 1)) = brds f W (y * W + x) := by unfold brds; rw [bTo_no hx h]
theorem brds_yes {f : Int → Int → Bool} {W x y : Nat} (hx : x < W) (h1 : canB f x y 0 = true) (h2 : mdB f W (y * W + x) x y = false) : brds f W (y * W + (x + 1)) = brds f W (y * W + x) ++ [((x : Int), (y : Int), wrd f ⟨(x : Int), (y : Int), 0⟩)] := by
  unfold brds
  rw [bTo_yes hx h1 h2, List.map_append]
  unfold bdOf
  rw [List.map_cons, List.map_nil, stE_at hx]
theorem mdB_no {f : Int → Int → Bool} {W x y : Nat} (hx : x < W) (h : canB f x y 0 = false ∨ mdB f W (y * W + x) x y = true) : mdB f W (y * W + (x + 1)) = mdB f W (y * W + x) := by funext a b; unfold mdB; rw [bTo_no hx h]
theorem mdB_yes {f : Int → Int → Bool} {W x y : Nat} (hx : x < W) (h1 : canB f x y 0 = true) (h2 : mdB f W (y * W + x) x y = false) (a b : Nat) : mdB f W (y * W + (x + 1)) a b = (mdB f W (y * W + x) a b || inOrb f ⟨(x : Int), (y : Int), 0⟩ ⟨(a : Int), (b : Int), 0⟩) := by
  unfold mdB
  rw [bTo_yes hx h1 h2]
  unfold doneB
  rw [List.any_append, List.any_cons, List.any_nil, Bool.or_false, stE_at hx]
/-- Borders under way, and what they have marked. -/
structure AlSt (w : World) (g : Nat) (v : Value) (bs : List Bord) (m : Nat → Nat → Bool) (wr : World) : Prop where
  x : w.Ext wr
  g : BlkOf Value.bool wr g 4 (mkl 17 17 m)
  d : GrowBd w.heap.size wr v bs
section
variable {w wr w' : World} {g : Nat} {v : Value} {bs : List Bord} {m m' : Nat → Nat → Bool}
theorem AlSt.ext (h : AlSt w g v bs m wr) (hx : wr.Ext w') : AlSt w g v bs m w' := ⟨h.x.trans hx, h.g.ext hx, World.ownsRow.ext h.d hx⟩
theorem AlSt.marked (h : AlSt w g v bs m wr) (hg : w.heap.size ≤ g) (hm : MdSt wr g m' w') : AlSt w g v bs m' w' := by
  refine ⟨h.x.wroteNew hm.1 fun k hk e => by omega, hm.2, World.ownsRow.keep h.d fun k hk => hm.1.block k ?_ fun e => ?_⟩
  · exact (World.ownsRow.lt h.d k hk).2
  · have hh : wr.heap[g]? = _ := h.g
    rw [e] at hk
    exact World.ownsRow.ne h.d hh (by decide) hk.symm
theorem AlSt.push {d : Bord} {v' : Value} (h : AlSt w g v bs m wr) (hg : wr.grownBy w' v.ownBlock) (ho : w'.ownsRow w.heap.size 35 3 v' (bs.length + 1) (flatB bs ++ [.int .i64 d.1, .int .i64 d.2.1, .string d.2.2])) : AlSt w g v' (bs ++ [d]) m w' := by
  have hh : wr.heap[g]? = _ := h.g
  exact ⟨h.x.grown hg fun k hk => (World.ownsRow.lt h.d k hk).1, h.g.keep (hg.block g h.g.lt (World.ownsRow.ne h.d hh (by decide))), GrowBd.push ho⟩
end
/-- Borders are returned, in new memory. -/
def BordsRet (w : World) (bs : List Bord) (e : Ending) (w' : World) : Prop := ∃ a c, e = .returned (.slice a bs.length c) ∧ w.Ext w' ∧ OwnBd w.heap.size w'.heap.size w' a bs
theorem Try.infoBoolA : (Try.prog.info? 4).map (fun i => (i.zero, i.size, i.bytes)) = some (some (.bool false), 1, 1) := by kernel_rfl
end Go.Proofs.Ytelaoimcaidoiaa

/- BordersOf: the reference's. -/
namespace Go.Proofs.Ytelaoimcaidoiaa
open Go Go.RowKit
def optBd (ok : Bool) (bs : List Bord) : List Bord := if ok then bs else []
def bordA (ss : List ByteArray) : List Bord := brds (pxl (picW ss) ss.length (picL ss)) (picW ss) (ss.length * picW ss)
def BordsRet2 (w : World) (bs : List Bord) (ok : Bool) (e : Ending) (w' : World) : Prop := ∃ a c, e = .returned (.tuple #[.slice a bs.length c, .bool ok]) ∧ w.Ext w' ∧ OwnBd w.heap.size w'.heap.size w' a bs
theorem bordA_bnd (ss : List ByteArray) : (optBd (picOk ss) (bordA ss)).length ≤ 262144 := by
  cases hk : picOk ss
  · simp [optBd]
  · obtain ⟨v1, v2, v3, v4, e1, -⟩ := picOk_spec hk
    have h1 := brds_len (pxl (picW ss) ss.length (picL ss)) (picW ss) (ss.length * picW ss)
    have h2 := Nat.mul_le_mul v2 v4
    show (bordA ss).length ≤ _
    unfold bordA
    omega
end Go.Proofs.Ytelaoimcaidoiaa

/- Plain: the border that a pixel's upper side is on. -/
namespace Go.Proofs.Ytelaoimcaidoiaa
open Go Go.RowKit
def bAtOk (ss : List ByteArray) (x y : Int) : Bool := picOk ss && (pxl (picW ss) ss.length (picL ss) x y && !pxl (picW ss) ss.length (picL ss) x (y - 1))
def bAtI (ss : List ByteArray) (x y : Int) : Nat := (bTo (pxl (picW ss) ss.length (picL ss)) (picW ss) (ss.length * picW ss)).findIdx fun j => inOrb (pxl (picW ss) ss.length (picL ss)) (stE (picW ss) j) ⟨x, y, 0⟩
def bAtR (ss : List ByteArray) (x y : Int) : Bord := if bAtOk ss x y then (bordA ss).getD (bAtI ss x y) bd0 else bd0
/-- What is told of the borders: where each begins, and which is the first one that is meant. -/
structure BAt (f : Int → Int → Bool) (W : Nat) (bs : List Bord) (x y : Nat) (i0 : Nat) : Prop where
  lt : i0 < bs.length
  few : bs.length ≤ 1200
  at_ : ∀ i, i < bs.length → ∃ e, EOk f e ∧ bs.getD i bd0 = (e.x, e.y, wrd f e) ∧ (i < i0 → inOrb f e ⟨(x : Int), (y : Int), 0⟩ = false) ∧ (i = i0 → inOrb f e ⟨(x : Int), (y : Int), 0⟩ = true)
theorem bAt_of {ss : List ByteArray} {x y : Int} (h : bAtOk ss x y = true) : ∃ X Y : Nat, x = (X : Int) ∧ y = (Y : Int) ∧ X < 16 ∧ Y < 16 ∧ picOk ss = true ∧ pxl (picW ss) ss.length (picL ss) x y = true ∧ pxl (picW ss) ss.length (picL ss) x (y - 1) = false ∧
    InBx (pxl (picW ss) ss.length (picL ss)) 16 16 ∧ BAt (pxl (picW ss) ss.length (picL ss)) (picW ss) (bordA ss) X Y (bAtI ss x y) ∧ bAtR ss x y = (bordA ss).getD (bAtI ss x y) bd0 := by
  have hR : bAtR ss x y = (bordA ss).getD (bAtI ss x y) bd0 := by unfold bAtR; rw [if_pos h]
  unfold bAtOk at h
  simp only [Bool.and_eq_true, Bool.not_eq_true'] at h
  obtain ⟨h0, h1, h2⟩ := h
  obtain ⟨v1, v2, v3, v4, -, -⟩ := picOk_spec h0
  have hb := inBx_pxl (picW ss) ss.length (picL ss)
  obtain ⟨p1, p2, p3, p4⟩ := hb x y h1
  obtain ⟨X, rfl⟩ := Int.eq_ofNat_of_zero_le p1
  obtain ⟨Y, rfl⟩ := Int.eq_ofNat_of_zero_le p3
  refine ⟨X, Y, rfl, rfl, by omega, by omega, h0, h1, h2, fun x y h => by have := hb x y h; omega, ?_, hR⟩
  have hcan : EOk (pxl (picW ss) ss.length (picL ss)) ⟨(X : Int), (Y : Int), 0⟩ := ⟨by show 0 < 4; omega, by
    show canB _ _ _ 0 = true
    unfold canB canQ
    simp [h1, h2]⟩
  have hd := all_done hb (by omega) (by omega) hcan
  unfold bAtI bordA brds
  generalize pxl (picW ss) ss.length (picL ss) = f at *
  have hmem : ∀ j, j ∈ bTo f (picW ss) (ss.length * picW ss) → EOk f (stE (picW ss) j) := fun j hj => isSt_ok (bTo_mem hj).2
  have hfew := brds_len f (picW ss) (ss.length * picW ss)
  unfold brds at hfew
  rw [List.length_map] at hfew
  have hmul := Nat.mul_le_mul v2 v4
  generalize bTo f (picW ss) (ss.length * picW ss) = js at *
  generalize picW ss = W at *
  have hex : ∃ j, j ∈ js ∧ inOrb f (stE W j) ⟨(X : Int), (Y : Int), 0⟩ = true := doneB_true.1 hd
  have hlt : (js.findIdx fun j => inOrb f (stE W j) ⟨(X : Int), (Y : Int), 0⟩) < js.length := List.findIdx_lt_length_of_exists hex
  refine ⟨by rw [List.length_map]; exact hlt, by rw [List.length_map]; omega, fun i hi => ?_⟩
  rw [List.length_map] at hi
  refine ⟨stE W js[i], hmem _ (List.getElem_mem hi), ?_, fun h => ?_, fun h => ?_⟩
  · rw [List.getD_eq_getElem?_getD, List.getElem?_map, List.getElem?_eq_getElem hi]
    rfl
  · exact List.not_of_lt_findIdx h
  · subst h
    exact List.findIdx_getElem (w := hlt)
theorem bAt_no {ss : List ByteArray} {x y : Int} (h : bAtOk ss x y = false) : bAtR ss x y = bd0 := by unfold bAtR; rw [h]; rfl
/-- A border and a word are returned. -/
def BordRet1 (w : World) (R : Bord) (ok : Bool) (e : Ending) (w' : World) : Prop := e = .returned (.tuple #[.agg #[.int .i64 R.1, .int .i64 R.2.1, .string R.2.2], .bool ok]) ∧ w.Ext w'
end Go.Proofs.Ytelaoimcaidoiaa
