/- An element is drawn: it is valid. -/
import Derived.Test.YtkpgelhmeokemaaGenE
namespace Go.Proofs.Ytkpgelhmeokemaa
open Go Go.RowKit
theorem befB_iff {p q : Int × Int} : befB p q = true ↔ p.2 < q.2 ∨ (p.2 = q.2 ∧ p.1 < q.1) := by
  unfold befB
  rw [Bool.or_eq_true, Bool.and_eq_true, decide_eq_true_iff, decide_eq_true_iff, decide_eq_true_iff]
theorem befB_trans {p q r : Int × Int} (h1 : befB p q = true) (h2 : befB q r = true) : befB p r = true := by
  rw [befB_iff] at *
  omega
theorem befB_total {p q : Int × Int} (h1 : befB p q = false) (h2 : p ≠ q) : befB q p = true := by
  rw [befB_iff]
  have h3 : ¬ (p.2 < q.2 ∨ (p.2 = q.2 ∧ p.1 < q.1)) := fun h => by rw [befB_iff.2 h] at h1; cases h1
  obtain ⟨a, b⟩ := p
  obtain ⟨c, d⟩ := q
  simp only [ne_eq, Prod.mk.injEq] at h2 h3 ⊢
  omega
theorem putL_cons (p o : Int × Int) (ps : List (Int × Int)) : putL (p :: ps) o = if befB p o then p :: putL ps o else if p = o then p :: ps else o :: p :: ps := by
  by_cases hb : befB p o = true
  · have e : putAt o (p :: ps) = putAt o ps + 1 := by
      show (if befB p o then putAt o ps + 1 else 0) = _
      rw [if_pos hb]
    unfold putL
    simp only [e, if_pos hb, List.length_cons, List.getD_cons_succ, Nat.add_lt_add_iff_right, List.take_succ_cons, List.drop_succ_cons]
    split <;> simp
  · have e : putAt o (p :: ps) = 0 := by
      show (if befB p o then putAt o ps + 1 else 0) = _
      rw [if_neg hb]
    unfold putL
    simp only [e, if_neg hb]
    simp
theorem putL_mem {o x : Int × Int} : ∀ {ps : List (Int × Int)}, x ∈ putL ps o → x ∈ ps ∨ x = o
  | [], h => by simp [putL, putAt] at h; exact .inr h
  | p :: ps, h => by
    rw [putL_cons] at h
    split at h
    · rcases List.mem_cons.1 h with rfl | h
      · exact .inl (List.mem_cons_self ..)
      · rcases putL_mem h with h | h
        · exact .inl (List.mem_cons_of_mem _ h)
        · exact .inr h
    · split at h
      · exact .inl h
      · rcases List.mem_cons.1 h with rfl | h
        · exact .inr rfl
        · exact .inl h
theorem putL_sorted {o : Int × Int} : ∀ {ps : List (Int × Int)}, ps.Pairwise (fun a b => befB a b = true) → (putL ps o).Pairwise (fun a b => befB a b = true)
  | [], _ => by simp [putL, putAt]
  | p :: ps, h => by
    rw [List.pairwise_cons] at h
    rw [putL_cons]
    split
    · rename_i hb
      rw [List.pairwise_cons]
      refine ⟨fun x hx => ?_, putL_sorted h.2⟩
      rcases putL_mem hx with hx | rfl
      · exact h.1 x hx
      · exact hb
    · rename_i hb
      split
      · exact List.pairwise_cons.2 h
      · rename_i hne
        have hop := befB_total (by simpa using hb) hne
        refine List.pairwise_cons.2 ⟨fun x hx => ?_, List.pairwise_cons.2 h⟩
        rcases List.mem_cons.1 hx with rfl | hx
        · exact hop
        · exact befB_trans hop (h.1 x hx)
theorem putL_len (ps : List (Int × Int)) (o : Int × Int) : 1 ≤ (putL ps o).length ∧ ps.length ≤ (putL ps o).length ∧ (putL ps o).length ≤ ps.length + 1 := by
  have := putAt_le o ps
  unfold putL
  split
  · omega
  · simp
    omega
/-- Sorted offsets near by. -/
def Offs (ps : List (Int × Int)) : Prop := ps.Pairwise (fun a b => befB a b = true) ∧ ∀ x, x ∈ ps → offOk x = true
theorem Offs.put {ps : List (Int × Int)} (h : Offs ps) {o : Int × Int} (ho : offOk o = true) : Offs (putL ps o) :=
  ⟨putL_sorted h.1, fun x hx => by
    rcases putL_mem hx with hx | rfl
    · exact h.2 x hx
    · exact ho⟩
theorem Offs.ok {ps : List (Int × Int)} (h : Offs ps) (h1 : 1 ≤ ps.length) (h2 : ps.length ≤ 50) : elemOk ps = true := by
  unfold elemOk
  rw [inB_true.2 (by omega), Bool.and_true, elemOk_all]
  intro i hi
  unfold elemAt
  rw [h.2 _ (getD_mem hi), Bool.true_and]
  by_cases h0 : i = 0
  · rw [decide_eq_true h0, Bool.true_or]
  · rw [decide_eq_false h0, Bool.false_or]
    have := List.pairwise_iff_getElem.1 h.1 (i - 1) i (by omega) hi (by omega)
    rw [List.getD_eq_getElem?_getD, List.getD_eq_getElem?_getD, List.getElem?_eq_getElem hi, List.getElem?_eq_getElem (show i - 1 < ps.length by omega)]
    exact this
theorem _root_.Go.Two.set1 {w : World} {p : Nat} {e : TypeId} {u v : Value} (h : Two w p e u v) (b : Value) : Two (w.setCell ⟨p, 1, none⟩ b) p e u b := by
  unfold Two at *
  simp [World.setCell, Array.getElem?_modify, h]
/-- An element under way. -/
structure ElSt (w : World) (p q2 q4 g cap n : Nat) (ps : List (Int × Int)) (wr : World) : Prop where
  src : SrcSt w p n wr
  one : One wr q2 48 (.slice none 0 0)
  cell : One wr q4 48 (.slice (some ⟨g, 0, none⟩) ps.length cap)
  row : GrowP w.heap.size 45 wr (.slice (some ⟨g, 0, none⟩) ps.length cap) ps
  ne : q2 ≠ q4 ∧ w.heap.size ≤ q2 ∧ w.heap.size ≤ q4 ∧ q2 ≠ p ∧ q4 ≠ p
section
variable {w : World} {p q2 q4 g cap n : Nat} {ps : List (Int × Int)} {wr w' : World}
theorem SrcSt.apart {wB : World} {lo sz m k : Nat} {xs : List Value} (h : SrcSt wB p n wr) (ho : wr.ownsRow lo 45 sz (.slice (some ⟨g, 0, none⟩) m cap) k xs) : g ≠ p := by
  obtain ⟨a, c, m, seed, zs, h1, -⟩ := h.src
  have := World.ownsRow.ne ho h1 (by decide)
  exact fun e => this (by rw [← e]; rfl)
theorem ElSt.lt (h : ElSt w p q2 q4 g cap n ps wr) : w.heap.size ≤ g ∧ g < wr.heap.size ∧ q2 < wr.heap.size ∧ q4 < wr.heap.size ∧ p < wr.heap.size ∧ w.heap.size ≤ p :=
  ⟨(World.ownsRow.blockLt h.row).1, (World.ownsRow.blockLt h.row).2, h.one.lt, h.cell.lt, h.src.lt, h.src.lo⟩
theorem ElSt.call (h : ElSt w p q2 q4 g cap n ps wr) (hw : Wrote (fun k => k = p) wr w') {n' : Nat} (hs : SrcSt w p n' w') : ElSt w p q2 q4 g cap n' ps w' := by
  obtain ⟨a1, a2, a3, a4, a5⟩ := h.ne
  have hg := h.src.apart h.row
  have hlt := World.ownsRow.blockLt h.row
  exact ⟨hs, h.one.keep (hw.block _ h.one.lt a4), h.cell.keep (hw.block _ h.cell.lt a5), World.ownsRow.keep h.row fun k hk => by have e : g = k := Option.some.inj hk; subst e; exact hw.block _ hlt.2 hg, h.ne⟩
theorem ElSt.ext (h : ElSt w p q2 q4 g cap n ps wr) (hx : wr.Ext w') : ElSt w p q2 q4 g cap n ps w' := h.call (hx.wrote _) (h.src.ext hx)
theorem ElSt.more (h : ElSt w p q2 q4 g cap n ps wr) {n' : Nat} (hn : n ≤ n') : ElSt w p q2 q4 g cap n' ps wr := ⟨h.src.more hn, h.one, h.cell, h.row, h.ne⟩
/-- A cell of another block is set. -/
theorem ElSt.other (h : ElSt w p q2 q4 g cap n ps wr) {a : Addr} (h1 : a.block ≠ p) (h2 : a.block ≠ q2) (h3 : a.block ≠ q4) (h4 : a.block ≠ g) (h5 : w.heap.size ≤ a.block) (v : Value) : ElSt w p q2 q4 g cap n ps (wr.setCell a v) :=
  ⟨h.src.wrote (Wrote.setCell (S := fun k => k = a.block) (Wrote.refl _ wr) (p := a) rfl v) fun k hk hl => by omega, h.one.other h2 v, h.cell.other h3 v, GrowP.setCell h.row (fun e => h4 (Option.some.inj e)) v, h.ne⟩
/-- Behind a put. -/
theorem ElSt.put (h : ElSt w p q2 q4 g cap n ps wr) {g' cap' : Nat} {qs : List (Int × Int)}
    (hg : GrowP w.heap.size 45 w' (.slice (some ⟨g', 0, none⟩) qs.length cap') qs) (hw : Wrote (fun k => k = g) wr w') :
    w'.cell? ⟨q4, 0, none⟩ = some (.slice (some ⟨g, 0, none⟩) ps.length cap) ∧ w'.frozen? ⟨q4, 0, none⟩ = false ∧ Hid (ElSt w p q2 q4 g' cap' n qs (w'.setCell ⟨q4, 0, none⟩ (.slice (some ⟨g', 0, none⟩) qs.length cap'))) := by
  obtain ⟨a1, a2, a3, a4, a5⟩ := h.ne
  have hrow := h.row
  have hone := h.cell
  have hlt := World.ownsRow.blockLt hrow
  have g2 : q2 ≠ g := fun e => World.ownsRow.ne hrow h.one (by decide) (by rw [e]; rfl)
  have g4 : q4 ≠ g := fun e => World.ownsRow.ne hrow hone (by decide) (by rw [e]; rfl)
  have hgp := h.src.apart hrow
  have ho4 := hone.keep (hw.block _ hone.lt g4)
  have hx := h.src.x.size
  have hsrc := h.src.wrote hw fun k hk hl => by omega
  have hx' := hsrc.x.size
  have ho2 := h.one.keep (hw.block _ h.one.lt g2)
  have n4 : some q4 ≠ (Value.slice (some ⟨g', 0, none⟩) qs.length cap').ownBlock := World.ownsRow.ne hg ho4 (by decide)
  have hw4 : Wrote (fun k => k = q4) w' (w'.setCell ⟨q4, 0, none⟩ (.slice (some ⟨g', 0, none⟩) qs.length cap')) := Wrote.setCell (S := fun k => k = q4) (Wrote.refl _ w') (p := ⟨q4, 0, none⟩) rfl _
  exact ⟨ho4.cell, ho4.free, hsrc.wrote hw4 fun k hk hl => by omega, ho2.other (by simp only; omega) _, ho4.set _, GrowP.setCell hg n4 _, h.ne⟩
end
/-- A drawn element. -/
def ElemRet (w : World) (e : Ending) (w' : World) : Prop := ∃ (a : Option Addr) (c : Nat) (os : List (Int × Int)), e = .returned (.agg #[.slice a os.length c]) ∧ elemOk os = true ∧ (∀ x, x ∈ os → -2 ≤ x.1 ∧ x.1 ≤ 2 ∧ -2 ≤ x.2 ∧ x.2 ≤ 2) ∧ os.length ≤ 4 ∧ w.Ext w' ∧ RowP w' a os
def Nears (ps : List (Int × Int)) : Prop := Offs ps ∧ ∀ x, x ∈ ps → -2 ≤ x.1 ∧ x.1 ≤ 2 ∧ -2 ≤ x.2 ∧ x.2 ≤ 2
theorem Nears.put {ps : List (Int × Int)} (h : Nears ps) {x y : Int} (hx : -2 ≤ x ∧ x ≤ 2 ∧ -2 ≤ y ∧ y ≤ 2) : Nears (putL ps (x, y)) :=
  ⟨h.1.put (by unfold offOk; rw [inB_true.2 (by simp only; omega), inB_true.2 (by simp only; omega)]; rfl), fun z hz => by
    rcases putL_mem hz with hz | rfl
    · exact h.2 z hz
    · exact hx⟩
set_option maxRecDepth 5000 in
set_option maxHeartbeats 1600000 in
theorem b10Element_any (a : Option Addr) (c : Nat) (zs : List Int) (w : World) (h : CodeAt w a zs) :
    Calls Try.prog 18 #[.slice a zs.length c] w (ElemRet w) := by
  obtain ⟨W0, hW0⟩ : ∃ W0, W0 = w.alloc (.cells #[.slice none 0 0] 48) := ⟨_, rfl⟩
  have hx0 : w.Ext W0 := by rw [hW0]; repeat (first | exact World.Ext.refl _ | exact ⟨_, rfl⟩ | assumption | refine World.Ext.over ?_ _ | refine World.Ext.drewN ?_ _ | refine World.Ext.drew ?_ | refine World.Ext.alloc ?_ _ | refine World.Ext.setCell ?_ (by simp) _)
  have hsz0 : W0.heap.size = w.heap.size + 1 := by rw [hW0]; simp
  have hone : One W0 w.heap.size 48 (.slice none 0 0) := by rw [hW0]; exact One.new _ _ _ _ rfl
  have HF := Lib.hid (from_any a c zs w W0 hx0 h)
  have HP : Hid (∀ w' n' N, n' ≤ 2000000 → SrcSt w W0.heap.size n' w' → Calls Try.prog 44 #[.pointer (some ⟨W0.heap.size, 0, none⟩), .int .i64 N] w' (PickRet w W0.heap.size (n' + 2) w' N)) := fun w' n' N h1 h2 => pick_any w W0.heap.size n' N w' (by omega) h2
  have HPUT := Lib.hid (fun g cap ps ox oy w' hn hlo hg => l03Put_any w.heap.size g cap ps ox oy w' hn hlo hg)
  have HONE := Lib.hid hone
  clear hone h
  rw [hsz0] at HF HP
  clear hsz0
  go_enter Try.func18, Try.ntmps18
  go_wp2_with fail
  rw [← hW0]
  clear hW0
  refine HF.out.mono ?_
  rintro e w1 ⟨rfl, hx1, hs⟩
  obtain ⟨w2, hw2⟩ : ∃ w2, w2 = (w1.alloc (.cells #[] 45)).alloc (.cells #[.slice (some ⟨w1.heap.size, 0, none⟩) 0 0] 48) := ⟨_, rfl⟩
  have hx2 : w1.Ext w2 := by rw [hw2]; repeat (first | exact World.Ext.refl _ | exact ⟨_, rfl⟩ | assumption | refine World.Ext.over ?_ _ | refine World.Ext.drewN ?_ _ | refine World.Ext.drew ?_ | refine World.Ext.alloc ?_ _ | refine World.Ext.setCell ?_ (by simp) _)
  have hsz1 := hx1.size
  have hlt1 := hs.lt
  have HE0 : Hid (ElSt w (w.heap.size + 1) w.heap.size (w1.heap.size + 1) w1.heap.size 0 0 [] w2) := by
    refine ⟨hs.ext hx2, (HONE.out.ext hx1).ext hx2, ?_, ?_, by omega⟩
    · rw [hw2]; exact One.new _ _ _ _ (by simp)
    · rw [hw2]; exact GrowP.ext (GrowP.empty w1 (by omega)) (by repeat (first | exact World.Ext.refl _ | exact ⟨_, rfl⟩ | assumption | refine World.Ext.over ?_ _ | refine World.Ext.drewN ?_ _ | refine World.Ext.drew ?_ | refine World.Ext.alloc ?_ _ | refine World.Ext.setCell ?_ (by simp) _))
  have HW2 := Lib.hid hw2
  clear hx1 hs hx2 HF HONE hw2
  go_wp2_with fail
  rw [← HW2.out]
  clear HW2
  generalize hq4 : w1.heap.size + 1 = q4 at *
  refine (HP.out w2 0 4 (by omega) HE0.out.src).mono ?_
  rintro e w3 ⟨r, rfl, r0, r1, hw, hs⟩
  obtain ⟨k, rfl⟩ : ∃ k : Nat, r = k := ⟨r.toNat, by omega⟩
  have hk3 : k ≤ 3 := by omega
  have HE3 := Lib.hid (HE0.out.call hw hs)
  have HN0 : Hid (Nears [] ∧ ([] : List (Int × Int)).length + (k + 1) = k + 1) := ⟨⟨⟨List.Pairwise.nil, fun x hx => by cases hx⟩, fun x hx => by cases hx⟩, by simp⟩
  clear hw hs HE0 r0 r1
  go_wp2
  go_loopw [5] (fun i wr => ∃ (j g cap : Nat) (ps : List (Int × Int)), j ≤ k + 1 ∧ i = .int .i64 j ∧ Hid (Nears ps ∧ ps.length + j ≤ k + 1 ∧ (j < k + 1 → 1 ≤ ps.length)) ∧ Hid (ElSt w (w.heap.size + 1) w.heap.size q4 g cap (2 + 4 * (k + 1 - j)) ps wr)) (fun i _ => (intOf i).toNat)
  case atStart => exact ⟨k + 1, _, _, [], Nat.le_refl _, by rw [Int.natCast_add]; simp [Int.add_comm], ⟨HN0.out.1, by simp, fun h => absurd h (by omega)⟩, by rw [Nat.sub_self]; exact HE3⟩
  case round =>
    clear HE3 HN0
    obtain ⟨j, g, cap, ps, hj, rfl, HN, HE⟩ := hrel
    obtain ⟨w4, rfl⟩ : ∃ w4 : World, w4 = wr := ⟨_, rfl⟩
    have hpl : ps.length ≤ 4 := by have := HN.out.2.1; omega
    by_cases hlt : 0 < j
    · have hlt' : (0 : Int) < (j : Int) := by omega
      go_wp2_with fail
      refine (HP.out w4 (2 + 4 * (k + 1 - j)) 5 (by omega) HE.out.src).mono ?_
      rintro e w5 ⟨x, rfl, x0, x1, hw, hs⟩
      have HE5 := Lib.hid (HE.out.call hw hs)
      have x2 : x < 5 := by omega
      clear hw hs HE x1
      obtain ⟨w6, hw6⟩ : ∃ w6, w6 = w5.alloc (.cells #[.int .i64 (x - 2), .int .i64 0] 45) := ⟨_, rfl⟩
      have hx6 : w5.Ext w6 := by rw [hw6]; repeat (first | exact World.Ext.refl _ | exact ⟨_, rfl⟩ | assumption | refine World.Ext.over ?_ _ | refine World.Ext.drewN ?_ _ | refine World.Ext.drew ?_ | refine World.Ext.alloc ?_ _ | refine World.Ext.setCell ?_ (by simp) _)
      have HE6 := Lib.hid (HE5.out.ext hx6)
      have HT6 : Hid (Two w6 w5.heap.size 45 (.int .i64 (x - 2)) (.int .i64 0)) := by rw [hw6]; exact Two.new _ _ _ _ _ rfl
      have HLT := Lib.hid HE5.out.lt
      clear hx6 HE5
      go_wp2_with fail
      rw [← hw6]
      clear hw6
      generalize hq6 : w5.heap.size = q6 at *
      clear hq6
      refine (HP.out w6 _ 5 (by omega) HE6.out.src).mono ?_
      rintro e w7 ⟨y, rfl, y0, y1, hw, hs⟩
      have HE7 := Lib.hid (HE6.out.call hw hs)
      have y2 : y < 5 := by omega
      have hT7 : Two w7 q6 45 (.int .i64 (x - 2)) (.int .i64 0) := HT6.out.keep (hw.block _ HT6.out.lt (by have := HLT.out; omega))
      have c0 := hT7.cell0
      have c1 := hT7.cell1
      have f1 := hT7.free 1
      have hT8 : Two (w7.setCell ⟨q6, 1, none⟩ (.int .i64 (y - 2))) q6 45 (.int .i64 (x - 2)) (.int .i64 (y - 2)) := hT7.set1 _
      have d0 := hT8.cell0
      have d1 := hT8.cell1
      have HE8 : Hid (ElSt w (w.heap.size + 1) w.heap.size q4 g cap (2 + 4 * (k + 1 - (j - 1))) ps (w7.setCell ⟨q6, 1, none⟩ (.int .i64 (y - 2)))) := (HE7.out.more (by omega)).other (by have := HLT.out; simp only; omega) (by have := HLT.out; simp only; omega) (by have := HLT.out; simp only; omega) (by have := HLT.out; simp only; omega) (by have := HLT.out; simp only; omega) _
      have d4 := HE8.out.cell.cell
      clear hw hs HE6 y1 HT6 hT7 hT8
      go_wp2_with fail
      clear c0 c1 f1 d0 d1 d4 HE7
      generalize w7.setCell ⟨q6, 1, none⟩ (.int .i64 (y - 2)) = w8 at *
      refine (HPUT.out g cap ps (x - 2) (y - 2) w8 (by omega) HE8.out.src.x.size HE8.out.row).mono ?_
      rintro e w9 ⟨g9, cap9, rfl, hg9, hw9⟩
      obtain ⟨e1, e2, HE9⟩ := HE8.out.put hg9 hw9
      have HN9 : Hid (Nears (putL ps (x - 2, y - 2)) ∧ (putL ps (x - 2, y - 2)).length + (j - 1) ≤ k + 1 ∧ (j - 1 < k + 1 → 1 ≤ (putL ps (x - 2, y - 2)).length)) := by
        obtain ⟨n1, n2, n3⟩ := HN.out
        obtain ⟨l1, l2, l3⟩ := putL_len ps (x - 2, y - 2)
        exact ⟨n1.put (by omega), by omega, fun _ => l1⟩
      clear hg9 hw9 HE8 HN
      generalize putL ps (x - 2, y - 2) = qs at *
      go_wp2
      go_roundw
      case rel => exact ⟨j - 1, g9, cap9, qs, by omega, by go_num, HN9, HE9⟩
      case measure => simp [intOf]; omega
    · have : j = 0 := by omega
      subst this
      have d4 := HE.out.cell.cell
      have hone := HE.out.one
      have hlt2 := HE.out.lt
      have hone2 : w4.cell? ⟨w.heap.size, 0, none⟩ = some (.slice none 0 0) ∧ w4.frozen? ⟨w.heap.size, 0, none⟩ = false := ⟨hone.cell, hone.free⟩
      obtain ⟨r1, r2⟩ := hone2
      have r3 := (hone.set (.slice (some ⟨g, 0, none⟩) ps.length cap)).cell
      have HR : Hid (w.Ext (w4.setCell ⟨w.heap.size, 0, none⟩ (.slice (some ⟨g, 0, none⟩) ps.length cap)) ∧ RowP (w4.setCell ⟨w.heap.size, 0, none⟩ (.slice (some ⟨g, 0, none⟩) ps.length cap)) (some ⟨g, 0, none⟩) ps) := by
        refine ⟨HE.out.src.x.setCell (Nat.le_refl _) _, (GrowP.own (GrowP.setCell HE.out.row (fun e => ?_) _)).row⟩
        exact World.ownsRow.ne HE.out.row hone (by decide) e
      have HNN : Hid (elemOk ps = true ∧ (∀ x, x ∈ ps → -2 ≤ x.1 ∧ x.1 ≤ 2 ∧ -2 ≤ x.2 ∧ x.2 ≤ 2)) := ⟨HN.out.1.1.ok (HN.out.2.2 (by omega)) (by omega), HN.out.1.2⟩
      clear hone hlt2 HE HN
      go_wp2
      exact bodyPost_ret (v := .agg #[.slice (some ⟨g, 0, none⟩) ps.length cap]) (by simp [results, Try.results18, go_sem, r3]) rfl ⟨_, cap, ps, rfl, HNN.out.1, HNN.out.2, hpl, HR.out.1, HR.out.2⟩
end Go.Proofs.Ytkpgelhmeokemaa
