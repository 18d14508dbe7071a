/- The reference draws rings, and pictures that may be wrong. -/
import Derived.Test.YthgkmaccbcpaeaaGenA
import Derived.Test.YthgkmaccbcpaeaaRowK
import Derived.Deep.RegionLaw
import Derived.Deep.DeepCutAuto
import Derived.Deep.CutBlock
import Derived.Test.YthgkmaccbcpaeaaListS
import Derived.Test.YthgkmaccbcpaeaaPasP
namespace Go.Proofs.Ythgkmaccbcpaeaa
open Go Go.RowKit
/-- A call that draws, its result's cell. -/
structure RsSt (wB w0 : World) (p q n : Nat) (wr : World) : Prop where
  wrote : Wrote (fun k => k = p) w0 wr
  src : SrcSt wB p n wr
  one : One wr q 26 (.slice none 0 0)
  ap : p < w0.heap.size ∧ w0.heap.size ≤ q
section
variable {wB w0 : World} {p q n : Nat} {wr w' : World}
theorem RsSt.call (h : RsSt wB w0 p q n wr) (hw : Wrote (fun k => k = p) wr w') {n' : Nat} (hs : SrcSt wB p n' w') : RsSt wB w0 p q n' w' :=
  ⟨h.wrote.trans hw, hs, h.one.keep (hw.block q h.one.lt (by have := h.ap; omega)), h.ap⟩
theorem RsSt.ext (h : RsSt wB w0 p q n wr) (hx : wr.Ext w') : RsSt wB w0 p q n w' := h.call (hx.wrote _) (h.src.ext hx)
theorem RsSt.more (h : RsSt wB w0 p q n wr) {n' : Nat} (hn : n ≤ n') : RsSt wB w0 p q n' wr := ⟨h.wrote, h.src.more hn, h.one, h.ap⟩
theorem RsSt.start (h : SrcSt wB p n w0) : RsSt wB w0 p w0.heap.size n (w0.alloc (.cells #[.slice none 0 0] 26)) :=
  have hx : w0.Ext (w0.alloc (.cells #[.slice none 0 0] 26)) := by repeat (first | exact World.Ext.refl _ | exact ⟨_, rfl⟩ | assumption | refine World.Ext.over ?_ _ | refine World.Ext.drewN ?_ _ | refine World.Ext.drew ?_ | refine World.Ext.alloc ?_ _ | refine World.Ext.setCell ?_ (by simp) _)
  ⟨hx.wrote _, h.ext hx, One.new _ _ _ _ rfl, h.lt, Nat.le_refl _⟩
/-- Something is written that is neither the source nor the result's cell. -/
theorem RsSt.wrote2 {S : Nat → Prop} (h : RsSt wB w0 p q n wr) (hw : Wrote S wr w') (hs : ∀ k, S k → k < wr.heap.size → w0.heap.size ≤ k ∧ k ≠ q) : RsSt wB w0 p q n w' := by
  have hap := h.ap
  have hx := h.wrote.size
  refine ⟨?_, h.src.wrote hw fun k hk hl => ?_, h.one.keep (hw.block q h.one.lt fun hS => (hs q hS h.one.lt).2 rfl), h.ap⟩
  · exact ⟨by rw [hw.os, h.wrote.os], by rw [hw.tape, h.wrote.tape], by rw [hw.output, h.wrote.output], Nat.le_trans hx hw.size, fun k hk hp => by
      rw [hw.block k (by omega) fun hS => by have := (hs k hS (by omega)).1; omega]
      exact h.wrote.block k hk hp⟩
  · have := (hs k hk hl).1
    have := h.src.lo
    omega
theorem RsSt.store {a : Option Addr} {xs : List ByteArray} {n3 c3 lo : Nat} (h : RsSt wB w0 p q n wr) (ho : GrowOf Value.string lo 9 wr (.slice a n3 c3) xs) (hlo : w0.heap.size ≤ lo) (v : Value) :
    wr.cell? ⟨q, 0, none⟩ = some (.slice none 0 0) ∧ wr.frozen? ⟨q, 0, none⟩ = false ∧ (wr.setCell ⟨q, 0, none⟩ v).cell? ⟨q, 0, none⟩ = some v ∧
      Hid (Wrote (fun k => k = p) w0 (wr.setCell ⟨q, 0, none⟩ v) ∧ SrcSt wB p n (wr.setCell ⟨q, 0, none⟩ v) ∧ GrowOf Value.string w0.heap.size 9 (wr.setCell ⟨q, 0, none⟩ v) (.slice a n3 c3) xs) := by
  have hap := h.ap
  have hw : Wrote (fun k => k = q) wr (wr.setCell ⟨q, 0, none⟩ v) := Wrote.setCell (S := fun k => k = q) (Wrote.refl _ wr) (p := ⟨q, 0, none⟩) rfl _
  refine ⟨h.one.cell, h.one.free, (h.one.set v).cell, ?_, h.src.wrote hw fun k hk hl => ?_, GrowOf.lower (GrowOf.setCell ho (GrowOf.ne ho h.one (by decide)) v) hlo⟩
  · exact ((h.wrote.mono (T := fun k => k = p ∨ w0.heap.size ≤ k) fun k _ hk => .inl hk).setCell (p := ⟨q, 0, none⟩) (.inr (show w0.heap.size ≤ q by omega)) _).mono fun k hk hs => by omega
  · have := h.src.lo
    omega
end
def DrawnPic (wB w : World) (p n : Nat) (P : List ByteArray → Prop) (e : Ending) (w' : World) : Prop :=
  ∃ (a : Option Addr) (c : Nat) (ss : List ByteArray), P ss ∧ e = .returned (.agg #[.slice a ss.length c]) ∧ Wrote (fun k => k = p) w w' ∧ SrcSt wB p n w' ∧ GrowOf Value.string w.heap.size 9 w' (.slice a ss.length c) ss
set_option maxRecDepth 5000 in
theorem drawOk_any (wB : World) (p n : Nat) (w : World) (hn : n ≤ 100000) (h : SrcSt wB p n w) :
    Calls Try.prog 225 #[.pointer (some ⟨p, 0, none⟩)] w (DrawnPic wB w p (n + 3100) (PicIn 16)) := by
  obtain ⟨W0, hW0⟩ : ∃ W0, W0 = w.alloc (.cells #[.slice none 0 0] 26) := ⟨_, rfl⟩
  have HR0 : Hid (RsSt wB w p w.heap.size n W0) := by rw [hW0]; exact RsSt.start h
  have HP : Hid (∀ w' n' N, n' ≤ 2000000 → SrcSt wB p n' w' → Calls Try.prog 80 #[.pointer (some ⟨p, 0, none⟩), .int .i64 N] w' (PickRet wB p (n' + 2) w' N)) := fun w' n' N h1 h2 => pick_any wB p n' N w' (by omega) h2
  have HO : Hid (∀ w' n' N, n' ≤ 2000000 → SrcSt wB p n' w' → Calls Try.prog 170 #[.pointer (some ⟨p, 0, none⟩), .int .i64 N] w' fun e w'' => ∃ b : Bool, e = .returned (.bool b) ∧ Wrote (fun k => k = p) w' w'' ∧ SrcSt wB p (n' + 2) w'') := fun w' n' N h1 h2 => one_any wB p n' N w' (by omega) h2
  have HDR : Hid (∀ w' (X Y : Nat), SrcSt wB p (n + 6) w' → 1 ≤ X → X ≤ 16 → 1 ≤ Y → Y ≤ 16 → Calls Try.prog 81 #[.pointer (some ⟨p, 0, none⟩), .int .i64 X, .int .i64 Y] w' (DrawRet wB w' p (n + 3006) X Y)) := fun w' X Y hs h1 h2 h3 h4 => drawPicture_any wB p (n + 6) X Y w' h1 h3 h2 h4 (by omega) hs
  clear h
  go_enter Try.func225, Try.ntmps225
  go_wp2_with fail
  rw [← hW0]
  clear hW0
  refine (HP.out W0 n 7 (by omega) HR0.out.src).mono ?_
  rintro e w1 ⟨x, rfl, x0, x1, hw, hs⟩
  have HR1 := Lib.hid (HR0.out.call hw hs)
  obtain ⟨X, hX⟩ : ∃ X : Nat, x = X := ⟨x.toNat, by omega⟩
  subst hX
  have hX6 : X ≤ 6 := by omega
  clear hw hs HR0 x0 x1
  go_wp2_with fail
  refine (HP.out w1 (n + 2) 7 (by omega) HR1.out.src).mono ?_
  rintro e w2 ⟨y, rfl, y0, y1, hw, hs⟩
  have HR2 := Lib.hid (HR1.out.call hw hs)
  obtain ⟨Y, hY⟩ : ∃ Y : Nat, y = Y := ⟨y.toNat, by omega⟩
  subst hY
  have hY6 : Y ≤ 6 := by omega
  clear hw hs HR1 y0 y1
  go_wp2_with fail
  refine (HO.out w2 (n + 2 + 2) 20 (by omega) HR2.out.src).mono ?_
  rintro e w3 ⟨b, rfl, hw, hs⟩
  have HR3 := Lib.hid (HR2.out.call hw hs)
  clear hw hs HR2 HP HO
  have HFIN : Hid (∀ (w4 : World) (a4 : Option Addr) (c4 X Y : Nat) (l : List Bool), 1 ≤ X → X ≤ 16 → 1 ≤ Y → Y ≤ 16 → l.length = X * Y → Wrote (fun k => k = p) w3 w4 → SrcSt wB p (n + 3006) w4 → GrowOf Value.string w3.heap.size 9 w4 (.slice a4 Y c4) (picRows X Y l) →
      w4.cell? ⟨w.heap.size, 0, none⟩ = some (.slice none 0 0) ∧ w4.frozen? ⟨w.heap.size, 0, none⟩ = false ∧ (w4.setCell ⟨w.heap.size, 0, none⟩ (.slice a4 Y c4)).cell? ⟨w.heap.size, 0, none⟩ = some (.slice a4 Y c4) ∧
      Hid (DrawnPic wB w p (n + 3100) (PicIn 16) (.returned (.agg #[.slice a4 Y c4])) (w4.setCell ⟨w.heap.size, 0, none⟩ (.slice a4 Y c4)))) := fun w4 a4 c4 X Y l h1 h2 h3 h4 hl hw hs ho => by
    obtain ⟨r1, r2, r3, HR⟩ := (HR3.out.call hw hs).store ho HR3.out.wrote.size (.slice a4 Y c4)
    exact ⟨r1, r2, r3, a4, c4, picRows X Y l, ⟨picOk_rows h1 h2 h3 h4 hl, by rw [picRows_len]; exact h4, by rw [picW_rows (by omega) hl]; exact h2⟩, by rw [picRows_len], HR.out.1, HR.out.2.1.more (by omega), by rw [picRows_len]; exact HR.out.2.2⟩
  cases b
  · have HC := Lib.hid (HDR.out w3 (X + 1) (Y + 1) HR3.out.src (by omega) (by omega) (by omega) (by omega))
    go_wp2_with fail
    rw [show (1 : Int) + (X : Int) = ((X + 1 : Nat) : Int) by omega, show (1 : Int) + (Y : Int) = ((Y + 1 : Nat) : Int) by omega]
    refine HC.out.mono ?_
    rintro e w4 ⟨a4, c4, l, hl, rfl, hw, hs, ho⟩
    obtain ⟨r1, r2, r3, HR⟩ := HFIN.out w4 a4 c4 (X + 1) (Y + 1) l (by omega) (by omega) (by omega) (by omega) hl hw hs ho
    clear hw hs ho HFIN HC HDR
    go_wp2
    exact bodyPost_ret (v := .agg #[.slice a4 (Y + 1) c4]) (by simp [results, Try.results225, go_sem, r3]) rfl HR.out
  · have HC := Lib.hid (HDR.out w3 16 16 HR3.out.src (by omega) (by omega) (by omega) (by omega))
    go_wp2_with fail
    show Calls _ _ #[.pointer (some ⟨p, 0, none⟩), .int .i64 ((16 : Nat) : Int), .int .i64 ((16 : Nat) : Int)] _ _
    refine HC.out.mono ?_
    rintro e w4 ⟨a4, c4, l, hl, rfl, hw, hs, ho⟩
    obtain ⟨r1, r2, r3, HR⟩ := HFIN.out w4 a4 c4 16 16 l (by omega) (by omega) (by omega) (by omega) hl hw hs ho
    clear hw hs ho HFIN HC HDR
    go_wp2
    exact bodyPost_ret (v := .agg #[.slice a4 16 c4]) (by simp [results, Try.results225, go_sem, r3]) rfl HR.out
theorem _root_.Go.World.setCell_alloc_comm {w : World} {q i : Nat} {v : Value} {o : Obj} (h : q < w.heap.size) : (w.alloc o).setCell ⟨q, i, none⟩ v = (w.setCell ⟨q, i, none⟩ v).alloc o := World.setCell_alloc_past o q i v h
/-- A drawn picture under way. -/
structure LdSt (wB w0 : World) (p q q3 n : Nat) (a : Option Addr) (c : Nat) (ss : List ByteArray) (wr : World) : Prop where
  rs : RsSt wB w0 p q n wr
  cell : One wr q3 26 (.slice a ss.length c)
  row : GrowOf Value.string w0.heap.size 9 wr (.slice a ss.length c) ss
  ne : q3 ≠ q ∧ q3 ≠ p ∧ w0.heap.size ≤ q3
  few : ss.length ≤ 17 ∧ ∀ y, (ss.getD y ByteArray.empty).size ≤ 40
section
variable {wB w0 : World} {p q q3 n : Nat} {a : Option Addr} {c : Nat} {ss : List ByteArray} {wr w' : World}
theorem SrcSt.apartS {lo m k : Nat} {xs : List Value} (h : SrcSt wB p n wr) (ho : wr.ownsRow lo 9 1 (.slice a m c) k xs) : ∀ g, (Value.slice a m c).ownBlock = some g → g ≠ p := fun g hg e => by
  obtain ⟨a, c, m, seed, zs, h1, -⟩ := h.src
  exact World.ownsRow.ne ho h1 (by decide) (by rw [← e]; exact hg.symm)
theorem LdSt.call (h : LdSt wB w0 p q q3 n a c ss wr) (hw : Wrote (fun k => k = p) wr w') {n' : Nat} (hs : SrcSt wB p n' w') : LdSt wB w0 p q q3 n' a c ss w' :=
  ⟨h.rs.call hw hs, h.cell.keep (hw.block q3 h.cell.lt h.ne.2.1), GrowOf.keep h.row fun k hk => hw.block k (GrowOf.block h.row hk).2 (h.rs.src.apartS h.row k hk), h.ne, h.few⟩
theorem LdSt.more (h : LdSt wB w0 p q q3 n a c ss wr) {n' : Nat} (hn : n ≤ n') : LdSt wB w0 p q q3 n' a c ss wr := ⟨h.rs.more hn, h.cell, h.row, h.ne, h.few⟩
theorem _root_.Go.GrowOf.one {α : Type} {f : α → Value} (w : World) (e : TypeId) (x : α) : GrowOf f w.heap.size e (w.alloc (.cells #[f x] e)) (.slice (some ⟨w.heap.size, 0, none⟩) 1 1) [x] := by
  refine ⟨rfl, .inr ⟨w.heap.size, 1, #[f x], rfl, Nat.le_refl _, ?_, Nat.le_refl _, by decide, rfl, rfl⟩⟩
  show (w.heap.push _)[w.heap.size]? = _
  simp
/-- A row is set. -/
theorem LdSt.setRow {g : Nat} {x : ByteArray} (h : LdSt wB w0 p q q3 n (some ⟨g, 0, none⟩) c ss wr) (hset : ∀ x, GrowOf Value.string w0.heap.size 9 (wr.setCell ⟨g, 0, none⟩ (Value.string x)) (.slice (some ⟨g, 0, none⟩) ss.length c) (ss.set 0 x)) (hlo : w0.heap.size ≤ g) (hx : x.size ≤ 40) :
    LdSt wB w0 p q q3 n (some ⟨g, 0, none⟩) c (ss.set 0 x) (wr.setCell ⟨g, 0, none⟩ (.string x)) := by
  have hgp := h.rs.src.apartS h.row g rfl
  have hg3 : g ≠ q3 := fun e => GrowOf.ne h.row h.cell (by decide) (by rw [← e]; rfl)
  have hgq : g ≠ q := fun e => GrowOf.ne h.row h.rs.one (by decide) (by rw [← e]; rfl)
  have hw : Wrote (fun k => k = g) wr (wr.setCell ⟨g, 0, none⟩ (.string x)) := Wrote.setCell (S := fun k => k = g) (Wrote.refl _ wr) (p := ⟨g, 0, none⟩) rfl _
  refine ⟨?_, ?_, ?_, h.ne, by rw [List.length_set]; exact h.few.1, fun y => ?_⟩
  · refine ⟨?_, h.rs.src.wrote hw fun k hk hl => ?_, h.rs.one.other hgq _, h.rs.ap⟩
    · exact ((h.rs.wrote.mono (T := fun k => k = p ∨ w0.heap.size ≤ k) fun k _ hk => .inl hk).setCell (p := ⟨g, 0, none⟩) (.inr hlo) _).mono fun k hk hs => by omega
    · have := h.rs.src.x.size
      have := h.rs.src.lo
      have := h.rs.ap
      omega
  · rw [List.length_set]; exact h.cell.other hg3 _
  · rw [List.length_set]; exact hset x
  · rw [List.getD_eq_getElem?_getD, List.getElem?_set]
    split
    · split
      · exact hx
      · simp
    · rw [← List.getD_eq_getElem?_getD]; exact h.few.2 y
/-- The picture's rows are set. -/
theorem LdSt.put {a2 : Option Addr} {n2 c2 : Nat} {tt : List ByteArray} (h : RsSt wB w0 p q n wr) {v0 : Value} (hc : One wr q3 26 v0) (hne : q3 ≠ q ∧ q3 ≠ p ∧ w0.heap.size ≤ q3) (hg : GrowOf Value.string w0.heap.size 9 wr (.slice a2 n2 c2) tt) (hn : tt.length = n2) (hf : tt.length ≤ 17 ∧ ∀ y, (tt.getD y ByteArray.empty).size ≤ 40) :
    LdSt wB w0 p q q3 n a2 c2 tt (wr.setCell ⟨q3, 0, none⟩ (.slice a2 n2 c2)) := by
  subst hn
  have hw : Wrote (fun k => k = q3) wr (wr.setCell ⟨q3, 0, none⟩ (.slice a2 tt.length c2)) := Wrote.setCell (S := fun k => k = q3) (Wrote.refl _ wr) (p := ⟨q3, 0, none⟩) rfl _
  exact ⟨h.wrote2 hw fun k hk hl => by omega, hc.set _, GrowOf.setCell hg (GrowOf.ne hg hc (by decide)) _, hne, hf⟩
end
def LdP (wB w0 : World) (p q q3 n k : Nat) (wr : World) : Prop := ∃ (a : Option Addr) (c : Nat) (ss : List ByteArray), 1 ≤ ss.length ∧ LdSt wB w0 p q q3 n a c ss wr ∧ ss.length + k = 17
set_option maxRecDepth 5000 in
set_option maxHeartbeats 1600000 in
theorem draw_any (wB : World) (p n : Nat) (w : World) (hn : n ≤ 100000) (h : SrcSt wB p n w) :
    Calls Try.prog 191 #[.pointer (some ⟨p, 0, none⟩)] w (DrawnPic wB w p (n + 3200) PicBnd) := by
  obtain ⟨W0, hW0⟩ : ∃ W0, W0 = w.alloc (.cells #[.slice none 0 0] 26) := ⟨_, rfl⟩
  have HR0 : Hid (RsSt wB w p w.heap.size n W0) := by rw [hW0]; exact RsSt.start h
  have hsz0 : w.heap.size < W0.heap.size := by rw [hW0]; simp
  have HSZ0 := Lib.hid hsz0
  have HPK : Hid (∀ w' n' N, n' ≤ 2000000 → SrcSt wB p n' w' → Calls Try.prog 80 #[.pointer (some ⟨p, 0, none⟩), .int .i64 N] w' (PickRet wB p (n' + 2) w' N)) := fun w' n' N h1 h2 => pick_any wB p n' N w' (by omega) h2
  have HOK := Lib.hid (fun w' (hs : SrcSt wB p n w') => drawOk_any wB p n w' hn hs)
  clear h hsz0
  go_enter Try.func191, Try.ntmps191
  go_wp2_with fail
  rw [← hW0]
  clear hW0
  refine (HOK.out W0 HR0.out.src).mono ?_
  rintro e w1 ⟨a, c, ss, hok, rfl, hw, hs, hg⟩
  obtain ⟨w2, hw2⟩ : ∃ w2, w2 = w1.alloc (.cells #[.slice a ss.length c] 26) := ⟨_, rfl⟩
  have hx2 : w1.Ext w2 := by rw [hw2]; repeat (first | exact World.Ext.refl _ | exact ⟨_, rfl⟩ | assumption | refine World.Ext.over ?_ _ | refine World.Ext.drewN ?_ _ | refine World.Ext.drew ?_ | refine World.Ext.alloc ?_ _ | refine World.Ext.setCell ?_ (by simp) _)
  have hsz1 := hw.size
  have hplt := hs.lt
  have HL2 : Hid (LdSt wB w p w.heap.size w1.heap.size (n + 3100) a c ss w2) := by
    obtain ⟨v1, v2, v3, v4, v5, -⟩ := picOk_spec hok.1
    refine ⟨(HR0.out.call hw hs).ext hx2, ?_, GrowOf.lower (GrowOf.ext hg hx2) HR0.out.wrote.size, ?_, by omega, fun y => ?_⟩
    · rw [hw2]; exact One.new _ _ _ _ rfl
    · have := HSZ0.out
      omega
    · by_cases hy : y < ss.length
      · rw [v5.2 y hy]; omega
      · rw [List.getD_eq_getElem?_getD, List.getElem?_eq_none (by omega)]; simp
  have HPOS : Hid (1 ≤ ss.length ∧ 1 ≤ (ss.getD 0 ByteArray.empty).size ∧ (ss.getD 0 ByteArray.empty).size ≤ 16) := by
    obtain ⟨v1, v2, v3, v4, v5, -⟩ := picOk_spec hok.1
    exact ⟨v1, v3, v4⟩
  clear hok hw hs hg hx2 hsz1 hplt HOK HR0
  go_wp2_with fail
  rw [← hw2]
  clear hw2
  generalize w1.heap.size = q3 at *
  refine (HPK.out w2 (n + 3100) 40 (by omega) HL2.out.rs.src).mono ?_
  rintro e w3 ⟨r, rfl, r0, r1, hw, hs⟩
  have HL3 := Lib.hid (HL2.out.call hw hs)
  clear hw hs HL2 HPK
  go_upto_block 0 with fail
  go_cut [] (fun wx => ∃ (a : Option Addr) (c : Nat) (ss : List ByteArray), Hid (LdSt wB w p w.heap.size q3 (n + 3102) a c ss wx))
  case first =>
    have hc := HL3.out.cell.cell
    have hf := HL3.out.cell.free
    have hlt := HL3.out.cell.lt
    have HL4 := Lib.hid (HL3.out.more (n' := n + 3102) (by omega))
    by_cases e0 : r = 0
    · subst e0
      have HF : Hid (LdSt wB w p w.heap.size q3 (n + 3102) (some ⟨w3.heap.size, 0, none⟩) 0 [] ((w3.setCell ⟨q3, 0, none⟩ (.slice (some ⟨w3.heap.size, 0, none⟩) 0 0)).alloc (.cells #[] 9))) := by
        rw [← World.setCell_alloc_comm hlt]
        exact LdSt.put (HL4.out.rs.ext (by repeat (first | exact World.Ext.refl _ | exact ⟨_, rfl⟩ | assumption | refine World.Ext.over ?_ _ | refine World.Ext.drewN ?_ _ | refine World.Ext.drew ?_ | refine World.Ext.alloc ?_ _ | refine World.Ext.setCell ?_ (by simp) _))) (HL4.out.cell.ext (by repeat (first | exact World.Ext.refl _ | exact ⟨_, rfl⟩ | assumption | refine World.Ext.over ?_ _ | refine World.Ext.drewN ?_ _ | refine World.Ext.drew ?_ | refine World.Ext.alloc ?_ _ | refine World.Ext.setCell ?_ (by simp) _))) HL4.out.ne (GrowOf.empty w3 HL4.out.rs.wrote.size) rfl ⟨by simp, fun y => by simp⟩
      go_wp2
      go_meet
      exact ⟨_, _, _, HF⟩
    · by_cases e1 : r = 1
      · subst e1
        obtain ⟨g, cap, hv, hlo, hc0, hf0, hset⟩ := GrowOf.atI ByteArray.empty HL4.out.row (i := 0) HPOS.out.1
        simp only [Value.slice.injEq] at hv
        obtain ⟨rfl, -, rfl⟩ := hv
        have h0 : (0 : Int) < (ss.length : Int) := by have := HPOS.out.1; omega
        have HF : Hid (LdSt wB w p w.heap.size q3 (n + 3102) (some ⟨g, 0, none⟩) c (ss.set 0 (ss.getD 0 ByteArray.empty ++ ⟨#[35]⟩)) (w3.setCell ⟨g, 0, none⟩ (.string (ss.getD 0 ByteArray.empty ++ ⟨#[35]⟩)))) := by
          exact HL4.out.setRow hset hlo (by rw [ByteArray.size_append]; have := HPOS.out.2.2; show _ + 1 ≤ _; omega)
        clear hset
        generalize ss.getD 0 ByteArray.empty = row0 at *
        have hcat : ¬ 9223372036854775807 < row0.size + 1 := by have := HPOS.out.2.2; omega
        go_wp2
        go_meet
        exact ⟨_, _, _, HF⟩
      · by_cases e2 : r = 2
        · subst e2
          obtain ⟨g, cap, hv, hlo, hc0, hf0, hset⟩ := GrowOf.atI ByteArray.empty HL4.out.row (i := 0) HPOS.out.1
          simp only [Value.slice.injEq] at hv
          obtain ⟨rfl, -, rfl⟩ := hv
          have h0 : (0 : Int) < (ss.length : Int) := by have := HPOS.out.1; omega
          have hrs := HPOS.out.2.1
          have hrs2 := HPOS.out.2.2
          have HSET : Hid (∀ x : ByteArray, x.size ≤ 40 → LdSt wB w p w.heap.size q3 (n + 3102) (some ⟨g, 0, none⟩) c (ss.set 0 x) (w3.setCell ⟨g, 0, none⟩ (.string x))) := fun x hx => HL4.out.setRow hset hlo hx
          clear hset
          generalize ss.getD 0 ByteArray.empty = row0 at *
          go_wp2_with fail
          refine wp_region_over_tail 9 (by kernel_rfl) (by kernel_rfl) ?_; simp only [List.take_succ_cons, List.take_zero, List.drop_succ_cons, List.drop_zero]; (repeat (go_big_quiet_step (fail))); refine wpQuiet_nil ?_; rintro _ ⟨x1, rfl⟩
          have hx1 : w3.Ext (w3.over x1) := ⟨x1, rfl⟩
          have HL5 := Lib.hid (HL4.out.call (hx1.wrote _) (HL4.out.rs.src.ext hx1))
          have hc5 := hx1.cell hc0
          clear hc hf hlt hc0 hf0 HSET hx1
          generalize w3.over x1 = w5 at *
          obtain ⟨g', cap', hv, -, hc0, hf0, hset⟩ := GrowOf.atI ByteArray.empty HL5.out.row (i := 0) HPOS.out.1
          simp only [Value.slice.injEq, Option.some.injEq, Addr.mk.injEq] at hv
          obtain ⟨⟨rfl, -, -⟩, -, -⟩ := hv
          clear hc0
          have hsx : (({ data := #[120] } : ByteArray) ++ row0.extract 1 row0.size).size ≤ 40 := by
            rw [ByteArray.size_append, ByteArray.size_extract]
            show 1 + _ ≤ _
            omega
          have HF := Lib.hid (HL5.out.setRow hset hlo hsx)
          clear hset hsx
          go_wp2
          go_meet
          exact ⟨_, _, _, HF⟩
        · by_cases e3 : r = 3
          · subst e3
            have hp := HPOS.out.1
            have HP2 : Hid (1 ≤ ss.length ∧ 1 ≤ ss.length) := ⟨hp, hp⟩
            clear HPOS hc hf hlt HL3
            obtain ⟨is, his, hs0, hs1, hs2⟩ := info_parts Try.infoStr
            have HP0 : Hid (∃ k, LdP wB w p w.heap.size q3 (n + 3102) k w3) := ⟨17 - ss.length, a, c, ss, hp, HL4.out, by have := HL4.out.few.1; omega⟩
            clear HL4 hp HP2
            go_upto_block 1 with fail
            go_wp2
            go_loopw [] (fun wr => Hid (∃ k, LdP wB w p w.heap.size q3 (n + 3102) k wr)) (fun wr => leastN fun k => LdP wB w p w.heap.size q3 (n + 3102) k wr)
            case atStart => exact HP0
            case round =>
              clear HP0
              obtain ⟨n1, hP1⟩ := hrel.out
              obtain ⟨k0, hk0, HP⟩ : ∃ k, Hid (leastN (fun k => LdP wB w p w.heap.size q3 (n + 3102) k wr) = k) ∧ Hid (LdP wB w p w.heap.size q3 (n + 3102) k wr) := ⟨_, rfl, leastN_at (p := fun k => LdP wB w p w.heap.size q3 (n + 3102) k wr) hP1⟩
              clear hrel hP1 n1
              obtain ⟨w4, rfl⟩ : ∃ w4 : World, w4 = wr := ⟨_, rfl⟩
              obtain ⟨a, c, tt, ht1, hL, hk⟩ := HP.out
              have HL := Lib.hid hL
              obtain ⟨g, cap, hv, hlo, hc0, -, -⟩ := GrowOf.atI ByteArray.empty hL.row (i := 0) ht1
              simp only [Value.slice.injEq] at hv
              obtain ⟨rfl, -, rfl⟩ := hv
              have hc := hL.cell.cell
              have hf := hL.cell.free
              have hlt := hL.cell.lt
              have h0 : (0 : Int) < (tt.length : Int) := by omega
              have hs40 := hL.few.2 0
              clear hL HP
              by_cases h16 : tt.length ≤ 16
              · have h16' : (tt.length : Int) ≤ 16 := by omega
                have HB1 : Hid (tt.length + 1 ≤ maxLen) := by show _ ≤ _; unfold maxLen; omega
                have HB2 : Hid ((tt.length + 1) * 16 ≤ 140737488355328) := by show _ ≤ _; omega
                have HLO : Hid (∀ o : Obj, w.heap.size ≤ (w4.drew.alloc o).heap.size) := fun o => Nat.le_trans HL.out.rs.wrote.size (World.Ext.size (w := w4) (by repeat (first | exact World.Ext.refl _ | exact ⟨_, rfl⟩ | assumption | refine World.Ext.over ?_ _ | refine World.Ext.drewN ?_ _ | refine World.Ext.drew ?_ | refine World.Ext.alloc ?_ _ | refine World.Ext.setCell ?_ (by simp) _)))
                have HROW : Hid (w4.ownsRow w.heap.size 9 1 (.slice (some ⟨g, 0, none⟩) tt.length c) tt.length (tt.map Value.string)) := HL.out.row
                generalize hrow0 : tt.getD 0 ByteArray.empty = row0 at *
                have HNX : Hid (∀ (v' : Value) (w6 : World), w6.ownsRow w.heap.size 9 1 v' (tt.length + 1) (tt.map Value.string ++ [Value.string row0]) → (w4.drew.alloc (.cells #[.string row0] 9)).grownBy w6 (some g) →
                    (∃ a6 c6, v' = .slice a6 (tt.length + 1) c6) ∧ w6.cell? ⟨q3, 0, none⟩ = some (.slice (some ⟨g, 0, none⟩) tt.length c) ∧ w6.frozen? ⟨q3, 0, none⟩ = false ∧ q3 < w6.heap.size ∧ ∀ a6 c6, v' = .slice a6 (tt.length + 1) c6 → ∃ k, LdP wB w p w.heap.size q3 (n + 3102) k (w6.setCell ⟨q3, 0, none⟩ v') ∧ k < k0) := fun v' w6 hown hgrow => by
                  have hg : GrowOf Value.string w.heap.size 9 w6 v' (tt ++ [row0]) := GrowOf.push hown
                  obtain ⟨a6, c6, hv6, -⟩ := hg.form
                  rw [List.length_append, List.length_singleton] at hv6
                  have hx4 : w4.Ext (w4.drew.alloc (.cells #[.string row0] 9)) := by repeat (first | exact World.Ext.refl _ | exact ⟨_, rfl⟩ | assumption | refine World.Ext.over ?_ _ | refine World.Ext.drewN ?_ _ | refine World.Ext.drew ?_ | refine World.Ext.alloc ?_ _ | refine World.Ext.setCell ?_ (by simp) _)
                  have hw6 : Wrote (fun k => k = g) w4 w6 := Wrote.grown (hx4.wrote _) hgrow fun k hk => .inl (Option.some.inj hk).symm
                  have g3 : q3 ≠ g := fun e => GrowOf.ne HL.out.row HL.out.cell (by decide) (by rw [e]; rfl)
                  have gq : g ≠ w.heap.size := fun e => GrowOf.ne HL.out.row HL.out.rs.one (by decide) (by rw [← e]; rfl)
                  have hrs := HL.out.rs.wrote2 hw6 fun k hk hl => by omega
                  have hce := HL.out.cell.keep (hw6.block q3 HL.out.cell.lt g3)
                  refine ⟨⟨a6, c6, hv6⟩, hce.cell, hce.free, hce.lt, fun a7 c7 hv7 => ?_⟩
                  subst hv7
                  refine ⟨k0 - 1, ⟨a7, c7, tt ++ [row0], by simp, LdSt.put hrs hce HL.out.ne hg (by simp) ⟨by simp; omega, fun y => ?_⟩, by simp; omega⟩, by omega⟩
                  by_cases hy : y < tt.length
                  · rw [List.getD_eq_getElem?_getD, List.getElem?_append_left hy, ← List.getD_eq_getElem?_getD]; exact HL.out.few.2 y
                  · rw [List.getD_eq_getElem?_getD, List.getElem?_append_right (by omega)]
                    rcases Nat.eq_zero_or_pos (y - tt.length) with h | h
                    · rw [h]; simpa using hs40
                    · rw [List.getElem?_eq_none (by simp; omega)]; simp
                clear HL
                have HK0 := Lib.hid hk0.out
                have h0n : 0 < tt.length := by omega
                clear hk0 hs40 hrow0 hk
                go_wp2_with fail
                go_region_law (first
                  | (refine step_append_mine rfl _ _ 24 rfl w.heap.size 9 is (.string ByteArray.empty) 1 16 Try.underlying24 his hs0 hs1 hs2 rfl (by decide) (.slice (some ⟨g, 0, none⟩) tt.length c) tt.length (tt.map Value.string) rfl (World.ownsRow.ext HROW.out (by repeat (first | exact World.Ext.refl _ | exact ⟨_, rfl⟩ | assumption | refine World.Ext.over ?_ _ | refine World.Ext.drewN ?_ _ | refine World.Ext.drew ?_ | refine World.Ext.alloc ?_ _ | refine World.Ext.setCell ?_ (by simp) _))) ⟨w4.heap.size, 0, none⟩ 1 1 [.string row0] rfl rfl (cell_one_at (by simp)) (by simp [Value.oneCell']) HB1.out HB2.out (HLO.out _) (fun v' w6 hown hgrow hat => ?_); obtain ⟨⟨a6, c6, rfl⟩, hc6, hf6, hlt6, HN6⟩ := HNX.out _ _ hown hgrow; have HN7 := Lib.hid HN6)
                  | fail)
                all_goals
                  obtain ⟨k6, hP6, hk6⟩ := HN7.out _ _ rfl
                  have HP6 : Hid (∃ k, LdP wB w p w.heap.size q3 (n + 3102) k (w6.setCell ⟨q3, 0, none⟩ (.slice a6 (tt.length + 1) c6))) := ⟨k6, hP6⟩
                  have HM6 : Hid (leastN (fun k => LdP wB w p w.heap.size q3 (n + 3102) k (w6.setCell ⟨q3, 0, none⟩ (.slice a6 (tt.length + 1) c6))) < leastN (fun k => LdP wB w p w.heap.size q3 (n + 3102) k w4)) := by
                    show _ < _
                    rw [HK0.out]
                    exact Nat.lt_of_le_of_lt (leastN_le hP6) hk6
                  clear HN7 HN6 hP6 hk6 hown hgrow hat hc6 hf6 HNX HROW HLO HK0
                  go_wp2
                  go_roundw
                  case rel => exact HP6
                  case measure => exact HM6.out
              · have h16' : ¬ (tt.length : Int) ≤ 16 := by omega
                clear hk0 hs40
                go_wp2
                go_meet
                exact ⟨_, _, _, HL⟩
          · by_cases e4 : r = 4
            · subst e4
              have HF : Hid (LdSt wB w p w.heap.size q3 (n + 3102) (some ⟨w3.heap.size, 0, none⟩) 1 [ByteArray.empty] ((w3.setCell ⟨q3, 0, none⟩ (.slice (some ⟨w3.heap.size, 0, none⟩) 1 1)).alloc (.cells #[.string ByteArray.empty] 9))) := by
                rw [← World.setCell_alloc_comm hlt]
                refine LdSt.put (HL4.out.rs.ext (by repeat (first | exact World.Ext.refl _ | exact ⟨_, rfl⟩ | assumption | refine World.Ext.over ?_ _ | refine World.Ext.drewN ?_ _ | refine World.Ext.drew ?_ | refine World.Ext.alloc ?_ _ | refine World.Ext.setCell ?_ (by simp) _))) (HL4.out.cell.ext (by repeat (first | exact World.Ext.refl _ | exact ⟨_, rfl⟩ | assumption | refine World.Ext.over ?_ _ | refine World.Ext.drewN ?_ _ | refine World.Ext.drew ?_ | refine World.Ext.alloc ?_ _ | refine World.Ext.setCell ?_ (by simp) _))) HL4.out.ne (GrowOf.lower (GrowOf.one w3 _ _) HL4.out.rs.wrote.size) rfl ⟨by simp, fun y => ?_⟩
                cases y with
                | zero => simp
                | succ y => simp
              go_wp2
              go_meet
              exact ⟨_, _, _, HF⟩
            · clear hc hf hlt
              go_wp2
              go_meet
              exact ⟨_, _, _, HL4⟩
  case rest =>
    clear HL3 HPOS
    obtain ⟨a, c, ss, HL⟩ := hcut
    obtain ⟨w4, rfl⟩ : ∃ w4 : World, w4 = wc := ⟨_, rfl⟩
    have hc := HL.out.cell.cell
    obtain ⟨r1, r2, r3, HR⟩ := HL.out.rs.store HL.out.row (Nat.le_refl _) (.slice a ss.length c)
    have HB : Hid (PicBnd ss) := by
      obtain ⟨f1, f2⟩ := HL.out.few
      exact ⟨by omega, fun y => Nat.le_trans (f2 y) (by omega)⟩
    clear HL
    go_wp2
    exact bodyPost_ret (v := .agg #[.slice a ss.length c]) (by simp [results, Try.results191, go_sem, r3]) rfl ⟨a, c, ss, HB.out, rfl, HR.out.1, HR.out.2.1.more (by omega), HR.out.2.2⟩
end Go.Proofs.Ythgkmaccbcpaeaa
