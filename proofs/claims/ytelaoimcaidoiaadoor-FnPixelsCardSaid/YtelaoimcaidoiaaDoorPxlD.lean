/- The box of a picture. -/
import Derived.Test.YtelaoimcaidoiaaDoorSamB
import Derived.Test.YtelaoimcaidoiaaDoorFrmF
import Derived.Test.YtelaoimcaidoiaaDoorFitL
import Derived.Deep.RegionHeld3
import Derived.BigRegion
import Derived.Deep.DeepCutAuto
import Derived.Deep.CutBlock
import Derived.Test.YtelaoimcaidoiaaDoorCutR
namespace Go.Proofs.YtelaoimcaidoiaaDoor
open Go Go.RowKit
theorem mnE (a b : Int) : min a b = if b < a then b else a := by split <;> omega
theorem mxE (a b : Int) : max a b = if a < b then b else a := by split <;> omega
/-- The first k lie in a box, each side of which is hit. -/
structure BoxIs (ps : List (Int × Int)) (k : Nat) (lx ly hx hy : Int) : Prop where
  all : ∀ i, i < k → lx ≤ (ps.getD i (0, 0)).1 ∧ (ps.getD i (0, 0)).1 ≤ hx ∧ ly ≤ (ps.getD i (0, 0)).2 ∧ (ps.getD i (0, 0)).2 ≤ hy
  a : ∃ i, i < ps.length ∧ (ps.getD i (0, 0)).1 = lx
  b : ∃ i, i < ps.length ∧ (ps.getD i (0, 0)).1 = hx
  c : ∃ i, i < ps.length ∧ (ps.getD i (0, 0)).2 = ly
  d : ∃ i, i < ps.length ∧ (ps.getD i (0, 0)).2 = hy
theorem BoxIs.start {ps : List (Int × Int)} (h : 0 < ps.length) : BoxIs ps 0 (ps.getD 0 (0, 0)).1 (ps.getD 0 (0, 0)).2 (ps.getD 0 (0, 0)).1 (ps.getD 0 (0, 0)).2 :=
  ⟨fun i hi => by omega, ⟨0, h, rfl⟩, ⟨0, h, rfl⟩, ⟨0, h, rfl⟩, ⟨0, h, rfl⟩⟩
theorem BoxIs.next {ps : List (Int × Int)} {k : Nat} {lx ly hx hy x y : Int} (h : BoxIs ps k lx ly hx hy) (hk : k < ps.length) (e : ps.getD k (0, 0) = (x, y)) : BoxIs ps (k + 1) (min lx x) (min ly y) (max hx x) (max hy y) := by
  obtain ⟨h1, ⟨ia, a1, a2⟩, ⟨ib, b1, b2⟩, ⟨ic, c1, c2⟩, ⟨id, d1, d2⟩⟩ := h
  have ex : (ps.getD k (0, 0)).1 = x := by rw [e]
  have ey : (ps.getD k (0, 0)).2 = y := by rw [e]
  refine ⟨fun i hi => ?_, ?_, ?_, ?_, ?_⟩
  · by_cases he : i = k
    · subst he
      omega
    · have := h1 i (by omega)
      omega
  · by_cases hl : lx ≤ x
    · exact ⟨ia, a1, by omega⟩
    · exact ⟨k, hk, by omega⟩
  · by_cases hl : x ≤ hx
    · exact ⟨ib, b1, by omega⟩
    · exact ⟨k, hk, by omega⟩
  · by_cases hl : ly ≤ y
    · exact ⟨ic, c1, by omega⟩
    · exact ⟨k, hk, by omega⟩
  · by_cases hl : y ≤ hy
    · exact ⟨id, d1, by omega⟩
    · exact ⟨k, hk, by omega⟩
/-- Both corners, under way. -/
structure BxSt (W0 : World) (p q : Nat) (lx ly hx hy : Int) (wr : World) : Prop where
  x : W0.Ext wr
  lo : W0.heap.size ≤ p ∧ W0.heap.size ≤ q ∧ p ≠ q
  one : Two wr p 39 (.int .i64 lx) (.int .i64 ly)
  two : Two wr q 39 (.int .i64 hx) (.int .i64 hy)
theorem BxSt.ext {W0 wr w' : World} {p q : Nat} {lx ly hx hy : Int} (h : BxSt W0 p q lx ly hx hy wr) (hx' : wr.Ext w') : BxSt W0 p q lx ly hx hy w' := ⟨h.x.trans hx', h.lo, h.one.ext hx', h.two.ext hx'⟩
theorem BxSt.put1 {W0 wr : World} {p q : Nat} {lx ly hx hy : Int} (h : BxSt W0 p q lx ly hx hy wr) (u v : Int) : BxSt W0 p q u v hx hy ((wr.setCell ⟨p, 0, none⟩ (.int .i64 u)).setCell ⟨p, 1, none⟩ (.int .i64 v)) :=
  ⟨(h.x.setCell (p := ⟨p, 0, none⟩) h.lo.1 _).setCell (p := ⟨p, 1, none⟩) h.lo.1 _, h.lo, h.one.set _ _, (h.two.other (a := ⟨p, 0, none⟩) h.lo.2.2 _).other (a := ⟨p, 1, none⟩) h.lo.2.2 _⟩
theorem BxSt.put2 {W0 wr : World} {p q : Nat} {lx ly hx hy : Int} (h : BxSt W0 p q lx ly hx hy wr) (u v : Int) : BxSt W0 p q lx ly u v ((wr.setCell ⟨q, 0, none⟩ (.int .i64 u)).setCell ⟨q, 1, none⟩ (.int .i64 v)) :=
  ⟨(h.x.setCell (p := ⟨q, 0, none⟩) h.lo.2.1 _).setCell (p := ⟨q, 1, none⟩) h.lo.2.1 _, h.lo, (h.one.other (a := ⟨q, 0, none⟩) h.lo.2.2.symm _).other (a := ⟨q, 1, none⟩) h.lo.2.2.symm _, h.two.set _ _⟩
theorem BxSt.new (w : World) : BxSt w w.heap.size (w.heap.size + 1) 0 0 0 0 ((w.alloc (.cells #[.int .i64 0, .int .i64 0] 39)).alloc (.cells #[.int .i64 0, .int .i64 0] 39)) :=
  ⟨by repeat (first | exact World.Ext.refl _ | exact ⟨_, rfl⟩ | assumption | refine World.Ext.over ?_ _ | refine World.Ext.drewN ?_ _ | refine World.Ext.drew ?_ | refine World.Ext.alloc ?_ _ | refine World.Ext.setCell ?_ (by simp) _), ⟨Nat.le_refl _, Nat.le_succ _, by omega⟩, (Two.new w _ _ _ _ rfl).ext (by repeat (first | exact World.Ext.refl _ | exact ⟨_, rfl⟩ | assumption | refine World.Ext.over ?_ _ | refine World.Ext.drewN ?_ _ | refine World.Ext.drew ?_ | refine World.Ext.alloc ?_ _ | refine World.Ext.setCell ?_ (by simp) _)), Two.new _ _ _ _ _ (by simp)⟩
theorem BxSt.new' (w : World) : BxSt w (w.heap.size + 1) w.heap.size 0 0 0 0 ((w.alloc (.cells #[.int .i64 0, .int .i64 0] 39)).alloc (.cells #[.int .i64 0, .int .i64 0] 39)) :=
  ⟨by repeat (first | exact World.Ext.refl _ | exact ⟨_, rfl⟩ | assumption | refine World.Ext.over ?_ _ | refine World.Ext.drewN ?_ _ | refine World.Ext.drew ?_ | refine World.Ext.alloc ?_ _ | refine World.Ext.setCell ?_ (by simp) _), ⟨Nat.le_succ _, Nat.le_refl _, by omega⟩, Two.new _ _ _ _ _ (by simp), (Two.new w _ _ _ _ rfl).ext (by repeat (first | exact World.Ext.refl _ | exact ⟨_, rfl⟩ | assumption | refine World.Ext.over ?_ _ | refine World.Ext.drewN ?_ _ | refine World.Ext.drew ?_ | refine World.Ext.alloc ?_ _ | refine World.Ext.setCell ?_ (by simp) _))⟩
theorem BxSt.newV (w : World) (x y : Int) : BxSt w w.heap.size (w.heap.size + 1) x y x y ((w.alloc (.cells #[.int .i64 x, .int .i64 y] 39)).alloc (.cells #[.int .i64 x, .int .i64 y] 39)) :=
  ⟨by repeat (first | exact World.Ext.refl _ | exact ⟨_, rfl⟩ | assumption | refine World.Ext.over ?_ _ | refine World.Ext.drewN ?_ _ | refine World.Ext.drew ?_ | refine World.Ext.alloc ?_ _ | refine World.Ext.setCell ?_ (by simp) _), ⟨Nat.le_refl _, Nat.le_succ _, by omega⟩, (Two.new w _ _ _ _ rfl).ext (by repeat (first | exact World.Ext.refl _ | exact ⟨_, rfl⟩ | assumption | refine World.Ext.over ?_ _ | refine World.Ext.drewN ?_ _ | refine World.Ext.drew ?_ | refine World.Ext.alloc ?_ _ | refine World.Ext.setCell ?_ (by simp) _)), Two.new _ _ _ _ _ (by simp)⟩
theorem BxSt.newV' (w : World) (x y : Int) : BxSt w (w.heap.size + 1) w.heap.size x y x y ((w.alloc (.cells #[.int .i64 x, .int .i64 y] 39)).alloc (.cells #[.int .i64 x, .int .i64 y] 39)) :=
  ⟨by repeat (first | exact World.Ext.refl _ | exact ⟨_, rfl⟩ | assumption | refine World.Ext.over ?_ _ | refine World.Ext.drewN ?_ _ | refine World.Ext.drew ?_ | refine World.Ext.alloc ?_ _ | refine World.Ext.setCell ?_ (by simp) _), ⟨Nat.le_succ _, Nat.le_refl _, by omega⟩, Two.new _ _ _ _ _ (by simp), (Two.new w _ _ _ _ rfl).ext (by repeat (first | exact World.Ext.refl _ | exact ⟨_, rfl⟩ | assumption | refine World.Ext.over ?_ _ | refine World.Ext.drewN ?_ _ | refine World.Ext.drew ?_ | refine World.Ext.alloc ?_ _ | refine World.Ext.setCell ?_ (by simp) _))⟩
/-- A box, or none. -/
def BoxRet (w : World) (ps : List (Int × Int)) (e : Ending) (w' : World) : Prop :=
  (ps.length = 0 ∧ e = .returned (.tuple #[.agg #[.int .i64 0, .int .i64 0], .agg #[.int .i64 0, .int .i64 0], .bool false]) ∧ w.Ext w') ∨
  (0 < ps.length ∧ ∃ lx ly hx hy, e = .returned (.tuple #[.agg #[.int .i64 lx, .int .i64 ly], .agg #[.int .i64 hx, .int .i64 hy], .bool true]) ∧ w.Ext w' ∧ BoxIs ps ps.length lx ly hx hy)
set_option maxRecDepth 5000 in
set_option maxHeartbeats 6400000 in
theorem boxOf_any (a : Option Addr) (c : Nat) (ss : List ByteArray) (w : World) (hok : picOk ss = true) (hm : RowS w a ss) :
    Calls Tryd.prog 11 #[.agg #[.slice a ss.length c]] w (BoxRet w (spotsTo (picW ss) (picL ss) (ss.length * picW ss))) := by
  have hb := pic_bnd hok
  obtain ⟨W0, hW0⟩ : ∃ W0, W0 = ((w.alloc (.cells #[.slice a ss.length c] 26)).alloc (.cells #[.int .i64 0, .int .i64 0] 39)).alloc (.cells #[.int .i64 0, .int .i64 0] 39) := ⟨_, rfl⟩
  have hx0 : w.Ext W0 := by rw [hW0]; repeat (first | exact World.Ext.refl _ | exact ⟨_, rfl⟩ | assumption | refine World.Ext.over ?_ _ | refine World.Ext.drewN ?_ _ | refine World.Ext.drew ?_ | refine World.Ext.alloc ?_ _ | refine World.Ext.setCell ?_ (by simp) _)
  have ht2 : Two W0 (w.heap.size + 1) 39 (.int .i64 0) (.int .i64 0) := by rw [hW0]; exact (Two.new (w.alloc (.cells #[.slice a ss.length c] 26)) _ _ _ (w.heap.size + 1) (by simp)).ext (by repeat (first | exact World.Ext.refl _ | exact ⟨_, rfl⟩ | assumption | refine World.Ext.over ?_ _ | refine World.Ext.drewN ?_ _ | refine World.Ext.drew ?_ | refine World.Ext.alloc ?_ _ | refine World.Ext.setCell ?_ (by simp) _))
  have ht3 : Two W0 (w.heap.size + 1 + 1) 39 (.int .i64 0) (.int .i64 0) := by rw [hW0]; exact Two.new _ _ _ _ _ (by simp)
  have d0 : W0.cell? ⟨w.heap.size, 0, none⟩ = some (.slice a ss.length c) := by rw [hW0]; simp [go_sem]
  obtain ⟨v1, v2, v3, v4, v5, -⟩ := picOk_spec hok
  have HI := Lib.hid (imageOf_any a c ss W0 hb.1 hb.2 (RowOf.ext hm hx0) true hok)
  have HCN : Hid (∀ w' b ab, Img w' b ab (picW ss) ss.length (picL ss) → Calls Tryd.prog 32 #[.pointer (some ⟨b, 0, none⟩)] w' fun e w'' => e = .returned (.int .i64 (spotsTo (picW ss) (picL ss) (ss.length * picW ss)).length) ∧ w'.Ext w'') := fun w' b ab hI => count_any b ab _ _ _ w' (by omega) (by omega) hI
  have HSP : Hid (∀ w' b ab, Img w' b ab (picW ss) ss.length (picL ss) → Calls Tryd.prog 24 #[.pointer (some ⟨b, 0, none⟩)] w' (PairsRet w' (spotsTo (picW ss) (picL ss) (ss.length * picW ss)))) := fun w' b ab hI => spots_any b ab _ _ _ w' (by omega) (by omega) hI
  have hpl : (spotsTo (picW ss) (picL ss) (ss.length * picW ss)).length ≤ 4096 := Nat.le_trans (spotsTo_len _ _ _) (Nat.mul_le_mul (show ss.length ≤ 64 by omega) (show picW ss ≤ 64 by omega))
  have HX0 := Lib.hid hx0
  have H23 := Lib.hid (And.intro ht2 ht3)
  clear hb hok hm hx0 ht2 ht3 v1 v2 v3 v4 v5
  generalize spotsTo (picW ss) (picL ss) (ss.length * picW ss) = ps at *
  have l0 := World.block_lt_of_cell? _ _ d0
  go_enter Tryd.func11, Tryd.ntmps11
  go_upto_region 1 with fail
  rw [← hW0]
  clear hW0
  go_wp2_with fail
  refine HI.out.mono ?_
  intro e w1 h
  obtain ⟨b, ab, rfl, hx1, hI, -, -⟩ : ∃ b ab, e = .returned (.tuple #[.pointer (some ⟨b, 0, none⟩), .bool true]) ∧ W0.Ext w1 ∧ Img w1 b ab (picW ss) ss.length (picL ss) ∧ W0.heap.size ≤ b ∧ W0.heap.size ≤ ab := h
  have HC := Lib.hid (HCN.out w1 b ab hI)
  have HC2 : Hid (∀ w', w1.Ext w' → Calls Tryd.prog 24 #[.pointer (some ⟨b, 0, none⟩)] w' (PairsRet w' ps)) := fun w' hx => HSP.out w' b ab (hI.ext hx)
  have HX1 := Lib.hid hx1
  clear hx1 hI d0 l0
  go_wp2_with fail
  refine HC.out.mono ?_
  rintro e w2 ⟨rfl, hx2⟩
  have HC3 := Lib.hid (HC2.out w2 hx2)
  have HX2 := Lib.hid (HX1.out.trans hx2)
  clear hx2 HC HC2 HCN HSP
  by_cases hz : ps.length = 0
  · have hz' : ((ps.length : Int) == 0) = true := by rw [beq_iff_eq]; omega
    have HT : Hid (BxSt w (w.heap.size + 1) (w.heap.size + 1 + 1) 0 0 0 0 w2) := ⟨HX0.out.trans HX2.out, ⟨Nat.le_succ _, Nat.le_add_right _ 2, by omega⟩, H23.out.1.ext HX2.out, H23.out.2.ext HX2.out⟩
    have hu := (HT.out.put1 0 0).put2 0 0
    have q1 := HT.out.one.cell0
    have q2 := HT.out.one.cell1
    have q3 := HT.out.two.cell0
    have q4 := HT.out.two.cell1
    have r1 := HT.out.one.free 0
    have r2 := HT.out.one.free 1
    have r3 := HT.out.two.free 0
    have r4 := HT.out.two.free 1
    have e1 := hu.one.cell0
    have e2 := hu.one.cell1
    have e3 := hu.two.cell0
    have e4 := hu.two.cell1
    have m5 : w.heap.size + 1 ≠ w.heap.size + 1 + 1 := by omega
    have m0 := m5.symm
    have HU := Lib.hid hu.x
    clear hu HX0 H23 HX1 HX2 HC3 HI HT
    generalize w.heap.size + 1 + 1 = p3 at *
    generalize w.heap.size + 1 = p2 at *
    go_wp2_with fail
    exact bodyPost_ret (v := .tuple #[.agg #[.int .i64 0, .int .i64 0], .agg #[.int .i64 0, .int .i64 0], .bool false]) (by simp [results, Tryd.results11, go_sem, e1, e2, e3, e4]) rfl (Or.inl ⟨hz, rfl, HU.out⟩)
  · have hz' : ((ps.length : Int) == 0) = false := by rw [beq_eq_false_iff_ne]; omega
    have hp0 : 0 < ps.length := by omega
    have hpi : (0 : Int) < (ps.length : Int) := by omega
    go_wp2_with fail
    refine HC3.out.mono ?_
    rintro e w3 ⟨a3, c3, rfl, hx3, ho3⟩
    have HR3 : Hid (∀ w', w3.Ext w' → RowP w' a3 ps) := fun w' hx => RowP.ext ho3.row hx
    have HX3 := Lib.hid (HX2.out.trans hx3)
    clear hx3 ho3 HC3 hz
    obtain ⟨b3, o3, rfl, c0, c1⟩ := (HR3.out w3 (.refl _)).at hp0
    have HST := Lib.hid (BoxIs.start hp0)
    obtain ⟨q0, hq0⟩ : ∃ q, q = ps.getD 0 (0, 0) := ⟨_, rfl⟩
    rw [← hq0] at c0 c1 HST
    clear hq0
    obtain ⟨x0, y0⟩ := q0
    dsimp only at c0 c1 HST
    rw [Nat.zero_mul, Nat.add_zero] at c0 c1
    go_upto_region 5 with fail
    go_cut [8, 9] (fun u8 u9 wc => ∃ p q, u8 = .pointer (some ⟨p, 0, none⟩) ∧ u9 = .pointer (some ⟨q, 0, none⟩) ∧ BxSt w3 p q x0 y0 x0 y0 wc)
    case first =>
      have lc0 := World.block_lt_of_cell? _ _ c0
      have nc1 : b3 ≠ w3.heap.size := Nat.ne_of_lt lc0
      have nc2 : b3 ≠ w3.heap.size + 1 := Nat.ne_of_lt (Nat.lt_succ_of_lt lc0)
      have HB1 := Lib.hid (BxSt.new w3)
      have HB2 := Lib.hid (BxSt.new' w3)
      have HB3 := Lib.hid (BxSt.newV w3 x0 y0)
      have HB4 := Lib.hid (BxSt.newV' w3 x0 y0)
      clear HR3 HX0 H23 HX1 HX2 HX3 HST HI
      go_region
      all_goals
        go_wp2_with fail
        go_meet
        refine ⟨_, _, rfl, rfl, ?_⟩
        first
          | exact HB3.out.ext (World.Ext.drew (.refl _))
          | exact HB4.out.ext (World.Ext.drew (.refl _))
          | exact ((HB1.out.put1 x0 y0).put2 x0 y0).ext (World.Ext.drew (.refl _))
          | exact ((HB1.out.put2 x0 y0).put1 x0 y0).ext (World.Ext.drew (.refl _))
          | exact ((HB2.out.put1 x0 y0).put2 x0 y0).ext (World.Ext.drew (.refl _))
          | exact ((HB2.out.put2 x0 y0).put1 x0 y0).ext (World.Ext.drew (.refl _))
    case rest =>
      obtain ⟨p8, p9, rfl, rfl, hs⟩ := hcut
      have HS := Lib.hid hs
      clear hs c0 c1
      go_wp2
      go_loopw [11, 36] (fun _ i wr => ∃ (k : Nat) (lx ly hx hy : Int), k ≤ ps.length ∧ i = .int .i64 k ∧ Hid (BxSt w3 p8 p9 lx ly hx hy wr) ∧ Hid (BoxIs ps k lx ly hx hy)) (fun _ i _ => ps.length - (intOf i).toNat)
      case atStart => exact ⟨0, _, _, _, _, Nat.zero_le _, rfl, HS, HST⟩
      case round =>
        clear HS HST
        obtain ⟨k, lx, ly, hx, hy, hk, rfl, HS, HB⟩ := hrel
        obtain ⟨wo, rfl⟩ : ∃ wo : World, wo = wr := ⟨_, rfl⟩
        have hk0 : (0 : Int) ≤ (k : Int) := by omega
        by_cases hlt : k < ps.length
        · have hlt' : (k : Int) < (ps.length : Int) := by omega
          obtain ⟨b4, o4, hbo, e0, e1⟩ := (HR3.out wo HS.out.x).at hlt
          cases hbo
          have HBN := Lib.hid (fun x y (e : ps.getD k (0, 0) = (x, y)) => HB.out.next hlt e)
          obtain ⟨q, hq⟩ : ∃ q, ps.getD k (0, 0) = q := ⟨_, rfl⟩
          rw [hq] at e0 e1
          obtain ⟨x, y⟩ := q
          have HBX : Hid (BoxIs ps (k + 1) (if x < lx then x else lx) (if y < ly then y else ly) (if hx < x then x else hx) (if hy < y then y else hy)) := by
            have h := HBN.out x y hq
            rw [mnE, mnE, mxE, mxE] at h
            exact h
          dsimp only at e0 e1
          clear hq HBN HB
          obtain ⟨w5, hw5⟩ : ∃ w5, w5 = wo.alloc (.cells #[.int .i64 x, .int .i64 y] 39) := ⟨_, rfl⟩
          have hx5 : wo.Ext w5 := by rw [hw5]; repeat (first | exact World.Ext.refl _ | exact ⟨_, rfl⟩ | assumption | refine World.Ext.over ?_ _ | refine World.Ext.drewN ?_ _ | refine World.Ext.drew ?_ | refine World.Ext.alloc ?_ _ | refine World.Ext.setCell ?_ (by simp) _)
          have ht5 : Two w5 wo.heap.size 39 (.int .i64 x) (.int .i64 y) := by rw [hw5]; exact Two.new _ _ _ _ _ rfl
          have HS5 := Lib.hid (HS.out.ext hx5)
          have g0 := ht5.cell0
          have g1 := ht5.cell1
          have g2 := HS5.out.one.cell0
          have g3 := HS5.out.one.cell1
          have g4 := HS5.out.two.cell0
          have g5 := HS5.out.two.cell1
          have lg := ht5.lt
          have fr1 := HS5.out.one.free 0
          have fr2 := HS5.out.one.free 1
          have fr3 := HS5.out.two.free 0
          have fr4 := HS5.out.two.free 1
          have lp8 := World.block_lt_of_cell? _ _ HS.out.one.cell0
          have lp9 := World.block_lt_of_cell? _ _ HS.out.two.cell0
          have n1 : p8 ≠ p9 := HS.out.lo.2.2
          have n2 : p9 ≠ p8 := n1.symm
          have n3 : p8 ≠ wo.heap.size := Nat.ne_of_lt lp8
          have n4 : p9 ≠ wo.heap.size := Nat.ne_of_lt lp9
          have n5 : wo.heap.size ≠ p8 := n3.symm
          have n6 : wo.heap.size ≠ p9 := n4.symm
          have HT5 := Lib.hid ht5
          clear hx5 HS ht5 lp8 lp9
          go_upto_region 9 with fail
          rw [← hw5]
          clear hw5 e0 e1
          generalize wo.heap.size = p11 at *
          have HKP : Hid (∀ a b : Value, ((w5.drew.setCell ⟨p8, 0, none⟩ a).setCell ⟨p8, 1, none⟩ b).cell? ⟨p11, 0, none⟩ = some (.int .i64 x) ∧ ((w5.drew.setCell ⟨p8, 0, none⟩ a).setCell ⟨p8, 1, none⟩ b).cell? ⟨p11, 1, none⟩ = some (.int .i64 y) ∧ ((w5.drew.setCell ⟨p8, 0, none⟩ a).setCell ⟨p8, 1, none⟩ b).cell? ⟨p9, 0, none⟩ = some (.int .i64 hx) ∧ ((w5.drew.setCell ⟨p8, 0, none⟩ a).setCell ⟨p8, 1, none⟩ b).cell? ⟨p9, 1, none⟩ = some (.int .i64 hy)) := fun a b => by
            have u5 := ((HT5.out.ext (World.Ext.drew (.refl _))).other (a := ⟨p8, 0, none⟩) n3 a).other (a := ⟨p8, 1, none⟩) n3 b
            have v5 := ((HS5.out.two.ext (World.Ext.drew (.refl _))).other (a := ⟨p8, 0, none⟩) n1 a).other (a := ⟨p8, 1, none⟩) n1 b
            exact ⟨u5.cell0, u5.cell1, v5.cell0, v5.cell1⟩
          clear HR3 HX0 H23 HX1 HX2 HX3 HT5
          refine wp_region_cut 23 (by kernel_rfl) (by kernel_rfl) (by kernel_rfl) (by kernel_rfl) (by simp) (by kernel_rfl) ?_
          simp only [List.take_succ_cons, List.take_zero, List.drop_succ_cons, List.drop_zero]
          change wpAny _ _ _ _ _ _ _ (World.drew _)
          refine wpAny_of_held (S := fun w' => w'.cell? ⟨p11, 0, none⟩ = some (.int .i64 x) ∧ w'.cell? ⟨p11, 1, none⟩ = some (.int .i64 y) ∧ w'.cell? ⟨p9, 0, none⟩ = some (.int .i64 hx) ∧ w'.cell? ⟨p9, 1, none⟩ = some (.int .i64 hy)) _ _ _ _ ?_
          have hHeld : (w5.drew.cell? ⟨p11, 0, none⟩ = some (.int .i64 x) ∧ w5.drew.cell? ⟨p11, 1, none⟩ = some (.int .i64 y) ∧ w5.drew.cell? ⟨p9, 0, none⟩ = some (.int .i64 hx) ∧ w5.drew.cell? ⟨p9, 1, none⟩ = some (.int .i64 hy)) := ⟨g0, g1, g4, g5⟩
          (refine' wpAnyH_take (i := 0) (oi := { dst := some 40, op := Op.fieldAddr 39 (Operand.tmp 8) 0, type := 0, pos := "l01_pictures.go:290", after := #[], guard := none }) (v := _) rfl (by kernel_rfl) (by kernel_rfl) (by kernel_rfl) (fun _ _ _ h => h) (Or.inl ⟨by rfl, ?hy0t⟩) (by assumption) ?rest0t; (case hy0t => (intro w hSw; (try dsimp only at hSw); go_simp; (try with_reducible rfl))); (try simp only [Act.put, List.setIfInBounds_toArray, List.set_cons_succ, List.set_cons_zero]))
          (refine' wpAnyH_take (i := 2) (oi := { dst := some 42, op := Op.fieldAddr 39 (Operand.tmp 11) 0, type := 0, pos := "l01_pictures.go:290", after := #[], guard := none }) (v := _) rfl (by kernel_rfl) (by kernel_rfl) (by kernel_rfl) (fun _ _ _ h => h) (Or.inl ⟨by rfl, ?hy2t⟩) (by assumption) ?rest2t; (case hy2t => (intro w hSw; (try dsimp only at hSw); go_simp; (try with_reducible rfl))); (try simp only [Act.put, List.setIfInBounds_toArray, List.set_cons_succ, List.set_cons_zero]))
          (refine' wpAnyH_take (i := 3) (oi := { dst := some 43, op := Op.load 2 (Operand.tmp 42), type := 2, pos := "l01_pictures.go:290", after := #[{ on := 2, ground := Ground.data }], guard := none }) (v := _) rfl (by kernel_rfl) (by kernel_rfl) (by kernel_rfl) (fun _ _ _ h => h) (Or.inl ⟨by rfl, ?hy3t⟩) (by assumption) ?rest3t; (case hy3t => (intro w hSw; (try dsimp only at hSw); go_simp; (try with_reducible rfl))); (try simp only [Act.put, List.setIfInBounds_toArray, List.set_cons_succ, List.set_cons_zero]))
          (refine' wpAnyH_take (i := 5) (oi := { dst := some 45, op := Op.fieldAddr 39 (Operand.tmp 8) 1, type := 0, pos := "l01_pictures.go:290", after := #[], guard := none }) (v := _) rfl (by kernel_rfl) (by kernel_rfl) (by kernel_rfl) (fun _ _ _ h => h) (Or.inl ⟨by rfl, ?hy5t⟩) (by assumption) ?rest5t; (case hy5t => (intro w hSw; (try dsimp only at hSw); go_simp; (try with_reducible rfl))); (try simp only [Act.put, List.setIfInBounds_toArray, List.set_cons_succ, List.set_cons_zero]))
          (refine' wpAnyH_take (i := 7) (oi := { dst := some 47, op := Op.fieldAddr 39 (Operand.tmp 11) 1, type := 0, pos := "l01_pictures.go:290", after := #[], guard := none }) (v := _) rfl (by kernel_rfl) (by kernel_rfl) (by kernel_rfl) (fun _ _ _ h => h) (Or.inl ⟨by rfl, ?hy7t⟩) (by assumption) ?rest7t; (case hy7t => (intro w hSw; (try dsimp only at hSw); go_simp; (try with_reducible rfl))); (try simp only [Act.put, List.setIfInBounds_toArray, List.set_cons_succ, List.set_cons_zero]))
          (refine' wpAnyH_take (i := 8) (oi := { dst := some 48, op := Op.load 2 (Operand.tmp 47), type := 2, pos := "l01_pictures.go:290", after := #[{ on := 7, ground := Ground.data }], guard := none }) (v := _) rfl (by kernel_rfl) (by kernel_rfl) (by kernel_rfl) (fun _ _ _ h => h) (Or.inl ⟨by rfl, ?hy8t⟩) (by assumption) ?rest8t; (case hy8t => (intro w hSw; (try dsimp only at hSw); go_simp; (try with_reducible rfl))); (try simp only [Act.put, List.setIfInBounds_toArray, List.set_cons_succ, List.set_cons_zero]))
          (refine' wpAnyH_take (i := 11) (oi := { dst := some 51, op := Op.fieldAddr 39 (Operand.tmp 9) 0, type := 0, pos := "l01_pictures.go:290", after := #[], guard := none }) (v := _) rfl (by kernel_rfl) (by kernel_rfl) (by kernel_rfl) (fun _ _ _ h => h) (Or.inl ⟨by rfl, ?hy11t⟩) (by assumption) ?rest11t; (case hy11t => (intro w hSw; (try dsimp only at hSw); go_simp; (try with_reducible rfl))); (try simp only [Act.put, List.setIfInBounds_toArray, List.set_cons_succ, List.set_cons_zero]))
          (refine' wpAnyH_take (i := 12) (oi := { dst := some 52, op := Op.load 2 (Operand.tmp 51), type := 2, pos := "l01_pictures.go:290", after := #[{ on := 11, ground := Ground.data }], guard := none }) (v := _) rfl (by kernel_rfl) (by kernel_rfl) (by kernel_rfl) (fun _ _ _ h => h) (Or.inl ⟨by rfl, ?hy12t⟩) (by assumption) ?rest12t; (case hy12t => (intro w hSw; (try dsimp only at hSw); go_simp; (try with_reducible rfl))); (try simp only [Act.put, List.setIfInBounds_toArray, List.set_cons_succ, List.set_cons_zero]))
          (refine' wpAnyH_take (i := 13) (oi := { dst := some 53, op := Op.fieldAddr 39 (Operand.tmp 11) 0, type := 0, pos := "l01_pictures.go:290", after := #[], guard := none }) (v := _) rfl (by kernel_rfl) (by kernel_rfl) (by kernel_rfl) (fun _ _ _ h => h) (Or.inl ⟨by rfl, ?hy13t⟩) (by assumption) ?rest13t; (case hy13t => (intro w hSw; (try dsimp only at hSw); go_simp; (try with_reducible rfl))); (try simp only [Act.put, List.setIfInBounds_toArray, List.set_cons_succ, List.set_cons_zero]))
          (refine' wpAnyH_take (i := 14) (oi := { dst := some 54, op := Op.load 2 (Operand.tmp 53), type := 2, pos := "l01_pictures.go:290", after := #[{ on := 13, ground := Ground.data }], guard := none }) (v := _) rfl (by kernel_rfl) (by kernel_rfl) (by kernel_rfl) (fun _ _ _ h => h) (Or.inl ⟨by rfl, ?hy14t⟩) (by assumption) ?rest14t; (case hy14t => (intro w hSw; (try dsimp only at hSw); go_simp; (try with_reducible rfl))); (try simp only [Act.put, List.setIfInBounds_toArray, List.set_cons_succ, List.set_cons_zero]))
          (refine' wpAnyH_take (i := 15) (oi := { dst := some 55, op := Op.call { callee := Callee.builtin Builtin.max, args := #[Operand.tmp 52, Operand.tmp 54], argTypes := #[2, 2] }, type := 2, pos := "l01_pictures.go:290", after := #[{ on := 12, ground := Ground.data }, { on := 14, ground := Ground.data }], guard := none }) (v := _) rfl (by kernel_rfl) (by kernel_rfl) (by kernel_rfl) (fun _ _ _ h => h) (Or.inl ⟨by rfl, ?hy15t⟩) (by assumption) ?rest15t; (case hy15t => (intro w hSw; (try dsimp only at hSw); go_simp; (try with_reducible rfl))); (try simp only [Act.put, List.setIfInBounds_toArray, List.set_cons_succ, List.set_cons_zero]))
          (refine' wpAnyH_take (i := 16) (oi := { dst := some 56, op := Op.fieldAddr 39 (Operand.tmp 9) 1, type := 0, pos := "l01_pictures.go:290", after := #[], guard := none }) (v := _) rfl (by kernel_rfl) (by kernel_rfl) (by kernel_rfl) (fun _ _ _ h => h) (Or.inl ⟨by rfl, ?hy16t⟩) (by assumption) ?rest16t; (case hy16t => (intro w hSw; (try dsimp only at hSw); go_simp; (try with_reducible rfl))); (try simp only [Act.put, List.setIfInBounds_toArray, List.set_cons_succ, List.set_cons_zero]))
          (refine' wpAnyH_take (i := 17) (oi := { dst := some 57, op := Op.load 2 (Operand.tmp 56), type := 2, pos := "l01_pictures.go:290", after := #[{ on := 16, ground := Ground.data }], guard := none }) (v := _) rfl (by kernel_rfl) (by kernel_rfl) (by kernel_rfl) (fun _ _ _ h => h) (Or.inl ⟨by rfl, ?hy17t⟩) (by assumption) ?rest17t; (case hy17t => (intro w hSw; (try dsimp only at hSw); go_simp; (try with_reducible rfl))); (try simp only [Act.put, List.setIfInBounds_toArray, List.set_cons_succ, List.set_cons_zero]))
          (refine' wpAnyH_take (i := 18) (oi := { dst := some 58, op := Op.fieldAddr 39 (Operand.tmp 11) 1, type := 0, pos := "l01_pictures.go:290", after := #[], guard := none }) (v := _) rfl (by kernel_rfl) (by kernel_rfl) (by kernel_rfl) (fun _ _ _ h => h) (Or.inl ⟨by rfl, ?hy18t⟩) (by assumption) ?rest18t; (case hy18t => (intro w hSw; (try dsimp only at hSw); go_simp; (try with_reducible rfl))); (try simp only [Act.put, List.setIfInBounds_toArray, List.set_cons_succ, List.set_cons_zero]))
          (refine' wpAnyH_take (i := 19) (oi := { dst := some 59, op := Op.load 2 (Operand.tmp 58), type := 2, pos := "l01_pictures.go:290", after := #[{ on := 18, ground := Ground.data }], guard := none }) (v := _) rfl (by kernel_rfl) (by kernel_rfl) (by kernel_rfl) (fun _ _ _ h => h) (Or.inl ⟨by rfl, ?hy19t⟩) (by assumption) ?rest19t; (case hy19t => (intro w hSw; (try dsimp only at hSw); go_simp; (try with_reducible rfl))); (try simp only [Act.put, List.setIfInBounds_toArray, List.set_cons_succ, List.set_cons_zero]))
          (refine' wpAnyH_take (i := 20) (oi := { dst := some 60, op := Op.call { callee := Callee.builtin Builtin.max, args := #[Operand.tmp 57, Operand.tmp 59], argTypes := #[2, 2] }, type := 2, pos := "l01_pictures.go:290", after := #[{ on := 17, ground := Ground.data }, { on := 19, ground := Ground.data }], guard := none }) (v := _) rfl (by kernel_rfl) (by kernel_rfl) (by kernel_rfl) (fun _ _ _ h => h) (Or.inl ⟨by rfl, ?hy20t⟩) (by assumption) ?rest20t; (case hy20t => (intro w hSw; (try dsimp only at hSw); go_simp; (try with_reducible rfl))); (try simp only [Act.put, List.setIfInBounds_toArray, List.set_cons_succ, List.set_cons_zero]))
          (refine' wpAnyH_take (i := 21) (oi := { dst := some 61, op := Op.build 39 #[(0, Operand.tmp 55), (1, Operand.tmp 60)], type := 39, pos := "l01_pictures.go:290", after := #[{ on := 15, ground := Ground.data }, { on := 20, ground := Ground.data }, { on := 22, ground := Ground.gcOnly Departure.lateStores }], guard := none }) (v := _) rfl (by kernel_rfl) (by kernel_rfl) (by kernel_rfl) (fun _ _ _ h => h) (Or.inl ⟨by rfl, ?hy21t⟩) (by assumption) ?rest21t; (case hy21t => (intro w hSw; (try dsimp only at hSw); go_simp; (try with_reducible rfl))); (try simp only [Act.put, List.setIfInBounds_toArray, List.set_cons_succ, List.set_cons_zero]))
          refine wpAnyH_ready (rs := [1, 6]) (by kernel_rfl) (by simp) ?_
          refine AllReadyH.cons (o := { dst := some 41, op := Op.load 2 (Operand.tmp 40), type := 2, pos := "l01_pictures.go:290", after := #[{ on := 0, ground := Ground.data }], guard := none }) rfl (fun K hK => ?_) ?_
          · go_simp
            refine hK.out _ _ ⟨g0, g1, g4, g5⟩ (fun hHeld => ?_)
            clear hK K
            (try simp only [Act.put, List.setIfInBounds_toArray, List.set_cons_succ, List.set_cons_zero])
            (refine' wpAnyH_take (i := 4) (oi := { dst := some 44, op := Op.call { callee := Callee.builtin Builtin.min, args := #[Operand.tmp 41, Operand.tmp 43], argTypes := #[2, 2] }, type := 2, pos := "l01_pictures.go:290", after := #[{ on := 1, ground := Ground.data }, { on := 3, ground := Ground.data }], guard := none }) (v := _) rfl (by kernel_rfl) (by kernel_rfl) (by kernel_rfl) (fun _ _ _ h => h) (Or.inl ⟨by rfl, ?hy4q1⟩) (by assumption) ?rest4q1; (case hy4q1 => (intro w hSw; (try dsimp only at hSw); go_simp; (try with_reducible rfl))); (try simp only [Act.put, List.setIfInBounds_toArray, List.set_cons_succ, List.set_cons_zero]))
            refine wpAnyH_ready (rs := [6]) (by kernel_rfl) (by simp) ?_
            refine AllReadyH.cons (o := { dst := some 46, op := Op.load 2 (Operand.tmp 45), type := 2, pos := "l01_pictures.go:290", after := #[{ on := 5, ground := Ground.data }], guard := none }) rfl (fun K hK => ?_) ?_
            · go_simp
              refine hK.out _ _ ⟨g0, g1, g4, g5⟩ (fun hHeld => ?_)
              clear hK K
              (try simp only [Act.put, List.setIfInBounds_toArray, List.set_cons_succ, List.set_cons_zero])
              (refine' wpAnyH_take (i := 9) (oi := { dst := some 49, op := Op.call { callee := Callee.builtin Builtin.min, args := #[Operand.tmp 46, Operand.tmp 48], argTypes := #[2, 2] }, type := 2, pos := "l01_pictures.go:290", after := #[{ on := 6, ground := Ground.data }, { on := 8, ground := Ground.data }], guard := none }) (v := _) rfl (by kernel_rfl) (by kernel_rfl) (by kernel_rfl) (fun _ _ _ h => h) (Or.inl ⟨by rfl, ?hy9q1⟩) (by assumption) ?rest9q1; (case hy9q1 => (intro w hSw; (try dsimp only at hSw); go_simp; (try with_reducible rfl))); (try simp only [Act.put, List.setIfInBounds_toArray, List.set_cons_succ, List.set_cons_zero]))
              (refine' wpAnyH_take (i := 10) (oi := { dst := some 50, op := Op.build 39 #[(0, Operand.tmp 44), (1, Operand.tmp 49)], type := 39, pos := "l01_pictures.go:290", after := #[{ on := 4, ground := Ground.data }, { on := 9, ground := Ground.data }], guard := none }) (v := _) rfl (by kernel_rfl) (by kernel_rfl) (by kernel_rfl) (fun _ _ _ h => h) (Or.inl ⟨by rfl, ?hy10q1⟩) (by assumption) ?rest10q1; (case hy10q1 => (intro w hSw; (try dsimp only at hSw); go_simp; (try with_reducible rfl))); (try simp only [Act.put, List.setIfInBounds_toArray, List.set_cons_succ, List.set_cons_zero]))
              refine wpAnyH_ready (rs := [22]) (by kernel_rfl) (by simp) ?_
              refine AllReadyH.cons (o := { dst := none, op := Op.store 39 (Operand.tmp 8) (Operand.tmp 50), type := 0, pos := "l01_pictures.go:290", after := #[{ on := 10, ground := Ground.data }, { on := 0, ground := Ground.phase }, { on := 1, ground := Ground.phase }, { on := 2, ground := Ground.phase }, { on := 3, ground := Ground.phase }, { on := 4, ground := Ground.phase }, { on := 5, ground := Ground.phase }, { on := 6, ground := Ground.phase }, { on := 7, ground := Ground.phase }, { on := 8, ground := Ground.phase }, { on := 9, ground := Ground.phase }, { on := 10, ground := Ground.phase }, { on := 11, ground := Ground.textOnly Departure.lateStores }, { on := 12, ground := Ground.textOnly Departure.lateStores }, { on := 13, ground := Ground.textOnly Departure.lateStores }, { on := 14, ground := Ground.textOnly Departure.lateStores }, { on := 15, ground := Ground.textOnly Departure.lateStoresUnsure }, { on := 16, ground := Ground.textOnly Departure.lateStores }, { on := 17, ground := Ground.textOnly Departure.lateStores }, { on := 18, ground := Ground.textOnly Departure.lateStores }, { on := 19, ground := Ground.textOnly Departure.lateStores }, { on := 20, ground := Ground.textOnly Departure.lateStoresUnsure }, { on := 21, ground := Ground.textOnly Departure.lateStores }], guard := none }) rfl (fun K hK => ?_) ?_
              · go_simp
                refine hK.out _ _ (HKP.out _ _) (fun hHeld => ?_)
                clear hK K
                (try simp only [Act.put, List.setIfInBounds_toArray, List.set_cons_succ, List.set_cons_zero])
                refine wpAnyH_done (by kernel_rfl) ?_ _
                show wpList _ _ _ _ _ _
                clear hHeld
                go_wp2_with fail
                go_roundw
                case rel => exact ⟨k + 1, _, _, _, _, hlt, by go_num, Lib.hid (by first | exact ((HS5.out.put1 _ _).put2 _ _).ext (World.Ext.drew (.refl _)) | exact ((HS5.out.put1 _ _).put2 _ _) | exact (((HS5.out.ext (World.Ext.drew (.refl _))).put1 _ _).put2 _ _)), HBX⟩
                case measure => simp [intOf]; omega
              · exact AllReadyH.nil
            · exact AllReadyH.nil
          · refine AllReadyH.cons (o := { dst := some 46, op := Op.load 2 (Operand.tmp 45), type := 2, pos := "l01_pictures.go:290", after := #[{ on := 5, ground := Ground.data }], guard := none }) rfl (fun K hK => ?_) ?_
            · go_simp
              refine hK.out _ _ ⟨g0, g1, g4, g5⟩ (fun hHeld => ?_)
              clear hK K
              (try simp only [Act.put, List.setIfInBounds_toArray, List.set_cons_succ, List.set_cons_zero])
              (refine' wpAnyH_take (i := 9) (oi := { dst := some 49, op := Op.call { callee := Callee.builtin Builtin.min, args := #[Operand.tmp 46, Operand.tmp 48], argTypes := #[2, 2] }, type := 2, pos := "l01_pictures.go:290", after := #[{ on := 6, ground := Ground.data }, { on := 8, ground := Ground.data }], guard := none }) (v := _) rfl (by kernel_rfl) (by kernel_rfl) (by kernel_rfl) (fun _ _ _ h => h) (Or.inl ⟨by rfl, ?hy9q2⟩) (by assumption) ?rest9q2; (case hy9q2 => (intro w hSw; (try dsimp only at hSw); go_simp; (try with_reducible rfl))); (try simp only [Act.put, List.setIfInBounds_toArray, List.set_cons_succ, List.set_cons_zero]))
              refine wpAnyH_ready (rs := [1]) (by kernel_rfl) (by simp) ?_
              refine AllReadyH.cons (o := { dst := some 41, op := Op.load 2 (Operand.tmp 40), type := 2, pos := "l01_pictures.go:290", after := #[{ on := 0, ground := Ground.data }], guard := none }) rfl (fun K hK => ?_) ?_
              · go_simp
                refine hK.out _ _ ⟨g0, g1, g4, g5⟩ (fun hHeld => ?_)
                clear hK K
                (try simp only [Act.put, List.setIfInBounds_toArray, List.set_cons_succ, List.set_cons_zero])
                (refine' wpAnyH_take (i := 4) (oi := { dst := some 44, op := Op.call { callee := Callee.builtin Builtin.min, args := #[Operand.tmp 41, Operand.tmp 43], argTypes := #[2, 2] }, type := 2, pos := "l01_pictures.go:290", after := #[{ on := 1, ground := Ground.data }, { on := 3, ground := Ground.data }], guard := none }) (v := _) rfl (by kernel_rfl) (by kernel_rfl) (by kernel_rfl) (fun _ _ _ h => h) (Or.inl ⟨by rfl, ?hy4q2⟩) (by assumption) ?rest4q2; (case hy4q2 => (intro w hSw; (try dsimp only at hSw); go_simp; (try with_reducible rfl))); (try simp only [Act.put, List.setIfInBounds_toArray, List.set_cons_succ, List.set_cons_zero]))
                (refine' wpAnyH_take (i := 10) (oi := { dst := some 50, op := Op.build 39 #[(0, Operand.tmp 44), (1, Operand.tmp 49)], type := 39, pos := "l01_pictures.go:290", after := #[{ on := 4, ground := Ground.data }, { on := 9, ground := Ground.data }], guard := none }) (v := _) rfl (by kernel_rfl) (by kernel_rfl) (by kernel_rfl) (fun _ _ _ h => h) (Or.inl ⟨by rfl, ?hy10q2⟩) (by assumption) ?rest10q2; (case hy10q2 => (intro w hSw; (try dsimp only at hSw); go_simp; (try with_reducible rfl))); (try simp only [Act.put, List.setIfInBounds_toArray, List.set_cons_succ, List.set_cons_zero]))
                refine wpAnyH_ready (rs := [22]) (by kernel_rfl) (by simp) ?_
                refine AllReadyH.cons (o := { dst := none, op := Op.store 39 (Operand.tmp 8) (Operand.tmp 50), type := 0, pos := "l01_pictures.go:290", after := #[{ on := 10, ground := Ground.data }, { on := 0, ground := Ground.phase }, { on := 1, ground := Ground.phase }, { on := 2, ground := Ground.phase }, { on := 3, ground := Ground.phase }, { on := 4, ground := Ground.phase }, { on := 5, ground := Ground.phase }, { on := 6, ground := Ground.phase }, { on := 7, ground := Ground.phase }, { on := 8, ground := Ground.phase }, { on := 9, ground := Ground.phase }, { on := 10, ground := Ground.phase }, { on := 11, ground := Ground.textOnly Departure.lateStores }, { on := 12, ground := Ground.textOnly Departure.lateStores }, { on := 13, ground := Ground.textOnly Departure.lateStores }, { on := 14, ground := Ground.textOnly Departure.lateStores }, { on := 15, ground := Ground.textOnly Departure.lateStoresUnsure }, { on := 16, ground := Ground.textOnly Departure.lateStores }, { on := 17, ground := Ground.textOnly Departure.lateStores }, { on := 18, ground := Ground.textOnly Departure.lateStores }, { on := 19, ground := Ground.textOnly Departure.lateStores }, { on := 20, ground := Ground.textOnly Departure.lateStoresUnsure }, { on := 21, ground := Ground.textOnly Departure.lateStores }], guard := none }) rfl (fun K hK => ?_) ?_
                · go_simp
                  refine hK.out _ _ (HKP.out _ _) (fun hHeld => ?_)
                  clear hK K
                  (try simp only [Act.put, List.setIfInBounds_toArray, List.set_cons_succ, List.set_cons_zero])
                  refine wpAnyH_done (by kernel_rfl) ?_ _
                  show wpList _ _ _ _ _ _
                  clear hHeld
                  go_wp2_with fail
                  go_roundw
                  case rel => exact ⟨k + 1, _, _, _, _, hlt, by go_num, Lib.hid (by first | exact ((HS5.out.put1 _ _).put2 _ _).ext (World.Ext.drew (.refl _)) | exact ((HS5.out.put1 _ _).put2 _ _) | exact (((HS5.out.ext (World.Ext.drew (.refl _))).put1 _ _).put2 _ _)), HBX⟩
                  case measure => simp [intOf]; omega
                · exact AllReadyH.nil
              · exact AllReadyH.nil
            · exact AllReadyH.nil
        · have hke : k = ps.length := by omega
          subst hke
          have hlt' : ¬ ((ps.length : Int) < (ps.length : Int)) := by omega
          have hx9 := HX3.out.trans HS.out.x
          have t2 := H23.out.1.ext hx9
          have t3 := H23.out.2.ext hx9
          have lt2 := H23.out.1.lt
          have lt3 := H23.out.2.lt
          have hlo := HS.out.lo
          have hsz := HX3.out.size
          have HT : Hid (BxSt w (w.heap.size + 1) (w.heap.size + 1 + 1) 0 0 0 0 wo) := ⟨HX0.out.trans hx9, ⟨Nat.le_succ _, Nat.le_add_right _ 2, by omega⟩, t2, t3⟩
          have hu := (HT.out.put1 lx ly).put2 hx hy
          have hv := (HT.out.put2 hx hy).put1 lx ly
          have e1 := hu.one.cell0
          have e2 := hu.one.cell1
          have e3 := hu.two.cell0
          have e4 := hu.two.cell1
          have f1 := hv.one.cell0
          have f2 := hv.one.cell1
          have f3 := hv.two.cell0
          have f4 := hv.two.cell1
          have HU := Lib.hid hu.x
          have HV := Lib.hid hv.x
          clear hu hv HT
          have g2 := HS.out.one.cell0
          have g3 := HS.out.one.cell1
          have g4 := HS.out.two.cell0
          have g5 := HS.out.two.cell1
          have q1 := t2.cell0
          have q2 := t2.cell1
          have q3 := t3.cell0
          have q4 := t3.cell1
          have r1 := t2.free 0
          have r2 := t2.free 1
          have r3 := t3.free 0
          have r4 := t3.free 1
          have m1 : p8 ≠ w.heap.size + 1 := by omega
          have m2 : p8 ≠ w.heap.size + 1 + 1 := by omega
          have m3 : p9 ≠ w.heap.size + 1 := by omega
          have m4 : p9 ≠ w.heap.size + 1 + 1 := by omega
          have m5 : w.heap.size + 1 ≠ w.heap.size + 1 + 1 := by omega
          have m6 := m1.symm
          have m7 := m2.symm
          have m8 := m3.symm
          have m9 := m4.symm
          have m0 := m5.symm
          clear HR3 HX0 H23 HX1 HX2 HX3 HI HS hx9 t2 t3 lt2 lt3 hlo hsz
          generalize w.heap.size + 1 + 1 = p3 at *
          generalize w.heap.size + 1 = p2 at *
          go_upto_region 11 with fail
          go_region
          all_goals
            go_wp2_with fail
            exact bodyPost_ret (v := .tuple #[.agg #[.int .i64 lx, .int .i64 ly], .agg #[.int .i64 hx, .int .i64 hy], .bool true]) (by first | simp [results, Tryd.results11, go_sem, e1, e2, e3, e4] | simp [results, Tryd.results11, go_sem, f1, f2, f3, f4]) rfl (Or.inr ⟨hp0, lx, ly, hx, hy, rfl, by first | exact HU.out.drew | exact HV.out.drew, HB.out⟩)
end Go.Proofs.YtelaoimcaidoiaaDoor
