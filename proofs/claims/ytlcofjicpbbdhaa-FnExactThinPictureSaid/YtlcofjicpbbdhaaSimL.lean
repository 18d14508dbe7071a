/- IsSimple, both sides. -/
import Derived.Test.YtlcofjicpbbdhaaSimO
namespace Go.Proofs.Ytlcofjicpbbdhaa
open Go Go.RowKit
noncomputable def simOk (ss : List ByteArray) (x y : Int) (eight : Bool) : Bool := picOk ss && (pxl (picW ss) ss.length (picL ss) x y && simpB (pxl (picW ss) ss.length (picL ss)) x y eight)
theorem pxl_in {W H : Nat} {l : List Bool} {x y : Int} (h : pxl W H l x y = true) : 0 ≤ x ∧ x < W ∧ 0 ≤ y ∧ y < H := by
  unfold pxl at h
  rw [Bool.and_eq_true] at h
  exact hasB_true.1 h.1
set_option maxRecDepth 5000 in
set_option maxHeartbeats 1600000 in
theorem specSimple_any (a : Option Addr) (c : Nat) (ss : List ByteArray) (x y : Int) (eight : Bool) (w : World) (hb : PicBnd ss) (hm : RowS w a ss) :
    Calls Try.prog 22 #[.agg #[.slice a ss.length c], .agg #[.int .i64 x, .int .i64 y], .bool eight] w fun e w' => e = .returned (.bool (simOk ss x y eight)) ∧ w.Ext w' := by
  obtain ⟨W0, hW0⟩ : ∃ W0, W0 = (w.alloc (.cells #[.slice a ss.length c] 26)).alloc (.cells #[.int .i64 x, .int .i64 y] 36) := ⟨_, rfl⟩
  have hx0 : w.Ext W0 := by rw [hW0]; repeat (first | exact World.Ext.refl _ | exact ⟨_, rfl⟩ | assumption | refine World.Ext.over ?_ _ | refine World.Ext.drewN ?_ _ | refine World.Ext.drew ?_ | refine World.Ext.alloc ?_ _ | refine World.Ext.setCell ?_ (by simp) _)
  have d0 : W0.cell? ⟨w.heap.size, 0, none⟩ = some (.slice a ss.length c) := by rw [hW0]; simp [go_sem]
  have HD : Hid (∀ w', W0.Ext w' → w'.cell? ⟨w.heap.size + 1, 0, none⟩ = some (.int .i64 x) ∧ w'.cell? ⟨w.heap.size + 1, 1, none⟩ = some (.int .i64 y)) := fun w' hx => ⟨hx.cell (by rw [hW0]; simp [go_sem]), hx.cell (by rw [hW0]; simp [go_sem])⟩
  have HI : Hid (Calls Try.prog 78 #[.pointer (some ⟨w.heap.size, 0, none⟩)] W0 fun e w' => e = .returned (.bool (picOk ss)) ∧ W0.Ext w') := l01Is_any _ a c ss W0 hb.1 hb.2 d0 (hm.ext hx0) _ rfl
  have HX0 := Lib.hid hx0
  unfold simOk
  cases h : picOk ss
  · rw [h] at HI
    clear hb hm hx0 d0 h
    show Calls _ _ _ _ (fun e w' => e = .returned (.bool false) ∧ w.Ext w')
    go_enter Try.func22, Try.ntmps22
    go_wp2_with fail
    rw [← hW0]
    refine HI.out.mono ?_
    rintro e w1 ⟨rfl, hx1⟩
    have HX := Lib.hid (HX0.out.trans hx1)
    clear hx1 hW0
    go_wp2
    go_ret
    exact ⟨rfl, HX.out⟩
  · rw [h] at HI
    obtain ⟨v1, v2, v3, v4, e1, -⟩ := picOk_spec h
    have HB : Hid (∀ w', W0.Ext w' → Calls Try.prog 94 #[.pointer (some ⟨w.heap.size, 0, none⟩), .int .i64 x, .int .i64 y] w' fun e w'' => e = .returned (.bool (pxl (picW ss) ss.length (picL ss) x y)) ∧ w'.Ext w'') := fun w' hx => l01Black_any _ a c ss x y w' e1 (by omega) (by omega) (hx.cell d0) ((hm.ext hx0).ext hx) _ rfl
    have HS : Hid (pxl (picW ss) ss.length (picL ss) x y = true → ∀ w', W0.Ext w' → Calls Try.prog 95 #[.pointer (some ⟨w.heap.size, 0, none⟩), .int .i64 x, .int .i64 y, .bool eight] w' fun e w'' => e = .returned (.bool (simpB (pxl (picW ss) ss.length (picL ss)) x y eight)) ∧ w'.Ext w'') := fun hp w' hx => by
      have := pxl_in hp
      exact l05Simple_any _ a c ss x y eight w' e1 (by omega) (by omega) (hx.cell d0) ((hm.ext hx0).ext hx) (by omega) (by omega)
    simp only [Bool.true_and]
    clear hb hm hx0 d0 h v1 v2 v3 v4 e1
    generalize simpB (pxl (picW ss) ss.length (picL ss)) x y eight = t2 at *
    generalize pxl (picW ss) ss.length (picL ss) x y = t at *
    go_enter Try.func22, Try.ntmps22
    go_wp2_with fail
    rw [← hW0]
    refine HI.out.mono ?_
    rintro e w1 ⟨rfl, hx1⟩
    obtain ⟨c0, c1⟩ := HD.out w1 hx1
    have HX1 := Lib.hid hx1
    clear hx1 hW0
    go_wp2_with fail
    refine (HB.out w1 HX1.out).mono ?_
    rintro e w2 ⟨rfl, hx2⟩
    cases t
    · have HX := Lib.hid (HX0.out.trans (HX1.out.trans hx2))
      clear hx2 c0 c1
      go_wp2
      go_ret
      exact ⟨rfl, HX.out⟩
    · have HX2 := Lib.hid (HX1.out.trans hx2)
      clear c0 c1
      obtain ⟨c0, c1⟩ := HD.out w2 HX2.out
      clear hx2
      go_wp2_with fail
      refine (HS.out (by trivial) w2 HX2.out).mono ?_
      rintro e w3 ⟨rfl, hx3⟩
      have HX := Lib.hid (HX0.out.trans (HX2.out.trans hx3))
      clear hx3 c0 c1
      go_wp2
      go_ret
      exact ⟨by simp, HX.out⟩
set_option maxRecDepth 5000 in
set_option maxHeartbeats 1600000 in
theorem implSimple_any (a : Option Addr) (c : Nat) (ss : List ByteArray) (x y : Int) (eight : Bool) (w : World) (hb : PicBnd ss) (hm : RowS w a ss) :
    Calls Try.prog 24 #[.agg #[.slice a ss.length c], .agg #[.int .i64 x, .int .i64 y], .bool eight] w fun e w' => e = .returned (.bool (simOk ss x y eight)) ∧ w.Ext w' := by
  obtain ⟨W0, hW0⟩ : ∃ W0, W0 = (w.alloc (.cells #[.slice a ss.length c] 26)).alloc (.cells #[.int .i64 x, .int .i64 y] 36) := ⟨_, rfl⟩
  have hx0 : w.Ext W0 := by rw [hW0]; repeat (first | exact World.Ext.refl _ | exact ⟨_, rfl⟩ | assumption | refine World.Ext.over ?_ _ | refine World.Ext.drewN ?_ _ | refine World.Ext.drew ?_ | refine World.Ext.alloc ?_ _ | refine World.Ext.setCell ?_ (by simp) _)
  have HD : Hid (∀ w', W0.Ext w' → w'.cell? ⟨w.heap.size + 1, 0, none⟩ = some (.int .i64 x) ∧ w'.cell? ⟨w.heap.size + 1, 1, none⟩ = some (.int .i64 y)) := fun w' hx => ⟨hx.cell (by rw [hW0]; simp [go_sem]), hx.cell (by rw [hW0]; simp [go_sem])⟩
  have HIO : Hid (Calls Try.prog 96 #[.agg #[.slice a ss.length c]] W0 (ImgOf W0 ss (picOk ss))) := imageOf_any a c ss W0 hb.1 hb.2 (hm.ext hx0) _ rfl
  have HX0 := Lib.hid hx0
  unfold simOk
  cases h : picOk ss
  · rw [h] at HIO
    clear hb hm hx0 h
    show Calls _ _ _ _ (fun e w' => e = .returned (.bool false) ∧ w.Ext w')
    go_enter Try.func24, Try.ntmps24
    go_wp2_with fail
    rw [← hW0]
    refine HIO.out.mono ?_
    rintro e w1 ⟨rfl, hx1⟩
    have HX := Lib.hid (HX0.out.trans hx1)
    clear hx1 hW0
    go_wp2
    go_ret
    exact ⟨rfl, HX.out⟩
  · rw [h] at HIO
    obtain ⟨v1, v2, v3, v4, e1, -⟩ := picOk_spec h
    have HB : Hid (∀ w' b ab, Img w' b ab (picW ss) ss.length (picL ss) → Calls Try.prog 97 #[.pointer (some ⟨b, 0, none⟩), .int .i64 x, .int .i64 y] w' fun e w'' => e = .returned (.bool (pxl (picW ss) ss.length (picL ss) x y)) ∧ w'.Ext w'') := fun w' b ab hI => get_any b ab _ _ _ x y w' (by omega) (by omega) hI _ rfl
    have HS : Hid (pxl (picW ss) ss.length (picL ss) x y = true → ∀ w' b ab, Img w' b ab (picW ss) ss.length (picL ss) → Calls Try.prog 98 #[.pointer (some ⟨b, 0, none⟩), .agg #[.int .i64 x, .int .i64 y], .bool eight] w' fun e w'' => e = .returned (.bool (simpB (pxl (picW ss) ss.length (picL ss)) x y eight)) ∧ w'.Ext w'') := fun hp w' b ab hI => by
      have := pxl_in hp
      exact simple_any b ab _ _ _ x y eight w' (by omega) (by omega) hI (by omega) (by omega)
    simp only [Bool.true_and]
    clear hb hm hx0 h v1 v2 v3 v4 e1
    generalize simpB (pxl (picW ss) ss.length (picL ss)) x y eight = t2 at *
    generalize pxl (picW ss) ss.length (picL ss) x y = t at *
    go_enter Try.func24, Try.ntmps24
    go_wp2_with fail
    rw [← hW0]
    refine HIO.out.mono ?_
    rintro e w1 ⟨b1, ab1, rfl, hx1, hi1, -, -⟩
    obtain ⟨c0, c1⟩ := HD.out w1 hx1
    have HX1 := Lib.hid hx1
    have HIM := Lib.hid hi1
    clear hx1 hi1 hW0
    go_wp2_with fail
    refine (HB.out w1 b1 ab1 HIM.out).mono ?_
    rintro e w2 ⟨rfl, hx2⟩
    cases t
    · have HX := Lib.hid (HX0.out.trans (HX1.out.trans hx2))
      clear hx2 c0 c1
      go_wp2
      go_ret
      exact ⟨rfl, HX.out⟩
    · have HX2 := Lib.hid (HX1.out.trans hx2)
      clear c0 c1
      obtain ⟨c0, c1⟩ := HD.out w2 HX2.out
      have HC := Lib.hid (HS.out (by trivial) w2 b1 ab1 (HIM.out.ext hx2))
      clear hx2
      go_wp2_with fail
      refine HC.out.mono ?_
      rintro e w3 ⟨rfl, hx3⟩
      have HX := Lib.hid (HX0.out.trans (HX2.out.trans hx3))
      clear hx3 c0 c1
      go_wp2
      go_ret
      exact ⟨by simp, HX.out⟩
end Go.Proofs.Ytlcofjicpbbdhaa
