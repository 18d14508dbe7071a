/- The program's GrowBy, ShrinkBy, DepthsOf. -/
import Derived.Test.YtahhnjoeaodcjaaCount
import Derived.Test.YtahhnjoeaodcjaaRecF
namespace Go.Proofs.Ytahhnjoeaodcjaa
open Go Go.RowKit
def growB (kind d : Int) (W H : Nat) (l : List Bool) (x y : Nat) : Bool := decide (0 ≤ nearTo kind W l (x, y) (H * W)) && decide (nearTo kind W l (x, y) (H * W) ≤ d)
def growOk (ss : List ByteArray) (kind d : Int) : Bool := (picOk ss && inB kind 0 2) && inB d 0 512
def growI (kind d : Int) (W H : Nat) (l : List Bool) (x y : Nat) : Bool := (spotsTo W l (H * W)).any fun q => decide (farI kind q (x, y) ≤ d)
theorem grow_same (kind d : Int) (W H : Nat) (l : List Bool) (hW : W ≤ 40) (hH : H ≤ 40) (x y : Nat) (hx : x < W) (hy : y < H) : growB kind d W H l x y = growI kind d W H l x y := by
  have hbox := spotsTo_box W H l (by omega) (by omega)
  have hnn : ∀ e, e ∈ (spotsTo W l (H * W)).map (farI kind ((x : Int), (y : Int))) → 0 ≤ e := fun e he => by
    obtain ⟨q, hq, rfl⟩ := List.mem_map.1 he
    obtain ⟨b1, b2, b3, b4⟩ := allBox_mem hbox hq
    exact (farI_bd kind (by dsimp only; omega) (by dsimp only; omega) (by omega) (by omega)).1
  unfold growB growI nearTo
  rcases leastD_spec _ hnn with ⟨h0, h1⟩ | ⟨h1, h2, h3⟩
  · rw [h1]
    have : spotsTo W l (H * W) = [] := by simpa using h0
    rw [this]
    simp
  · generalize leastD ((spotsTo W l (H * W)).map (farI kind ((x : Int), (y : Int)))) = m at *
    rw [decide_eq_true h3, Bool.true_and]
    obtain ⟨q, hq, rfl⟩ := List.mem_map.1 h1
    rw [Bool.eq_iff_iff, decide_eq_true_eq, List.any_eq_true]
    constructor
    · intro hle
      exact ⟨q, hq, by rw [decide_eq_true_eq, farI_comm]; exact hle⟩
    · rintro ⟨r, hr, hle⟩
      rw [decide_eq_true_eq, farI_comm] at hle
      exact Int.le_trans (h2 _ (List.mem_map_of_mem hr)) hle
/-- What stays while the pixels are made: the result's cell, the table of depths. -/
structure ShrSt (w W0 : World) (p : Nat) (a : Option Addr) (c W H : Nat) (A : Nat → Option Addr) (C : Nat → Nat) (g : Nat → Nat → Int) (wr : World) : Prop where
  x : W0.Ext wr
  one : One wr p 26 (.slice none 0 0)
  mat : GrowM W0.heap.size 41 2 wr (.slice a (grd W H g).length c) A C (grd W H g)
theorem ShrSt.ext {w W0 : World} {p : Nat} {a : Option Addr} {c W H : Nat} {A : Nat → Option Addr} {C : Nat → Nat} {g : Nat → Nat → Int} {w1 w2 : World} (h : ShrSt w W0 p a c W H A C g w1) (hx : w1.Ext w2) : ShrSt w W0 p a c W H A C g w2 := ⟨h.x.trans hx, h.one.ext hx, h.mat.ext hx⟩
theorem ShrSt.push {w W0 : World} {p : Nat} {a : Option Addr} {c W H : Nat} {A : Nat → Option Addr} {C : Nat → Nat} {g : Nat → Nat → Int} {w3 w1 : World} {v : Value} {xs : List Bool} {o : Obj} (h : ShrSt w W0 p a c W H A C g w3) (hg : GrowOf Value.bool W0.heap.size 4 w3 v xs) (_ : (0 : Nat) ≠ 1) (hgrow : (w3.alloc o).grownBy w1 v.ownBlock) : ShrSt w W0 p a c W H A C g w1 :=
  ⟨hg.pushExt h.x hgrow, (h.one.ext ((World.Ext.refl _).alloc o)).grown hgrow (hg.ne h.one (by decide)), (h.mat.ext ((World.Ext.refl _).alloc o)).grown (World.ownsRow.ext hg ((World.Ext.refl _).alloc o)) (by decide) (by decide) hgrow⟩
theorem ShrSt.at {w W0 : World} {p : Nat} {a : Option Addr} {c W H : Nat} {A : Nat → Option Addr} {C : Nat → Nat} {g : Nat → Nat → Int} {w1 : World} (h : ShrSt w W0 p a c W H A C g w1) {y : Nat} (hy : y < H) : (∃ b o, a = some ⟨b, o, none⟩ ∧ w1.cell? ⟨b, o + y, none⟩ = some (.slice (A y) W (C y))) ∧ ∀ x, x < W → ∃ b o, A y = some ⟨b, o, none⟩ ∧ w1.cell? ⟨b, o + x, none⟩ = some (.int .i64 (g x y)) := by
  have h5 := h.mat.at (y := y) (by rw [grd_len]; exact hy)
  rw [grd_row hy, grdRow_len] at h5
  refine ⟨h5.1, fun x hx => ?_⟩
  have h6 := h5.2 x hx
  rwa [grdRow_at hx] at h6
def shrB (kind d : Int) (W H : Nat) (l : List Bool) (x y : Nat) : Bool := decide (d < depI kind W H l x y)
set_option maxRecDepth 5000 in
set_option maxHeartbeats 800000 in
theorem implDepths2_any (a : Option Addr) (c : Nat) (ss : List ByteArray) (kind : Int) (w : World) (hb : PicBnd ss) (hm : RowS w a ss) :
    Calls Try.prog 67 #[.agg #[.slice a ss.length c], .int .i64 kind] w (MatRet2 w (optM (askOk ss kind) (grd (picW ss) ss.length (depI kind (picW ss) ss.length (picL ss)))) (askOk ss kind)) := by
  obtain ⟨W0, hW0⟩ : ∃ W0, W0 = w.alloc (.cells #[.slice a ss.length c] 26) := ⟨_, rfl⟩
  have hx0 : w.Ext W0 := by rw [hW0]; repeat (first | exact World.Ext.refl _ | exact ⟨_, rfl⟩ | assumption | refine World.Ext.over ?_ _ | refine World.Ext.drewN ?_ _ | refine World.Ext.drew ?_ | refine World.Ext.alloc ?_ _ | refine World.Ext.setCell ?_ (by simp) _)
  have hc0 : W0.cell? ⟨w.heap.size, 0, none⟩ = some (.slice a ss.length c) := by rw [hW0]; simp [go_sem]
  have HIO : Hid (Calls Try.prog 90 #[.agg #[.slice a ss.length c]] W0 (ImgOf W0 ss (picOk ss))) := imageOf_any a c ss W0 hb.1 hb.2 (hm.ext hx0) _ rfl
  have HX0 := Lib.hid hx0
  have HK : Hid (∀ w, Calls Try.prog 157 #[.int .i64 kind] w fun e w' => e = .returned (.bool (inB kind 0 2)) ∧ w.Ext w') := fun w => kindOk_any kind w _ rfl
  clear hm hb hx0
  cases h : picOk ss
  · rw [h] at HIO
    have e : askOk ss kind = false := by unfold askOk; rw [h]; rfl
    rw [e]
    show Calls _ _ _ _ (MatRet2 w [] false)
    clear h hc0 e
    go_enter Try.func67, Try.ntmps67
    go_wp2_with fail
    rw [← hW0]
    refine HIO.out.mono ?_
    rintro e w1 ⟨rfl, hx1⟩
    have HX := Lib.hid (HX0.out.trans hx1)
    clear hx1 hW0
    go_wp2
    go_ret2
    exact MatRet2.no HX.out
  · rw [h] at HIO
    obtain ⟨q1, q2, q3, q4, _⟩ := picOk_spec h
    have e : askOk ss kind = inB kind 0 2 := by unfold askOk; rw [h]; rfl
    rw [e]
    cases hk : inB kind 0 2
    · rw [hk] at HK
      show Calls _ _ _ _ (MatRet2 w [] false)
      clear h hc0 e hk
      go_enter Try.func67, Try.ntmps67
      go_wp2_with fail
      rw [← hW0]
      refine HIO.out.mono ?_
      rintro e w1 ⟨b, ab, rfl, hx1, hi1, _⟩
      clear hi1
      go_wp2_with fail
      refine (HK.out _).mono ?_
      rintro e w2 ⟨rfl, hx2⟩
      have HX := Lib.hid (HX0.out.trans (hx1.trans hx2))
      clear hx1 hx2 hW0
      go_wp2
      go_ret2
      exact MatRet2.no HX.out
    · rw [hk] at HK
      show Calls _ _ _ _ (MatRet2 w (grd (picW ss) ss.length (depI kind (picW ss) ss.length (picL ss))) true)
      clear h hc0 e hk
      go_enter Try.func67, Try.ntmps67
      go_wp2_with fail
      rw [← hW0]
      refine HIO.out.mono ?_
      rintro e w1 ⟨b, ab, rfl, hx1, hi1, _⟩
      have HI := Lib.hid hi1
      clear hi1
      go_wp2_with fail
      refine (HK.out _).mono ?_
      rintro e w2 ⟨rfl, hx2⟩
      have HD := Lib.hid (depths_any b ab (picW ss) ss.length kind (picL ss) w2 (by omega) (by omega) (HI.out.ext hx2))
      have HX := Lib.hid (HX0.out.trans (hx1.trans hx2))
      clear hx1 hx2 hW0 HI
      generalize grd (picW ss) ss.length (depI kind (picW ss) ss.length (picL ss)) = m at *
      go_wp2_with fail
      refine HD.out.mono ?_
      rintro e w3 ⟨a2, c2, A2, C2, rfl, hx3, hm2⟩
      have HR : Hid (MatRet2 w m true (.returned (.tuple #[.slice a2 m.length c2, .bool true])) w3) := MatRet2.yes ⟨a2, c2, A2, C2, rfl, HX.out.trans hx3, hm2.lower HX.out.size⟩
      clear hx3 hm2
      go_wp2
      go_ret2
      exact HR.out
end Go.Proofs.Ytahhnjoeaodcjaa
