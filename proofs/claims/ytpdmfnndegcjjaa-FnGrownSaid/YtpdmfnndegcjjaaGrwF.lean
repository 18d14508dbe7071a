/- The program's GrowBy, ShrinkBy, DepthsOf. -/
import Derived.Test.YtpdmfnndegcjjaaCount
import Derived.Test.YtpdmfnndegcjjaaRecF
namespace Go.Proofs.Ytpdmfnndegcjjaa
open Go Go.RowKit
def growB (kind d : Int) (W H : Nat) (l : List Bool) (x y : Nat) : Bool := decide (0 ≤ nearTo kind W l (x, y) (H * W)) && decide (nearTo kind W l (x, y) (H * W) ≤ d)
def growOk (ss : List ByteArray) (kind d : Int) : Bool := (picOk ss && inB kind 0 2) && inB d 0 512
set_option maxHeartbeats 400000 in
theorem grow111_any (pk px py pb : Nat) (kind d x y : Int) (q : Int × Int) (w : World) (hk : w.cell? ⟨pk, 0, none⟩ = some (.int .i64 kind)) (hpx : w.cell? ⟨px, 0, none⟩ = some (.int .i64 x)) (hpy : w.cell? ⟨py, 0, none⟩ = some (.int .i64 y)) (hd : w.cell? ⟨pb, 0, none⟩ = some (.int .i64 d))
    (bx : 0 ≤ x ∧ x ≤ 40) (by' : 0 ≤ y ∧ y ≤ 40) (bq : InBox 40 q) :
    Calls Try.prog 196 #[spotV q, .pointer (some ⟨pk, 0, none⟩), .pointer (some ⟨px, 0, none⟩), .pointer (some ⟨py, 0, none⟩), .pointer (some ⟨pb, 0, none⟩)] w fun e w' => e = .returned (.bool (decide (farI kind q (x, y) ≤ d))) ∧ w.Ext w' := by
  have h1 := World.block_lt_of_cell? _ _ hk
  have h2 := World.block_lt_of_cell? _ _ hpx
  have h3 := World.block_lt_of_cell? _ _ hpy
  have h4 := World.block_lt_of_cell? _ _ hd
  obtain ⟨q1, q2, q3, q4⟩ := bq
  have HF := Lib.hid (fun w => far_any kind q (x, y) w (by omega) (by omega) (by dsimp only; omega) (by dsimp only; omega) _ rfl)
  generalize farI kind q (x, y) = z at HF ⊢
  obtain ⟨qx, qy⟩ := q
  unfold spotV at HF ⊢
  dsimp only at HF ⊢
  clear q1 q2 q3 q4 bx by'
  go_enter Try.func196, Try.ntmps196
  go_wp2_with fail
  refine wp_region_over_lit (by kernel_rfl) (by kernel_rfl) ?_; (repeat (go_big_quiet_step ((go_at_call 197; exact Calls.over_of (HF.out _))))); refine wpQuiet_nil ?_; rintro _ ⟨x1, rfl⟩
  go_wp2
  go_ret
  refine ⟨rfl, ?_⟩
  repeat (first | exact World.Ext.refl _ | exact ⟨_, rfl⟩ | assumption | refine World.Ext.over ?_ _ | refine World.Ext.drewN ?_ _ | refine World.Ext.drew ?_ | refine World.Ext.alloc ?_ _ | refine World.Ext.setCell ?_ (by simp) _)
theorem enters_grow111 : Enters 196 := enters_of Try.func196 (by kernel_rfl) (by kernel_rfl)
theorem enters_grow11 : Enters 194 := enters_of Try.func194 (by kernel_rfl) (by kernel_rfl)
theorem enters_grow1 : Enters 193 := enters_of Try.func193 (by kernel_rfl) (by kernel_rfl)
set_option maxHeartbeats 400000 in
theorem grow11_any (pl pk pb : Nat) (kind d x y : Int) (a : Option Addr) (c : Nat) (ps : List (Int × Int)) (w : World) (hn : ps.length ≤ 1048576) (hm : RowP w a ps) (hb : AllBox 40 ps)
    (hl : w.cell? ⟨pl, 0, none⟩ = some (.slice a ps.length c)) (hk : w.cell? ⟨pk, 0, none⟩ = some (.int .i64 kind)) (hd : w.cell? ⟨pb, 0, none⟩ = some (.int .i64 d)) (bx : 0 ≤ x ∧ x ≤ 40) (by' : 0 ≤ y ∧ y ≤ 40) :
    Calls Try.prog 194 #[.int .i64 x, .int .i64 y, .pointer (some ⟨pl, 0, none⟩), .pointer (some ⟨pk, 0, none⟩), .pointer (some ⟨pb, 0, none⟩)] w fun e w' => e = .returned (.bool (ps.any fun q => decide (farI kind q (x, y) ≤ d))) ∧ w.Ext w' := by
  have h3 := World.block_lt_of_cell? _ _ hl
  have hx0 : w.Ext ((w.alloc (.cells #[.int .i64 x] 2)).alloc (.cells #[.int .i64 y] 2)) := by repeat (first | exact World.Ext.refl _ | exact ⟨_, rfl⟩ | assumption | refine World.Ext.over ?_ _ | refine World.Ext.drewN ?_ _ | refine World.Ext.drew ?_ | refine World.Ext.alloc ?_ _ | refine World.Ext.setCell ?_ (by simp) _)
  have HA := Lib.hid (some_any a c 196 #[.pointer (some ⟨pk, 0, none⟩), .pointer (some ⟨w.heap.size, 0, none⟩), .pointer (some ⟨w.heap.size + 1, 0, none⟩), .pointer (some ⟨pb, 0, none⟩)] ps (fun q => decide (farI kind q (x, y) ≤ d)) _ hn (hm.ext hx0) enters_grow111 (fun w' hx i hi =>
    grow111_any _ _ _ _ kind d x y _ w' ((hx0.trans hx).cell hk) (hx.cell (by simp [go_sem])) (hx.cell (by simp [go_sem])) ((hx0.trans hx).cell hd) bx by' (hb i hi)))
  generalize (ps.any fun q => decide (farI kind q (x, y) ≤ d)) = t at HA ⊢
  have HX0 := Lib.hid hx0
  clear hx0 hn hm hb bx by' hk hd
  go_enter Try.func194, Try.ntmps194
  go_wp2_with fail
  refine HA.out.mono ?_
  rintro e w2 ⟨rfl, hx⟩
  go_wp2
  go_ret
  exact ⟨rfl, HX0.out.trans hx⟩
def growI (kind d : Int) (W H : Nat) (l : List Bool) (x y : Nat) : Bool := (spotsTo W l (H * W)).any fun q => decide (farI kind q (x, y) ≤ d)
set_option maxRecDepth 5000 in
set_option maxHeartbeats 800000 in
theorem grow1_any (pk pb b ab W H : Nat) (kind d : Int) (l : List Bool) (w : World) (hW : W ≤ 40) (hH : H ≤ 40) (hI : Img w b ab W H l) (hk : w.cell? ⟨pk, 0, none⟩ = some (.int .i64 kind)) (hd : w.cell? ⟨pb, 0, none⟩ = some (.int .i64 d)) :
    Calls Try.prog 193 #[.pointer (some ⟨b, 0, none⟩), .pointer (some ⟨pk, 0, none⟩), .pointer (some ⟨pb, 0, none⟩)] w (ImgRet w W H (mkl W H (growI kind d W H l))) := by
  have HSP := Lib.hid (spots_any b ab W H l w (by omega) (by omega) hI)
  have HMD : Hid (∀ w' a c pl, w.Ext w' → w'.cell? ⟨pl, 0, none⟩ = some (.slice a (spotsTo W l (H * W)).length c) → RowP w' a (spotsTo W l (H * W)) → Calls Try.prog 103 #[.int .i64 W, .int .i64 H, .func (.func 194) #[] #[.pointer (some ⟨pl, 0, none⟩), .pointer (some ⟨pk, 0, none⟩), .pointer (some ⟨pb, 0, none⟩)]] w' (ImgRet w' W H (mkl W H (growI kind d W H l)))) := fun w' a c pl hx hc hr =>
    made_any W H 194 _ _ w' (by omega) (by omega) enters_grow11 fun w2 hx2 x y h1 h2 =>
      grow11_any pl pk pb kind d x y a c _ w2 (Nat.le_trans (spotsTo_len _ _ _) (Nat.le_trans (Nat.mul_le_mul hH hW) (by decide))) (hr.ext hx2) (spotsTo_box W H l (by omega) (by omega)) (hx2.cell hc) ((hx.trans hx2).cell hk) ((hx.trans hx2).cell hd) (by omega) (by omega)
  have HI := Lib.hid hI
  clear hI hk hd
  generalize mkl W H (growI kind d W H l) = R at *
  generalize spotsTo W l (H * W) = ps at *
  go_enter Try.func193, Try.ntmps193
  go_wp2_with fail
  refine HSP.out.mono ?_
  rintro e w2 ⟨a, c, rfl, hx2, ho2⟩
  have hI2 := HI.out.ext hx2
  have c0 := hI2.c0
  have c1 := hI2.c1
  have lb := hI2.lt
  have hx3 : w2.Ext (w2.alloc (.cells #[.slice a ps.length c] 126)) := by repeat (first | exact World.Ext.refl _ | exact ⟨_, rfl⟩ | assumption | refine World.Ext.over ?_ _ | refine World.Ext.drewN ?_ _ | refine World.Ext.drew ?_ | refine World.Ext.alloc ?_ _ | refine World.Ext.setCell ?_ (by simp) _)
  have HM := Lib.hid (fun w' (hx : World.Ext _ w') => HMD.out w' a c w2.heap.size ((hx2.trans hx3).trans hx) (hx.cell (by simp [go_sem])) ((ho2.row.ext hx3).ext hx))
  have HX2 := Lib.hid (hx2.trans hx3)
  clear hx2 ho2 hI2 hx3 HSP HMD
  go_wp2_with fail
  refine wp_region_over_tail 9 (by kernel_rfl) (by kernel_rfl) ?_; simp only [List.take_succ_cons, List.take_zero, List.drop_succ_cons, List.drop_zero]; (repeat (go_big_quiet_step (fail))); refine wpQuiet_nil ?_; rintro _ ⟨x1, rfl⟩
  go_wp2_with fail
  refine (HM.out _ ⟨x1, rfl⟩).mono ?_
  rintro e w3 ⟨b2, ab2, rfl, hx3, hi3, hb3, hab3⟩
  have hz := HX2.out.size
  have HR := Lib.hid (And.intro ((HX2.out.over x1).trans hx3) hi3)
  have hb4 : w.heap.size ≤ b2 := by simp at hz hb3; omega
  have hab4 : w.heap.size ≤ ab2 := by simp at hz hab3; omega
  clear hx3 hi3 hb3 hab3 hz
  go_wp2
  go_ret
  exact ⟨b2, ab2, rfl, HR.out.1, HR.out.2, hb4, hab4⟩
theorem grow_same (kind d : Int) (W H : Nat) (l : List Bool) (hW : W ≤ 40) (hH : H ≤ 40) (x y : Nat) (hx : x < W) (hy : y < H) : growB kind d W H l x y = growI kind d W H l x y := by
  have hbox := spotsTo_box W H l (by omega) (by omega)
  have hnn : ∀ e, e ∈ (spotsTo W l (H * W)).map (farI kind ((x : Int), (y : Int))) → 0 ≤ e := fun e he => by
    obtain ⟨q, hq, rfl⟩ := List.mem_map.1 he
    obtain ⟨b1, b2, b3, b4⟩ := allBox_mem hbox hq
    exact (farI_bd kind (by dsimp only; omega) (by dsimp only; omega) (by omega) (by omega)).1
  unfold growB growI nearTo
  rcases leastD_spec _ hnn with ⟨h0, h1⟩ | ⟨h1, h2, h3⟩
  · rw [h1]
    have : spotsTo W l (H * W) = [] := by simpa using h0
    rw [this]
    simp
  · generalize leastD ((spotsTo W l (H * W)).map (farI kind ((x : Int), (y : Int)))) = m at *
    rw [decide_eq_true h3, Bool.true_and]
    obtain ⟨q, hq, rfl⟩ := List.mem_map.1 h1
    rw [Bool.eq_iff_iff, decide_eq_true_eq, List.any_eq_true]
    constructor
    · intro hle
      exact ⟨q, hq, by rw [decide_eq_true_eq, farI_comm]; exact hle⟩
    · rintro ⟨r, hr, hle⟩
      rw [decide_eq_true_eq, farI_comm] at hle
      exact Int.le_trans (h2 _ (List.mem_map_of_mem hr)) hle
set_option maxRecDepth 5000 in
set_option maxHeartbeats 1600000 in
theorem implGrowBy_any (a : Option Addr) (c : Nat) (ss : List ByteArray) (kind d : Int) (w : World) (hb : PicBnd ss) (hm : RowS w a ss) :
    Calls Try.prog 87 #[.agg #[.slice a ss.length c], .int .i64 kind, .int .i64 d] w (PicRet2 w (rowsIf ss (growOk ss kind d) (growB kind d (picW ss) ss.length (picL ss))) (growOk ss kind d)) := by
  obtain ⟨W0, hW0⟩ : ∃ W0, W0 = (((w.alloc (.cells #[.slice a ss.length c] 26)).alloc (.cells #[.int .i64 kind] 2)).alloc (.cells #[.int .i64 d] 2)).alloc (.cells #[.slice none 0 0] 26) := ⟨_, rfl⟩
  have hx0 : w.Ext W0 := by rw [hW0]; repeat (first | exact World.Ext.refl _ | exact ⟨_, rfl⟩ | assumption | refine World.Ext.over ?_ _ | refine World.Ext.drewN ?_ _ | refine World.Ext.drew ?_ | refine World.Ext.alloc ?_ _ | refine World.Ext.setCell ?_ (by simp) _)
  have hck : W0.cell? ⟨w.heap.size + 1, 0, none⟩ = some (.int .i64 kind) := by rw [hW0]; simp [go_sem]
  have hcd : W0.cell? ⟨w.heap.size + 1 + 1, 0, none⟩ = some (.int .i64 d) := by rw [hW0]; simp [go_sem]
  have hcp : W0.cell? ⟨w.heap.size, 0, none⟩ = some (.slice a ss.length c) := by rw [hW0]; simp [go_sem]
  have hr0 : One W0 (w.heap.size + 1 + 1 + 1) 26 (.slice none 0 0) := by rw [hW0]; exact One.new _ _ _ _ (by simp)
  have H0 := Lib.hid (And.intro hx0 (And.intro hck (And.intro hcd (And.intro hcp hr0))))
  clear hx0 hck hcd hcp hr0
  cases hk : inB kind 0 2
  · have e : growOk ss kind d = false := by unfold growOk; rw [hk]; simp
    rw [e]
    show Calls _ _ _ _ (PicRet2 w [] false)
    have HK := Lib.hid (fun w => kindOk_any kind w _ hk)
    clear hm hb hk e
    go_enter Try.func87, Try.ntmps87
    go_wp2_with fail
    rw [← hW0]
    refine (HK.out _).mono ?_
    rintro e w1 ⟨rfl, hx1⟩
    obtain ⟨r1, r2, r3, HR⟩ := Res.store (f := Value.string) (d := ByteArray.empty) (a := none) (xs := []) (lo := w.heap.size + 4) (.slice none 0 0) (H0.out.1.trans hx1) (by omega) (H0.out.2.2.2.2.ext hx1) (by omega) (OwnOf.nil _ _)
    clear hx1 hW0 H0
    go_wp2
    exact bodyPost_ret (v := .tuple #[.agg #[.slice none 0 0], .bool false]) (by simp [results, Try.results87, go_sem, r3]) rfl ⟨none, 0, rfl, HR.out.1, OwnOf.nil _ _⟩
  · have HK := Lib.hid (fun w => kindOk_any kind w _ hk)
    cases hd : inB d 0 512
    · have e : growOk ss kind d = false := by unfold growOk; rw [hd]; simp
      rw [e]
      show Calls _ _ _ _ (PicRet2 w [] false)
      have HD := Lib.hid (fun w => in_any d 0 512 w _ hd)
      clear hm hb hk e hd
      go_enter Try.func87, Try.ntmps87
      go_wp2_with fail
      rw [← hW0]
      refine (HK.out _).mono ?_
      rintro e w1 ⟨rfl, hx1⟩
      have cd := hx1.cell H0.out.2.2.1
      go_wp2_with fail
      refine (HD.out _).mono ?_
      rintro e w2 ⟨rfl, hx2⟩
      obtain ⟨r1, r2, r3, HR⟩ := Res.store (f := Value.string) (d := ByteArray.empty) (a := none) (xs := []) (lo := w.heap.size + 4) (.slice none 0 0) (H0.out.1.trans (hx1.trans hx2)) (by omega) (H0.out.2.2.2.2.ext (hx1.trans hx2)) (by omega) (OwnOf.nil _ _)
      clear hx1 hW0 H0 hx2 cd
      go_wp2
      exact bodyPost_ret (v := .tuple #[.agg #[.slice none 0 0], .bool false]) (by simp [results, Try.results87, go_sem, r3]) rfl ⟨none, 0, rfl, HR.out.1, OwnOf.nil _ _⟩
    · have HD := Lib.hid (fun w => in_any d 0 512 w _ hd)
      have HWI : Hid (∀ w1, W0.Ext w1 → Calls Try.prog 115 #[.agg #[.slice a ss.length c], .func (.func 193) #[] #[.pointer (some ⟨w.heap.size + 1, 0, none⟩), .pointer (some ⟨w.heap.size + 1 + 1, 0, none⟩)]] w1 (PicRet2 w1 (rowsIf ss (growOk ss kind d) (growB kind d (picW ss) ss.length (picL ss))) (growOk ss kind d))) := fun w1 hx1 => by
        have h := withImage_any a c 193 #[.pointer (some ⟨w.heap.size + 1, 0, none⟩), .pointer (some ⟨w.heap.size + 1 + 1, 0, none⟩)] ss true (picW ss) ss.length (mkl (picW ss) ss.length (growI kind d (picW ss) ss.length (picL ss))) w1 hb.1 hb.2 (hm.ext (H0.out.1.trans hx1)) enters_grow1
          (fun h _ => by obtain ⟨q1, q2, q3, q4, _⟩ := picOk_spec h; omega)
          (fun w' b ab hp hx hI => by
            obtain ⟨q1, q2, q3, q4, _⟩ := picOk_spec hp
            exact grow1_any _ _ b ab _ _ kind d _ w' (by omega) (by omega) hI ((hx1.trans hx).cell H0.out.2.1) ((hx1.trans hx).cell H0.out.2.2.1))
        have e : growOk ss kind d = (picOk ss && true) := by unfold growOk; rw [hk, hd]; simp
        rw [e, rowsIf_opt]
        cases hp : picOk ss
        · rw [hp] at h; exact h
        · rw [hp] at h
          obtain ⟨q1, q2, q3, q4, _⟩ := picOk_spec hp
          rw [mkl_congr (fun x y hx hy => grow_same kind d (picW ss) ss.length (picL ss) (by omega) (by omega) x y hx hy)]
          exact h
      clear hm hb hk hd
      generalize rowsIf ss (growOk ss kind d) (growB kind d (picW ss) ss.length (picL ss)) = R at *
      generalize growOk ss kind d = ok at *
      go_enter Try.func87, Try.ntmps87
      go_wp2_with fail
      rw [← hW0]
      refine (HK.out _).mono ?_
      rintro e w1 ⟨rfl, hx1⟩
      have cd := hx1.cell H0.out.2.2.1
      go_wp2_with fail
      refine (HD.out _).mono ?_
      rintro e w2 ⟨rfl, hx2⟩
      have cp := (hx1.trans hx2).cell H0.out.2.2.2.1
      have HW := Lib.hid (HWI.out w2 (hx1.trans hx2))
      have HR1 := Lib.hid (H0.out.2.2.2.2.ext (hx1.trans hx2))
      have HX1 := Lib.hid (H0.out.1.trans (hx1.trans hx2))
      clear hx1 hx2 HWI H0 cd hW0
      go_wp2_with fail
      refine HW.out.mono ?_
      rintro e w3 ⟨a3, c3, rfl, hx3, ho3⟩
      obtain ⟨r1, r2, r3, HR⟩ := Res.store (.slice a3 R.length c3) (HX1.out.trans hx3) (by omega) (HR1.out.ext hx3) HR1.out.lt ho3
      clear hx3 ho3
      go_wp2
      exact bodyPost_ret (v := .tuple #[.agg #[.slice a3 R.length c3], .bool ok]) (by simp [results, Try.results87, go_sem, r3]) rfl ⟨a3, c3, rfl, HR.out.1, HR.out.2⟩
/-- What stays while the pixels are made: the result's cell, the table of depths. -/
structure ShrSt (w W0 : World) (p : Nat) (a : Option Addr) (c W H : Nat) (A : Nat → Option Addr) (C : Nat → Nat) (g : Nat → Nat → Int) (wr : World) : Prop where
  x : W0.Ext wr
  one : One wr p 26 (.slice none 0 0)
  mat : GrowM W0.heap.size 37 2 wr (.slice a (grd W H g).length c) A C (grd W H g)
theorem ShrSt.ext {w W0 : World} {p : Nat} {a : Option Addr} {c W H : Nat} {A : Nat → Option Addr} {C : Nat → Nat} {g : Nat → Nat → Int} {w1 w2 : World} (h : ShrSt w W0 p a c W H A C g w1) (hx : w1.Ext w2) : ShrSt w W0 p a c W H A C g w2 := ⟨h.x.trans hx, h.one.ext hx, h.mat.ext hx⟩
theorem ShrSt.push {w W0 : World} {p : Nat} {a : Option Addr} {c W H : Nat} {A : Nat → Option Addr} {C : Nat → Nat} {g : Nat → Nat → Int} {w3 w1 : World} {v : Value} {xs : List Bool} {o : Obj} (h : ShrSt w W0 p a c W H A C g w3) (hg : GrowOf Value.bool W0.heap.size 4 w3 v xs) (_ : (0 : Nat) ≠ 1) (hgrow : (w3.alloc o).grownBy w1 v.ownBlock) : ShrSt w W0 p a c W H A C g w1 :=
  ⟨hg.pushExt h.x hgrow, (h.one.ext ((World.Ext.refl _).alloc o)).grown hgrow (hg.ne h.one (by decide)), (h.mat.ext ((World.Ext.refl _).alloc o)).grown (World.ownsRow.ext hg ((World.Ext.refl _).alloc o)) (by decide) (by decide) hgrow⟩
theorem ShrSt.at {w W0 : World} {p : Nat} {a : Option Addr} {c W H : Nat} {A : Nat → Option Addr} {C : Nat → Nat} {g : Nat → Nat → Int} {w1 : World} (h : ShrSt w W0 p a c W H A C g w1) {y : Nat} (hy : y < H) : (∃ b o, a = some ⟨b, o, none⟩ ∧ w1.cell? ⟨b, o + y, none⟩ = some (.slice (A y) W (C y))) ∧ ∀ x, x < W → ∃ b o, A y = some ⟨b, o, none⟩ ∧ w1.cell? ⟨b, o + x, none⟩ = some (.int .i64 (g x y)) := by
  have h5 := h.mat.at (y := y) (by rw [grd_len]; exact hy)
  rw [grd_row hy, grdRow_len] at h5
  refine ⟨h5.1, fun x hx => ?_⟩
  have h6 := h5.2 x hx
  rwa [grdRow_at hx] at h6
def shrB (kind d : Int) (W H : Nat) (l : List Bool) (x y : Nat) : Bool := decide (d < depI kind W H l x y)
theorem enters_shr11 : Enters 200 := enters_of Try.func200 (by kernel_rfl) (by kernel_rfl)
theorem enters_shr1 : Enters 198 := enters_of Try.func198 (by kernel_rfl) (by kernel_rfl)
set_option maxHeartbeats 800000 in
theorem shr11_any (p5 pd lo : Nat) (a : Option Addr) (c W H : Nat) (A : Nat → Option Addr) (C : Nat → Nat) (g : Nat → Nat → Int) (d : Int) (x y : Nat) (w : World) (_ : W ≤ 64) (_ : H ≤ 64) (hx : x < W) (hy : y < H) (hm : GrowM lo 37 2 w (.slice a (grd W H g).length c) A C (grd W H g))
    (h5 : w.cell? ⟨p5, 0, none⟩ = some (.slice a (grd W H g).length c)) (hd : w.cell? ⟨pd, 0, none⟩ = some (.int .i64 d)) :
    Calls Try.prog 200 #[.int .i64 x, .int .i64 y, .pointer (some ⟨p5, 0, none⟩), .pointer (some ⟨pd, 0, none⟩)] w fun e w' => e = .returned (.bool (decide (d < g x y))) ∧ w.Ext w' := by
  have hl : (grd W H g).length = H := grd_len _ _ _
  obtain ⟨⟨b, o, rfl, hc⟩, hr⟩ := hm.at (y := y) (by omega)
  rw [grd_row hy, grdRow_len] at hc hr
  obtain ⟨b2, o2, hA, hc2⟩ := hr x hx
  rw [grdRow_at hx] at hc2
  rw [hA] at hc
  rw [hl] at h5
  have hx' : (x : Int) < (W : Int) := by omega
  have hy' : (y : Int) < (H : Int) := by omega
  have hx0 : (0 : Int) ≤ (x : Int) := by omega
  have hy0 : (0 : Int) ≤ (y : Int) := by omega
  clear hm hr hA hl
  generalize g x y = z at *
  go_enter Try.func200, Try.ntmps200
  go_wp2_with fail
  refine wp_region_over_lit (by kernel_rfl) (by kernel_rfl) ?_; (repeat (go_big_quiet_step (fail))); refine wpQuiet_nil ?_; rintro _ ⟨x1, rfl⟩
  go_wp2
  go_ret
  exact ⟨rfl, ⟨_, rfl⟩⟩
set_option maxRecDepth 5000 in
set_option maxHeartbeats 800000 in
theorem shr1_any (pk pb b ab W H : Nat) (kind d : Int) (l : List Bool) (w : World) (hW : W ≤ 38) (hH : H ≤ 38) (hI : Img w b ab W H l) (hk : w.cell? ⟨pk, 0, none⟩ = some (.int .i64 kind)) (hd : w.cell? ⟨pb, 0, none⟩ = some (.int .i64 d)) :
    Calls Try.prog 198 #[.pointer (some ⟨b, 0, none⟩), .pointer (some ⟨pk, 0, none⟩), .pointer (some ⟨pb, 0, none⟩)] w (ImgRet w W H (mkl W H (shrB kind d W H l))) := by
  have HDP := Lib.hid (depths_any b ab W H kind l w hW hH hI)
  have HMD : Hid (∀ w' a c A C pl, w.Ext w' → w'.cell? ⟨pl, 0, none⟩ = some (.slice a (grd W H (depI kind W H l)).length c) → GrowM w.heap.size 37 2 w' (.slice a (grd W H (depI kind W H l)).length c) A C (grd W H (depI kind W H l)) → Calls Try.prog 103 #[.int .i64 W, .int .i64 H, .func (.func 200) #[] #[.pointer (some ⟨pl, 0, none⟩), .pointer (some ⟨pb, 0, none⟩)]] w' (ImgRet w' W H (mkl W H (shrB kind d W H l)))) := fun w' a c A C pl hx hc hr =>
    made_any W H 200 _ _ w' (by omega) (by omega) enters_shr11 fun w2 hx2 x y h1 h2 =>
      shr11_any pl pb w.heap.size a c W H A C (depI kind W H l) d x y w2 (by omega) (by omega) h1 h2 (hr.ext hx2) (hx2.cell hc) ((hx.trans hx2).cell hd)
  have HI := Lib.hid hI
  clear hI hd
  generalize mkl W H (shrB kind d W H l) = R at *
  generalize grd W H (depI kind W H l) = m at *
  go_enter Try.func198, Try.ntmps198
  go_wp2_with fail
  refine HDP.out.mono ?_
  rintro e w2 ⟨a, c, A, C, rfl, hx2, ho2⟩
  have hI2 := HI.out.ext hx2
  have c0 := hI2.c0
  have c1 := hI2.c1
  have lb := hI2.lt
  have hx3 : w2.Ext (w2.alloc (.cells #[.slice a m.length c] 33)) := by repeat (first | exact World.Ext.refl _ | exact ⟨_, rfl⟩ | assumption | refine World.Ext.over ?_ _ | refine World.Ext.drewN ?_ _ | refine World.Ext.drew ?_ | refine World.Ext.alloc ?_ _ | refine World.Ext.setCell ?_ (by simp) _)
  have HM := Lib.hid (fun w' (hx : World.Ext _ w') => HMD.out w' a c A C w2.heap.size ((hx2.trans hx3).trans hx) (hx.cell (by simp [go_sem])) ((ho2.ext hx3).ext hx))
  have HX2 := Lib.hid (hx2.trans hx3)
  clear hx2 ho2 hI2 hx3 HDP HMD hk
  go_wp2_with fail
  refine wp_region_over_tail 9 (by kernel_rfl) (by kernel_rfl) ?_; simp only [List.take_succ_cons, List.take_zero, List.drop_succ_cons, List.drop_zero]; (repeat (go_big_quiet_step (fail))); refine wpQuiet_nil ?_; rintro _ ⟨x1, rfl⟩
  go_wp2_with fail
  refine (HM.out _ ⟨x1, rfl⟩).mono ?_
  rintro e w3 ⟨b2, ab2, rfl, hx3, hi3, hb3, hab3⟩
  have hz := HX2.out.size
  have HR := Lib.hid (And.intro ((HX2.out.over x1).trans hx3) hi3)
  have hb4 : w.heap.size ≤ b2 := by simp at hz hb3; omega
  have hab4 : w.heap.size ≤ ab2 := by simp at hz hab3; omega
  clear hx3 hi3 hb3 hab3 hz
  go_wp2
  go_ret
  exact ⟨b2, ab2, rfl, HR.out.1, HR.out.2, hb4, hab4⟩
set_option maxRecDepth 5000 in
set_option maxHeartbeats 1600000 in
theorem implShrinkBy_any (a : Option Addr) (c : Nat) (ss : List ByteArray) (kind d : Int) (w : World) (hb : PicBnd ss) (hm : RowS w a ss) :
    Calls Try.prog 88 #[.agg #[.slice a ss.length c], .int .i64 kind, .int .i64 d] w (PicRet2 w (rowsIf ss (growOk ss kind d) (shrB kind d (picW ss) ss.length (picL ss))) (growOk ss kind d)) := by
  obtain ⟨W0, hW0⟩ : ∃ W0, W0 = (((w.alloc (.cells #[.slice a ss.length c] 26)).alloc (.cells #[.int .i64 kind] 2)).alloc (.cells #[.int .i64 d] 2)).alloc (.cells #[.slice none 0 0] 26) := ⟨_, rfl⟩
  have hx0 : w.Ext W0 := by rw [hW0]; repeat (first | exact World.Ext.refl _ | exact ⟨_, rfl⟩ | assumption | refine World.Ext.over ?_ _ | refine World.Ext.drewN ?_ _ | refine World.Ext.drew ?_ | refine World.Ext.alloc ?_ _ | refine World.Ext.setCell ?_ (by simp) _)
  have hck : W0.cell? ⟨w.heap.size + 1, 0, none⟩ = some (.int .i64 kind) := by rw [hW0]; simp [go_sem]
  have hcd : W0.cell? ⟨w.heap.size + 1 + 1, 0, none⟩ = some (.int .i64 d) := by rw [hW0]; simp [go_sem]
  have hcp : W0.cell? ⟨w.heap.size, 0, none⟩ = some (.slice a ss.length c) := by rw [hW0]; simp [go_sem]
  have hr0 : One W0 (w.heap.size + 1 + 1 + 1) 26 (.slice none 0 0) := by rw [hW0]; exact One.new _ _ _ _ (by simp)
  have H0 := Lib.hid (And.intro hx0 (And.intro hck (And.intro hcd (And.intro hcp hr0))))
  clear hx0 hck hcd hcp hr0
  cases hk : inB kind 0 2
  · have e : growOk ss kind d = false := by unfold growOk; rw [hk]; simp
    rw [e]
    show Calls _ _ _ _ (PicRet2 w [] false)
    have HK := Lib.hid (fun w => kindOk_any kind w _ hk)
    clear hm hb hk e
    go_enter Try.func88, Try.ntmps88
    go_wp2_with fail
    rw [← hW0]
    refine (HK.out _).mono ?_
    rintro e w1 ⟨rfl, hx1⟩
    obtain ⟨r1, r2, r3, HR⟩ := Res.store (f := Value.string) (d := ByteArray.empty) (a := none) (xs := []) (lo := w.heap.size + 4) (.slice none 0 0) (H0.out.1.trans hx1) (by omega) (H0.out.2.2.2.2.ext hx1) (by omega) (OwnOf.nil _ _)
    clear hx1 hW0 H0
    go_wp2
    exact bodyPost_ret (v := .tuple #[.agg #[.slice none 0 0], .bool false]) (by simp [results, Try.results88, go_sem, r3]) rfl ⟨none, 0, rfl, HR.out.1, OwnOf.nil _ _⟩
  · have HK := Lib.hid (fun w => kindOk_any kind w _ hk)
    cases hd : inB d 0 512
    · have e : growOk ss kind d = false := by unfold growOk; rw [hd]; simp
      rw [e]
      show Calls _ _ _ _ (PicRet2 w [] false)
      have HD := Lib.hid (fun w => in_any d 0 512 w _ hd)
      clear hm hb hk e hd
      go_enter Try.func88, Try.ntmps88
      go_wp2_with fail
      rw [← hW0]
      refine (HK.out _).mono ?_
      rintro e w1 ⟨rfl, hx1⟩
      have cd := hx1.cell H0.out.2.2.1
      go_wp2_with fail
      refine (HD.out _).mono ?_
      rintro e w2 ⟨rfl, hx2⟩
      obtain ⟨r1, r2, r3, HR⟩ := Res.store (f := Value.string) (d := ByteArray.empty) (a := none) (xs := []) (lo := w.heap.size + 4) (.slice none 0 0) (H0.out.1.trans (hx1.trans hx2)) (by omega) (H0.out.2.2.2.2.ext (hx1.trans hx2)) (by omega) (OwnOf.nil _ _)
      clear hx1 hW0 H0 hx2 cd
      go_wp2
      exact bodyPost_ret (v := .tuple #[.agg #[.slice none 0 0], .bool false]) (by simp [results, Try.results88, go_sem, r3]) rfl ⟨none, 0, rfl, HR.out.1, OwnOf.nil _ _⟩
    · have HD := Lib.hid (fun w => in_any d 0 512 w _ hd)
      have HWI : Hid (∀ w1, W0.Ext w1 → Calls Try.prog 115 #[.agg #[.slice a ss.length c], .func (.func 198) #[] #[.pointer (some ⟨w.heap.size + 1, 0, none⟩), .pointer (some ⟨w.heap.size + 1 + 1, 0, none⟩)]] w1 (PicRet2 w1 (rowsIf ss (growOk ss kind d) (shrB kind d (picW ss) ss.length (picL ss))) (growOk ss kind d))) := fun w1 hx1 => by
        have h := withImage_any a c 198 #[.pointer (some ⟨w.heap.size + 1, 0, none⟩), .pointer (some ⟨w.heap.size + 1 + 1, 0, none⟩)] ss true (picW ss) ss.length (mkl (picW ss) ss.length (shrB kind d (picW ss) ss.length (picL ss))) w1 hb.1 hb.2 (hm.ext (H0.out.1.trans hx1)) enters_shr1
          (fun h _ => by obtain ⟨q1, q2, q3, q4, _⟩ := picOk_spec h; omega)
          (fun w' b ab hp hx hI => by
            obtain ⟨q1, q2, q3, q4, _⟩ := picOk_spec hp
            exact shr1_any _ _ b ab _ _ kind d _ w' (by omega) (by omega) hI ((hx1.trans hx).cell H0.out.2.1) ((hx1.trans hx).cell H0.out.2.2.1))
        have e : growOk ss kind d = (picOk ss && true) := by unfold growOk; rw [hk, hd]; simp
        rw [e, rowsIf_opt]
        cases hp : picOk ss
        · rw [hp] at h; exact h
        · rw [hp] at h
          obtain ⟨q1, q2, q3, q4, _⟩ := picOk_spec hp
          exact h
      clear hm hb hk hd
      generalize rowsIf ss (growOk ss kind d) (shrB kind d (picW ss) ss.length (picL ss)) = R at *
      generalize growOk ss kind d = ok at *
      go_enter Try.func88, Try.ntmps88
      go_wp2_with fail
      rw [← hW0]
      refine (HK.out _).mono ?_
      rintro e w1 ⟨rfl, hx1⟩
      have cd := hx1.cell H0.out.2.2.1
      go_wp2_with fail
      refine (HD.out _).mono ?_
      rintro e w2 ⟨rfl, hx2⟩
      have cp := (hx1.trans hx2).cell H0.out.2.2.2.1
      have HW := Lib.hid (HWI.out w2 (hx1.trans hx2))
      have HR1 := Lib.hid (H0.out.2.2.2.2.ext (hx1.trans hx2))
      have HX1 := Lib.hid (H0.out.1.trans (hx1.trans hx2))
      clear hx1 hx2 HWI H0 cd hW0
      go_wp2_with fail
      refine HW.out.mono ?_
      rintro e w3 ⟨a3, c3, rfl, hx3, ho3⟩
      obtain ⟨r1, r2, r3, HR⟩ := Res.store (.slice a3 R.length c3) (HX1.out.trans hx3) (by omega) (HR1.out.ext hx3) HR1.out.lt ho3
      clear hx3 ho3
      go_wp2
      exact bodyPost_ret (v := .tuple #[.agg #[.slice a3 R.length c3], .bool ok]) (by simp [results, Try.results88, go_sem, r3]) rfl ⟨a3, c3, rfl, HR.out.1, HR.out.2⟩
set_option maxRecDepth 5000 in
set_option maxHeartbeats 800000 in
theorem implDepths2_any (a : Option Addr) (c : Nat) (ss : List ByteArray) (kind : Int) (w : World) (hb : PicBnd ss) (hm : RowS w a ss) :
    Calls Try.prog 89 #[.agg #[.slice a ss.length c], .int .i64 kind] w (MatRet2 w (optM (askOk ss kind) (grd (picW ss) ss.length (depI kind (picW ss) ss.length (picL ss)))) (askOk ss kind)) := by
  obtain ⟨W0, hW0⟩ : ∃ W0, W0 = w.alloc (.cells #[.slice a ss.length c] 26) := ⟨_, rfl⟩
  have hx0 : w.Ext W0 := by rw [hW0]; repeat (first | exact World.Ext.refl _ | exact ⟨_, rfl⟩ | assumption | refine World.Ext.over ?_ _ | refine World.Ext.drewN ?_ _ | refine World.Ext.drew ?_ | refine World.Ext.alloc ?_ _ | refine World.Ext.setCell ?_ (by simp) _)
  have hc0 : W0.cell? ⟨w.heap.size, 0, none⟩ = some (.slice a ss.length c) := by rw [hW0]; simp [go_sem]
  have HIO : Hid (Calls Try.prog 109 #[.agg #[.slice a ss.length c]] W0 (ImgOf W0 ss (picOk ss))) := imageOf_any a c ss W0 hb.1 hb.2 (hm.ext hx0) _ rfl
  have HX0 := Lib.hid hx0
  have HK : Hid (∀ w, Calls Try.prog 192 #[.int .i64 kind] w fun e w' => e = .returned (.bool (inB kind 0 2)) ∧ w.Ext w') := fun w => kindOk_any kind w _ rfl
  clear hm hb hx0
  cases h : picOk ss
  · rw [h] at HIO
    have e : askOk ss kind = false := by unfold askOk; rw [h]; rfl
    rw [e]
    show Calls _ _ _ _ (MatRet2 w [] false)
    clear h hc0 e
    go_enter Try.func89, Try.ntmps89
    go_wp2_with fail
    rw [← hW0]
    refine HIO.out.mono ?_
    rintro e w1 ⟨rfl, hx1⟩
    have HX := Lib.hid (HX0.out.trans hx1)
    clear hx1 hW0
    go_wp2
    go_ret2
    exact MatRet2.no HX.out
  · rw [h] at HIO
    obtain ⟨q1, q2, q3, q4, _⟩ := picOk_spec h
    have e : askOk ss kind = inB kind 0 2 := by unfold askOk; rw [h]; rfl
    rw [e]
    cases hk : inB kind 0 2
    · rw [hk] at HK
      show Calls _ _ _ _ (MatRet2 w [] false)
      clear h hc0 e hk
      go_enter Try.func89, Try.ntmps89
      go_wp2_with fail
      rw [← hW0]
      refine HIO.out.mono ?_
      rintro e w1 ⟨b, ab, rfl, hx1, hi1, _⟩
      clear hi1
      go_wp2_with fail
      refine (HK.out _).mono ?_
      rintro e w2 ⟨rfl, hx2⟩
      have HX := Lib.hid (HX0.out.trans (hx1.trans hx2))
      clear hx1 hx2 hW0
      go_wp2
      go_ret2
      exact MatRet2.no HX.out
    · rw [hk] at HK
      show Calls _ _ _ _ (MatRet2 w (grd (picW ss) ss.length (depI kind (picW ss) ss.length (picL ss))) true)
      clear h hc0 e hk
      go_enter Try.func89, Try.ntmps89
      go_wp2_with fail
      rw [← hW0]
      refine HIO.out.mono ?_
      rintro e w1 ⟨b, ab, rfl, hx1, hi1, _⟩
      have HI := Lib.hid hi1
      clear hi1
      go_wp2_with fail
      refine (HK.out _).mono ?_
      rintro e w2 ⟨rfl, hx2⟩
      have HD := Lib.hid (depths_any b ab (picW ss) ss.length kind (picL ss) w2 (by omega) (by omega) (HI.out.ext hx2))
      have HX := Lib.hid (HX0.out.trans (hx1.trans hx2))
      clear hx1 hx2 hW0 HI
      generalize grd (picW ss) ss.length (depI kind (picW ss) ss.length (picL ss)) = m at *
      go_wp2_with fail
      refine HD.out.mono ?_
      rintro e w3 ⟨a2, c2, A2, C2, rfl, hx3, hm2⟩
      have HR : Hid (MatRet2 w m true (.returned (.tuple #[.slice a2 m.length c2, .bool true])) w3) := MatRet2.yes ⟨a2, c2, A2, C2, rfl, HX.out.trans hx3, hm2.lower HX.out.size⟩
      clear hx3 hm2
      go_wp2
      go_ret2
      exact HR.out
end Go.Proofs.Ytpdmfnndegcjjaa
