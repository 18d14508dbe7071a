/- ReconstructPicture, both sides. -/
import Derived.Test.YtpdmfnndegcjjaaRecP
import Derived.Deep.RegionHeld3
import Derived.Deep.DeepCutAuto
namespace Go.Proofs.Ytpdmfnndegcjjaa
open Go.RowKit
set_option maxHeartbeats 800000 in
theorem pxRec_any (p b ab W H : Nat) (l : List Bool) (x y : Int) (w : World) (hW : W ≤ 64) (hH : H ≤ 64) (hp : w.cell? ⟨p, 0, none⟩ = some (.pointer (some ⟨b, 0, none⟩))) (hI : Img w b ab W H l) :
    Calls Try.prog 101 #[.agg #[.int .i64 x, .int .i64 y], .pointer (some ⟨p, 0, none⟩)] w fun e w' => e = .returned (.bool (pxP W H l (x, y))) ∧ w.Ext w' := by
  have HC : Hid (∀ w', w.Ext w' → Calls Try.prog 102 #[.pointer (some ⟨b, 0, none⟩), .int .i64 x, .int .i64 y] w' fun e w'' => e = .returned (.bool (pxP W H l (x, y))) ∧ w'.Ext w'') := fun w' hx => get_any b ab W H l x y w' hW hH (hI.ext hx) _ rfl
  generalize pxP W H l (x, y) = t at *
  obtain ⟨W0, hW0⟩ : ∃ W0, W0 = w.alloc (.cells #[.int .i64 x, .int .i64 y] 90) := ⟨_, rfl⟩
  have hx0 : w.Ext W0 := by rw [hW0]; repeat (first | exact World.Ext.refl _ | exact ⟨_, rfl⟩ | assumption | refine World.Ext.over ?_ _ | refine World.Ext.drewN ?_ _ | refine World.Ext.drew ?_ | refine World.Ext.alloc ?_ _ | refine World.Ext.setCell ?_ (by simp) _)
  have hl := World.block_lt_of_cell? _ _ hp
  clear hI
  go_enter Try.func101, Try.ntmps101
  go_wp2_with fail
  rw [← hW0]
  refine (HC.out W0 hx0).mono ?_
  rintro e w1 ⟨rfl, hx⟩
  have HX : Hid (w.Ext w1) := hx0.trans hx
  clear hx hx0 hW0
  go_wp2
  go_ret
  exact ⟨rfl, HX.out⟩
theorem enters_pxRec : Enters 101 := enters_of Try.func101 (by kernel_rfl) (by kernel_rfl)
set_option maxHeartbeats 800000 in
theorem pxLab_any (p b ab W H : Nat) (l : List Bool) (x y : Int) (w : World) (hW : W ≤ 64) (hH : H ≤ 64) (hp : w.cell? ⟨p, 0, none⟩ = some (.pointer (some ⟨b, 0, none⟩))) (hI : Img w b ab W H l) :
    Calls Try.prog 209 #[.agg #[.int .i64 x, .int .i64 y], .pointer (some ⟨p, 0, none⟩)] w fun e w' => e = .returned (.bool (pxP W H l (x, y))) ∧ w.Ext w' := by
  have HC : Hid (∀ w', w.Ext w' → Calls Try.prog 102 #[.pointer (some ⟨b, 0, none⟩), .int .i64 x, .int .i64 y] w' fun e w'' => e = .returned (.bool (pxP W H l (x, y))) ∧ w'.Ext w'') := fun w' hx => get_any b ab W H l x y w' hW hH (hI.ext hx) _ rfl
  generalize pxP W H l (x, y) = t at *
  obtain ⟨W0, hW0⟩ : ∃ W0, W0 = w.alloc (.cells #[.int .i64 x, .int .i64 y] 90) := ⟨_, rfl⟩
  have hx0 : w.Ext W0 := by rw [hW0]; repeat (first | exact World.Ext.refl _ | exact ⟨_, rfl⟩ | assumption | refine World.Ext.over ?_ _ | refine World.Ext.drewN ?_ _ | refine World.Ext.drew ?_ | refine World.Ext.alloc ?_ _ | refine World.Ext.setCell ?_ (by simp) _)
  have hl := World.block_lt_of_cell? _ _ hp
  clear hI
  go_enter Try.func209, Try.ntmps209
  go_wp2_with fail
  rw [← hW0]
  refine (HC.out W0 hx0).mono ?_
  rintro e w1 ⟨rfl, hx⟩
  have HX : Hid (w.Ext w1) := hx0.trans hx
  clear hx hx0 hW0
  go_wp2
  go_ret
  exact ⟨rfl, HX.out⟩
theorem enters_pxLab : Enters 209 := enters_of Try.func209 (by kernel_rfl) (by kernel_rfl)
theorem MapS.lookB {w : World} {bm : Nat} {ds : List (Int × Int)} (h : MapS w Try.prog 90 bm (mapG ds)) {x y : Int} (hx : -1000 ≤ x ∧ x ≤ 1000) (hy : -1000 ≤ y ∧ y ≤ 1000) :
    (Instr.lookup 124 (.map (some bm)) (.agg #[.int .i64 x, .int .i64 y]) false).run Try.prog w = .ok (.bool (decide ((x, y) ∈ ds))) w := by
  have := h.look Try.spotKey boolMap (zeroBool w) (p := (x, y)) (spotKeyOf (spotWf hx hy))
  rw [mapG_val] at this
  exact this
set_option maxHeartbeats 800000 in
theorem rec2_any (p bm : Nat) (ds : List (Int × Int)) (x y : Int) (w : World) (hx : -1000 ≤ x ∧ x ≤ 1000) (hy : -1000 ≤ y ∧ y ≤ 1000) (hp : w.cell? ⟨p, 0, none⟩ = some (.map (some bm))) (hM : MapS w Try.prog 90 bm (mapG ds)) :
    Calls Try.prog 104 #[.int .i64 x, .int .i64 y, .pointer (some ⟨p, 0, none⟩)] w fun e w' => e = .returned (.bool (decide ((x, y) ∈ ds))) ∧ w.Ext w' := by
  have hl := hM.lookB hx hy
  clear hM
  generalize decide ((x, y) ∈ ds) = t at *
  go_enter Try.func104, Try.ntmps104
  go_wp2
  go_ret
  exact ⟨rfl, .refl _⟩
theorem enters_rec2 : Enters 104 := enters_of Try.func104 (by kernel_rfl) (by kernel_rfl)
/-- What is reconstructed: g says which pixels are black. -/
def RecG (ss tt : List ByteArray) (eight : Bool) (g : Nat → Nat → Bool) : Prop :=
  ∀ x y : Nat, x < picW tt → y < tt.length → (g x y = true ↔ Rch (pxP (picW tt) tt.length (picL tt)) (nbA eight) (spotsTo (picW ss) (picL ss) (ss.length * picW ss)) ((x : Int), (y : Int)))
theorem RecG.ex (ss tt : List ByteArray) (eight : Bool) : ∃ g, RecG ss tt eight g :=
  ⟨fun x y => @decide (Rch (pxP (picW tt) tt.length (picL tt)) (nbA eight) (spotsTo (picW ss) (picL ss) (ss.length * picW ss)) ((x : Int), (y : Int))) (Classical.propDecidable _), fun x y _ _ => by simp⟩
theorem spotsTo_bnd {W H : Nat} {l : List Bool} (hW : W ≤ 64) (hH : H ≤ 64) : ∀ q, q ∈ spotsTo W l (H * W) → 0 ≤ q.1 ∧ q.1 ≤ 64 ∧ 0 ≤ q.2 ∧ q.2 ≤ 64 := by
  intro q hq
  rw [spotsTo_mem] at hq
  obtain ⟨x, y, rfl, h1, h2⟩ := pxP_nat hq
  dsimp only
  omega
theorem spotsTo_few {W H : Nat} {l : List Bool} (hW : W ≤ 64) (hH : H ≤ 64) : (spotsTo W l (H * W)).length ≤ 4096 := Nat.le_trans (spotsTo_len _ _ _) (Nat.mul_le_mul hH hW)
theorem keepS {w : World} {p p9 b2 : Nat} {v x y z : Value} (h1 : p9 ≠ p) (h2 : b2 ≠ p) (k1 : w.cell? ⟨p9, 0, none⟩ = some x) (k2 : w.cell? ⟨b2, 0, none⟩ = some y) (k3 : w.cell? ⟨b2, 1, none⟩ = some z) :
    (w.setCell ⟨p, 0, none⟩ v).cell? ⟨p9, 0, none⟩ = some x ∧ (w.setCell ⟨p, 0, none⟩ v).cell? ⟨b2, 0, none⟩ = some y ∧ (w.setCell ⟨p, 0, none⟩ v).cell? ⟨b2, 1, none⟩ = some z := by
  refine ⟨?_, ?_, ?_⟩
  · rw [World.cell?_of_block (a := ⟨p9, 0, none⟩) (Below.heap_setCell _ _ _ _ h1)]; exact k1
  · rw [World.cell?_of_block (a := ⟨b2, 0, none⟩) (Below.heap_setCell _ _ _ _ h2)]; exact k2
  · rw [World.cell?_of_block (a := ⟨b2, 1, none⟩) (Below.heap_setCell _ _ _ _ h2)]; exact k3
set_option maxRecDepth 5000 in
set_option maxHeartbeats 3200000 in
theorem implRec_any (a : Option Addr) (c : Nat) (ss : List ByteArray) (a' : Option Addr) (c' : Nat) (tt : List ByteArray) (eight : Bool) (g : Nat → Nat → Bool) (hg : RecG ss tt eight g) (w : World) (hb : PicBnd ss) (hb' : PicBnd tt) (hm : RowS w a ss) (hm' : RowS w a' tt) :
    Calls Try.prog 19 #[.agg #[.slice a ss.length c], .agg #[.slice a' tt.length c'], .bool eight] w (PicRet2 w (optRows (likeP ss tt) (picRows (picW tt) tt.length (mkl (picW tt) tt.length g))) (likeP ss tt)) := by
  obtain ⟨W0, hW0⟩ : ∃ W0, W0 = ((w.alloc (.cells #[.slice a ss.length c] 26)).alloc (.cells #[.slice a' tt.length c'] 26)).alloc (.cells #[.slice none 0 0] 26) := ⟨_, rfl⟩
  have hx0 : w.Ext W0 := by rw [hW0]; repeat (first | exact World.Ext.refl _ | exact ⟨_, rfl⟩ | assumption | refine World.Ext.over ?_ _ | refine World.Ext.drewN ?_ _ | refine World.Ext.drew ?_ | refine World.Ext.alloc ?_ _ | refine World.Ext.setCell ?_ (by simp) _)
  have d0 : W0.cell? ⟨w.heap.size, 0, none⟩ = some (.slice a ss.length c) := by rw [hW0]; simp [go_sem]
  have d1 : W0.cell? ⟨w.heap.size + 1, 0, none⟩ = some (.slice a' tt.length c') := by rw [hW0]; simp [go_sem]
  have hone : One W0 (w.heap.size + 1 + 1) 26 (.slice none 0 0) := by rw [hW0]; exact One.new _ _ _ _ (by simp)
  have hsz : W0.heap.size = w.heap.size + 3 := by rw [hW0]; simp
  have HT : Hid (Calls Try.prog 98 #[.agg #[.slice a ss.length c], .agg #[.slice a' tt.length c']] W0 (TwoRet W0 ss tt (likeP ss tt))) := twoImages_any a c ss a' c' tt W0 hb hb' (hm.ext hx0) (hm'.ext hx0)
  have HX0 := Lib.hid hx0
  have HO := Lib.hid hone
  cases h : likeP ss tt
  · rw [h] at HT
    clear hb hb' hm hm' hx0 hone h hg
    show Calls _ _ _ _ (PicRet2 w [] false)
    go_enter Try.func19, Try.ntmps19
    go_wp2_with fail
    rw [← hW0]
    refine HT.out.mono ?_
    rintro e w1 ⟨u, v, rfl, hx1⟩
    have HX1 := Lib.hid (hx1.alloc (.cells #[.pointer v] 121))
    clear hx1 hW0 d0 d1
    obtain ⟨r1, r2, r3, HR⟩ := Res.store (f := Value.string) (d := ByteArray.empty) (a := none) (xs := []) (lo := w.heap.size + 3) (.slice none 0 0) (HX0.out.trans HX1.out) (by omega) (HO.out.ext HX1.out) (by omega) (OwnOf.nil _ _)
    go_wp2
    exact bodyPost_ret (v := .tuple #[.agg #[.slice none 0 0], .bool false]) (by simp [results, Try.results19, go_sem, r3]) rfl ⟨none, 0, rfl, HR.out.1, OwnOf.nil _ _⟩
  · rw [h] at HT
    obtain ⟨k1, k2, k3, k4⟩ := likeP_true h
    obtain ⟨v1, v2, v3, v4, -, -⟩ := picOk_spec k1
    obtain ⟨u1, u2, u3, u4, -, -⟩ := picOk_spec k2
    have HSP : Hid (∀ w' b ab, Img w' b ab (picW ss) ss.length (picL ss) → Calls Try.prog 100 #[.pointer (some ⟨b, 0, none⟩)] w' (PairsRet w' (spotsTo (picW ss) (picL ss) (ss.length * picW ss)))) := fun w' b ab hI => spots_any b ab _ _ _ w' (by omega) (by omega) hI
    have hfew : (spotsTo (picW ss) (picL ss) (ss.length * picW ss)).length ≤ 4096 := spotsTo_few (by omega) (by omega)
    have hbnd := spotsTo_bnd (W := picW ss) (H := ss.length) (l := picL ss) (by omega) (by omega)
    have HSR : Hid (∀ (w' : World) (p9 b2 ab2 : Nat) (sa : Option Addr) (sc : Nat), w'.cell? ⟨p9, 0, none⟩ = some (.pointer (some ⟨b2, 0, none⟩)) → Img w' b2 ab2 (picW tt) tt.length (picL tt) → RowP w' sa (spotsTo (picW ss) (picL ss) (ss.length * picW ss)) →
        Calls Try.prog 99 #[.slice sa (spotsTo (picW ss) (picL ss) (ss.length * picW ss)).length sc, .bool eight, .func (.func 101) #[] #[.pointer (some ⟨p9, 0, none⟩)]] w' (MapRet w' (pxP (picW tt) tt.length (picL tt)) (nbA eight) (spotsTo (picW ss) (picL ss) (ss.length * picW ss)))) := fun w' p9 b2 ab2 sa sc hc hI hr =>
      spread_any sa sc _ eight _ _ _ (boxL 0 0 (picW tt) tt.length) w' enters_pxRec hr (Nat.le_trans hfew (by omega)) (fun q hq => by have := hbnd q hq; omega) (fun p hp => pxP_box hp) (by rw [boxL_len]; exact Nat.le_trans (Nat.mul_le_mul u2 u4) (by omega))
        (fun p hp => by obtain ⟨x, y, rfl, h1, h2⟩ := pxP_nat hp; dsimp only; omega) (fun w'' hx x y _ _ => pxRec_any p9 b2 ab2 _ _ _ x y w'' (by omega) (by omega) (hx.cell hc) (hI.ext hx))
    have HMD : Hid (∀ (w' : World) (p11 bm : Nat) (ds : List (Int × Int)), w'.cell? ⟨p11, 0, none⟩ = some (.map (some bm)) → MapS w' Try.prog 90 bm (mapG ds) → Hid (∀ q, q ∈ ds ↔ Rch (pxP (picW tt) tt.length (picL tt)) (nbA eight) (spotsTo (picW ss) (picL ss) (ss.length * picW ss)) q) →
        Calls Try.prog 103 #[.int .i64 (picW tt), .int .i64 tt.length, .func (.func 104) #[] #[.pointer (some ⟨p11, 0, none⟩)]] w' (ImgRet w' (picW tt) tt.length (mkl (picW tt) tt.length g))) := fun w' p11 bm ds hc hM hds =>
      made_any _ _ _ _ g w' (by omega) (by omega) enters_rec2 (fun w'' hx x y h1 h2 => by
        have e : decide (((x : Int), (y : Int)) ∈ ds) = g x y := by rw [Bool.eq_iff_iff, decide_eq_true_iff, hg x y h1 h2, hds.out]
        rw [← e]
        exact rec2_any p11 bm ds x y w'' (by omega) (by omega) (hx.cell hc) (hM.ext hx))
    have HTD : Hid (∀ (w' : World) (b ab : Nat), Img w' b ab (picW tt) tt.length (mkl (picW tt) tt.length g) → Calls Try.prog 105 #[.pointer (some ⟨b, 0, none⟩)] w' (PicVal w' (picRows (picW tt) tt.length (mkl (picW tt) tt.length g)))) := fun w' b ab hI => told_any b ab _ _ _ w' (by omega) (by omega) (by omega) hI
    clear hb hb' hm hm' hx0 hone h hg k1 k2 k3 k4 v1 v2 v3 v4 u1 u2 u3 u4 hfew hbnd
    show Calls _ _ _ _ (PicRet2 w (picRows (picW tt) tt.length (mkl (picW tt) tt.length g)) true)
    generalize spotsTo (picW ss) (picL ss) (ss.length * picW ss) = S at *
    generalize picRows (picW tt) tt.length (mkl (picW tt) tt.length g) = R at *
    generalize mkl (picW tt) tt.length g = M at *
    go_enter Try.func19, Try.ntmps19
    go_wp2_with fail
    rw [← hW0]
    refine HT.out.mono ?_
    rintro e w1 ⟨b, ab, b2, ab2, rfl, hx1, hi1, hi2⟩
    obtain ⟨w2, hw2⟩ : ∃ w2, w2 = w1.alloc (.cells #[.pointer (some ⟨b2, 0, none⟩)] 121) := ⟨_, rfl⟩
    have hx2 : w1.Ext w2 := by rw [hw2]; repeat (first | exact World.Ext.refl _ | exact ⟨_, rfl⟩ | assumption | refine World.Ext.over ?_ _ | refine World.Ext.drewN ?_ _ | refine World.Ext.drew ?_ | refine World.Ext.alloc ?_ _ | refine World.Ext.setCell ?_ (by simp) _)
    have c9 : w2.cell? ⟨w1.heap.size, 0, none⟩ = some (.pointer (some ⟨b2, 0, none⟩)) := by rw [hw2]; simp [go_sem]
    have HI1 := Lib.hid (hi1.ext hx2)
    have HI2 := Lib.hid (hi2.ext hx2)
    have HX2 := Lib.hid (hx1.trans hx2)
    have h01 := hx1
    clear hi1 hi2 hx1 hx2 d0 d1 hW0
    go_wp2_with fail
    rw [← hw2]
    refine (HSP.out _ b ab HI1.out).mono ?_
    rintro e w3 ⟨a3, c3, rfl, hx3, ho3⟩
    have c93 := hx3.cell c9
    have HI3 := Lib.hid (HI2.out.ext hx3)
    have HX3 := Lib.hid (HX2.out.trans hx3)
    have HR3 := Lib.hid ho3.row
    clear hw2 c9 hx3 ho3 HX2 HI1 HI2
    go_wp2_with fail
    refine (HSR.out w3 w1.heap.size b2 ab2 a3 c3 c93 HI3.out HR3.out).mono ?_
    rintro e w4 ⟨bm, ds, rfl, hx4, -, hM, -, hds⟩
    obtain ⟨w5, hw5⟩ : ∃ w5, w5 = w4.alloc (.cells #[.map (some bm)] 124) := ⟨_, rfl⟩
    have hx5 : w4.Ext w5 := by rw [hw5]; repeat (first | exact World.Ext.refl _ | exact ⟨_, rfl⟩ | assumption | refine World.Ext.over ?_ _ | refine World.Ext.drewN ?_ _ | refine World.Ext.drew ?_ | refine World.Ext.alloc ?_ _ | refine World.Ext.setCell ?_ (by simp) _)
    have c11 : w5.cell? ⟨w4.heap.size, 0, none⟩ = some (.map (some bm)) := by rw [hw5]; simp [go_sem]
    have c95 := (hx4.trans hx5).cell c93
    have HI5 := Lib.hid (HI3.out.ext (hx4.trans hx5))
    have HX5 := Lib.hid (HX3.out.trans (hx4.trans hx5))
    have HM5 := Lib.hid (hM.ext hx5)
    have HDS := Lib.hid hds
    have i0 := HI5.out.c0
    have i1 := HI5.out.c1
    have hlt9 : w.heap.size + 1 + 1 < w5.heap.size := (HO.out.ext HX5.out).lt
    clear hx4 hx5 c93 HI3 HX3 HR3 hM hds
    go_wp2_with fail
    rw [← hw5]
    clear hw5
    have p96 : w1.heap.size ≠ w.heap.size + 1 + 1 := by have := (HO.out.ext h01).lt; omega
    have p26 : b2 ≠ w.heap.size + 1 + 1 := by
      intro e
      have h1 := (HO.out.ext HX5.out).free
      obtain ⟨_, h2⟩ := HI5.out.str
      have h3 : w5.heap[w.heap.size + 1 + 1]? = some _ := HO.out.ext HX5.out
      rw [e, h3] at h2
      cases h2
    have HST : Hid (∀ w' : World, w5.Ext w' → (w'.setCell ⟨w.heap.size + 1 + 1, 0, none⟩ (.slice none 0 0)).heap.size = w'.heap.size) := fun _ _ => by simp
    go_region_held3 (fun w' => w'.cell? ⟨w1.heap.size, 0, none⟩ = some (.pointer (some ⟨b2, 0, none⟩)) ∧ w'.cell? ⟨b2, 0, none⟩ = some (.int .i64 (picW tt)) ∧ w'.cell? ⟨b2, 1, none⟩ = some (.int .i64 tt.length))
      (first | exact hk8 | (refine ⟨World.Ext.cell ?_ c95, World.Ext.cell ?_ i0, World.Ext.cell ?_ i1⟩ <;> ((repeat (first | exact World.Ext.refl _ | exact ⟨_, rfl⟩ | assumption | refine World.Ext.over ?_ _ | refine World.Ext.drewN ?_ _ | refine World.Ext.drew ?_ | refine World.Ext.alloc ?_ _ | refine World.Ext.setCell ?_ ?_ _ | (simp; done))); done)))
      (first
        | (go_at_call 103; go_loud (refine (HMD.out _ w4.heap.size bm ds ?_ ?_ HDS).mono ?_; exact ((World.Ext.refl w5).drew).cell c11; exact HM5.out.ext ((World.Ext.refl w5).drew); rintro e w6 ⟨b6, ab6, rfl, hx6, hi6, -, -⟩; have E6 : w5.Ext w6 := ((World.Ext.refl w5).drew).trans hx6; have HI6 := Lib.hid hi6; clear hx6 hi6))
        | (go_at_call 105; go_loud (refine (HTD.out _ b6 ab6 HI6.out).mono ?_; rintro e w7 ⟨a7, c7, rfl, hx7, ho7⟩; have E7 : w5.Ext w7 := E6.trans hx7; obtain ⟨r1, r2, r3, HR⟩ := Res.store (.slice a7 R.length c7) (HX0.out.trans (HX5.out.trans E7)) (by omega) (HO.out.ext (HX5.out.trans E7)) (Nat.lt_of_lt_of_le hlt9 E6.size) ho7; have hk8 := keepS (v := .slice a7 R.length c7) p96 p26 (E7.cell c95) (E7.cell i0) (E7.cell i1); clear hx7 ho7)))
    go_wp2
    exact bodyPost_ret (v := .tuple #[.agg #[.slice a7 R.length c7], .bool true]) (by simp [results, Try.results19, go_sem, r3]) rfl ⟨a7, c7, rfl, HR.out.1, HR.out.2⟩
end Go.Proofs.Ytpdmfnndegcjjaa
