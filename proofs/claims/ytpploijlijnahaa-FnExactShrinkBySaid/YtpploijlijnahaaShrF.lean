/- ShrinkBy: the reference's and the program's. -/
import Derived.Test.YtpploijlijnahaaSDepth
import Derived.Test.YtpploijlijnahaaIDepth
import Derived.Test.YtpploijlijnahaaGrowF
namespace Go.Proofs.Ytpploijlijnahaa
open Go.RowKit
/-- What stays while the pixels are made: the result's cell, the table of depths. -/
structure ShrSt (w W0 : World) (p : Nat) (a : Option Addr) (c W H : Nat) (A : Nat → Option Addr) (C : Nat → Nat) (g : Nat → Nat → Int) (wr : World) : Prop where
  x : W0.Ext wr
  one : One wr p 30 (.slice none 0 0)
  mat : GrowM W0.heap.size 54 2 wr (.slice a (grd W H g).length c) A C (grd W H g)
theorem ShrSt.ext {w W0 : World} {p : Nat} {a : Option Addr} {c W H : Nat} {A : Nat → Option Addr} {C : Nat → Nat} {g : Nat → Nat → Int} {w1 w2 : World} (h : ShrSt w W0 p a c W H A C g w1) (hx : w1.Ext w2) : ShrSt w W0 p a c W H A C g w2 := ⟨h.x.trans hx, h.one.ext hx, h.mat.ext hx⟩
theorem ShrSt.push {w W0 : World} {p : Nat} {a : Option Addr} {c W H : Nat} {A : Nat → Option Addr} {C : Nat → Nat} {g : Nat → Nat → Int} {w3 w1 : World} {v : Value} {xs : List Bool} {o : Obj} (h : ShrSt w W0 p a c W H A C g w3) (hg : GrowOf Value.bool W0.heap.size 4 w3 v xs) (_ : (0 : Nat) ≠ 1) (hgrow : (w3.alloc o).grownBy w1 v.ownBlock) : ShrSt w W0 p a c W H A C g w1 :=
  ⟨hg.pushExt h.x hgrow, (h.one.ext ((World.Ext.refl _).alloc o)).grown hgrow (hg.ne h.one (by decide)), (h.mat.ext ((World.Ext.refl _).alloc o)).grown (World.ownsRow.ext hg ((World.Ext.refl _).alloc o)) (by decide) (by decide) hgrow⟩
theorem ShrSt.at {w W0 : World} {p : Nat} {a : Option Addr} {c W H : Nat} {A : Nat → Option Addr} {C : Nat → Nat} {g : Nat → Nat → Int} {w1 : World} (h : ShrSt w W0 p a c W H A C g w1) {y : Nat} (hy : y < H) : (∃ b o, a = some ⟨b, o, none⟩ ∧ w1.cell? ⟨b, o + y, none⟩ = some (.slice (A y) W (C y))) ∧ ∀ x, x < W → ∃ b o, A y = some ⟨b, o, none⟩ ∧ w1.cell? ⟨b, o + x, none⟩ = some (.int .i64 (g x y)) := by
  have h5 := h.mat.at (y := y) (by rw [grd_len]; exact hy)
  rw [grd_row hy, grdRow_len] at h5
  refine ⟨h5.1, fun x hx => ?_⟩
  have h6 := h5.2 x hx
  rwa [grdRow_at hx] at h6
def shrB (kind d : Int) (W H : Nat) (l : List Bool) (x y : Nat) : Bool := decide (d < depI kind W H l x y)
set_option maxRecDepth 5000 in
set_option maxHeartbeats 1600000 in
theorem specShrinkBy_any (a : Option Addr) (c : Nat) (ss : List ByteArray) (kind d : Int) (w : World) (hb : PicBnd ss) (hm : RowS w a ss) :
    Calls Try.prog 67 #[.agg #[.slice a ss.length c], .int .i64 kind, .int .i64 d] w (PicRet2 w (rowsIf ss (growOk ss kind d) (shrB kind d (picW ss) ss.length (picL ss))) (growOk ss kind d)) := by
  obtain ⟨ib, hib, hb0, hb1, hb2⟩ := info_parts Try.infoBoolP
  obtain ⟨W0, hW0⟩ : ∃ W0, W0 = (w.alloc (.cells #[.slice a ss.length c] 30)).alloc (.cells #[.slice none 0 0] 30) := ⟨_, rfl⟩
  have hx0 : w.Ext W0 := by rw [hW0]; repeat (first | exact World.Ext.refl _ | exact ⟨_, rfl⟩ | assumption | refine World.Ext.over ?_ _ | refine World.Ext.drewN ?_ _ | refine World.Ext.drew ?_ | refine World.Ext.alloc ?_ _ | refine World.Ext.setCell ?_ (by simp) _)
  have hc0 : W0.cell? ⟨w.heap.size, 0, none⟩ = some (.slice a ss.length c) := by rw [hW0]; simp [go_sem]
  have hr0 : One W0 (w.heap.size + 1) 30 (.slice none 0 0) := by rw [hW0]; exact One.new _ _ _ _ (by simp)
  have HASK : Hid (∀ w', W0.Ext w' → Calls Try.prog 137 #[.pointer (some ⟨w.heap.size, 0, none⟩), .int .i64 kind] w' fun e w'' => e = .returned (.bool (picOk ss && inB kind 0 2)) ∧ w'.Ext w'') := fun w' hx => l06Ask_any _ a c ss kind w' hb (hx.cell hc0) (hm.ext (hx0.trans hx))
  have HBY := Lib.hid (l06By_any d)
  cases h1 : growOk ss kind d
  · show Calls _ _ _ _ (PicRet2 w [] false)
    unfold growOk at h1
    have HR0 := Lib.hid hr0
    have HX0 := Lib.hid hx0
    have HH1 := Lib.hid h1
    clear hm hb hc0 hr0 hx0 h1
    cases hq : (picOk ss && inB kind 0 2)
    · rw [hq] at HASK
      clear hq HH1 HBY
      go_enter Try.func67, Try.ntmps67
      go_wp2_with fail
      rw [← hW0]
      refine (HASK.out _ (.refl _)).mono ?_
      rintro e w1 ⟨rfl, hx1⟩
      obtain ⟨r1, r2, r3, HR⟩ := Res.store (f := Value.string) (d := ByteArray.empty) (a := none) (xs := []) (lo := w.heap.size + 2) (.slice none 0 0) (HX0.out.trans hx1) (by omega) (HR0.out.ext hx1) (by omega) (OwnOf.nil _ _)
      clear hx1 hW0
      go_wp2
      exact bodyPost_ret (v := .tuple #[.agg #[.slice none 0 0], .bool false]) (by simp [results, Try.results67, go_sem, r3]) rfl ⟨none, 0, rfl, HR.out.1, OwnOf.nil _ _⟩
    · have hd := HH1.out
      rw [hq, Bool.true_and] at hd
      rw [hq] at HASK
      rw [hd] at HBY
      clear hq HH1 hd
      go_enter Try.func67, Try.ntmps67
      go_wp2_with fail
      rw [← hW0]
      refine (HASK.out _ (.refl _)).mono ?_
      rintro e w1 ⟨rfl, hx1⟩
      go_wp2_with fail
      refine (HBY.out _).mono ?_
      rintro e w2 ⟨rfl, hx2⟩
      obtain ⟨r1, r2, r3, HR⟩ := Res.store (f := Value.string) (d := ByteArray.empty) (a := none) (xs := []) (lo := w.heap.size + 2) (.slice none 0 0) (HX0.out.trans (hx1.trans hx2)) (by omega) (HR0.out.ext (hx1.trans hx2)) (by omega) (OwnOf.nil _ _)
      clear hx1 hx2 hW0
      go_wp2
      exact bodyPost_ret (v := .tuple #[.agg #[.slice none 0 0], .bool false]) (by simp [results, Try.results67, go_sem, r3]) rfl ⟨none, 0, rfl, HR.out.1, OwnOf.nil _ _⟩
  · show Calls _ _ _ _ (PicRet2 w (picRows (picW ss) ss.length (mkl (picW ss) ss.length (shrB kind d (picW ss) ss.length (picL ss)))) true)
    unfold growOk at h1
    rw [Bool.and_eq_true, Bool.and_eq_true] at h1
    obtain ⟨⟨hok, hk⟩, hd⟩ := h1
    rw [hok, hk] at HASK
    rw [hd] at HBY
    obtain ⟨q1, q2, q3, q4, he, _⟩ := picOk_spec hok
    have HWS : Hid (∀ w', W0.Ext w' → Calls Try.prog 87 #[.pointer (some ⟨w.heap.size, 0, none⟩)] w' fun e w'' => e = .returned (.int .i64 (picW ss)) ∧ w'.Ext w'') := fun w' hx => l01Width_any _ a c ss w' he.1 (by omega) (by omega) (hx.cell hc0) (RowOf.ext hm (hx0.trans hx))
    have HDE : Hid (∀ w', W0.Ext w' → Calls Try.prog 148 #[.pointer (some ⟨w.heap.size, 0, none⟩), .int .i64 kind] w' (MatRet w' (grd (picW ss) ss.length (depI kind (picW ss) ss.length (picL ss))))) := fun w' hx => l06Depths_any _ kind a c ss w' he (by omega) (by omega) (hx.cell hc0) (RowOf.ext hm (hx0.trans hx))
    have HLEN : Hid ((mkl (picW ss) ss.length (shrB kind d (picW ss) ss.length (picL ss))).length = ss.length * picW ss) := mkl_len _ _ _
    have HAT : Hid (∀ x y, x < picW ss → y < ss.length → (mkl (picW ss) ss.length (shrB kind d (picW ss) ss.length (picL ss))).getD (y * picW ss + x) false = decide (d < depI kind (picW ss) ss.length (picL ss) x y)) := fun x y hx hy => mkl_at _ _ _ _ _ hx hy
    have hsum : ss.length * picW ss ≤ 4096 := Nat.mul_le_mul (by omega : _ ≤ 64) (by omega : _ ≤ 64)
    have HSUM := Lib.hid hsum
    have hW1 : 1 ≤ picW ss := q3
    have hH1 : 1 ≤ ss.length := q1
    have hW2 : picW ss ≤ 64 := by omega
    have hH2 : ss.length ≤ 64 := by omega
    have HR0 := Lib.hid hr0
    have HRL : Hid ((picRows (picW ss) ss.length (mkl (picW ss) ss.length (shrB kind d (picW ss) ss.length (picL ss)))).length = ss.length) := picRows_len _ _ _
    clear hm hb hc0 hr0 hok hk hd q1 q2 q3 q4 he hsum
    generalize mkl (picW ss) ss.length (shrB kind d (picW ss) ss.length (picL ss)) = L at *
    generalize depI kind (picW ss) ss.length (picL ss) = g at *
    generalize picW ss = W at *
    generalize ss.length = H at *
    go_enter Try.func67, Try.ntmps67
    go_wp2_with fail
    rw [← hW0]
    refine (HASK.out _ (.refl _)).mono ?_
    rintro e w1 ⟨rfl, hx1⟩
    go_wp2_with fail
    refine (HBY.out _).mono ?_
    rintro e w2 ⟨rfl, hx2⟩
    have hx12 := hx1.trans hx2
    have hx3 : W0.Ext (w2.alloc (.cells #[] 4)) := hx12.alloc _
    have HD := Lib.hid (HDE.out _ hx3)
    have HGR00 : Hid (GrowOf Value.bool W0.heap.size 4 (w2.alloc (.cells #[] 4)) (.slice (some ⟨w2.heap.size, 0, none⟩) 0 0) (L.take 0)) := GrowOf.empty _ hx12.size
    have HST00 : Hid (PixSt W0 (w.heap.size + 1) 30 (w2.alloc (.cells #[] 4))) := ⟨hx3, HR0.out.ext hx3⟩
    clear hx1 hx2 hx12 hW0 hx3 HDE
    go_wp2_with fail
    refine HD.out.mono ?_
    rintro e w4 ⟨a9, cp9, A9, C9, rfl, hx4, ho4⟩
    have HST : Hid (ShrSt w W0 (w.heap.size + 1) a9 cp9 W H A9 C9 g w4) := ⟨HST00.out.x.trans hx4, HST00.out.one.ext hx4, ho4.lower HST00.out.x.size⟩
    have HGR0 := Lib.hid (HGR00.out.ext hx4)
    rw [grd_len]
    obtain ⟨⟨b9, o9, hb9, _⟩, _⟩ := HST.out.at (y := 0) (by omega)
    subst hb9
    clear ho4 hx4 HST00 HGR00 HD
    go_wp2
    go_loopw [8, 10, 11] (fun v i _ wr => ∃ y : Nat, y ≤ H ∧ i = .int .i64 y ∧ Hid (ShrSt w W0 (w.heap.size + 1) (some ⟨b9, o9, none⟩) cp9 W H A9 C9 g wr) ∧ Hid (GrowOf Value.bool W0.heap.size 4 wr v (L.take (y * W)))) (fun _ i _ _ => H - (intOf i).toNat)
    case atStart => exact ⟨0, Nat.zero_le _, rfl, HST, by rw [Nat.zero_mul]; exact HGR0⟩
    case round =>
      obtain ⟨y, hy, rfl, HS, HG⟩ := hrel
      clear HST HGR0
      obtain ⟨wo, rfl⟩ : ∃ wo : World, wo = wr := ⟨_, rfl⟩
      obtain ⟨lst, rfl⟩ : ∃ lst : Value, lst = u8 := ⟨_, rfl⟩
      by_cases hlty : y < H
      · have hlty' : (y : Int) < (H : Int) := by omega
        have HS1 := HS
        have HG1 := HG
        clear HS HG
        go_wp2
        go_loopw [8, 11] (fun v i wr => ∃ x : Nat, x ≤ W ∧ i = .int .i64 x ∧ Hid (ShrSt w W0 (w.heap.size + 1) (some ⟨b9, o9, none⟩) cp9 W H A9 C9 g wr) ∧ Hid (GrowOf Value.bool W0.heap.size 4 wr v (L.take (y * W + x)))) (fun _ i _ => W - (intOf i).toNat)
        case atStart => exact ⟨0, Nat.zero_le _, rfl, HS1, HG1⟩
        case round =>
          obtain ⟨x, hx, rfl, HS, HG⟩ := hrel
          clear HS1 HG1
          obtain ⟨⟨b, o, hbo, c9⟩, hrow9⟩ := HS.out.at hlty
          cases hbo
          have hy00 : (0 : Int) ≤ (y : Int) := by omega
          by_cases hltx : x < W
          · have hltx' : (x : Int) < (W : Int) := by omega
            obtain ⟨b8, o8, hA8, c8⟩ := hrow9 x hltx
            rw [hA8] at c9
            clear hA8 hrow9
            have hx0' : (0 : Int) ≤ (x : Int) := by omega
            have hy0' : (0 : Int) ≤ (y : Int) := by omega
            have HS3 := HS
            have HG3 := HG
            clear HS HG
            obtain ⟨z, hz⟩ : ∃ z, z = g x y := ⟨_, rfl⟩
            rw [← hz] at c8
            have HZ := Lib.hid hz
            clear hz
            have HV : Hid (decide (d < g x y) = decide (d < z)) := by show _ = _; rw [HZ.out]
            have hk : y * W + x < L.length := by
              rw [HLEN.out]
              have := Nat.mul_le_mul_right W hlty
              rw [Nat.succ_mul] at this
              omega
            have hlen : (L.take (y * W + x)).length = y * W + x := by simp; omega
            have hkl : y * W + x < 4096 := by have h1 := HSUM.out; have h2 := HLEN.out; omega
            have hsucc := take_next hk
            rw [HAT.out x y hltx hlty] at hsucc
            rw [HV.out] at hsucc
            have hown := HG3.out
            unfold GrowOf at hown
            rw [hlen] at hown
            have hnext : ∀ (o' : Obj) (v' : Value) (w1 : World), (wr.alloc o').grownBy w1 u8.ownBlock → w1.ownsRow W0.heap.size 4 1 v' (y * W + x + 1) ((L.take (y * W + x)).map Value.bool ++ [Value.bool (decide (d < z))]) →
                Hid (ShrSt w W0 (w.heap.size + 1) (some ⟨b9, o9, none⟩) cp9 W H A9 C9 g w1) ∧ Hid (GrowOf Value.bool W0.heap.size 4 w1 v' (L.take (y * W + (x + 1)))) := fun o' v' w1 hgrow hown' => by
              refine ⟨HS3.out.push HG3.out (by decide) hgrow, ?_⟩
              show GrowOf _ _ _ _ _ _
              rw [← Nat.add_assoc, hsucc]
              exact GrowOf.push (by rw [hlen]; exact hown')
            have HNEXT := Lib.hid hnext
            have HLE : ∀ o' : Obj, W0.heap.size ≤ (wr.alloc o').heap.size := fun o' => (HS3.out.x.alloc o').size
            have HB1 : Hid (y * W + x + 1 ≤ maxLen) := by show _ ≤ _; unfold maxLen; omega
            have HB2 : Hid ((y * W + x + 1) * 1 ≤ 140737488355328) := by show _ ≤ _; omega
            clear hnext hlen hsucc hk HS3 HG3
            generalize hkk : y * W + x = kk at *
            clear hkk
            go_wp2_with ((at_builtin; refine wpList_append_own _ rfl _ _ 101 rfl W0.heap.size 4 ib (.bool false) 1 1 Try.underlying101 hib hb0 hb1 hb2 rfl (by decide) _ _ _ rfl (hown.alloc _) ⟨wr.heap.size, 0, none⟩ 1 1 [.bool (decide (d < z))] rfl rfl (cell_one_at (by simp)) (by simp [Value.oneCell']) HB1.out HB2.out (HLE _) (fun v' w1 hown' hgrow _ => ?_)); obtain ⟨HS4, HG4⟩ := HNEXT.out _ _ _ hgrow hown'; clear hgrow hown' hown)
            go_roundw
            case rel => exact ⟨x + 1, by omega, by go_num, HS4, HG4⟩
            case measure => simp [intOf]; omega
          · have : x = W := by omega
            subst this
            have HG5 : Hid (GrowOf Value.bool W0.heap.size 4 wr u8 (L.take ((y + 1) * x))) := by show GrowOf _ _ _ _ _ _; rw [Nat.succ_mul]; exact HG.out
            have HS2 := HS
            have HG2 := HG5
            clear HS HG HG5
            go_wp2
            go_roundw
            case rel => exact ⟨y + 1, by omega, by go_num, HS2, HG2⟩
            case measure => simp [intOf]; omega
      · have : y = H := by omega
        subst this
        have hx1 : wo.Ext wo := .refl _
        have HS1 := Lib.hid (HS.out.ext hx1)
        have hg1 := HG.out.ext hx1
        rw [← HLEN.out, List.take_length] at hg1
        obtain ⟨a2, c2, rfl, _⟩ := hg1.form
        have HB2 := Lib.hid (hg1.own false).row
        clear hx1 HS HG hg1
        go_wp2_with fail
        refine (HWS.out _ HS1.out.x).mono ?_
        rintro e w2 ⟨rfl, hx2⟩
        have HS2 := Lib.hid (HS1.out.ext hx2)
        go_wp2_with fail
        refine (l01Make_any _ _ _ y L _ hW1 hW2 hH2 (by rw [HLEN.out, Nat.mul_comm]) (RowOf.ext HB2.out hx2)).mono ?_
        rintro e w3 ⟨a3, c3, rfl, hx3, ho3⟩
        obtain ⟨r1, r2, r3, HR⟩ := Res.store (.slice a3 y c3) (hx0.trans (HS2.out.x.trans hx3)) (by omega) (HS2.out.one.ext hx3) HS2.out.one.lt ho3
        clear hx3 hx2 ho3 HS1 HS2 HB2
        go_wp2
        exact bodyPost_ret (v := .tuple #[.agg #[.slice a3 y c3], .bool true]) (by simp [results, Try.results67, go_sem, r3]) rfl ⟨a3, c3, by rw [HRL.out], HR.out.1, HR.out.2⟩
theorem enters_shr11 : Enters 151 := enters_of Try.func151 (by kernel_rfl) (by kernel_rfl)
theorem enters_shr1 : Enters 149 := enters_of Try.func149 (by kernel_rfl) (by kernel_rfl)
set_option maxHeartbeats 800000 in
theorem shr11_any (p5 pd lo : Nat) (a : Option Addr) (c W H : Nat) (A : Nat → Option Addr) (C : Nat → Nat) (g : Nat → Nat → Int) (d : Int) (x y : Nat) (w : World) (_ : W ≤ 64) (_ : H ≤ 64) (hx : x < W) (hy : y < H) (hm : GrowM lo 54 2 w (.slice a (grd W H g).length c) A C (grd W H g))
    (h5 : w.cell? ⟨p5, 0, none⟩ = some (.slice a (grd W H g).length c)) (hd : w.cell? ⟨pd, 0, none⟩ = some (.int .i64 d)) :
    Calls Try.prog 151 #[.int .i64 x, .int .i64 y, .pointer (some ⟨p5, 0, none⟩), .pointer (some ⟨pd, 0, none⟩)] w fun e w' => e = .returned (.bool (decide (d < g x y))) ∧ w.Ext w' := by
  have hl : (grd W H g).length = H := grd_len _ _ _
  obtain ⟨⟨b, o, rfl, hc⟩, hr⟩ := hm.at (y := y) (by omega)
  rw [grd_row hy, grdRow_len] at hc hr
  obtain ⟨b2, o2, hA, hc2⟩ := hr x hx
  rw [grdRow_at hx] at hc2
  rw [hA] at hc
  rw [hl] at h5
  have hx' : (x : Int) < (W : Int) := by omega
  have hy' : (y : Int) < (H : Int) := by omega
  have hx0 : (0 : Int) ≤ (x : Int) := by omega
  have hy0 : (0 : Int) ≤ (y : Int) := by omega
  clear hm hr hA hl
  generalize g x y = z at *
  go_enter Try.func151, Try.ntmps151
  go_wp2_with fail
  refine wp_region_over_lit (by kernel_rfl) (by kernel_rfl) ?_; (repeat (go_big_quiet_step (fail))); refine wpQuiet_nil ?_; rintro _ ⟨x1, rfl⟩
  go_wp2
  go_ret
  exact ⟨rfl, ⟨_, rfl⟩⟩
set_option maxRecDepth 5000 in
set_option maxHeartbeats 800000 in
theorem shr1_any (pk pb b ab W H : Nat) (kind d : Int) (l : List Bool) (w : World) (hW : W ≤ 38) (hH : H ≤ 38) (hI : Img w b ab W H l) (hk : w.cell? ⟨pk, 0, none⟩ = some (.int .i64 kind)) (hd : w.cell? ⟨pb, 0, none⟩ = some (.int .i64 d)) :
    Calls Try.prog 149 #[.pointer (some ⟨b, 0, none⟩), .pointer (some ⟨pk, 0, none⟩), .pointer (some ⟨pb, 0, none⟩)] w (ImgRet w W H (mkl W H (shrB kind d W H l))) := by
  have HDP := Lib.hid (depths_any b ab W H kind l w hW hH hI)
  have HMD : Hid (∀ w' a c A C pl, w.Ext w' → w'.cell? ⟨pl, 0, none⟩ = some (.slice a (grd W H (depI kind W H l)).length c) → GrowM w.heap.size 54 2 w' (.slice a (grd W H (depI kind W H l)).length c) A C (grd W H (depI kind W H l)) → Calls Try.prog 92 #[.int .i64 W, .int .i64 H, .func (.func 151) #[] #[.pointer (some ⟨pl, 0, none⟩), .pointer (some ⟨pb, 0, none⟩)]] w' (ImgRet w' W H (mkl W H (shrB kind d W H l)))) := fun w' a c A C pl hx hc hr =>
    made_any W H 151 _ _ w' (by omega) (by omega) enters_shr11 fun w2 hx2 x y h1 h2 =>
      shr11_any pl pb w.heap.size a c W H A C (depI kind W H l) d x y w2 (by omega) (by omega) h1 h2 (hr.ext hx2) (hx2.cell hc) ((hx.trans hx2).cell hd)
  have HI := Lib.hid hI
  clear hI hd
  generalize mkl W H (shrB kind d W H l) = R at *
  generalize grd W H (depI kind W H l) = m at *
  go_enter Try.func149, Try.ntmps149
  go_wp2_with fail
  refine HDP.out.mono ?_
  rintro e w2 ⟨a, c, A, C, rfl, hx2, ho2⟩
  have hI2 := HI.out.ext hx2
  have c0 := hI2.c0
  have c1 := hI2.c1
  have lb := hI2.lt
  have hx3 : w2.Ext (w2.alloc (.cells #[.slice a m.length c] 66)) := by repeat (first | exact World.Ext.refl _ | exact ⟨_, rfl⟩ | assumption | refine World.Ext.over ?_ _ | refine World.Ext.drewN ?_ _ | refine World.Ext.drew ?_ | refine World.Ext.alloc ?_ _ | refine World.Ext.setCell ?_ (by simp) _)
  have HM := Lib.hid (fun w' (hx : World.Ext _ w') => HMD.out w' a c A C w2.heap.size ((hx2.trans hx3).trans hx) (hx.cell (by simp [go_sem])) ((ho2.ext hx3).ext hx))
  have HX2 := Lib.hid (hx2.trans hx3)
  clear hx2 ho2 hI2 hx3 HDP HMD hk
  go_wp2_with fail
  refine wp_region_over_tail 9 (by kernel_rfl) (by kernel_rfl) ?_; simp only [List.take_succ_cons, List.take_zero, List.drop_succ_cons, List.drop_zero]; (repeat (go_big_quiet_step (fail))); refine wpQuiet_nil ?_; rintro _ ⟨x1, rfl⟩
  go_wp2_with fail
  refine (HM.out _ ⟨x1, rfl⟩).mono ?_
  rintro e w3 ⟨b2, ab2, rfl, hx3, hi3, hb3, hab3⟩
  have hz := HX2.out.size
  have HR := Lib.hid (And.intro ((HX2.out.over x1).trans hx3) hi3)
  have hb4 : w.heap.size ≤ b2 := by simp at hz hb3; omega
  have hab4 : w.heap.size ≤ ab2 := by simp at hz hab3; omega
  clear hx3 hi3 hb3 hab3 hz
  go_wp2
  go_ret
  exact ⟨b2, ab2, rfl, HR.out.1, HR.out.2, hb4, hab4⟩
set_option maxRecDepth 5000 in
set_option maxHeartbeats 1600000 in
theorem implShrinkBy_any (a : Option Addr) (c : Nat) (ss : List ByteArray) (kind d : Int) (w : World) (hb : PicBnd ss) (hm : RowS w a ss) :
    Calls Try.prog 68 #[.agg #[.slice a ss.length c], .int .i64 kind, .int .i64 d] w (PicRet2 w (rowsIf ss (growOk ss kind d) (shrB kind d (picW ss) ss.length (picL ss))) (growOk ss kind d)) := by
  obtain ⟨W0, hW0⟩ : ∃ W0, W0 = (((w.alloc (.cells #[.slice a ss.length c] 30)).alloc (.cells #[.int .i64 kind] 2)).alloc (.cells #[.int .i64 d] 2)).alloc (.cells #[.slice none 0 0] 30) := ⟨_, rfl⟩
  have hx0 : w.Ext W0 := by rw [hW0]; repeat (first | exact World.Ext.refl _ | exact ⟨_, rfl⟩ | assumption | refine World.Ext.over ?_ _ | refine World.Ext.drewN ?_ _ | refine World.Ext.drew ?_ | refine World.Ext.alloc ?_ _ | refine World.Ext.setCell ?_ (by simp) _)
  have hck : W0.cell? ⟨w.heap.size + 1, 0, none⟩ = some (.int .i64 kind) := by rw [hW0]; simp [go_sem]
  have hcd : W0.cell? ⟨w.heap.size + 1 + 1, 0, none⟩ = some (.int .i64 d) := by rw [hW0]; simp [go_sem]
  have hcp : W0.cell? ⟨w.heap.size, 0, none⟩ = some (.slice a ss.length c) := by rw [hW0]; simp [go_sem]
  have hr0 : One W0 (w.heap.size + 1 + 1 + 1) 30 (.slice none 0 0) := by rw [hW0]; exact One.new _ _ _ _ (by simp)
  have H0 := Lib.hid (And.intro hx0 (And.intro hck (And.intro hcd (And.intro hcp hr0))))
  clear hx0 hck hcd hcp hr0
  cases hk : inB kind 0 2
  · have e : growOk ss kind d = false := by unfold growOk; rw [hk]; simp
    rw [e]
    show Calls _ _ _ _ (PicRet2 w [] false)
    have HK := Lib.hid (fun w => kindOk_any kind w _ hk)
    clear hm hb hk e
    go_enter Try.func68, Try.ntmps68
    go_wp2_with fail
    rw [← hW0]
    refine (HK.out _).mono ?_
    rintro e w1 ⟨rfl, hx1⟩
    obtain ⟨r1, r2, r3, HR⟩ := Res.store (f := Value.string) (d := ByteArray.empty) (a := none) (xs := []) (lo := w.heap.size + 4) (.slice none 0 0) (H0.out.1.trans hx1) (by omega) (H0.out.2.2.2.2.ext hx1) (by omega) (OwnOf.nil _ _)
    clear hx1 hW0 H0
    go_wp2
    exact bodyPost_ret (v := .tuple #[.agg #[.slice none 0 0], .bool false]) (by simp [results, Try.results68, go_sem, r3]) rfl ⟨none, 0, rfl, HR.out.1, OwnOf.nil _ _⟩
  · have HK := Lib.hid (fun w => kindOk_any kind w _ hk)
    cases hd : inB d 0 512
    · have e : growOk ss kind d = false := by unfold growOk; rw [hd]; simp
      rw [e]
      show Calls _ _ _ _ (PicRet2 w [] false)
      have HD := Lib.hid (fun w => in_any d 0 512 w _ hd)
      clear hm hb hk e hd
      go_enter Try.func68, Try.ntmps68
      go_wp2_with fail
      rw [← hW0]
      refine (HK.out _).mono ?_
      rintro e w1 ⟨rfl, hx1⟩
      have cd := hx1.cell H0.out.2.2.1
      go_wp2_with fail
      refine (HD.out _).mono ?_
      rintro e w2 ⟨rfl, hx2⟩
      obtain ⟨r1, r2, r3, HR⟩ := Res.store (f := Value.string) (d := ByteArray.empty) (a := none) (xs := []) (lo := w.heap.size + 4) (.slice none 0 0) (H0.out.1.trans (hx1.trans hx2)) (by omega) (H0.out.2.2.2.2.ext (hx1.trans hx2)) (by omega) (OwnOf.nil _ _)
      clear hx1 hW0 H0 hx2 cd
      go_wp2
      exact bodyPost_ret (v := .tuple #[.agg #[.slice none 0 0], .bool false]) (by simp [results, Try.results68, go_sem, r3]) rfl ⟨none, 0, rfl, HR.out.1, OwnOf.nil _ _⟩
    · have HD := Lib.hid (fun w => in_any d 0 512 w _ hd)
      have HWI : Hid (∀ w1, W0.Ext w1 → Calls Try.prog 141 #[.agg #[.slice a ss.length c], .func (.func 149) #[] #[.pointer (some ⟨w.heap.size + 1, 0, none⟩), .pointer (some ⟨w.heap.size + 1 + 1, 0, none⟩)]] w1 (PicRet2 w1 (rowsIf ss (growOk ss kind d) (shrB kind d (picW ss) ss.length (picL ss))) (growOk ss kind d))) := fun w1 hx1 => by
        have h := withImage_any a c 149 #[.pointer (some ⟨w.heap.size + 1, 0, none⟩), .pointer (some ⟨w.heap.size + 1 + 1, 0, none⟩)] ss true (picW ss) ss.length (mkl (picW ss) ss.length (shrB kind d (picW ss) ss.length (picL ss))) w1 hb.1 hb.2 (hm.ext (H0.out.1.trans hx1)) enters_shr1
          (fun h _ => by obtain ⟨q1, q2, q3, q4, _⟩ := picOk_spec h; omega)
          (fun w' b ab hp hx hI => by
            obtain ⟨q1, q2, q3, q4, _⟩ := picOk_spec hp
            exact shr1_any _ _ b ab _ _ kind d _ w' (by omega) (by omega) hI ((hx1.trans hx).cell H0.out.2.1) ((hx1.trans hx).cell H0.out.2.2.1))
        have e : growOk ss kind d = (picOk ss && true) := by unfold growOk; rw [hk, hd]; simp
        rw [e, rowsIf_opt]
        cases hp : picOk ss
        · rw [hp] at h; exact h
        · rw [hp] at h
          obtain ⟨q1, q2, q3, q4, _⟩ := picOk_spec hp
          exact h
      clear hm hb hk hd
      generalize rowsIf ss (growOk ss kind d) (shrB kind d (picW ss) ss.length (picL ss)) = R at *
      generalize growOk ss kind d = ok at *
      go_enter Try.func68, Try.ntmps68
      go_wp2_with fail
      rw [← hW0]
      refine (HK.out _).mono ?_
      rintro e w1 ⟨rfl, hx1⟩
      have cd := hx1.cell H0.out.2.2.1
      go_wp2_with fail
      refine (HD.out _).mono ?_
      rintro e w2 ⟨rfl, hx2⟩
      have cp := (hx1.trans hx2).cell H0.out.2.2.2.1
      have HW := Lib.hid (HWI.out w2 (hx1.trans hx2))
      have HR1 := Lib.hid (H0.out.2.2.2.2.ext (hx1.trans hx2))
      have HX1 := Lib.hid (H0.out.1.trans (hx1.trans hx2))
      clear hx1 hx2 HWI H0 cd hW0
      go_wp2_with fail
      refine HW.out.mono ?_
      rintro e w3 ⟨a3, c3, rfl, hx3, ho3⟩
      obtain ⟨r1, r2, r3, HR⟩ := Res.store (.slice a3 R.length c3) (HX1.out.trans hx3) (by omega) (HR1.out.ext hx3) HR1.out.lt ho3
      clear hx3 ho3
      go_wp2
      exact bodyPost_ret (v := .tuple #[.agg #[.slice a3 R.length c3], .bool ok]) (by simp [results, Try.results68, go_sem, r3]) rfl ⟨a3, c3, rfl, HR.out.1, HR.out.2⟩
end Go.Proofs.Ytpploijlijnahaa
