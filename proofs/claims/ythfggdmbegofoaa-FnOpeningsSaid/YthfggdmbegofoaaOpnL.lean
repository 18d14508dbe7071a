/- FnOpenings: the law's own walk. -/
import Derived.Test.YthfggdmbegofoaaGenF
import Derived.Test.YthfggdmbegofoaaOpnP
import Derived.Test.YthfggdmbegofoaaSizF
import Derived.Test.YthfggdmbegofoaaSamB
import Derived.Test.YthfggdmbegofoaaPrgF
import Derived.Deep.RegionHeld3
import Derived.Deep.DeepCutAuto
namespace Go.Proofs.Ythfggdmbegofoaa
open Go Go.RowKit
theorem mkl_pxl {ss : List ByteArray} {W H : Nat} (h : PicOf W H ss) : mkl W H (fun x y => pxl W H (picL ss) x y) = picL ss := by
  obtain ⟨h1, h2, h3⟩ := h
  have h5 := (picOk_spec h1).2.2.2.2.1
  have hl : (picL ss).length = H * W := by rw [picL_len h5, h2, h3]
  refine List.ext_getElem (by rw [mkl_len, hl]) fun k hk1 hk2 => ?_
  have hk : k < H * W := by rw [mkl_len] at hk1; exact hk1
  have hW : 0 < W := Nat.pos_of_ne_zero fun e => by rw [e] at hk; simp at hk
  have hx : k % W < W := Nat.mod_lt _ hW
  have hy : k / W < H := by rw [Nat.div_lt_iff_lt_mul hW]; exact hk
  have e : k / W * W + k % W = k := by rw [Nat.mul_comm]; exact Nat.div_add_mod _ _
  have h1 := mkl_at W H (fun x y => pxl W H (picL ss) x y) (k % W) (k / W) hx hy
  rw [e, List.getD_eq_getElem?_getD, List.getElem?_eq_getElem hk1] at h1
  simp only [Option.getD_some] at h1
  rw [h1, pxl_at _ _ _ _ _ hx hy, e, List.getD_eq_getElem?_getD, List.getElem?_eq_getElem hk2]
  rfl
theorem insB_mkl {W H : Nat} {g g' : Nat → Nat → Bool} (h : ∀ x y : Nat, x < W → y < H → g x y = true → g' x y = true) : insB (mkl W H g) (mkl W H g') = true := by
  unfold insB
  rw [insideB_at]
  intro i hi hg
  rw [mkl_len] at hi
  have hW : 0 < W := Nat.pos_of_ne_zero fun e => by rw [e] at hi; simp at hi
  have hx : i % W < W := Nat.mod_lt _ hW
  have hy : i / W < H := by rw [Nat.div_lt_iff_lt_mul hW]; exact hi
  have e : i / W * W + i % W = i := by rw [Nat.mul_comm]; exact Nat.div_add_mod _ _
  have h1 := mkl_at W H g (i % W) (i / W) hx hy
  have h2 := mkl_at W H g' (i % W) (i / W) hx hy
  rw [e] at h1 h2
  rw [h1] at hg
  rw [h2]
  exact h _ _ hx hy hg
theorem rowsOf {W H : Nat} (hW1 : 1 ≤ W) (hW : W ≤ 16) (hH1 : 1 ≤ H) (hH : H ≤ 16) (g : Nat → Nat → Bool) : PicOf W H (picRows W H (mkl W H g)) ∧ picL (picRows W H (mkl W H g)) = mkl W H g := by
  have hl : (mkl W H g).length = W * H := by rw [mkl_len, Nat.mul_comm]
  exact ⟨⟨picOk_rows hW1 hW hH1 hH hl, picRows_len _ _ _, picW_rows (by omega) hl⟩, picL_rows hl⟩
theorem likeOf {W H : Nat} {ss tt : List ByteArray} (h1 : PicOf W H ss) (h2 : PicOf W H tt) : likeP ss tt = true := by unfold likeP; rw [h1.1, h2.1, h1.2.1, h1.2.2, h2.2.1, h2.2.2]; simp
theorem bndOf {W H : Nat} {ss : List ByteArray} (h : PicOf W H ss) : PicBnd ss := by
  obtain ⟨v1, v2, v3, v4, v5, -⟩ := picOk_spec h.1
  refine ⟨by omega, fun y => ?_⟩
  by_cases hy : y < ss.length
  · rw [v5.2 y hy]; omega
  · rw [List.getD_eq_getElem?_getD, List.getElem?_eq_none (by omega)]; simp
theorem ownS_set {lo hi b : Nat} {w : World} {a : Option Addr} {xs : List ByteArray} (h : OwnOf Value.string ByteArray.empty lo hi w a xs) (hb : b < lo) (v : Value) : OwnOf Value.string ByteArray.empty lo hi (w.setCell ⟨b, 0, none⟩ v) a xs :=
  h.wrote (S := fun k => k = b) ((Wrote.refl (fun k => k = b) w).setCell (p := ⟨b, 0, none⟩) rfl v) fun k h1 _ h3 => by omega
/-- Sizes never become greater, and the first is the number of black pixels. -/
theorem szCnt_mono {ss : List ByteArray} (n : Nat) (hn : 1 ≤ n) : szCnt ss (n + 1) ≤ szCnt ss n := by
  unfold szCnt
  refine Int.ofNat_le.2 (spots_le fun i hi => ?_)
  rcases Nat.lt_or_ge i (ss.length * picW ss) with h | h
  · have hW : 0 < picW ss := Nat.pos_of_ne_zero fun e => by rw [e] at h; simp at h
    have hx : i % picW ss < picW ss := Nat.mod_lt _ hW
    have hy : i / picW ss < ss.length := by rw [Nat.div_lt_iff_lt_mul hW]; exact h
    have e : i / picW ss * picW ss + i % picW ss = i := by rw [Nat.mul_comm]; exact Nat.div_add_mod _ _
    have h1 := fun g => mkl_at (picW ss) ss.length g (i % picW ss) (i / picW ss) hx hy
    simp only [e] at h1
    rw [h1] at hi ⊢
    exact open_less hn hi
  · rw [List.getD_eq_getElem?_getD, List.getElem?_eq_none (by rw [mkl_len]; exact h)] at hi
    simp at hi
theorem szCnt_one {ss : List ByteArray} {W H : Nat} (h : PicOf W H ss) : szCnt ss 1 = ((spotsTo (picW ss) (picL ss) (ss.length * picW ss)).length : Nat) := by
  unfold szCnt
  have e : (mkl (picW ss) ss.length fun x y => openB (picW ss) ss.length (picL ss) (sqL 1) x y) = picL ss := by
    have := mkl_pxl h
    rw [h.2.1, h.2.2]
    conv => rhs; rw [← this]
    exact mkl_congr fun x y _ _ => open_one
  rw [e]
theorem szTo_at {ss : List ByteArray} {k : Nat} (hk : k < 5) : (szTo ss 5).getD k 0 = szCnt ss (k + 1) := by
  unfold szTo
  rw [List.getD_eq_getElem?_getD, List.getElem?_map, List.getElem?_range hk]
  rfl
set_option maxRecDepth 10000 in
set_option maxHeartbeats 16000000 in
theorem fnOpenings_any (a : Option Addr) (c : Nat) (zs : List Int) (a2 : Option Addr) (c2 : Nat) (ys : List Int) (w : World) (h : CodeAt w a zs) (h2 : CodeAt w a2 ys) :
    Calls Try.prog 7 #[.slice a zs.length c, .slice a2 ys.length c2] w fun e w' => e = .returned (.bool true) ∧ w.Ext w' := by
  have HLO := Lib.hid (long_any a zs.length c a2 ys.length c2 w h.2.2 h2.2.2)
  have HP := Lib.hid (fun w' (hx : w.Ext w') => pic7_any a c zs w' (h.ext hx))
  have HE1 := Lib.hid (fun w' (hx : w.Ext w') => b10Element_any a2 c2 ys w' (h2.ext hx))
  have HQ : Hid (∀ ss a3 c3 w', picOk ss = true → RowS w' a3 ss → w.Ext w' → Calls Try.prog 54 #[.slice a2 ys.length c2, .agg #[.slice a3 ss.length c3]] w' (NewPic w' (PicOf (picW ss) ss.length))) := fun ss a3 c3 w' h1 h3 hx => b10Like_any a2 c2 ys a3 c3 ss w' (h2.ext hx) h1 h3
  clear h h2
  go_enter Try.func7, Try.ntmps7
  have HWB : Hid (w.Ext w) := .refl _
  have HX : Hid (w.Ext w) := .refl _
  go_wp2_with fail
  refine (HLO.out).mono ?_
  rintro e v1 ⟨t, rfl, hx, -⟩
  have HX_ := Lib.hid (HX.out.trans hx)
  clear HX
  have HX := HX_
  clear HX_
  clear hx
  cases t
  rotate_left
  · go_wp2
    go_ret
    exact ⟨rfl, HX.out⟩
  go_wp2_with fail
  refine (HP.out v1 (HWB.out.trans HX.out)).mono ?_
  rintro e v2 ⟨pa, pc, ss, rfl, hpic, hx, hrow⟩
  have HX_ := Lib.hid (HX.out.trans hx)
  clear HX
  have HX := HX_
  clear HX_
  obtain ⟨g1, g2, g3, g4, g5, -⟩ := picOk_spec hpic.1
  have hROW := hrow.row
  have HLK : Hid (∀ w', RowS w' pa ss → w.Ext w' → Calls Try.prog 54 #[.slice a2 ys.length c2, .agg #[.slice pa ss.length pc]] w' (NewPic w' (PicOf (picW ss) ss.length))) := fun w' hr hx => HQ.out ss pa pc w' hpic.1 hr hx
  have HSZ : Hid (∀ w', RowS w' pa ss → Calls Try.prog 55 #[.agg #[.slice pa ss.length pc]] w' (ZsRet2 w' (szTo ss 5) true)) := fun w' hr => by
    have h := implSizes_any pa pc ss w' (bndOf ⟨hpic.1, rfl, rfl⟩) hr
    rw [hpic.1] at h
    exact h
  have HCT : Hid (∀ w', RowS w' pa ss → Calls Try.prog 36 #[.agg #[.slice pa ss.length pc]] w' fun e w'' => e = .returned (.tuple #[.int .i64 (szCnt ss 1), .bool true]) ∧ w'.Ext w'') := fun w' hr => by
    rw [szCnt_one ⟨hpic.1, rfl, rfl⟩]
    exact countBlack_any pa pc ss w' (bndOf ⟨hpic.1, rfl, rfl⟩) hpic.1 hr
  obtain ⟨W, hW⟩ : ∃ W, picW ss = W := ⟨_, rfl⟩
  obtain ⟨H, hH⟩ : ∃ H, ss.length = H := ⟨_, rfl⟩
  have HPIC : Hid (PicOf W H ss) := ⟨hpic.1, hH, hW⟩
  have HROW := Lib.hid hROW
  have HZ : Hid ((szTo ss 5).length = 5 ∧ (∀ k, k < 5 → (szTo ss 5).getD k 0 = szCnt ss (k + 1)) ∧ ∀ n, 1 ≤ n → szCnt ss (n + 1) ≤ szCnt ss n ∧ 0 ≤ szCnt ss n) := ⟨szTo_len ss 5, fun k hk => szTo_at hk, fun n hn => ⟨szCnt_mono n hn, Int.natCast_nonneg _⟩⟩
  rw [hW] at g3 g4 HLK
  rw [hH] at g1 g2 HLK HSZ HCT ⊢
  generalize szTo ss 5 = Z at *
  generalize szCnt ss = zc at *
  clear hpic hrow hROW hW hH g5 HQ
  clear hx
  obtain ⟨b2, hb2⟩ : ∃ b2, b2 = v2.alloc (.cells #[.slice pa H pc] 38) := ⟨_, rfl⟩
  have hxb : v2.Ext b2 := by rw [hb2]; repeat (first | exact World.Ext.refl _ | exact ⟨_, rfl⟩ | assumption | refine World.Ext.over ?_ _ | refine World.Ext.drewN ?_ _ | refine World.Ext.drew ?_ | refine World.Ext.alloc ?_ _ | refine World.Ext.setCell ?_ (by simp) _)
  have c5_ : b2.cell? ⟨v2.heap.size, 0, none⟩ = some (.slice pa H pc) := by rw [hb2]; simp [go_sem]
  have HALL_ : Hid (∀ w', b2.Ext w' → w'.cell? ⟨v2.heap.size, 0, none⟩ = some (.slice pa H pc) ∧ RowS w' pa ss ∧ True) := fun w' hx' => ⟨hx'.cell c5_, RowOf.ext HROW.out (hxb.trans hx'), trivial⟩
  have HWB_ := Lib.hid (HWB.out.trans (HX.out.trans hxb))
  have HX_ : Hid (b2.Ext b2) := .refl _
  clear hxb c5_ HWB HX
  have HALL := HALL_
  have HWB := HWB_
  have HX := HX_
  clear HALL_ HWB_ HX_
  go_wp2_with fail
  rw [← hb2]
  clear hb2
  generalize v2.heap.size = q5 at *
  refine (HE1.out b2 (HWB.out.trans HX.out)).mono ?_
  rintro e v3 ⟨ao, co, os, rfl, hel, hne, hl4, hx, hrow⟩
  have HX_ := Lib.hid (HX.out.trans hx)
  clear HX
  have HX := HX_
  clear HX_
  have HEL := Lib.hid hel
  have HRO := Lib.hid hrow
  clear hne hl4 hel hrow
  clear hx
  obtain ⟨b3, hb3⟩ : ∃ b3, b3 = v3.alloc (.cells #[.slice ao os.length co] 50) := ⟨_, rfl⟩
  have hxb : v3.Ext b3 := by rw [hb3]; repeat (first | exact World.Ext.refl _ | exact ⟨_, rfl⟩ | assumption | refine World.Ext.over ?_ _ | refine World.Ext.drewN ?_ _ | refine World.Ext.drew ?_ | refine World.Ext.alloc ?_ _ | refine World.Ext.setCell ?_ (by simp) _)
  have c6_ : b3.cell? ⟨v3.heap.size, 0, none⟩ = some (.slice ao os.length co) := by rw [hb3]; simp [go_sem]
  have HALL_ : Hid (∀ w', b3.Ext w' → w'.cell? ⟨q5, 0, none⟩ = some (.slice pa H pc) ∧ RowS w' pa ss ∧ w'.cell? ⟨v3.heap.size, 0, none⟩ = some (.slice ao os.length co) ∧ RowP w' ao os ∧ True) := fun w' hx' => ⟨(HALL.out w' ((HX.out.trans hxb).trans hx')).1, (HALL.out w' ((HX.out.trans hxb).trans hx')).2.1, hx'.cell c6_, RowP.ext HRO.out (hxb.trans hx'), trivial⟩
  have HWB_ := Lib.hid (HWB.out.trans (HX.out.trans hxb))
  have HX_ : Hid (b3.Ext b3) := .refl _
  clear hxb c6_ HWB HX HALL
  have HALL := HALL_
  have HWB := HWB_
  have HX := HX_
  clear HALL_ HWB_ HX_
  have hbo : os.length ≤ 1048576 := by have := (elemOk_spec HEL.out).2.1; omega
  have HPO : Hid (∀ g, PicOf W H (picRows W H (mkl W H g)) ∧ picL (picRows W H (mkl W H g)) = mkl W H g) := fun g => rowsOf g3 g4 g1 g2 g
  have HOG : Hid (∀ R ax cx w', PicOf W H R → RowS w' ax R → RowP w' ao os → Calls Try.prog 51 #[.agg #[.slice ax H cx], .agg #[.slice ao os.length co]] w' (PicRet2 w' (picRows W H (mkl W H fun x y => openB W H (picL R) os x y)) true)) := fun R ax cx w' hR h1 h2 => by
    have h := implOpen_any ax cx R ao co os w' (bndOf hR) hbo h1 h2
    rw [hR.1, HEL.out, Bool.true_and] at h
    unfold rowsIf at h
    rw [if_pos rfl, hR.2.1, hR.2.2] at h
    exact h
  have HCG : Hid (∀ R ax cx w', PicOf W H R → RowS w' ax R → RowP w' ao os → Calls Try.prog 52 #[.agg #[.slice ax H cx], .agg #[.slice ao os.length co]] w' (PicRet2 w' (picRows W H (mkl W H fun x y => closeB W H (picL R) os x y)) true)) := fun R ax cx w' hR h1 h2 => by
    have h := implClose_any ax cx R ao co os w' (bndOf hR) hbo h1 h2
    rw [hR.1, HEL.out, Bool.true_and] at h
    unfold rowsIf at h
    rw [if_pos rfl, hR.2.1, hR.2.2] at h
    exact h
  obtain ⟨RA, hRA⟩ : ∃ RA, RA = picRows W H (mkl W H fun x y => openB W H (picL ss) os x y) := ⟨_, rfl⟩
  obtain ⟨RC, hRC⟩ : ∃ RC, RC = picRows W H (mkl W H fun x y => closeB W H (picL ss) os x y) := ⟨_, rfl⟩
  have HPA : Hid (PicOf W H RA) := by rw [hRA]; exact (HPO.out _).1
  have HPC : Hid (PicOf W H RC) := by rw [hRC]; exact (HPO.out _).1
  have HOA : Hid (∀ w', RowS w' pa ss → RowP w' ao os → Calls Try.prog 51 #[.agg #[.slice pa H pc], .agg #[.slice ao os.length co]] w' (PicRet2 w' RA true)) := fun w' h1 h2 => by rw [hRA]; exact HOG.out ss pa pc w' HPIC.out h1 h2
  have HCA : Hid (∀ w', RowS w' pa ss → RowP w' ao os → Calls Try.prog 52 #[.agg #[.slice pa H pc], .agg #[.slice ao os.length co]] w' (PicRet2 w' RC true)) := fun w' h1 h2 => by rw [hRC]; exact HCG.out ss pa pc w' HPIC.out h1 h2
  have HOB : Hid (∀ ax cx w', RowS w' ax RA → RowP w' ao os → Calls Try.prog 51 #[.agg #[.slice ax H cx], .agg #[.slice ao os.length co]] w' (PicRet2 w' RA true)) := fun ax cx w' h1 h2 => by
    have h := HOG.out RA ax cx w' HPA.out h1 h2
    have e : picRows W H (mkl W H fun x y => openB W H (picL RA) os x y) = RA := by
      rw [hRA, (HPO.out _).2]
      congr 1
      exact mkl_congr fun x y _ _ => open_idem x y
    rw [e] at h
    exact h
  have HCB : Hid (∀ ax cx w', RowS w' ax RC → RowP w' ao os → Calls Try.prog 52 #[.agg #[.slice ax H cx], .agg #[.slice ao os.length co]] w' (PicRet2 w' RC true)) := fun ax cx w' h1 h2 => by
    have h := HCG.out RC ax cx w' HPC.out h1 h2
    have e : picRows W H (mkl W H fun x y => closeB W H (picL RC) os x y) = RC := by
      rw [hRC, (HPO.out _).2]
      congr 1
      exact mkl_congr fun x y _ _ => close_idem x y
    rw [e] at h
    exact h
  have HIA : Hid (insB (picL RA) (picL ss) = true) := by
    show _ = _
    rw [hRA, (HPO.out _).2, ← mkl_pxl HPIC.out]
    exact insB_mkl fun x y _ _ h => by rw [mkl_pxl HPIC.out] at h; exact open_sub h
  have HIC : Hid (insB (picL ss) (picL RC) = true) := by
    show _ = _
    rw [hRC, (HPO.out _).2]
    conv => lhs; arg 1; rw [← mkl_pxl HPIC.out]
    exact insB_mkl fun x y _ _ h => close_sub h
  have HJN : Hid (∀ tt a' c' w', PicOf W H tt → RowS w' pa ss → RowS w' a' tt → Calls Try.prog 53 #[.int .i64 0, .agg #[.slice pa H pc], .agg #[.slice a' H c']] w' (PicRet2 w' (picRows W H (mkl W H (jnG 0 ss tt))) true)) := fun tt a' c' w' hT h1 h2 => by
    have h := implJoin_any 0 pa pc ss a' c' tt w' (by decide) (likeOf HPIC.out hT) (bndOf HPIC.out) (bndOf hT) h1 h2
    rw [HPIC.out.2.1, HPIC.out.2.2, hT.2.1] at h
    exact h
  have HOF : Hid (∀ tt, PicOf W H tt → ∃ RF, PicOf W H RF ∧ insB (picL RF) (picL RA) = true ∧ ∀ ax cx w', RowS w' ax (picRows W H (mkl W H (jnG 0 ss tt))) → RowP w' ao os → Calls Try.prog 51 #[.agg #[.slice ax H cx], .agg #[.slice ao os.length co]] w' (PicRet2 w' RF true)) := fun tt hT => by
    refine ⟨_, (HPO.out _).1, ?_, fun ax cx w' h1 h2 => HOG.out _ ax cx w' (HPO.out _).1 h1 h2⟩
    rw [hRA, (HPO.out _).2, (HPO.out _).2, (HPO.out _).2]
    refine insB_mkl fun x y _ _ hh => open_mono (fun u v huv => ?_) hh
    rw [pxl_mk] at huv
    obtain ⟨x', y', rfl, rfl, hx', hy', hj⟩ := huv
    have hj2 : (pxl (picW ss) ss.length (picL ss) x' y' && pxl (picW tt) tt.length (picL tt) x' y') = true := hj
    rw [Bool.and_eq_true, HPIC.out.2.1, HPIC.out.2.2] at hj2
    exact hj2.1
  have HSM : Hid (∀ R ax cx ay cy w', PicOf W H R → RowS w' ax R → RowS w' ay R → Calls Try.prog 27 #[.agg #[.slice ax H cx], .agg #[.slice ay H cy]] w' fun e w'' => e = .returned (.bool true) ∧ w'.Ext w'') := fun R ax cx ay cy w' hR h1 h2 => by
    have h := b10Same_any ax ay cx cy R R w' (by rw [hR.2.1]; omega) h1 h2
    rw [hR.2.1, decide_eq_true (rfl : R = R), decide_eq_true (show 0 < H by omega), Bool.and_true] at h
    exact h
  have HIS : Hid (∀ R R' ax cx ay cy w', PicOf W H R → PicOf W H R' → insB (picL R) (picL R') = true → RowS w' ax R → RowS w' ay R' → Calls Try.prog 56 #[.agg #[.slice ax H cx], .agg #[.slice ay H cy]] w' fun e w'' => e = .returned (.bool true) ∧ w'.Ext w'') := fun R R' ax cx ay cy w' hR hR' hi h1 h2 => by
    have h := implInside_any ax cx R ay cy R' w' (bndOf hR) (bndOf hR') h1 h2
    rw [hR.2.1, hR'.2.1, likeOf hR hR', hi, Bool.true_and] at h
    exact h
  have HLA : Hid (RA.length = H) := HPA.out.2.1
  have HLC : Hid (RC.length = H) := HPC.out.2.1
  clear hRA hRC HPO HOG HCG hbo HEL HROW HRO
  go_upto_region 5 with fail
  rw [← hb3]
  clear hb3
  generalize v3.heap.size = q6 at *
  have c5 := (HALL.out b3 HX.out).1
  have lc5 := World.block_lt_of_cell? _ _ c5
  have c6 := (HALL.out b3 HX.out).2.2.1
  have lc6 := World.block_lt_of_cell? _ _ c6
  go_wp2_with fail
  refine (HOA.out b3 (HALL.out b3 HX.out).2.1 (HALL.out b3 HX.out).2.2.2.1).mono ?_
  rintro e v4 ⟨aA, dA, rfl, hx, ho⟩
  clear lc5 c5 lc6 c6
  have HX_ := Lib.hid (HX.out.trans hx)
  clear HX
  have HX := HX_
  clear HX_
  have HOA := Lib.hid ho.row
  clear ho
  clear hx
  rw [HLA.out]
  obtain ⟨b4, hb4⟩ : ∃ b4, b4 = v4.alloc (.cells #[.slice aA H dA] 38) := ⟨_, rfl⟩
  have hxb : v4.Ext b4 := by rw [hb4]; repeat (first | exact World.Ext.refl _ | exact ⟨_, rfl⟩ | assumption | refine World.Ext.over ?_ _ | refine World.Ext.drewN ?_ _ | refine World.Ext.drew ?_ | refine World.Ext.alloc ?_ _ | refine World.Ext.setCell ?_ (by simp) _)
  have c7_ : b4.cell? ⟨v4.heap.size, 0, none⟩ = some (.slice aA H dA) := by rw [hb4]; simp [go_sem]
  have HALL_ : Hid (∀ w', b4.Ext w' → w'.cell? ⟨q5, 0, none⟩ = some (.slice pa H pc) ∧ RowS w' pa ss ∧ w'.cell? ⟨q6, 0, none⟩ = some (.slice ao os.length co) ∧ RowP w' ao os ∧ w'.cell? ⟨v4.heap.size, 0, none⟩ = some (.slice aA H dA) ∧ RowS w' aA RA ∧ True) := fun w' hx' => ⟨(HALL.out w' ((HX.out.trans hxb).trans hx')).1, (HALL.out w' ((HX.out.trans hxb).trans hx')).2.1, (HALL.out w' ((HX.out.trans hxb).trans hx')).2.2.1, (HALL.out w' ((HX.out.trans hxb).trans hx')).2.2.2.1, hx'.cell c7_, RowOf.ext HOA.out (hxb.trans hx'), trivial⟩
  have HWB_ := Lib.hid (HWB.out.trans (HX.out.trans hxb))
  have HX_ : Hid (b4.Ext b4) := .refl _
  clear hxb c7_ HWB HX HALL
  have HALL := HALL_
  have HWB := HWB_
  have HX := HX_
  clear HALL_ HWB_ HX_
  go_upto_region 6 with fail
  rw [← hb4]
  clear hb4
  generalize v4.heap.size = q7 at *
  have c6 := (HALL.out b4 HX.out).2.2.1
  have lc6 := World.block_lt_of_cell? _ _ c6
  have c7 := (HALL.out b4 HX.out).2.2.2.2.1
  have lc7 := World.block_lt_of_cell? _ _ c7
  go_wp2_with fail
  refine (HOB.out _ _ b4 (HALL.out b4 HX.out).2.2.2.2.2.1 (HALL.out b4 HX.out).2.2.2.1).mono ?_
  rintro e v5 ⟨aB, dB, rfl, hx, ho⟩
  clear lc6 c6 lc7 c7
  have HX_ := Lib.hid (HX.out.trans hx)
  clear HX
  have HX := HX_
  clear HX_
  have HOB := Lib.hid ho.row
  clear ho
  clear hx
  rw [HLA.out]
  obtain ⟨b5, hb5⟩ : ∃ b5, b5 = v5.alloc (.cells #[.slice aB H dB] 38) := ⟨_, rfl⟩
  have hxb : v5.Ext b5 := by rw [hb5]; repeat (first | exact World.Ext.refl _ | exact ⟨_, rfl⟩ | assumption | refine World.Ext.over ?_ _ | refine World.Ext.drewN ?_ _ | refine World.Ext.drew ?_ | refine World.Ext.alloc ?_ _ | refine World.Ext.setCell ?_ (by simp) _)
  have c9_ : b5.cell? ⟨v5.heap.size, 0, none⟩ = some (.slice aB H dB) := by rw [hb5]; simp [go_sem]
  have HALL_ : Hid (∀ w', b5.Ext w' → w'.cell? ⟨q5, 0, none⟩ = some (.slice pa H pc) ∧ RowS w' pa ss ∧ w'.cell? ⟨q6, 0, none⟩ = some (.slice ao os.length co) ∧ RowP w' ao os ∧ w'.cell? ⟨q7, 0, none⟩ = some (.slice aA H dA) ∧ RowS w' aA RA ∧ w'.cell? ⟨v5.heap.size, 0, none⟩ = some (.slice aB H dB) ∧ RowS w' aB RA ∧ True) := fun w' hx' => ⟨(HALL.out w' ((HX.out.trans hxb).trans hx')).1, (HALL.out w' ((HX.out.trans hxb).trans hx')).2.1, (HALL.out w' ((HX.out.trans hxb).trans hx')).2.2.1, (HALL.out w' ((HX.out.trans hxb).trans hx')).2.2.2.1, (HALL.out w' ((HX.out.trans hxb).trans hx')).2.2.2.2.1, (HALL.out w' ((HX.out.trans hxb).trans hx')).2.2.2.2.2.1, hx'.cell c9_, RowOf.ext HOB.out (hxb.trans hx'), trivial⟩
  have HWB_ := Lib.hid (HWB.out.trans (HX.out.trans hxb))
  have HX_ : Hid (b5.Ext b5) := .refl _
  clear hxb c9_ HWB HX HALL
  have HALL := HALL_
  have HWB := HWB_
  have HX := HX_
  clear HALL_ HWB_ HX_
  go_upto_region 7 with fail
  rw [← hb5]
  clear hb5
  generalize v5.heap.size = q9 at *
  have c5 := (HALL.out b5 HX.out).1
  have lc5 := World.block_lt_of_cell? _ _ c5
  have c6 := (HALL.out b5 HX.out).2.2.1
  have lc6 := World.block_lt_of_cell? _ _ c6
  go_wp2_with fail
  refine (HCA.out b5 (HALL.out b5 HX.out).2.1 (HALL.out b5 HX.out).2.2.2.1).mono ?_
  rintro e v6 ⟨aC, dC, rfl, hx, ho⟩
  clear lc5 c5 lc6 c6
  have HX_ := Lib.hid (HX.out.trans hx)
  clear HX
  have HX := HX_
  clear HX_
  have HOC := Lib.hid ho.row
  clear ho
  clear hx
  rw [HLC.out]
  obtain ⟨b6, hb6⟩ : ∃ b6, b6 = v6.alloc (.cells #[.slice aC H dC] 38) := ⟨_, rfl⟩
  have hxb : v6.Ext b6 := by rw [hb6]; repeat (first | exact World.Ext.refl _ | exact ⟨_, rfl⟩ | assumption | refine World.Ext.over ?_ _ | refine World.Ext.drewN ?_ _ | refine World.Ext.drew ?_ | refine World.Ext.alloc ?_ _ | refine World.Ext.setCell ?_ (by simp) _)
  have c11_ : b6.cell? ⟨v6.heap.size, 0, none⟩ = some (.slice aC H dC) := by rw [hb6]; simp [go_sem]
  have HALL_ : Hid (∀ w', b6.Ext w' → w'.cell? ⟨q5, 0, none⟩ = some (.slice pa H pc) ∧ RowS w' pa ss ∧ w'.cell? ⟨q6, 0, none⟩ = some (.slice ao os.length co) ∧ RowP w' ao os ∧ w'.cell? ⟨q7, 0, none⟩ = some (.slice aA H dA) ∧ RowS w' aA RA ∧ w'.cell? ⟨q9, 0, none⟩ = some (.slice aB H dB) ∧ RowS w' aB RA ∧ w'.cell? ⟨v6.heap.size, 0, none⟩ = some (.slice aC H dC) ∧ RowS w' aC RC ∧ True) := fun w' hx' => ⟨(HALL.out w' ((HX.out.trans hxb).trans hx')).1, (HALL.out w' ((HX.out.trans hxb).trans hx')).2.1, (HALL.out w' ((HX.out.trans hxb).trans hx')).2.2.1, (HALL.out w' ((HX.out.trans hxb).trans hx')).2.2.2.1, (HALL.out w' ((HX.out.trans hxb).trans hx')).2.2.2.2.1, (HALL.out w' ((HX.out.trans hxb).trans hx')).2.2.2.2.2.1, (HALL.out w' ((HX.out.trans hxb).trans hx')).2.2.2.2.2.2.1, (HALL.out w' ((HX.out.trans hxb).trans hx')).2.2.2.2.2.2.2.1, hx'.cell c11_, RowOf.ext HOC.out (hxb.trans hx'), trivial⟩
  have HWB_ := Lib.hid (HWB.out.trans (HX.out.trans hxb))
  have HX_ : Hid (b6.Ext b6) := .refl _
  clear hxb c11_ HWB HX HALL
  have HALL := HALL_
  have HWB := HWB_
  have HX := HX_
  clear HALL_ HWB_ HX_
  go_upto_region 8 with fail
  rw [← hb6]
  clear hb6
  generalize v6.heap.size = q11 at *
  have c6 := (HALL.out b6 HX.out).2.2.1
  have lc6 := World.block_lt_of_cell? _ _ c6
  have c11 := (HALL.out b6 HX.out).2.2.2.2.2.2.2.2.1
  have lc11 := World.block_lt_of_cell? _ _ c11
  go_wp2_with fail
  refine (HCB.out _ _ b6 (HALL.out b6 HX.out).2.2.2.2.2.2.2.2.2.1 (HALL.out b6 HX.out).2.2.2.1).mono ?_
  rintro e v7 ⟨aD, dD, rfl, hx, ho⟩
  clear lc6 c6 lc11 c11
  have HX_ := Lib.hid (HX.out.trans hx)
  clear HX
  have HX := HX_
  clear HX_
  have HOD := Lib.hid ho.row
  clear ho
  clear hx
  rw [HLC.out]
  obtain ⟨b7, hb7⟩ : ∃ b7, b7 = v7.alloc (.cells #[.slice aD H dD] 38) := ⟨_, rfl⟩
  have hxb : v7.Ext b7 := by rw [hb7]; repeat (first | exact World.Ext.refl _ | exact ⟨_, rfl⟩ | assumption | refine World.Ext.over ?_ _ | refine World.Ext.drewN ?_ _ | refine World.Ext.drew ?_ | refine World.Ext.alloc ?_ _ | refine World.Ext.setCell ?_ (by simp) _)
  have c13_ : b7.cell? ⟨v7.heap.size, 0, none⟩ = some (.slice aD H dD) := by rw [hb7]; simp [go_sem]
  have HALL_ : Hid (∀ w', b7.Ext w' → w'.cell? ⟨q5, 0, none⟩ = some (.slice pa H pc) ∧ RowS w' pa ss ∧ w'.cell? ⟨q6, 0, none⟩ = some (.slice ao os.length co) ∧ RowP w' ao os ∧ w'.cell? ⟨q7, 0, none⟩ = some (.slice aA H dA) ∧ RowS w' aA RA ∧ w'.cell? ⟨q9, 0, none⟩ = some (.slice aB H dB) ∧ RowS w' aB RA ∧ w'.cell? ⟨q11, 0, none⟩ = some (.slice aC H dC) ∧ RowS w' aC RC ∧ w'.cell? ⟨v7.heap.size, 0, none⟩ = some (.slice aD H dD) ∧ RowS w' aD RC ∧ True) := fun w' hx' => ⟨(HALL.out w' ((HX.out.trans hxb).trans hx')).1, (HALL.out w' ((HX.out.trans hxb).trans hx')).2.1, (HALL.out w' ((HX.out.trans hxb).trans hx')).2.2.1, (HALL.out w' ((HX.out.trans hxb).trans hx')).2.2.2.1, (HALL.out w' ((HX.out.trans hxb).trans hx')).2.2.2.2.1, (HALL.out w' ((HX.out.trans hxb).trans hx')).2.2.2.2.2.1, (HALL.out w' ((HX.out.trans hxb).trans hx')).2.2.2.2.2.2.1, (HALL.out w' ((HX.out.trans hxb).trans hx')).2.2.2.2.2.2.2.1, (HALL.out w' ((HX.out.trans hxb).trans hx')).2.2.2.2.2.2.2.2.1, (HALL.out w' ((HX.out.trans hxb).trans hx')).2.2.2.2.2.2.2.2.2.1, hx'.cell c13_, RowOf.ext HOD.out (hxb.trans hx'), trivial⟩
  have HWB_ := Lib.hid (HWB.out.trans (HX.out.trans hxb))
  have HX_ : Hid (b7.Ext b7) := .refl _
  clear hxb c13_ HWB HX HALL
  have HALL := HALL_
  have HWB := HWB_
  have HX := HX_
  clear HALL_ HWB_ HX_
  go_upto_region 9 with fail
  rw [← hb7]
  clear hb7
  generalize v7.heap.size = q13 at *
  have HLJ : Hid (∀ tt, (picRows W H (mkl W H (jnG 0 ss tt))).length = H) := fun tt => picRows_len _ _ _
  obtain ⟨bE, hbE⟩ : ∃ bE : World, bE = b7 := ⟨_, rfl⟩
  have hXB := HWB.out.trans HX.out
  have r5 := (HALL.out b7 HX.out).2.1
  have c5 := (HALL.out b7 HX.out).1
  have lc5 := World.block_lt_of_cell? _ _ c5
  go_cut [15, 16] (fun u15 u16 wx => ∃ b15 aJ dJ tt, u15 = .pointer (some ⟨b15, 0, none⟩) ∧ u16 = .bool true ∧ wx.cell? ⟨b15, 0, none⟩ = some (.slice aJ H dJ) ∧ b7.Ext wx ∧ PicOf W H tt ∧ RowS wx aJ (picRows W H (mkl W H (jnG 0 ss tt))))
  case first =>
    go_region_held3 (fun w' => w'.cell? ⟨q5, 0, none⟩ = some (.slice pa H pc))
      (first | (refine World.Ext.cell (World.Ext.trans E2 ?_) c5 <;> ((repeat (first | exact World.Ext.refl _ | exact ⟨_, rfl⟩ | assumption | refine World.Ext.over ?_ _ | refine World.Ext.drewN ?_ _ | refine World.Ext.drew ?_ | refine World.Ext.alloc ?_ _ | refine World.Ext.setCell ?_ ?_ _ | (simp; done))); done)) | (refine World.Ext.cell (World.Ext.setCell E2 ?_ _) c5 <;> first | exact Nat.le_refl _ | (simp; done) | (simp; omega) | omega) | (refine World.Ext.cell (World.Ext.trans E1 ?_) c5 <;> ((repeat (first | exact World.Ext.refl _ | exact ⟨_, rfl⟩ | assumption | refine World.Ext.over ?_ _ | refine World.Ext.drewN ?_ _ | refine World.Ext.drew ?_ | refine World.Ext.alloc ?_ _ | refine World.Ext.setCell ?_ ?_ _ | (simp; done))); done)) | (refine World.Ext.cell ?_ c5 <;> ((repeat (first | exact World.Ext.refl _ | exact ⟨_, rfl⟩ | assumption | refine World.Ext.over ?_ _ | refine World.Ext.drewN ?_ _ | refine World.Ext.drew ?_ | refine World.Ext.alloc ?_ _ | refine World.Ext.setCell ?_ ?_ _ | (simp; done))); done)))
      (first
        | (go_at_call 54; go_loud (refine (HLK.out _ (RowOf.ext r5 (by repeat (first | exact World.Ext.refl _ | exact ⟨_, rfl⟩ | assumption | refine World.Ext.over ?_ _ | refine World.Ext.drewN ?_ _ | refine World.Ext.drew ?_ | refine World.Ext.alloc ?_ _ | refine World.Ext.setCell ?_ (by simp) _))) (hXB.trans (by repeat (first | exact World.Ext.refl _ | exact ⟨_, rfl⟩ | assumption | refine World.Ext.over ?_ _ | refine World.Ext.drewN ?_ _ | refine World.Ext.drew ?_ | refine World.Ext.alloc ?_ _ | refine World.Ext.setCell ?_ (by simp) _)))).mono ?_; rintro e v20 ⟨at', ct, tt, rfl, htt, hx, ho⟩; have E1 : b7.Ext v20 := World.Ext.trans (by repeat (first | exact World.Ext.refl _ | exact ⟨_, rfl⟩ | assumption | refine World.Ext.over ?_ _ | refine World.Ext.drewN ?_ _ | refine World.Ext.drew ?_ | refine World.Ext.alloc ?_ _ | refine World.Ext.setCell ?_ (by simp) _)) hx; rw [htt.2.1]; have z1 := hx.size; (first | have hA := newCellD hx | have hA := newCell1 hx | skip); have HOT := Lib.hid ho.row; clear hx ho))
        | (go_at_call 53; go_loud (refine (HJN.out tt at' ct _ htt (RowOf.ext r5 (E1.trans (by repeat (first | exact World.Ext.refl _ | exact ⟨_, rfl⟩ | assumption | refine World.Ext.over ?_ _ | refine World.Ext.drewN ?_ _ | refine World.Ext.drew ?_ | refine World.Ext.alloc ?_ _ | refine World.Ext.setCell ?_ (by simp) _)))) (RowOf.ext HOT.out (by repeat (first | exact World.Ext.refl _ | exact ⟨_, rfl⟩ | assumption | refine World.Ext.over ?_ _ | refine World.Ext.drewN ?_ _ | refine World.Ext.drew ?_ | refine World.Ext.alloc ?_ _ | refine World.Ext.setCell ?_ (by simp) _)))).mono ?_; rintro e v21 ⟨aJ, dJ, rfl, hx, ho⟩; have E2 : b7.Ext v21 := E1.trans (World.Ext.trans (by repeat (first | exact World.Ext.refl _ | exact ⟨_, rfl⟩ | assumption | refine World.Ext.over ?_ _ | refine World.Ext.drewN ?_ _ | refine World.Ext.drew ?_ | refine World.Ext.alloc ?_ _ | refine World.Ext.setCell ?_ (by simp) _)) hx); rw [picRows_len]; (first | have hA := oldCell1 hA hx | have hA := newCellD hx | have hA := newCell1 hx | skip); have HOJ := ho; clear hx ho)))
    all_goals (go_wp2_with fail; go_meet; refine ⟨_, aJ, dJ, tt, rfl, rfl, ?_, ?_, htt, ?_⟩)
    all_goals first
      | exact World.cell?_setCell_same _ _ _ hA.1
      | (simp [go_sem]; done)
      | (refine World.Ext.trans E2 ?_; ((repeat (first | exact World.Ext.refl _ | exact ⟨_, rfl⟩ | assumption | refine World.Ext.over ?_ _ | refine World.Ext.drewN ?_ _ | refine World.Ext.drew ?_ | refine World.Ext.alloc ?_ _ | refine World.Ext.setCell ?_ ?_ _ | (simp; done))); done))
      | (refine World.Ext.setCell E2 ?_ _; first | exact Nat.le_refl _ | exact E1.size | (simp; done) | (simp; omega) | omega)
      | (refine RowOf.ext HOJ.row ?_ <;> ((repeat (first | exact World.Ext.refl _ | exact ⟨_, rfl⟩ | assumption | refine World.Ext.over ?_ _ | refine World.Ext.drewN ?_ _ | refine World.Ext.drew ?_ | refine World.Ext.alloc ?_ _ | refine World.Ext.setCell ?_ ?_ _ | (simp; done))); done))
      | exact (ownS_set HOJ (by first | (simp; done) | (simp at z1 ⊢; omega) | omega) _).row
  case rest =>
    obtain ⟨wx, rfl⟩ : ∃ z : World, z = wc := ⟨_, rfl⟩
    obtain ⟨b15, aJ, dJ, tt, rfl, rfl, hc15, hx, htt, hrJ⟩ := hcut
    have HC15 := Lib.hid hc15
    have HRJ := Lib.hid hrJ
    obtain ⟨RF, hpf, hif, hof⟩ := HOF.out tt htt
    have HPF := Lib.hid hpf
    have HIF := Lib.hid hif
    have HFO := Lib.hid hof
    have HLF : Hid (RF.length = H) := hpf.2.1
    clear hc15 hrJ hpf hif hof c5 lc5 r5 hXB
    have HALL_ : Hid (∀ w', wx.Ext w' → w'.cell? ⟨q5, 0, none⟩ = some (.slice pa H pc) ∧ RowS w' pa ss ∧ w'.cell? ⟨q6, 0, none⟩ = some (.slice ao os.length co) ∧ RowP w' ao os ∧ w'.cell? ⟨q7, 0, none⟩ = some (.slice aA H dA) ∧ RowS w' aA RA ∧ w'.cell? ⟨q9, 0, none⟩ = some (.slice aB H dB) ∧ RowS w' aB RA ∧ w'.cell? ⟨q11, 0, none⟩ = some (.slice aC H dC) ∧ RowS w' aC RC ∧ w'.cell? ⟨q13, 0, none⟩ = some (.slice aD H dD) ∧ RowS w' aD RC ∧ w'.cell? ⟨b15, 0, none⟩ = some (.slice aJ H dJ) ∧ RowS w' aJ (picRows W H (mkl W H (jnG 0 ss tt))) ∧ True) := fun w' hx' => ⟨(HALL.out w' ((HX.out.trans hx).trans hx')).1, (HALL.out w' ((HX.out.trans hx).trans hx')).2.1, (HALL.out w' ((HX.out.trans hx).trans hx')).2.2.1, (HALL.out w' ((HX.out.trans hx).trans hx')).2.2.2.1, (HALL.out w' ((HX.out.trans hx).trans hx')).2.2.2.2.1, (HALL.out w' ((HX.out.trans hx).trans hx')).2.2.2.2.2.1, (HALL.out w' ((HX.out.trans hx).trans hx')).2.2.2.2.2.2.1, (HALL.out w' ((HX.out.trans hx).trans hx')).2.2.2.2.2.2.2.1, (HALL.out w' ((HX.out.trans hx).trans hx')).2.2.2.2.2.2.2.2.1, (HALL.out w' ((HX.out.trans hx).trans hx')).2.2.2.2.2.2.2.2.2.1, (HALL.out w' ((HX.out.trans hx).trans hx')).2.2.2.2.2.2.2.2.2.2.1, (HALL.out w' ((HX.out.trans hx).trans hx')).2.2.2.2.2.2.2.2.2.2.2.1, hx'.cell HC15.out, RowOf.ext HRJ.out hx', trivial⟩
    have HWB_ := Lib.hid (HWB.out.trans (HX.out.trans hx))
    have HX_ : Hid (wx.Ext wx) := .refl _
    clear hx HWB HX HALL
    have HALL := HALL_
    have HWB := HWB_
    have HX := HX_
    clear HALL_ HWB_ HX_
    have c6 := (HALL.out wx HX.out).2.2.1
    have lc6 := World.block_lt_of_cell? _ _ c6
    have c15 := (HALL.out wx HX.out).2.2.2.2.2.2.2.2.2.2.2.2.1
    have lc15 := World.block_lt_of_cell? _ _ c15
    go_wp2_with fail
    refine (HFO.out _ _ wx (HALL.out wx HX.out).2.2.2.2.2.2.2.2.2.2.2.2.2.1 (HALL.out wx HX.out).2.2.2.1).mono ?_
    rintro e v8 ⟨aF, dF, rfl, hx, ho⟩
    clear lc6 c6 lc15 c15
    have HX_ := Lib.hid (HX.out.trans hx)
    clear HX
    have HX := HX_
    clear HX_
    have HOF := Lib.hid ho.row
    clear ho
    clear hx
    rw [HLF.out]
    obtain ⟨b8, hb8⟩ : ∃ b8, b8 = v8.alloc (.cells #[.slice aF H dF] 38) := ⟨_, rfl⟩
    have hxb : v8.Ext b8 := by rw [hb8]; repeat (first | exact World.Ext.refl _ | exact ⟨_, rfl⟩ | assumption | refine World.Ext.over ?_ _ | refine World.Ext.drewN ?_ _ | refine World.Ext.drew ?_ | refine World.Ext.alloc ?_ _ | refine World.Ext.setCell ?_ (by simp) _)
    have c17_ : b8.cell? ⟨v8.heap.size, 0, none⟩ = some (.slice aF H dF) := by rw [hb8]; simp [go_sem]
    have HALL_ : Hid (∀ w', b8.Ext w' → w'.cell? ⟨q5, 0, none⟩ = some (.slice pa H pc) ∧ RowS w' pa ss ∧ w'.cell? ⟨q6, 0, none⟩ = some (.slice ao os.length co) ∧ RowP w' ao os ∧ w'.cell? ⟨q7, 0, none⟩ = some (.slice aA H dA) ∧ RowS w' aA RA ∧ w'.cell? ⟨q9, 0, none⟩ = some (.slice aB H dB) ∧ RowS w' aB RA ∧ w'.cell? ⟨q11, 0, none⟩ = some (.slice aC H dC) ∧ RowS w' aC RC ∧ w'.cell? ⟨q13, 0, none⟩ = some (.slice aD H dD) ∧ RowS w' aD RC ∧ w'.cell? ⟨b15, 0, none⟩ = some (.slice aJ H dJ) ∧ RowS w' aJ (picRows W H (mkl W H (jnG 0 ss tt))) ∧ w'.cell? ⟨v8.heap.size, 0, none⟩ = some (.slice aF H dF) ∧ RowS w' aF RF ∧ True) := fun w' hx' => ⟨(HALL.out w' ((HX.out.trans hxb).trans hx')).1, (HALL.out w' ((HX.out.trans hxb).trans hx')).2.1, (HALL.out w' ((HX.out.trans hxb).trans hx')).2.2.1, (HALL.out w' ((HX.out.trans hxb).trans hx')).2.2.2.1, (HALL.out w' ((HX.out.trans hxb).trans hx')).2.2.2.2.1, (HALL.out w' ((HX.out.trans hxb).trans hx')).2.2.2.2.2.1, (HALL.out w' ((HX.out.trans hxb).trans hx')).2.2.2.2.2.2.1, (HALL.out w' ((HX.out.trans hxb).trans hx')).2.2.2.2.2.2.2.1, (HALL.out w' ((HX.out.trans hxb).trans hx')).2.2.2.2.2.2.2.2.1, (HALL.out w' ((HX.out.trans hxb).trans hx')).2.2.2.2.2.2.2.2.2.1, (HALL.out w' ((HX.out.trans hxb).trans hx')).2.2.2.2.2.2.2.2.2.2.1, (HALL.out w' ((HX.out.trans hxb).trans hx')).2.2.2.2.2.2.2.2.2.2.2.1, (HALL.out w' ((HX.out.trans hxb).trans hx')).2.2.2.2.2.2.2.2.2.2.2.2.1, (HALL.out w' ((HX.out.trans hxb).trans hx')).2.2.2.2.2.2.2.2.2.2.2.2.2.1, hx'.cell c17_, RowOf.ext HOF.out (hxb.trans hx'), trivial⟩
    have HWB_ := Lib.hid (HWB.out.trans (HX.out.trans hxb))
    have HX_ : Hid (b8.Ext b8) := .refl _
    clear hxb c17_ HWB HX HALL
    have HALL := HALL_
    have HWB := HWB_
    have HX := HX_
    clear HALL_ HWB_ HX_
    go_upto_region 11 with fail
    rw [← hb8]
    clear hb8
    generalize v8.heap.size = q17 at *
    have c5 := (HALL.out b8 HX.out).1
    have lc5 := World.block_lt_of_cell? _ _ c5
    go_wp2_with fail
    refine (HSZ.out b8 (HALL.out b8 HX.out).2.1).mono ?_
    rintro e v9 ⟨aZ, cZ, rfl, hx, ho⟩
    clear lc5 c5
    have HX_ := Lib.hid (HX.out.trans hx)
    clear HX
    have HX := HX_
    clear HX_
    have HRZ := Lib.hid ho.row
    clear ho
    clear hx
    rw [HZ.out.1]
    have hxr : v9.Ext v9 := .refl _
    have HALL_ : Hid (∀ w', v9.Ext w' → w'.cell? ⟨q5, 0, none⟩ = some (.slice pa H pc) ∧ RowS w' pa ss ∧ w'.cell? ⟨q6, 0, none⟩ = some (.slice ao os.length co) ∧ RowP w' ao os ∧ w'.cell? ⟨q7, 0, none⟩ = some (.slice aA H dA) ∧ RowS w' aA RA ∧ w'.cell? ⟨q9, 0, none⟩ = some (.slice aB H dB) ∧ RowS w' aB RA ∧ w'.cell? ⟨q11, 0, none⟩ = some (.slice aC H dC) ∧ RowS w' aC RC ∧ w'.cell? ⟨q13, 0, none⟩ = some (.slice aD H dD) ∧ RowS w' aD RC ∧ w'.cell? ⟨b15, 0, none⟩ = some (.slice aJ H dJ) ∧ RowS w' aJ (picRows W H (mkl W H (jnG 0 ss tt))) ∧ w'.cell? ⟨q17, 0, none⟩ = some (.slice aF H dF) ∧ RowS w' aF RF ∧ RowI w' aZ Z ∧ True) := fun w' hx' => ⟨(HALL.out w' ((HX.out.trans hxr).trans hx')).1, (HALL.out w' ((HX.out.trans hxr).trans hx')).2.1, (HALL.out w' ((HX.out.trans hxr).trans hx')).2.2.1, (HALL.out w' ((HX.out.trans hxr).trans hx')).2.2.2.1, (HALL.out w' ((HX.out.trans hxr).trans hx')).2.2.2.2.1, (HALL.out w' ((HX.out.trans hxr).trans hx')).2.2.2.2.2.1, (HALL.out w' ((HX.out.trans hxr).trans hx')).2.2.2.2.2.2.1, (HALL.out w' ((HX.out.trans hxr).trans hx')).2.2.2.2.2.2.2.1, (HALL.out w' ((HX.out.trans hxr).trans hx')).2.2.2.2.2.2.2.2.1, (HALL.out w' ((HX.out.trans hxr).trans hx')).2.2.2.2.2.2.2.2.2.1, (HALL.out w' ((HX.out.trans hxr).trans hx')).2.2.2.2.2.2.2.2.2.2.1, (HALL.out w' ((HX.out.trans hxr).trans hx')).2.2.2.2.2.2.2.2.2.2.2.1, (HALL.out w' ((HX.out.trans hxr).trans hx')).2.2.2.2.2.2.2.2.2.2.2.2.1, (HALL.out w' ((HX.out.trans hxr).trans hx')).2.2.2.2.2.2.2.2.2.2.2.2.2.1, (HALL.out w' ((HX.out.trans hxr).trans hx')).2.2.2.2.2.2.2.2.2.2.2.2.2.2.1, (HALL.out w' ((HX.out.trans hxr).trans hx')).2.2.2.2.2.2.2.2.2.2.2.2.2.2.2.1, RowOf.ext HRZ.out hx', trivial⟩
    have HWB_ := Lib.hid (HWB.out.trans (HX.out.trans hxr))
    have HX_ : Hid (v9.Ext v9) := .refl _
    clear hxr HWB HX HALL
    have HALL := HALL_
    have HWB := HWB_
    have HX := HX_
    clear HALL_ HWB_ HX_
    have c7 := (HALL.out v9 HX.out).2.2.2.2.1
    have lc7 := World.block_lt_of_cell? _ _ c7
    have c9 := (HALL.out v9 HX.out).2.2.2.2.2.2.1
    have lc9 := World.block_lt_of_cell? _ _ c9
    go_wp2_with fail
    refine (HSM.out RA _ _ _ _ v9 HPA.out (HALL.out v9 HX.out).2.2.2.2.2.1 (HALL.out v9 HX.out).2.2.2.2.2.2.2.1).mono ?_
    rintro e v10 ⟨rfl, hx⟩
    clear lc7 c7 lc9 c9
    have HX_ := Lib.hid (HX.out.trans hx)
    clear HX
    have HX := HX_
    clear HX_
    clear hx
    have c11 := (HALL.out v10 HX.out).2.2.2.2.2.2.2.2.1
    have lc11 := World.block_lt_of_cell? _ _ c11
    have c13 := (HALL.out v10 HX.out).2.2.2.2.2.2.2.2.2.2.1
    have lc13 := World.block_lt_of_cell? _ _ c13
    go_wp2_with fail
    refine (HSM.out RC _ _ _ _ v10 HPC.out (HALL.out v10 HX.out).2.2.2.2.2.2.2.2.2.1 (HALL.out v10 HX.out).2.2.2.2.2.2.2.2.2.2.2.1).mono ?_
    rintro e v11 ⟨rfl, hx⟩
    clear lc11 c11 lc13 c13
    have HX_ := Lib.hid (HX.out.trans hx)
    clear HX
    have HX := HX_
    clear HX_
    clear hx
    have c7 := (HALL.out v11 HX.out).2.2.2.2.1
    have lc7 := World.block_lt_of_cell? _ _ c7
    have c5 := (HALL.out v11 HX.out).1
    have lc5 := World.block_lt_of_cell? _ _ c5
    go_wp2_with fail
    refine (HIS.out RA ss _ _ _ _ v11 HPA.out HPIC.out HIA.out (HALL.out v11 HX.out).2.2.2.2.2.1 (HALL.out v11 HX.out).2.1).mono ?_
    rintro e v12 ⟨rfl, hx⟩
    clear lc7 c7 lc5 c5
    have HX_ := Lib.hid (HX.out.trans hx)
    clear HX
    have HX := HX_
    clear HX_
    clear hx
    have c5 := (HALL.out v12 HX.out).1
    have lc5 := World.block_lt_of_cell? _ _ c5
    have c11 := (HALL.out v12 HX.out).2.2.2.2.2.2.2.2.1
    have lc11 := World.block_lt_of_cell? _ _ c11
    go_wp2_with fail
    refine (HIS.out ss RC _ _ _ _ v12 HPIC.out HPC.out HIC.out (HALL.out v12 HX.out).2.1 (HALL.out v12 HX.out).2.2.2.2.2.2.2.2.2.1).mono ?_
    rintro e v13 ⟨rfl, hx⟩
    clear lc5 c5 lc11 c11
    have HX_ := Lib.hid (HX.out.trans hx)
    clear HX
    have HX := HX_
    clear HX_
    clear hx
    have c17 := (HALL.out v13 HX.out).2.2.2.2.2.2.2.2.2.2.2.2.2.2.1
    have lc17 := World.block_lt_of_cell? _ _ c17
    have c7 := (HALL.out v13 HX.out).2.2.2.2.1
    have lc7 := World.block_lt_of_cell? _ _ c7
    go_wp2_with fail
    refine (HIS.out RF RA _ _ _ _ v13 HPF.out HPA.out HIF.out (HALL.out v13 HX.out).2.2.2.2.2.2.2.2.2.2.2.2.2.2.2.1 (HALL.out v13 HX.out).2.2.2.2.2.1).mono ?_
    rintro e v14 ⟨rfl, hx⟩
    clear lc17 c17 lc7 c7
    have HX_ := Lib.hid (HX.out.trans hx)
    clear HX
    have HX := HX_
    clear HX_
    clear hx
    have c5 := (HALL.out v14 HX.out).1
    have lc5 := World.block_lt_of_cell? _ _ c5
    go_wp2_with fail
    refine (HCT.out v14 (HALL.out v14 HX.out).2.1).mono ?_
    rintro e v15 ⟨rfl, hx⟩
    clear lc5 c5
    have HX_ := Lib.hid (HX.out.trans hx)
    clear HX
    have HX := HX_
    clear HX_
    clear hx
    have HE0 : Hid (∀ w', v9.Ext w' → w.Ext w') := fun w' h => HWB.out.trans h
    have HX0 := Lib.hid HX.out
    go_wp2
    go_loopw [23] (fun i wr => ∃ k : Nat, 1 ≤ k ∧ k ≤ 5 ∧ i = .int .i64 k ∧ Hid (v9.Ext wr)) (fun i _ => 5 - (intOf i).toNat)
    case atStart => exact ⟨1, by omega, by omega, rfl, HX⟩
    case round =>
      clear HX
      obtain ⟨k, hk1, hk, rfl, HX⟩ := hrel
      obtain ⟨wk, rfl⟩ : ∃ wk : World, wk = wr := ⟨_, rfl⟩
      have hrz := (HALL.out wk HX.out).2.2.2.2.2.2.2.2.2.2.2.2.2.2.2.2.1
      by_cases hlt : k < 5
      · have hlt' : (k : Int) < 5 := by omega
        obtain ⟨j, rfl⟩ : ∃ j, k = j + 1 := ⟨k - 1, by omega⟩
        have hk0 : (0 : Int) ≤ ((j + 1 : Nat) : Int) := by omega
        have hj0 : (0 : Int) ≤ (j : Int) := by omega
        have hj5 : (j : Int) < 5 := by omega
        obtain ⟨bz, oz, rfl, e0⟩ := hrz (j + 1) (by rw [HZ.out.1]; omega)
        obtain ⟨bz', oz', ez, e1⟩ := hrz j (by rw [HZ.out.1]; omega)
        simp only [Option.some.injEq, Addr.mk.injEq, and_true] at ez
        obtain ⟨rfl, rfl⟩ := ez
        rw [HZ.out.2.1 _ (by omega)] at e0 e1
        obtain ⟨m1, m2⟩ := HZ.out.2.2 (j + 1) (by omega)
        have m3 := (HZ.out.2.2 (j + 1 + 1) (by omega)).2
        have hw1 : IntKind.i64.wrap (((j + 1 : Nat) : Int) - 1) = (j : Int) := by rw [IntWalk.i64_in _ (by omega)]; omega
        generalize zc (j + 1 + 1) = z1 at *
        generalize zc (j + 1) = z0 at *
        have n1 : decide (z0 < z1) = false := decide_eq_false (by omega)
        have n2 : ¬ z1 < 0 := by omega
        clear hrz m1 m2 m3
        go_wp2_with fail
        refine wp_region_over_lit (by kernel_rfl) (by kernel_rfl) ?_; (repeat (go_big_quiet_step (fail))); refine wpQuiet_nil ?_; rintro _ ⟨x1, rfl⟩
        have HX2 : Hid (v9.Ext (wk.over x1)) := HX.out.trans ⟨x1, rfl⟩
        clear e0 e1 HX
        go_wp2
        go_roundw
        case rel => exact ⟨j + 1 + 1, by omega, by omega, by go_num, HX2⟩
        case measure => simp [intOf]; omega
      · obtain ⟨bz, oz, rfl, e0⟩ := hrz 0 (by rw [HZ.out.1]; omega)
        rw [HZ.out.2.1 _ (by omega), Nat.add_zero] at e0
        rw [Nat.zero_add] at e0
        generalize zc 1 = z0 at *
        have HFIN := Lib.hid (HE0.out _ HX.out)
        clear hrz HX
        go_wp2
        go_ret
        exact ⟨by simp, HFIN.out⟩
end Go.Proofs.Ythfggdmbegofoaa
