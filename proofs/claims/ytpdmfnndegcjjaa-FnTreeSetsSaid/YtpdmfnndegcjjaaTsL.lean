/- FnTreeSets' walk. -/
import Derived.Test.YtpdmfnndegcjjaaTurF
import Derived.Test.YtpdmfnndegcjjaaShfF
import Derived.Test.YtpdmfnndegcjjaaGenQ
namespace Go.Proofs.Ytpdmfnndegcjjaa
open Go Go.RowKit
def AtRet2 (w : World) (n : Nat) (e : Ending) (w' : World) : Prop := ∃ r : Nat, e = .returned (.int .i64 r) ∧ w.Ext w' ∧ r < n
def trnI (m : Nat) (f : Nat → Nat → Bool) : Nat → Nat → Nat → Bool
  | 0 => f
  | k + 1 => trnF 3 m (trnI m f k)
theorem joinPic_m {k m : Nat} {ss tt : List ByteArray} {f g : Nat → Nat → Bool} (hm1 : 1 ≤ m) (hm16 : m ≤ 16) (hs : PicOf m m ss) (ht : PicOf m m tt) (hf : ∀ i j, i < m → j < m → (picL ss).getD (j * m + i) false = f i j) (hg : ∀ i j, i < m → j < m → (picL tt).getD (j * m + i) false = g i j) :
    likeP ss tt = true ∧ picRows (picW ss) ss.length (mkl (picW ss) ss.length (jnG k ss tt)) = picRows m m (mkl m m fun i j => joinB k (f i j) (g i j)) ∧ PicOf m m (picRows m m (mkl m m fun i j => joinB k (f i j) (g i j))) ∧
      ∀ i j, i < m → j < m → (picL (picRows m m (mkl m m fun i j => joinB k (f i j) (g i j)))).getD (j * m + i) false = joinB k (f i j) (g i j) := by
  obtain ⟨h1, h2, h3⟩ := hs
  obtain ⟨k1, k2, k3⟩ := ht
  have hl : (mkl m m fun i j => joinB k (f i j) (g i j)).length = m * m := mkl_len _ _ _
  refine ⟨?_, ?_, ⟨picOk_rows hm1 hm16 hm1 hm16 hl, picRows_len _ _ _, picW_rows (by omega) hl⟩, fun i j hi hj => by rw [picL_rows hl, mkl_at _ _ _ _ _ hi hj]⟩
  · unfold likeP
    rw [h1, k1, h2, h3, k2, k3]
    simp
  · rw [h2, h3]
    congr 1
    refine mkl_eq fun i j hi hj => ?_
    unfold jnG
    rw [h2, h3, k2, k3, pxl_at _ _ _ _ _ hi hj, pxl_at _ _ _ _ _ hi hj, hf i j hi hj, hg i j hi hj]
set_option maxRecDepth 5000 in
set_option maxHeartbeats 8000000 in
theorem fnTreeSets_any (a : Option Addr) (c : Nat) (zs : List Int) (a2 : Option Addr) (c2 : Nat) (ys : List Int) (w : World) (h : CodeAt w a zs) (h2 : CodeAt w a2 ys) :
    Calls Try.prog 9 #[.slice a zs.length c, .slice a2 ys.length c2] w fun e w' => e = .returned (.bool true) ∧ w.Ext w' := by
  have HLO := Lib.hid (longR_any a zs.length c a2 ys.length c2 w h.2.2 h2.2.2)
  have HP := Lib.hid (fun w' (hx : w.Ext w') => r8Square_any a c zs w' (h.ext hx))
  have HQ : Hid (∀ (S : Nat) w', 1 ≤ S → S ≤ 16 → w.Ext w' → Calls Try.prog 62 #[.slice a2 ys.length c2, .int .i64 S] w' (NewPic w' (PicOf S S))) := fun S w' h1 h3 hx => r8Sized_any a2 c2 ys S w' h1 h3 (h2.ext hx)
  have HAT : Hid (∀ (k : Nat) w', k ≤ 1000 → w.Ext w' → Calls Try.prog 54 #[.slice a2 ys.length c2, .int .i64 k, .int .i64 4] w' (AtRet2 w' 4)) := fun k w' hk hx => (r8At_any a2 c2 ys k 4 w' hk (h2.ext hx)).mono fun e w'' hq => by
    obtain ⟨r, h1, h3, h4, h5⟩ := hq
    obtain ⟨r, rfl⟩ := Int.eq_ofNat_of_zero_le h4
    exact ⟨r, h1, h3, by omega⟩
  have HA0 := Lib.hid (fun w' (hx : w.Ext w') => HAT.out 40 w' (by omega) hx)
  have HA1 := Lib.hid (fun w' (hx : w.Ext w') => HAT.out 41 w' (by omega) hx)
  clear h h2 HAT
  go_enter Try.func9, Try.ntmps9
  have HWB : Hid (w.Ext w) := .refl _
  have HX : Hid (w.Ext w) := .refl _
  go_wp2_with fail
  refine (HLO.out).mono ?_
  rintro e v1 ⟨t, rfl, hx, -⟩
  have HX_ := Lib.hid (HX.out.trans hx)
  clear HX
  have HX := HX_
  clear HX_
  clear hx
  cases t
  rotate_left
  · go_wp2
    go_ret
    exact ⟨rfl, HX.out⟩
  go_wp2_with fail
  refine (HP.out v1 (HWB.out.trans HX.out)).mono ?_
  rintro e v2 ⟨pa, pc, ss, rfl, hpic, hx, hrow⟩
  have HX_ := Lib.hid (HX.out.trans hx)
  clear HX
  have HX := HX_
  clear HX_
  obtain ⟨n, hn4, hsq⟩ := hpic
  obtain ⟨m, hm⟩ : ∃ m, m = 2 ^ n := ⟨_, rfl⟩
  rw [← hm] at hsq
  have hm16 : m ≤ 16 := by rw [hm]; exact Nat.pow_le_pow_right (by decide) hn4
  have hm1 : 1 ≤ m := by rw [hm]; exact Nat.two_pow_pos n
  rw [hsq.2.1]
  have HM : Hid (m = 2 ^ n) := hm
  have HPIC := Lib.hid hsq
  have HROW := Lib.hid hrow.row
  clear hsq hrow hm HP
  clear hx
  obtain ⟨b2, hb2⟩ : ∃ b2, b2 = v2.alloc (.cells #[.slice pa m pc] 26) := ⟨_, rfl⟩
  have hxb : v2.Ext b2 := by rw [hb2]; repeat (first | exact World.Ext.refl _ | exact ⟨_, rfl⟩ | assumption | refine World.Ext.over ?_ _ | refine World.Ext.drewN ?_ _ | refine World.Ext.drew ?_ | refine World.Ext.alloc ?_ _ | refine World.Ext.setCell ?_ (by simp) _)
  have c5_ : b2.cell? ⟨v2.heap.size, 0, none⟩ = some (.slice pa m pc) := by rw [hb2]; simp [go_sem]
  have HALL_ : Hid (∀ w', b2.Ext w' → w'.cell? ⟨v2.heap.size, 0, none⟩ = some (.slice pa m pc) ∧ RowS w' pa ss ∧ True) := fun w' hx' => ⟨hx'.cell c5_, RowOf.ext HROW.out (hxb.trans hx'), trivial⟩
  have HWB_ := Lib.hid (HWB.out.trans (HX.out.trans hxb))
  have HX_ : Hid (b2.Ext b2) := .refl _
  clear hxb c5_ HWB HX
  have HALL := HALL_
  have HWB := HWB_
  have HX := HX_
  clear HALL_ HWB_ HX_
  clear HROW
  go_upto_region 4 with fail
  rw [← hb2]
  clear hb2
  generalize v2.heap.size = q5 at *
  have c5 := (HALL.out b2 HX.out).1
  have lc5 := World.block_lt_of_cell? _ _ c5
  go_wp2_with fail
  refine (HQ.out m b2 hm1 hm16 (HWB.out.trans HX.out)).mono ?_
  rintro e v3 ⟨pb, pc2, tt, rfl, hpic2, hx, hrow2⟩
  clear lc5 c5
  have HX_ := Lib.hid (HX.out.trans hx)
  clear HX
  have HX := HX_
  clear HX_
  rw [hpic2.2.1]
  have HPIC2 := Lib.hid hpic2
  have HROW2 := Lib.hid hrow2.row
  clear hpic2 hrow2 HQ
  clear hx
  obtain ⟨b3, hb3⟩ : ∃ b3, b3 = v3.alloc (.cells #[.slice pb m pc2] 26) := ⟨_, rfl⟩
  have hxb : v3.Ext b3 := by rw [hb3]; repeat (first | exact World.Ext.refl _ | exact ⟨_, rfl⟩ | assumption | refine World.Ext.over ?_ _ | refine World.Ext.drewN ?_ _ | refine World.Ext.drew ?_ | refine World.Ext.alloc ?_ _ | refine World.Ext.setCell ?_ (by simp) _)
  have c6_ : b3.cell? ⟨v3.heap.size, 0, none⟩ = some (.slice pb m pc2) := by rw [hb3]; simp [go_sem]
  have HALL_ : Hid (∀ w', b3.Ext w' → w'.cell? ⟨q5, 0, none⟩ = some (.slice pa m pc) ∧ RowS w' pa ss ∧ w'.cell? ⟨v3.heap.size, 0, none⟩ = some (.slice pb m pc2) ∧ RowS w' pb tt ∧ True) := fun w' hx' => ⟨(HALL.out w' ((HX.out.trans hxb).trans hx')).1, (HALL.out w' ((HX.out.trans hxb).trans hx')).2.1, hx'.cell c6_, RowOf.ext HROW2.out (hxb.trans hx'), trivial⟩
  have HWB_ := Lib.hid (HWB.out.trans (HX.out.trans hxb))
  have HX_ : Hid (b3.Ext b3) := .refl _
  clear hxb c6_ HWB HX HALL
  have HALL := HALL_
  have HWB := HWB_
  have HX := HX_
  clear HALL_ HWB_ HX_
  clear HROW2
  go_upto_region 5 with fail
  rw [← hb3]
  clear hb3
  generalize v3.heap.size = q6 at *
  go_wp2_with fail
  refine (HA0.out b3 (HWB.out.trans HX.out)).mono ?_
  rintro e v4 ⟨op, rfl, hx, hop⟩
  have HX_ := Lib.hid (HX.out.trans hx)
  clear HX
  have HX := HX_
  clear HX_
  clear HA0
  clear hx
  go_wp2_with fail
  refine (HA1.out v4 (HWB.out.trans HX.out)).mono ?_
  rintro e v5 ⟨kd, rfl, hx, hkd⟩
  have HX_ := Lib.hid (HX.out.trans hx)
  clear HX
  have HX := HX_
  clear HX_
  clear HA1
  clear hx
  obtain ⟨f, hf⟩ : ∃ f : Nat → Nat → Bool, f = fun i j => (picL ss).getD (j * m + i) false := ⟨_, rfl⟩
  obtain ⟨g, hg⟩ : ∃ g : Nat → Nat → Bool, g = fun i j => (picL tt).getD (j * m + i) false := ⟨_, rfl⟩
  have HF : Hid (∀ i j, i < m → j < m → (picL ss).getD (j * m + i) false = f i j) := fun i j _ _ => by rw [hf]
  have HG : Hid (∀ i j, i < m → j < m → (picL tt).getD (j * m + i) false = g i j) := fun i j _ _ => by rw [hg]
  have HTA := Lib.hid (fun w' (h : RowS w' pa ss) => treeOf_m pa pc ss n m f w' HM.out hn4 HPIC.out HF.out h)
  have HTB := Lib.hid (fun w' (h : RowS w' pb tt) => treeOf_m pb pc2 tt n m g w' HM.out hn4 HPIC2.out HG.out h)
  have HCM := Lib.hid (fun w' => combine_m op n m f g w' (by omega) HM.out hn4)
  obtain ⟨j1, j2, j3, j4⟩ := joinPic_m (k := op) hm1 hm16 HPIC.out HPIC2.out HF.out HG.out
  have HJN : Hid (∀ w', RowS w' pa ss → RowS w' pb tt → Calls Try.prog 20 #[.int .i64 op, .agg #[.slice pa m pc], .agg #[.slice pb m pc2]] w' (PicRet2 w' (picRows m m (mkl m m fun i j => joinB op (f i j) (g i j))) true)) := fun w' h1 h2 => by
    have hb : ∀ {s : List ByteArray}, PicOf m m s → PicBnd s := fun {s} hs => ⟨by rw [hs.2.1]; omega, fun y => by
      by_cases hy : y < s.length
      · rw [(picOk_spec hs.1).2.2.2.2.1.2 y hy, hs.2.2]; omega
      · rw [List.getD_eq_getElem?_getD, List.getElem?_eq_none (by omega)]; simp⟩
    have h := implJoin_any (op : Int) pa pc ss pb pc2 tt w' (inB_true.2 (by omega)) j1 (hb HPIC.out) (hb HPIC2.out) h1 h2
    rw [Int.toNat_natCast, j2, HPIC.out.2.1, HPIC2.out.2.1] at h
    exact h
  have HTD := Lib.hid (fun w' pr cr (h : RowS w' pr (picRows m m (mkl m m fun i j => joinB op (f i j) (g i j)))) => treeOf_m pr cr _ n m (fun i j => joinB op (f i j) (g i j)) w' HM.out hn4 j3 j4 h)
  have HJL : Hid ((picRows m m (mkl m m fun i j => joinB op (f i j) (g i j))).length = m) := picRows_len _ _ _
  have HIV := Lib.hid (fun w' => invert_m n m f w' HM.out hn4)
  have HTU := Lib.hid (fun w' => turn_m kd n m f w' (by omega) HM.out hn4)
  have HTP : Hid (∀ w', RowS w' pa ss → Calls Try.prog 66 #[.agg #[.slice pa m pc], .int .i64 kd] w' (PicRet2 w' (picRows m m (mkl m m (trnF kd m f))) true)) := fun w' h1 => by
    have h := turnPicture_any pa pc ss m (kd : Int) w' hm16 hm1 (inB_true.2 (by omega)) HPIC.out.1 HPIC.out.2.2 HPIC.out.2.1 h1
    rw [Int.toNat_natCast, mkl_eq (f := trnF kd m (lF m (picL ss))) (g := trnF kd m f) fun i j hi hj => trnF_congr HF.out hi hj] at h
    exact h
  have HUL : Hid ((picRows m m (mkl m m (trnF kd m f))).length = m) := picRows_len _ _ _
  have HTV : Hid (∀ w' pr cr, RowS w' pr (picRows m m (mkl m m (trnF kd m f))) → Calls Try.prog 57 #[.agg #[.slice pr m cr]] w' fun e w'' => e = .returned (.tuple #[.agg #[.int .i64 m, .string (txG n (trnF kd m f))], .bool true]) ∧ w'.Ext w'') := fun w' pr cr h => by
    have hl : (mkl m m (trnF kd m f)).length = m * m := mkl_len _ _ _
    exact treeOf_m pr cr _ n m (trnF kd m f) w' HM.out hn4 ⟨picOk_rows hm1 hm16 hm1 hm16 hl, picRows_len _ _ _, picW_rows (by omega) hl⟩ (fun i j hi hj => by rw [picL_rows hl, mkl_at _ _ _ _ _ hi hj]) h
  have HL1 := Lib.hid (fun w' => leaves_m n m f w' HM.out hn4)
  have HL2 := Lib.hid (fun w' => leaves_m n m (fun i j => !f i j) w' HM.out hn4)
  have HL3 := Lib.hid (fun w' => leaves_m n m (trnF kd m f) w' HM.out hn4)
  have HN1 : Hid ((lvM ((qtr f n 0 0).lvs n 0 0 ⟨#[]⟩)).length = lcN f n 0 0) := by show _ = _; rw [lvM_len]; exact qtr_lcN _ _ _ _ _ _ _
  have HN2 : Hid ((lvM ((qtr (fun i j => !f i j) n 0 0).lvs n 0 0 ⟨#[]⟩)).length = lcN f n 0 0) := by show _ = _; rw [lvM_len, qtr_lcN]; exact lcN_not _ _ _ _
  have HN3 : Hid ((lvM ((qtr (trnF kd m f) n 0 0).lvs n 0 0 ⟨#[]⟩)).length = lcN f n 0 0) := by show _ = _; rw [lvM_len, qtr_lcN, HM.out]; exact lcN_turn _ _ _ (by omega)
  have hlc : 1 ≤ lcN f n 0 0 ∧ lcN f n 0 0 ≤ 256 := by
    rw [← qtr_lcN f n 0 0 0 0 ⟨#[]⟩]
    have h := lvs_len (qtr f n 0 0) n 0 0 ⟨#[]⟩ (qtr_fits _ _ _ _)
    exact ⟨h.1, Nat.le_trans h.2 (by match n, hn4 with | 0, _ => decide | 1, _ => decide | 2, _ => decide | 3, _ => decide | 4, _ => decide)⟩
  obtain ⟨tN, htN⟩ : ∃ tN : Nat → ByteArray, tN = fun k => txG n (trnI m f k) := ⟨_, rfl⟩
  have HT0 : Hid (tN 0 = txG n f) := by rw [htN]; exact rfl
  have HT4 : Hid (tN 4 = txG n f) := by
    rw [htN]
    exact txG_congr fun i j hi hj => by rw [← HM.out] at hi hj; exact turn_four hi hj
  have HTT : Hid (∀ k w', Calls Try.prog 65 #[.agg #[.int .i64 m, .string (tN k)], .int .i64 3] w' fun e w'' => e = .returned (.tuple #[.agg #[.int .i64 m, .string (tN (k + 1))], .bool true]) ∧ w'.Ext w'') := fun k w' => by
    rw [htN]
    exact turn_m 3 n m (trnI m f k) w' (by decide) HM.out hn4
  have HIW : Hid (∀ w', Calls Try.prog 64 #[.agg #[.int .i64 m, .string (txG n fun i j => !f i j)]] w' fun e w'' => e = .returned (.tuple #[.agg #[.int .i64 m, .string (txG n f)], .bool true]) ∧ w'.Ext w'') := fun w' => by
    have h := invert_m n m (fun i j => !f i j) w' HM.out hn4
    rw [txG_congr (n := n) (f := fun i j => !!f i j) (g := f) fun i j _ _ => by simp] at h
    exact h
  clear hf hg HF HG j1 j2 j3 j4 htN HM HPIC HPIC2
  generalize lvM ((qtr f n 0 0).lvs n 0 0 ⟨#[]⟩) = M1 at *
  generalize lvM ((qtr (fun i j => !f i j) n 0 0).lvs n 0 0 ⟨#[]⟩) = M2 at *
  generalize lvM ((qtr (trnF kd m f) n 0 0).lvs n 0 0 ⟨#[]⟩) = M3 at *
  generalize lcN f n 0 0 = nl at *
  generalize picRows m m (mkl m m fun i j => joinB op (f i j) (g i j)) = RJ at *
  generalize picRows m m (mkl m m (trnF kd m f)) = RU at *
  generalize (txG n fun i j => joinB op (f i j) (g i j)) = tC at *
  generalize (txG n fun i j => !f i j) = tE at *
  generalize txG n (trnF kd m f) = tF at *
  generalize txG n f = tA at *
  generalize txG n g = tB at *
  have c5 := (HALL.out v5 HX.out).1
  have lc5 := World.block_lt_of_cell? _ _ c5
  go_wp2_with fail
  refine (HTA.out v5 (HALL.out v5 HX.out).2.1).mono ?_
  rintro e v6 ⟨rfl, hx⟩
  clear lc5 c5
  have HX_ := Lib.hid (HX.out.trans hx)
  clear HX
  have HX := HX_
  clear HX_
  clear HTA
  clear hx
  obtain ⟨b6, hb6⟩ : ∃ b6, b6 = v6.alloc (.cells #[.int .i64 m, .string tA] 72) := ⟨_, rfl⟩
  have hxb : v6.Ext b6 := by rw [hb6]; repeat (first | exact World.Ext.refl _ | exact ⟨_, rfl⟩ | assumption | refine World.Ext.over ?_ _ | refine World.Ext.drewN ?_ _ | refine World.Ext.drew ?_ | refine World.Ext.alloc ?_ _ | refine World.Ext.setCell ?_ (by simp) _)
  have c9a_ : b6.cell? ⟨v6.heap.size, 0, none⟩ = some (.int .i64 m) := by rw [hb6]; simp [go_sem]
  have c9b_ : b6.cell? ⟨v6.heap.size, 1, none⟩ = some (.string tA) := by rw [hb6]; simp [go_sem]
  have HALL_ : Hid (∀ w', b6.Ext w' → w'.cell? ⟨q5, 0, none⟩ = some (.slice pa m pc) ∧ RowS w' pa ss ∧ w'.cell? ⟨q6, 0, none⟩ = some (.slice pb m pc2) ∧ RowS w' pb tt ∧ w'.cell? ⟨v6.heap.size, 0, none⟩ = some (.int .i64 m) ∧ w'.cell? ⟨v6.heap.size, 1, none⟩ = some (.string tA) ∧ True) := fun w' hx' => ⟨(HALL.out w' ((HX.out.trans hxb).trans hx')).1, (HALL.out w' ((HX.out.trans hxb).trans hx')).2.1, (HALL.out w' ((HX.out.trans hxb).trans hx')).2.2.1, (HALL.out w' ((HX.out.trans hxb).trans hx')).2.2.2.1, hx'.cell c9a_, hx'.cell c9b_, trivial⟩
  have HWB_ := Lib.hid (HWB.out.trans (HX.out.trans hxb))
  have HX_ : Hid (b6.Ext b6) := .refl _
  clear hxb c9a_ c9b_ HWB HX HALL
  have HALL := HALL_
  have HWB := HWB_
  have HX := HX_
  clear HALL_ HWB_ HX_
  go_upto_region 8 with fail
  rw [← hb6]
  clear hb6
  generalize v6.heap.size = q9 at *
  have c6 := (HALL.out b6 HX.out).2.2.1
  have lc6 := World.block_lt_of_cell? _ _ c6
  go_wp2_with fail
  refine (HTB.out b6 (HALL.out b6 HX.out).2.2.2.1).mono ?_
  rintro e v7 ⟨rfl, hx⟩
  clear lc6 c6
  have HX_ := Lib.hid (HX.out.trans hx)
  clear HX
  have HX := HX_
  clear HX_
  clear HTB
  clear hx
  obtain ⟨b7, hb7⟩ : ∃ b7, b7 = v7.alloc (.cells #[.int .i64 m, .string tB] 72) := ⟨_, rfl⟩
  have hxb : v7.Ext b7 := by rw [hb7]; repeat (first | exact World.Ext.refl _ | exact ⟨_, rfl⟩ | assumption | refine World.Ext.over ?_ _ | refine World.Ext.drewN ?_ _ | refine World.Ext.drew ?_ | refine World.Ext.alloc ?_ _ | refine World.Ext.setCell ?_ (by simp) _)
  have c11a_ : b7.cell? ⟨v7.heap.size, 0, none⟩ = some (.int .i64 m) := by rw [hb7]; simp [go_sem]
  have c11b_ : b7.cell? ⟨v7.heap.size, 1, none⟩ = some (.string tB) := by rw [hb7]; simp [go_sem]
  have HALL_ : Hid (∀ w', b7.Ext w' → w'.cell? ⟨q5, 0, none⟩ = some (.slice pa m pc) ∧ RowS w' pa ss ∧ w'.cell? ⟨q6, 0, none⟩ = some (.slice pb m pc2) ∧ RowS w' pb tt ∧ w'.cell? ⟨q9, 0, none⟩ = some (.int .i64 m) ∧ w'.cell? ⟨q9, 1, none⟩ = some (.string tA) ∧ w'.cell? ⟨v7.heap.size, 0, none⟩ = some (.int .i64 m) ∧ w'.cell? ⟨v7.heap.size, 1, none⟩ = some (.string tB) ∧ True) := fun w' hx' => ⟨(HALL.out w' ((HX.out.trans hxb).trans hx')).1, (HALL.out w' ((HX.out.trans hxb).trans hx')).2.1, (HALL.out w' ((HX.out.trans hxb).trans hx')).2.2.1, (HALL.out w' ((HX.out.trans hxb).trans hx')).2.2.2.1, (HALL.out w' ((HX.out.trans hxb).trans hx')).2.2.2.2.1, (HALL.out w' ((HX.out.trans hxb).trans hx')).2.2.2.2.2.1, hx'.cell c11a_, hx'.cell c11b_, trivial⟩
  have HWB_ := Lib.hid (HWB.out.trans (HX.out.trans hxb))
  have HX_ : Hid (b7.Ext b7) := .refl _
  clear hxb c11a_ c11b_ HWB HX HALL
  have HALL := HALL_
  have HWB := HWB_
  have HX := HX_
  clear HALL_ HWB_ HX_
  go_upto_region 9 with fail
  rw [← hb7]
  clear hb7
  generalize v7.heap.size = q11 at *
  have c9a := (HALL.out b7 HX.out).2.2.2.2.1
  have lc9a := World.block_lt_of_cell? _ _ c9a
  have c9b := (HALL.out b7 HX.out).2.2.2.2.2.1
  have lc9b := World.block_lt_of_cell? _ _ c9b
  have c11a := (HALL.out b7 HX.out).2.2.2.2.2.2.1
  have lc11a := World.block_lt_of_cell? _ _ c11a
  have c11b := (HALL.out b7 HX.out).2.2.2.2.2.2.2.1
  have lc11b := World.block_lt_of_cell? _ _ c11b
  go_wp2_with fail
  refine (HCM.out b7).mono ?_
  rintro e v8 ⟨rfl, hx⟩
  clear lc9a c9a lc9b c9b lc11a c11a lc11b c11b
  have HX_ := Lib.hid (HX.out.trans hx)
  clear HX
  have HX := HX_
  clear HX_
  clear HCM
  clear hx
  obtain ⟨b8, hb8⟩ : ∃ b8, b8 = v8.alloc (.cells #[.int .i64 m, .string tC] 72) := ⟨_, rfl⟩
  have hxb : v8.Ext b8 := by rw [hb8]; repeat (first | exact World.Ext.refl _ | exact ⟨_, rfl⟩ | assumption | refine World.Ext.over ?_ _ | refine World.Ext.drewN ?_ _ | refine World.Ext.drew ?_ | refine World.Ext.alloc ?_ _ | refine World.Ext.setCell ?_ (by simp) _)
  have c13a_ : b8.cell? ⟨v8.heap.size, 0, none⟩ = some (.int .i64 m) := by rw [hb8]; simp [go_sem]
  have c13b_ : b8.cell? ⟨v8.heap.size, 1, none⟩ = some (.string tC) := by rw [hb8]; simp [go_sem]
  have HALL_ : Hid (∀ w', b8.Ext w' → w'.cell? ⟨q5, 0, none⟩ = some (.slice pa m pc) ∧ RowS w' pa ss ∧ w'.cell? ⟨q6, 0, none⟩ = some (.slice pb m pc2) ∧ RowS w' pb tt ∧ w'.cell? ⟨q9, 0, none⟩ = some (.int .i64 m) ∧ w'.cell? ⟨q9, 1, none⟩ = some (.string tA) ∧ w'.cell? ⟨q11, 0, none⟩ = some (.int .i64 m) ∧ w'.cell? ⟨q11, 1, none⟩ = some (.string tB) ∧ w'.cell? ⟨v8.heap.size, 0, none⟩ = some (.int .i64 m) ∧ w'.cell? ⟨v8.heap.size, 1, none⟩ = some (.string tC) ∧ True) := fun w' hx' => ⟨(HALL.out w' ((HX.out.trans hxb).trans hx')).1, (HALL.out w' ((HX.out.trans hxb).trans hx')).2.1, (HALL.out w' ((HX.out.trans hxb).trans hx')).2.2.1, (HALL.out w' ((HX.out.trans hxb).trans hx')).2.2.2.1, (HALL.out w' ((HX.out.trans hxb).trans hx')).2.2.2.2.1, (HALL.out w' ((HX.out.trans hxb).trans hx')).2.2.2.2.2.1, (HALL.out w' ((HX.out.trans hxb).trans hx')).2.2.2.2.2.2.1, (HALL.out w' ((HX.out.trans hxb).trans hx')).2.2.2.2.2.2.2.1, hx'.cell c13a_, hx'.cell c13b_, trivial⟩
  have HWB_ := Lib.hid (HWB.out.trans (HX.out.trans hxb))
  have HX_ : Hid (b8.Ext b8) := .refl _
  clear hxb c13a_ c13b_ HWB HX HALL
  have HALL := HALL_
  have HWB := HWB_
  have HX := HX_
  clear HALL_ HWB_ HX_
  go_upto_region 10 with fail
  rw [← hb8]
  clear hb8
  generalize v8.heap.size = q13 at *
  have c5 := (HALL.out b8 HX.out).1
  have lc5 := World.block_lt_of_cell? _ _ c5
  have c6 := (HALL.out b8 HX.out).2.2.1
  have lc6 := World.block_lt_of_cell? _ _ c6
  go_wp2_with fail
  refine (HJN.out b8 (HALL.out b8 HX.out).2.1 (HALL.out b8 HX.out).2.2.2.1).mono ?_
  rintro e v9 ⟨pj, cj, rfl, hx, ho⟩
  clear lc5 c5 lc6 c6
  have HX_ := Lib.hid (HX.out.trans hx)
  clear HX
  have HX := HX_
  clear HX_
  rw [HJL.out]
  have HO := Lib.hid ho.row
  clear ho HJN HJL
  clear hx
  obtain ⟨b9, hb9⟩ : ∃ b9, b9 = v9.alloc (.cells #[.slice pj m cj] 26) := ⟨_, rfl⟩
  have hxb : v9.Ext b9 := by rw [hb9]; repeat (first | exact World.Ext.refl _ | exact ⟨_, rfl⟩ | assumption | refine World.Ext.over ?_ _ | refine World.Ext.drewN ?_ _ | refine World.Ext.drew ?_ | refine World.Ext.alloc ?_ _ | refine World.Ext.setCell ?_ (by simp) _)
  have c15_ : b9.cell? ⟨v9.heap.size, 0, none⟩ = some (.slice pj m cj) := by rw [hb9]; simp [go_sem]
  have HALL_ : Hid (∀ w', b9.Ext w' → w'.cell? ⟨q5, 0, none⟩ = some (.slice pa m pc) ∧ RowS w' pa ss ∧ w'.cell? ⟨q6, 0, none⟩ = some (.slice pb m pc2) ∧ RowS w' pb tt ∧ w'.cell? ⟨q9, 0, none⟩ = some (.int .i64 m) ∧ w'.cell? ⟨q9, 1, none⟩ = some (.string tA) ∧ w'.cell? ⟨q11, 0, none⟩ = some (.int .i64 m) ∧ w'.cell? ⟨q11, 1, none⟩ = some (.string tB) ∧ w'.cell? ⟨q13, 0, none⟩ = some (.int .i64 m) ∧ w'.cell? ⟨q13, 1, none⟩ = some (.string tC) ∧ w'.cell? ⟨v9.heap.size, 0, none⟩ = some (.slice pj m cj) ∧ RowS w' pj RJ ∧ True) := fun w' hx' => ⟨(HALL.out w' ((HX.out.trans hxb).trans hx')).1, (HALL.out w' ((HX.out.trans hxb).trans hx')).2.1, (HALL.out w' ((HX.out.trans hxb).trans hx')).2.2.1, (HALL.out w' ((HX.out.trans hxb).trans hx')).2.2.2.1, (HALL.out w' ((HX.out.trans hxb).trans hx')).2.2.2.2.1, (HALL.out w' ((HX.out.trans hxb).trans hx')).2.2.2.2.2.1, (HALL.out w' ((HX.out.trans hxb).trans hx')).2.2.2.2.2.2.1, (HALL.out w' ((HX.out.trans hxb).trans hx')).2.2.2.2.2.2.2.1, (HALL.out w' ((HX.out.trans hxb).trans hx')).2.2.2.2.2.2.2.2.1, (HALL.out w' ((HX.out.trans hxb).trans hx')).2.2.2.2.2.2.2.2.2.1, hx'.cell c15_, RowOf.ext HO.out (hxb.trans hx'), trivial⟩
  have HWB_ := Lib.hid (HWB.out.trans (HX.out.trans hxb))
  have HX_ : Hid (b9.Ext b9) := .refl _
  clear hxb c15_ HWB HX HALL
  have HALL := HALL_
  have HWB := HWB_
  have HX := HX_
  clear HALL_ HWB_ HX_
  clear HO
  go_upto_region 11 with fail
  rw [← hb9]
  clear hb9
  generalize v9.heap.size = q15 at *
  have c15 := (HALL.out b9 HX.out).2.2.2.2.2.2.2.2.2.2.1
  have lc15 := World.block_lt_of_cell? _ _ c15
  go_wp2_with fail
  refine (HTD.out b9 _ _ (HALL.out b9 HX.out).2.2.2.2.2.2.2.2.2.2.2.1).mono ?_
  rintro e v10 ⟨rfl, hx⟩
  clear lc15 c15
  have HX_ := Lib.hid (HX.out.trans hx)
  clear HX
  have HX := HX_
  clear HX_
  clear HTD
  clear hx
  obtain ⟨b10, hb10⟩ : ∃ b10, b10 = v10.alloc (.cells #[.int .i64 m, .string tC] 72) := ⟨_, rfl⟩
  have hxb : v10.Ext b10 := by rw [hb10]; repeat (first | exact World.Ext.refl _ | exact ⟨_, rfl⟩ | assumption | refine World.Ext.over ?_ _ | refine World.Ext.drewN ?_ _ | refine World.Ext.drew ?_ | refine World.Ext.alloc ?_ _ | refine World.Ext.setCell ?_ (by simp) _)
  have c17a_ : b10.cell? ⟨v10.heap.size, 0, none⟩ = some (.int .i64 m) := by rw [hb10]; simp [go_sem]
  have c17b_ : b10.cell? ⟨v10.heap.size, 1, none⟩ = some (.string tC) := by rw [hb10]; simp [go_sem]
  have HALL_ : Hid (∀ w', b10.Ext w' → w'.cell? ⟨q5, 0, none⟩ = some (.slice pa m pc) ∧ RowS w' pa ss ∧ w'.cell? ⟨q6, 0, none⟩ = some (.slice pb m pc2) ∧ RowS w' pb tt ∧ w'.cell? ⟨q9, 0, none⟩ = some (.int .i64 m) ∧ w'.cell? ⟨q9, 1, none⟩ = some (.string tA) ∧ w'.cell? ⟨q11, 0, none⟩ = some (.int .i64 m) ∧ w'.cell? ⟨q11, 1, none⟩ = some (.string tB) ∧ w'.cell? ⟨q13, 0, none⟩ = some (.int .i64 m) ∧ w'.cell? ⟨q13, 1, none⟩ = some (.string tC) ∧ w'.cell? ⟨q15, 0, none⟩ = some (.slice pj m cj) ∧ RowS w' pj RJ ∧ w'.cell? ⟨v10.heap.size, 0, none⟩ = some (.int .i64 m) ∧ w'.cell? ⟨v10.heap.size, 1, none⟩ = some (.string tC) ∧ True) := fun w' hx' => ⟨(HALL.out w' ((HX.out.trans hxb).trans hx')).1, (HALL.out w' ((HX.out.trans hxb).trans hx')).2.1, (HALL.out w' ((HX.out.trans hxb).trans hx')).2.2.1, (HALL.out w' ((HX.out.trans hxb).trans hx')).2.2.2.1, (HALL.out w' ((HX.out.trans hxb).trans hx')).2.2.2.2.1, (HALL.out w' ((HX.out.trans hxb).trans hx')).2.2.2.2.2.1, (HALL.out w' ((HX.out.trans hxb).trans hx')).2.2.2.2.2.2.1, (HALL.out w' ((HX.out.trans hxb).trans hx')).2.2.2.2.2.2.2.1, (HALL.out w' ((HX.out.trans hxb).trans hx')).2.2.2.2.2.2.2.2.1, (HALL.out w' ((HX.out.trans hxb).trans hx')).2.2.2.2.2.2.2.2.2.1, (HALL.out w' ((HX.out.trans hxb).trans hx')).2.2.2.2.2.2.2.2.2.2.1, (HALL.out w' ((HX.out.trans hxb).trans hx')).2.2.2.2.2.2.2.2.2.2.2.1, hx'.cell c17a_, hx'.cell c17b_, trivial⟩
  have HWB_ := Lib.hid (HWB.out.trans (HX.out.trans hxb))
  have HX_ : Hid (b10.Ext b10) := .refl _
  clear hxb c17a_ c17b_ HWB HX HALL
  have HALL := HALL_
  have HWB := HWB_
  have HX := HX_
  clear HALL_ HWB_ HX_
  go_upto_region 12 with fail
  rw [← hb10]
  clear hb10
  generalize v10.heap.size = q17 at *
  have c9a := (HALL.out b10 HX.out).2.2.2.2.1
  have lc9a := World.block_lt_of_cell? _ _ c9a
  have c9b := (HALL.out b10 HX.out).2.2.2.2.2.1
  have lc9b := World.block_lt_of_cell? _ _ c9b
  go_wp2_with fail
  refine (HIV.out b10).mono ?_
  rintro e v11 ⟨rfl, hx⟩
  clear lc9a c9a lc9b c9b
  have HX_ := Lib.hid (HX.out.trans hx)
  clear HX
  have HX := HX_
  clear HX_
  clear HIV
  clear hx
  obtain ⟨b11, hb11⟩ : ∃ b11, b11 = v11.alloc (.cells #[.int .i64 m, .string tE] 72) := ⟨_, rfl⟩
  have hxb : v11.Ext b11 := by rw [hb11]; repeat (first | exact World.Ext.refl _ | exact ⟨_, rfl⟩ | assumption | refine World.Ext.over ?_ _ | refine World.Ext.drewN ?_ _ | refine World.Ext.drew ?_ | refine World.Ext.alloc ?_ _ | refine World.Ext.setCell ?_ (by simp) _)
  have c19a_ : b11.cell? ⟨v11.heap.size, 0, none⟩ = some (.int .i64 m) := by rw [hb11]; simp [go_sem]
  have c19b_ : b11.cell? ⟨v11.heap.size, 1, none⟩ = some (.string tE) := by rw [hb11]; simp [go_sem]
  have HALL_ : Hid (∀ w', b11.Ext w' → w'.cell? ⟨q5, 0, none⟩ = some (.slice pa m pc) ∧ RowS w' pa ss ∧ w'.cell? ⟨q6, 0, none⟩ = some (.slice pb m pc2) ∧ RowS w' pb tt ∧ w'.cell? ⟨q9, 0, none⟩ = some (.int .i64 m) ∧ w'.cell? ⟨q9, 1, none⟩ = some (.string tA) ∧ w'.cell? ⟨q11, 0, none⟩ = some (.int .i64 m) ∧ w'.cell? ⟨q11, 1, none⟩ = some (.string tB) ∧ w'.cell? ⟨q13, 0, none⟩ = some (.int .i64 m) ∧ w'.cell? ⟨q13, 1, none⟩ = some (.string tC) ∧ w'.cell? ⟨q15, 0, none⟩ = some (.slice pj m cj) ∧ RowS w' pj RJ ∧ w'.cell? ⟨q17, 0, none⟩ = some (.int .i64 m) ∧ w'.cell? ⟨q17, 1, none⟩ = some (.string tC) ∧ w'.cell? ⟨v11.heap.size, 0, none⟩ = some (.int .i64 m) ∧ w'.cell? ⟨v11.heap.size, 1, none⟩ = some (.string tE) ∧ True) := fun w' hx' => ⟨(HALL.out w' ((HX.out.trans hxb).trans hx')).1, (HALL.out w' ((HX.out.trans hxb).trans hx')).2.1, (HALL.out w' ((HX.out.trans hxb).trans hx')).2.2.1, (HALL.out w' ((HX.out.trans hxb).trans hx')).2.2.2.1, (HALL.out w' ((HX.out.trans hxb).trans hx')).2.2.2.2.1, (HALL.out w' ((HX.out.trans hxb).trans hx')).2.2.2.2.2.1, (HALL.out w' ((HX.out.trans hxb).trans hx')).2.2.2.2.2.2.1, (HALL.out w' ((HX.out.trans hxb).trans hx')).2.2.2.2.2.2.2.1, (HALL.out w' ((HX.out.trans hxb).trans hx')).2.2.2.2.2.2.2.2.1, (HALL.out w' ((HX.out.trans hxb).trans hx')).2.2.2.2.2.2.2.2.2.1, (HALL.out w' ((HX.out.trans hxb).trans hx')).2.2.2.2.2.2.2.2.2.2.1, (HALL.out w' ((HX.out.trans hxb).trans hx')).2.2.2.2.2.2.2.2.2.2.2.1, (HALL.out w' ((HX.out.trans hxb).trans hx')).2.2.2.2.2.2.2.2.2.2.2.2.1, (HALL.out w' ((HX.out.trans hxb).trans hx')).2.2.2.2.2.2.2.2.2.2.2.2.2.1, hx'.cell c19a_, hx'.cell c19b_, trivial⟩
  have HWB_ := Lib.hid (HWB.out.trans (HX.out.trans hxb))
  have HX_ : Hid (b11.Ext b11) := .refl _
  clear hxb c19a_ c19b_ HWB HX HALL
  have HALL := HALL_
  have HWB := HWB_
  have HX := HX_
  clear HALL_ HWB_ HX_
  go_upto_region 13 with fail
  rw [← hb11]
  clear hb11
  generalize v11.heap.size = q19 at *
  have c9a := (HALL.out b11 HX.out).2.2.2.2.1
  have lc9a := World.block_lt_of_cell? _ _ c9a
  have c9b := (HALL.out b11 HX.out).2.2.2.2.2.1
  have lc9b := World.block_lt_of_cell? _ _ c9b
  go_wp2_with fail
  refine (HTU.out b11).mono ?_
  rintro e v12 ⟨rfl, hx⟩
  clear lc9a c9a lc9b c9b
  have HX_ := Lib.hid (HX.out.trans hx)
  clear HX
  have HX := HX_
  clear HX_
  clear HTU
  clear hx
  obtain ⟨b12, hb12⟩ : ∃ b12, b12 = v12.alloc (.cells #[.int .i64 m, .string tF] 72) := ⟨_, rfl⟩
  have hxb : v12.Ext b12 := by rw [hb12]; repeat (first | exact World.Ext.refl _ | exact ⟨_, rfl⟩ | assumption | refine World.Ext.over ?_ _ | refine World.Ext.drewN ?_ _ | refine World.Ext.drew ?_ | refine World.Ext.alloc ?_ _ | refine World.Ext.setCell ?_ (by simp) _)
  have c21a_ : b12.cell? ⟨v12.heap.size, 0, none⟩ = some (.int .i64 m) := by rw [hb12]; simp [go_sem]
  have c21b_ : b12.cell? ⟨v12.heap.size, 1, none⟩ = some (.string tF) := by rw [hb12]; simp [go_sem]
  have HALL_ : Hid (∀ w', b12.Ext w' → w'.cell? ⟨q5, 0, none⟩ = some (.slice pa m pc) ∧ RowS w' pa ss ∧ w'.cell? ⟨q6, 0, none⟩ = some (.slice pb m pc2) ∧ RowS w' pb tt ∧ w'.cell? ⟨q9, 0, none⟩ = some (.int .i64 m) ∧ w'.cell? ⟨q9, 1, none⟩ = some (.string tA) ∧ w'.cell? ⟨q11, 0, none⟩ = some (.int .i64 m) ∧ w'.cell? ⟨q11, 1, none⟩ = some (.string tB) ∧ w'.cell? ⟨q13, 0, none⟩ = some (.int .i64 m) ∧ w'.cell? ⟨q13, 1, none⟩ = some (.string tC) ∧ w'.cell? ⟨q15, 0, none⟩ = some (.slice pj m cj) ∧ RowS w' pj RJ ∧ w'.cell? ⟨q17, 0, none⟩ = some (.int .i64 m) ∧ w'.cell? ⟨q17, 1, none⟩ = some (.string tC) ∧ w'.cell? ⟨q19, 0, none⟩ = some (.int .i64 m) ∧ w'.cell? ⟨q19, 1, none⟩ = some (.string tE) ∧ w'.cell? ⟨v12.heap.size, 0, none⟩ = some (.int .i64 m) ∧ w'.cell? ⟨v12.heap.size, 1, none⟩ = some (.string tF) ∧ True) := fun w' hx' => ⟨(HALL.out w' ((HX.out.trans hxb).trans hx')).1, (HALL.out w' ((HX.out.trans hxb).trans hx')).2.1, (HALL.out w' ((HX.out.trans hxb).trans hx')).2.2.1, (HALL.out w' ((HX.out.trans hxb).trans hx')).2.2.2.1, (HALL.out w' ((HX.out.trans hxb).trans hx')).2.2.2.2.1, (HALL.out w' ((HX.out.trans hxb).trans hx')).2.2.2.2.2.1, (HALL.out w' ((HX.out.trans hxb).trans hx')).2.2.2.2.2.2.1, (HALL.out w' ((HX.out.trans hxb).trans hx')).2.2.2.2.2.2.2.1, (HALL.out w' ((HX.out.trans hxb).trans hx')).2.2.2.2.2.2.2.2.1, (HALL.out w' ((HX.out.trans hxb).trans hx')).2.2.2.2.2.2.2.2.2.1, (HALL.out w' ((HX.out.trans hxb).trans hx')).2.2.2.2.2.2.2.2.2.2.1, (HALL.out w' ((HX.out.trans hxb).trans hx')).2.2.2.2.2.2.2.2.2.2.2.1, (HALL.out w' ((HX.out.trans hxb).trans hx')).2.2.2.2.2.2.2.2.2.2.2.2.1, (HALL.out w' ((HX.out.trans hxb).trans hx')).2.2.2.2.2.2.2.2.2.2.2.2.2.1, (HALL.out w' ((HX.out.trans hxb).trans hx')).2.2.2.2.2.2.2.2.2.2.2.2.2.2.1, (HALL.out w' ((HX.out.trans hxb).trans hx')).2.2.2.2.2.2.2.2.2.2.2.2.2.2.2.1, hx'.cell c21a_, hx'.cell c21b_, trivial⟩
  have HWB_ := Lib.hid (HWB.out.trans (HX.out.trans hxb))
  have HX_ : Hid (b12.Ext b12) := .refl _
  clear hxb c21a_ c21b_ HWB HX HALL
  have HALL := HALL_
  have HWB := HWB_
  have HX := HX_
  clear HALL_ HWB_ HX_
  go_upto_region 14 with fail
  rw [← hb12]
  clear hb12
  generalize v12.heap.size = q21 at *
  have c5 := (HALL.out b12 HX.out).1
  have lc5 := World.block_lt_of_cell? _ _ c5
  go_wp2_with fail
  refine (HTP.out b12 (HALL.out b12 HX.out).2.1).mono ?_
  rintro e v13 ⟨pu, cu, rfl, hx, ho⟩
  clear lc5 c5
  have HX_ := Lib.hid (HX.out.trans hx)
  clear HX
  have HX := HX_
  clear HX_
  rw [HUL.out]
  have HO := Lib.hid ho.row
  clear ho HTP HUL
  clear hx
  obtain ⟨b13, hb13⟩ : ∃ b13, b13 = v13.alloc (.cells #[.slice pu m cu] 26) := ⟨_, rfl⟩
  have hxb : v13.Ext b13 := by rw [hb13]; repeat (first | exact World.Ext.refl _ | exact ⟨_, rfl⟩ | assumption | refine World.Ext.over ?_ _ | refine World.Ext.drewN ?_ _ | refine World.Ext.drew ?_ | refine World.Ext.alloc ?_ _ | refine World.Ext.setCell ?_ (by simp) _)
  have c23_ : b13.cell? ⟨v13.heap.size, 0, none⟩ = some (.slice pu m cu) := by rw [hb13]; simp [go_sem]
  have HALL_ : Hid (∀ w', b13.Ext w' → w'.cell? ⟨q5, 0, none⟩ = some (.slice pa m pc) ∧ RowS w' pa ss ∧ w'.cell? ⟨q6, 0, none⟩ = some (.slice pb m pc2) ∧ RowS w' pb tt ∧ w'.cell? ⟨q9, 0, none⟩ = some (.int .i64 m) ∧ w'.cell? ⟨q9, 1, none⟩ = some (.string tA) ∧ w'.cell? ⟨q11, 0, none⟩ = some (.int .i64 m) ∧ w'.cell? ⟨q11, 1, none⟩ = some (.string tB) ∧ w'.cell? ⟨q13, 0, none⟩ = some (.int .i64 m) ∧ w'.cell? ⟨q13, 1, none⟩ = some (.string tC) ∧ w'.cell? ⟨q15, 0, none⟩ = some (.slice pj m cj) ∧ RowS w' pj RJ ∧ w'.cell? ⟨q17, 0, none⟩ = some (.int .i64 m) ∧ w'.cell? ⟨q17, 1, none⟩ = some (.string tC) ∧ w'.cell? ⟨q19, 0, none⟩ = some (.int .i64 m) ∧ w'.cell? ⟨q19, 1, none⟩ = some (.string tE) ∧ w'.cell? ⟨q21, 0, none⟩ = some (.int .i64 m) ∧ w'.cell? ⟨q21, 1, none⟩ = some (.string tF) ∧ w'.cell? ⟨v13.heap.size, 0, none⟩ = some (.slice pu m cu) ∧ RowS w' pu RU ∧ True) := fun w' hx' => ⟨(HALL.out w' ((HX.out.trans hxb).trans hx')).1, (HALL.out w' ((HX.out.trans hxb).trans hx')).2.1, (HALL.out w' ((HX.out.trans hxb).trans hx')).2.2.1, (HALL.out w' ((HX.out.trans hxb).trans hx')).2.2.2.1, (HALL.out w' ((HX.out.trans hxb).trans hx')).2.2.2.2.1, (HALL.out w' ((HX.out.trans hxb).trans hx')).2.2.2.2.2.1, (HALL.out w' ((HX.out.trans hxb).trans hx')).2.2.2.2.2.2.1, (HALL.out w' ((HX.out.trans hxb).trans hx')).2.2.2.2.2.2.2.1, (HALL.out w' ((HX.out.trans hxb).trans hx')).2.2.2.2.2.2.2.2.1, (HALL.out w' ((HX.out.trans hxb).trans hx')).2.2.2.2.2.2.2.2.2.1, (HALL.out w' ((HX.out.trans hxb).trans hx')).2.2.2.2.2.2.2.2.2.2.1, (HALL.out w' ((HX.out.trans hxb).trans hx')).2.2.2.2.2.2.2.2.2.2.2.1, (HALL.out w' ((HX.out.trans hxb).trans hx')).2.2.2.2.2.2.2.2.2.2.2.2.1, (HALL.out w' ((HX.out.trans hxb).trans hx')).2.2.2.2.2.2.2.2.2.2.2.2.2.1, (HALL.out w' ((HX.out.trans hxb).trans hx')).2.2.2.2.2.2.2.2.2.2.2.2.2.2.1, (HALL.out w' ((HX.out.trans hxb).trans hx')).2.2.2.2.2.2.2.2.2.2.2.2.2.2.2.1, (HALL.out w' ((HX.out.trans hxb).trans hx')).2.2.2.2.2.2.2.2.2.2.2.2.2.2.2.2.1, (HALL.out w' ((HX.out.trans hxb).trans hx')).2.2.2.2.2.2.2.2.2.2.2.2.2.2.2.2.2.1, hx'.cell c23_, RowOf.ext HO.out (hxb.trans hx'), trivial⟩
  have HWB_ := Lib.hid (HWB.out.trans (HX.out.trans hxb))
  have HX_ : Hid (b13.Ext b13) := .refl _
  clear hxb c23_ HWB HX HALL
  have HALL := HALL_
  have HWB := HWB_
  have HX := HX_
  clear HALL_ HWB_ HX_
  clear HO
  go_upto_region 15 with fail
  rw [← hb13]
  clear hb13
  generalize v13.heap.size = q23 at *
  have c23 := (HALL.out b13 HX.out).2.2.2.2.2.2.2.2.2.2.2.2.2.2.2.2.2.2.1
  have lc23 := World.block_lt_of_cell? _ _ c23
  go_wp2_with fail
  refine (HTV.out b13 _ _ (HALL.out b13 HX.out).2.2.2.2.2.2.2.2.2.2.2.2.2.2.2.2.2.2.2.1).mono ?_
  rintro e v14 ⟨rfl, hx⟩
  clear lc23 c23
  have HX_ := Lib.hid (HX.out.trans hx)
  clear HX
  have HX := HX_
  clear HX_
  clear HTV
  clear hx
  obtain ⟨b14, hb14⟩ : ∃ b14, b14 = v14.alloc (.cells #[.int .i64 m, .string tF] 72) := ⟨_, rfl⟩
  have hxb : v14.Ext b14 := by rw [hb14]; repeat (first | exact World.Ext.refl _ | exact ⟨_, rfl⟩ | assumption | refine World.Ext.over ?_ _ | refine World.Ext.drewN ?_ _ | refine World.Ext.drew ?_ | refine World.Ext.alloc ?_ _ | refine World.Ext.setCell ?_ (by simp) _)
  have c25a_ : b14.cell? ⟨v14.heap.size, 0, none⟩ = some (.int .i64 m) := by rw [hb14]; simp [go_sem]
  have c25b_ : b14.cell? ⟨v14.heap.size, 1, none⟩ = some (.string tF) := by rw [hb14]; simp [go_sem]
  have HALL_ : Hid (∀ w', b14.Ext w' → w'.cell? ⟨q5, 0, none⟩ = some (.slice pa m pc) ∧ RowS w' pa ss ∧ w'.cell? ⟨q6, 0, none⟩ = some (.slice pb m pc2) ∧ RowS w' pb tt ∧ w'.cell? ⟨q9, 0, none⟩ = some (.int .i64 m) ∧ w'.cell? ⟨q9, 1, none⟩ = some (.string tA) ∧ w'.cell? ⟨q11, 0, none⟩ = some (.int .i64 m) ∧ w'.cell? ⟨q11, 1, none⟩ = some (.string tB) ∧ w'.cell? ⟨q13, 0, none⟩ = some (.int .i64 m) ∧ w'.cell? ⟨q13, 1, none⟩ = some (.string tC) ∧ w'.cell? ⟨q15, 0, none⟩ = some (.slice pj m cj) ∧ RowS w' pj RJ ∧ w'.cell? ⟨q17, 0, none⟩ = some (.int .i64 m) ∧ w'.cell? ⟨q17, 1, none⟩ = some (.string tC) ∧ w'.cell? ⟨q19, 0, none⟩ = some (.int .i64 m) ∧ w'.cell? ⟨q19, 1, none⟩ = some (.string tE) ∧ w'.cell? ⟨q21, 0, none⟩ = some (.int .i64 m) ∧ w'.cell? ⟨q21, 1, none⟩ = some (.string tF) ∧ w'.cell? ⟨q23, 0, none⟩ = some (.slice pu m cu) ∧ RowS w' pu RU ∧ w'.cell? ⟨v14.heap.size, 0, none⟩ = some (.int .i64 m) ∧ w'.cell? ⟨v14.heap.size, 1, none⟩ = some (.string tF) ∧ True) := fun w' hx' => ⟨(HALL.out w' ((HX.out.trans hxb).trans hx')).1, (HALL.out w' ((HX.out.trans hxb).trans hx')).2.1, (HALL.out w' ((HX.out.trans hxb).trans hx')).2.2.1, (HALL.out w' ((HX.out.trans hxb).trans hx')).2.2.2.1, (HALL.out w' ((HX.out.trans hxb).trans hx')).2.2.2.2.1, (HALL.out w' ((HX.out.trans hxb).trans hx')).2.2.2.2.2.1, (HALL.out w' ((HX.out.trans hxb).trans hx')).2.2.2.2.2.2.1, (HALL.out w' ((HX.out.trans hxb).trans hx')).2.2.2.2.2.2.2.1, (HALL.out w' ((HX.out.trans hxb).trans hx')).2.2.2.2.2.2.2.2.1, (HALL.out w' ((HX.out.trans hxb).trans hx')).2.2.2.2.2.2.2.2.2.1, (HALL.out w' ((HX.out.trans hxb).trans hx')).2.2.2.2.2.2.2.2.2.2.1, (HALL.out w' ((HX.out.trans hxb).trans hx')).2.2.2.2.2.2.2.2.2.2.2.1, (HALL.out w' ((HX.out.trans hxb).trans hx')).2.2.2.2.2.2.2.2.2.2.2.2.1, (HALL.out w' ((HX.out.trans hxb).trans hx')).2.2.2.2.2.2.2.2.2.2.2.2.2.1, (HALL.out w' ((HX.out.trans hxb).trans hx')).2.2.2.2.2.2.2.2.2.2.2.2.2.2.1, (HALL.out w' ((HX.out.trans hxb).trans hx')).2.2.2.2.2.2.2.2.2.2.2.2.2.2.2.1, (HALL.out w' ((HX.out.trans hxb).trans hx')).2.2.2.2.2.2.2.2.2.2.2.2.2.2.2.2.1, (HALL.out w' ((HX.out.trans hxb).trans hx')).2.2.2.2.2.2.2.2.2.2.2.2.2.2.2.2.2.1, (HALL.out w' ((HX.out.trans hxb).trans hx')).2.2.2.2.2.2.2.2.2.2.2.2.2.2.2.2.2.2.1, (HALL.out w' ((HX.out.trans hxb).trans hx')).2.2.2.2.2.2.2.2.2.2.2.2.2.2.2.2.2.2.2.1, hx'.cell c25a_, hx'.cell c25b_, trivial⟩
  have HWB_ := Lib.hid (HWB.out.trans (HX.out.trans hxb))
  have HX_ : Hid (b14.Ext b14) := .refl _
  clear hxb c25a_ c25b_ HWB HX HALL
  have HALL := HALL_
  have HWB := HWB_
  have HX := HX_
  clear HALL_ HWB_ HX_
  go_upto_region 16 with fail
  rw [← hb14]
  clear hb14
  generalize v14.heap.size = q25 at *
  have c9a := (HALL.out b14 HX.out).2.2.2.2.1
  have lc9a := World.block_lt_of_cell? _ _ c9a
  have c9b := (HALL.out b14 HX.out).2.2.2.2.2.1
  have lc9b := World.block_lt_of_cell? _ _ c9b
  go_wp2_with fail
  refine (HL1.out b14).mono ?_
  rintro e v15 ⟨pl1, cl1, LA1, LC1, rfl, hx, -⟩
  clear lc9a c9a lc9b c9b
  have HX_ := Lib.hid (HX.out.trans hx)
  clear HX
  have HX := HX_
  clear HX_
  rw [HN1.out]
  clear HL1 HN1
  clear hx
  have c19a := (HALL.out v15 HX.out).2.2.2.2.2.2.2.2.2.2.2.2.2.2.1
  have lc19a := World.block_lt_of_cell? _ _ c19a
  have c19b := (HALL.out v15 HX.out).2.2.2.2.2.2.2.2.2.2.2.2.2.2.2.1
  have lc19b := World.block_lt_of_cell? _ _ c19b
  go_wp2_with fail
  refine (HL2.out v15).mono ?_
  rintro e v16 ⟨pl2, cl2, LA2, LC2, rfl, hx, -⟩
  clear lc19a c19a lc19b c19b
  have HX_ := Lib.hid (HX.out.trans hx)
  clear HX
  have HX := HX_
  clear HX_
  rw [HN2.out]
  clear HL2 HN2
  clear hx
  have c21a := (HALL.out v16 HX.out).2.2.2.2.2.2.2.2.2.2.2.2.2.2.2.2.1
  have lc21a := World.block_lt_of_cell? _ _ c21a
  have c21b := (HALL.out v16 HX.out).2.2.2.2.2.2.2.2.2.2.2.2.2.2.2.2.2.1
  have lc21b := World.block_lt_of_cell? _ _ c21b
  go_wp2_with fail
  refine (HL3.out v16).mono ?_
  rintro e v17 ⟨pl3, cl3, LA3, LC3, rfl, hx, -⟩
  clear lc21a c21a lc21b c21b
  have HX_ := Lib.hid (HX.out.trans hx)
  clear HX
  have HX := HX_
  clear HX_
  rw [HN3.out]
  clear HL3 HN3
  clear hx
  obtain ⟨hl1, hl2⟩ := hlc
  have hl3 : ¬ (nl : Int) < 1 := by omega
  have c13a := (HALL.out v17 HX.out).2.2.2.2.2.2.2.2.1
  have lc13a := World.block_lt_of_cell? _ _ c13a
  have c13b := (HALL.out v17 HX.out).2.2.2.2.2.2.2.2.2.1
  have lc13b := World.block_lt_of_cell? _ _ c13b
  have c17a := (HALL.out v17 HX.out).2.2.2.2.2.2.2.2.2.2.2.2.1
  have lc17a := World.block_lt_of_cell? _ _ c17a
  have c17b := (HALL.out v17 HX.out).2.2.2.2.2.2.2.2.2.2.2.2.2.1
  have lc17b := World.block_lt_of_cell? _ _ c17b
  have c21a := (HALL.out v17 HX.out).2.2.2.2.2.2.2.2.2.2.2.2.2.2.2.2.1
  have lc21a := World.block_lt_of_cell? _ _ c21a
  have c21b := (HALL.out v17 HX.out).2.2.2.2.2.2.2.2.2.2.2.2.2.2.2.2.2.1
  have lc21b := World.block_lt_of_cell? _ _ c21b
  have c25a := (HALL.out v17 HX.out).2.2.2.2.2.2.2.2.2.2.2.2.2.2.2.2.2.2.2.2.1
  have lc25a := World.block_lt_of_cell? _ _ c25a
  have c25b := (HALL.out v17 HX.out).2.2.2.2.2.2.2.2.2.2.2.2.2.2.2.2.2.2.2.2.2.1
  have lc25b := World.block_lt_of_cell? _ _ c25b
  have c9a := (HALL.out v17 HX.out).2.2.2.2.1
  have lc9a := World.block_lt_of_cell? _ _ c9a
  have c9b := (HALL.out v17 HX.out).2.2.2.2.2.1
  have lc9b := World.block_lt_of_cell? _ _ c9b
  obtain ⟨q33, hq33⟩ : ∃ q33, q33 = v17.heap.size := ⟨_, rfl⟩
  obtain ⟨wz, hwz⟩ : ∃ wz, wz = v17.alloc (.cells #[.int .i64 m, .string tA] 72) := ⟨_, rfl⟩
  have hxz : v17.Ext wz := by rw [hwz]; repeat (first | exact World.Ext.refl _ | exact ⟨_, rfl⟩ | assumption | refine World.Ext.over ?_ _ | refine World.Ext.drewN ?_ _ | refine World.Ext.drew ?_ | refine World.Ext.alloc ?_ _ | refine World.Ext.setCell ?_ (by simp) _)
  have htw : Two wz q33 72 (.int .i64 m) (.string tA) := by rw [hwz]; exact Two.new _ _ _ _ _ hq33
  have HLOW : Hid (v17.heap.size ≤ q33) := Nat.le_of_eq hq33.symm
  have HXW : Hid (v17.Ext wz) := hxz
  have HTW := Lib.hid htw
  clear hxz htw
  go_upto_region 22 with fail
  rw [← hwz, ← hq33]
  clear hwz hq33
  clear lc13a c13a lc13b c13b lc17a c17a lc17b c17b lc21a c21a lc21b c21b lc25a c25a lc25b c25b lc9a c9a lc9b c9b
  rw [← HT0.out] at HTW
  go_wp2
  go_loopw [34, 35, 36] (fun i _ _ wr => ∃ k : Nat, k ≤ 4 ∧ i = .int .i64 k ∧ Hid (v17.Ext wr) ∧ Hid (Two wr q33 72 (.int .i64 m) (.string (tN k)))) (fun i _ _ _ => 4 - (intOf i).toNat)
  case atStart => exact ⟨0, by omega, rfl, HXW, HTW⟩
  case round =>
    clear HXW HTW
    obtain ⟨k, hk, rfl, HXW, HTW⟩ := hrel
    obtain ⟨wa, rfl⟩ : ∃ wa : World, wa = wr := ⟨_, rfl⟩
    by_cases hlt : k < 4
    · have hlt' : (k : Int) < 4 := by omega
      have e0 := HTW.out.cell0
      have e1 := HTW.out.cell1
      have HC := Lib.hid (HTT.out k wa)
      go_wp2_with fail
      refine HC.out.mono ?_
      rintro e wb ⟨rfl, hxb⟩
      have hT := HTW.out.ext hxb
      obtain ⟨wc', hwc⟩ : ∃ wc', wc' = wb.alloc (.cells #[.int .i64 m, .string (tN (k + 1))] 72) := ⟨_, rfl⟩
      have hxc : wb.Ext wc' := by rw [hwc]; repeat (first | exact World.Ext.refl _ | exact ⟨_, rfl⟩ | assumption | refine World.Ext.over ?_ _ | refine World.Ext.drewN ?_ _ | refine World.Ext.drew ?_ | refine World.Ext.alloc ?_ _ | refine World.Ext.setCell ?_ (by simp) _)
      have g0 : wc'.cell? ⟨wb.heap.size, 0, none⟩ = some (.int .i64 m) := by rw [hwc]; simp [go_sem]
      have g1 : wc'.cell? ⟨wb.heap.size, 1, none⟩ = some (.string (tN (k + 1))) := by rw [hwc]; simp [go_sem]
      have hT2 := hT.ext hxc
      have HXC : Hid (v17.Ext wc') := HXW.out.trans (hxb.trans hxc)
      have HT2 := Lib.hid hT2
      clear hT hxb hxc hT2 HTW HXW HC e0 e1
      go_upto_region 26 with fail
      rw [← hwc]
      clear hwc
      have e0 := HT2.out.cell0
      have e1 := HT2.out.cell1
      have f0 := HT2.out.free 0
      have f1 := HT2.out.free 1
      have lq := HT2.out.lt
      have HT3 : Hid (Two ((wc'.setCell ⟨q33, 0, none⟩ (.int .i64 m)).setCell ⟨q33, 1, none⟩ (.string (tN (k + 1)))) q33 72 (.int .i64 m) (.string (tN (k + 1)))) := HT2.out.set _ _
      have HX3 : Hid (v17.Ext ((wc'.setCell ⟨q33, 0, none⟩ (.int .i64 m)).setCell ⟨q33, 1, none⟩ (.string (tN (k + 1))))) := (HXC.out.setCell (p := ⟨q33, 0, none⟩) HLOW.out _).setCell (p := ⟨q33, 1, none⟩) HLOW.out _
      clear HT2 HXC
      go_wp2
      go_roundw
      case rel => exact ⟨k + 1, by omega, by go_num, HX3, HT3⟩
      case measure => simp [intOf]; omega
    · have hk4 : k = 4 := by omega
      subst hk4
      have hlt' : ¬ (4 : Int) < 4 := by omega
      rw [HT4.out] at HTW
      have HX_ := Lib.hid (HX.out.trans HXW.out)
      clear HX
      have HX := HX_
      clear HX_ HT0 HT4 HTT
      have c19a := (HALL.out wa HX.out).2.2.2.2.2.2.2.2.2.2.2.2.2.2.1
      have lc19a := World.block_lt_of_cell? _ _ c19a
      have c19b := (HALL.out wa HX.out).2.2.2.2.2.2.2.2.2.2.2.2.2.2.2.1
      have lc19b := World.block_lt_of_cell? _ _ c19b
      go_wp2_with fail
      refine (HIW.out wa).mono ?_
      rintro e v18 ⟨rfl, hx⟩
      clear lc19a c19a lc19b c19b
      have HX_ := Lib.hid (HX.out.trans hx)
      clear HX
      have HX := HX_
      clear HX_
      have HTW2 := Lib.hid (HTW.out.ext hx)
      clear HIW HTW
      clear hx
      obtain ⟨b18, hb18⟩ : ∃ b18, b18 = v18.alloc (.cells #[.int .i64 m, .string tA] 72) := ⟨_, rfl⟩
      have hxb : v18.Ext b18 := by rw [hb18]; repeat (first | exact World.Ext.refl _ | exact ⟨_, rfl⟩ | assumption | refine World.Ext.over ?_ _ | refine World.Ext.drewN ?_ _ | refine World.Ext.drew ?_ | refine World.Ext.alloc ?_ _ | refine World.Ext.setCell ?_ (by simp) _)
      have c37a_ : b18.cell? ⟨v18.heap.size, 0, none⟩ = some (.int .i64 m) := by rw [hb18]; simp [go_sem]
      have c37b_ : b18.cell? ⟨v18.heap.size, 1, none⟩ = some (.string tA) := by rw [hb18]; simp [go_sem]
      have HALL_ : Hid (∀ w', b18.Ext w' → w'.cell? ⟨q5, 0, none⟩ = some (.slice pa m pc) ∧ RowS w' pa ss ∧ w'.cell? ⟨q6, 0, none⟩ = some (.slice pb m pc2) ∧ RowS w' pb tt ∧ w'.cell? ⟨q9, 0, none⟩ = some (.int .i64 m) ∧ w'.cell? ⟨q9, 1, none⟩ = some (.string tA) ∧ w'.cell? ⟨q11, 0, none⟩ = some (.int .i64 m) ∧ w'.cell? ⟨q11, 1, none⟩ = some (.string tB) ∧ w'.cell? ⟨q13, 0, none⟩ = some (.int .i64 m) ∧ w'.cell? ⟨q13, 1, none⟩ = some (.string tC) ∧ w'.cell? ⟨q15, 0, none⟩ = some (.slice pj m cj) ∧ RowS w' pj RJ ∧ w'.cell? ⟨q17, 0, none⟩ = some (.int .i64 m) ∧ w'.cell? ⟨q17, 1, none⟩ = some (.string tC) ∧ w'.cell? ⟨q19, 0, none⟩ = some (.int .i64 m) ∧ w'.cell? ⟨q19, 1, none⟩ = some (.string tE) ∧ w'.cell? ⟨q21, 0, none⟩ = some (.int .i64 m) ∧ w'.cell? ⟨q21, 1, none⟩ = some (.string tF) ∧ w'.cell? ⟨q23, 0, none⟩ = some (.slice pu m cu) ∧ RowS w' pu RU ∧ w'.cell? ⟨q25, 0, none⟩ = some (.int .i64 m) ∧ w'.cell? ⟨q25, 1, none⟩ = some (.string tF) ∧ w'.cell? ⟨v18.heap.size, 0, none⟩ = some (.int .i64 m) ∧ w'.cell? ⟨v18.heap.size, 1, none⟩ = some (.string tA) ∧ True) := fun w' hx' => ⟨(HALL.out w' ((HX.out.trans hxb).trans hx')).1, (HALL.out w' ((HX.out.trans hxb).trans hx')).2.1, (HALL.out w' ((HX.out.trans hxb).trans hx')).2.2.1, (HALL.out w' ((HX.out.trans hxb).trans hx')).2.2.2.1, (HALL.out w' ((HX.out.trans hxb).trans hx')).2.2.2.2.1, (HALL.out w' ((HX.out.trans hxb).trans hx')).2.2.2.2.2.1, (HALL.out w' ((HX.out.trans hxb).trans hx')).2.2.2.2.2.2.1, (HALL.out w' ((HX.out.trans hxb).trans hx')).2.2.2.2.2.2.2.1, (HALL.out w' ((HX.out.trans hxb).trans hx')).2.2.2.2.2.2.2.2.1, (HALL.out w' ((HX.out.trans hxb).trans hx')).2.2.2.2.2.2.2.2.2.1, (HALL.out w' ((HX.out.trans hxb).trans hx')).2.2.2.2.2.2.2.2.2.2.1, (HALL.out w' ((HX.out.trans hxb).trans hx')).2.2.2.2.2.2.2.2.2.2.2.1, (HALL.out w' ((HX.out.trans hxb).trans hx')).2.2.2.2.2.2.2.2.2.2.2.2.1, (HALL.out w' ((HX.out.trans hxb).trans hx')).2.2.2.2.2.2.2.2.2.2.2.2.2.1, (HALL.out w' ((HX.out.trans hxb).trans hx')).2.2.2.2.2.2.2.2.2.2.2.2.2.2.1, (HALL.out w' ((HX.out.trans hxb).trans hx')).2.2.2.2.2.2.2.2.2.2.2.2.2.2.2.1, (HALL.out w' ((HX.out.trans hxb).trans hx')).2.2.2.2.2.2.2.2.2.2.2.2.2.2.2.2.1, (HALL.out w' ((HX.out.trans hxb).trans hx')).2.2.2.2.2.2.2.2.2.2.2.2.2.2.2.2.2.1, (HALL.out w' ((HX.out.trans hxb).trans hx')).2.2.2.2.2.2.2.2.2.2.2.2.2.2.2.2.2.2.1, (HALL.out w' ((HX.out.trans hxb).trans hx')).2.2.2.2.2.2.2.2.2.2.2.2.2.2.2.2.2.2.2.1, (HALL.out w' ((HX.out.trans hxb).trans hx')).2.2.2.2.2.2.2.2.2.2.2.2.2.2.2.2.2.2.2.2.1, (HALL.out w' ((HX.out.trans hxb).trans hx')).2.2.2.2.2.2.2.2.2.2.2.2.2.2.2.2.2.2.2.2.2.1, hx'.cell c37a_, hx'.cell c37b_, trivial⟩
      have HWB_ := Lib.hid (HWB.out.trans (HX.out.trans hxb))
      have HX_ : Hid (b18.Ext b18) := .refl _
      clear hxb c37a_ c37b_ HWB HX HALL
      have HALL := HALL_
      have HWB := HWB_
      have HX := HX_
      clear HALL_ HWB_ HX_
      have HTW3 := Lib.hid (HTW2.out.ext (by rw [hb18]; repeat (first | exact World.Ext.refl _ | exact ⟨_, rfl⟩ | assumption | refine World.Ext.over ?_ _ | refine World.Ext.drewN ?_ _ | refine World.Ext.drew ?_ | refine World.Ext.alloc ?_ _ | refine World.Ext.setCell ?_ (by simp) _) : v18.Ext b18))
      go_upto_region 30 with fail
      rw [← hb18]
      clear hb18
      generalize v18.heap.size = q37 at *
      have c9a := (HALL.out b18 HX.out).2.2.2.2.1
      have lc9a := World.block_lt_of_cell? _ _ c9a
      have c9b := (HALL.out b18 HX.out).2.2.2.2.2.1
      have lc9b := World.block_lt_of_cell? _ _ c9b
      have c37a := (HALL.out b18 HX.out).2.2.2.2.2.2.2.2.2.2.2.2.2.2.2.2.2.2.2.2.2.2.1
      have lc37a := World.block_lt_of_cell? _ _ c37a
      have c37b := (HALL.out b18 HX.out).2.2.2.2.2.2.2.2.2.2.2.2.2.2.2.2.2.2.2.2.2.2.2.1
      have lc37b := World.block_lt_of_cell? _ _ c37b
      have e0 := HTW3.out.cell0
      have e1 := HTW3.out.cell1
      have HFIN := Lib.hid ((HWB.out.trans HX.out))
      clear HTW2 HTW3 HALL HX HWB
      go_wp2
      go_ret
      exact ⟨by simp, HFIN.out⟩
end Go.Proofs.Ytpdmfnndegcjjaa
