/- FnRuns' walk. -/
import Derived.Test.YtpdmfnndegcjjaaRunT
namespace Go.Proofs.Ytpdmfnndegcjjaa
open Go Go.RowKit
theorem rowStr_bits {s : ByteArray} (h : s.data.toList.all pixOk = true) : rowStr (rowBits s) = s := by
  obtain ⟨d⟩ := s
  unfold rowStr strOfNums rowBits
  rw [List.map_map, List.map_map]
  have e : List.map ((((fun n => UInt8.ofNat n.toNat) : Int → UInt8) ∘ byteOf) ∘ fun b => b == 35) d.toList = d.toList := by
    conv => rhs; rw [← List.map_id d.toList]
    refine List.map_congr_left fun b hb => ?_
    have h1 := List.all_eq_true.1 h b hb
    unfold pixOk at h1
    show UInt8.ofNat (byteOf (b == 35)).toNat = b
    cases h2 : (b == 35)
    · rw [h2, Bool.false_or] at h1
      rw [eq_of_beq h1]
      rfl
    · rw [eq_of_beq h2]
      rfl
  show ByteArray.mk (List.map _ d.toList).toArray = _
  rw [e, Array.toArray_toList]
theorem pic_self {ss : List ByteArray} (hok : picOk ss = true) : picRows (picW ss) ss.length (picL ss) = ss := by
  obtain ⟨v1, v2, v3, v4, v5, v6⟩ := picOk_spec hok
  refine listS_ext (picRows_len _ _ _) fun y hy => ?_
  rw [picRows_len] at hy
  rw [picRows_at _ _ _ hy]
  have hall : (ss.getD y ByteArray.empty).data.toList.all pixOk = true := by
    rw [List.all_eq_true]
    intro b hb
    obtain ⟨i, hi, e⟩ := List.getElem_of_mem hb
    have h := v6 y i hy (by rw [← v5.2 y hy]; simpa using hi)
    rw [List.getD_eq_getElem?_getD, List.getElem?_eq_getElem hi] at h
    rw [← e]
    exact h
  refine Eq.trans (congrArg rowStr ?_) (rowStr_bits hall)
  have hlen : (rowAt (picW ss) (picL ss) y).length = picW ss := rowAt_len _ ss.length _ _ (by rw [picL_len v5, Nat.mul_comm]) hy
  have hsz := v5.2 y hy
  apply List.ext_getElem (by rw [hlen, rowBits_len, hsz])
  intro i h1 h2
  have h1' := h1
  rw [hlen] at h1
  have e1 : (rowAt (picW ss) (picL ss) y)[i]? = some ((picL ss).getD (y * picW ss + i) false) := by
    unfold rowAt
    rw [List.getElem?_take, if_pos h1, List.getElem?_drop, List.getD_eq_getElem?_getD]
    have h3 : y * picW ss + i < (picL ss).length := by
      rw [picL_len v5]
      have := Nat.mul_le_mul_right (picW ss) (show y + 1 ≤ ss.length by omega)
      rw [Nat.succ_mul] at this
      omega
    rw [List.getElem?_eq_getElem h3]
    rfl
  have e2 := rowBits_at (ss.getD y ByteArray.empty) i (by rw [hsz]; exact h1)
  rw [List.getElem?_eq_getElem h1'] at e1
  rw [Option.some.inj e1, picL_at v5 i y h1 hy, ← e2, List.getD_eq_getElem?_getD, List.getElem?_eq_getElem h2]
  rfl
theorem runsTo_rowlen3 (W : Nat) (l : List Bool) (k r : Nat) : ((runsTo W l k).getD r []).length ≤ 3 := by
  by_cases h : r < (runsTo W l k).length
  · have hm : (runsTo W l k).getD r [] ∈ runsTo W l k := by
      rw [List.getD_eq_getElem?_getD, List.getElem?_eq_getElem h]
      exact List.getElem_mem _
    obtain ⟨a, b, c, e, -⟩ := runsTo_fit W l k _ hm
    rw [e]
    simp
  · rw [List.getD_eq_getElem?_getD, List.getElem?_eq_none (by omega)]
    simp
theorem pic_bnd8 {ss : List ByteArray} (h : picOk ss = true) : PicBnd ss := by
  obtain ⟨v1, v2, v3, v4, v5, -⟩ := picOk_spec h
  refine ⟨by omega, fun y => ?_⟩
  by_cases hy : y < ss.length
  · rw [v5.2 y hy]; omega
  · rw [List.getD_eq_getElem?_getD, List.getElem?_eq_none (by omega)]; simp
theorem sumR_take {R : List (List Int)} {k : Nat} (h : k < R.length) : sumR (R.take (k + 1)) = sumR (R.take k) + (R.getD k []).getD 2 0 := by
  unfold sumR
  rw [take_getD h, List.map_append, List.sum_append]
  simp
theorem sumR_bnd {R : List (List Int)} {n : Nat} (hf : RunsFit n R) : ∀ k, 0 ≤ sumR (R.take k) ∧ sumR (R.take k) ≤ k * n
  | 0 => by simp [sumR]
  | k + 1 => by
    have ih := sumR_bnd hf k
    by_cases h : k < R.length
    · rw [sumR_take h]
      obtain ⟨a, b, c, e, h1, h2, h3⟩ := hf (R.getD k []) (by rw [List.getD_eq_getElem?_getD, List.getElem?_eq_getElem h]; exact List.getElem_mem h)
      rw [e]
      simp only [List.getD_cons_succ, List.getD_cons_zero]
      rw [Int.natCast_add, Int.add_mul]
      omega
    · rw [List.take_of_length_le (by omega), ← List.take_of_length_le (show R.length ≤ k by omega)]
      rw [Int.natCast_add, Int.add_mul]
      omega
theorem diffN_bne (a b : Bool) : diffN a b = if (a != b) then 1 else 0 := by cases a <;> cases b <;> rfl
set_option maxRecDepth 5000 in
set_option maxHeartbeats 4000000 in
theorem fnRuns_any (a : Option Addr) (c : Nat) (zs : List Int) (a2 : Option Addr) (c2 : Nat) (ys : List Int) (w : World) (h : CodeAt w a zs) (h2 : CodeAt w a2 ys) :
    Calls Try.prog 6 #[.slice a zs.length c, .slice a2 ys.length c2] w fun e w' => e = .returned (.bool true) ∧ w.Ext w' := by
  have HLO := Lib.hid (longR_any a zs.length c a2 ys.length c2 w h.2.2 h2.2.2)
  have HP := Lib.hid (fun w' (hx : w.Ext w') => pic8_any a c zs w' (h.ext hx))
  clear h h2
  go_enter Try.func6, Try.ntmps6
  have HWB : Hid (w.Ext w) := .refl _
  have HX : Hid (w.Ext w) := .refl _
  go_wp2_with fail
  refine (HLO.out).mono ?_
  rintro e v1 ⟨t, rfl, hx, -⟩
  have HX_ := Lib.hid (HX.out.trans hx)
  clear HX
  have HX := HX_
  clear HX_
  clear hx
  cases t
  rotate_left
  · go_wp2
    go_ret
    exact ⟨rfl, HX.out⟩
  go_wp2_with fail
  refine (HP.out v1 (HWB.out.trans HX.out)).mono ?_
  rintro e v2 ⟨pa, pc, ss, rfl, hpic, hx, hrow⟩
  have HX_ := Lib.hid (HX.out.trans hx)
  clear HX
  have HX := HX_
  clear HX_
  have HPIC := Lib.hid hpic
  have HROW := Lib.hid hrow.row
  clear hpic hrow
  clear hx
  obtain ⟨b2, hb2⟩ : ∃ b2, b2 = v2.alloc (.cells #[.slice pa ss.length pc] 26) := ⟨_, rfl⟩
  have hxb : v2.Ext b2 := by rw [hb2]; repeat (first | exact World.Ext.refl _ | exact ⟨_, rfl⟩ | assumption | refine World.Ext.over ?_ _ | refine World.Ext.drewN ?_ _ | refine World.Ext.drew ?_ | refine World.Ext.alloc ?_ _ | refine World.Ext.setCell ?_ (by simp) _)
  have c5_ : b2.cell? ⟨v2.heap.size, 0, none⟩ = some (.slice pa ss.length pc) := by rw [hb2]; simp [go_sem]
  have HALL_ : Hid (∀ w', b2.Ext w' → w'.cell? ⟨v2.heap.size, 0, none⟩ = some (.slice pa ss.length pc) ∧ RowS w' pa ss ∧ True) := fun w' hx' => ⟨hx'.cell c5_, RowOf.ext HROW.out (hxb.trans hx'), trivial⟩
  have HWB_ := Lib.hid (HWB.out.trans (HX.out.trans hxb))
  have HX_ : Hid (b2.Ext b2) := .refl _
  clear hxb c5_ HWB HX
  have HALL := HALL_
  have HWB := HWB_
  have HX := HX_
  clear HALL_ HWB_ HX_
  have HB := Lib.hid (pic_bnd8 HPIC.out.1)
  obtain ⟨g1, g2, g3, g4, g5, -⟩ := picOk_spec HPIC.out.1
  have g6 := HPIC.out.2.1
  have g7 := HPIC.out.2.2
  have hll : (picL ss).length = picW ss * ss.length := by rw [picL_len g5, Nat.mul_comm]
  obtain ⟨po1, po2, po3⟩ := por_runs hll g3 (by omega) g1 (by omega)
  rw [pic_self HPIC.out.1] at po2
  obtain ⟨R, hR⟩ : ∃ R, R = runsTo (picW ss) (picL ss) (ss.length * picW ss) := ⟨_, rfl⟩
  rw [← hR] at po1 po2 po3
  have hfit : RunsFit (ss.length * picW ss) R := by rw [hR]; exact runsTo_fit _ _ _
  have hrl : R.length ≤ ss.length * picW ss := by rw [hR]; exact runsTo_len _ _ _
  have hWH : ss.length * picW ss ≤ 64 := Nat.mul_le_mul g6 g7
  have HMB : Hid (MatBnd R) := ⟨by omega, fun r => by rw [hR]; exact Nat.le_trans (runsTo_rowlen3 _ _ _ _) (by decide)⟩
  have HRU : Hid (∀ w', RowS w' pa ss → Calls Try.prog 47 #[.agg #[.slice pa ss.length pc]] w' (RunsRet w' R)) := fun w' h => by rw [hR]; exact runsOf_any pa pc ss w' HB.out HPIC.out.1 h
  have HPR : Hid (∀ w' a c A C, MatAt w' a A C R → Calls Try.prog 48 #[.int .i64 (picW ss), .int .i64 ss.length, .slice a R.length c] w' (PicRet2 w' ss true)) := fun w' a c A C h => by
    have h1 := implPOR_any (picW ss) ss.length a c A C R w' HMB.out h
    rw [po1, po2] at h1
    exact h1
  have HED := Lib.hid (fun w' (h : RowS w' pa ss) => edgeLength_any pa pc ss w' HB.out HPIC.out.1 h)
  have HCB := Lib.hid (fun w' (h : RowS w' pa ss) => countBlack_any pa pc ss w' HB.out HPIC.out.1 h)
  have HSM : Hid (∀ w' a c, RowS w' a ss → RowS w' pa ss → Calls Try.prog 51 #[.agg #[.slice a ss.length c], .agg #[.slice pa ss.length pc]] w' fun e w'' => e = .returned (.bool true) ∧ w'.Ext w'') := fun w' a c h1 h2 => by
    have h := r8Same_any a pa c pc ss ss w' (by omega) h1 h2
    rw [decide_eq_true rfl] at h
    exact h
  have HBK := Lib.hid (fun w' (x y : Int) (h : RowS w' pa ss) => r8Black_any pa pc ss x y w' HPIC.out.1 h)
  have HSUM := Lib.hid po3
  have HES : Hid (edgI (picW ss) ss.length (picL ss) = ownE (picW ss) ss.length (picL ss)) := edges_same _ _ _
  have HSB : Hid (∀ k, 0 ≤ sumR (R.take k) ∧ sumR (R.take k) ≤ k * 64) := fun k => by
    have h := sumR_bnd (n := 64) (fun r hr => by obtain ⟨a, b, c, e, h1, h2, h3⟩ := hfit r hr; exact ⟨a, b, c, e, by omega, by omega, by omega⟩) k
    exact h
  have HFIT : Hid (∀ k, k < R.length → ∃ x y n : Nat, R.getD k [] = [(x : Int), (y : Int), (n : Int)] ∧ n ≤ 64) := fun k hk => by
    obtain ⟨a, b, c, e, h1, h2, h3⟩ := hfit (R.getD k []) (by rw [List.getD_eq_getElem?_getD, List.getElem?_eq_getElem hk]; exact List.getElem_mem hk)
    exact ⟨a, b, c, e, by omega⟩
  have hrl64 : R.length ≤ 64 := by omega
  have hspl : (spotsTo (picW ss) (picL ss) (ss.length * picW ss)).length ≤ 64 := Nat.le_trans (spotsTo_len _ _ _) hWH
  have hedl : Hid (ownE (picW ss) ss.length (picL ss) = sumN (fun y => sumN (fun x => diffN (pxl (picW ss) ss.length (picL ss) x y) (pxl (picW ss) ss.length (picL ss) (x - 1) y) + diffN (pxl (picW ss) ss.length (picL ss) x y) (pxl (picW ss) ss.length (picL ss) x (y - 1))) (picW ss + 1)) (ss.length + 1)) := rfl
  clear po1 po2 po3 hR hfit hrl hll g5 hWH HROW HP
  rw [HES.out] at HED
  generalize ownE (picW ss) ss.length (picL ss) = oE at *
  generalize (spotsTo (picW ss) (picL ss) (ss.length * picW ss)).length = nB at *
  generalize pxl (picW ss) ss.length (picL ss) = px at *
  go_upto_region 4 with fail
  rw [← hb2]
  clear hb2
  generalize v2.heap.size = q5 at *
  have c5 := (HALL.out b2 HX.out).1
  have lc5 := World.block_lt_of_cell? _ _ c5
  obtain ⟨rb, ro, rfl, hrc⟩ := ((HALL.out b2 HX.out).2.1) 0 (show 0 < ss.length by omega)
  rw [Nat.add_zero] at hrc
  obtain ⟨s0, hs0⟩ : ∃ s0, s0 = ss.getD 0 ByteArray.empty := ⟨_, rfl⟩
  have hps : s0.size = picW ss := by rw [hs0]; rfl
  rw [← hs0] at hrc
  clear hs0
  go_upto_region 6 with fail
  clear hrc hps
  clear lc5 c5
  have c5 := (HALL.out b2 HX.out).1
  have lc5 := World.block_lt_of_cell? _ _ c5
  go_wp2_with fail
  refine (HRU.out b2 (HALL.out b2 HX.out).2.1).mono ?_
  rintro e v3 ⟨ra, rc, RA, RC, rfl, hx, hm⟩
  clear lc5 c5
  have HX_ := Lib.hid (HX.out.trans hx)
  clear HX
  have HX := HX_
  clear HX_
  have HMR := Lib.hid hm
  clear hm HRU
  clear hx
  go_wp2_with fail
  refine (HPR.out v3 _ _ _ _ HMR.out).mono ?_
  rintro e v4 ⟨ab, cb, rfl, hx, ho⟩
  have HX_ := Lib.hid (HX.out.trans hx)
  clear HX
  have HX := HX_
  clear HX_
  have HMQ := Lib.hid (HMR.out.ext hx)
  clear HMR HPR
  have HO := Lib.hid ho.row
  clear ho
  clear hx
  obtain ⟨b4, hb4⟩ : ∃ b4, b4 = v4.alloc (.cells #[.slice ab ss.length cb] 26) := ⟨_, rfl⟩
  have hxb : v4.Ext b4 := by rw [hb4]; repeat (first | exact World.Ext.refl _ | exact ⟨_, rfl⟩ | assumption | refine World.Ext.over ?_ _ | refine World.Ext.drewN ?_ _ | refine World.Ext.drew ?_ | refine World.Ext.alloc ?_ _ | refine World.Ext.setCell ?_ (by simp) _)
  have c10_ : b4.cell? ⟨v4.heap.size, 0, none⟩ = some (.slice ab ss.length cb) := by rw [hb4]; simp [go_sem]
  have HALL_ : Hid (∀ w', b4.Ext w' → w'.cell? ⟨q5, 0, none⟩ = some (.slice (some ⟨rb, ro, none⟩) ss.length pc) ∧ RowS w' (some ⟨rb, ro, none⟩) ss ∧ w'.cell? ⟨v4.heap.size, 0, none⟩ = some (.slice ab ss.length cb) ∧ RowS w' ab ss ∧ MatAt w' ra RA RC R ∧ True) := fun w' hx' => ⟨(HALL.out w' ((HX.out.trans hxb).trans hx')).1, (HALL.out w' ((HX.out.trans hxb).trans hx')).2.1, hx'.cell c10_, RowOf.ext HO.out (hxb.trans hx'), HMQ.out.ext (hxb.trans hx'), trivial⟩
  have HWB_ := Lib.hid (HWB.out.trans (HX.out.trans hxb))
  have HX_ : Hid (b4.Ext b4) := .refl _
  clear hxb c10_ HWB HX HALL
  have HALL := HALL_
  have HWB := HWB_
  have HX := HX_
  clear HALL_ HWB_ HX_
  clear HO HMQ
  go_upto_region 8 with fail
  rw [← hb4]
  clear hb4
  generalize v4.heap.size = q10 at *
  have c5 := (HALL.out b4 HX.out).1
  have lc5 := World.block_lt_of_cell? _ _ c5
  go_wp2_with fail
  refine (HED.out b4 (HALL.out b4 HX.out).2.1).mono ?_
  rintro e v5 ⟨rfl, hx⟩
  clear lc5 c5
  have HX_ := Lib.hid (HX.out.trans hx)
  clear HX
  have HX := HX_
  clear HX_
  clear HED
  clear hx
  have c5 := (HALL.out v5 HX.out).1
  have lc5 := World.block_lt_of_cell? _ _ c5
  go_wp2_with fail
  refine (HCB.out v5 (HALL.out v5 HX.out).2.1).mono ?_
  rintro e v6 ⟨rfl, hx⟩
  clear lc5 c5
  have HX_ := Lib.hid (HX.out.trans hx)
  clear HX
  have HX := HX_
  clear HX_
  clear HCB
  clear hx
  have c5 := (HALL.out v6 HX.out).1
  have lc5 := World.block_lt_of_cell? _ _ c5
  have c10 := (HALL.out v6 HX.out).2.2.1
  have lc10 := World.block_lt_of_cell? _ _ c10
  go_wp2_with fail
  refine (HSM.out v6 _ _ (HALL.out v6 HX.out).2.2.2.1 (HALL.out v6 HX.out).2.1).mono ?_
  rintro e v7 ⟨rfl, hx⟩
  clear lc5 c5 lc10 c10
  have HX_ := Lib.hid (HX.out.trans hx)
  clear HX
  have HX := HX_
  clear HX_
  clear HSM
  clear hx
  have hS0 : sumR (R.take 0) = 0 := by simp [sumR]
  have HS0 := Lib.hid hS0
  have HSS : Hid (∀ k, k < R.length → sumR (R.take (k + 1)) = sumR (R.take k) + (R.getD k []).getD 2 0) := fun k hk => sumR_take hk
  have HSE : Hid (sumR (R.take R.length) = nB) := by show _ = _; rw [List.take_length]; exact HSUM.out
  obtain ⟨S, hS⟩ : ∃ S : Nat → Int, S = fun k => sumR (R.take k) := ⟨_, rfl⟩
  have HS0' : Hid (S 0 = 0) := by rw [hS]; exact HS0.out
  have HSS' : Hid (∀ k, k < R.length → S (k + 1) = S k + (R.getD k []).getD 2 0) := by rw [hS]; exact HSS.out
  have HSE' : Hid (S R.length = nB) := by rw [hS]; exact HSE.out
  have HSB' : Hid (∀ k, 0 ≤ S k ∧ S k ≤ k * 64) := by rw [hS]; exact HSB.out
  clear hS0 HS0 HSS HSE HSB HSUM hS
  obtain ⟨M, hM⟩ : ∃ M : Nat → Nat → Nat, M = fun y x : Nat => sumN (fun x : Nat => diffN (px x y) (px (x - 1) y) + diffN (px x y) (px x (y - 1))) x := ⟨_, rfl⟩
  obtain ⟨N, hN⟩ : ∃ N : Nat → Nat, N = fun y : Nat => sumN (fun y : Nat => sumN (fun x : Nat => diffN (px x y) (px (x - 1) y) + diffN (px x y) (px x (y - 1))) (picW ss + 1)) y := ⟨_, rfl⟩
  have HM0 : Hid (∀ y, M y 0 = 0) := by rw [hM]; exact fun y => rfl
  have HM1 : Hid (∀ y x : Nat, M y (x + 1) = M y x + ((if (px x y != px (x - 1) y) then 1 else 0) + (if (px x y != px x (y - 1)) then 1 else 0))) := by rw [hM]; exact fun y x => by rw [← diffN_bne, ← diffN_bne]; rfl
  have HN0 : Hid (N 0 = 0) := by rw [hN]; exact rfl
  have HN1 : Hid (∀ y, N (y + 1) = N y + M y (picW ss + 1)) := by rw [hN, hM]; exact fun y => rfl
  have HNE : Hid (N (ss.length + 1) = oE) := by rw [hN, hedl.out]; exact rfl
  have HMX : Hid (∀ y x, M y x ≤ 2 * x) := fun y x => by
    induction x with
    | zero => rw [HM0.out]; omega
    | succ x ih => rw [HM1.out]; split <;> split <;> omega
  have HNX : Hid (∀ y, N y ≤ y * 20) := fun y => by
    induction y with
    | zero => rw [HN0.out]; omega
    | succ y ih => rw [HN1.out]; have := HMX.out y (picW ss + 1); omega
  clear hM hN hedl HES
  go_wp2
  go_loopw [16, 17] (fun s i wr => ∃ k : Nat, k ≤ R.length ∧ i = .int .i64 k ∧ s = .int .i64 (S k) ∧ Hid (b4.Ext wr)) (fun _ i _ => R.length - (intOf i).toNat)
  case atStart => exact ⟨0, Nat.zero_le _, rfl, by rw [HS0'.out], HX⟩
  case round =>
    clear HX
    obtain ⟨k, hk, rfl, rfl, HX⟩ := hrel
    obtain ⟨wa, rfl⟩ : ∃ wa : World, wa = wr := ⟨_, rfl⟩
    have hk0 : (0 : Int) ≤ (k : Int) := by omega
    by_cases hlt : k < R.length
    · have hlt' : (k : Int) < (R.length : Int) := by omega
      have hm8 := ((HALL.out wa HX.out).2.2.2.2.1) k hlt
      obtain ⟨xr, yr, nr, hrow, hn64⟩ := HFIT.out k hlt
      have HSK := Lib.hid (HSS'.out k hlt)
      have hsk := HSB'.out k
      rw [hrow] at hm8 HSK
      obtain ⟨⟨b1, o1, rfl, hc1⟩, hr1⟩ := hm8
      obtain ⟨br, or', hA, q2⟩ := hr1 2 (by simp)
      rw [hA] at hc1
      have q2 : wa.cell? ⟨br, or' + 2, none⟩ = some (.int .i64 nr) := q2
      have hc1 : wa.cell? ⟨b1, o1 + k, none⟩ = some (.slice (some ⟨br, or', none⟩) 3 (RC k)) := hc1
      have HSK2 : Hid (S (k + 1) = S k + (nr : Int)) := HSK.out
      have hsk2 : S k ≤ 4096 := by omega
      clear HSK hr1 hrow hA
      go_wp2
      go_roundw
      case rel => exact ⟨k + 1, by omega, by go_num, by rw [HSK2.out], HX⟩
      case measure => simp [intOf]; omega
    · have hke : ¬ (k : Int) < (R.length : Int) := by omega
      have hkk : k = R.length := by omega
      subst hkk
      rw [HSE'.out]
      clear HSE' HSS' HSB' HS0' HFIT
      go_wp2
      go_loopw [18, 19, 20] (fun s i _ wr => ∃ y : Nat, y ≤ ss.length + 1 ∧ i = .int .i64 y ∧ s = .int .i64 (N y) ∧ Hid (b4.Ext wr)) (fun _ i _ _ => ss.length + 1 - (intOf i).toNat)
      case atStart => exact ⟨0, Nat.zero_le _, rfl, by rw [HN0.out]; rfl, HX⟩
      case round =>
        clear HX
        obtain ⟨y, hy, rfl, rfl, HX⟩ := hrel
        obtain ⟨wb, rfl⟩ : ∃ wb : World, wb = wr := ⟨_, rfl⟩
        have hy0 : (0 : Int) ≤ (y : Int) := by omega
        have hny := HNX.out y
        by_cases hlty : y < ss.length + 1
        · have hlty' : (y : Int) ≤ (ss.length : Int) := by omega
          have HN2 := Lib.hid (HN1.out y)
          go_wp2
          go_loopw [18, 20] (fun s i wr => ∃ x : Nat, x ≤ picW ss + 1 ∧ i = .int .i64 x ∧ s = .int .i64 ((N y + M y x : Nat) : Int) ∧ Hid (b4.Ext wr)) (fun _ i _ => picW ss + 1 - (intOf i).toNat)
          case atStart => exact ⟨0, Nat.zero_le _, rfl, by rw [HM0.out]; rfl, HX⟩
          case round =>
            clear HX
            obtain ⟨x, hx, rfl, rfl, HX⟩ := hrel
            obtain ⟨wc', rfl⟩ : ∃ wz : World, wz = wr := ⟨_, rfl⟩
            have hx0 : (0 : Int) ≤ (x : Int) := by omega
            have hmx := HMX.out y x
            by_cases hltx : x < picW ss + 1
            · have hltx' : (x : Int) ≤ (picW ss : Int) := by omega
              have HM2 := Lib.hid (HM1.out y x)
              have hw1 : IntKind.i64.wrap ((x : Int) - 1) = (x : Int) - 1 := IntWalk.i64_in _ (by omega)
              have hw2 : IntKind.i64.wrap ((y : Int) - 1) = (y : Int) - 1 := IntWalk.i64_in _ (by omega)
              have c5 := (HALL.out wc' HX.out).1
              have lc5 := World.block_lt_of_cell? _ _ c5
              have HRW : Hid (RowS wc' (some ⟨rb, ro, none⟩) ss) := (HALL.out wc' HX.out).2.1
              have HA := Lib.hid (fun x1 => HBK.out (wc'.over x1) x y (RowOf.ext HRW.out ⟨_, rfl⟩))
              have HBX := Lib.hid (fun x1 => HBK.out (wc'.over x1) ((x : Int) - 1) y (RowOf.ext HRW.out ⟨_, rfl⟩))
              have HBY := Lib.hid (fun w' (hx : wc'.Ext w') => HBK.out w' x ((y : Int) - 1) (RowOf.ext HRW.out hx))
              have HA2 := Lib.hid (fun w' (hx : wc'.Ext w') => HBK.out w' x y (RowOf.ext HRW.out hx))
              have HC5 := Lib.hid (fun w' (hx : wc'.Ext w') => hx.cell c5)
              generalize px x y = pA at *
              generalize px ((x : Int) - 1) y = pX at *
              generalize px x ((y : Int) - 1) = pY at *
              go_wp2_with fail
              refine wp_region_over_lit (by kernel_rfl) (by kernel_rfl) ?_; (repeat (go_big_quiet_step ((first | (go_at_call_of 52 (Value.int .i64 ((x : Nat) : Int)); exact Calls.over_of (HA.out _)) | (go_at_call 52; exact Calls.over_of (HBX.out _)))))); refine wpQuiet_nil ?_; rintro _ ⟨x1, rfl⟩
              obtain ⟨wd, hwd⟩ : ∃ wd, wd = wc'.over x1 := ⟨_, rfl⟩
              have hxd : wc'.Ext wd := by rw [hwd]; exact ⟨x1, rfl⟩
              rw [← hwd]
              clear hwd lc5 c5
              have c5 := HC5.out wd hxd
              have HA3 := Lib.hid (fun x1 => HA2.out (wd.over x1) (hxd.trans ⟨_, rfl⟩))
              have HB3 := Lib.hid (fun x1 => HBY.out (wd.over x1) (hxd.trans ⟨_, rfl⟩))
              have HXD := Lib.hid (HX.out.trans hxd)
              clear hxd HA2 HBY HA HBX HX HRW HC5
              cases hd1 : (pA == pX)
              all_goals
                simp only [bne, hd1, Bool.not_true, Bool.not_false, if_true, if_false, Bool.false_eq_true, Nat.zero_add] at HM2
                go_wp2_with fail
                refine wp_region_over_lit (by kernel_rfl) (by kernel_rfl) ?_; (repeat (go_big_quiet_step ((first | (go_at_call_of 52 (Value.int .i64 ((y : Nat) : Int)); exact Calls.over_of (HA3.out _)) | (go_at_call 52; exact Calls.over_of (HB3.out _)))))); refine wpQuiet_nil ?_; rintro _ ⟨x1, rfl⟩
                have HXE : Hid (b4.Ext (wd.over x1)) := HXD.out.trans ⟨x1, rfl⟩
                clear c5 HA3 HB3 HXD
                cases hd2 : (pA == pY)
                all_goals
                  have HM3 := HM2
                  clear HM2
                  simp only [hd2, Bool.not_true, Bool.not_false, if_true, if_false, Bool.false_eq_true, Nat.add_zero] at HM3
                  go_wp2
                  go_roundw
                  case rel => exact ⟨x + 1, by omega, by go_num, by rw [HM3.out]; go_num, HXE⟩
                  case measure => simp [intOf]; omega
            · have hxe : ¬ (x : Int) ≤ (picW ss : Int) := by omega
              have hxx : x = picW ss + 1 := by omega
              go_wp2
              go_roundw
              case rel => exact ⟨y + 1, by omega, by go_num, by rw [HN2.out, ← hxx], HX⟩
              case measure => simp [intOf]; omega
        · have hye : ¬ (y : Int) ≤ (ss.length : Int) := by omega
          have hyy : y = ss.length + 1 := by omega
          have HFIN := Lib.hid ((HWB.out.trans HX.out))
          rw [hyy, HNE.out]
          go_wp2
          go_ret
          exact ⟨by simp, HFIN.out⟩
end Go.Proofs.Ytpdmfnndegcjjaa
