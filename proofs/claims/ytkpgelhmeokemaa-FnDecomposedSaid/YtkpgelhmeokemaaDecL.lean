/- FnDecomposed: the law's walk. -/
import Derived.Test.YtkpgelhmeokemaaFacR
import Derived.Test.YtkpgelhmeokemaaFrmF
import Derived.Test.YtkpgelhmeokemaaSamB
import Derived.Test.YtkpgelhmeokemaaFitL
import Derived.Deep.CutBlock
namespace Go.Proofs.Ytkpgelhmeokemaa
open Go Go.RowKit
theorem mid_in {ss : List ByteArray} (h : PicIn 7 ss) {q : Int × Int} (hq : q ∈ midL (fun i j => pxl (picW ss) ss.length (picL ss) i j) (min (picW ss) 4) (min ss.length 4 * min (picW ss) 4)) : 6 ≤ q.1 ∧ q.1 ≤ 9 ∧ 6 ≤ q.2 ∧ q.2 ≤ 9 := by
  obtain ⟨v1, v2, v3, v4, -⟩ := picOk_spec h.1
  exact midL_in (by omega) (by omega) (by omega) hq
theorem dec_rows {l : List Bool} (hl : l.length = 16 * 16) : picOk (picRows 16 16 l) = true ∧ picW (picRows 16 16 l) = 16 ∧ (picRows 16 16 l).length = 16 ∧ picL (picRows 16 16 l) = l :=
  ⟨picOk_rows (by omega) (by omega) (by omega) (by omega) hl, picW_rows (by omega) hl, picRows_len _ _ _, picL_rows hl⟩
theorem dec_dilate (l : List Bool) (hl : l.length = 16 * 16) (os : List (Int × Int)) (ho : elemOk os = true) (a : Option Addr) (c : Nat) (ae : Option Addr) (ce : Nat) (w : World) (hm : RowS w a (picRows 16 16 l)) (hme : RowP w ae os) :
    Calls Try.prog 20 #[.agg #[.slice a 16 c], .agg #[.slice ae os.length ce]] w (PicRet2 w (picRows 16 16 (mkl 16 16 fun x y => someB 16 16 l os x y)) true) := by
  obtain ⟨h1, h2, h3, h4⟩ := dec_rows hl
  obtain ⟨e1, e2, -⟩ := elemOk_spec ho
  have h := implDilate_any a c (picRows 16 16 l) ae ce os w (pic_bnd h1) (by show _ ≤ _; omega) hm hme
  rw [h1, ho, Bool.true_and, rowsIf_true rfl, h2, h3, h4] at h
  exact h
set_option maxRecDepth 8000 in
set_option maxHeartbeats 6400000 in
theorem fnDecomposed_any (a : Option Addr) (c : Nat) (zs : List Int) (a2 : Option Addr) (c2 : Nat) (ys : List Int) (w : World) (h : CodeAt w a zs) (h2 : CodeAt w a2 ys) :
    Calls Try.prog 4 #[.slice a zs.length c, .slice a2 ys.length c2] w fun e w' => e = .returned (.bool true) ∧ w.Ext w' := by
  obtain ⟨iw, hiw, hz0, hz1, hz2⟩ := info_parts Try.infoSpotG
  have HLO := Lib.hid (long_any a zs.length c a2 ys.length c2 w h.2.2 h2.2.2)
  have HP := Lib.hid (fun w' (hx : w.Ext w') => pic7_any a c zs w' (h.ext hx))
  have HE1 := Lib.hid (fun w' (hx : w.Ext w') => b10Element_any a c zs w' (h.ext hx))
  have HE2 := Lib.hid (fun w' (hx : w.Ext w') => b10Element_any a2 c2 ys w' (h2.ext hx))
  clear h h2
  go_enter Try.func4, Try.ntmps4
  have HWB : Hid (w.Ext w) := .refl _
  have HX : Hid (w.Ext w) := .refl _
  go_wp2_with fail
  refine (HLO.out).mono ?_
  rintro e v1 ⟨t, rfl, hx, -⟩
  have HX_ := Lib.hid (HX.out.trans hx)
  clear HX
  have HX := HX_
  clear HX_
  clear hx
  cases t
  rotate_left
  · go_wp2
    go_ret
    exact ⟨rfl, HX.out⟩
  go_wp2_with fail
  refine (HP.out v1 (HWB.out.trans HX.out)).mono ?_
  rintro e v2 ⟨pa, pc, ss, rfl, hpic, hx, hrow⟩
  have HX_ := Lib.hid (HX.out.trans hx)
  clear HX
  have HX := HX_
  clear HX_
  have HPIC := Lib.hid hpic
  have HROW := Lib.hid hrow.row
  clear hpic hrow HP
  clear hx
  obtain ⟨b2, hb2⟩ : ∃ b2, b2 = v2.alloc (.cells #[.slice pa ss.length pc] 26) := ⟨_, rfl⟩
  have hxb : v2.Ext b2 := by rw [hb2]; repeat (first | exact World.Ext.refl _ | exact ⟨_, rfl⟩ | assumption | refine World.Ext.over ?_ _ | refine World.Ext.drewN ?_ _ | refine World.Ext.drew ?_ | refine World.Ext.alloc ?_ _ | refine World.Ext.setCell ?_ (by simp) _)
  have c5_ : b2.cell? ⟨v2.heap.size, 0, none⟩ = some (.slice pa ss.length pc) := by rw [hb2]; simp [go_sem]
  have HALL_ : Hid (∀ w', b2.Ext w' → w'.cell? ⟨v2.heap.size, 0, none⟩ = some (.slice pa ss.length pc) ∧ RowS w' pa ss ∧ True) := fun w' hx' => ⟨hx'.cell c5_, RowOf.ext HROW.out (hxb.trans hx'), trivial⟩
  have HWB_ := Lib.hid (HWB.out.trans (HX.out.trans hxb))
  have HX_ : Hid (b2.Ext b2) := .refl _
  clear hxb c5_ HWB HX
  have HALL := HALL_
  have HWB := HWB_
  have HX := HX_
  clear HALL_ HWB_ HX_
  go_upto_region 4 with fail
  rw [← hb2]
  clear hb2
  generalize v2.heap.size = q5 at *
  have HMID := Lib.hid (fun q hq => mid_in HPIC.out (q := q) hq)
  obtain ⟨g1, g2, g3, g4, g5, -⟩ := picOk_spec HPIC.out.1
  have g6 := HPIC.out.2.1
  have g7 := HPIC.out.2.2
  have HBK := Lib.hid (fun w' (x y : Int) (h : RowS w' pa ss) => b10Black_any pa pc ss x y w' HPIC.out.1 (pic_bnd HPIC.out.1) h)
  obtain ⟨h4, hh4⟩ : ∃ h4, h4 = min ss.length 4 := ⟨_, rfl⟩
  obtain ⟨k4, hk4⟩ : ∃ k4, k4 = min (picW ss) 4 := ⟨_, rfl⟩
  obtain ⟨f, hf⟩ : ∃ f : Nat → Nat → Bool, f = fun (i j : Nat) => pxl (picW ss) ss.length (picL ss) (i : Int) (j : Int) := ⟨_, rfl⟩
  have HF : Hid (∀ i j : Nat, pxl (picW ss) ss.length (picL ss) (i : Int) (j : Int) = f i j) := fun i j => by rw [hf]
  rw [← hf, ← hh4, ← hk4] at HMID
  have HROW0 : Hid (∀ w', RowS w' pa ss → ∃ rb ro row, pa = some ⟨rb, ro, none⟩ ∧ w'.cell? ⟨rb, ro, none⟩ = some (.string row) ∧ row.size = picW ss) := fun w' h => by
    obtain ⟨rb, ro, e, hc⟩ := h 0 (show 0 < ss.length by omega)
    exact ⟨rb, ro, _, e, hc, rfl⟩
  clear hf g5
  generalize picW ss = W at *
  clear HROW
  have hk1 : 1 ≤ k4 := by omega
  have hk14 : k4 ≤ 4 := by omega
  have hh14 : h4 ≤ 4 := by omega
  have HK4 := Lib.hid hk4
  have HH4 := Lib.hid hh4
  clear hk4 hh4
  have HS0 : Hid (SmSt b2 (midL f k4 (0 * k4)) (.slice (some ⟨b2.heap.size, 0, none⟩) 0 0) (b2.alloc (.cells #[] 45))) := by rw [Nat.zero_mul]; exact SmSt.start (.refl _)
  obtain ⟨rb, ro, -, rfl, -, -⟩ := HROW0.out b2 (HALL.out b2 HX.out).2.1
  have HROW1 : Hid (∀ w', RowS w' (some ⟨rb, ro, none⟩) ss → ∃ row, w'.cell? ⟨rb, ro, none⟩ = some (.string row) ∧ row.size = W) := fun w' h => by
    obtain ⟨rb', ro', row, e, h1, h2⟩ := HROW0.out w' h
    cases e
    exact ⟨row, h1, h2⟩
  clear HROW0
  have hH0 : (0 : Int) < (ss.length : Int) := by omega
  go_upto_block 0 with fail
  go_cut [6] (fun v wc => Hid (SmSt b2 (midL f k4 (h4 * k4)) v wc))
  case first =>
    go_wp2
    go_loopw [6, 7, 8] (fun v i _ wr => ∃ y : Nat, y ≤ h4 ∧ i = .int .i64 y ∧ Hid (SmSt b2 (midL f k4 (y * k4)) v wr)) (fun _ i _ _ => h4 - (intOf i).toNat)
    case atStart => exact ⟨0, Nat.zero_le _, rfl, HS0⟩
    case round =>
      clear HS0
      obtain ⟨y, hy, rfl, HS⟩ := hrel
      obtain ⟨wa, rfl⟩ : ∃ wa : World, wa = wr := ⟨_, rfl⟩
      clear HX
      have HX := Lib.hid HS.out.x
      have hy0 : (0 : Int) ≤ (y : Int) := by omega
      have c5 := (HALL.out wa HX.out).1
      have lc5 := World.block_lt_of_cell? _ _ c5
      by_cases hlty : y < ss.length
      · have hlty' : (y : Int) < (ss.length : Int) := by omega
        by_cases hy4 : y < 4
        · have hy4' : (y : Int) < 4 := by omega
          have hlt4 : y < h4 := by have := HH4.out; omega
          have HSI : Hid (SmSt b2 (midL f k4 (y * k4 + 0)) u6 wa) := HS
          clear HS
          go_wp2
          clear c5 lc5
          go_loopw [6, 8] (fun v i wr => ∃ x : Nat, x ≤ k4 ∧ i = .int .i64 x ∧ Hid (SmSt b2 (midL f k4 (y * k4 + x)) v wr)) (fun _ i _ => k4 - (intOf i).toNat)
          case atStart => exact ⟨0, Nat.zero_le _, rfl, HSI⟩
          case round =>
            clear HSI HX
            obtain ⟨x, hx, rfl, HS⟩ := hrel
            obtain ⟨wb, rfl⟩ : ∃ wb : World, wb = wr := ⟨_, rfl⟩
            have HX := Lib.hid HS.out.x
            have hx0 : (0 : Int) ≤ (x : Int) := by omega
            have c5 := (HALL.out wb HX.out).1
            have lc5 := World.block_lt_of_cell? _ _ c5
            have hr5 := (HALL.out wb HX.out).2.1
            obtain ⟨row, hrc, hrs⟩ := HROW1.out wb hr5
            have hrl := World.block_lt_of_cell? _ _ hrc
            by_cases hltx : x < W
            · have hltx' : (x : Int) < (row.size : Int) := by omega
              by_cases hx4 : x < 4
              · have hx4' : (x : Int) < 4 := by omega
                have hxn : x + 1 ≤ k4 := by have := HK4.out; omega
                have hb := HBK.out wb (x : Int) (y : Int) hr5
                rw [HF.out] at hb
                have HB := Lib.hid hb
                clear hb hr5
                go_wp2_with fail
                refine HB.out.mono ?_
                rintro e w5 ⟨rfl, hx5⟩
                have HS5 := Lib.hid (HS.out.ext hx5)
                clear hx5 HS HX c5 lc5 hrc hrl HB
                cases hfx : f x y
                · have HS9 : Hid (SmSt b2 (midL f k4 (y * k4 + (x + 1))) u6 w5) := by rw [midL_no (by have := HK4.out; omega) hfx]; exact HS5
                  clear HS5
                  go_wp2
                  go_roundw
                  case rel => exact ⟨x + 1, hxn, by go_num, HS9⟩
                  case measure => simp [intOf]; omega
                · have HNX : Hid (∀ (o : Obj) (v' : Value) (w4 : World), (w5.alloc o).grownBy w4 u6.ownBlock → w4.ownsRow b2.heap.size 45 2 v' ((midL f k4 (y * k4 + x)).length + 1) ((flatP (midL f k4 (y * k4 + x))).map (Value.int .i64) ++ [.int .i64 ((x : Int) + 6), .int .i64 ((y : Int) + 6)]) → SmSt b2 (midL f k4 (y * k4 + (x + 1))) v' w4) := fun o v' w4 hg ho => by rw [midL_yes (by have := HK4.out; omega) hfx]; exact HS5.out.push hg ho
                  have hll : (midL f k4 (y * k4 + x)).length ≤ 16 := by
                    have h1 := midL_len f k4 (y * k4 + x)
                    have h2 : (y + 1) * k4 ≤ 4 * 4 := Nat.mul_le_mul (by omega) hk14
                    rw [Nat.succ_mul] at h2
                    have := HK4.out
                    omega
                  generalize midL f k4 (y * k4 + x) = LL at *
                  have hown : w5.ownsRow b2.heap.size 45 2 u6 LL.length ((flatP LL).map (Value.int .i64)) := HS5.out.own
                  have HLE : Hid (∀ o : Obj, b2.heap.size ≤ (w5.alloc o).heap.size) := fun o => (HS5.out.x.alloc o).size
                  have HB1 : Hid (LL.length + 1 ≤ maxLen) := by show _ ≤ _; unfold maxLen; omega
                  have HB2 : Hid ((LL.length + 1) * 16 ≤ 140737488355328) := by show _ ≤ _; omega
                  clear HS5
                  go_wp2_with (at_builtin; refine wpList_append_own_at _ rfl _ _ 42 rfl b2.heap.size 45 iw (.agg #[.int .i64 0, .int .i64 0]) 2 16 Try.underlying42 hiw hz0 hz1 hz2 rfl (by decide) _ _ _ rfl (hown.alloc _) ⟨w5.heap.size, 0, none⟩ 1 1 [.int .i64 ((x : Int) + 6), .int .i64 ((y : Int) + 6)] rfl rfl (cell_two_new _ _ _ _) (by simp [Value.oneCell']) HB1.out HB2.out (HLE.out _) (fun v' w4 hown' hgrow _ hat => ?_); have HS9 := Lib.hid (HNX.out _ _ _ hgrow hown'); clear hgrow hown' hown hat)
                  go_roundw
                  case rel => exact ⟨x + 1, hxn, by go_num, HS9⟩
                  case measure => simp [intOf]; omega
              · have hx4' : ¬ (x : Int) < 4 := by omega
                clear hr5
                have hxe : x = k4 := by have := HK4.out; omega
                have HS9 : Hid (SmSt b2 (midL f k4 ((y + 1) * k4)) u6 wb) := by have h := HS.out; rw [hxe, ← Nat.succ_mul] at h; exact h
                clear HS HX hxe
                go_wp2
                go_roundw
                case rel => exact ⟨y + 1, by omega, by go_num, HS9⟩
                case measure => simp [intOf]; omega
            · have hltx' : ¬ (x : Int) < (row.size : Int) := by omega
              clear hr5
              have hxe : x = k4 := by have := HK4.out; omega
              have HS9 : Hid (SmSt b2 (midL f k4 ((y + 1) * k4)) u6 wb) := by have h := HS.out; rw [hxe, ← Nat.succ_mul] at h; exact h
              clear HS HX hxe
              go_wp2
              go_roundw
              case rel => exact ⟨y + 1, by omega, by go_num, HS9⟩
              case measure => simp [intOf]; omega
        · have hy4' : ¬ (y : Int) < 4 := by omega
          have hye : y = h4 := by have := HH4.out; omega
          subst hye
          clear HX
          go_wp2
          go_meet
          exact HS
      · have hlty' : ¬ (y : Int) < (ss.length : Int) := by omega
        have hye : y = h4 := by have := HH4.out; omega
        subst hye
        clear HX
        go_wp2
        go_meet
        exact HS
  case rest =>
    clear HS0 HX HBK HROW1 HF
    obtain ⟨wy, hwy⟩ : ∃ z : World, z = wc := ⟨_, rfl⟩
    rw [← hwy] at hcut ⊢
    clear hwy
    have HS := hcut
    clear hcut
    have HX := Lib.hid HS.out.x
    obtain ⟨SP, hSP⟩ : ∃ SP, SP = midL f k4 (h4 * k4) := ⟨_, rfl⟩
    have hspl := midL_len f k4 (h4 * k4)
    have hspm : h4 * k4 ≤ 4 * 4 := Nat.mul_le_mul hh14 hk14
    have HINM : Hid (∀ q, q ∈ SP → 6 ≤ q.1 ∧ q.1 ≤ 9 ∧ 6 ≤ q.2 ∧ q.2 ≤ 9) := fun q hq => by
      rw [hSP, HH4.out, HK4.out] at hq
      exact HMID.out q (by rw [HH4.out, HK4.out]; exact hq)
    rw [← hSP] at HS hspl
    clear hSP
    obtain ⟨g6, cap6, rfl⟩ := HS.out.form
    obtain ⟨nS, hnS⟩ : ∃ nS, nS = SP.length := ⟨_, rfl⟩
    have HNS := Lib.hid hnS
    have HPF : Hid (Calls Try.prog 17 #[.int .i64 16, .int .i64 16, .slice (some ⟨g6, 0, none⟩) SP.length cap6] wy (PicRet2 wy (picRows 16 16 (mkl 16 16 (inL SP))) true)) := pictureFrom_any 16 16 (some ⟨g6, 0, none⟩) cap6 SP wy (by omega) (by omega) (by omega) (by omega) (by omega) (fun q hq => by have := HINM.out q hq; omega) (GrowP.own HS.out.own).row
    rw [← hnS] at HPF ⊢
    clear hnS HS
    obtain ⟨l0, hl0⟩ : ∃ l0, l0 = mkl 16 16 (inL SP) := ⟨_, rfl⟩
    have HL0 : Hid (l0.length = 16 * 16) := by show _ = _; rw [hl0, mkl_len]
    have HML : Hid (∀ x y, pxl 16 16 l0 x y = true → 6 ≤ x ∧ x ≤ 9 ∧ 6 ≤ y ∧ y ≤ 9) := by rw [hl0]; exact inL_mid HINM.out
    rw [← hl0] at HPF
    have HRL : Hid (∀ l : List Bool, (picRows 16 16 l).length = 16) := fun l => picRows_len _ _ _
    clear hl0 HINM HMID hspl hspm HNS HH4 HK4
    go_wp2_with fail
    refine (HPF.out).mono ?_
    rintro e v3 ⟨a9, c9, rfl, hx, ho⟩
    have HX_ := Lib.hid (HX.out.trans hx)
    clear HX
    have HX := HX_
    clear HX_
    rw [HRL.out]
    have HO9 := Lib.hid ho.row
    clear ho HPF
    clear hx
    obtain ⟨b3, hb3⟩ : ∃ b3, b3 = v3.alloc (.cells #[.slice a9 16 c9] 26) := ⟨_, rfl⟩
    have hxb : v3.Ext b3 := by rw [hb3]; repeat (first | exact World.Ext.refl _ | exact ⟨_, rfl⟩ | assumption | refine World.Ext.over ?_ _ | refine World.Ext.drewN ?_ _ | refine World.Ext.drew ?_ | refine World.Ext.alloc ?_ _ | refine World.Ext.setCell ?_ (by simp) _)
    have c9x_ : b3.cell? ⟨v3.heap.size, 0, none⟩ = some (.slice a9 16 c9) := by rw [hb3]; simp [go_sem]
    have HALL_ : Hid (∀ w', b3.Ext w' → w'.cell? ⟨q5, 0, none⟩ = some (.slice (some ⟨rb, ro, none⟩) ss.length pc) ∧ RowS w' (some ⟨rb, ro, none⟩) ss ∧ w'.cell? ⟨v3.heap.size, 0, none⟩ = some (.slice a9 16 c9) ∧ RowS w' a9 (picRows 16 16 l0) ∧ True) := fun w' hx' => ⟨(HALL.out w' ((HX.out.trans hxb).trans hx')).1, (HALL.out w' ((HX.out.trans hxb).trans hx')).2.1, hx'.cell c9x_, RowOf.ext HO9.out (hxb.trans hx'), trivial⟩
    have HWB_ := Lib.hid (HWB.out.trans (HX.out.trans hxb))
    have HX_ : Hid (b3.Ext b3) := .refl _
    clear hxb c9x_ HWB HX HALL
    have HALL := HALL_
    have HWB := HWB_
    have HX := HX_
    clear HALL_ HWB_ HX_
    go_upto_region 14 with fail
    rw [← hb3]
    clear hb3
    generalize v3.heap.size = q9 at *
    go_wp2_with fail
    refine (HE1.out b3 (HWB.out.trans HX.out)).mono ?_
    rintro e v4 ⟨aa, ca, da, rfl, hel, hne, hl4, hx, hrow⟩
    have HX_ := Lib.hid (HX.out.trans hx)
    clear HX
    have HX := HX_
    clear HX_
    have HEL11 := Lib.hid hel
    have HNE11 := Lib.hid hne
    have HRO11 := Lib.hid hrow
    clear hel hne hrow HE1
    clear hx
    have hl11 := hl4
    clear hl4
    obtain ⟨b4, hb4⟩ : ∃ b4, b4 = v4.alloc (.cells #[.slice aa da.length ca] 48) := ⟨_, rfl⟩
    have hxb : v4.Ext b4 := by rw [hb4]; repeat (first | exact World.Ext.refl _ | exact ⟨_, rfl⟩ | assumption | refine World.Ext.over ?_ _ | refine World.Ext.drewN ?_ _ | refine World.Ext.drew ?_ | refine World.Ext.alloc ?_ _ | refine World.Ext.setCell ?_ (by simp) _)
    have c11x_ : b4.cell? ⟨v4.heap.size, 0, none⟩ = some (.slice aa da.length ca) := by rw [hb4]; simp [go_sem]
    have HALL_ : Hid (∀ w', b4.Ext w' → w'.cell? ⟨q5, 0, none⟩ = some (.slice (some ⟨rb, ro, none⟩) ss.length pc) ∧ RowS w' (some ⟨rb, ro, none⟩) ss ∧ w'.cell? ⟨q9, 0, none⟩ = some (.slice a9 16 c9) ∧ RowS w' a9 (picRows 16 16 l0) ∧ w'.cell? ⟨v4.heap.size, 0, none⟩ = some (.slice aa da.length ca) ∧ RowP w' aa da ∧ True) := fun w' hx' => ⟨(HALL.out w' ((HX.out.trans hxb).trans hx')).1, (HALL.out w' ((HX.out.trans hxb).trans hx')).2.1, (HALL.out w' ((HX.out.trans hxb).trans hx')).2.2.1, (HALL.out w' ((HX.out.trans hxb).trans hx')).2.2.2.1, hx'.cell c11x_, RowP.ext HRO11.out (hxb.trans hx'), trivial⟩
    have HWB_ := Lib.hid (HWB.out.trans (HX.out.trans hxb))
    have HX_ : Hid (b4.Ext b4) := .refl _
    clear hxb c11x_ HWB HX HALL
    have HALL := HALL_
    have HWB := HWB_
    have HX := HX_
    clear HALL_ HWB_ HX_
    go_upto_region 15 with fail
    rw [← hb4]
    clear hb4
    generalize v4.heap.size = q11 at *
    go_wp2_with fail
    refine (HE2.out b4 (HWB.out.trans HX.out)).mono ?_
    rintro e v5 ⟨ab, cb, db, rfl, hel, hne, hl4, hx, hrow⟩
    have HX_ := Lib.hid (HX.out.trans hx)
    clear HX
    have HX := HX_
    clear HX_
    have HEL12 := Lib.hid hel
    have HNE12 := Lib.hid hne
    have HRO12 := Lib.hid hrow
    clear hel hne hrow HE2
    clear hx
    have hl12 := hl4
    clear hl4
    obtain ⟨b5, hb5⟩ : ∃ b5, b5 = v5.alloc (.cells #[.slice ab db.length cb] 48) := ⟨_, rfl⟩
    have hxb : v5.Ext b5 := by rw [hb5]; repeat (first | exact World.Ext.refl _ | exact ⟨_, rfl⟩ | assumption | refine World.Ext.over ?_ _ | refine World.Ext.drewN ?_ _ | refine World.Ext.drew ?_ | refine World.Ext.alloc ?_ _ | refine World.Ext.setCell ?_ (by simp) _)
    have c12x_ : b5.cell? ⟨v5.heap.size, 0, none⟩ = some (.slice ab db.length cb) := by rw [hb5]; simp [go_sem]
    have HALL_ : Hid (∀ w', b5.Ext w' → w'.cell? ⟨q5, 0, none⟩ = some (.slice (some ⟨rb, ro, none⟩) ss.length pc) ∧ RowS w' (some ⟨rb, ro, none⟩) ss ∧ w'.cell? ⟨q9, 0, none⟩ = some (.slice a9 16 c9) ∧ RowS w' a9 (picRows 16 16 l0) ∧ w'.cell? ⟨q11, 0, none⟩ = some (.slice aa da.length ca) ∧ RowP w' aa da ∧ w'.cell? ⟨v5.heap.size, 0, none⟩ = some (.slice ab db.length cb) ∧ RowP w' ab db ∧ True) := fun w' hx' => ⟨(HALL.out w' ((HX.out.trans hxb).trans hx')).1, (HALL.out w' ((HX.out.trans hxb).trans hx')).2.1, (HALL.out w' ((HX.out.trans hxb).trans hx')).2.2.1, (HALL.out w' ((HX.out.trans hxb).trans hx')).2.2.2.1, (HALL.out w' ((HX.out.trans hxb).trans hx')).2.2.2.2.1, (HALL.out w' ((HX.out.trans hxb).trans hx')).2.2.2.2.2.1, hx'.cell c12x_, RowP.ext HRO12.out (hxb.trans hx'), trivial⟩
    have HWB_ := Lib.hid (HWB.out.trans (HX.out.trans hxb))
    have HX_ : Hid (b5.Ext b5) := .refl _
    clear hxb c12x_ HWB HX HALL
    have HALL := HALL_
    have HWB := HWB_
    have HX := HX_
    clear HALL_ HWB_ HX_
    have HSOK : Hid (elemOk (sumL da db) = true) := sum_ok HEL11.out HEL12.out HNE11.out HNE12.out hl11 hl12
    have HSLN : Hid ((sumL da db).length ≤ 16) := by
      have h1 := setL_len (sumP da db)
      rw [sumP_len] at h1
      exact Nat.le_trans h1 (Nat.mul_le_mul hl11 hl12)
    have HGS : Hid (mkl 16 16 (fun x y => someB 16 16 (mkl 16 16 fun i j => someB 16 16 l0 da i j) db x y) = mkl 16 16 (fun x y => someB 16 16 l0 (sumL da db) x y)) := mkl_congr fun x y _ _ => grow_sum HML.out HNE11.out HNE12.out x y
    have HSUM : Hid (∀ w', RowP w' aa da → RowP w' ab db → Calls Try.prog 19 #[.agg #[.slice aa da.length ca], .agg #[.slice ab db.length cb]] w' (ElmRet w' (sumL da db))) := fun w' h1 h2 => sumElements_any aa ca da ab cb db w' HEL11.out HEL12.out HSOK.out h1 h2
    have HDA : Hid (∀ w', RowS w' a9 (picRows 16 16 l0) → RowP w' aa da → Calls Try.prog 20 #[.agg #[.slice a9 16 c9], .agg #[.slice aa da.length ca]] w' (PicRet2 w' (picRows 16 16 (mkl 16 16 fun x y => someB 16 16 l0 da x y)) true)) := fun w' h1 h2 => dec_dilate l0 HL0.out da HEL11.out a9 c9 aa ca w' h1 h2
    have HDB : Hid (∀ w' a15 c15, RowS w' a15 (picRows 16 16 (mkl 16 16 fun x y => someB 16 16 l0 da x y)) → RowP w' ab db → Calls Try.prog 20 #[.agg #[.slice a15 16 c15], .agg #[.slice ab db.length cb]] w' (PicRet2 w' (picRows 16 16 (mkl 16 16 fun x y => someB 16 16 l0 (sumL da db) x y)) true)) := fun w' a15 c15 h1 h2 => by
      have h := dec_dilate _ (by rw [mkl_len]) db HEL12.out a15 c15 ab cb w' h1 h2
      rw [HGS.out] at h
      exact h
    have HDS : Hid (∀ w' as' cs, RowS w' a9 (picRows 16 16 l0) → RowP w' as' (sumL da db) → Calls Try.prog 20 #[.agg #[.slice a9 16 c9], .agg #[.slice as' (sumL da db).length cs]] w' (PicRet2 w' (picRows 16 16 (mkl 16 16 fun x y => someB 16 16 l0 (sumL da db) x y)) true)) := fun w' as' cs h1 h2 => dec_dilate l0 HL0.out _ HSOK.out a9 c9 as' cs w' h1 h2
    have HSAME : Hid (∀ w' x y cx cy, RowS w' x (picRows 16 16 (mkl 16 16 fun x y => someB 16 16 l0 (sumL da db) x y)) → RowS w' y (picRows 16 16 (mkl 16 16 fun x y => someB 16 16 l0 (sumL da db) x y)) → Calls Try.prog 21 #[.agg #[.slice x 16 cx], .agg #[.slice y 16 cy]] w' fun e w'' => e = .returned (.bool true) ∧ w'.Ext w'') := fun w' x y cx cy h1 h2 => by
      have h := b10Same_any x y cx cy _ _ w' (by rw [HRL.out]; omega) h1 h2
      rw [decide_eq_true rfl, HRL.out] at h
      exact h
    have HFI := Lib.hid (fun w' as' cs (h : RowP w' as' (sumL da db)) => implFactor_any as' cs (sumL da db) w' HSOK.out h)
    have HFS := Lib.hid (fun w' as' cs (h : RowP w' as' (sumL da db)) => specFactor_any as' cs (sumL da db) w' HSOK.out HSLN.out h)
    have HM1 := Lib.hid (fun w' (h : RowP w' aa da) => mirrorElement_any aa ca da w' HEL11.out h)
    have HMM : Hid (mirL (mirL da) = da) := mir_mir (elemOk_incr HEL11.out)
    have HM2 : Hid (∀ w' am cm, RowP w' am (mirL da) → Calls Try.prog 24 #[.agg #[.slice am (mirL da).length cm]] w' (ElmRet w' da)) := fun w' am cm h => by
      have h := mirrorElement_any am cm (mirL da) w' (mir_ok HEL11.out) h
      rw [HMM.out] at h
      exact h
    have HFG : Hid (∀ k, k < 45 → facG (sumL da db) k = true → ∀ w' af cf ag cg, RowP w' af [(0, 0), facC k] → RowP w' ag (facB (sumL da db) (facC k)) → Calls Try.prog 19 #[.agg #[.slice af 2 cf], .agg #[.slice ag (facB (sumL da db) (facC k)).length cg]] w' (ElmRet w' (sumL da db))) := fun k hk hg w' af cf ag cg h1 h2 => by
      obtain ⟨f1, f2, f3⟩ := fac_ok HSOK.out hk hg
      have h := sumElements_any af cf [(0, 0), facC k] ag cg (facB (sumL da db) (facC k)) w' f1 f2 (by rw [f3]; exact HSOK.out) h1 h2
      rw [f3] at h
      exact h
    have hal : da.length ≤ 4 := hl11
    clear HGS HML HMM HSOK HEL11 HEL12 HNE11 HNE12 hl11 hl12
    generalize (fun x y : Nat => someB 16 16 l0 (sumL da db) x y) = gS at *
    generalize (fun x y : Nat => someB 16 16 l0 da x y) = gA at *
    have hSln := HSLN.out
    generalize sumL da db = S at *
    go_upto_region 16 with fail
    rw [← hb5]
    clear hb5
    generalize v5.heap.size = q12 at *
    have c11x := (HALL.out b5 HX.out).2.2.2.2.1
    have lc11x := World.block_lt_of_cell? _ _ c11x
    have c12x := (HALL.out b5 HX.out).2.2.2.2.2.2.1
    have lc12x := World.block_lt_of_cell? _ _ c12x
    go_wp2_with fail
    refine (HSUM.out b5 (HALL.out b5 HX.out).2.2.2.2.2.1 (HALL.out b5 HX.out).2.2.2.2.2.2.2.1).mono ?_
    rintro e v6 ⟨a13, c13, rfl, hx, hrow⟩
    clear lc11x c11x lc12x c12x
    have HX_ := Lib.hid (HX.out.trans hx)
    clear HX
    have HX := HX_
    clear HX_
    have HR13 := Lib.hid hrow
    clear hrow HSUM
    clear hx
    obtain ⟨b6, hb6⟩ : ∃ b6, b6 = v6.alloc (.cells #[.slice a13 S.length c13] 48) := ⟨_, rfl⟩
    have hxb : v6.Ext b6 := by rw [hb6]; repeat (first | exact World.Ext.refl _ | exact ⟨_, rfl⟩ | assumption | refine World.Ext.over ?_ _ | refine World.Ext.drewN ?_ _ | refine World.Ext.drew ?_ | refine World.Ext.alloc ?_ _ | refine World.Ext.setCell ?_ (by simp) _)
    have c13x_ : b6.cell? ⟨v6.heap.size, 0, none⟩ = some (.slice a13 S.length c13) := by rw [hb6]; simp [go_sem]
    have HALL_ : Hid (∀ w', b6.Ext w' → w'.cell? ⟨q5, 0, none⟩ = some (.slice (some ⟨rb, ro, none⟩) ss.length pc) ∧ RowS w' (some ⟨rb, ro, none⟩) ss ∧ w'.cell? ⟨q9, 0, none⟩ = some (.slice a9 16 c9) ∧ RowS w' a9 (picRows 16 16 l0) ∧ w'.cell? ⟨q11, 0, none⟩ = some (.slice aa da.length ca) ∧ RowP w' aa da ∧ w'.cell? ⟨q12, 0, none⟩ = some (.slice ab db.length cb) ∧ RowP w' ab db ∧ w'.cell? ⟨v6.heap.size, 0, none⟩ = some (.slice a13 S.length c13) ∧ RowP w' a13 S ∧ True) := fun w' hx' => ⟨(HALL.out w' ((HX.out.trans hxb).trans hx')).1, (HALL.out w' ((HX.out.trans hxb).trans hx')).2.1, (HALL.out w' ((HX.out.trans hxb).trans hx')).2.2.1, (HALL.out w' ((HX.out.trans hxb).trans hx')).2.2.2.1, (HALL.out w' ((HX.out.trans hxb).trans hx')).2.2.2.2.1, (HALL.out w' ((HX.out.trans hxb).trans hx')).2.2.2.2.2.1, (HALL.out w' ((HX.out.trans hxb).trans hx')).2.2.2.2.2.2.1, (HALL.out w' ((HX.out.trans hxb).trans hx')).2.2.2.2.2.2.2.1, hx'.cell c13x_, RowP.ext HR13.out (hxb.trans hx'), trivial⟩
    have HWB_ := Lib.hid (HWB.out.trans (HX.out.trans hxb))
    have HX_ : Hid (b6.Ext b6) := .refl _
    clear hxb c13x_ HWB HX HALL
    have HALL := HALL_
    have HWB := HWB_
    have HX := HX_
    clear HALL_ HWB_ HX_
    go_upto_region 17 with fail
    rw [← hb6]
    clear hb6
    generalize v6.heap.size = q13 at *
    have c9x := (HALL.out b6 HX.out).2.2.1
    have lc9x := World.block_lt_of_cell? _ _ c9x
    have c11x := (HALL.out b6 HX.out).2.2.2.2.1
    have lc11x := World.block_lt_of_cell? _ _ c11x
    go_wp2_with fail
    refine (HDA.out b6 (HALL.out b6 HX.out).2.2.2.1 (HALL.out b6 HX.out).2.2.2.2.2.1).mono ?_
    rintro e v7 ⟨a15, c15, rfl, hx, ho⟩
    clear lc9x c9x lc11x c11x
    have HX_ := Lib.hid (HX.out.trans hx)
    clear HX
    have HX := HX_
    clear HX_
    rw [HRL.out]
    have HO15 := Lib.hid ho.row
    clear ho HDA
    clear hx
    obtain ⟨b7, hb7⟩ : ∃ b7, b7 = v7.alloc (.cells #[.slice a15 16 c15] 26) := ⟨_, rfl⟩
    have hxb : v7.Ext b7 := by rw [hb7]; repeat (first | exact World.Ext.refl _ | exact ⟨_, rfl⟩ | assumption | refine World.Ext.over ?_ _ | refine World.Ext.drewN ?_ _ | refine World.Ext.drew ?_ | refine World.Ext.alloc ?_ _ | refine World.Ext.setCell ?_ (by simp) _)
    have c15x_ : b7.cell? ⟨v7.heap.size, 0, none⟩ = some (.slice a15 16 c15) := by rw [hb7]; simp [go_sem]
    have HALL_ : Hid (∀ w', b7.Ext w' → w'.cell? ⟨q5, 0, none⟩ = some (.slice (some ⟨rb, ro, none⟩) ss.length pc) ∧ RowS w' (some ⟨rb, ro, none⟩) ss ∧ w'.cell? ⟨q9, 0, none⟩ = some (.slice a9 16 c9) ∧ RowS w' a9 (picRows 16 16 l0) ∧ w'.cell? ⟨q11, 0, none⟩ = some (.slice aa da.length ca) ∧ RowP w' aa da ∧ w'.cell? ⟨q12, 0, none⟩ = some (.slice ab db.length cb) ∧ RowP w' ab db ∧ w'.cell? ⟨q13, 0, none⟩ = some (.slice a13 S.length c13) ∧ RowP w' a13 S ∧ w'.cell? ⟨v7.heap.size, 0, none⟩ = some (.slice a15 16 c15) ∧ RowS w' a15 (picRows 16 16 (mkl 16 16 gA)) ∧ True) := fun w' hx' => ⟨(HALL.out w' ((HX.out.trans hxb).trans hx')).1, (HALL.out w' ((HX.out.trans hxb).trans hx')).2.1, (HALL.out w' ((HX.out.trans hxb).trans hx')).2.2.1, (HALL.out w' ((HX.out.trans hxb).trans hx')).2.2.2.1, (HALL.out w' ((HX.out.trans hxb).trans hx')).2.2.2.2.1, (HALL.out w' ((HX.out.trans hxb).trans hx')).2.2.2.2.2.1, (HALL.out w' ((HX.out.trans hxb).trans hx')).2.2.2.2.2.2.1, (HALL.out w' ((HX.out.trans hxb).trans hx')).2.2.2.2.2.2.2.1, (HALL.out w' ((HX.out.trans hxb).trans hx')).2.2.2.2.2.2.2.2.1, (HALL.out w' ((HX.out.trans hxb).trans hx')).2.2.2.2.2.2.2.2.2.1, hx'.cell c15x_, RowOf.ext HO15.out (hxb.trans hx'), trivial⟩
    have HWB_ := Lib.hid (HWB.out.trans (HX.out.trans hxb))
    have HX_ : Hid (b7.Ext b7) := .refl _
    clear hxb c15x_ HWB HX HALL
    have HALL := HALL_
    have HWB := HWB_
    have HX := HX_
    clear HALL_ HWB_ HX_
    go_upto_region 18 with fail
    rw [← hb7]
    clear hb7
    generalize v7.heap.size = q15 at *
    have c15x := (HALL.out b7 HX.out).2.2.2.2.2.2.2.2.2.2.1
    have lc15x := World.block_lt_of_cell? _ _ c15x
    have c12x := (HALL.out b7 HX.out).2.2.2.2.2.2.1
    have lc12x := World.block_lt_of_cell? _ _ c12x
    go_wp2_with fail
    refine (HDB.out b7 a15 c15 (HALL.out b7 HX.out).2.2.2.2.2.2.2.2.2.2.2.1 (HALL.out b7 HX.out).2.2.2.2.2.2.2.1).mono ?_
    rintro e v8 ⟨a17, c17, rfl, hx, ho⟩
    clear lc15x c15x lc12x c12x
    have HX_ := Lib.hid (HX.out.trans hx)
    clear HX
    have HX := HX_
    clear HX_
    rw [HRL.out]
    have HO17 := Lib.hid ho.row
    clear ho HDB
    clear hx
    obtain ⟨b8, hb8⟩ : ∃ b8, b8 = v8.alloc (.cells #[.slice a17 16 c17] 26) := ⟨_, rfl⟩
    have hxb : v8.Ext b8 := by rw [hb8]; repeat (first | exact World.Ext.refl _ | exact ⟨_, rfl⟩ | assumption | refine World.Ext.over ?_ _ | refine World.Ext.drewN ?_ _ | refine World.Ext.drew ?_ | refine World.Ext.alloc ?_ _ | refine World.Ext.setCell ?_ (by simp) _)
    have c17x_ : b8.cell? ⟨v8.heap.size, 0, none⟩ = some (.slice a17 16 c17) := by rw [hb8]; simp [go_sem]
    have HALL_ : Hid (∀ w', b8.Ext w' → w'.cell? ⟨q5, 0, none⟩ = some (.slice (some ⟨rb, ro, none⟩) ss.length pc) ∧ RowS w' (some ⟨rb, ro, none⟩) ss ∧ w'.cell? ⟨q9, 0, none⟩ = some (.slice a9 16 c9) ∧ RowS w' a9 (picRows 16 16 l0) ∧ w'.cell? ⟨q11, 0, none⟩ = some (.slice aa da.length ca) ∧ RowP w' aa da ∧ w'.cell? ⟨q12, 0, none⟩ = some (.slice ab db.length cb) ∧ RowP w' ab db ∧ w'.cell? ⟨q13, 0, none⟩ = some (.slice a13 S.length c13) ∧ RowP w' a13 S ∧ w'.cell? ⟨q15, 0, none⟩ = some (.slice a15 16 c15) ∧ RowS w' a15 (picRows 16 16 (mkl 16 16 gA)) ∧ w'.cell? ⟨v8.heap.size, 0, none⟩ = some (.slice a17 16 c17) ∧ RowS w' a17 (picRows 16 16 (mkl 16 16 gS)) ∧ True) := fun w' hx' => ⟨(HALL.out w' ((HX.out.trans hxb).trans hx')).1, (HALL.out w' ((HX.out.trans hxb).trans hx')).2.1, (HALL.out w' ((HX.out.trans hxb).trans hx')).2.2.1, (HALL.out w' ((HX.out.trans hxb).trans hx')).2.2.2.1, (HALL.out w' ((HX.out.trans hxb).trans hx')).2.2.2.2.1, (HALL.out w' ((HX.out.trans hxb).trans hx')).2.2.2.2.2.1, (HALL.out w' ((HX.out.trans hxb).trans hx')).2.2.2.2.2.2.1, (HALL.out w' ((HX.out.trans hxb).trans hx')).2.2.2.2.2.2.2.1, (HALL.out w' ((HX.out.trans hxb).trans hx')).2.2.2.2.2.2.2.2.1, (HALL.out w' ((HX.out.trans hxb).trans hx')).2.2.2.2.2.2.2.2.2.1, (HALL.out w' ((HX.out.trans hxb).trans hx')).2.2.2.2.2.2.2.2.2.2.1, (HALL.out w' ((HX.out.trans hxb).trans hx')).2.2.2.2.2.2.2.2.2.2.2.1, hx'.cell c17x_, RowOf.ext HO17.out (hxb.trans hx'), trivial⟩
    have HWB_ := Lib.hid (HWB.out.trans (HX.out.trans hxb))
    have HX_ : Hid (b8.Ext b8) := .refl _
    clear hxb c17x_ HWB HX HALL
    have HALL := HALL_
    have HWB := HWB_
    have HX := HX_
    clear HALL_ HWB_ HX_
    go_upto_region 19 with fail
    rw [← hb8]
    clear hb8
    generalize v8.heap.size = q17 at *
    have c9x := (HALL.out b8 HX.out).2.2.1
    have lc9x := World.block_lt_of_cell? _ _ c9x
    have c13x := (HALL.out b8 HX.out).2.2.2.2.2.2.2.2.1
    have lc13x := World.block_lt_of_cell? _ _ c13x
    go_wp2_with fail
    refine (HDS.out b8 a13 c13 (HALL.out b8 HX.out).2.2.2.1 (HALL.out b8 HX.out).2.2.2.2.2.2.2.2.2.1).mono ?_
    rintro e v9 ⟨a19, c19, rfl, hx, ho⟩
    clear lc9x c9x lc13x c13x
    have HX_ := Lib.hid (HX.out.trans hx)
    clear HX
    have HX := HX_
    clear HX_
    rw [HRL.out]
    have HO19 := Lib.hid ho.row
    clear ho HDS
    clear hx
    obtain ⟨b9, hb9⟩ : ∃ b9, b9 = v9.alloc (.cells #[.slice a19 16 c19] 26) := ⟨_, rfl⟩
    have hxb : v9.Ext b9 := by rw [hb9]; repeat (first | exact World.Ext.refl _ | exact ⟨_, rfl⟩ | assumption | refine World.Ext.over ?_ _ | refine World.Ext.drewN ?_ _ | refine World.Ext.drew ?_ | refine World.Ext.alloc ?_ _ | refine World.Ext.setCell ?_ (by simp) _)
    have c19x_ : b9.cell? ⟨v9.heap.size, 0, none⟩ = some (.slice a19 16 c19) := by rw [hb9]; simp [go_sem]
    have HALL_ : Hid (∀ w', b9.Ext w' → w'.cell? ⟨q5, 0, none⟩ = some (.slice (some ⟨rb, ro, none⟩) ss.length pc) ∧ RowS w' (some ⟨rb, ro, none⟩) ss ∧ w'.cell? ⟨q9, 0, none⟩ = some (.slice a9 16 c9) ∧ RowS w' a9 (picRows 16 16 l0) ∧ w'.cell? ⟨q11, 0, none⟩ = some (.slice aa da.length ca) ∧ RowP w' aa da ∧ w'.cell? ⟨q12, 0, none⟩ = some (.slice ab db.length cb) ∧ RowP w' ab db ∧ w'.cell? ⟨q13, 0, none⟩ = some (.slice a13 S.length c13) ∧ RowP w' a13 S ∧ w'.cell? ⟨q15, 0, none⟩ = some (.slice a15 16 c15) ∧ RowS w' a15 (picRows 16 16 (mkl 16 16 gA)) ∧ w'.cell? ⟨q17, 0, none⟩ = some (.slice a17 16 c17) ∧ RowS w' a17 (picRows 16 16 (mkl 16 16 gS)) ∧ w'.cell? ⟨v9.heap.size, 0, none⟩ = some (.slice a19 16 c19) ∧ RowS w' a19 (picRows 16 16 (mkl 16 16 gS)) ∧ True) := fun w' hx' => ⟨(HALL.out w' ((HX.out.trans hxb).trans hx')).1, (HALL.out w' ((HX.out.trans hxb).trans hx')).2.1, (HALL.out w' ((HX.out.trans hxb).trans hx')).2.2.1, (HALL.out w' ((HX.out.trans hxb).trans hx')).2.2.2.1, (HALL.out w' ((HX.out.trans hxb).trans hx')).2.2.2.2.1, (HALL.out w' ((HX.out.trans hxb).trans hx')).2.2.2.2.2.1, (HALL.out w' ((HX.out.trans hxb).trans hx')).2.2.2.2.2.2.1, (HALL.out w' ((HX.out.trans hxb).trans hx')).2.2.2.2.2.2.2.1, (HALL.out w' ((HX.out.trans hxb).trans hx')).2.2.2.2.2.2.2.2.1, (HALL.out w' ((HX.out.trans hxb).trans hx')).2.2.2.2.2.2.2.2.2.1, (HALL.out w' ((HX.out.trans hxb).trans hx')).2.2.2.2.2.2.2.2.2.2.1, (HALL.out w' ((HX.out.trans hxb).trans hx')).2.2.2.2.2.2.2.2.2.2.2.1, (HALL.out w' ((HX.out.trans hxb).trans hx')).2.2.2.2.2.2.2.2.2.2.2.2.1, (HALL.out w' ((HX.out.trans hxb).trans hx')).2.2.2.2.2.2.2.2.2.2.2.2.2.1, hx'.cell c19x_, RowOf.ext HO19.out (hxb.trans hx'), trivial⟩
    have HWB_ := Lib.hid (HWB.out.trans (HX.out.trans hxb))
    have HX_ : Hid (b9.Ext b9) := .refl _
    clear hxb c19x_ HWB HX HALL
    have HALL := HALL_
    have HWB := HWB_
    have HX := HX_
    clear HALL_ HWB_ HX_
    go_upto_region 20 with fail
    rw [← hb9]
    clear hb9
    generalize v9.heap.size = q19 at *
    have c17x := (HALL.out b9 HX.out).2.2.2.2.2.2.2.2.2.2.2.2.1
    have lc17x := World.block_lt_of_cell? _ _ c17x
    have c19x := (HALL.out b9 HX.out).2.2.2.2.2.2.2.2.2.2.2.2.2.2.1
    have lc19x := World.block_lt_of_cell? _ _ c19x
    go_wp2_with fail
    refine (HSAME.out b9 a17 a19 c17 c19 (HALL.out b9 HX.out).2.2.2.2.2.2.2.2.2.2.2.2.2.1 (HALL.out b9 HX.out).2.2.2.2.2.2.2.2.2.2.2.2.2.2.2.1).mono ?_
    rintro e v10 ⟨rfl, hx⟩
    clear lc17x c17x lc19x c19x
    have HX_ := Lib.hid (HX.out.trans hx)
    clear HX
    have HX := HX_
    clear HX_
    clear HSAME
    clear hx
    have HG0 : Hid (facN S 0) := facN_zero S
    clear HG0
    have c13x := (HALL.out v10 HX.out).2.2.2.2.2.2.2.2.1
    have lc13x := World.block_lt_of_cell? _ _ c13x
    go_wp2_with fail
    refine (HFI.out v10 a13 c13 (HALL.out v10 HX.out).2.2.2.2.2.2.2.2.2.1).mono ?_
    rintro e vf (⟨k, hk, hg, af, cf, ag, cg, rfl, hx, hrf, hrg⟩ | ⟨hno, rfl, hx⟩)
    · as_aux_lemma =>
      clear lc13x c13x
      have HKG := Lib.hid (HFG.out k hk hg)
      have HRF := Lib.hid hrf
      have HRG := Lib.hid hrg
      clear hrf hrg HFG
      generalize facB S (facC k) = FB at *
      generalize facC k = FC at *
      have HX_ := Lib.hid (HX.out.trans hx)
      clear HX
      have HX := HX_
      clear HX_
      have HRF_ := Lib.hid HRF.out
      clear HRF
      have HRF := HRF_
      clear HRF_
      clear hx
      obtain ⟨bb11, hnb⟩ : ∃ bb11, bb11 = (vf.alloc (.cells #[.slice af 2 cf] 48)).alloc (.cells #[.slice ag FB.length cg] 48) := ⟨_, rfl⟩
      have hxx : vf.Ext bb11 := by rw [hnb]; repeat (first | exact World.Ext.refl _ | exact ⟨_, rfl⟩ | assumption | refine World.Ext.over ?_ _ | refine World.Ext.drewN ?_ _ | refine World.Ext.drew ?_ | refine World.Ext.alloc ?_ _ | refine World.Ext.setCell ?_ (by simp) _)
      have c21_ : bb11.cell? ⟨vf.heap.size, 0, none⟩ = some (.slice af 2 cf) := by rw [hnb]; simp [go_sem]
      have c22_ : bb11.cell? ⟨vf.heap.size + 1, 0, none⟩ = some (.slice ag FB.length cg) := by rw [hnb]; simp [go_sem]
      go_upto_region 23 with fail
      rw [← hnb]
      clear hnb
      generalize vf.heap.size = q21 at *
      have HALL_ : Hid (∀ w', bb11.Ext w' → w'.cell? ⟨q5, 0, none⟩ = some (.slice (some ⟨rb, ro, none⟩) ss.length pc) ∧ RowS w' (some ⟨rb, ro, none⟩) ss ∧ w'.cell? ⟨q9, 0, none⟩ = some (.slice a9 16 c9) ∧ RowS w' a9 (picRows 16 16 l0) ∧ w'.cell? ⟨q11, 0, none⟩ = some (.slice aa da.length ca) ∧ RowP w' aa da ∧ w'.cell? ⟨q12, 0, none⟩ = some (.slice ab db.length cb) ∧ RowP w' ab db ∧ w'.cell? ⟨q13, 0, none⟩ = some (.slice a13 S.length c13) ∧ RowP w' a13 S ∧ w'.cell? ⟨q15, 0, none⟩ = some (.slice a15 16 c15) ∧ RowS w' a15 (picRows 16 16 (mkl 16 16 gA)) ∧ w'.cell? ⟨q17, 0, none⟩ = some (.slice a17 16 c17) ∧ RowS w' a17 (picRows 16 16 (mkl 16 16 gS)) ∧ w'.cell? ⟨q19, 0, none⟩ = some (.slice a19 16 c19) ∧ RowS w' a19 (picRows 16 16 (mkl 16 16 gS)) ∧ w'.cell? ⟨q21, 0, none⟩ = some (.slice af 2 cf) ∧ w'.cell? ⟨q21 + 1, 0, none⟩ = some (.slice ag FB.length cg) ∧ RowP w' af [(0, 0), FC] ∧ RowP w' ag FB ∧ True) := fun w' hx' => ⟨(HALL.out w' ((HX.out.trans hxx).trans hx')).1, (HALL.out w' ((HX.out.trans hxx).trans hx')).2.1, (HALL.out w' ((HX.out.trans hxx).trans hx')).2.2.1, (HALL.out w' ((HX.out.trans hxx).trans hx')).2.2.2.1, (HALL.out w' ((HX.out.trans hxx).trans hx')).2.2.2.2.1, (HALL.out w' ((HX.out.trans hxx).trans hx')).2.2.2.2.2.1, (HALL.out w' ((HX.out.trans hxx).trans hx')).2.2.2.2.2.2.1, (HALL.out w' ((HX.out.trans hxx).trans hx')).2.2.2.2.2.2.2.1, (HALL.out w' ((HX.out.trans hxx).trans hx')).2.2.2.2.2.2.2.2.1, (HALL.out w' ((HX.out.trans hxx).trans hx')).2.2.2.2.2.2.2.2.2.1, (HALL.out w' ((HX.out.trans hxx).trans hx')).2.2.2.2.2.2.2.2.2.2.1, (HALL.out w' ((HX.out.trans hxx).trans hx')).2.2.2.2.2.2.2.2.2.2.2.1, (HALL.out w' ((HX.out.trans hxx).trans hx')).2.2.2.2.2.2.2.2.2.2.2.2.1, (HALL.out w' ((HX.out.trans hxx).trans hx')).2.2.2.2.2.2.2.2.2.2.2.2.2.1, (HALL.out w' ((HX.out.trans hxx).trans hx')).2.2.2.2.2.2.2.2.2.2.2.2.2.2.1, (HALL.out w' ((HX.out.trans hxx).trans hx')).2.2.2.2.2.2.2.2.2.2.2.2.2.2.2.1, hx'.cell c21_, hx'.cell c22_, RowP.ext HRF.out (hxx.trans hx'), RowP.ext HRG.out (hxx.trans hx'), trivial⟩
      have HWB_ := Lib.hid (HWB.out.trans (HX.out.trans hxx))
      have HX_ : Hid (bb11.Ext bb11) := .refl _
      clear hxx HWB HX HALL
      have HALL := HALL_
      have HWB := HWB_
      have HX := HX_
      clear HALL_ HWB_ HX_
      clear c21_ c22_
      clear HRF HRG
      have c13x := (HALL.out bb11 HX.out).2.2.2.2.2.2.2.2.1
      have lc13x := World.block_lt_of_cell? _ _ c13x
      go_wp2_with fail
      refine (HFS.out bb11 a13 c13 (HALL.out bb11 HX.out).2.2.2.2.2.2.2.2.2.1).mono ?_
      intro e vg hor
      obtain ⟨sa, sn, sc, sb, sm, sd, rfl, hx⟩ : SfRet bb11 true e vg := by
        rcases hor with ⟨-, -, -, h⟩ | ⟨h1, -⟩
        · exact h
        · have := h1 k hk
          rw [hg] at this
          cases this
      clear hor hg hk
      clear lc13x c13x
      have HX_ := Lib.hid (HX.out.trans hx)
      clear HX
      have HX := HX_
      clear HX_
      clear hx
      clear HFI HFS
      obtain ⟨bb12, hnb⟩ : ∃ bb12, bb12 = (vg.alloc (.cells #[.slice sa sn sc] 48)).alloc (.cells #[.slice sb sm sd] 48) := ⟨_, rfl⟩
      have hxx : vg.Ext bb12 := by rw [hnb]; repeat (first | exact World.Ext.refl _ | exact ⟨_, rfl⟩ | assumption | refine World.Ext.over ?_ _ | refine World.Ext.drewN ?_ _ | refine World.Ext.drew ?_ | refine World.Ext.alloc ?_ _ | refine World.Ext.setCell ?_ (by simp) _)
      have c24_ : bb12.cell? ⟨vg.heap.size, 0, none⟩ = some (.slice sa sn sc) := by rw [hnb]; simp [go_sem]
      have c25_ : bb12.cell? ⟨vg.heap.size + 1, 0, none⟩ = some (.slice sb sm sd) := by rw [hnb]; simp [go_sem]
      go_upto_region 24 with fail
      rw [← hnb]
      clear hnb
      generalize vg.heap.size = q24 at *
      have HALL_ : Hid (∀ w', bb12.Ext w' → w'.cell? ⟨q5, 0, none⟩ = some (.slice (some ⟨rb, ro, none⟩) ss.length pc) ∧ RowS w' (some ⟨rb, ro, none⟩) ss ∧ w'.cell? ⟨q9, 0, none⟩ = some (.slice a9 16 c9) ∧ RowS w' a9 (picRows 16 16 l0) ∧ w'.cell? ⟨q11, 0, none⟩ = some (.slice aa da.length ca) ∧ RowP w' aa da ∧ w'.cell? ⟨q12, 0, none⟩ = some (.slice ab db.length cb) ∧ RowP w' ab db ∧ w'.cell? ⟨q13, 0, none⟩ = some (.slice a13 S.length c13) ∧ RowP w' a13 S ∧ w'.cell? ⟨q15, 0, none⟩ = some (.slice a15 16 c15) ∧ RowS w' a15 (picRows 16 16 (mkl 16 16 gA)) ∧ w'.cell? ⟨q17, 0, none⟩ = some (.slice a17 16 c17) ∧ RowS w' a17 (picRows 16 16 (mkl 16 16 gS)) ∧ w'.cell? ⟨q19, 0, none⟩ = some (.slice a19 16 c19) ∧ RowS w' a19 (picRows 16 16 (mkl 16 16 gS)) ∧ w'.cell? ⟨q21, 0, none⟩ = some (.slice af 2 cf) ∧ w'.cell? ⟨q21 + 1, 0, none⟩ = some (.slice ag FB.length cg) ∧ RowP w' af [(0, 0), FC] ∧ RowP w' ag FB ∧ w'.cell? ⟨q24, 0, none⟩ = some (.slice sa sn sc) ∧ w'.cell? ⟨q24 + 1, 0, none⟩ = some (.slice sb sm sd) ∧ True) := fun w' hx' => ⟨(HALL.out w' ((HX.out.trans hxx).trans hx')).1, (HALL.out w' ((HX.out.trans hxx).trans hx')).2.1, (HALL.out w' ((HX.out.trans hxx).trans hx')).2.2.1, (HALL.out w' ((HX.out.trans hxx).trans hx')).2.2.2.1, (HALL.out w' ((HX.out.trans hxx).trans hx')).2.2.2.2.1, (HALL.out w' ((HX.out.trans hxx).trans hx')).2.2.2.2.2.1, (HALL.out w' ((HX.out.trans hxx).trans hx')).2.2.2.2.2.2.1, (HALL.out w' ((HX.out.trans hxx).trans hx')).2.2.2.2.2.2.2.1, (HALL.out w' ((HX.out.trans hxx).trans hx')).2.2.2.2.2.2.2.2.1, (HALL.out w' ((HX.out.trans hxx).trans hx')).2.2.2.2.2.2.2.2.2.1, (HALL.out w' ((HX.out.trans hxx).trans hx')).2.2.2.2.2.2.2.2.2.2.1, (HALL.out w' ((HX.out.trans hxx).trans hx')).2.2.2.2.2.2.2.2.2.2.2.1, (HALL.out w' ((HX.out.trans hxx).trans hx')).2.2.2.2.2.2.2.2.2.2.2.2.1, (HALL.out w' ((HX.out.trans hxx).trans hx')).2.2.2.2.2.2.2.2.2.2.2.2.2.1, (HALL.out w' ((HX.out.trans hxx).trans hx')).2.2.2.2.2.2.2.2.2.2.2.2.2.2.1, (HALL.out w' ((HX.out.trans hxx).trans hx')).2.2.2.2.2.2.2.2.2.2.2.2.2.2.2.1, (HALL.out w' ((HX.out.trans hxx).trans hx')).2.2.2.2.2.2.2.2.2.2.2.2.2.2.2.2.1, (HALL.out w' ((HX.out.trans hxx).trans hx')).2.2.2.2.2.2.2.2.2.2.2.2.2.2.2.2.2.1, (HALL.out w' ((HX.out.trans hxx).trans hx')).2.2.2.2.2.2.2.2.2.2.2.2.2.2.2.2.2.2.1, (HALL.out w' ((HX.out.trans hxx).trans hx')).2.2.2.2.2.2.2.2.2.2.2.2.2.2.2.2.2.2.2.1, hx'.cell c24_, hx'.cell c25_, trivial⟩
      have HWB_ := Lib.hid (HWB.out.trans (HX.out.trans hxx))
      have HX_ : Hid (bb12.Ext bb12) := .refl _
      clear hxx HWB HX HALL
      have HALL := HALL_
      have HWB := HWB_
      have HX := HX_
      clear HALL_ HWB_ HX_
      clear c24_ c25_
      have c11x := (HALL.out bb12 HX.out).2.2.2.2.1
      have lc11x := World.block_lt_of_cell? _ _ c11x
      go_wp2_with fail
      refine (HM1.out bb12 (HALL.out bb12 HX.out).2.2.2.2.2.1).mono ?_
      rintro e v13 ⟨a27, c27, rfl, hx, hrow⟩
      clear lc11x c11x
      have HX_ := Lib.hid (HX.out.trans hx)
      clear HX
      have HX := HX_
      clear HX_
      have HR27 := Lib.hid hrow
      clear hrow HM1
      clear hx
      obtain ⟨b13, hb13⟩ : ∃ b13, b13 = v13.alloc (.cells #[.slice a27 (mirL da).length c27] 48) := ⟨_, rfl⟩
      have hxb : v13.Ext b13 := by rw [hb13]; repeat (first | exact World.Ext.refl _ | exact ⟨_, rfl⟩ | assumption | refine World.Ext.over ?_ _ | refine World.Ext.drewN ?_ _ | refine World.Ext.drew ?_ | refine World.Ext.alloc ?_ _ | refine World.Ext.setCell ?_ (by simp) _)
      have c27x_ : b13.cell? ⟨v13.heap.size, 0, none⟩ = some (.slice a27 (mirL da).length c27) := by rw [hb13]; simp [go_sem]
      have HALL_ : Hid (∀ w', b13.Ext w' → w'.cell? ⟨q5, 0, none⟩ = some (.slice (some ⟨rb, ro, none⟩) ss.length pc) ∧ RowS w' (some ⟨rb, ro, none⟩) ss ∧ w'.cell? ⟨q9, 0, none⟩ = some (.slice a9 16 c9) ∧ RowS w' a9 (picRows 16 16 l0) ∧ w'.cell? ⟨q11, 0, none⟩ = some (.slice aa da.length ca) ∧ RowP w' aa da ∧ w'.cell? ⟨q12, 0, none⟩ = some (.slice ab db.length cb) ∧ RowP w' ab db ∧ w'.cell? ⟨q13, 0, none⟩ = some (.slice a13 S.length c13) ∧ RowP w' a13 S ∧ w'.cell? ⟨q15, 0, none⟩ = some (.slice a15 16 c15) ∧ RowS w' a15 (picRows 16 16 (mkl 16 16 gA)) ∧ w'.cell? ⟨q17, 0, none⟩ = some (.slice a17 16 c17) ∧ RowS w' a17 (picRows 16 16 (mkl 16 16 gS)) ∧ w'.cell? ⟨q19, 0, none⟩ = some (.slice a19 16 c19) ∧ RowS w' a19 (picRows 16 16 (mkl 16 16 gS)) ∧ w'.cell? ⟨q21, 0, none⟩ = some (.slice af 2 cf) ∧ w'.cell? ⟨q21 + 1, 0, none⟩ = some (.slice ag FB.length cg) ∧ RowP w' af [(0, 0), FC] ∧ RowP w' ag FB ∧ w'.cell? ⟨q24, 0, none⟩ = some (.slice sa sn sc) ∧ w'.cell? ⟨q24 + 1, 0, none⟩ = some (.slice sb sm sd) ∧ w'.cell? ⟨v13.heap.size, 0, none⟩ = some (.slice a27 (mirL da).length c27) ∧ RowP w' a27 (mirL da) ∧ True) := fun w' hx' => ⟨(HALL.out w' ((HX.out.trans hxb).trans hx')).1, (HALL.out w' ((HX.out.trans hxb).trans hx')).2.1, (HALL.out w' ((HX.out.trans hxb).trans hx')).2.2.1, (HALL.out w' ((HX.out.trans hxb).trans hx')).2.2.2.1, (HALL.out w' ((HX.out.trans hxb).trans hx')).2.2.2.2.1, (HALL.out w' ((HX.out.trans hxb).trans hx')).2.2.2.2.2.1, (HALL.out w' ((HX.out.trans hxb).trans hx')).2.2.2.2.2.2.1, (HALL.out w' ((HX.out.trans hxb).trans hx')).2.2.2.2.2.2.2.1, (HALL.out w' ((HX.out.trans hxb).trans hx')).2.2.2.2.2.2.2.2.1, (HALL.out w' ((HX.out.trans hxb).trans hx')).2.2.2.2.2.2.2.2.2.1, (HALL.out w' ((HX.out.trans hxb).trans hx')).2.2.2.2.2.2.2.2.2.2.1, (HALL.out w' ((HX.out.trans hxb).trans hx')).2.2.2.2.2.2.2.2.2.2.2.1, (HALL.out w' ((HX.out.trans hxb).trans hx')).2.2.2.2.2.2.2.2.2.2.2.2.1, (HALL.out w' ((HX.out.trans hxb).trans hx')).2.2.2.2.2.2.2.2.2.2.2.2.2.1, (HALL.out w' ((HX.out.trans hxb).trans hx')).2.2.2.2.2.2.2.2.2.2.2.2.2.2.1, (HALL.out w' ((HX.out.trans hxb).trans hx')).2.2.2.2.2.2.2.2.2.2.2.2.2.2.2.1, (HALL.out w' ((HX.out.trans hxb).trans hx')).2.2.2.2.2.2.2.2.2.2.2.2.2.2.2.2.1, (HALL.out w' ((HX.out.trans hxb).trans hx')).2.2.2.2.2.2.2.2.2.2.2.2.2.2.2.2.2.1, (HALL.out w' ((HX.out.trans hxb).trans hx')).2.2.2.2.2.2.2.2.2.2.2.2.2.2.2.2.2.2.1, (HALL.out w' ((HX.out.trans hxb).trans hx')).2.2.2.2.2.2.2.2.2.2.2.2.2.2.2.2.2.2.2.1, (HALL.out w' ((HX.out.trans hxb).trans hx')).2.2.2.2.2.2.2.2.2.2.2.2.2.2.2.2.2.2.2.2.1, (HALL.out w' ((HX.out.trans hxb).trans hx')).2.2.2.2.2.2.2.2.2.2.2.2.2.2.2.2.2.2.2.2.2.1, hx'.cell c27x_, RowP.ext HR27.out (hxb.trans hx'), trivial⟩
      have HWB_ := Lib.hid (HWB.out.trans (HX.out.trans hxb))
      have HX_ : Hid (b13.Ext b13) := .refl _
      clear hxb c27x_ HWB HX HALL
      have HALL := HALL_
      have HWB := HWB_
      have HX := HX_
      clear HALL_ HWB_ HX_
      go_upto_region 25 with fail
      rw [← hb13]
      clear hb13
      generalize v13.heap.size = q27 at *
      have c27x := (HALL.out b13 HX.out).2.2.2.2.2.2.2.2.2.2.2.2.2.2.2.2.2.2.2.2.2.2.1
      have lc27x := World.block_lt_of_cell? _ _ c27x
      go_wp2_with fail
      refine (HM2.out b13 a27 c27 (HALL.out b13 HX.out).2.2.2.2.2.2.2.2.2.2.2.2.2.2.2.2.2.2.2.2.2.2.2.1).mono ?_
      rintro e v14 ⟨a29, c29, rfl, hx, hrow⟩
      clear lc27x c27x
      have HX_ := Lib.hid (HX.out.trans hx)
      clear HX
      have HX := HX_
      clear HX_
      have HR29 := Lib.hid hrow
      clear hrow HM2 HR27
      clear hx
      obtain ⟨b14, hb14⟩ : ∃ b14, b14 = v14.alloc (.cells #[.slice a29 da.length c29] 48) := ⟨_, rfl⟩
      have hxb : v14.Ext b14 := by rw [hb14]; repeat (first | exact World.Ext.refl _ | exact ⟨_, rfl⟩ | assumption | refine World.Ext.over ?_ _ | refine World.Ext.drewN ?_ _ | refine World.Ext.drew ?_ | refine World.Ext.alloc ?_ _ | refine World.Ext.setCell ?_ (by simp) _)
      have c29x_ : b14.cell? ⟨v14.heap.size, 0, none⟩ = some (.slice a29 da.length c29) := by rw [hb14]; simp [go_sem]
      have HALL_ : Hid (∀ w', b14.Ext w' → w'.cell? ⟨q5, 0, none⟩ = some (.slice (some ⟨rb, ro, none⟩) ss.length pc) ∧ RowS w' (some ⟨rb, ro, none⟩) ss ∧ w'.cell? ⟨q9, 0, none⟩ = some (.slice a9 16 c9) ∧ RowS w' a9 (picRows 16 16 l0) ∧ w'.cell? ⟨q11, 0, none⟩ = some (.slice aa da.length ca) ∧ RowP w' aa da ∧ w'.cell? ⟨q12, 0, none⟩ = some (.slice ab db.length cb) ∧ RowP w' ab db ∧ w'.cell? ⟨q13, 0, none⟩ = some (.slice a13 S.length c13) ∧ RowP w' a13 S ∧ w'.cell? ⟨q15, 0, none⟩ = some (.slice a15 16 c15) ∧ RowS w' a15 (picRows 16 16 (mkl 16 16 gA)) ∧ w'.cell? ⟨q17, 0, none⟩ = some (.slice a17 16 c17) ∧ RowS w' a17 (picRows 16 16 (mkl 16 16 gS)) ∧ w'.cell? ⟨q19, 0, none⟩ = some (.slice a19 16 c19) ∧ RowS w' a19 (picRows 16 16 (mkl 16 16 gS)) ∧ w'.cell? ⟨q21, 0, none⟩ = some (.slice af 2 cf) ∧ w'.cell? ⟨q21 + 1, 0, none⟩ = some (.slice ag FB.length cg) ∧ RowP w' af [(0, 0), FC] ∧ RowP w' ag FB ∧ w'.cell? ⟨q24, 0, none⟩ = some (.slice sa sn sc) ∧ w'.cell? ⟨q24 + 1, 0, none⟩ = some (.slice sb sm sd) ∧ w'.cell? ⟨q27, 0, none⟩ = some (.slice a27 (mirL da).length c27) ∧ RowP w' a27 (mirL da) ∧ w'.cell? ⟨v14.heap.size, 0, none⟩ = some (.slice a29 da.length c29) ∧ RowP w' a29 da ∧ True) := fun w' hx' => ⟨(HALL.out w' ((HX.out.trans hxb).trans hx')).1, (HALL.out w' ((HX.out.trans hxb).trans hx')).2.1, (HALL.out w' ((HX.out.trans hxb).trans hx')).2.2.1, (HALL.out w' ((HX.out.trans hxb).trans hx')).2.2.2.1, (HALL.out w' ((HX.out.trans hxb).trans hx')).2.2.2.2.1, (HALL.out w' ((HX.out.trans hxb).trans hx')).2.2.2.2.2.1, (HALL.out w' ((HX.out.trans hxb).trans hx')).2.2.2.2.2.2.1, (HALL.out w' ((HX.out.trans hxb).trans hx')).2.2.2.2.2.2.2.1, (HALL.out w' ((HX.out.trans hxb).trans hx')).2.2.2.2.2.2.2.2.1, (HALL.out w' ((HX.out.trans hxb).trans hx')).2.2.2.2.2.2.2.2.2.1, (HALL.out w' ((HX.out.trans hxb).trans hx')).2.2.2.2.2.2.2.2.2.2.1, (HALL.out w' ((HX.out.trans hxb).trans hx')).2.2.2.2.2.2.2.2.2.2.2.1, (HALL.out w' ((HX.out.trans hxb).trans hx')).2.2.2.2.2.2.2.2.2.2.2.2.1, (HALL.out w' ((HX.out.trans hxb).trans hx')).2.2.2.2.2.2.2.2.2.2.2.2.2.1, (HALL.out w' ((HX.out.trans hxb).trans hx')).2.2.2.2.2.2.2.2.2.2.2.2.2.2.1, (HALL.out w' ((HX.out.trans hxb).trans hx')).2.2.2.2.2.2.2.2.2.2.2.2.2.2.2.1, (HALL.out w' ((HX.out.trans hxb).trans hx')).2.2.2.2.2.2.2.2.2.2.2.2.2.2.2.2.1, (HALL.out w' ((HX.out.trans hxb).trans hx')).2.2.2.2.2.2.2.2.2.2.2.2.2.2.2.2.2.1, (HALL.out w' ((HX.out.trans hxb).trans hx')).2.2.2.2.2.2.2.2.2.2.2.2.2.2.2.2.2.2.1, (HALL.out w' ((HX.out.trans hxb).trans hx')).2.2.2.2.2.2.2.2.2.2.2.2.2.2.2.2.2.2.2.1, (HALL.out w' ((HX.out.trans hxb).trans hx')).2.2.2.2.2.2.2.2.2.2.2.2.2.2.2.2.2.2.2.2.1, (HALL.out w' ((HX.out.trans hxb).trans hx')).2.2.2.2.2.2.2.2.2.2.2.2.2.2.2.2.2.2.2.2.2.1, (HALL.out w' ((HX.out.trans hxb).trans hx')).2.2.2.2.2.2.2.2.2.2.2.2.2.2.2.2.2.2.2.2.2.2.1, (HALL.out w' ((HX.out.trans hxb).trans hx')).2.2.2.2.2.2.2.2.2.2.2.2.2.2.2.2.2.2.2.2.2.2.2.1, hx'.cell c29x_, RowP.ext HR29.out (hxb.trans hx'), trivial⟩
      have HWB_ := Lib.hid (HWB.out.trans (HX.out.trans hxb))
      have HX_ : Hid (b14.Ext b14) := .refl _
      clear hxb c29x_ HWB HX HALL
      have HALL := HALL_
      have HWB := HWB_
      have HX := HX_
      clear HALL_ HWB_ HX_
      go_upto_region 26 with fail
      rw [← hb14]
      clear hb14
      generalize v14.heap.size = q29 at *
      clear HR29
      have c29x := (HALL.out b14 HX.out).2.2.2.2.2.2.2.2.2.2.2.2.2.2.2.2.2.2.2.2.2.2.2.2.1
      have lc29x := World.block_lt_of_cell? _ _ c29x
      have c11x := (HALL.out b14 HX.out).2.2.2.2.1
      have lc11x := World.block_lt_of_cell? _ _ c11x
      have hsq : ((da.length : Int) == (da.length : Int)) = true := beq_self_eq_true _
      go_wp2
      go_loopw [31] (fun i wr => ∃ k : Nat, k ≤ da.length ∧ i = .int .i64 k ∧ Hid (b14.Ext wr)) (fun i _ => da.length - (intOf i).toNat)
      case atStart => exact ⟨0, Nat.zero_le _, rfl, HX⟩
      case round =>
        clear HX c29x lc29x c11x lc11x
        obtain ⟨k, hk, rfl, HX⟩ := hrel
        obtain ⟨wl, rfl⟩ : ∃ wl : World, wl = wr := ⟨_, rfl⟩
        have hk0 : (0 : Int) ≤ (k : Int) := by omega
        have c29x := (HALL.out wl HX.out).2.2.2.2.2.2.2.2.2.2.2.2.2.2.2.2.2.2.2.2.2.2.2.2.1
        have lc29x := World.block_lt_of_cell? _ _ c29x
        have c11x := (HALL.out wl HX.out).2.2.2.2.1
        have lc11x := World.block_lt_of_cell? _ _ c11x
        by_cases hlt : k < da.length
        · have hlt' : (k : Int) < (da.length : Int) := by omega
          obtain ⟨e1, o1, rfl, d0, d1⟩ := ((HALL.out wl HX.out).2.2.2.2.2.2.2.2.2.2.2.2.2.2.2.2.2.2.2.2.2.2.2.2.2.1).at hlt
          obtain ⟨e2, o2, rfl, f0, f1⟩ := ((HALL.out wl HX.out).2.2.2.2.2.1).at hlt
          generalize da.getD k (0, 0) = q at d0 d1 f0 f1
          obtain ⟨x, y⟩ := q
          dsimp only at d0 d1 f0 f1
          go_wp2_with fail
          refine wp_region_over_lit (by kernel_rfl) (by kernel_rfl) ?_; (repeat (go_big_quiet_step (fail))); refine wpQuiet_nil ?_; rintro _ ⟨x1, rfl⟩
          have HX1 : Hid (b14.Ext (wl.over x1)) := HX.out.trans ⟨x1, rfl⟩
          clear HX c29x lc29x c11x lc11x d0 d1 f0 f1
          go_wp2
          go_roundw
          case rel => exact ⟨k + 1, by omega, by go_num, HX1⟩
          case measure => simp [intOf]; omega
        · have hke : ¬ (k : Int) < (da.length : Int) := by omega
          have c21 := (HALL.out wl HX.out).2.2.2.2.2.2.2.2.2.2.2.2.2.2.2.2.1
          have lc21 := World.block_lt_of_cell? _ _ c21
          have c22 := (HALL.out wl HX.out).2.2.2.2.2.2.2.2.2.2.2.2.2.2.2.2.2.1
          have lc22 := World.block_lt_of_cell? _ _ c22
          go_wp2_with fail
          refine (HKG.out wl af cf ag cg (HALL.out wl HX.out).2.2.2.2.2.2.2.2.2.2.2.2.2.2.2.2.2.2.1 (HALL.out wl HX.out).2.2.2.2.2.2.2.2.2.2.2.2.2.2.2.2.2.2.2.1).mono ?_
          rintro e vh ⟨a32, c32, rfl, hx, hrow⟩
          clear c29x lc29x c11x lc11x
          clear lc21 c21 lc22 c22
          have HX_ := Lib.hid (HX.out.trans hx)
          clear HX
          have HX := HX_
          clear HX_
          have HR32 := Lib.hid hrow
          clear hrow HKG
          clear hx
          obtain ⟨b14, hb14⟩ : ∃ b14, b14 = vh.alloc (.cells #[.slice a32 S.length c32] 48) := ⟨_, rfl⟩
          have hxb : vh.Ext b14 := by rw [hb14]; repeat (first | exact World.Ext.refl _ | exact ⟨_, rfl⟩ | assumption | refine World.Ext.over ?_ _ | refine World.Ext.drewN ?_ _ | refine World.Ext.drew ?_ | refine World.Ext.alloc ?_ _ | refine World.Ext.setCell ?_ (by simp) _)
          have c32x_ : b14.cell? ⟨vh.heap.size, 0, none⟩ = some (.slice a32 S.length c32) := by rw [hb14]; simp [go_sem]
          have HALL_ : Hid (∀ w', b14.Ext w' → w'.cell? ⟨q5, 0, none⟩ = some (.slice (some ⟨rb, ro, none⟩) ss.length pc) ∧ RowS w' (some ⟨rb, ro, none⟩) ss ∧ w'.cell? ⟨q9, 0, none⟩ = some (.slice a9 16 c9) ∧ RowS w' a9 (picRows 16 16 l0) ∧ w'.cell? ⟨q11, 0, none⟩ = some (.slice aa da.length ca) ∧ RowP w' aa da ∧ w'.cell? ⟨q12, 0, none⟩ = some (.slice ab db.length cb) ∧ RowP w' ab db ∧ w'.cell? ⟨q13, 0, none⟩ = some (.slice a13 S.length c13) ∧ RowP w' a13 S ∧ w'.cell? ⟨q15, 0, none⟩ = some (.slice a15 16 c15) ∧ RowS w' a15 (picRows 16 16 (mkl 16 16 gA)) ∧ w'.cell? ⟨q17, 0, none⟩ = some (.slice a17 16 c17) ∧ RowS w' a17 (picRows 16 16 (mkl 16 16 gS)) ∧ w'.cell? ⟨q19, 0, none⟩ = some (.slice a19 16 c19) ∧ RowS w' a19 (picRows 16 16 (mkl 16 16 gS)) ∧ w'.cell? ⟨q21, 0, none⟩ = some (.slice af 2 cf) ∧ w'.cell? ⟨q21 + 1, 0, none⟩ = some (.slice ag FB.length cg) ∧ RowP w' af [(0, 0), FC] ∧ RowP w' ag FB ∧ w'.cell? ⟨q24, 0, none⟩ = some (.slice sa sn sc) ∧ w'.cell? ⟨q24 + 1, 0, none⟩ = some (.slice sb sm sd) ∧ w'.cell? ⟨q27, 0, none⟩ = some (.slice a27 (mirL da).length c27) ∧ RowP w' a27 (mirL da) ∧ w'.cell? ⟨q29, 0, none⟩ = some (.slice a29 da.length c29) ∧ RowP w' a29 da ∧ w'.cell? ⟨vh.heap.size, 0, none⟩ = some (.slice a32 S.length c32) ∧ RowP w' a32 S ∧ True) := fun w' hx' => ⟨(HALL.out w' ((HX.out.trans hxb).trans hx')).1, (HALL.out w' ((HX.out.trans hxb).trans hx')).2.1, (HALL.out w' ((HX.out.trans hxb).trans hx')).2.2.1, (HALL.out w' ((HX.out.trans hxb).trans hx')).2.2.2.1, (HALL.out w' ((HX.out.trans hxb).trans hx')).2.2.2.2.1, (HALL.out w' ((HX.out.trans hxb).trans hx')).2.2.2.2.2.1, (HALL.out w' ((HX.out.trans hxb).trans hx')).2.2.2.2.2.2.1, (HALL.out w' ((HX.out.trans hxb).trans hx')).2.2.2.2.2.2.2.1, (HALL.out w' ((HX.out.trans hxb).trans hx')).2.2.2.2.2.2.2.2.1, (HALL.out w' ((HX.out.trans hxb).trans hx')).2.2.2.2.2.2.2.2.2.1, (HALL.out w' ((HX.out.trans hxb).trans hx')).2.2.2.2.2.2.2.2.2.2.1, (HALL.out w' ((HX.out.trans hxb).trans hx')).2.2.2.2.2.2.2.2.2.2.2.1, (HALL.out w' ((HX.out.trans hxb).trans hx')).2.2.2.2.2.2.2.2.2.2.2.2.1, (HALL.out w' ((HX.out.trans hxb).trans hx')).2.2.2.2.2.2.2.2.2.2.2.2.2.1, (HALL.out w' ((HX.out.trans hxb).trans hx')).2.2.2.2.2.2.2.2.2.2.2.2.2.2.1, (HALL.out w' ((HX.out.trans hxb).trans hx')).2.2.2.2.2.2.2.2.2.2.2.2.2.2.2.1, (HALL.out w' ((HX.out.trans hxb).trans hx')).2.2.2.2.2.2.2.2.2.2.2.2.2.2.2.2.1, (HALL.out w' ((HX.out.trans hxb).trans hx')).2.2.2.2.2.2.2.2.2.2.2.2.2.2.2.2.2.1, (HALL.out w' ((HX.out.trans hxb).trans hx')).2.2.2.2.2.2.2.2.2.2.2.2.2.2.2.2.2.2.1, (HALL.out w' ((HX.out.trans hxb).trans hx')).2.2.2.2.2.2.2.2.2.2.2.2.2.2.2.2.2.2.2.1, (HALL.out w' ((HX.out.trans hxb).trans hx')).2.2.2.2.2.2.2.2.2.2.2.2.2.2.2.2.2.2.2.2.1, (HALL.out w' ((HX.out.trans hxb).trans hx')).2.2.2.2.2.2.2.2.2.2.2.2.2.2.2.2.2.2.2.2.2.1, (HALL.out w' ((HX.out.trans hxb).trans hx')).2.2.2.2.2.2.2.2.2.2.2.2.2.2.2.2.2.2.2.2.2.2.1, (HALL.out w' ((HX.out.trans hxb).trans hx')).2.2.2.2.2.2.2.2.2.2.2.2.2.2.2.2.2.2.2.2.2.2.2.1, (HALL.out w' ((HX.out.trans hxb).trans hx')).2.2.2.2.2.2.2.2.2.2.2.2.2.2.2.2.2.2.2.2.2.2.2.2.1, (HALL.out w' ((HX.out.trans hxb).trans hx')).2.2.2.2.2.2.2.2.2.2.2.2.2.2.2.2.2.2.2.2.2.2.2.2.2.1, hx'.cell c32x_, RowP.ext HR32.out (hxb.trans hx'), trivial⟩
          have HWB_ := Lib.hid (HWB.out.trans (HX.out.trans hxb))
          have HX_ : Hid (b14.Ext b14) := .refl _
          clear hxb c32x_ HWB HX HALL
          have HALL := HALL_
          have HWB := HWB_
          have HX := HX_
          clear HALL_ HWB_ HX_
          go_upto_region 36 with fail
          rw [← hb14]
          clear hb14
          generalize vh.heap.size = q32 at *
          clear HR32
          have c21 := (HALL.out b14 HX.out).2.2.2.2.2.2.2.2.2.2.2.2.2.2.2.2.1
          have lc21 := World.block_lt_of_cell? _ _ c21
          have c32x := (HALL.out b14 HX.out).2.2.2.2.2.2.2.2.2.2.2.2.2.2.2.2.2.2.2.2.2.2.2.2.2.2.1
          have lc32x := World.block_lt_of_cell? _ _ c32x
          have c13x := (HALL.out b14 HX.out).2.2.2.2.2.2.2.2.1
          have lc13x := World.block_lt_of_cell? _ _ c13x
          have hsq2 : ((S.length : Int) == (S.length : Int)) = true := beq_self_eq_true _
          go_wp2
          go_loopw [34] (fun i wr => ∃ k : Nat, k ≤ S.length ∧ i = .int .i64 k ∧ Hid (b14.Ext wr)) (fun i _ => S.length - (intOf i).toNat)
          case atStart => exact ⟨0, Nat.zero_le _, rfl, HX⟩
          case round =>
            clear HX c21 lc21 c32x lc32x c13x lc13x
            obtain ⟨k2, hk2, rfl, HX⟩ := hrel
            obtain ⟨wm, rfl⟩ : ∃ wm : World, wm = wr := ⟨_, rfl⟩
            have hk20 : (0 : Int) ≤ (k2 : Int) := by omega
            have c32x := (HALL.out wm HX.out).2.2.2.2.2.2.2.2.2.2.2.2.2.2.2.2.2.2.2.2.2.2.2.2.2.2.1
            have lc32x := World.block_lt_of_cell? _ _ c32x
            have c13x := (HALL.out wm HX.out).2.2.2.2.2.2.2.2.1
            have lc13x := World.block_lt_of_cell? _ _ c13x
            by_cases hlt2 : k2 < S.length
            · have hlt2' : (k2 : Int) < (S.length : Int) := by omega
              obtain ⟨e3, o3, rfl, d0, d1⟩ := ((HALL.out wm HX.out).2.2.2.2.2.2.2.2.2.2.2.2.2.2.2.2.2.2.2.2.2.2.2.2.2.2.2.1).at hlt2
              obtain ⟨e4, o4, rfl, f0, f1⟩ := ((HALL.out wm HX.out).2.2.2.2.2.2.2.2.2.1).at hlt2
              generalize S.getD k2 (0, 0) = q at d0 d1 f0 f1
              obtain ⟨x, y⟩ := q
              dsimp only at d0 d1 f0 f1
              go_wp2_with fail
              refine wp_region_over_lit (by kernel_rfl) (by kernel_rfl) ?_; (repeat (go_big_quiet_step (fail))); refine wpQuiet_nil ?_; rintro _ ⟨x1, rfl⟩
              have HX1 : Hid (b14.Ext (wm.over x1)) := HX.out.trans ⟨x1, rfl⟩
              clear HX c32x lc32x c13x lc13x d0 d1 f0 f1
              go_wp2
              go_roundw
              case rel => exact ⟨k2 + 1, by omega, by go_num, HX1⟩
              case measure => simp [intOf]; omega
            · have hke2 : ¬ (k2 : Int) < (S.length : Int) := by omega
              have HXF := Lib.hid (HWB.out.trans HX.out)
              clear HALL HX HWB
              go_wp2
              go_ret
              exact ⟨rfl, HXF.out⟩
    · as_aux_lemma =>
      clear lc13x c13x
      clear HFG
      have HX_ := Lib.hid (HX.out.trans hx)
      clear HX
      have HX := HX_
      clear HX_
      clear hx
      obtain ⟨bb11, hnb⟩ : ∃ bb11, bb11 = (vf.alloc (.cells #[.slice none 0 0] 48)).alloc (.cells #[.slice none 0 0] 48) := ⟨_, rfl⟩
      have hxx : vf.Ext bb11 := by rw [hnb]; repeat (first | exact World.Ext.refl _ | exact ⟨_, rfl⟩ | assumption | refine World.Ext.over ?_ _ | refine World.Ext.drewN ?_ _ | refine World.Ext.drew ?_ | refine World.Ext.alloc ?_ _ | refine World.Ext.setCell ?_ (by simp) _)
      have c21_ : bb11.cell? ⟨vf.heap.size, 0, none⟩ = some (.slice none 0 0) := by rw [hnb]; simp [go_sem]
      have c22_ : bb11.cell? ⟨vf.heap.size + 1, 0, none⟩ = some (.slice none 0 0) := by rw [hnb]; simp [go_sem]
      go_upto_region 23 with fail
      rw [← hnb]
      clear hnb
      generalize vf.heap.size = q21 at *
      have HALL_ : Hid (∀ w', bb11.Ext w' → w'.cell? ⟨q5, 0, none⟩ = some (.slice (some ⟨rb, ro, none⟩) ss.length pc) ∧ RowS w' (some ⟨rb, ro, none⟩) ss ∧ w'.cell? ⟨q9, 0, none⟩ = some (.slice a9 16 c9) ∧ RowS w' a9 (picRows 16 16 l0) ∧ w'.cell? ⟨q11, 0, none⟩ = some (.slice aa da.length ca) ∧ RowP w' aa da ∧ w'.cell? ⟨q12, 0, none⟩ = some (.slice ab db.length cb) ∧ RowP w' ab db ∧ w'.cell? ⟨q13, 0, none⟩ = some (.slice a13 S.length c13) ∧ RowP w' a13 S ∧ w'.cell? ⟨q15, 0, none⟩ = some (.slice a15 16 c15) ∧ RowS w' a15 (picRows 16 16 (mkl 16 16 gA)) ∧ w'.cell? ⟨q17, 0, none⟩ = some (.slice a17 16 c17) ∧ RowS w' a17 (picRows 16 16 (mkl 16 16 gS)) ∧ w'.cell? ⟨q19, 0, none⟩ = some (.slice a19 16 c19) ∧ RowS w' a19 (picRows 16 16 (mkl 16 16 gS)) ∧ w'.cell? ⟨q21, 0, none⟩ = some (.slice none 0 0) ∧ w'.cell? ⟨q21 + 1, 0, none⟩ = some (.slice none 0 0) ∧ True) := fun w' hx' => ⟨(HALL.out w' ((HX.out.trans hxx).trans hx')).1, (HALL.out w' ((HX.out.trans hxx).trans hx')).2.1, (HALL.out w' ((HX.out.trans hxx).trans hx')).2.2.1, (HALL.out w' ((HX.out.trans hxx).trans hx')).2.2.2.1, (HALL.out w' ((HX.out.trans hxx).trans hx')).2.2.2.2.1, (HALL.out w' ((HX.out.trans hxx).trans hx')).2.2.2.2.2.1, (HALL.out w' ((HX.out.trans hxx).trans hx')).2.2.2.2.2.2.1, (HALL.out w' ((HX.out.trans hxx).trans hx')).2.2.2.2.2.2.2.1, (HALL.out w' ((HX.out.trans hxx).trans hx')).2.2.2.2.2.2.2.2.1, (HALL.out w' ((HX.out.trans hxx).trans hx')).2.2.2.2.2.2.2.2.2.1, (HALL.out w' ((HX.out.trans hxx).trans hx')).2.2.2.2.2.2.2.2.2.2.1, (HALL.out w' ((HX.out.trans hxx).trans hx')).2.2.2.2.2.2.2.2.2.2.2.1, (HALL.out w' ((HX.out.trans hxx).trans hx')).2.2.2.2.2.2.2.2.2.2.2.2.1, (HALL.out w' ((HX.out.trans hxx).trans hx')).2.2.2.2.2.2.2.2.2.2.2.2.2.1, (HALL.out w' ((HX.out.trans hxx).trans hx')).2.2.2.2.2.2.2.2.2.2.2.2.2.2.1, (HALL.out w' ((HX.out.trans hxx).trans hx')).2.2.2.2.2.2.2.2.2.2.2.2.2.2.2.1, hx'.cell c21_, hx'.cell c22_, trivial⟩
      have HWB_ := Lib.hid (HWB.out.trans (HX.out.trans hxx))
      have HX_ : Hid (bb11.Ext bb11) := .refl _
      clear hxx HWB HX HALL
      have HALL := HALL_
      have HWB := HWB_
      have HX := HX_
      clear HALL_ HWB_ HX_
      clear c21_ c22_
      have c13x := (HALL.out bb11 HX.out).2.2.2.2.2.2.2.2.1
      have lc13x := World.block_lt_of_cell? _ _ c13x
      go_wp2_with fail
      refine (HFS.out bb11 a13 c13 (HALL.out bb11 HX.out).2.2.2.2.2.2.2.2.2.1).mono ?_
      intro e vg hor
      obtain ⟨sa, sn, sc, sb, sm, sd, rfl, hx⟩ : SfRet bb11 false e vg := by
        rcases hor with ⟨k, h1, h2, -⟩ | ⟨-, h⟩
        · have := hno k h1
          rw [h2] at this
          cases this
        · exact h
      clear hor hno
      clear lc13x c13x
      have HX_ := Lib.hid (HX.out.trans hx)
      clear HX
      have HX := HX_
      clear HX_
      clear hx
      clear HFI HFS
      obtain ⟨bb12, hnb⟩ : ∃ bb12, bb12 = (vg.alloc (.cells #[.slice sa sn sc] 48)).alloc (.cells #[.slice sb sm sd] 48) := ⟨_, rfl⟩
      have hxx : vg.Ext bb12 := by rw [hnb]; repeat (first | exact World.Ext.refl _ | exact ⟨_, rfl⟩ | assumption | refine World.Ext.over ?_ _ | refine World.Ext.drewN ?_ _ | refine World.Ext.drew ?_ | refine World.Ext.alloc ?_ _ | refine World.Ext.setCell ?_ (by simp) _)
      have c24_ : bb12.cell? ⟨vg.heap.size, 0, none⟩ = some (.slice sa sn sc) := by rw [hnb]; simp [go_sem]
      have c25_ : bb12.cell? ⟨vg.heap.size + 1, 0, none⟩ = some (.slice sb sm sd) := by rw [hnb]; simp [go_sem]
      go_upto_region 24 with fail
      rw [← hnb]
      clear hnb
      generalize vg.heap.size = q24 at *
      have HALL_ : Hid (∀ w', bb12.Ext w' → w'.cell? ⟨q5, 0, none⟩ = some (.slice (some ⟨rb, ro, none⟩) ss.length pc) ∧ RowS w' (some ⟨rb, ro, none⟩) ss ∧ w'.cell? ⟨q9, 0, none⟩ = some (.slice a9 16 c9) ∧ RowS w' a9 (picRows 16 16 l0) ∧ w'.cell? ⟨q11, 0, none⟩ = some (.slice aa da.length ca) ∧ RowP w' aa da ∧ w'.cell? ⟨q12, 0, none⟩ = some (.slice ab db.length cb) ∧ RowP w' ab db ∧ w'.cell? ⟨q13, 0, none⟩ = some (.slice a13 S.length c13) ∧ RowP w' a13 S ∧ w'.cell? ⟨q15, 0, none⟩ = some (.slice a15 16 c15) ∧ RowS w' a15 (picRows 16 16 (mkl 16 16 gA)) ∧ w'.cell? ⟨q17, 0, none⟩ = some (.slice a17 16 c17) ∧ RowS w' a17 (picRows 16 16 (mkl 16 16 gS)) ∧ w'.cell? ⟨q19, 0, none⟩ = some (.slice a19 16 c19) ∧ RowS w' a19 (picRows 16 16 (mkl 16 16 gS)) ∧ w'.cell? ⟨q21, 0, none⟩ = some (.slice none 0 0) ∧ w'.cell? ⟨q21 + 1, 0, none⟩ = some (.slice none 0 0) ∧ w'.cell? ⟨q24, 0, none⟩ = some (.slice sa sn sc) ∧ w'.cell? ⟨q24 + 1, 0, none⟩ = some (.slice sb sm sd) ∧ True) := fun w' hx' => ⟨(HALL.out w' ((HX.out.trans hxx).trans hx')).1, (HALL.out w' ((HX.out.trans hxx).trans hx')).2.1, (HALL.out w' ((HX.out.trans hxx).trans hx')).2.2.1, (HALL.out w' ((HX.out.trans hxx).trans hx')).2.2.2.1, (HALL.out w' ((HX.out.trans hxx).trans hx')).2.2.2.2.1, (HALL.out w' ((HX.out.trans hxx).trans hx')).2.2.2.2.2.1, (HALL.out w' ((HX.out.trans hxx).trans hx')).2.2.2.2.2.2.1, (HALL.out w' ((HX.out.trans hxx).trans hx')).2.2.2.2.2.2.2.1, (HALL.out w' ((HX.out.trans hxx).trans hx')).2.2.2.2.2.2.2.2.1, (HALL.out w' ((HX.out.trans hxx).trans hx')).2.2.2.2.2.2.2.2.2.1, (HALL.out w' ((HX.out.trans hxx).trans hx')).2.2.2.2.2.2.2.2.2.2.1, (HALL.out w' ((HX.out.trans hxx).trans hx')).2.2.2.2.2.2.2.2.2.2.2.1, (HALL.out w' ((HX.out.trans hxx).trans hx')).2.2.2.2.2.2.2.2.2.2.2.2.1, (HALL.out w' ((HX.out.trans hxx).trans hx')).2.2.2.2.2.2.2.2.2.2.2.2.2.1, (HALL.out w' ((HX.out.trans hxx).trans hx')).2.2.2.2.2.2.2.2.2.2.2.2.2.2.1, (HALL.out w' ((HX.out.trans hxx).trans hx')).2.2.2.2.2.2.2.2.2.2.2.2.2.2.2.1, (HALL.out w' ((HX.out.trans hxx).trans hx')).2.2.2.2.2.2.2.2.2.2.2.2.2.2.2.2.1, (HALL.out w' ((HX.out.trans hxx).trans hx')).2.2.2.2.2.2.2.2.2.2.2.2.2.2.2.2.2.1, hx'.cell c24_, hx'.cell c25_, trivial⟩
      have HWB_ := Lib.hid (HWB.out.trans (HX.out.trans hxx))
      have HX_ : Hid (bb12.Ext bb12) := .refl _
      clear hxx HWB HX HALL
      have HALL := HALL_
      have HWB := HWB_
      have HX := HX_
      clear HALL_ HWB_ HX_
      clear c24_ c25_
      have c11x := (HALL.out bb12 HX.out).2.2.2.2.1
      have lc11x := World.block_lt_of_cell? _ _ c11x
      go_wp2_with fail
      refine (HM1.out bb12 (HALL.out bb12 HX.out).2.2.2.2.2.1).mono ?_
      rintro e v13 ⟨a27, c27, rfl, hx, hrow⟩
      clear lc11x c11x
      have HX_ := Lib.hid (HX.out.trans hx)
      clear HX
      have HX := HX_
      clear HX_
      have HR27 := Lib.hid hrow
      clear hrow HM1
      clear hx
      obtain ⟨b13, hb13⟩ : ∃ b13, b13 = v13.alloc (.cells #[.slice a27 (mirL da).length c27] 48) := ⟨_, rfl⟩
      have hxb : v13.Ext b13 := by rw [hb13]; repeat (first | exact World.Ext.refl _ | exact ⟨_, rfl⟩ | assumption | refine World.Ext.over ?_ _ | refine World.Ext.drewN ?_ _ | refine World.Ext.drew ?_ | refine World.Ext.alloc ?_ _ | refine World.Ext.setCell ?_ (by simp) _)
      have c27x_ : b13.cell? ⟨v13.heap.size, 0, none⟩ = some (.slice a27 (mirL da).length c27) := by rw [hb13]; simp [go_sem]
      have HALL_ : Hid (∀ w', b13.Ext w' → w'.cell? ⟨q5, 0, none⟩ = some (.slice (some ⟨rb, ro, none⟩) ss.length pc) ∧ RowS w' (some ⟨rb, ro, none⟩) ss ∧ w'.cell? ⟨q9, 0, none⟩ = some (.slice a9 16 c9) ∧ RowS w' a9 (picRows 16 16 l0) ∧ w'.cell? ⟨q11, 0, none⟩ = some (.slice aa da.length ca) ∧ RowP w' aa da ∧ w'.cell? ⟨q12, 0, none⟩ = some (.slice ab db.length cb) ∧ RowP w' ab db ∧ w'.cell? ⟨q13, 0, none⟩ = some (.slice a13 S.length c13) ∧ RowP w' a13 S ∧ w'.cell? ⟨q15, 0, none⟩ = some (.slice a15 16 c15) ∧ RowS w' a15 (picRows 16 16 (mkl 16 16 gA)) ∧ w'.cell? ⟨q17, 0, none⟩ = some (.slice a17 16 c17) ∧ RowS w' a17 (picRows 16 16 (mkl 16 16 gS)) ∧ w'.cell? ⟨q19, 0, none⟩ = some (.slice a19 16 c19) ∧ RowS w' a19 (picRows 16 16 (mkl 16 16 gS)) ∧ w'.cell? ⟨q21, 0, none⟩ = some (.slice none 0 0) ∧ w'.cell? ⟨q21 + 1, 0, none⟩ = some (.slice none 0 0) ∧ w'.cell? ⟨q24, 0, none⟩ = some (.slice sa sn sc) ∧ w'.cell? ⟨q24 + 1, 0, none⟩ = some (.slice sb sm sd) ∧ w'.cell? ⟨v13.heap.size, 0, none⟩ = some (.slice a27 (mirL da).length c27) ∧ RowP w' a27 (mirL da) ∧ True) := fun w' hx' => ⟨(HALL.out w' ((HX.out.trans hxb).trans hx')).1, (HALL.out w' ((HX.out.trans hxb).trans hx')).2.1, (HALL.out w' ((HX.out.trans hxb).trans hx')).2.2.1, (HALL.out w' ((HX.out.trans hxb).trans hx')).2.2.2.1, (HALL.out w' ((HX.out.trans hxb).trans hx')).2.2.2.2.1, (HALL.out w' ((HX.out.trans hxb).trans hx')).2.2.2.2.2.1, (HALL.out w' ((HX.out.trans hxb).trans hx')).2.2.2.2.2.2.1, (HALL.out w' ((HX.out.trans hxb).trans hx')).2.2.2.2.2.2.2.1, (HALL.out w' ((HX.out.trans hxb).trans hx')).2.2.2.2.2.2.2.2.1, (HALL.out w' ((HX.out.trans hxb).trans hx')).2.2.2.2.2.2.2.2.2.1, (HALL.out w' ((HX.out.trans hxb).trans hx')).2.2.2.2.2.2.2.2.2.2.1, (HALL.out w' ((HX.out.trans hxb).trans hx')).2.2.2.2.2.2.2.2.2.2.2.1, (HALL.out w' ((HX.out.trans hxb).trans hx')).2.2.2.2.2.2.2.2.2.2.2.2.1, (HALL.out w' ((HX.out.trans hxb).trans hx')).2.2.2.2.2.2.2.2.2.2.2.2.2.1, (HALL.out w' ((HX.out.trans hxb).trans hx')).2.2.2.2.2.2.2.2.2.2.2.2.2.2.1, (HALL.out w' ((HX.out.trans hxb).trans hx')).2.2.2.2.2.2.2.2.2.2.2.2.2.2.2.1, (HALL.out w' ((HX.out.trans hxb).trans hx')).2.2.2.2.2.2.2.2.2.2.2.2.2.2.2.2.1, (HALL.out w' ((HX.out.trans hxb).trans hx')).2.2.2.2.2.2.2.2.2.2.2.2.2.2.2.2.2.1, (HALL.out w' ((HX.out.trans hxb).trans hx')).2.2.2.2.2.2.2.2.2.2.2.2.2.2.2.2.2.2.1, (HALL.out w' ((HX.out.trans hxb).trans hx')).2.2.2.2.2.2.2.2.2.2.2.2.2.2.2.2.2.2.2.1, hx'.cell c27x_, RowP.ext HR27.out (hxb.trans hx'), trivial⟩
      have HWB_ := Lib.hid (HWB.out.trans (HX.out.trans hxb))
      have HX_ : Hid (b13.Ext b13) := .refl _
      clear hxb c27x_ HWB HX HALL
      have HALL := HALL_
      have HWB := HWB_
      have HX := HX_
      clear HALL_ HWB_ HX_
      go_upto_region 25 with fail
      rw [← hb13]
      clear hb13
      generalize v13.heap.size = q27 at *
      have c27x := (HALL.out b13 HX.out).2.2.2.2.2.2.2.2.2.2.2.2.2.2.2.2.2.2.2.2.1
      have lc27x := World.block_lt_of_cell? _ _ c27x
      go_wp2_with fail
      refine (HM2.out b13 a27 c27 (HALL.out b13 HX.out).2.2.2.2.2.2.2.2.2.2.2.2.2.2.2.2.2.2.2.2.2.1).mono ?_
      rintro e v14 ⟨a29, c29, rfl, hx, hrow⟩
      clear lc27x c27x
      have HX_ := Lib.hid (HX.out.trans hx)
      clear HX
      have HX := HX_
      clear HX_
      have HR29 := Lib.hid hrow
      clear hrow HM2 HR27
      clear hx
      obtain ⟨b14, hb14⟩ : ∃ b14, b14 = v14.alloc (.cells #[.slice a29 da.length c29] 48) := ⟨_, rfl⟩
      have hxb : v14.Ext b14 := by rw [hb14]; repeat (first | exact World.Ext.refl _ | exact ⟨_, rfl⟩ | assumption | refine World.Ext.over ?_ _ | refine World.Ext.drewN ?_ _ | refine World.Ext.drew ?_ | refine World.Ext.alloc ?_ _ | refine World.Ext.setCell ?_ (by simp) _)
      have c29x_ : b14.cell? ⟨v14.heap.size, 0, none⟩ = some (.slice a29 da.length c29) := by rw [hb14]; simp [go_sem]
      have HALL_ : Hid (∀ w', b14.Ext w' → w'.cell? ⟨q5, 0, none⟩ = some (.slice (some ⟨rb, ro, none⟩) ss.length pc) ∧ RowS w' (some ⟨rb, ro, none⟩) ss ∧ w'.cell? ⟨q9, 0, none⟩ = some (.slice a9 16 c9) ∧ RowS w' a9 (picRows 16 16 l0) ∧ w'.cell? ⟨q11, 0, none⟩ = some (.slice aa da.length ca) ∧ RowP w' aa da ∧ w'.cell? ⟨q12, 0, none⟩ = some (.slice ab db.length cb) ∧ RowP w' ab db ∧ w'.cell? ⟨q13, 0, none⟩ = some (.slice a13 S.length c13) ∧ RowP w' a13 S ∧ w'.cell? ⟨q15, 0, none⟩ = some (.slice a15 16 c15) ∧ RowS w' a15 (picRows 16 16 (mkl 16 16 gA)) ∧ w'.cell? ⟨q17, 0, none⟩ = some (.slice a17 16 c17) ∧ RowS w' a17 (picRows 16 16 (mkl 16 16 gS)) ∧ w'.cell? ⟨q19, 0, none⟩ = some (.slice a19 16 c19) ∧ RowS w' a19 (picRows 16 16 (mkl 16 16 gS)) ∧ w'.cell? ⟨q21, 0, none⟩ = some (.slice none 0 0) ∧ w'.cell? ⟨q21 + 1, 0, none⟩ = some (.slice none 0 0) ∧ w'.cell? ⟨q24, 0, none⟩ = some (.slice sa sn sc) ∧ w'.cell? ⟨q24 + 1, 0, none⟩ = some (.slice sb sm sd) ∧ w'.cell? ⟨q27, 0, none⟩ = some (.slice a27 (mirL da).length c27) ∧ RowP w' a27 (mirL da) ∧ w'.cell? ⟨v14.heap.size, 0, none⟩ = some (.slice a29 da.length c29) ∧ RowP w' a29 da ∧ True) := fun w' hx' => ⟨(HALL.out w' ((HX.out.trans hxb).trans hx')).1, (HALL.out w' ((HX.out.trans hxb).trans hx')).2.1, (HALL.out w' ((HX.out.trans hxb).trans hx')).2.2.1, (HALL.out w' ((HX.out.trans hxb).trans hx')).2.2.2.1, (HALL.out w' ((HX.out.trans hxb).trans hx')).2.2.2.2.1, (HALL.out w' ((HX.out.trans hxb).trans hx')).2.2.2.2.2.1, (HALL.out w' ((HX.out.trans hxb).trans hx')).2.2.2.2.2.2.1, (HALL.out w' ((HX.out.trans hxb).trans hx')).2.2.2.2.2.2.2.1, (HALL.out w' ((HX.out.trans hxb).trans hx')).2.2.2.2.2.2.2.2.1, (HALL.out w' ((HX.out.trans hxb).trans hx')).2.2.2.2.2.2.2.2.2.1, (HALL.out w' ((HX.out.trans hxb).trans hx')).2.2.2.2.2.2.2.2.2.2.1, (HALL.out w' ((HX.out.trans hxb).trans hx')).2.2.2.2.2.2.2.2.2.2.2.1, (HALL.out w' ((HX.out.trans hxb).trans hx')).2.2.2.2.2.2.2.2.2.2.2.2.1, (HALL.out w' ((HX.out.trans hxb).trans hx')).2.2.2.2.2.2.2.2.2.2.2.2.2.1, (HALL.out w' ((HX.out.trans hxb).trans hx')).2.2.2.2.2.2.2.2.2.2.2.2.2.2.1, (HALL.out w' ((HX.out.trans hxb).trans hx')).2.2.2.2.2.2.2.2.2.2.2.2.2.2.2.1, (HALL.out w' ((HX.out.trans hxb).trans hx')).2.2.2.2.2.2.2.2.2.2.2.2.2.2.2.2.1, (HALL.out w' ((HX.out.trans hxb).trans hx')).2.2.2.2.2.2.2.2.2.2.2.2.2.2.2.2.2.1, (HALL.out w' ((HX.out.trans hxb).trans hx')).2.2.2.2.2.2.2.2.2.2.2.2.2.2.2.2.2.2.1, (HALL.out w' ((HX.out.trans hxb).trans hx')).2.2.2.2.2.2.2.2.2.2.2.2.2.2.2.2.2.2.2.1, (HALL.out w' ((HX.out.trans hxb).trans hx')).2.2.2.2.2.2.2.2.2.2.2.2.2.2.2.2.2.2.2.2.1, (HALL.out w' ((HX.out.trans hxb).trans hx')).2.2.2.2.2.2.2.2.2.2.2.2.2.2.2.2.2.2.2.2.2.1, hx'.cell c29x_, RowP.ext HR29.out (hxb.trans hx'), trivial⟩
      have HWB_ := Lib.hid (HWB.out.trans (HX.out.trans hxb))
      have HX_ : Hid (b14.Ext b14) := .refl _
      clear hxb c29x_ HWB HX HALL
      have HALL := HALL_
      have HWB := HWB_
      have HX := HX_
      clear HALL_ HWB_ HX_
      go_upto_region 26 with fail
      rw [← hb14]
      clear hb14
      generalize v14.heap.size = q29 at *
      clear HR29
      have c29x := (HALL.out b14 HX.out).2.2.2.2.2.2.2.2.2.2.2.2.2.2.2.2.2.2.2.2.2.2.1
      have lc29x := World.block_lt_of_cell? _ _ c29x
      have c11x := (HALL.out b14 HX.out).2.2.2.2.1
      have lc11x := World.block_lt_of_cell? _ _ c11x
      have hsq : ((da.length : Int) == (da.length : Int)) = true := beq_self_eq_true _
      go_wp2
      go_loopw [31] (fun i wr => ∃ k : Nat, k ≤ da.length ∧ i = .int .i64 k ∧ Hid (b14.Ext wr)) (fun i _ => da.length - (intOf i).toNat)
      case atStart => exact ⟨0, Nat.zero_le _, rfl, HX⟩
      case round =>
        clear HX c29x lc29x c11x lc11x
        obtain ⟨k, hk, rfl, HX⟩ := hrel
        obtain ⟨wl, rfl⟩ : ∃ wl : World, wl = wr := ⟨_, rfl⟩
        have hk0 : (0 : Int) ≤ (k : Int) := by omega
        have c29x := (HALL.out wl HX.out).2.2.2.2.2.2.2.2.2.2.2.2.2.2.2.2.2.2.2.2.2.2.1
        have lc29x := World.block_lt_of_cell? _ _ c29x
        have c11x := (HALL.out wl HX.out).2.2.2.2.1
        have lc11x := World.block_lt_of_cell? _ _ c11x
        by_cases hlt : k < da.length
        · have hlt' : (k : Int) < (da.length : Int) := by omega
          obtain ⟨e1, o1, rfl, d0, d1⟩ := ((HALL.out wl HX.out).2.2.2.2.2.2.2.2.2.2.2.2.2.2.2.2.2.2.2.2.2.2.2.1).at hlt
          obtain ⟨e2, o2, rfl, f0, f1⟩ := ((HALL.out wl HX.out).2.2.2.2.2.1).at hlt
          generalize da.getD k (0, 0) = q at d0 d1 f0 f1
          obtain ⟨x, y⟩ := q
          dsimp only at d0 d1 f0 f1
          go_wp2_with fail
          refine wp_region_over_lit (by kernel_rfl) (by kernel_rfl) ?_; (repeat (go_big_quiet_step (fail))); refine wpQuiet_nil ?_; rintro _ ⟨x1, rfl⟩
          have HX1 : Hid (b14.Ext (wl.over x1)) := HX.out.trans ⟨x1, rfl⟩
          clear HX c29x lc29x c11x lc11x d0 d1 f0 f1
          go_wp2
          go_roundw
          case rel => exact ⟨k + 1, by omega, by go_num, HX1⟩
          case measure => simp [intOf]; omega
        · have hke : ¬ (k : Int) < (da.length : Int) := by omega
          have HXF := Lib.hid (HWB.out.trans HX.out)
          clear HALL HX HWB
          go_wp2
          go_ret
          exact ⟨rfl, HXF.out⟩
end Go.Proofs.Ytkpgelhmeokemaa
