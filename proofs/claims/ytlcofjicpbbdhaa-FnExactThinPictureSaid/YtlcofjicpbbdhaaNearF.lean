/- The pixels around a pixel. -/
import Derived.Test.YtlcofjicpbbdhaaListS
import Derived.Test.YtlcofjicpbbdhaaCount
namespace Go.Proofs.Ytlcofjicpbbdhaa
open Go.RowKit
/-- Does a pixel around have a colour? -/
def arB (px : Int → Int → Bool) (x y : Int) (black : Bool) (i j : Nat) : Bool := !(i == 1 && j == 1) && (px (x + ((i : Int) - 1)) (y + ((j : Int) - 1)) == black)
def nearN (px : Int → Int → Bool) (x y : Int) : Nat := (spotsTo 3 (mkl 3 3 (arB px x y true)) (3 * 3)).length
theorem nearN_le (px : Int → Int → Bool) (x y : Int) : nearN px x y ≤ 9 := spotsTo_len _ _ _
theorem nearN_around (px : Int → Int → Bool) (x y : Int) : nearN px x y = (nbA true (x, y)).countP fun q => px q.1 q.2 := by
  unfold nearN nbA arndL
  have e : mkl 3 3 (arB px x y true) = [px (x + -1) (y + -1), px (x + 0) (y + -1), px (x + 1) (y + -1), px (x + -1) (y + 0), false, px (x + 1) (y + 0), px (x + -1) (y + 1), px (x + 0) (y + 1), px (x + 1) (y + 1)] := by
    simp [mkl, arB, List.range_succ]
  rw [e]
  simp only [Nat.reduceMul, spotsTo_count, if_true, List.map_cons, List.map_nil, List.countP_cons, List.countP_nil]
  simp [spotsTo]
  omega
set_option maxRecDepth 5000 in
set_option maxHeartbeats 1600000 in
theorem l05Around_any (p : Nat) (a : Option Addr) (c : Nat) (ss : List ByteArray) (x y : Int) (black : Bool) (w : World) (he : Even ss) (hH : ss.length ≤ 64) (hW : picW ss ≤ 64) (hp : w.cell? ⟨p, 0, none⟩ = some (.slice a ss.length c)) (hm : RowS w a ss)
    (hx : -1000 ≤ x ∧ x ≤ 1000) (hy : -1000 ≤ y ∧ y ≤ 1000) :
    Calls Try.prog 182 #[.pointer (some ⟨p, 0, none⟩), .int .i64 x, .int .i64 y, .bool black] w (PicVal w (picRows 3 3 (mkl 3 3 (arB (pxl (picW ss) ss.length (picL ss)) x y black)))) := by
  obtain ⟨ib, hib, hb0, hb1, hb2⟩ := info_parts Try.infoBoolR
  obtain ⟨hx0', hx1'⟩ := hx
  obtain ⟨hy0', hy1'⟩ := hy
  have HBL : Hid (∀ w', w.Ext w' → ∀ i j : Nat, Calls Try.prog 94 #[.pointer (some ⟨p, 0, none⟩), .int .i64 (x + ((i : Int) - 1)), .int .i64 (y + ((j : Int) - 1))] w' fun e w'' => e = .returned (.bool (pxl (picW ss) ss.length (picL ss) (x + ((i : Int) - 1)) (y + ((j : Int) - 1)))) ∧ w'.Ext w'') := fun w' hx i j =>
    l01Black_any p a c ss _ _ w' he (by omega) (by omega) (hx.cell hp) (RowOf.ext hm hx) _ rfl
  obtain ⟨W0, hW0⟩ : ∃ W0, W0 = w.alloc (.cells #[.slice none 0 0] 26) := ⟨_, rfl⟩
  have hx0 : w.Ext W0 := by rw [hW0]; repeat (first | exact World.Ext.refl _ | exact ⟨_, rfl⟩ | assumption | refine World.Ext.over ?_ _ | refine World.Ext.drewN ?_ _ | refine World.Ext.drew ?_ | refine World.Ext.alloc ?_ _ | refine World.Ext.setCell ?_ (by simp) _)
  have hone : One W0 w.heap.size 26 (.slice none 0 0) := by rw [hW0]; exact One.new _ _ _ _ rfl
  have hsz0 : W0.heap.size = w.heap.size + 1 := by rw [hW0]; simp
  obtain ⟨px, hpx⟩ : ∃ px, px = pxl (picW ss) ss.length (picL ss) := ⟨_, rfl⟩
  rw [← hpx] at HBL ⊢
  have HAR : Hid (∀ i j : Nat, arB px x y black i j = (!(i == 1 && j == 1) && (px (x + ((i : Int) - 1)) (y + ((j : Int) - 1)) == black))) := fun i j => rfl
  generalize arB px x y black = G at *
  have HAT : Hid (∀ i j : Nat, i < 3 → j < 3 → (mkl 3 3 G).take (j * 3 + (i + 1)) = (mkl 3 3 G).take (j * 3 + i) ++ [G i j]) := fun i j hi hj => by
    have hk : j * 3 + i < (mkl 3 3 G).length := by rw [mkl_len]; omega
    rw [← Nat.add_assoc, take_next hk, mkl_at 3 3 G i j hi hj]
  have HLEN := Lib.hid (mkl_len 3 3 G)
  generalize mkl 3 3 G = L at *
  have HX0 := Lib.hid hx0
  have HO := Lib.hid hone
  have HST : Hid (PixSt w w.heap.size 26 (W0.alloc (.cells #[] 4)) ∧ GrowOf Value.bool (w.heap.size + 1) 4 (W0.alloc (.cells #[] 4)) (.slice (some ⟨W0.heap.size, 0, none⟩) 0 0) (L.take 0)) :=
    ⟨⟨HX0.out.alloc _, HO.out.ext ((World.Ext.refl _).alloc _)⟩, GrowOf.empty W0 (by omega)⟩
  clear hm he hp hx0 hone hpx HX0 HO
  go_enter Try.func182, Try.ntmps182
  go_wp2
  rw [← hW0]
  rw [← hsz0]
  clear hW0 hsz0
  go_loopw [9, 10, 11] (fun v m _ wr => ∃ j : Nat, j ≤ 3 ∧ m = .int .i64 ((j : Int) - 1) ∧ Hid (PixSt w w.heap.size 26 wr ∧ GrowOf Value.bool (w.heap.size + 1) 4 wr v (L.take (j * 3)))) (fun _ m _ _ => 3 - (intOf m + 1).toNat)
  case atStart => exact ⟨0, Nat.zero_le _, rfl, HST⟩
  case round =>
    obtain ⟨j, hj, rfl, HS⟩ := hrel
    clear HST
    obtain ⟨wo, rfl⟩ : ∃ wo : World, wo = wr := ⟨_, rfl⟩
    by_cases hltj : j < 3
    · have hltj' : (j : Int) - 1 ≤ 1 := by omega
      go_wp2
      go_loopw [9, 11] (fun v m wr => ∃ i : Nat, i ≤ 3 ∧ m = .int .i64 ((i : Int) - 1) ∧ Hid (PixSt w w.heap.size 26 wr ∧ GrowOf Value.bool (w.heap.size + 1) 4 wr v (L.take (j * 3 + i)))) (fun _ m _ => 3 - (intOf m + 1).toNat)
      case atStart => exact ⟨0, Nat.zero_le _, rfl, HS⟩
      case round =>
        clear HS
        obtain ⟨i, hi, rfl, HS⟩ := hrel
        obtain ⟨w3, rfl⟩ : ∃ w3 : World, w3 = wr := ⟨_, rfl⟩
        by_cases hlti : i < 3
        · have hlti' : (i : Int) - 1 ≤ 1 := by omega
          have hlen : (L.take (j * 3 + i)).length = j * 3 + i := by rw [List.length_take, HLEN.out]; omega
          have HB1 : Hid ((L.take (j * 3 + i)).length + 1 ≤ maxLen) := by show _ ≤ _; rw [hlen]; unfold maxLen; omega
          have HB2 : Hid (((L.take (j * 3 + i)).length + 1) * 1 ≤ 140737488355328) := by show _ ≤ _; rw [hlen]; omega
          have hq := HAT.out i j hlti hltj
          rw [HAR.out] at hq
          have HNX : Hid (∀ (w4 : World) (u9 : Value) (bt : Bool), L.take (j * 3 + (i + 1)) = L.take (j * 3 + i) ++ [bt] → PixSt w w.heap.size 26 w4 ∧ GrowOf Value.bool (w.heap.size + 1) 4 w4 u9 (L.take (j * 3 + i)) → ∀ (o : Obj) (v' : Value) (w1 : World), (w4.alloc o).grownBy w1 u9.ownBlock → w1.ownsRow (w.heap.size + 1) 4 1 v' ((L.take (j * 3 + i)).length + 1) ((L.take (j * 3 + i)).map Value.bool ++ [.bool bt]) → Hid (PixSt w w.heap.size 26 w1 ∧ GrowOf Value.bool (w.heap.size + 1) 4 w1 v' (L.take (j * 3 + (i + 1))))) := fun w4 u9 bt hQ hS o v' w1 hgrow hown' => by
            have hg := GrowOf.push hown'
            rw [← hQ] at hg
            refine ⟨⟨(hS.1.x.alloc o).grown hgrow fun k hk => ?_, (hS.1.one.ext ((World.Ext.refl _).alloc o)).grown hgrow (hS.2.ne hS.1.one (by decide))⟩, hg⟩
            have := (hS.2.block hk).1
            omega
          clear hlen
          by_cases hi1 : i = 1
          · have hne1 : ((i : Int) - 1 == 0) = true := by simp; omega
            have hne1q : ((i : Int) - 1 != 0) = false := by unfold bne; rw [hne1]; rfl
            by_cases hj1 : j = 1
            · have hne2 : ((j : Int) - 1 == 0) = true := by simp; omega
              have hne2q : ((j : Int) - 1 != 0) = false := by unfold bne; rw [hne2]; rfl
              have hQ : L.take (j * 3 + (i + 1)) = L.take (j * 3 + i) ++ [false] := by rw [hq, hi1, hj1]; rfl
              have HNEXT := Lib.hid (HNX.out w3 u9 false hQ HS.out)
              have hown := HS.out.2
              unfold GrowOf at hown
              have HLE : ∀ o' : Obj, w.heap.size + 1 ≤ (w3.alloc o').heap.size := fun o' => by have := HS.out.1.one.lt; simp; omega
              clear HS HNX hq hQ hi1 hj1
              generalize L.take (j * 3 + i) = pre at *
              go_wp2_with ((at_builtin; refine wpList_append_own _ rfl _ _ 59 rfl (w.heap.size + 1) 4 ib (.bool false) 1 1 Try.underlying59 hib hb0 hb1 hb2 rfl (by decide) _ _ _ rfl (hown.alloc _) ⟨w3.heap.size, 0, none⟩ 1 1 [.bool false] rfl rfl (cell_one_new _ _ _) (by simp [Value.oneCell']) HB1.out HB2.out (HLE _) (fun v' w1 hown' hgrow _ => ?_)); have HS4 := HNEXT.out _ _ _ hgrow hown'; clear hgrow hown' hown)
              go_roundw
              case rel => exact ⟨i + 1, by omega, by congr 1; omega, HS4⟩
              case measure => simp [intOf]; omega
            · have hne2 : ((j : Int) - 1 == 0) = false := by simp; omega
              have hne2q : ((j : Int) - 1 != 0) = true := by unfold bne; rw [hne2]; rfl
              have hcond : (!(i == 1 && j == 1)) = true := by simp; omega
              rw [hcond, Bool.true_and] at hq
              have HC := Lib.hid (fun w' hx => HBL.out w' hx i j)
              have HQ := Lib.hid hq
              generalize px (x + ((i : Int) - 1)) (y + ((j : Int) - 1)) = t at *
              clear hq hi1 hj1 hcond
              go_wp2_with fail
              refine (HC.out _ HS.out.1.x).mono ?_
              rintro e w4 ⟨rfl, hx4⟩
              have HS2 := Lib.hid (And.intro (HS.out.1.ext hx4) (HS.out.2.ext hx4))
              have HNEXT := Lib.hid (HNX.out w4 u9 _ HQ.out HS2.out)
              have hown := HS2.out.2
              unfold GrowOf at hown
              have HLE : ∀ o' : Obj, w.heap.size + 1 ≤ (w4.alloc o').heap.size := fun o' => by have := HS2.out.1.one.lt; simp; omega
              clear HS HS2 HNX HQ hx4 HC
              generalize L.take (j * 3 + i) = pre at *
              go_wp2_with ((at_builtin; refine wpList_append_own _ rfl _ _ 59 rfl (w.heap.size + 1) 4 ib (.bool false) 1 1 Try.underlying59 hib hb0 hb1 hb2 rfl (by decide) _ _ _ rfl (hown.alloc _) ⟨w4.heap.size, 0, none⟩ 1 1 [.bool (t == black)] rfl rfl (cell_one_new _ _ _) (by simp [Value.oneCell']) HB1.out HB2.out (HLE _) (fun v' w1 hown' hgrow _ => ?_)); have HS4 := HNEXT.out _ _ _ hgrow hown'; clear hgrow hown' hown)
              go_roundw
              case rel => exact ⟨i + 1, by omega, by congr 1; omega, HS4⟩
              case measure => simp [intOf]; omega
          · have hne1 : ((i : Int) - 1 == 0) = false := by simp; omega
            have hne1q : ((i : Int) - 1 != 0) = true := by unfold bne; rw [hne1]; rfl
            have hcond : (!(i == 1 && j == 1)) = true := by simp; omega
            rw [hcond, Bool.true_and] at hq
            have HC := Lib.hid (fun w' hx => HBL.out w' hx i j)
            have HQ := Lib.hid hq
            generalize px (x + ((i : Int) - 1)) (y + ((j : Int) - 1)) = t at *
            clear hq hi1 hcond
            go_wp2_with fail
            refine (HC.out _ HS.out.1.x).mono ?_
            rintro e w4 ⟨rfl, hx4⟩
            have HS2 := Lib.hid (And.intro (HS.out.1.ext hx4) (HS.out.2.ext hx4))
            have HNEXT := Lib.hid (HNX.out w4 u9 _ HQ.out HS2.out)
            have hown := HS2.out.2
            unfold GrowOf at hown
            have HLE : ∀ o' : Obj, w.heap.size + 1 ≤ (w4.alloc o').heap.size := fun o' => by have := HS2.out.1.one.lt; simp; omega
            clear HS HS2 HNX HQ hx4 HC
            generalize L.take (j * 3 + i) = pre at *
            go_wp2_with ((at_builtin; refine wpList_append_own _ rfl _ _ 59 rfl (w.heap.size + 1) 4 ib (.bool false) 1 1 Try.underlying59 hib hb0 hb1 hb2 rfl (by decide) _ _ _ rfl (hown.alloc _) ⟨w4.heap.size, 0, none⟩ 1 1 [.bool (t == black)] rfl rfl (cell_one_new _ _ _) (by simp [Value.oneCell']) HB1.out HB2.out (HLE _) (fun v' w1 hown' hgrow _ => ?_)); have HS4 := HNEXT.out _ _ _ hgrow hown'; clear hgrow hown' hown)
            go_roundw
            case rel => exact ⟨i + 1, by omega, by congr 1; omega, HS4⟩
            case measure => simp [intOf]; omega
        · have : i = 3 := by omega
          subst this
          have HS2 := HS.out
          rw [← Nat.succ_mul] at HS2
          replace HS2 := Lib.hid HS2
          clear HS
          go_wp2
          go_roundw
          case rel => exact ⟨j + 1, by omega, by congr 1; omega, HS2⟩
          case measure => simp [intOf]; omega
    · have : j = 3 := by omega
      subst this
      have hS2 := HS.out
      have hL9 : L.length = 9 := HLEN.out
      rw [show 3 * 3 = L.length by rw [hL9], List.take_length] at hS2
      obtain ⟨a2, c2, e2, -⟩ := hS2.2.form
      rw [hL9] at e2
      subst e2
      have HX2 := Lib.hid hS2.1.x
      have HO2 := Lib.hid hS2.1.one
      have hl2 := hS2.1.one.lt
      have hmk := l01Make_any a2 c2 3 3 L wo (by omega) (by omega) (by omega) hL9 (GrowOf.own (n := 9) (a := a2) (cap := c2) false hS2.2).row
      rw [hL9] at hmk
      have HMK := Lib.hid hmk
      have HRL := Lib.hid (picRows_len 3 3 L)
      clear HS hS2 hmk hL9
      go_wp2_with fail
      refine HMK.out.mono ?_
      rintro e w4 ⟨a4, c4, rfl, hx4, ho4⟩
      obtain ⟨r1, r2, r3, HRR⟩ := Res.store (.slice a4 3 c4) (HX2.out.trans hx4) (Nat.le_refl _) (HO2.out.ext hx4) hl2 ho4
      clear hx4 ho4
      go_wp2
      exact bodyPost_ret (v := .agg #[.slice a4 3 c4]) (by simp [results, Try.results182, go_sem, r3]) rfl ⟨a4, c4, by rw [HRL.out], HRR.out.1, HRR.out.2⟩
set_option maxRecDepth 5000 in
set_option maxHeartbeats 800000 in
theorem l05Near_any (p : Nat) (a : Option Addr) (c : Nat) (ss : List ByteArray) (x y : Int) (w : World) (he : Even ss) (hH : ss.length ≤ 64) (hW : picW ss ≤ 64) (hp : w.cell? ⟨p, 0, none⟩ = some (.slice a ss.length c)) (hm : RowS w a ss)
    (hx : -1000 ≤ x ∧ x ≤ 1000) (hy : -1000 ≤ y ∧ y ≤ 1000) :
    Calls Try.prog 189 #[.pointer (some ⟨p, 0, none⟩), .int .i64 x, .int .i64 y] w fun e w' => e = .returned (.int .i64 (nearN (pxl (picW ss) ss.length (picL ss)) x y)) ∧ w.Ext w' := by
  have HAR := Lib.hid (l05Around_any p a c ss x y true w he hH hW hp hm hx hy)
  have hml : (mkl 3 3 (arB (pxl (picW ss) ss.length (picL ss)) x y true)).length = 3 * 3 := by rw [mkl_len]
  have hRl := picRows_len 3 3 (mkl 3 3 (arB (pxl (picW ss) ss.length (picL ss)) x y true))
  have HCN : Hid (∀ (w' : World) (p7 : Nat) (a7 : Option Addr) (c7 : Nat), w'.cell? ⟨p7, 0, none⟩ = some (.slice a7 (picRows 3 3 (mkl 3 3 (arB (pxl (picW ss) ss.length (picL ss)) x y true))).length c7) → RowS w' a7 (picRows 3 3 (mkl 3 3 (arB (pxl (picW ss) ss.length (picL ss)) x y true))) →
      Calls Try.prog 238 #[.pointer (some ⟨p7, 0, none⟩)] w' fun e w'' => e = .returned (.int .i64 (nearN (pxl (picW ss) ss.length (picL ss)) x y)) ∧ w'.Ext w'') := fun w' p7 a7 c7 hc hr => by
    have e1 := picW_rows (show 0 < 3 by omega) hml
    have e3 := picL_rows hml
    have h := l01Count_any p7 a7 c7 _ w' (even_rows (show 0 < 3 by omega) hml) (by rw [hRl]; omega) (by rw [e1]; omega) hc hr
    rw [e1, e3, hRl] at h
    exact h
  clear hm he hp hml hRl
  generalize picRows 3 3 (mkl 3 3 (arB (pxl (picW ss) ss.length (picL ss)) x y true)) = R at *
  generalize nearN (pxl (picW ss) ss.length (picL ss)) x y = n at *
  go_enter Try.func189, Try.ntmps189
  go_wp2_with fail
  refine HAR.out.mono ?_
  rintro e w1 ⟨a1, c1, rfl, hx1, ho1⟩
  obtain ⟨w2, hw2⟩ : ∃ w2, w2 = w1.alloc (.cells #[.slice a1 R.length c1] 26) := ⟨_, rfl⟩
  have hx2 : w1.Ext w2 := by rw [hw2]; repeat (first | exact World.Ext.refl _ | exact ⟨_, rfl⟩ | assumption | refine World.Ext.over ?_ _ | refine World.Ext.drewN ?_ _ | refine World.Ext.drew ?_ | refine World.Ext.alloc ?_ _ | refine World.Ext.setCell ?_ (by simp) _)
  have HC := Lib.hid (HCN.out w2 w1.heap.size a1 c1 (by rw [hw2]; simp [go_sem]) (RowOf.ext ho1.row hx2))
  have HX2 := Lib.hid (hx1.trans hx2)
  clear hx1 hx2 ho1
  go_wp2_with fail
  rw [← hw2]
  clear hw2
  refine HC.out.mono ?_
  rintro e w3 ⟨rfl, hx3⟩
  have HX := Lib.hid (HX2.out.trans hx3)
  clear hx3
  go_wp2
  go_ret
  exact ⟨rfl, HX.out⟩
theorem oneIf_any (b : Bool) (w : World) : Calls Try.prog 142 #[.bool b] w fun e w' => e = .returned (.int .i64 (if b then 1 else 0)) ∧ w.Ext w' := by
  cases b
  · go_enter Try.func142, Try.ntmps142
    go_wp2
    go_ret
    exact ⟨rfl, .refl _⟩
  · go_enter Try.func142, Try.ntmps142
    go_wp2
    go_ret
    exact ⟨rfl, .refl _⟩
set_option maxRecDepth 5000 in
set_option maxHeartbeats 1600000 in
theorem company_any (b ab W H : Nat) (l : List Bool) (x y : Int) (w : World) (hW : W ≤ 64) (hH : H ≤ 64) (hI : Img w b ab W H l) (hx : -1000 ≤ x ∧ x ≤ 1000) (hy : -1000 ≤ y ∧ y ≤ 1000) :
    Calls Try.prog 192 #[.pointer (some ⟨b, 0, none⟩), .agg #[.int .i64 x, .int .i64 y]] w fun e w' => e = .returned (.int .i64 (nearN (pxl W H l) x y)) ∧ w.Ext w' := by
  rw [nearN_around]
  have HG : Hid (∀ w' (q : Int × Int), w.Ext w' → Calls Try.prog 97 #[.pointer (some ⟨b, 0, none⟩), .int .i64 q.1, .int .i64 q.2] w' fun e w'' => e = .returned (.bool (pxl W H l q.1 q.2)) ∧ w'.Ext w'') := fun w' q hx => get_any b ab W H l q.1 q.2 w' hW hH (hI.ext hx) _ rfl
  have HAR : Hid (∀ w', Calls Try.prog 208 #[.int .i64 x, .int .i64 y, .bool true] w' (PairsRet w' (nbA true (x, y)))) := fun w' => around_any x y true w' hx hy
  have HON := Lib.hid oneIf_any
  have hl8 : (nbA true (x, y)).length = 8 := by rw [nbA_len]; rfl
  obtain ⟨W0, hW0⟩ : ∃ W0, W0 = w.alloc (.cells #[.int .i64 x, .int .i64 y] 36) := ⟨_, rfl⟩
  have hx0 : w.Ext W0 := by rw [hW0]; repeat (first | exact World.Ext.refl _ | exact ⟨_, rfl⟩ | assumption | refine World.Ext.over ?_ _ | refine World.Ext.drewN ?_ _ | refine World.Ext.drew ?_ | refine World.Ext.alloc ?_ _ | refine World.Ext.setCell ?_ (by simp) _)
  have HX0 := Lib.hid hx0
  clear hI hx0
  generalize pxl W H l = px at *
  generalize nbA true (x, y) = N at *
  have HCL : Hid (∀ j, (N.take j).countP (fun q => px q.1 q.2) ≤ j) := fun j => Nat.le_trans List.countP_le_length (by simp; omega)
  go_enter Try.func192, Try.ntmps192
  go_wp2_with fail
  rw [← hW0]
  clear hW0
  refine (HAR.out W0).mono ?_
  rintro e w1 ⟨a1, c1, rfl, hx1, ho1⟩
  rw [hl8]
  have HR1 := Lib.hid ho1.row
  have HX1 := Lib.hid (HX0.out.trans hx1)
  clear hx1 ho1 HX0
  go_wp2
  go_loopw [5, 14] (fun v m wr => ∃ j : Nat, j ≤ 8 ∧ m = .int .i64 j ∧ v = .int .i64 ((N.take j).countP (fun q => px q.1 q.2) : Nat) ∧ Hid (w1.Ext wr)) (fun _ m _ => 8 - (intOf m).toNat)
  case atStart => exact ⟨0, Nat.zero_le _, rfl, rfl, .refl _⟩
  case round =>
    obtain ⟨j, hj, rfl, rfl, HX⟩ := hrel
    obtain ⟨w2, rfl⟩ : ∃ w2 : World, w2 = wr := ⟨_, rfl⟩
    by_cases hltj : j < 8
    · have hltj' : (j : Int) < 8 := by omega
      have hjl : j < N.length := by omega
      obtain ⟨b0, o0, rfl, c0, c1⟩ := HR1.out.at hjl
      replace c0 := HX.out.cell c0
      replace c1 := HX.out.cell c1
      have hcl := HCL.out j
      have hnext : (N.take (j + 1)).countP (fun q => px q.1 q.2) = (N.take j).countP (fun q => px q.1 q.2) + (if px (N.getD j (0, 0)).1 (N.getD j (0, 0)).2 then 1 else 0) := by
        rw [List.take_succ_eq_append_getElem hjl, List.countP_append, List.getD_eq_getElem?_getD, List.getElem?_eq_getElem hjl]
        simp [List.countP_cons]
      have HNX := Lib.hid hnext
      clear hnext
      generalize (N.take j).countP (fun q => px q.1 q.2) = m at *
      generalize N.getD j (0, 0) = s at c0 c1 HNX
      obtain ⟨sx, sy⟩ := s
      dsimp only at c0 c1
      obtain ⟨w3, hw3⟩ : ∃ w3, w3 = w2.alloc (.cells #[.int .i64 sx, .int .i64 sy] 36) := ⟨_, rfl⟩
      have hx3 : w2.Ext w3 := by rw [hw3]; repeat (first | exact World.Ext.refl _ | exact ⟨_, rfl⟩ | assumption | refine World.Ext.over ?_ _ | refine World.Ext.drewN ?_ _ | refine World.Ext.drew ?_ | refine World.Ext.alloc ?_ _ | refine World.Ext.setCell ?_ (by simp) _)
      have HX3 := Lib.hid (HX.out.trans hx3)
      have HC := Lib.hid (HG.out w3 (sx, sy) (HX1.out.trans HX3.out))
      clear hx3 HX
      go_wp2_with fail
      rw [← hw3]
      clear hw3
      refine HC.out.mono ?_
      rintro e w4 ⟨rfl, hx4⟩
      have HX4 := Lib.hid (HX3.out.trans hx4)
      clear hx4 HX3 c0 c1 HC
      go_wp2_with fail
      refine (HON.out _ w4).mono ?_
      rintro e w5 ⟨rfl, hx5⟩
      have HX5 := Lib.hid (HX4.out.trans hx5)
      clear hx5 HX4
      have HN2 := HNX.out
      cases hb : px sx sy
      · rw [hb] at HN2
        have HN3 : Hid ((N.take (j + 1)).countP (fun q => px q.1 q.2) = m) := by show _ = _; rw [HN2]; rfl
        clear HN2 HNX hb
        go_wp2
        go_roundw
        case rel => exact ⟨j + 1, by omega, by go_num, by rw [HN3.out], HX5⟩
        case measure => simp [intOf]; omega
      · rw [hb] at HN2
        have HN3 : Hid ((N.take (j + 1)).countP (fun q => px q.1 q.2) = m + 1) := by show _ = _; rw [HN2]; rfl
        clear HN2 HNX hb
        go_wp2
        go_roundw
        case rel => exact ⟨j + 1, by omega, by go_num, by rw [HN3.out]; go_num, HX5⟩
        case measure => simp [intOf]; omega
    · have : j = 8 := by omega
      subst this
      rw [show N.take 8 = N by rw [← hl8, List.take_length]]
      have HR := Lib.hid (HX1.out.trans HX.out)
      clear HX
      go_wp2
      go_ret
      exact ⟨rfl, HR.out⟩
end Go.Proofs.Ytlcofjicpbbdhaa
