/- The largest component, both sides. -/
import Derived.Test.YtlcofjicpbbdhaaKepF
namespace Go.Proofs.Ytlcofjicpbbdhaa
open Go Go.RowKit
/-- The first of the greatest of the first k. -/
def BestTo (xs : List Int) (k b : Nat) : Prop := b < k ∧ (∀ j, j < k → xs.getD j 0 ≤ xs.getD b 0) ∧ ∀ j, j < b → xs.getD j 0 < xs.getD b 0
theorem BestTo.one (xs : List Int) : BestTo xs 1 0 := ⟨by omega, fun j hj => by rw [show j = 0 by omega]; omega, fun j hj => by omega⟩
theorem BestTo.yes {xs : List Int} {k b : Nat} (h : BestTo xs k b) (hk : xs.getD b 0 < xs.getD k 0) : BestTo xs (k + 1) k :=
  ⟨by omega, fun j hj => by
    by_cases e : j = k
    · rw [e]; omega
    · have := h.2.1 j (by omega); omega, fun j hj => by have := h.2.1 j hj; omega⟩
theorem BestTo.no {xs : List Int} {k b : Nat} (h : BestTo xs k b) (hk : ¬ xs.getD b 0 < xs.getD k 0) : BestTo xs (k + 1) b :=
  ⟨by have := h.1; omega, fun j hj => by
    by_cases e : j = k
    · rw [e]; omega
    · exact h.2.1 j (by omega), h.2.2⟩
theorem BestTo.uniq {xs : List Int} {k b b' : Nat} (h : BestTo xs k b) (h' : BestTo xs k b') : b = b' := by
  rcases Nat.lt_trichotomy b b' with e | e | e
  · have h1 := h'.2.2 b e
    have h2 := h.2.1 b' h'.1
    omega
  · exact e
  · have h1 := h.2.2 b' e
    have h2 := h'.2.1 b h.1
    omega
theorem BestTo.ex (xs : List Int) : ∀ k, 0 < k → ∃ b, BestTo xs k b
  | 0, h => by omega
  | 1, _ => ⟨0, BestTo.one xs⟩
  | k + 2, _ => by
    obtain ⟨b, h⟩ := BestTo.ex xs (k + 1) (by omega)
    by_cases hk : xs.getD b 0 < xs.getD (k + 1) 0
    · exact ⟨_, h.yes hk⟩
    · exact ⟨_, h.no hk⟩
def largeOk (ss : List ByteArray) (n : Nat) : Bool := picOk ss && decide (0 < n)
set_option maxRecDepth 5000 in
set_option maxHeartbeats 800000 in
theorem maxI_any (a : Option Addr) (c : Nat) (xs : List Int) (b : Nat) (w : World) (hn : xs.length ≤ 100000) (hb : BestTo xs xs.length b) (hr : RowI w a xs) :
    Calls Try.prog 88 #[.slice a xs.length c] w fun e w' => e = .returned (.int .i64 (xs.getD b 0)) ∧ w.Ext w' := by
  have HR := Lib.hid hr
  have HB := Lib.hid hb
  have hpos : 0 < xs.length := by have := hb.1; omega
  have hpos' : ¬ (xs.length : Int) < 1 := by omega
  obtain ⟨b0, o0, rfl, c0⟩ := HR.out 0 hpos
  rw [Nat.add_zero] at c0
  generalize hm0 : xs.getD 0 0 = m0 at c0
  clear hr hb
  go_enter Try.func88, Try.ntmps88
  go_wp2
  go_loopw [3, 4] (fun v m wr => ∃ k b1 : Nat, k ≤ xs.length ∧ m = .int .i64 k ∧ v = .int .i64 (xs.getD b1 0) ∧ Hid (BestTo xs k b1) ∧ w.Ext wr) (fun _ m _ => xs.length - (intOf m).toNat)
  case atStart => exact ⟨1, 0, hpos, rfl, by rw [hm0], BestTo.one xs, .refl _⟩
  case round =>
    obtain ⟨k, b1, hk, rfl, rfl, HK, hx⟩ := hrel
    clear c0
    by_cases hlt : k < xs.length
    · have hlt' : (k : Int) < (xs.length : Int) := by omega
      have hk0 : (0 : Int) ≤ (k : Int) := by omega
      obtain ⟨b2, o2, e2, c2⟩ := HR.out k hlt
      simp only [Option.some.injEq, Addr.mk.injEq, and_true] at e2
      obtain ⟨rfl, rfl⟩ := e2
      replace c2 := hx.cell c2
      by_cases hm : xs.getD b1 0 < xs.getD k 0
      · have HK2 := Lib.hid (HK.out.yes hm)
        clear HK
        generalize hm1 : xs.getD k 0 = m1 at c2 hm ⊢
        generalize hm2 : xs.getD b1 0 = m2 at hm ⊢
        go_wp2
        all_goals first | (exfalso; omega) | skip
        all_goals
          go_roundw
          case rel => exact ⟨k + 1, k, by omega, by go_num, by rw [hm1] <;> first | rfl | (congr 1; omega), HK2, hx⟩
          case measure => simp [intOf]; omega
      · have HK2 := Lib.hid (HK.out.no hm)
        clear HK
        generalize hm1 : xs.getD k 0 = m1 at c2 hm ⊢
        generalize hm2 : xs.getD b1 0 = m2 at hm ⊢
        go_wp2
        all_goals first | (exfalso; omega) | skip
        all_goals
          go_roundw
          case rel => exact ⟨k + 1, b1, by omega, by go_num, by rw [hm2] <;> first | rfl | (congr 1; omega), HK2, hx⟩
          case measure => simp [intOf]; omega
    · have : k = xs.length := by omega
      subst this
      have e : b1 = b := HK.out.uniq HB.out
      subst e
      go_wp2
      go_ret
      exact ⟨rfl, hx⟩
set_option maxRecDepth 5000 in
set_option maxHeartbeats 800000 in
theorem indexI_any (a : Option Addr) (c : Nat) (xs : List Int) (b : Nat) (w : World) (hn : xs.length ≤ 100000) (hb : BestTo xs xs.length b) (hr : RowI w a xs) :
    Calls Try.prog 87 #[.slice a xs.length c, .int .i64 (xs.getD b 0)] w fun e w' => e = .returned (.int .i64 b) ∧ w.Ext w' := by
  have HR := Lib.hid hr
  have HB := Lib.hid hb
  clear hr hb
  go_enter Try.func87, Try.ntmps87
  go_wp2
  go_loopw [5, 8] (fun _ m wr => ∃ k : Nat, k ≤ b ∧ m = .int .i64 k ∧ w.Ext wr) (fun _ m _ => xs.length - (intOf m).toNat)
  case atStart => exact ⟨0, Nat.zero_le _, rfl, .refl _⟩
  case round =>
    obtain ⟨k, hk, rfl, hx⟩ := hrel
    have hbl := HB.out.1
    have hlt : k < xs.length := by omega
    have hlt' : (k : Int) < (xs.length : Int) := by omega
    have hk0 : (0 : Int) ≤ (k : Int) := by omega
    obtain ⟨b2, o2, rfl, c2⟩ := HR.out k hlt
    replace c2 := hx.cell c2
    by_cases e : k = b
    · subst e
      have f1 : (xs.getD k 0 == xs.getD k 0) = true := by simp
      go_wp2
      go_ret
      exact ⟨rfl, hx⟩
    · have hlt2 := HB.out.2.2 k (by omega)
      have f1 : (xs.getD b 0 == xs.getD k 0) = false := by rw [beq_eq_false_iff_ne]; omega
      have hkb : k < b := by omega
      generalize xs.getD b 0 = m at *
      generalize xs.getD k 0 = m2 at *
      go_wp2
      go_roundw
      case rel => exact ⟨k + 1, by omega, by go_num, hx⟩
      case measure => simp [intOf]; omega
theorem large11_any (p5 b k : Nat) (w : World) (_ : k ≤ 100000) (_ : b ≤ 100000) (h5 : w.cell? ⟨p5, 0, none⟩ = some (.int .i64 ((b : Int) + 1))) :
    Calls Try.prog 90 #[.int .i64 k, .pointer (some ⟨p5, 0, none⟩)] w fun e w' => e = .returned (.bool (k == b + 1)) ∧ w.Ext w' := by
  have e : ((k : Int) == (b : Int) + 1) = (k == b + 1) := by
    rw [Bool.eq_iff_iff, beq_iff_eq, beq_iff_eq]
    omega
  rw [← e]
  clear e
  go_enter Try.func90, Try.ntmps90
  go_wp2
  go_ret
  exact ⟨rfl, .refl _⟩
theorem enters_large11 : Enters 90 := enters_of Try.func90 (by kernel_rfl) (by kernel_rfl)
set_option maxRecDepth 5000 in
set_option maxHeartbeats 1600000 in
theorem large1_any (p1 b ab W H : Nat) (l : List Bool) (eight : Bool) (F : Int × Int → Nat) (n bb : Nat) (w : World) (hW : W ≤ 64) (hH : H ≤ 64) (hI : Img w b ab W H l) (h1 : w.cell? ⟨p1, 0, none⟩ = some (.bool eight))
    (hF : LabK (pxP W H l) (nbA eight) (spotsTo W l (H * W)) (spotsTo W l (H * W)).length F n) (hbb : 0 < n → BestTo (areL W H F n) n bb) :
    Calls Try.prog 85 #[.pointer (some ⟨b, 0, none⟩), .pointer (some ⟨p1, 0, none⟩)] w (DoRet w (decide (0 < n)) W H (mkl W H (keptG F fun k => k == bb + 1))) := by
  have hn : n ≤ 4096 := Nat.le_trans (Nat.le_trans hF.few.1 (spotsTo_len _ _ _)) (Nat.mul_le_mul hH hW)
  have hlen : (areL W H F n).length = n := cntL_len _ _ _
  have HAR : Hid (∀ w', w.Ext w' → Calls Try.prog 86 #[.pointer (some ⟨b, 0, none⟩), .bool eight] w' (IntsRet w' (areL W H F n))) := fun w' hx => areas_any b ab W H l eight F n w' hW hH (hI.ext hx) hF
  by_cases h0 : 0 < n
  · have hb := hbb h0
    have hbn := hb.1
    have HKP : Hid (∀ (w' : World) (p5 : Nat), w.Ext w' → w'.cell? ⟨p5, 0, none⟩ = some (.int .i64 ((bb : Int) + 1)) →
        Calls Try.prog 89 #[.pointer (some ⟨b, 0, none⟩), .bool eight, .func (.func 90) #[] #[.pointer (some ⟨p5, 0, none⟩)]] w' (ImgRet w' W H (mkl W H (keptG F fun k => k == bb + 1)))) := fun w' p5 hx hc =>
      kept_any b ab W H l eight F n 90 #[.pointer (some ⟨p5, 0, none⟩)] (fun k => k == bb + 1) w' hW hH (hI.ext hx) enters_large11 hF (fun w'' hx2 k k1 k2 => large11_any p5 bb k w'' (by omega) (by omega) (hx2.cell hc))
    have HMX : Hid (∀ (w' : World) (a : Option Addr) (c : Nat), RowI w' a (areL W H F n) → Calls Try.prog 88 #[.slice a n c] w' fun e w'' => e = .returned (.int .i64 ((areL W H F n).getD bb 0)) ∧ w'.Ext w'') := fun w' a c hr => by
      have h := maxI_any a c (areL W H F n) bb w' (by omega) (by rw [hlen]; exact hb) hr
      rw [hlen] at h
      exact h
    have HIX : Hid (∀ (w' : World) (a : Option Addr) (c : Nat), RowI w' a (areL W H F n) → Calls Try.prog 87 #[.slice a n c, .int .i64 ((areL W H F n).getD bb 0)] w' fun e w'' => e = .returned (.int .i64 bb) ∧ w'.Ext w'') := fun w' a c hr => by
      have h := indexI_any a c (areL W H F n) bb w' (by omega) (by rw [hlen]; exact hb) hr
      rw [hlen] at h
      exact h
    have f0 : ((n : Int) == 0) = false := by rw [beq_eq_false_iff_ne]; omega
    have HLEN := Lib.hid hlen
    rw [decide_eq_true h0]
    show Calls _ _ _ _ (ImgRet w W H (mkl W H (keptG F fun k => k == bb + 1)))
    clear hI hF hbb hb hlen h0
    generalize mkl W H (keptG F fun k => k == bb + 1) = M at *
    generalize (areL W H F n).getD bb 0 = mx at *
    generalize areL W H F n = xs at *
    go_enter Try.func85, Try.ntmps85
    go_wp2_with fail
    refine (HAR.out w (.refl _)).mono ?_
    rintro e w2 ⟨a2, c2, rfl, hx2, ho2⟩
    rw [HLEN.out]
    have HR2 := Lib.hid ho2.row
    have HX2 := Lib.hid hx2
    have e1 := hx2.cell h1
    clear hx2 ho2
    go_wp2_with fail
    refine (HMX.out w2 a2 c2 HR2.out).mono ?_
    rintro e w3 ⟨rfl, hx3⟩
    have HR3 := Lib.hid (RowOf.ext HR2.out hx3)
    have HX3 := Lib.hid (HX2.out.trans hx3)
    have e2 := hx3.cell e1
    clear hx3 e1 HR2 HX2
    go_wp2_with fail
    refine (HIX.out w3 a2 c2 HR3.out).mono ?_
    rintro e w4 ⟨rfl, hx4⟩
    have e3 := hx4.cell e2
    have l3 := World.block_lt_of_cell? _ _ e3
    dsimp only at l3
    obtain ⟨w5, hw5⟩ : ∃ w5, w5 = w4.alloc (.cells #[.int .i64 ((bb : Int) + 1)] 2) := ⟨_, rfl⟩
    have hx5 : w4.Ext w5 := by rw [hw5]; repeat (first | exact World.Ext.refl _ | exact ⟨_, rfl⟩ | assumption | refine World.Ext.over ?_ _ | refine World.Ext.drewN ?_ _ | refine World.Ext.drew ?_ | refine World.Ext.alloc ?_ _ | refine World.Ext.setCell ?_ (by simp) _)
    have HX5 := Lib.hid (HX3.out.trans (hx4.trans hx5))
    have HC := Lib.hid (HKP.out w5 w4.heap.size HX5.out (by rw [hw5]; simp [go_sem]))
    clear hx4 hx5 e2 HR3 HX3
    go_wp2_with fail
    rw [← hw5]
    clear hw5
    refine HC.out.mono ?_
    rintro e w6 ⟨b4, ab4, rfl, hx6, hi6, hl4, hl5⟩
    have HR : Hid (ImgRet w W H M (.returned (.pointer (some ⟨b4, 0, none⟩))) w6) := ⟨b4, ab4, rfl, HX5.out.trans hx6, hi6, Nat.le_trans HX5.out.size hl4, Nat.le_trans HX5.out.size hl5⟩
    clear hx6 hi6 hl4 hl5
    go_wp2
    go_ret
    exact HR.out
  · have hn0 : n = 0 := by omega
    subst hn0
    rw [decide_eq_false h0]
    show Calls _ _ _ _ (fun e w' => e = .returned (.pointer none) ∧ w.Ext w')
    have HLEN := Lib.hid hlen
    clear hI hF hbb hlen h0
    generalize areL W H F 0 = xs at *
    go_enter Try.func85, Try.ntmps85
    go_wp2_with fail
    refine (HAR.out w (.refl _)).mono ?_
    rintro e w2 ⟨a2, c2, rfl, hx2, ho2⟩
    rw [HLEN.out]
    have HX2 := Lib.hid hx2
    clear hx2 ho2
    go_wp2
    go_ret
    exact ⟨rfl, HX2.out⟩
theorem enters_large1 : Enters 85 := enters_of Try.func85 (by kernel_rfl) (by kernel_rfl)
set_option maxRecDepth 5000 in
set_option maxHeartbeats 1600000 in
theorem implLarge_any (a : Option Addr) (c : Nat) (ss : List ByteArray) (eight : Bool) (F : Int × Int → Nat) (n bb : Nat) (hF : LabP ss eight F n) (hbb : 0 < n → BestTo (areL (picW ss) ss.length F n) n bb) (w : World) (hb : PicBnd ss) (hm : RowS w a ss) :
    Calls Try.prog 18 #[.agg #[.slice a ss.length c], .bool eight] w (PicRet2 w (optRows (largeOk ss n) (picRows (picW ss) ss.length (mkl (picW ss) ss.length (keptG F fun k => k == bb + 1)))) (largeOk ss n)) := by
  obtain ⟨W0, hW0⟩ : ∃ W0, W0 = ((w.alloc (.cells #[.slice a ss.length c] 26)).alloc (.cells #[.bool eight] 4)).alloc (.cells #[.slice none 0 0] 26) := ⟨_, rfl⟩
  have hx0 : w.Ext W0 := by rw [hW0]; repeat (first | exact World.Ext.refl _ | exact ⟨_, rfl⟩ | assumption | refine World.Ext.over ?_ _ | refine World.Ext.drewN ?_ _ | refine World.Ext.drew ?_ | refine World.Ext.alloc ?_ _ | refine World.Ext.setCell ?_ (by simp) _)
  have d0 : W0.cell? ⟨w.heap.size, 0, none⟩ = some (.slice a ss.length c) := by rw [hW0]; simp [go_sem]
  have d1 : W0.cell? ⟨w.heap.size + 1, 0, none⟩ = some (.bool eight) := by rw [hW0]; simp [go_sem]
  have hone : One W0 (w.heap.size + 1 + 1) 26 (.slice none 0 0) := by rw [hW0]; exact One.new _ _ _ _ (by simp)
  have HWI : Hid (Calls Try.prog 84 #[.agg #[.slice a ss.length c], .func (.func 85) #[] #[.pointer (some ⟨w.heap.size + 1, 0, none⟩)]] W0 (PicRet2 W0 (optRows (picOk ss && decide (0 < n)) (picRows (picW ss) ss.length (mkl (picW ss) ss.length (keptG F fun k => k == bb + 1)))) (picOk ss && decide (0 < n)))) :=
    withImage_any a c 85 #[.pointer (some ⟨w.heap.size + 1, 0, none⟩)] ss (decide (0 < n)) _ _ _ W0 hb.1 hb.2 (hm.ext hx0) enters_large1 (fun h _ => by obtain ⟨v1, v2, v3, v4, -, -⟩ := picOk_spec h; omega)
      (fun w' b ab h hx hI => by
        obtain ⟨v1, v2, v3, v4, -, -⟩ := picOk_spec h
        exact large1_any _ b ab _ _ _ eight F n bb w' (by omega) (by omega) hI (hx.cell d1) hF hbb)
  have HX0 := Lib.hid hx0
  have HO := Lib.hid hone
  unfold largeOk
  clear hb hm hx0 hone hF hbb d1
  generalize optRows (picOk ss && decide (0 < n)) (picRows (picW ss) ss.length (mkl (picW ss) ss.length (keptG F fun k => k == bb + 1))) = R at *
  generalize (picOk ss && decide (0 < n)) = ok at *
  go_enter Try.func18, Try.ntmps18
  go_wp2_with fail
  rw [← hW0]
  refine HWI.out.mono ?_
  rintro e w1 ⟨a1, c1, rfl, hx1, ho1⟩
  have hl0 : w.heap.size + 1 + 1 < W0.heap.size := HO.out.lt
  obtain ⟨r1, r2, r3, HR⟩ := Res.store (.slice a1 R.length c1) (HX0.out.trans hx1) (by omega) (HO.out.ext hx1) hl0 ho1
  clear hx1 ho1 hW0
  go_wp2
  exact bodyPost_ret (v := .tuple #[.agg #[.slice a1 R.length c1], .bool ok]) (by simp [results, Try.results18, go_sem, r3]) rfl ⟨a1, c1, rfl, HR.out.1, HR.out.2⟩
set_option maxRecDepth 5000 in
set_option maxHeartbeats 1600000 in
theorem specLarge_any (a : Option Addr) (c : Nat) (ss : List ByteArray) (eight : Bool) (F : Int × Int → Nat) (n bb : Nat) (hF : LabP ss eight F n) (hbb : 0 < n → BestTo (areL (picW ss) ss.length F n) n bb) (w : World) (hb : PicBnd ss) (hm : RowS w a ss) :
    Calls Try.prog 16 #[.agg #[.slice a ss.length c], .bool eight] w (PicRet2 w (optRows (largeOk ss n) (picRows (picW ss) ss.length (mkl (picW ss) ss.length (keptG F fun k => k == bb + 1)))) (largeOk ss n)) := by
  obtain ⟨ib, hib, hb0, hb1, hb2⟩ := info_parts Try.infoBoolR
  obtain ⟨W0, hW0⟩ : ∃ W0, W0 = (w.alloc (.cells #[.slice a ss.length c] 26)).alloc (.cells #[.slice none 0 0] 26) := ⟨_, rfl⟩
  have hx0 : w.Ext W0 := by rw [hW0]; repeat (first | exact World.Ext.refl _ | exact ⟨_, rfl⟩ | assumption | refine World.Ext.over ?_ _ | refine World.Ext.drewN ?_ _ | refine World.Ext.drew ?_ | refine World.Ext.alloc ?_ _ | refine World.Ext.setCell ?_ (by simp) _)
  have d0 : W0.cell? ⟨w.heap.size, 0, none⟩ = some (.slice a ss.length c) := by rw [hW0]; simp [go_sem]
  have hone : One W0 (w.heap.size + 1) 26 (.slice none 0 0) := by rw [hW0]; exact One.new _ _ _ _ (by simp)
  have HI : Hid (Calls Try.prog 78 #[.pointer (some ⟨w.heap.size, 0, none⟩)] W0 fun e w' => e = .returned (.bool (picOk ss)) ∧ W0.Ext w') := l01Is_any _ a c ss W0 hb.1 hb.2 d0 (hm.ext hx0) _ rfl
  have HX0 := Lib.hid hx0
  have HO := Lib.hid hone
  unfold largeOk
  cases h : picOk ss
  · rw [h] at HI
    clear hb hm hx0 d0 hone h hF hbb
    show Calls _ _ _ _ (PicRet2 w [] false)
    go_enter Try.func16, Try.ntmps16
    go_wp2_with fail
    rw [← hW0]
    refine HI.out.mono ?_
    rintro e w1 ⟨rfl, hx1⟩
    obtain ⟨r1, r2, r3, HR⟩ := Res.store (f := Value.string) (d := ByteArray.empty) (a := none) (xs := []) (lo := w.heap.size + 2) (.slice none 0 0) (HX0.out.trans hx1) (by omega) (HO.out.ext hx1) (by omega) (OwnOf.nil _ _)
    clear hx1 hW0
    go_wp2
    exact bodyPost_ret (v := .tuple #[.agg #[.slice none 0 0], .bool false]) (by simp [results, Try.results16, go_sem, r3]) rfl ⟨none, 0, rfl, HR.out.1, OwnOf.nil _ _⟩
  · rw [h] at HI
    simp only [Bool.true_and]
    obtain ⟨v1, v2, v3, v4, e1, -⟩ := picOk_spec h
    have hn := hF.few (by omega) (by omega)
    have HFN : Hid (∀ q, F q ≤ n) := (LabK.few hF).2
    have HLB := Lib.hid (fun w' (hx : W0.Ext w') => l05Labels_any _ a c ss eight F n w' e1 v3 (by omega) (by omega) (hx.cell d0) ((hm.ext hx0).ext hx) (LabK.congr1 (fun p q => (nb_same eight p q).symm) hF))
    by_cases hn0 : 0 < n
    · have HAR : Hid (∀ (w' : World) (a' : Option Addr) (c' : Nat), RowI w' a' (numL (picW ss) ss.length F) → Calls Try.prog 80 #[.slice a' (picW ss * ss.length) c', .int .i64 n] w' (IntsRet w' (areL (picW ss) ss.length F n))) := fun w' a' c' hr => l05Areas_any a' c' _ _ n F w' (by omega) (by omega) hn (LabK.few hF).2 hr
      have HWS : Hid (∀ w', W0.Ext w' → Calls Try.prog 82 #[.pointer (some ⟨w.heap.size, 0, none⟩)] w' fun e w'' => e = .returned (.int .i64 (picW ss)) ∧ w'.Ext w'') := fun w' hx => l01Width_any _ a c ss w' e1.1 (by omega) (by omega) (hx.cell d0) (RowOf.ext (hm.ext hx0) hx)
      have HAL : Hid ((areL (picW ss) ss.length F n).length = n) := cntL_len _ _ _
      have HKG : Hid (∀ x y, keptG F (fun k => k == bb + 1) x y = ((F ((x : Int), (y : Int)) : Int) == (bb : Int) + 1)) := fun x y => by
        show _ = _
        unfold keptG
        rw [Bool.eq_iff_iff, Bool.and_eq_true, decide_eq_true_iff, beq_iff_eq, beq_iff_eq]
        omega
      have HBB := Lib.hid (hbb hn0)
      have f0 : ((n : Int) == 0) = false := by rw [beq_eq_false_iff_ne]; omega
      rw [decide_eq_true hn0]
      clear hb hm hx0 d0 hone h hF e1 hbb
      show Calls _ _ _ _ (PicRet2 w (picRows (picW ss) ss.length (mkl (picW ss) ss.length (keptG F fun k => k == bb + 1))) true)
      generalize keptG F (fun k => k == bb + 1) = G at *
      generalize areL (picW ss) ss.length F n = xs at *
      generalize picW ss = W at *
      generalize ss.length = H at *
      have hWH : W * H ≤ 256 := Nat.mul_le_mul v4 v2
      go_enter Try.func16, Try.ntmps16
      go_wp2_with fail
      rw [← hW0]
      refine HI.out.mono ?_
      rintro e w1 ⟨rfl, hx1⟩
      go_wp2_with fail
      refine (HLB.out _ hx1).mono ?_
      rintro e w3 ⟨a3, c3, rfl, hx3, ho3⟩
      have HX3 := Lib.hid (hx1.trans hx3)
      have HR3 := Lib.hid ho3.row
      clear hx1 hx3 ho3 hW0
      go_wp2_with fail
      refine (HAR.out w3 a3 c3 HR3.out).mono ?_
      rintro e w4 ⟨a4, c4, rfl, hx4, ho4⟩
      rw [HAL.out]
      have HX4 := Lib.hid (HX3.out.trans hx4)
      have HR4 := Lib.hid (RowOf.ext HR3.out hx4)
      have HA4 := Lib.hid ho4.row
      clear hx4 ho4 HX3 HR3
      have hml : (mkl W H G).length = W * H := by rw [mkl_len, Nat.mul_comm]
      have HML := Lib.hid hml
      have HMT : Hid (∀ k, k < W * H → (mkl W H G).take (k + 1) = (mkl W H G).take k ++ [G (k % W) (k / W)]) := fun k hk => mkl_take G (by rw [Nat.mul_comm]; exact hk)
      have HNA : Hid (∀ k, k < W * H → (numL W H F).getD k 0 = (F (((k % W : Nat) : Int), ((k / W : Nat) : Int)) : Int) ∧ k < (numL W H F).length) := fun k hk => by
        rw [numL_len]
        refine ⟨?_, by rw [Nat.mul_comm]; exact hk⟩
        unfold numL
        rw [List.getD_eq_getElem?_getD, List.getElem?_map, List.getElem?_range (by rw [Nat.mul_comm]; exact hk)]
        rfl
      clear hml
      go_wp2
      go_loopw [9, 10] (fun v m wr => ∃ k b1 : Nat, k ≤ n ∧ m = .int .i64 k ∧ v = .int .i64 b1 ∧ Hid (BestTo xs k b1) ∧ Hid (w4.Ext wr)) (fun _ m _ => n - (intOf m).toNat)
      case atStart => exact ⟨1, 0, hn0, rfl, rfl, BestTo.one xs, .refl _⟩
      case round =>
        obtain ⟨k, b1, hk, rfl, rfl, HK, HX⟩ := hrel
        obtain ⟨w5, rfl⟩ : ∃ w5 : World, w5 = wr := ⟨_, rfl⟩
        by_cases hlt : k < n
        · have hlt' : (k : Int) < (n : Int) := by omega
          have hk0 : (0 : Int) ≤ (k : Int) := by omega
          have hb1k := HK.out.1
          have hb1n : (b1 : Int) < (n : Int) := by omega
          have hb10 : (0 : Int) ≤ (b1 : Int) := by omega
          obtain ⟨b4, o4, rfl, q0⟩ := HA4.out k (by rw [HAL.out]; exact hlt)
          obtain ⟨b4', o4', e4, q1⟩ := HA4.out b1 (by rw [HAL.out]; omega)
          simp only [Option.some.injEq, Addr.mk.injEq, and_true] at e4
          obtain ⟨rfl, rfl⟩ := e4
          replace q0 := HX.out.cell q0
          replace q1 := HX.out.cell q1
          by_cases hm : xs.getD b1 0 < xs.getD k 0
          · have HK2 := Lib.hid (HK.out.yes hm)
            clear HK hb1k
            generalize xs.getD k 0 = m1 at *
            generalize xs.getD b1 0 = m2 at *
            go_wp2_with fail
            refine wp_region_over_lit (by kernel_rfl) (by kernel_rfl) ?_; (repeat (go_big_quiet_step (fail))); refine wpQuiet_nil ?_; rintro _ ⟨x1, rfl⟩
            have HX2 : Hid (w4.Ext (w5.over x1)) := HX.out.trans ⟨x1, rfl⟩
            clear HX
            generalize w5.over x1 = w6 at *
            clear q0 q1
            go_wp2
            go_roundw
            case rel => exact ⟨k + 1, k, by omega, by go_num, rfl, HK2, HX2⟩
            case measure => simp [intOf]; omega
          · have HK2 := Lib.hid (HK.out.no hm)
            have hm' : xs.getD k 0 ≤ xs.getD b1 0 := by omega
            clear HK hb1k
            generalize xs.getD k 0 = m1 at *
            generalize xs.getD b1 0 = m2 at *
            go_wp2_with fail
            refine wp_region_over_lit (by kernel_rfl) (by kernel_rfl) ?_; (repeat (go_big_quiet_step (fail))); refine wpQuiet_nil ?_; rintro _ ⟨x1, rfl⟩
            have HX2 : Hid (w4.Ext (w5.over x1)) := HX.out.trans ⟨x1, rfl⟩
            clear HX
            generalize w5.over x1 = w6 at *
            clear q0 q1
            go_wp2
            go_roundw
            case rel => exact ⟨k + 1, b1, by omega, by go_num, rfl, HK2, HX2⟩
            case measure => simp [intOf]; omega
        · have : k = n := by omega
          subst this
          have e : b1 = bb := HK.out.uniq HBB.out
          subst e
          have hbk := HBB.out.1
          have HX5 := HX
          clear HK HX
          have HST : Hid (BlSt w5 (.slice (some ⟨w5.heap.size, 0, none⟩) 0 0) ((mkl W H G).take 0) (w5.alloc (.cells #[] 4))) := BlSt.start
          have HR5 := Lib.hid (RowOf.ext HR4.out HX5.out)
          have HX05 := Lib.hid (HX4.out.trans HX5.out)
          go_wp2
          go_loopw [11, 12, 45] (fun v _ m wr => ∃ j : Nat, j ≤ W * H ∧ m = .int .i64 j ∧ Hid (BlSt w5 v ((mkl W H G).take j) wr)) (fun _ _ m _ => W * H - (intOf m).toNat)
          case atStart => exact ⟨0, Nat.zero_le _, rfl, HST⟩
          case round =>
            obtain ⟨j, hj, rfl, HS⟩ := hrel
            clear HST
            obtain ⟨w6, rfl⟩ : ∃ w6 : World, w6 = wr := ⟨_, rfl⟩
            by_cases hltj : j < W * H
            · have hltj' : (j : Int) < ((W * H : Nat) : Int) := by omega
              have hj0 : (0 : Int) ≤ (j : Int) := by omega
              obtain ⟨na, nl⟩ := HNA.out j hltj
              obtain ⟨b3, o3, rfl, q0⟩ := HR5.out j nl
              rw [na] at q0
              replace q0 := HS.out.1.cell q0
              have hq := HMT.out j hltj
              rw [HKG.out] at hq
              have hlen : ((mkl W H G).take j).length = j := by rw [List.length_take, HML.out]; omega
              have HB1 : Hid (((mkl W H G).take j).length + 1 ≤ maxLen) := by show _ ≤ _; rw [hlen]; unfold maxLen; omega
              have HB2 : Hid ((((mkl W H G).take j).length + 1) * 1 ≤ 140737488355328) := by show _ ≤ _; rw [hlen]; omega
              clear na nl hlen
              generalize (F (((j % W : Nat) : Int), ((j / W : Nat) : Int)) : Int) = v at *
              have HQ := Lib.hid hq
              have HNEXT : Hid (∀ (o : Obj) (v' : Value) (w1 : World), (w6.alloc o).grownBy w1 u11.ownBlock → w1.ownsRow w5.heap.size 4 1 v' (((mkl W H G).take j).length + 1) (((mkl W H G).take j).map Value.bool ++ [.bool (v == (b1 : Int) + 1)]) → Hid (BlSt w5 v' ((mkl W H G).take (j + 1)) w1)) := fun o v' w1 hgrow hown' => BlSt.next HS.out HQ.out hgrow hown'
              have hown := HS.out.2
              unfold GrowOf at hown
              have HLE : ∀ o' : Obj, w5.heap.size ≤ (w6.alloc o').heap.size := fun o' => (HS.out.1.alloc o').size
              clear HS HQ hq
              generalize (mkl W H G).take j = pre at *
              go_wp2_with ((at_builtin; refine wpList_append_own _ rfl _ _ 59 rfl w5.heap.size 4 ib (.bool false) 1 1 Try.underlying59 hib hb0 hb1 hb2 rfl (by decide) _ _ _ rfl (hown.alloc _) ⟨w6.heap.size, 0, none⟩ 1 1 [.bool (v == (b1 : Int) + 1)] rfl rfl (cell_one_new _ _ _) (by simp [Value.oneCell']) HB1.out HB2.out (HLE _) (fun v' w1 hown' hgrow _ => ?_)); have HS4 := HNEXT.out _ _ _ hgrow hown'; clear hgrow hown' hown)
              go_roundw
              case rel => exact ⟨j + 1, by omega, by go_num, HS4⟩
              case measure => simp [intOf]; omega
            · have : j = W * H := by omega
              subst this
              have hS := HS.out
              rw [← HML.out, List.take_length] at hS
              obtain ⟨a5, c5, e5, -⟩ := hS.2.form
              rw [HML.out] at e5
              subst e5
              have HB5 := Lib.hid (GrowOf.own (n := W * H) (a := a5) (cap := c5) false hS.2).row
              have HX6 := Lib.hid (HX05.out.trans hS.1)
              have HRL := Lib.hid (picRows_len W H (mkl W H G))
              clear HS hS
              go_wp2_with fail
              refine (HWS.out w6 HX6.out).mono ?_
              rintro e w7 ⟨rfl, hx7⟩
              have hmk := l01Make_any a5 c5 W H (mkl W H G) w7 v3 (by omega) (by omega) HML.out (RowOf.ext HB5.out hx7)
              rw [HML.out] at hmk
              have HMK := Lib.hid hmk
              clear hmk
              have HX7 := Lib.hid (HX6.out.trans hx7)
              have hl7 : w.heap.size + 1 < w7.heap.size := (HO.out.ext HX7.out).lt
              clear hx7 HB5 HX6
              go_wp2_with fail
              refine HMK.out.mono ?_
              rintro e w8 ⟨a8, c8, rfl, hx8, ho8⟩
              obtain ⟨r1, r2, r3, HR⟩ := Res.store (.slice a8 H c8) (HX0.out.trans (HX7.out.trans hx8)) (by omega) (HO.out.ext (HX7.out.trans hx8)) hl7 ho8
              clear hx8 ho8
              go_wp2
              exact bodyPost_ret (v := .tuple #[.agg #[.slice a8 H c8], .bool true]) (by simp [results, Try.results16, go_sem, r3]) rfl ⟨a8, c8, by rw [HRL.out], HR.out.1, HR.out.2⟩
    · have hn00 : n = 0 := by omega
      subst hn00
      rw [decide_eq_false hn0]
      clear hb hm hx0 d0 hone h hF e1 hbb hn0
      show Calls _ _ _ _ (PicRet2 w [] false)
      go_enter Try.func16, Try.ntmps16
      go_wp2_with fail
      rw [← hW0]
      refine HI.out.mono ?_
      rintro e w1 ⟨rfl, hx1⟩
      go_wp2_with fail
      refine (HLB.out _ hx1).mono ?_
      rintro e w3 ⟨a3, c3, rfl, hx3, ho3⟩
      have hl3 : w.heap.size + 1 < w3.heap.size := (HO.out.ext (hx1.trans hx3)).lt
      obtain ⟨r1, r2, r3, HR⟩ := Res.store (f := Value.string) (d := ByteArray.empty) (a := none) (xs := []) (lo := w.heap.size + 2) (.slice none 0 0) (HX0.out.trans (hx1.trans hx3)) (by omega) (HO.out.ext (hx1.trans hx3)) (by omega) (OwnOf.nil _ _)
      clear hx1 hx3 ho3 hW0
      go_wp2
      exact bodyPost_ret (v := .tuple #[.agg #[.slice none 0 0], .bool false]) (by simp [results, Try.results16, go_sem, r3]) rfl ⟨none, 0, rfl, HR.out.1, OwnOf.nil _ _⟩
theorem Large.ex (ss : List ByteArray) (F : Int × Int → Nat) (n : Nat) : ∃ bb, 0 < n → BestTo (areL (picW ss) ss.length F n) n bb := by
  by_cases h : 0 < n
  · obtain ⟨b, hb⟩ := BestTo.ex (areL (picW ss) ss.length F n) n h
    exact ⟨b, fun _ => hb⟩
  · exact ⟨0, fun h' => absurd h' h⟩
end Go.Proofs.Ytlcofjicpbbdhaa
