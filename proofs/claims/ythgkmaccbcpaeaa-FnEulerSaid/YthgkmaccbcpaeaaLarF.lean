/- The largest component, both sides. -/
import Derived.Test.YthgkmaccbcpaeaaKepF
namespace Go.Proofs.Ythgkmaccbcpaeaa
open Go Go.RowKit
/-- The first of the greatest of the first k. -/
def BestTo (xs : List Int) (k b : Nat) : Prop := b < k ∧ (∀ j, j < k → xs.getD j 0 ≤ xs.getD b 0) ∧ ∀ j, j < b → xs.getD j 0 < xs.getD b 0
theorem BestTo.one (xs : List Int) : BestTo xs 1 0 := ⟨by omega, fun j hj => by rw [show j = 0 by omega]; omega, fun j hj => by omega⟩
theorem BestTo.yes {xs : List Int} {k b : Nat} (h : BestTo xs k b) (hk : xs.getD b 0 < xs.getD k 0) : BestTo xs (k + 1) k :=
  ⟨by omega, fun j hj => by
    by_cases e : j = k
    · rw [e]; omega
    · have := h.2.1 j (by omega); omega, fun j hj => by have := h.2.1 j hj; omega⟩
theorem BestTo.no {xs : List Int} {k b : Nat} (h : BestTo xs k b) (hk : ¬ xs.getD b 0 < xs.getD k 0) : BestTo xs (k + 1) b :=
  ⟨by have := h.1; omega, fun j hj => by
    by_cases e : j = k
    · rw [e]; omega
    · exact h.2.1 j (by omega), h.2.2⟩
theorem BestTo.uniq {xs : List Int} {k b b' : Nat} (h : BestTo xs k b) (h' : BestTo xs k b') : b = b' := by
  rcases Nat.lt_trichotomy b b' with e | e | e
  · have h1 := h'.2.2 b e
    have h2 := h.2.1 b' h'.1
    omega
  · exact e
  · have h1 := h.2.2 b' e
    have h2 := h'.2.1 b h.1
    omega
theorem BestTo.ex (xs : List Int) : ∀ k, 0 < k → ∃ b, BestTo xs k b
  | 0, h => by omega
  | 1, _ => ⟨0, BestTo.one xs⟩
  | k + 2, _ => by
    obtain ⟨b, h⟩ := BestTo.ex xs (k + 1) (by omega)
    by_cases hk : xs.getD b 0 < xs.getD (k + 1) 0
    · exact ⟨_, h.yes hk⟩
    · exact ⟨_, h.no hk⟩
def largeOk (ss : List ByteArray) (n : Nat) : Bool := picOk ss && decide (0 < n)
set_option maxRecDepth 5000 in
set_option maxHeartbeats 800000 in
theorem maxI_any (a : Option Addr) (c : Nat) (xs : List Int) (b : Nat) (w : World) (hn : xs.length ≤ 100000) (hb : BestTo xs xs.length b) (hr : RowI w a xs) :
    Calls Try.prog 122 #[.slice a xs.length c] w fun e w' => e = .returned (.int .i64 (xs.getD b 0)) ∧ w.Ext w' := by
  have HR := Lib.hid hr
  have HB := Lib.hid hb
  have hpos : 0 < xs.length := by have := hb.1; omega
  have hpos' : ¬ (xs.length : Int) < 1 := by omega
  obtain ⟨b0, o0, rfl, c0⟩ := HR.out 0 hpos
  rw [Nat.add_zero] at c0
  generalize hm0 : xs.getD 0 0 = m0 at c0
  clear hr hb
  go_enter Try.func122, Try.ntmps122
  go_wp2
  go_loopw [3, 4] (fun v m wr => ∃ k b1 : Nat, k ≤ xs.length ∧ m = .int .i64 k ∧ v = .int .i64 (xs.getD b1 0) ∧ Hid (BestTo xs k b1) ∧ w.Ext wr) (fun _ m _ => xs.length - (intOf m).toNat)
  case atStart => exact ⟨1, 0, hpos, rfl, by rw [hm0], BestTo.one xs, .refl _⟩
  case round =>
    obtain ⟨k, b1, hk, rfl, rfl, HK, hx⟩ := hrel
    clear c0
    by_cases hlt : k < xs.length
    · have hlt' : (k : Int) < (xs.length : Int) := by omega
      have hk0 : (0 : Int) ≤ (k : Int) := by omega
      obtain ⟨b2, o2, e2, c2⟩ := HR.out k hlt
      simp only [Option.some.injEq, Addr.mk.injEq, and_true] at e2
      obtain ⟨rfl, rfl⟩ := e2
      replace c2 := hx.cell c2
      by_cases hm : xs.getD b1 0 < xs.getD k 0
      · have HK2 := Lib.hid (HK.out.yes hm)
        clear HK
        generalize hm1 : xs.getD k 0 = m1 at c2 hm ⊢
        generalize hm2 : xs.getD b1 0 = m2 at hm ⊢
        go_wp2
        all_goals first | (exfalso; omega) | skip
        all_goals
          go_roundw
          case rel => exact ⟨k + 1, k, by omega, by go_num, by rw [hm1] <;> first | rfl | (congr 1; omega), HK2, hx⟩
          case measure => simp [intOf]; omega
      · have HK2 := Lib.hid (HK.out.no hm)
        clear HK
        generalize hm1 : xs.getD k 0 = m1 at c2 hm ⊢
        generalize hm2 : xs.getD b1 0 = m2 at hm ⊢
        go_wp2
        all_goals first | (exfalso; omega) | skip
        all_goals
          go_roundw
          case rel => exact ⟨k + 1, b1, by omega, by go_num, by rw [hm2] <;> first | rfl | (congr 1; omega), HK2, hx⟩
          case measure => simp [intOf]; omega
    · have : k = xs.length := by omega
      subst this
      have e : b1 = b := HK.out.uniq HB.out
      subst e
      go_wp2
      go_ret
      exact ⟨rfl, hx⟩
set_option maxRecDepth 5000 in
set_option maxHeartbeats 800000 in
theorem indexI_any (a : Option Addr) (c : Nat) (xs : List Int) (b : Nat) (w : World) (hn : xs.length ≤ 100000) (hb : BestTo xs xs.length b) (hr : RowI w a xs) :
    Calls Try.prog 121 #[.slice a xs.length c, .int .i64 (xs.getD b 0)] w fun e w' => e = .returned (.int .i64 b) ∧ w.Ext w' := by
  have HR := Lib.hid hr
  have HB := Lib.hid hb
  clear hr hb
  go_enter Try.func121, Try.ntmps121
  go_wp2
  go_loopw [5, 8] (fun _ m wr => ∃ k : Nat, k ≤ b ∧ m = .int .i64 k ∧ w.Ext wr) (fun _ m _ => xs.length - (intOf m).toNat)
  case atStart => exact ⟨0, Nat.zero_le _, rfl, .refl _⟩
  case round =>
    obtain ⟨k, hk, rfl, hx⟩ := hrel
    have hbl := HB.out.1
    have hlt : k < xs.length := by omega
    have hlt' : (k : Int) < (xs.length : Int) := by omega
    have hk0 : (0 : Int) ≤ (k : Int) := by omega
    obtain ⟨b2, o2, rfl, c2⟩ := HR.out k hlt
    replace c2 := hx.cell c2
    by_cases e : k = b
    · subst e
      have f1 : (xs.getD k 0 == xs.getD k 0) = true := by simp
      go_wp2
      go_ret
      exact ⟨rfl, hx⟩
    · have hlt2 := HB.out.2.2 k (by omega)
      have f1 : (xs.getD b 0 == xs.getD k 0) = false := by rw [beq_eq_false_iff_ne]; omega
      have hkb : k < b := by omega
      generalize xs.getD b 0 = m at *
      generalize xs.getD k 0 = m2 at *
      go_wp2
      go_roundw
      case rel => exact ⟨k + 1, by omega, by go_num, hx⟩
      case measure => simp [intOf]; omega
theorem large11_any (p5 b k : Nat) (w : World) (_ : k ≤ 100000) (_ : b ≤ 100000) (h5 : w.cell? ⟨p5, 0, none⟩ = some (.int .i64 ((b : Int) + 1))) :
    Calls Try.prog 124 #[.int .i64 k, .pointer (some ⟨p5, 0, none⟩)] w fun e w' => e = .returned (.bool (k == b + 1)) ∧ w.Ext w' := by
  have e : ((k : Int) == (b : Int) + 1) = (k == b + 1) := by
    rw [Bool.eq_iff_iff, beq_iff_eq, beq_iff_eq]
    omega
  rw [← e]
  clear e
  go_enter Try.func124, Try.ntmps124
  go_wp2
  go_ret
  exact ⟨rfl, .refl _⟩
theorem enters_large11 : Enters 124 := enters_of Try.func124 (by kernel_rfl) (by kernel_rfl)
set_option maxRecDepth 5000 in
set_option maxHeartbeats 1600000 in
theorem large1_any (p1 b ab W H : Nat) (l : List Bool) (eight : Bool) (F : Int × Int → Nat) (n bb : Nat) (w : World) (hW : W ≤ 64) (hH : H ≤ 64) (hI : Img w b ab W H l) (h1 : w.cell? ⟨p1, 0, none⟩ = some (.bool eight))
    (hF : LabK (pxP W H l) (nbA eight) (spotsTo W l (H * W)) (spotsTo W l (H * W)).length F n) (hbb : 0 < n → BestTo (areL W H F n) n bb) :
    Calls Try.prog 120 #[.pointer (some ⟨b, 0, none⟩), .pointer (some ⟨p1, 0, none⟩)] w (DoRet w (decide (0 < n)) W H (mkl W H (keptG F fun k => k == bb + 1))) := by
  have hn : n ≤ 4096 := Nat.le_trans (Nat.le_trans hF.few.1 (spotsTo_len _ _ _)) (Nat.mul_le_mul hH hW)
  have hlen : (areL W H F n).length = n := cntL_len _ _ _
  have HAR : Hid (∀ w', w.Ext w' → Calls Try.prog 118 #[.pointer (some ⟨b, 0, none⟩), .bool eight] w' (IntsRet w' (areL W H F n))) := fun w' hx => areas_any b ab W H l eight F n w' hW hH (hI.ext hx) hF
  by_cases h0 : 0 < n
  · have hb := hbb h0
    have hbn := hb.1
    have HKP : Hid (∀ (w' : World) (p5 : Nat), w.Ext w' → w'.cell? ⟨p5, 0, none⟩ = some (.int .i64 ((bb : Int) + 1)) →
        Calls Try.prog 123 #[.pointer (some ⟨b, 0, none⟩), .bool eight, .func (.func 124) #[] #[.pointer (some ⟨p5, 0, none⟩)]] w' (ImgRet w' W H (mkl W H (keptG F fun k => k == bb + 1)))) := fun w' p5 hx hc =>
      kept_any b ab W H l eight F n 124 #[.pointer (some ⟨p5, 0, none⟩)] (fun k => k == bb + 1) w' hW hH (hI.ext hx) enters_large11 hF (fun w'' hx2 k k1 k2 => large11_any p5 bb k w'' (by omega) (by omega) (hx2.cell hc))
    have HMX : Hid (∀ (w' : World) (a : Option Addr) (c : Nat), RowI w' a (areL W H F n) → Calls Try.prog 122 #[.slice a n c] w' fun e w'' => e = .returned (.int .i64 ((areL W H F n).getD bb 0)) ∧ w'.Ext w'') := fun w' a c hr => by
      have h := maxI_any a c (areL W H F n) bb w' (by omega) (by rw [hlen]; exact hb) hr
      rw [hlen] at h
      exact h
    have HIX : Hid (∀ (w' : World) (a : Option Addr) (c : Nat), RowI w' a (areL W H F n) → Calls Try.prog 121 #[.slice a n c, .int .i64 ((areL W H F n).getD bb 0)] w' fun e w'' => e = .returned (.int .i64 bb) ∧ w'.Ext w'') := fun w' a c hr => by
      have h := indexI_any a c (areL W H F n) bb w' (by omega) (by rw [hlen]; exact hb) hr
      rw [hlen] at h
      exact h
    have f0 : ((n : Int) == 0) = false := by rw [beq_eq_false_iff_ne]; omega
    have HLEN := Lib.hid hlen
    rw [decide_eq_true h0]
    show Calls _ _ _ _ (ImgRet w W H (mkl W H (keptG F fun k => k == bb + 1)))
    clear hI hF hbb hb hlen h0
    generalize mkl W H (keptG F fun k => k == bb + 1) = M at *
    generalize (areL W H F n).getD bb 0 = mx at *
    generalize areL W H F n = xs at *
    go_enter Try.func120, Try.ntmps120
    go_wp2_with fail
    refine (HAR.out w (.refl _)).mono ?_
    rintro e w2 ⟨a2, c2, rfl, hx2, ho2⟩
    rw [HLEN.out]
    have HR2 := Lib.hid ho2.row
    have HX2 := Lib.hid hx2
    have e1 := hx2.cell h1
    clear hx2 ho2
    go_wp2_with fail
    refine (HMX.out w2 a2 c2 HR2.out).mono ?_
    rintro e w3 ⟨rfl, hx3⟩
    have HR3 := Lib.hid (RowOf.ext HR2.out hx3)
    have HX3 := Lib.hid (HX2.out.trans hx3)
    have e2 := hx3.cell e1
    clear hx3 e1 HR2 HX2
    go_wp2_with fail
    refine (HIX.out w3 a2 c2 HR3.out).mono ?_
    rintro e w4 ⟨rfl, hx4⟩
    have e3 := hx4.cell e2
    have l3 := World.block_lt_of_cell? _ _ e3
    dsimp only at l3
    obtain ⟨w5, hw5⟩ : ∃ w5, w5 = w4.alloc (.cells #[.int .i64 ((bb : Int) + 1)] 2) := ⟨_, rfl⟩
    have hx5 : w4.Ext w5 := by rw [hw5]; repeat (first | exact World.Ext.refl _ | exact ⟨_, rfl⟩ | assumption | refine World.Ext.over ?_ _ | refine World.Ext.drewN ?_ _ | refine World.Ext.drew ?_ | refine World.Ext.alloc ?_ _ | refine World.Ext.setCell ?_ (by simp) _)
    have HX5 := Lib.hid (HX3.out.trans (hx4.trans hx5))
    have HC := Lib.hid (HKP.out w5 w4.heap.size HX5.out (by rw [hw5]; simp [go_sem]))
    clear hx4 hx5 e2 HR3 HX3
    go_wp2_with fail
    rw [← hw5]
    clear hw5
    refine HC.out.mono ?_
    rintro e w6 ⟨b4, ab4, rfl, hx6, hi6, hl4, hl5⟩
    have HR : Hid (ImgRet w W H M (.returned (.pointer (some ⟨b4, 0, none⟩))) w6) := ⟨b4, ab4, rfl, HX5.out.trans hx6, hi6, Nat.le_trans HX5.out.size hl4, Nat.le_trans HX5.out.size hl5⟩
    clear hx6 hi6 hl4 hl5
    go_wp2
    go_ret
    exact HR.out
  · have hn0 : n = 0 := by omega
    subst hn0
    rw [decide_eq_false h0]
    show Calls _ _ _ _ (fun e w' => e = .returned (.pointer none) ∧ w.Ext w')
    have HLEN := Lib.hid hlen
    clear hI hF hbb hlen h0
    generalize areL W H F 0 = xs at *
    go_enter Try.func120, Try.ntmps120
    go_wp2_with fail
    refine (HAR.out w (.refl _)).mono ?_
    rintro e w2 ⟨a2, c2, rfl, hx2, ho2⟩
    rw [HLEN.out]
    have HX2 := Lib.hid hx2
    clear hx2 ho2
    go_wp2
    go_ret
    exact ⟨rfl, HX2.out⟩
theorem enters_large1 : Enters 120 := enters_of Try.func120 (by kernel_rfl) (by kernel_rfl)
set_option maxRecDepth 5000 in
set_option maxHeartbeats 1600000 in
theorem implLarge_any (a : Option Addr) (c : Nat) (ss : List ByteArray) (eight : Bool) (F : Int × Int → Nat) (n bb : Nat) (hF : LabP ss eight F n) (hbb : 0 < n → BestTo (areL (picW ss) ss.length F n) n bb) (w : World) (hb : PicBnd ss) (hm : RowS w a ss) :
    Calls Try.prog 45 #[.agg #[.slice a ss.length c], .bool eight] w (PicRet2 w (optRows (largeOk ss n) (picRows (picW ss) ss.length (mkl (picW ss) ss.length (keptG F fun k => k == bb + 1)))) (largeOk ss n)) := by
  obtain ⟨W0, hW0⟩ : ∃ W0, W0 = ((w.alloc (.cells #[.slice a ss.length c] 26)).alloc (.cells #[.bool eight] 4)).alloc (.cells #[.slice none 0 0] 26) := ⟨_, rfl⟩
  have hx0 : w.Ext W0 := by rw [hW0]; repeat (first | exact World.Ext.refl _ | exact ⟨_, rfl⟩ | assumption | refine World.Ext.over ?_ _ | refine World.Ext.drewN ?_ _ | refine World.Ext.drew ?_ | refine World.Ext.alloc ?_ _ | refine World.Ext.setCell ?_ (by simp) _)
  have d0 : W0.cell? ⟨w.heap.size, 0, none⟩ = some (.slice a ss.length c) := by rw [hW0]; simp [go_sem]
  have d1 : W0.cell? ⟨w.heap.size + 1, 0, none⟩ = some (.bool eight) := by rw [hW0]; simp [go_sem]
  have hone : One W0 (w.heap.size + 1 + 1) 26 (.slice none 0 0) := by rw [hW0]; exact One.new _ _ _ _ (by simp)
  have HWI : Hid (Calls Try.prog 119 #[.agg #[.slice a ss.length c], .func (.func 120) #[] #[.pointer (some ⟨w.heap.size + 1, 0, none⟩)]] W0 (PicRet2 W0 (optRows (picOk ss && decide (0 < n)) (picRows (picW ss) ss.length (mkl (picW ss) ss.length (keptG F fun k => k == bb + 1)))) (picOk ss && decide (0 < n)))) :=
    withImage_any a c 120 #[.pointer (some ⟨w.heap.size + 1, 0, none⟩)] ss (decide (0 < n)) _ _ _ W0 hb.1 hb.2 (hm.ext hx0) enters_large1 (fun h _ => by obtain ⟨v1, v2, v3, v4, -, -⟩ := picOk_spec h; omega)
      (fun w' b ab h hx hI => by
        obtain ⟨v1, v2, v3, v4, -, -⟩ := picOk_spec h
        exact large1_any _ b ab _ _ _ eight F n bb w' (by omega) (by omega) hI (hx.cell d1) hF hbb)
  have HX0 := Lib.hid hx0
  have HO := Lib.hid hone
  unfold largeOk
  clear hb hm hx0 hone hF hbb d1
  generalize optRows (picOk ss && decide (0 < n)) (picRows (picW ss) ss.length (mkl (picW ss) ss.length (keptG F fun k => k == bb + 1))) = R at *
  generalize (picOk ss && decide (0 < n)) = ok at *
  go_enter Try.func45, Try.ntmps45
  go_wp2_with fail
  rw [← hW0]
  refine HWI.out.mono ?_
  rintro e w1 ⟨a1, c1, rfl, hx1, ho1⟩
  have hl0 : w.heap.size + 1 + 1 < W0.heap.size := HO.out.lt
  obtain ⟨r1, r2, r3, HR⟩ := Res.store (.slice a1 R.length c1) (HX0.out.trans hx1) (by omega) (HO.out.ext hx1) hl0 ho1
  clear hx1 ho1 hW0
  go_wp2
  exact bodyPost_ret (v := .tuple #[.agg #[.slice a1 R.length c1], .bool ok]) (by simp [results, Try.results45, go_sem, r3]) rfl ⟨a1, c1, rfl, HR.out.1, HR.out.2⟩
theorem Large.ex (ss : List ByteArray) (F : Int × Int → Nat) (n : Nat) : ∃ bb, 0 < n → BestTo (areL (picW ss) ss.length F n) n bb := by
  by_cases h : 0 < n
  · obtain ⟨b, hb⟩ := BestTo.ex (areL (picW ss) ss.length F n) n h
    exact ⟨b, fun _ => hb⟩
  · exact ⟨0, fun h' => absurd h' h⟩
end Go.Proofs.Ythgkmaccbcpaeaa
