/- FnReached: contracts, and the law's own state. -/
import Derived.Test.YtpdmfnndegcjjaaRdS
import Derived.Test.YtpdmfnndegcjjaaGenV
import Derived.Test.YtpdmfnndegcjjaaRunT
namespace Go.Proofs.Ytpdmfnndegcjjaa
open Go Go.RowKit
set_option maxHeartbeats 800000 in
theorem b10Same_any (a b : Option Addr) (c c' : Nat) (xs ys : List ByteArray) (w : World) (hn : xs.length ≤ 1000000) (ha : RowS w a xs) (hb : RowS w b ys) :
    Calls Try.prog 26 #[.agg #[.slice a xs.length c], .agg #[.slice b ys.length c']] w fun e w' => e = .returned (.bool (decide (xs = ys) && decide (0 < xs.length))) ∧ w.Ext w' := by
  obtain ⟨W0, hW0⟩ : ∃ W0, W0 = (w.alloc (.cells #[.slice a xs.length c] 26)).alloc (.cells #[.slice b ys.length c'] 26) := ⟨_, rfl⟩
  have hx0 : w.Ext W0 := by rw [hW0]; repeat (first | exact World.Ext.refl _ | exact ⟨_, rfl⟩ | assumption | refine World.Ext.over ?_ _ | refine World.Ext.drewN ?_ _ | refine World.Ext.drew ?_ | refine World.Ext.alloc ?_ _ | refine World.Ext.setCell ?_ (by simp) _)
  have d0 : W0.cell? ⟨w.heap.size, 0, none⟩ = some (.slice a xs.length c) := by rw [hW0]; simp [go_sem]
  have d1 : W0.cell? ⟨w.heap.size + 1, 0, none⟩ = some (.slice b ys.length c') := by rw [hW0]; simp [go_sem]
  have HD : Hid (∀ w', W0.Ext w' → w'.cell? ⟨w.heap.size, 0, none⟩ = some (.slice a xs.length c) ∧ w'.cell? ⟨w.heap.size + 1, 0, none⟩ = some (.slice b ys.length c')) := fun w' h => ⟨h.cell d0, h.cell d1⟩
  by_cases hl : xs.length = ys.length
  · have HT : Hid ((∀ i, i < xs.length → xs.getD i ByteArray.empty = ys.getD i ByteArray.empty) → decide (0 < xs.length) = (decide (xs = ys) && decide (0 < xs.length))) := fun h => by rw [decide_eq_true (listS_ext hl h), Bool.true_and]
    have HF : Hid (∀ i, i < xs.length → ¬ xs.getD i ByteArray.empty = ys.getD i ByteArray.empty → false = (decide (xs = ys) && decide (0 < xs.length))) := fun i _ h => by rw [decide_eq_false (fun e => h (by rw [e])), Bool.false_and]
    have HA := Lib.hid (RowOf.ext ha hx0)
    have HB := Lib.hid (RowOf.ext hb hx0)
    have HL := Lib.hid hl
    have HX0 := Lib.hid hx0
    clear ha hb hx0
    generalize (decide (xs = ys) && decide (0 < xs.length)) = t at *
    rw [← hl] at hW0 d1 HD ⊢
    clear hl
    go_enter Try.func26, Try.ntmps26
    go_upto_region 1 with fail
    rw [← hW0]
    clear hW0
    go_wp2
    clear d0 d1
    go_loopw [5] (fun i wr => ∃ k : Nat, k ≤ xs.length ∧ i = .int .i64 k ∧ Hid (∀ i, i < k → xs.getD i ByteArray.empty = ys.getD i ByteArray.empty) ∧ Hid (W0.Ext wr)) (fun i _ => xs.length - (intOf i).toNat)
    case atStart => exact ⟨0, Nat.zero_le _, rfl, fun i hi => by omega, .refl _⟩
    case round =>
      obtain ⟨k, hk, rfl, HK, HX⟩ := hrel
      obtain ⟨wo, rfl⟩ : ∃ wo : World, wo = wr := ⟨_, rfl⟩
      obtain ⟨d0, d1⟩ := HD.out wo HX.out
      have hk0 : (0 : Int) ≤ (k : Int) := by omega
      by_cases hlt : k < xs.length
      · obtain ⟨b1, o1, rfl, hc1⟩ := (RowOf.ext HA.out HX.out) k hlt
        obtain ⟨b2, o2, rfl, hc2⟩ := (RowOf.ext HB.out HX.out) k (by rw [← HL.out]; exact hlt)
        have hlt' : (k : Int) < (xs.length : Int) := by omega
        have HK1 : Hid (xs.getD k ByteArray.empty = ys.getD k ByteArray.empty → ∀ i, i < k + 1 → xs.getD i ByteArray.empty = ys.getD i ByteArray.empty) := fun h i hi => by
          by_cases e : i = k
          · rw [e]; exact h
          · exact HK.out i (by omega)
        have HFK := Lib.hid (HF.out k hlt)
        clear HK HT HF HD
        generalize xs.getD k ByteArray.empty = z at *
        generalize ys.getD k ByteArray.empty = z' at *
        by_cases hz : z = z'
        · subst hz
          have HK2 := Lib.hid (HK1.out rfl)
          clear HK1 HFK
          go_wp2_with fail
          refine wp_region_over_lit (by kernel_rfl) (by kernel_rfl) ?_; (repeat (go_big_quiet_step (fail))); refine wpQuiet_nil ?_; rintro _ ⟨x1, rfl⟩
          have HX2 : Hid (W0.Ext (wo.over x1)) := HX.out.trans ⟨x1, rfl⟩
          clear d0 d1 hc1 hc2
          go_wp2
          go_roundw
          case rel => exact ⟨k + 1, by omega, by go_num, HK2, HX2⟩
          case measure => simp [intOf]; omega
        · have hne : (z.toList == z'.toList) = false := str_ne hz
          have hf := HFK.out hz
          subst hf
          clear HK1 HFK hz
          go_wp2_with fail
          refine wp_region_over_lit (by kernel_rfl) (by kernel_rfl) ?_; (repeat (go_big_quiet_step (fail))); refine wpQuiet_nil ?_; rintro _ ⟨x1, rfl⟩
          have HX2 : Hid (w.Ext (wo.over x1)) := HX0.out.trans (HX.out.trans ⟨x1, rfl⟩)
          go_wp2
          go_ret
          exact ⟨rfl, HX2.out⟩
      · have : k = xs.length := by omega
        subst this
        have ht := HT.out HK.out
        subst ht
        have HX2 := Lib.hid (HX0.out.trans HX.out)
        clear HT HF HK
        go_wp2
        go_ret
        exact ⟨by simp, HX2.out⟩
  · have hd : decide (xs = ys) = false := decide_eq_false (fun e => hl (by rw [e]))
    rw [hd, Bool.false_and]
    have hne : ((xs.length : Int) != (ys.length : Int)) = true := by
      simp only [bne_iff_ne, ne_eq]
      omega
    have HX0 := Lib.hid hx0
    clear ha hb hd hl HD hx0
    generalize xs.length = n at *
    generalize ys.length = n' at *
    go_enter Try.func26, Try.ntmps26
    go_upto_region 1 with fail
    rw [← hW0]
    clear hW0
    go_wp2
    go_ret
    exact ⟨rfl, HX0.out⟩
set_option maxRecDepth 5000 in
set_option maxHeartbeats 1600000 in
theorem implCountHoles_any (a : Option Addr) (c : Nat) (ss : List ByteArray) (eight : Bool) (n : Nat) (hn : HolN (picW ss) ss.length (picL ss) eight n) (w : World) (hb : PicBnd ss) (hm : RowS w a ss) :
    Calls Try.prog 25 #[.agg #[.slice a ss.length c], .bool eight] w fun e w' => e = .returned (.tuple #[.int .i64 (optI (picOk ss) ((n : Int) - 1)), .bool (picOk ss)]) ∧ w.Ext w' := by
  obtain ⟨W0, hW0⟩ : ∃ W0, W0 = w.alloc (.cells #[.slice a ss.length c] 26) := ⟨_, rfl⟩
  have hx0 : w.Ext W0 := by rw [hW0]; repeat (first | exact World.Ext.refl _ | exact ⟨_, rfl⟩ | assumption | refine World.Ext.over ?_ _ | refine World.Ext.drewN ?_ _ | refine World.Ext.drew ?_ | refine World.Ext.alloc ?_ _ | refine World.Ext.setCell ?_ (by simp) _)
  have HIO : Hid (Calls Try.prog 109 #[.agg #[.slice a ss.length c]] W0 (ImgOf W0 ss (picOk ss))) := imageOf_any a c ss W0 hb.1 hb.2 (hm.ext hx0) _ rfl
  have HX0 := Lib.hid hx0
  cases h : picOk ss
  · rw [h] at HIO
    clear hb hm hx0 h hn
    show Calls _ _ _ _ (fun e w' => e = .returned (.tuple #[.int .i64 0, .bool false]) ∧ w.Ext w')
    go_enter Try.func25, Try.ntmps25
    go_wp2_with fail
    rw [← hW0]
    refine HIO.out.mono ?_
    rintro e w1 ⟨rfl, hx1⟩
    have HX := Lib.hid (HX0.out.trans hx1)
    clear hx1 hW0
    go_wp2
    go_ret2
    exact ⟨rfl, HX.out⟩
  · rw [h] at HIO
    obtain ⟨v1, v2, v3, v4, e1, -⟩ := picOk_spec h
    have HHO : Hid (∀ w' b ab, Img w' b ab (picW ss) ss.length (picL ss) → Calls Try.prog 118 #[.pointer (some ⟨b, 0, none⟩), .bool eight] w' fun e w'' => e = .returned (.int .i64 ((n : Int) - 1)) ∧ w'.Ext w'') := fun w' b ab hI => holes_any b ab _ _ _ eight n hn w' (by omega) (by omega) hI
    clear hb hm hx0 h hn v1 v2 v3 v4 e1
    show Calls _ _ _ _ (fun e w' => e = .returned (.tuple #[.int .i64 ((n : Int) - 1), .bool true]) ∧ w.Ext w')
    go_enter Try.func25, Try.ntmps25
    go_wp2_with fail
    rw [← hW0]
    refine HIO.out.mono ?_
    rintro e w1 ⟨b1, ab1, rfl, hx1, hi1, -, -⟩
    have HIM := Lib.hid hi1
    have HX1 := Lib.hid (HX0.out.trans hx1)
    clear hi1 hx1 hW0
    go_wp2_with fail
    refine (HHO.out w1 b1 ab1 HIM.out).mono ?_
    rintro e w3 ⟨rfl, hx3⟩
    have HX := Lib.hid (HX1.out.trans hx3)
    clear hx3
    go_wp2
    go_ret2
    exact ⟨rfl, HX.out⟩
/-- The two lists that the law writes: states behind k1 pixels, marks behind k2. -/
structure RlSt (v : World) (g1 g2 n : Nat) (f : Nat → Nat) (p c : Nat → Bool) (k1 k2 : Nat) (wr : World) : Prop where
  x : v.Ext wr
  l1 : v.heap.size ≤ g1
  l2 : v.heap.size ≤ g2
  ne : g1 ≠ g2
  st : ∃ l, BlkOf (Value.int .i64) wr g1 2 l ∧ StL n f p k1 l
  mkd : ∃ l, BlkOf Value.bool wr g2 4 l ∧ MkL n f c k2 l
section
variable {v : World} {g1 g2 n : Nat} {f : Nat → Nat} {p c : Nat → Bool} {k1 k2 : Nat} {wr : World}
theorem RlSt.ext {w' : World} (h : RlSt v g1 g2 n f p c k1 k2 wr) (hx : wr.Ext w') : RlSt v g1 g2 n f p c k1 k2 w' := ⟨h.x.trans hx, h.l1, h.l2, h.ne, let ⟨l, h1, h2⟩ := h.st; ⟨l, h1.ext hx, h2⟩, let ⟨l, h1, h2⟩ := h.mkd; ⟨l, h1.ext hx, h2⟩⟩
theorem RlSt.a (h : RlSt v g1 g2 n f p c k1 k2 wr) (hf : f k1 < n) : ∃ z, wr.cell? ⟨g1, f k1, none⟩ = some (.int .i64 z) ∧ wr.frozen? ⟨g1, f k1, none⟩ = false ∧
    (p k1 = true → RlSt v g1 g2 n f p c (k1 + 1) k2 (wr.setCell ⟨g1, f k1, none⟩ (.int .i64 (bits .or .i64 z 1)))) ∧
    (p k1 = false → RlSt v g1 g2 n f p c (k1 + 1) k2 (wr.setCell ⟨g1, f k1, none⟩ (.int .i64 (bits .or .i64 z 2)))) := by
  obtain ⟨l, h1, h2⟩ := h.st
  obtain ⟨m, h3, h4⟩ := h.mkd
  have hx : ∀ u, v.Ext (wr.setCell ⟨g1, f k1, none⟩ u) := fun u => h.x.setCell (p := ⟨g1, f k1, none⟩) h.l1 _
  have hm : ∀ u, BlkOf Value.bool (wr.setCell ⟨g1, f k1, none⟩ u) g2 4 m := fun u => h3.setCell_other (a := ⟨g1, f k1, none⟩) h.ne u
  exact ⟨_, h1.cell 0 (by rw [h2.1]; exact hf), h1.free _, fun hp => ⟨hx _, h.l1, h.l2, h.ne, ⟨_, h1.set _ _, h2.yes hf hp⟩, ⟨m, hm _, h4⟩⟩, fun hp => ⟨hx _, h.l1, h.l2, h.ne, ⟨_, h1.set _ _, h2.no hf hp⟩, ⟨m, hm _, h4⟩⟩⟩
theorem RlSt.b (h : RlSt v g1 g2 n f p c k1 k2 wr) (hf : f k2 < n) : ∃ z, ∀ w', wr.Ext w' → w'.cell? ⟨g2, f k2, none⟩ = some (.bool z) ∧ w'.frozen? ⟨g2, f k2, none⟩ = false ∧
    RlSt v g1 g2 n f p c k1 (k2 + 1) (w'.setCell ⟨g2, f k2, none⟩ (.bool (z || c k2))) := by
  obtain ⟨l, h1, h2⟩ := h.st
  obtain ⟨m, h3, h4⟩ := h.mkd
  exact ⟨_, fun w' hx => ⟨(h3.ext hx).cell false (by rw [h4.1]; exact hf), (h3.ext hx).free _, (h.x.trans hx).setCell (p := ⟨g2, f k2, none⟩) h.l2 _, h.l1, h.l2, h.ne, ⟨l, (h1.ext hx).setCell_other (a := ⟨g2, f k2, none⟩) (fun e => h.ne e.symm) _, h2⟩, ⟨_, (h3.ext hx).set _ _, h4.step hf⟩⟩⟩
theorem RlSt.fin (h : RlSt v g1 g2 n f p c k1 k2 wr) {i : Nat} (hi : i < n) (h1 : (anyV f p k1 i && anyV f (fun i => !p i) k1 i) = false) (h2 : (anyV f p k1 i && !anyV f (fun i => !p i) k1 i) = anyV f c k2 i) :
    ∃ z b, wr.cell? ⟨g1, i, none⟩ = some (.int .i64 z) ∧ wr.cell? ⟨g2, i, none⟩ = some (.bool b) ∧ ((z = 0 ∧ b = false) ∨ (z = 2 ∧ b = false) ∨ (z = 1 ∧ b = true)) := by
  obtain ⟨l, q1, q2⟩ := h.st
  obtain ⟨m, q3, q4⟩ := h.mkd
  refine ⟨_, _, q1.cell 0 (by rw [q2.1]; exact hi), q3.cell false (by rw [q4.1]; exact hi), ?_⟩
  rw [q2.2 i hi, q4.2 i hi, ← h2]
  revert h1
  cases anyV f p k1 i <;> cases anyV f (fun i => !p i) k1 i <;> intro h <;> first | (exact absurd h (by decide)) | (exact .inl ⟨rfl, rfl⟩) | (exact .inr (.inl ⟨rfl, rfl⟩)) | (exact .inr (.inr ⟨rfl, rfl⟩))
end
theorem grd_cells {w : World} {a : Option Addr} {A : Nat → Option Addr} {C : Nat → Nat} {W H : Nat} {g : Nat → Nat → Int} (h : MatAt w a A C (grd W H g)) {x y : Nat} (hx : x < W) (hy : y < H) :
    ∃ b o bk ok ck, a = some ⟨b, o, none⟩ ∧ w.cell? ⟨b, o + y, none⟩ = some (.slice (some ⟨bk, ok, none⟩) W ck) ∧ w.cell? ⟨bk, ok + x, none⟩ = some (.int .i64 (g x y)) := by
  obtain ⟨⟨b, o, e, hc⟩, hr⟩ := h y (by rw [grd_len]; exact hy)
  rw [grd_row hy, grdRow_len] at hc
  rw [grd_row hy] at hr
  obtain ⟨bk, ok, eA, q⟩ := hr x (by rw [grdRow_len]; exact hx)
  rw [eA] at hc
  rw [grdRow_at hx] at q
  exact ⟨b, o, bk, ok, _, e, hc, q⟩
theorem rows_of {W H : Nat} (hW1 : 1 ≤ W) (hW : W ≤ 16) (hH1 : 1 ≤ H) (hH : H ≤ 16) (g : Nat → Nat → Bool) : PicOf W H (picRows W H (mkl W H g)) ∧ picL (picRows W H (mkl W H g)) = mkl W H g := by
  have hl : (mkl W H g).length = W * H := by rw [mkl_len, Nat.mul_comm]
  exact ⟨⟨picOk_rows hW1 hW hH1 hH hl, picRows_len _ _ _, picW_rows (by omega) hl⟩, picL_rows hl⟩
theorem like_of {W H : Nat} {ss tt : List ByteArray} (h1 : PicOf W H ss) (h2 : PicOf W H tt) : likeP ss tt = true := by unfold likeP; rw [h1.1, h2.1, h1.2.1, h1.2.2, h2.2.1, h2.2.2]; simp
end Go.Proofs.Ytpdmfnndegcjjaa
