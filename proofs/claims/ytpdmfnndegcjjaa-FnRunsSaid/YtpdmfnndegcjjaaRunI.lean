/- Runs, and a picture of runs: the program. -/
import Derived.Test.YtpdmfnndegcjjaaRunS
namespace Go
open Go.RowKit
/-- Writing into a row of a table of the call's own. -/
theorem GrowM.put {lo : Nat} {TO TI : TypeId} {w : World} {v : Value} {A : Nat → Option Addr} {C : Nat → Nat} {m : List (List Int)} (hne : TO ≠ TI) (h : GrowM lo TO TI w v A C m) {y x : Nat} (hy : y < m.length) (hx : x < (m.getD y []).length) :
    ∃ b, A y = some ⟨b, 0, none⟩ ∧ lo ≤ b ∧ w.cell? ⟨b, x, none⟩ = some (.int .i64 ((m.getD y []).getD x 0)) ∧ w.frozen? ⟨b, x, none⟩ = false ∧ (∃ cs fr, w.heap[b]? = some (.cells cs TI fr)) ∧
      ∀ z : Int, GrowM lo TO TI (w.setCell ⟨b, x, none⟩ (.int .i64 z)) v A C (m.set y ((m.getD y []).set x z)) := by
  obtain ⟨b, cap, e, h1, h2, h3, h4⟩ := GrowOf.atI 0 (h.rows y hy) hx
  have eA : A y = some ⟨b, 0, none⟩ := by
    simp only [Value.slice.injEq] at e
    exact e.1
  have htag := (h.rows y hy).blockTag (k := b) (by rw [eA]; rfl)
  obtain ⟨cs, fr, hcs⟩ := htag
  have hgl : ∀ z : Int, ∀ r, ((m.set y ((m.getD y []).set x z)).getD r []) = if r = y then (m.getD y []).set x z else m.getD r [] := fun z r => by
    by_cases e2 : r = y
    · rw [if_pos e2, e2, List.getD_eq_getElem?_getD, List.getElem?_set_self hy]; rfl
    · rw [if_neg e2, List.getD_eq_getElem?_getD, List.getElem?_set_ne (by omega), List.getD_eq_getElem?_getD]
  have hle : ∀ z : Int, ∀ r, ((m.set y ((m.getD y []).set x z)).getD r []).length = (m.getD r []).length := fun z r => by
    rw [hgl z r]
    split
    · rename_i e2; rw [List.length_set, e2]
    · rfl
  refine ⟨b, eA, h1, h2, h3, ⟨cs, fr, hcs⟩, fun z => ⟨?_, fun r hr => ?_, fun r s p o p' o' hr hs => ?_⟩⟩
  · rw [List.length_set]
    simp only [hle]
    exact World.ownsRow.setCell h.outer (World.ownsRow.ne h.outer hcs hne) _
  · rw [List.length_set] at hr
    rw [hle, hgl]
    split
    · rename_i e2
      subst e2
      rw [eA]
      have := h4 z
      rw [eA] at this
      unfold GrowOf at this ⊢
      rw [List.length_set] at this ⊢
      exact this
    · rename_i e2
      refine GrowOf.setCell (h.rows r hr) ?_ _
      intro e3
      cases hA : A r with
      | none => rw [hA] at e3; cases e3
      | some q =>
        rw [hA] at e3
        have e4 : b = q.block := by simpa [Value.ownBlock] using e3
        obtain ⟨qb, qo, qs⟩ := q
        obtain ⟨-, h6⟩ := h.rows r hr
        rcases h6 with ⟨h6, _⟩ | ⟨g6, cap6, cur6, h6, _⟩
        · simp only [Value.slice.injEq] at h6
          rw [hA] at h6
          cases h6.1
        · simp only [Value.slice.injEq] at h6
          have h7 := h6.1
          rw [hA] at h7
          simp only [Option.some.injEq, Addr.mk.injEq] at h7
          obtain ⟨rfl, rfl, rfl⟩ := h7
          exact h.apart r y _ _ _ _ hr hy e2 hA eA e4.symm
  · rw [List.length_set] at hr hs
    exact h.apart r s p o p' o' hr hs
/-- A store into a cell of another kind. -/
theorem GrowM.setOther {lo : Nat} {TO TI T : TypeId} {w : World} {v x0 : Value} {A : Nat → Option Addr} {C : Nat → Nat} {m : List (List Int)} {p : Nat} (hne : TO ≠ T) (hni : TI ≠ T) (h : GrowM lo TO TI w v A C m) (ho : One w p T x0) (u : Value) : GrowM lo TO TI (w.setCell ⟨p, 0, none⟩ u) v A C m :=
  ⟨World.ownsRow.setCell h.outer (World.ownsRow.ne h.outer (show w.heap[p]? = some (.cells #[x0] T (0, 0)) from ho) hne) u, fun r hr => GrowOf.setCell (h.rows r hr) (GrowOf.ne (h.rows r hr) ho hni) u, h.apart⟩
end Go
namespace Go.Proofs.Ytpdmfnndegcjjaa
open Go Go.RowKit
theorem enters_same1 : Enters 226 := enters_of Try.func226 (by kernel_rfl) (by kernel_rfl)
set_option maxHeartbeats 400000 in
theorem same1_any (a b : Option Addr) (c c' : Nat) (xs ys : List Int) (w : World) (hn : xs.length ≤ maxLen) (hn' : ys.length ≤ maxLen) (ha : RowI w a xs) (hb : RowI w b ys) :
    Calls Try.prog 226 #[.slice a xs.length c, .slice b ys.length c'] w fun e w' => e = .returned (.bool (decide (xs = ys))) ∧ w.Ext w' := by
  have HC := Lib.hid (equalI_any a b c c' xs ys w hn hn' ha hb)
  clear hn hn' ha hb
  generalize decide (xs = ys) = t at *
  go_enter Try.func226, Try.ntmps226
  go_wp2_with fail
  refine HC.out.mono ?_
  rintro e w2 ⟨rfl, hx⟩
  go_wp2
  go_ret
  exact ⟨rfl, hx⟩
set_option maxHeartbeats 800000 in
theorem equalFunc_any (a b : Option Addr) (c c' : Nat) (A B : Nat → Option Addr) (C D : Nat → Nat) (m m' : List (List Int)) (w : World) (hn : m.length ≤ maxLen) (_ : m'.length ≤ maxLen) (hr : ∀ r, (m.getD r []).length ≤ maxLen) (hr' : ∀ r, (m'.getD r []).length ≤ maxLen) (ha : MatAt w a A C m) (hb : MatAt w b B D m') :
    Calls Try.prog 225 #[.slice a m.length c, .slice b m'.length c', .func (.func 226) #[] #[]] w fun e w' => e = .returned (.bool (decide (m = m'))) ∧ w.Ext w' := by
  unfold maxLen at hn
  have he := enters_same1
  unfold Enters at he
  by_cases hl : m.length = m'.length
  · have HT : Hid ((∀ i, i < m.length → m.getD i [] = m'.getD i []) → true = decide (m = m')) := fun h => (decide_eq_true (listM_ext hl h)).symm
    have HF : Hid (∀ i, i < m.length → ¬ m.getD i [] = m'.getD i [] → false = decide (m = m')) := fun i _ h => (decide_eq_false (fun e => h (by rw [e]))).symm
    have HA := Lib.hid ha
    have HB := Lib.hid hb
    have HL := Lib.hid hl
    have HR := Lib.hid hr
    have HR' := Lib.hid hr'
    clear ha hb hr hr'
    generalize decide (m = m') = t at *
    rw [← hl]
    clear hl
    go_enter Try.func225, Try.ntmps225
    go_wp2
    go_loopw [7, 8, 9, 17] (fun _ _ _ i wr => ∃ k : Nat, k ≤ m.length ∧ i = .int .i64 k ∧ Hid (∀ i, i < k → m.getD i [] = m'.getD i []) ∧ Hid (w.Ext wr)) (fun _ _ _ i _ => m.length - (intOf i).toNat)
    case atStart => exact ⟨0, Nat.zero_le _, rfl, fun i hi => by omega, .refl _⟩
    case round =>
      obtain ⟨k, hk, rfl, HK, HX⟩ := hrel
      by_cases hlt : k < m.length
      · obtain ⟨⟨b1, o1, rfl, hc1⟩, hr1⟩ := (HA.out.ext HX.out) k hlt
        obtain ⟨⟨b2, o2, rfl, hc2⟩, hr2⟩ := (HB.out.ext HX.out) k (by rw [← HL.out]; exact hlt)
        have hk0 : (0 : Int) ≤ (k : Int) := by omega
        have hlt' : (k : Int) < (m.length : Int) := by omega
        have HC : Hid (Calls Try.prog 226 #[.slice (A k) (m.getD k []).length (C k), .slice (B k) (m'.getD k []).length (D k)] wr fun e w' => e = .returned (.bool (decide (m.getD k [] = m'.getD k []))) ∧ wr.Ext w') :=
          same1_any _ _ _ _ _ _ _ (HR.out k) (HR'.out k) hr1 hr2
        have HK1 : Hid (decide (m.getD k [] = m'.getD k []) = true → ∀ i, i < k + 1 → m.getD i [] = m'.getD i []) := fun h i hi => by
          by_cases e : i = k
          · rw [e]; exact of_decide_eq_true h
          · exact HK.out i (by omega)
        have HFK : Hid (decide (m.getD k [] = m'.getD k []) = false → false = t) := fun h => HF.out k hlt (of_decide_eq_false h)
        clear HK HT HF hr1 hr2
        generalize decide (m.getD k [] = m'.getD k []) = q at *
        generalize (m.getD k []).length = z at *
        generalize (m'.getD k []).length = z' at *
        cases q
        · have hf := HFK.out rfl
          subst hf
          clear HK1 HFK
          go_wp2_with fail
          refine HC.out.mono ?_
          rintro e w2 ⟨rfl, hx⟩
          have HX2 := Lib.hid (HX.out.trans hx)
          clear hx
          go_wp2
          go_ret
          exact ⟨rfl, HX2.out⟩
        · have HK2 := Lib.hid (HK1.out rfl)
          clear HK1 HFK
          go_wp2_with fail
          refine HC.out.mono ?_
          rintro e w2 ⟨rfl, hx⟩
          have HX2 := Lib.hid (HX.out.trans hx)
          clear hx
          go_wp2
          go_roundw
          case rel => exact ⟨k + 1, by omega, by go_num, HK2, HX2⟩
          case measure => simp [intOf]; omega
      · have : k = m.length := by omega
        subst this
        have ht := HT.out HK.out
        subst ht
        clear HT HF HK
        go_wp2
        go_ret
        exact ⟨rfl, HX.out⟩
  · have hd : decide (m = m') = false := decide_eq_false (fun e => hl (by rw [e]))
    rw [hd]
    have hne : ((m.length : Int) != (m'.length : Int)) = true := by
      simp only [bne_iff_ne, ne_eq]
      omega
    clear ha hb hd hl hr hr'
    generalize m.length = n at *
    generalize m'.length = n' at *
    go_enter Try.func225, Try.ntmps225
    go_wp2
    go_ret
    exact ⟨rfl, .refl _⟩
set_option maxHeartbeats 400000 in
theorem sameLists_any (a b : Option Addr) (c c' : Nat) (A B : Nat → Option Addr) (C D : Nat → Nat) (m m' : List (List Int)) (w : World) (hn : m.length ≤ maxLen) (hn' : m'.length ≤ maxLen) (hr : ∀ r, (m.getD r []).length ≤ maxLen) (hr' : ∀ r, (m'.getD r []).length ≤ maxLen) (ha : MatAt w a A C m) (hb : MatAt w b B D m') :
    Calls Try.prog 150 #[.slice a m.length c, .slice b m'.length c'] w fun e w' => e = .returned (.bool (decide (m = m'))) ∧ w.Ext w' := by
  have HC := Lib.hid (equalFunc_any a b c c' A B C D m m' w hn hn' hr hr' ha hb)
  clear hn hn' hr hr' ha hb
  generalize decide (m = m') = t at *
  go_enter Try.func150, Try.ntmps150
  go_wp2_with fail
  refine HC.out.mono ?_
  rintro e w2 ⟨rfl, hx⟩
  go_wp2
  go_ret
  exact ⟨rfl, hx⟩
structure RnSt (w : World) (p1 p3 b W : Nat) (l : List Bool) (k : Nat) (wr : World) : Prop where
  x : w.Ext wr
  one : One wr p1 121 (.pointer (some ⟨b, 0, none⟩))
  grow : ∃ v, One wr p3 33 v ∧ MatSt w (runsTo W l k) v wr
theorem RnSt.ext {w : World} {p1 p3 b W : Nat} {l : List Bool} {k : Nat} {wr w' : World} (h : RnSt w p1 p3 b W l k wr) (hx : wr.Ext w') : RnSt w p1 p3 b W l k w' :=
  let ⟨h1, h2, v, h3, h4⟩ := h; ⟨h1.trans hx, h2.ext hx, v, h3.ext hx, h4.ext hx⟩
theorem runsTo_last {W : Nat} {l : List Bool} {k : Nat} (h : l.getD k false = true) : ∃ n a b c : Nat, (runsTo W l (k + 1)).length = n + 1 ∧ (runsTo W l (k + 1)).getD n [] = [(a : Int), (b : Int), (c : Int)] ∧ c ≤ k + 1 := by
  have hp := runsTo_pos (W := W) h
  have hm : (runsTo W l (k + 1)).getD ((runsTo W l (k + 1)).length - 1) [] ∈ runsTo W l (k + 1) := by
    rw [List.getD_eq_getElem?_getD, List.getElem?_eq_getElem (by omega)]
    exact List.getElem_mem _
  obtain ⟨a, b, c, e, h1, h2, h3⟩ := runsTo_fit W l (k + 1) _ hm
  exact ⟨(runsTo W l (k + 1)).length - 1, a, b, c, by omega, e, h3⟩
theorem incL_at {R : List (List Int)} {n : Nat} {a b c : Int} (h : R.length = n + 1) (h2 : R.getD n [] = [a, b, c]) : incL R = R.set n ((R.getD n []).set 2 (c + 1)) := by
  unfold incL
  rw [h, Nat.add_sub_cancel, h2]
  rfl
set_option maxRecDepth 5000 in
set_option maxHeartbeats 1600000 in
theorem runs1_any (w : World) (p1 p3 b ab W H : Nat) (l : List Bool) (x y : Nat) (wr : World) (hW : W ≤ 64) (hH : H ≤ 64) (hI : Img w b ab W H l) (hx : x < W) (hy : y < H) (h3 : w.heap.size ≤ p3) (h13 : p1 ≠ p3) (hS : RnSt w p1 p3 b W l (y * W + x) wr) :
    Calls Try.prog 224 #[.int .i64 x, .int .i64 y, .pointer (some ⟨p1, 0, none⟩), .pointer (some ⟨p3, 0, none⟩)] wr fun e w' => e = .returned (.tuple #[]) ∧ RnSt w p1 p3 b W l (y * W + x + 1) w' := by
  obtain ⟨j0, hj, hz0, hz1, hz2⟩ := info_parts Try.infoRowG
  have HG := Lib.hid (fun w' (h : w.Ext w') (i : Int) t (ht : pxl W H l i y = t) => get_any b ab W H l i y w' hW hH (hI.ext h) t ht)
  have hk : y * W + x < 4096 := by
    have h5 : y * W ≤ 63 * 64 := Nat.mul_le_mul (by omega) hW
    omega
  have hn := runsTo_len W l (y * W + x)
  have hpx := pxl_at W H l x y hx hy
  have hpp : pxl W H l ((x : Int) - 1) y = (decide (0 < x) && l.getD (y * W + x - 1) false) := by
    by_cases h0 : 0 < x
    · rw [show (x : Int) - 1 = ((x - 1 : Nat) : Int) by omega, pxl_at W H l (x - 1) y (by omega) hy, show y * W + (x - 1) = y * W + x - 1 by omega]
      simp [h0]
    · have : x = 0 := by omega
      subst this
      rw [pxl_out]
      · simp
      · unfold hasB
        rw [show inB (((0 : Nat) : Int) - 1) 0 ((W : Int) - 1) = false by rw [Bool.eq_false_iff]; intro h2; have := inB_true.1 h2; omega]
        rfl
  have c1 := hS.one.cell
  have l1 := hS.one.lt
  have HS := Lib.hid hS
  clear hS hI
  cases hb : l.getD (y * W + x) false
  · rw [hb] at hpx
    have HN := Lib.hid (runsTo_no (W := W) hb)
    clear hb hn hpp
    go_enter Try.func224, Try.ntmps224
    go_wp2_with fail
    refine (HG.out wr HS.out.x x _ hpx).mono ?_
    rintro e w2 ⟨rfl, hx2⟩
    have HS2 : Hid (RnSt w p1 p3 b W l (y * W + x + 1) w2) := by
      obtain ⟨h1, h2, v, h4, h5⟩ := HS.out.ext hx2
      exact ⟨h1, h2, v, h4, by rw [HN.out]; exact h5⟩
    clear hx2
    go_wp2
    go_end0
    exact ⟨rfl, HS2.out⟩
  · rw [hb] at hpx
    cases hq : (decide (0 < x) && l.getD (y * W + x - 1) false)
    · rw [hq] at hpp
      have HN := Lib.hid (runsTo_new hx hb (by
        rw [Bool.and_eq_false_iff] at hq
        rcases hq with h | h
        · exact .inl (by have := of_decide_eq_false h; omega)
        · exact .inr h))
      have HB1 : Hid ((runsTo W l (y * W + x)).length + 1 ≤ maxLen) := by show _ ≤ _; unfold maxLen; omega
      have HB2 : Hid (((runsTo W l (y * W + x)).length + 1) * 24 ≤ 140737488355328) := by show _ ≤ _; omega
      clear hb hn hk hq
      go_enter Try.func224, Try.ntmps224
      go_wp2_with fail
      refine (HG.out wr HS.out.x x _ hpx).mono ?_
      rintro e w2 ⟨rfl, hx2⟩
      have HS2 := Lib.hid (HS.out.ext hx2)
      clear hx2 HS c1 l1 hpx
      have c1 := HS2.out.one.cell
      have l1 := HS2.out.one.lt
      go_wp2_with fail
      refine (HG.out w2 HS2.out.x _ _ hpp).mono ?_
      rintro e w3 ⟨rfl, hx3⟩
      obtain ⟨hX3, hO3, v, hv3, hg3⟩ := HS2.out.ext hx3
      have c3 := hv3.cell
      have f3 := hv3.free
      have l3 := hv3.lt
      obtain ⟨pre, ⟨A0, C0, hpre⟩, hown, hnext0⟩ := hg3.next3 (y : Int) (x : Int) 1
      have HNEXT : Hid (∀ (o : Obj) (v' : Value) (w4 : World), ((w3.alloc (.cells #[.int .i64 y, .int .i64 x, .int .i64 1] 2)).alloc o).grownBy w4 v.ownBlock → w4.ownsRow w.heap.size 37 1 v' ((runsTo W l (y * W + x)).length + 1) (pre ++ [.slice (some ⟨w3.heap.size, 0, none⟩) 3 3]) →
          w4.cell? ⟨p3, 0, none⟩ = some v ∧ w4.frozen? ⟨p3, 0, none⟩ = false ∧ Hid (RnSt w p1 p3 b W l (y * W + x + 1) (w4.setCell ⟨p3, 0, none⟩ v'))) := fun o v' w4 hgrow hown' => by
        have hg4 := hnext0 o v' w4 hgrow hown'
        rw [← HN.out] at hg4
        have hx0 : w3.Ext (w3.alloc (.cells #[.int .i64 y, .int .i64 x, .int .i64 1] 2)) := by repeat (first | exact World.Ext.refl _ | exact ⟨_, rfl⟩ | assumption | refine World.Ext.over ?_ _ | refine World.Ext.drewN ?_ _ | refine World.Ext.drew ?_ | refine World.Ext.alloc ?_ _ | refine World.Ext.setCell ?_ (by simp) _)
        have a1 := ((hO3.ext hx0).ext ((World.Ext.refl _).alloc o)).grown hgrow (World.ownsRow.ne hown (hO3.ext hx0) (by decide))
        have a3 := ((hv3.ext hx0).ext ((World.Ext.refl _).alloc o)).grown hgrow (World.ownsRow.ne hown (hv3.ext hx0) (by decide))
        obtain ⟨A4, C4, hx4, hm4⟩ := hg4
        refine ⟨a3.cell, a3.free, hx4.setCell (p := ⟨p3, 0, none⟩) h3 v', a1.other (a := ⟨p3, 0, none⟩) (Ne.symm h13) v', v', a3.set v', A4, C4, hx4.setCell (p := ⟨p3, 0, none⟩) h3 v', ?_⟩
        exact GrowM.setOther (by decide) (by decide) hm4 a3 v'
      have HLE : ∀ o' : Obj, w.heap.size ≤ ((w3.alloc (.cells #[.int .i64 y, .int .i64 x, .int .i64 1] 2)).alloc o').heap.size := fun o' => ((hX3.alloc _).alloc o').size
      clear hnext0 hx3 hX3 hO3 hv3 hg3 HS2 c1 l1 HN hpp
      have c3' : (w3.alloc (.cells #[.int .i64 y, .int .i64 x, .int .i64 1] 2)).cell? ⟨p3, 0, none⟩ = some v := ((World.Ext.refl w3).alloc _).cell c3
      clear hpre
      generalize (runsTo W l (y * W + x)).length = n at *
      go_wp2_with ((at_builtin; refine wpList_append_own _ rfl _ _ 33 rfl w.heap.size 37 j0 (.slice none 0 0) 1 24 Try.underlying33 hj hz0 hz1 hz2 rfl (by decide) _ _ _ rfl (hown.alloc _) ⟨w3.heap.size + 1, 0, none⟩ 1 1 [.slice (some ⟨w3.heap.size, 0, none⟩) 3 3] rfl rfl (cell_one_at (by simp)) (by simp [Value.oneCell']) HB1.out HB2.out (HLE _) (fun v' w1 hown' hgrow _ => ?_)); obtain ⟨d3, e3, HS4⟩ := HNEXT.out _ _ _ hgrow hown'; obtain ⟨a4, c4, rfl, _⟩ := World.ownsRow.form hown'; clear hgrow hown' hown c3 c3' f3 l3)
      go_end0
      exact ⟨rfl, HS4.out⟩
    · rw [hq] at hpp
      rw [Bool.and_eq_true] at hq
      have h0 : 0 < x := of_decide_eq_true hq.1
      have hki : y * W + x - 1 + 1 = y * W + x := by omega
      obtain ⟨n, ra, rb, rc, hlen, hrow, hrc⟩ := runsTo_last (W := W) hq.2
      rw [hki] at hlen hrow
      have HN : Hid (runsTo W l (y * W + x + 1) = (runsTo W l (y * W + x)).set n (((runsTo W l (y * W + x)).getD n []).set 2 ((rc : Int) + 1))) := (runsTo_inc hx h0 hb hq.2).trans (incL_at hlen hrow)
      have hn9 : n ≤ 4096 := by omega
      have hn8 : (n : Int) ≤ 4096 := by omega
      clear hb hn hq
      go_enter Try.func224, Try.ntmps224
      go_wp2_with fail
      refine (HG.out wr HS.out.x x _ hpx).mono ?_
      rintro e w2 ⟨rfl, hx2⟩
      have HS2 := Lib.hid (HS.out.ext hx2)
      clear hx2 HS c1 l1 hpx
      have c1 := HS2.out.one.cell
      have l1 := HS2.out.one.lt
      go_wp2_with fail
      refine (HG.out w2 HS2.out.x _ _ hpp).mono ?_
      rintro e w3 ⟨rfl, hx3⟩
      obtain ⟨hX3, hO3, v, hv3, A, C, hxm, hm⟩ := HS2.out.ext hx3
      obtain ⟨a0, c0, rfl, -⟩ := World.ownsRow.form hm.outer
      obtain ⟨⟨g, o, rfl, hcg⟩, -⟩ := GrowM.at hm (show n < _ by omega)
      obtain ⟨rbk, hA, hlo, hc2, hf2, ⟨cs, fr, htag⟩, hput⟩ := GrowM.put (x := 2) (by decide) hm (show n < _ by omega) (by rw [hrow]; simp)
      rw [hA, hrow] at hcg
      rw [hrow] at hc2
      have hc2 : w3.cell? ⟨rbk, 2, none⟩ = some (.int .i64 rc) := hc2
      have hcg : w3.cell? ⟨g, o + n, none⟩ = some (.slice (some ⟨rbk, 0, none⟩) 3 (C n)) := hcg
      have HS4 : Hid (RnSt w p1 p3 b W l (y * W + x + 1) (w3.setCell ⟨rbk, 2, none⟩ (.int .i64 ((rc : Int) + 1)))) := by
        have hb1 : (⟨rbk, 2, none⟩ : Addr).block ≠ p1 := fun e => by
          have e' : rbk = p1 := e
          subst e'
          have h5 : w3.heap[rbk]? = some _ := hO3
          rw [htag] at h5
          cases h5
        have hb3 : (⟨rbk, 2, none⟩ : Addr).block ≠ p3 := fun e => by
          have e' : rbk = p3 := e
          subst e'
          have h5 : w3.heap[rbk]? = some _ := hv3
          rw [htag] at h5
          cases h5
        refine ⟨hX3.setCell (p := ⟨rbk, 2, none⟩) hlo _, hO3.other hb1 _, _, hv3.other hb3 _, A, C, hX3.setCell (p := ⟨rbk, 2, none⟩) hlo _, ?_⟩
        rw [HN.out]
        exact hput _
      have c3 := hv3.cell
      have l3 := hv3.lt
      clear hx3 hX3 hO3 hv3 hm hxm hput htag HN HS2 c1 l1 hpp hrow hlo hA
      rw [hlen] at c3
      have hn0 : (0 : Int) ≤ (n : Int) := by omega
      have hrc2 : rc ≤ 4096 := by omega
      go_wp2
      go_end0
      exact ⟨rfl, HS4.out⟩
end Go.Proofs.Ytpdmfnndegcjjaa
