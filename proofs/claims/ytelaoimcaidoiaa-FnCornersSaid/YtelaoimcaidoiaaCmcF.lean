/- slices.Compact in place, repetitions too; an element out of any offsets. -/
import Derived.Test.YtelaoimcaidoiaaDecP
import Derived.Test.YtelaoimcaidoiaaNearF
namespace Go.Proofs.Ytelaoimcaidoiaa
open Go Go.RowKit
theorem flatP_set : ∀ (ps : List (Int × Int)) (i : Nat) (p : Int × Int), i < ps.length → flatP (ps.set i p) = ((flatP ps).set (i * 2) p.1).set (i * 2 + 1) p.2
  | [], _, _, h => by cases h
  | q :: ps, 0, p, _ => by simp [flatP]
  | q :: ps, i + 1, p, h => by
    have ih := flatP_set ps i p (by simpa using h)
    rw [show (i + 1) * 2 + 1 = i * 2 + 1 + 1 + 1 by omega, show (i + 1) * 2 = i * 2 + 1 + 1 by omega]
    simp [flatP, ih]
theorem GrowP.atI {lo : Nat} {e : TypeId} {w : World} {v : Value} {ps : List (Int × Int)} (h : GrowP lo e w v ps) {i : Nat} (hi : i < ps.length) :
    ∃ g cap, v = .slice (some ⟨g, 0, none⟩) ps.length cap ∧ lo ≤ g ∧ ps.length ≤ cap ∧ w.cell? ⟨g, i * 2, none⟩ = some (.int .i64 (ps.getD i (0, 0)).1) ∧ w.cell? ⟨g, i * 2 + 1, none⟩ = some (.int .i64 (ps.getD i (0, 0)).2) ∧ w.frozen? ⟨g, i * 2, none⟩ = false ∧ w.frozen? ⟨g, i * 2 + 1, none⟩ = false ∧
      ∀ p : Int × Int, GrowP lo e ((w.setCell ⟨g, i * 2, none⟩ (.int .i64 p.1)).setCell ⟨g, i * 2 + 1, none⟩ (.int .i64 p.2)) v (ps.set i p) := by
  have hh := h
  obtain ⟨h1, h2⟩ := h
  have hfl := flatP_len ps
  rcases h2 with ⟨rfl, h0⟩ | ⟨g, cap, cur, rfl, hl, hb, hc, hm, hs, ht⟩
  · omega
  · obtain ⟨b, o, e1, c0, c1⟩ := (GrowP.own hh).row.at hi
    simp only [Option.some.injEq, Addr.mk.injEq, and_true] at e1
    obtain ⟨rfl, rfl⟩ := e1
    rw [Nat.zero_add] at c0 c1
    have hic : i * 2 + 1 < cur.size := by omega
    refine ⟨g, cap, rfl, hl, hc, c0, c1, by simp [World.frozen?, hb], by simp [World.frozen?, hb], fun p => ?_⟩
    unfold GrowP
    rw [flatP_set ps i p hi]
    refine ⟨by simp [hfl]; omega, .inr ⟨g, cap, (cur.set (i * 2) (.int .i64 p.1) (by omega)).set (i * 2 + 1) (.int .i64 p.2) (by simpa using hic), by rw [List.length_set], hl, ?_, by rw [List.length_set]; exact hc, hm, by simpa using hs, ?_⟩⟩
    · unfold World.setCell
      simp only [Array.getElem?_modify, if_true, hb]
      simp [Array.setIfInBounds, hic, show i * 2 < cur.size by omega]
    · rw [List.length_set, Array.toList_set, Array.toList_set, List.take_set, List.take_set, ht, List.map_set, List.map_set]
theorem GrowP.clear {lo g n cap : Nat} {w : World} {xs : List (Int × Int)} (h : GrowP lo 33 w (.slice (some ⟨g, 0, none⟩) n cap) xs) (hn : n = xs.length) {i : Nat} (hi : i < n) :
    ∃ w', (∀ ty, (Builtin.clear_ #[37] ty #[.slice (some ⟨g, i * 2, none⟩) (n - i) (cap - i)]).run Try.prog w = .ok (.tuple #[]) w') ∧ GrowP lo 33 w' (.slice (some ⟨g, 0, none⟩) i cap) (xs.take i) ∧ w.grownBy w' (some g) := by
  obtain ⟨h1, h2⟩ := h
  have hfl := flatP_len xs
  rcases h2 with ⟨h0, _⟩ | ⟨g', cap', cur, hv, hl, hb, hc, hm, hs, ht⟩
  · cases h0
  · simp only [Value.slice.injEq, Option.some.injEq, Addr.mk.injEq, and_true] at hv
    obtain ⟨rfl, -, rfl⟩ := hv
    obtain ⟨m, hm'⟩ : ∃ m, n - i = m + 1 := ⟨n - i - 1, by omega⟩
    have hzl : (Builtin.zeroCells (Value.agg #[.int .i64 0, .int .i64 0]).cells (m + 1)).toList.length = (m + 1) * 2 := by
      rw [Array.length_toList, size_zeroCells]
      rfl
    have hone : ∀ u ∈ (Builtin.zeroCells (Value.agg #[.int .i64 0, .int .i64 0]).cells (m + 1)).toList, u.oneCell' = true := by
      intro u hu
      unfold Builtin.zeroCells at hu
      simp only [Array.toList_map, List.mem_map] at hu
      obtain ⟨k, _, rfl⟩ := hu
      have hk : k % (Value.agg #[.int .i64 0, .int .i64 0]).cells.size = 0 ∨ k % (Value.agg #[.int .i64 0, .int .i64 0]).cells.size = 1 := by
        have : (Value.agg #[.int .i64 0, .int .i64 0]).cells.size = 2 := rfl
        rw [this]
        omega
      rcases hk with hk | hk <;> rw [hk] <;> rfl
    obtain ⟨Z, hZ⟩ : ∃ Z, Z = (Builtin.zeroCells (Value.agg #[.int .i64 0, .int .i64 0]).cells (m + 1)).toList := ⟨_, rfl⟩
    rw [← hZ] at hzl hone
    have hst := run_storeCells_at Try.prog g (i * 2) 33 Z 0 cur w hb (by rw [hzl]; omega) hone
    simp only [Nat.add_zero] at hst
    refine ⟨w.setRow g (cur.toList.take (i * 2) ++ Z ++ cur.toList.drop (i * 2 + Z.length)).toArray, fun ty => ?_, ⟨by simp [flatP_take, hfl]; omega, .inr ⟨g, cap, (cur.toList.take (i * 2) ++ Z ++ cur.toList.drop (i * 2 + Z.length)).toArray, by simp; omega, hl, setRow_heap w g cur _ _ _ hb, by simp; omega, hm, ?_, ?_⟩⟩, ⟨rfl, rfl, rfl, by simp, fun k _ hk => _root_.Go.setRow_other w g k _ (fun e => hk (by rw [e]))⟩⟩
    · rw [hm']
      simp [Builtin.clear_, run_underlying Try.underlying37, ← hZ, hst]
    · simp only [List.size_toArray, List.length_append, List.length_take, List.length_drop, Array.length_toList, hzl]
      omega
    · have e1 : (xs.take i).length * 2 = i * 2 := by rw [List.length_take]; omega
      rw [e1, flatP_take, List.map_take, ← ht, List.append_assoc, List.take_append_of_le_length (by simp; omega), List.take_take, List.take_take]
      congr 1
      omega
theorem slice_lowP (g n cap i : Nat) (w : World) (h1 : i < n) (h2 : n ≤ cap) : (Instr.sliceAt 37 (.slice (some ⟨g, 0, none⟩) n cap) (some (.int .i64 i)) none none).run Try.prog w = .ok (.slice (some ⟨g, i * 2, none⟩) (n - i) (cap - i)) w := by
  obtain ⟨i0, hi0, hz0, hz1, hz2⟩ := info_parts Try.infoSpotA
  have he : Try.prog.elem 37 = 33 := by unfold Program.elem; rw [Try.underlying37]
  have ht' : Try.prog.underlying 37 = some (.slice (Try.prog.elem 37)) := by rw [he]; exact Try.underlying37
  rw [run_sliceAt_slice w _ _ _ _ _ ht', run_slice_l w _ _ _ _ ht' .i64 _ (by omega) (by omega)]
  have hne : ¬ cap = i := by omega
  simp [sizeOf, typeInfo, he, hi0, hz1, sliced, Addr.add_lit, Result.andThen, hne]
theorem slice_highP (g n cap i : Nat) (w : World) (h1 : i < n) (h2 : n ≤ cap) : (Instr.sliceAt 37 (.slice (some ⟨g, 0, none⟩) n cap) none (some (.int .i64 i)) none).run Try.prog w = .ok (.slice (some ⟨g, 0, none⟩) i cap) w := by
  obtain ⟨i0, hi0, hz0, hz1, hz2⟩ := info_parts Try.infoSpotA
  have he : Try.prog.elem 37 = 33 := by unfold Program.elem; rw [Try.underlying37]
  have ht' : Try.prog.underlying 37 = some (.slice (Try.prog.elem 37)) := by rw [he]; exact Try.underlying37
  rw [run_sliceAt_slice w _ _ _ _ _ ht', run_slice_h w _ _ _ _ ht' .i64 _ (by omega) (by omega)]
  have hne : ¬ cap = 0 := by omega
  simp [sizeOf, typeInfo, he, hi0, hz1, sliced, Addr.add_lit, Result.andThen, hne]
/-- Compact under way: the first t are done. -/
structure CmSt (base : Nat) (w0 : World) (g cap : Nat) (ps : List (Int × Int)) (t : Nat) (wr : World) : Prop where
  gr : w0.grownBy wr (some g)
  list : ∃ xs, GrowP base 33 wr (.slice (some ⟨g, 0, none⟩) ps.length cap) xs ∧ xs.length = ps.length ∧ xs.take (cmL ps t).length = cmL ps t ∧ ∀ k, (cmL ps t).length ≤ k → k < ps.length → xs.getD k (0, 0) = ps.getD k (0, 0)
theorem CmSt.ext {base : Nat} {w0 : World} {g cap : Nat} {ps : List (Int × Int)} {t : Nat} {wr w' : World} (h : CmSt base w0 g cap ps t wr) (hx : wr.Ext w') : CmSt base w0 g cap ps t w' :=
  ⟨grownBy_more h.gr hx, let ⟨xs, h1, h2⟩ := h.list; ⟨xs, h1.ext hx, h2⟩⟩
theorem CmSt.cells {base : Nat} {w0 : World} {g cap : Nat} {ps : List (Int × Int)} {t : Nat} {wr : World} (h : CmSt base w0 g cap ps t wr) {j : Nat} (hj : j < ps.length) (hl : (cmL ps t).length ≤ j) :
    wr.cell? ⟨g, j * 2, none⟩ = some (.int .i64 (ps.getD j (0, 0)).1) ∧ wr.cell? ⟨g, j * 2 + 1, none⟩ = some (.int .i64 (ps.getD j (0, 0)).2) := by
  obtain ⟨xs, h1, h2, h3, h4⟩ := h.list
  obtain ⟨g', cap', hv, hlo, hcap, c0, c1, f0, f1, hset⟩ := GrowP.atI h1 (i := j) (by omega)
  simp only [Value.slice.injEq, Option.some.injEq, Addr.mk.injEq, and_true] at hv
  obtain ⟨rfl, -, -⟩ := hv
  rw [h4 j hl hj] at c0 c1
  exact ⟨c0, c1⟩
theorem grownBy_own {w w1 : World} {g i : Nat} (h : w.grownBy w1 (some g)) (v : Value) : w.grownBy (w1.setCell ⟨g, i, none⟩ v) (some g) :=
  ⟨h.os, h.tape, h.output, by simp; exact h.size, fun k hk hne => by
    have hkg : k ≠ g := fun e => hne (by rw [e])
    rw [Below.heap_setCell _ _ _ _ (by simpa using hkg), h.block k hk hne]⟩
theorem CmSt.no {base : Nat} {w0 : World} {g cap : Nat} {ps : List (Int × Int)} {t : Nat} {wr : World} (h : CmSt base w0 g cap ps (t + 1) wr) (hp : ps.getD (t + 1) (0, 0) = ps.getD t (0, 0)) : CmSt base w0 g cap ps (t + 1 + 1) wr := by
  have e := cmL_dup hp
  exact ⟨h.gr, by rw [e]; exact h.list⟩
theorem CmSt.yes {base : Nat} {w0 : World} {g cap : Nat} {ps : List (Int × Int)} {t : Nat} {wr : World} (h : CmSt base w0 g cap ps (t + 1) wr) (hp : ps.getD (t + 1) (0, 0) ≠ ps.getD t (0, 0)) (ht : t + 1 < ps.length) :
    ∃ a0 a1, wr.cell? ⟨g, (cmL ps (t + 1)).length * 2, none⟩ = some (.int .i64 a0) ∧ wr.cell? ⟨g, (cmL ps (t + 1)).length * 2 + 1, none⟩ = some (.int .i64 a1) ∧ wr.frozen? ⟨g, (cmL ps (t + 1)).length * 2, none⟩ = false ∧ wr.frozen? ⟨g, (cmL ps (t + 1)).length * 2 + 1, none⟩ = false ∧
      Hid (CmSt base w0 g cap ps (t + 1 + 1) ((wr.setCell ⟨g, (cmL ps (t + 1)).length * 2, none⟩ (.int .i64 (ps.getD (t + 1) (0, 0)).1)).setCell ⟨g, (cmL ps (t + 1)).length * 2 + 1, none⟩ (.int .i64 (ps.getD (t + 1) (0, 0)).2))) := by
  obtain ⟨xs, h1, h2, h3, h4⟩ := h.list
  have hl := cmL_len ps (t + 1)
  have e := cmL_new hp
  obtain ⟨g', cap', hv, hlo, hcap, c0, c1, f0, f1, hset⟩ := GrowP.atI h1 (i := (cmL ps (t + 1)).length) (by omega)
  simp only [Value.slice.injEq, Option.some.injEq, Addr.mk.injEq, and_true] at hv
  obtain ⟨rfl, -, -⟩ := hv
  refine ⟨_, _, c0, c1, f0, f1, grownBy_own (grownBy_own h.gr _) _, xs.set (cmL ps (t + 1)).length (ps.getD (t + 1) (0, 0)), hset _, by rw [List.length_set]; exact h2, ?_, fun k hk hkl => ?_⟩
  · rw [e, List.length_append, List.length_singleton]
    have hxl : (cmL ps (t + 1)).length < (xs.set (cmL ps (t + 1)).length (ps.getD (t + 1) (0, 0))).length := by rw [List.length_set]; omega
    rw [List.take_succ_eq_append_getElem hxl, List.take_set_of_le (Nat.le_refl _), h3]
    simp
  · rw [e, List.length_append, List.length_singleton] at hk
    rw [List.getD_eq_getElem?_getD, List.getElem?_set_ne (by omega), ← List.getD_eq_getElem?_getD]
    exact h4 k (by omega) hkl
theorem cmL_lt {ps : List (Int × Int)} {j : Nat} (h : ps.getD (j + 1) (0, 0) = ps.getD j (0, 0)) : ∀ d, (cmL ps (j + 1 + 1 + d)).length < j + 1 + 1 + d
  | 0 => by
    rw [Nat.add_zero, cmL_dup h]
    have := cmL_len ps (j + 1)
    omega
  | d + 1 => by
    have ih := cmL_lt h d
    rw [← Nat.add_assoc, cmL]
    split
    · omega
    · rw [List.length_append, List.length_singleton]; omega
/-- What Compact hands back. -/
def CmRet (base : Nat) (w : World) (g cap : Nat) (qs : List (Int × Int)) (e : Ending) (w' : World) : Prop := e = .returned (.slice (some ⟨g, 0, none⟩) qs.length cap) ∧ GrowP base 33 w' (.slice (some ⟨g, 0, none⟩) qs.length cap) qs ∧ w.grownBy w' (some g)
set_option maxRecDepth 5000 in
set_option maxHeartbeats 1600000 in
theorem compactG_any (base g cap : Nat) (ps : List (Int × Int)) (w : World) (hown : GrowP base 33 w (.slice (some ⟨g, 0, none⟩) ps.length cap) ps) (hn : ps.length ≤ 1048576) :
    Calls Try.prog 28 #[.slice (some ⟨g, 0, none⟩) ps.length cap] w (CmRet base w g cap (cmL ps ps.length)) := by
  have hg0 : w.grownBy w (some g) := ⟨rfl, rfl, rfl, Nat.le_refl _, fun _ _ _ => rfl⟩
  have HM : Hid (RowP w (some ⟨g, 0, none⟩) ps) := (GrowP.own hown).row
  have hcap : ps.length ≤ cap := by
    obtain ⟨a, c, hv, hc⟩ := hown.form
    simp only [Value.slice.injEq] at hv
    omega
  have HSAME : Hid (∀ w', w.Ext w' → (∀ j, j + 1 < ps.length → ps.getD (j + 1) (0, 0) ≠ ps.getD j (0, 0)) → CmRet base w g cap (cmL ps ps.length) (.returned (.slice (some ⟨g, 0, none⟩) ps.length cap)) w') := fun w' hx h => by
    rw [cmL_take (Nat.le_refl _) h, List.take_length]
    exact ⟨rfl, hown.ext hx, grownBy_more hg0 hx⟩
  have HST : Hid (∀ w' j, w.Ext w' → j + 1 < ps.length → (∀ i, i + 1 < j + 1 → ps.getD (i + 1) (0, 0) ≠ ps.getD i (0, 0)) → ps.getD (j + 1) (0, 0) = ps.getD j (0, 0) → (cmL ps (j + 1 + 1)).length = j + 1 ∧ CmSt base w g cap ps (j + 1 + 1) w') := fun w' j hx hj h he => by
    have e1 : cmL ps (j + 1 + 1) = ps.take (j + 1) := by rw [cmL_dup he, cmL_take (by omega) h]
    have e2 : (ps.take (j + 1)).length = j + 1 := by rw [List.length_take]; omega
    exact ⟨by rw [e1, e2], grownBy_more hg0 hx, ps, hown.ext hx, rfl, by rw [e1, e2], fun _ _ _ => rfl⟩
  clear hown hg0
  obtain ⟨n, hnn⟩ : ∃ n, n = ps.length := ⟨_, rfl⟩
  have HNN := Lib.hid hnn
  by_cases h2 : ps.length < 2
  · have HR := Lib.hid (HSAME.out w (.refl _) fun j hj => by omega)
    have h2' : (n : Int) < 2 := by omega
    clear HM HSAME HST
    rw [← hnn] at HR hn hcap ⊢
    clear hnn
    go_enter Try.func28, Try.ntmps28
    go_wp2
    go_ret
    exact HR.out
  · have h2' : ¬ (n : Int) < 2 := by omega
    rw [← hnn] at h2 hn hcap
    rw [← hnn]
    have HLT : Hid (∀ j d, ps.getD (j + 1) (0, 0) = ps.getD j (0, 0) → (cmL ps (j + 1 + 1 + d)).length < j + 1 + 1 + d) := fun j d h => cmL_lt h d
    clear hnn
    go_enter Try.func28, Try.ntmps28
    go_wp2
    go_loopw [3] (fun i wr => ∃ J j : Nat, J = j + 1 ∧ j + 1 ≤ n ∧ i = .int .i64 (J : Int) ∧ Hid (w.Ext wr) ∧ Hid (∀ i, i + 1 < j + 1 → ps.getD (i + 1) (0, 0) ≠ ps.getD i (0, 0))) (fun i _ => n - (intOf i).toNat)
    case atStart => exact ⟨1, 0, rfl, by omega, rfl, .refl _, fun i hi => by omega⟩
    case round =>
      obtain ⟨J, j, hJ, hj, rfl, HX, HALL⟩ := hrel
      have HJ := Lib.hid hJ
      by_cases hlt : j + 1 < n
      · have hlt' : (J : Int) < (n : Int) := by omega
        have hj1 : (0 : Int) ≤ (J : Int) := by omega
        have hj0 : (0 : Int) ≤ (j : Int) := by omega
        have hjl : (j : Int) < (n : Int) := by omega
        have hw1 : IntKind.i64.wrap ((J : Int) - 1) = (j : Int) := by rw [IntWalk.i64_in _ (by omega)]; omega
        have hJn : J ≤ n := by omega
        clear hJ
        have HW1 := Lib.hid hw1
        by_cases he : ps.getD (j + 1) (0, 0) = ps.getD j (0, 0)
        · have HSTJ := Lib.hid (fun w' hx => HST.out w' j hx (by rw [← HNN.out]; exact hlt) HALL.out he)
          have HLTJ := Lib.hid (fun d => HLT.out j d he)
          obtain ⟨b, o, hbo, c0, c1⟩ := RowP.at (RowOf.ext HM.out HX.out : RowP wr (some ⟨g, 0, none⟩) ps) (show j + 1 < ps.length by rw [← HNN.out]; exact hlt)
          cases hbo
          obtain ⟨b', o', hbo, d0, d1⟩ := RowP.at (RowOf.ext HM.out HX.out : RowP wr (some ⟨g, 0, none⟩) ps) (show j < ps.length by rw [← HNN.out]; omega)
          cases hbo
          rw [he] at c0 c1
          rw [Nat.zero_add] at c0 c1 d0 d1
          rw [← HJ.out] at c0 c1
          clear he HSAME HST HLT HALL
          generalize ps.getD j (0, 0) = r at c0 c1 d0 d1
          obtain ⟨x2, y2⟩ := r
          dsimp only at c0 c1 d0 d1
          go_wp2_with fail
          refine wp_region_over_lit (by kernel_rfl) (by kernel_rfl) ?_; (repeat (go_big_quiet_step (fail))); refine wpQuiet_nil ?_; rintro _ ⟨x1, rfl⟩
          obtain ⟨hlen, hs⟩ := HSTJ.out (wr.over x1) (HX.out.trans ⟨x1, rfl⟩)
          have HLEN := Lib.hid hlen
          have HS := Lib.hid hs
          obtain ⟨r, hr⟩ : ∃ r, r = n - J := ⟨_, rfl⟩
          have hr' : J + r = n := by omega
          have hrun0 := slice_lowP g n cap J (wr.over x1) (by have := HJ.out; omega) hcap
          rw [← hr] at hrun0
          clear c0 c1 d0 d1 HX HSTJ hlen hs hr
          go_wp2
          clear hrun0
          go_loopw [3, 5] (fun i m wr => ∃ s t T : Nat, s = t + 1 ∧ T = J + t ∧ T + 1 ≤ n ∧ m = .int .i64 (s : Int) ∧ i = .int .i64 (cmL ps (T + 1)).length ∧ Hid (CmSt base w g cap ps (T + 1) wr)) (fun _ m _ => n - (intOf m).toNat)
          case atStart => exact ⟨1, 0, J, rfl, rfl, by have := HJ.out; omega, rfl, by rw [HJ.out, HLEN.out], by rw [HJ.out]; exact HS⟩
          case round =>
            clear HS HLEN hw1 HW1
            obtain ⟨s, t, T, hs, hT, hTn, rfl, rfl, HS⟩ := hrel
            have HSS := Lib.hid hs
            have HTT := Lib.hid hT
            obtain ⟨w4, rfl⟩ : ∃ w4 : World, w4 = wr := ⟨_, rfl⟩
            have hln : (cmL ps (T + 1)).length < T + 1 := by have := HLTJ.out t; rwa [show j + 1 + 1 + t = T + 1 by have := HJ.out; omega] at this
            by_cases hlt2 : T + 1 < n
            · have hltr : (s : Int) < (r : Int) := by omega
              have ht1 : (0 : Int) ≤ (s : Int) := by omega
              have ht0 : (0 : Int) ≤ (t : Int) := by omega
              have htr : (t : Int) < (r : Int) := by omega
              have hw2 : IntKind.i64.wrap ((s : Int) - 1) = (t : Int) := by rw [IntWalk.i64_in _ (by omega)]; omega
              obtain ⟨c0, c1⟩ := HS.out.cells (j := T + 1) (by rw [← HNN.out]; exact hlt2) (by omega)
              obtain ⟨d0, d1⟩ := HS.out.cells (j := T) (by rw [← HNN.out]; omega) (by omega)
              rw [show (T + 1) * 2 = J * 2 + s * 2 by omega] at c0 c1
              rw [show T * 2 = J * 2 + t * 2 by omega] at d0 d1
              have hsl : s < n := by omega
              have htl : t < n := by omega
              clear hs hT
              by_cases he2 : ps.getD (T + 1) (0, 0) = ps.getD T (0, 0)
              · have HS2 : Hid (CmSt base w g cap ps (T + 1 + 1) w4) := HS.out.no he2
                have HL2 : Hid ((cmL ps (T + 1 + 1)).length = (cmL ps (T + 1)).length) := by show _ = _; rw [cmL_dup he2]
                rw [he2] at c0 c1
                clear he2 HS
                generalize ps.getD T (0, 0) = q at c0 c1 d0 d1
                obtain ⟨x, y⟩ := q
                dsimp only at c0 c1 d0 d1
                generalize (cmL ps (T + 1)).length = m at *
                go_wp2_with fail
                refine wp_region_over_lit (by kernel_rfl) (by kernel_rfl) ?_; (repeat (go_big_quiet_step (fail))); refine wpQuiet_nil ?_; rintro _ ⟨x1, rfl⟩
                have HS3 := Lib.hid (HS2.out.ext ⟨x1, rfl⟩)
                clear c0 c1 d0 d1 HS2
                go_wp2
                go_roundw
                case rel => exact ⟨s + 1, s, T + 1, rfl, by have := HSS.out; have := HTT.out; omega, by omega, by go_num, by rw [HL2.out], HS3⟩
                case measure => simp [intOf]; omega
              · have HL2 : Hid ((cmL ps (T + 1 + 1)).length = (cmL ps (T + 1)).length + 1) := by show _ = _; rw [cmL_new he2]; simp
                have HY := Lib.hid (fun x => (HS.out.ext (show w4.Ext (w4.over x) from ⟨x, rfl⟩)).yes he2 (by rw [← HNN.out]; exact hlt2))
                have HD : Hid (∀ x, (w4.over x).cell? ⟨g, J * 2 + s * 2, none⟩ = some (.int .i64 (ps.getD (T + 1) (0, 0)).1) ∧ (w4.over x).cell? ⟨g, J * 2 + s * 2 + 1, none⟩ = some (.int .i64 (ps.getD (T + 1) (0, 0)).2)) := fun x => ⟨World.Ext.cell ⟨x, rfl⟩ c0, World.Ext.cell ⟨x, rfl⟩ c1⟩
                have hml : ((cmL ps (T + 1)).length : Int) < (n : Int) := by omega
                have hm0 : (0 : Int) ≤ ((cmL ps (T + 1)).length : Int) := by omega
                have hm1 : (cmL ps (T + 1)).length ≤ 1048576 := by omega
                clear HS
                generalize ps.getD (T + 1) (0, 0) = q at *
                generalize ps.getD T (0, 0) = q2 at *
                obtain ⟨x, y⟩ := q
                obtain ⟨x2, y2⟩ := q2
                dsimp only at c0 c1 d0 d1 HD
                generalize (cmL ps (T + 1)).length = m at *
                by_cases h1 : x = x2
                · have h3 : ¬ y = y2 := fun e => he2 (by rw [h1, e])
                  clear he2
                  subst h1
                  go_wp2_with fail
                  refine wp_region_over_lit (by kernel_rfl) (by kernel_rfl) ?_; (repeat (go_big_quiet_step (fail))); refine wpQuiet_nil ?_; rintro _ ⟨x1, rfl⟩
                  clear c0 c1 d0 d1
                  obtain ⟨c0, c1⟩ := HD.out x1
                  obtain ⟨a0, a1, q0, q1, q2, q3, HS7⟩ := HY.out x1
                  clear HY HD
                  generalize w4.over x1 = w5 at *
                  go_wp2
                  go_roundw
                  case rel => exact ⟨s + 1, s, T + 1, rfl, by have := HSS.out; have := HTT.out; omega, by omega, by go_num, by rw [HL2.out]; go_num, HS7⟩
                  case measure => simp [intOf]; omega
                · clear he2
                  go_wp2_with fail
                  refine wp_region_over_lit (by kernel_rfl) (by kernel_rfl) ?_; (repeat (go_big_quiet_step (fail))); refine wpQuiet_nil ?_; rintro _ ⟨x1, rfl⟩
                  clear c0 c1 d0 d1
                  obtain ⟨c0, c1⟩ := HD.out x1
                  obtain ⟨a0, a1, q0, q1, q2, q3, HS7⟩ := HY.out x1
                  clear HY HD
                  generalize w4.over x1 = w5 at *
                  go_wp2
                  go_roundw
                  case rel => exact ⟨s + 1, s, T + 1, rfl, by have := HSS.out; have := HTT.out; omega, by omega, by go_num, by rw [HL2.out]; go_num, HS7⟩
                  case measure => simp [intOf]; omega
            · have hTe : T + 1 = n := by omega
              have hnl : ¬ (s : Int) < (r : Int) := by omega
              clear hs hT
              obtain ⟨xs, h1, h2, h3, h4⟩ := HS.out.list
              rw [hTe] at hln h3
              have hgr0 := HS.out.gr
              rw [show ps.length = n from HNN.out.symm] at h1 h2
              obtain ⟨w5, hcl, hg5, hgr⟩ := h1.clear h2.symm hln
              rw [h3] at hg5
              have hrun1 := slice_lowP g n cap (cmL ps n).length w4 hln hcap
              have hrun2 := slice_highP g n cap (cmL ps n).length w5 hln hcap
              have HR : Hid (CmRet base w g cap (cmL ps n) (.returned (.slice (some ⟨g, 0, none⟩) (cmL ps n).length cap)) w5) := ⟨rfl, hg5, grownBy_trans hgr0 hgr⟩
              clear HS h1 h2 h3 h4 hg5 hgr hgr0
              rw [hTe]
              generalize hmm : (cmL ps n).length = m at *
              clear hmm hTe
              go_wp2
              go_ret
              exact HR.out
        · have hne := he
          obtain ⟨b, o, hbo, c0, c1⟩ := RowP.at (RowOf.ext HM.out HX.out : RowP wr (some ⟨g, 0, none⟩) ps) (show j + 1 < ps.length by rw [← HNN.out]; exact hlt)
          cases hbo
          obtain ⟨b', o', hbo, d0, d1⟩ := RowP.at (RowOf.ext HM.out HX.out : RowP wr (some ⟨g, 0, none⟩) ps) (show j < ps.length by rw [← HNN.out]; omega)
          cases hbo
          have HALL1 : Hid (∀ i, i + 1 < j + 1 + 1 → ps.getD (i + 1) (0, 0) ≠ ps.getD i (0, 0)) := fun i hi => by
            by_cases e : i = j
            · rw [e]; exact hne
            · exact HALL.out i (by omega)
          rw [Nat.zero_add] at c0 c1 d0 d1
          clear HALL he HSAME HST HLT
          generalize ps.getD (j + 1) (0, 0) = q at c0 c1 hne
          rw [← HJ.out] at c0 c1
          generalize ps.getD j (0, 0) = r at d0 d1 hne
          obtain ⟨x, y⟩ := q
          obtain ⟨x2, y2⟩ := r
          dsimp only at c0 c1 d0 d1
          by_cases h1 : x = x2
          · have h3 : ¬ y = y2 := fun e => hne (by rw [h1, e])
            clear hne
            go_wp2_with fail
            refine wp_region_over_lit (by kernel_rfl) (by kernel_rfl) ?_; (repeat (go_big_quiet_step (fail))); refine wpQuiet_nil ?_; rintro _ ⟨x1, rfl⟩
            have HX1 : Hid (w.Ext (wr.over x1)) := HX.out.trans ⟨x1, rfl⟩
            clear c0 c1 d0 d1 HX
            go_wp2
            go_roundw
            case rel => exact ⟨J + 1, j + 1, by have := HJ.out; omega, by omega, by go_num, HX1, HALL1⟩
            case measure => simp [intOf]; omega
          · clear hne
            go_wp2_with fail
            refine wp_region_over_lit (by kernel_rfl) (by kernel_rfl) ?_; (repeat (go_big_quiet_step (fail))); refine wpQuiet_nil ?_; rintro _ ⟨x1, rfl⟩
            have HX1 : Hid (w.Ext (wr.over x1)) := HX.out.trans ⟨x1, rfl⟩
            clear c0 c1 d0 d1 HX
            go_wp2
            go_roundw
            case rel => exact ⟨J + 1, j + 1, by have := HJ.out; omega, by omega, by go_num, HX1, HALL1⟩
            case measure => simp [intOf]; omega
      · have hnl : ¬ (J : Int) < (n : Int) := by omega
        clear hJ
        have HR := Lib.hid (HSAME.out wr HX.out fun i hi => HALL.out i (by rw [← HNN.out] at hi; omega))
        rw [← HNN.out] at HR
        clear HALL HST HLT HSAME
        go_wp2
        go_ret
        exact HR.out
end Go.Proofs.Ytelaoimcaidoiaa
