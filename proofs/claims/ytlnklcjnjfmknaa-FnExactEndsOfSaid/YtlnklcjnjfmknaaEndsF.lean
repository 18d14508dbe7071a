/- Ends: what is deleted of a list; both sides. -/
import Derived.Test.YtlnklcjnjfmknaaNearF
import Derived.Test.YtlnklcjnjfmknaaRecF
namespace Go.Proofs.Ytlnklcjnjfmknaa
open Go Go.RowKit
theorem flatP_set : ∀ (ps : List (Int × Int)) (i : Nat) (p : Int × Int), i < ps.length → flatP (ps.set i p) = ((flatP ps).set (i * 2) p.1).set (i * 2 + 1) p.2
  | [], _, _, h => by cases h
  | q :: ps, 0, p, _ => by simp [flatP]
  | q :: ps, i + 1, p, h => by
    have ih := flatP_set ps i p (by simpa using h)
    rw [show (i + 1) * 2 + 1 = i * 2 + 1 + 1 + 1 by omega, show (i + 1) * 2 = i * 2 + 1 + 1 by omega]
    simp [flatP, ih]
theorem flatP_take : ∀ (ps : List (Int × Int)) (i : Nat), flatP (ps.take i) = (flatP ps).take (i * 2)
  | [], i => by simp [flatP]
  | q :: ps, 0 => by simp [flatP]
  | q :: ps, i + 1 => by
    rw [show (i + 1) * 2 = i * 2 + 1 + 1 by omega]
    simp [flatP, flatP_take ps i]
theorem GrowP.atI {lo : Nat} {e : TypeId} {w : World} {v : Value} {ps : List (Int × Int)} (h : GrowP lo e w v ps) {i : Nat} (hi : i < ps.length) :
    ∃ g cap, v = .slice (some ⟨g, 0, none⟩) ps.length cap ∧ lo ≤ g ∧ ps.length ≤ cap ∧ w.cell? ⟨g, i * 2, none⟩ = some (.int .i64 (ps.getD i (0, 0)).1) ∧ w.cell? ⟨g, i * 2 + 1, none⟩ = some (.int .i64 (ps.getD i (0, 0)).2) ∧ w.frozen? ⟨g, i * 2, none⟩ = false ∧ w.frozen? ⟨g, i * 2 + 1, none⟩ = false ∧
      ∀ p : Int × Int, GrowP lo e ((w.setCell ⟨g, i * 2, none⟩ (.int .i64 p.1)).setCell ⟨g, i * 2 + 1, none⟩ (.int .i64 p.2)) v (ps.set i p) := by
  have hh := h
  obtain ⟨h1, h2⟩ := h
  have hfl := flatP_len ps
  rcases h2 with ⟨rfl, h0⟩ | ⟨g, cap, cur, rfl, hl, hb, hc, hm, hs, ht⟩
  · omega
  · obtain ⟨b, o, e1, c0, c1⟩ := (GrowP.own hh).row.at hi
    simp only [Option.some.injEq, Addr.mk.injEq, and_true] at e1
    obtain ⟨rfl, rfl⟩ := e1
    rw [Nat.zero_add] at c0 c1
    have hic : i * 2 + 1 < cur.size := by omega
    refine ⟨g, cap, rfl, hl, hc, c0, c1, by simp [World.frozen?, hb], by simp [World.frozen?, hb], fun p => ?_⟩
    unfold GrowP
    rw [flatP_set ps i p hi]
    refine ⟨by simp [hfl]; omega, .inr ⟨g, cap, (cur.set (i * 2) (.int .i64 p.1) (by omega)).set (i * 2 + 1) (.int .i64 p.2) (by simpa using hic), by rw [List.length_set], hl, ?_, by rw [List.length_set]; exact hc, hm, by simpa using hs, ?_⟩⟩
    · unfold World.setCell
      simp only [Array.getElem?_modify, if_true, hb]
      simp [Array.setIfInBounds, hic, show i * 2 < cur.size by omega]
    · rw [List.length_set, Array.toList_set, Array.toList_set, List.take_set, List.take_set, ht, List.map_set, List.map_set]
theorem GrowP.clear {lo g n cap : Nat} {w : World} {xs : List (Int × Int)} (h : GrowP lo 80 w (.slice (some ⟨g, 0, none⟩) n cap) xs) (hn : n = xs.length) {i : Nat} (hi : i < n) :
    ∃ w', (∀ ty, (Builtin.clear_ #[41] ty #[.slice (some ⟨g, i * 2, none⟩) (n - i) (cap - i)]).run Try.prog w = .ok (.tuple #[]) w') ∧ GrowP lo 80 w' (.slice (some ⟨g, 0, none⟩) i cap) (xs.take i) ∧ w.grownBy w' (some g) := by
  obtain ⟨h1, h2⟩ := h
  have hfl := flatP_len xs
  rcases h2 with ⟨h0, _⟩ | ⟨g', cap', cur, hv, hl, hb, hc, hm, hs, ht⟩
  · cases h0
  · simp only [Value.slice.injEq, Option.some.injEq, Addr.mk.injEq, and_true] at hv
    obtain ⟨rfl, -, rfl⟩ := hv
    obtain ⟨m, hm'⟩ : ∃ m, n - i = m + 1 := ⟨n - i - 1, by omega⟩
    have hzl : (Builtin.zeroCells (Value.agg #[.int .i64 0, .int .i64 0]).cells (m + 1)).toList.length = (m + 1) * 2 := by
      rw [Array.length_toList, size_zeroCells]
      rfl
    have hone : ∀ u ∈ (Builtin.zeroCells (Value.agg #[.int .i64 0, .int .i64 0]).cells (m + 1)).toList, u.oneCell' = true := by
      intro u hu
      unfold Builtin.zeroCells at hu
      simp only [Array.toList_map, List.mem_map] at hu
      obtain ⟨k, _, rfl⟩ := hu
      have hk : k % (Value.agg #[.int .i64 0, .int .i64 0]).cells.size = 0 ∨ k % (Value.agg #[.int .i64 0, .int .i64 0]).cells.size = 1 := by
        have : (Value.agg #[.int .i64 0, .int .i64 0]).cells.size = 2 := rfl
        rw [this]
        omega
      rcases hk with hk | hk <;> rw [hk] <;> rfl
    obtain ⟨Z, hZ⟩ : ∃ Z, Z = (Builtin.zeroCells (Value.agg #[.int .i64 0, .int .i64 0]).cells (m + 1)).toList := ⟨_, rfl⟩
    rw [← hZ] at hzl hone
    have hst := run_storeCells_at Try.prog g (i * 2) 80 Z 0 cur w hb (by rw [hzl]; omega) hone
    simp only [Nat.add_zero] at hst
    refine ⟨w.setRow g (cur.toList.take (i * 2) ++ Z ++ cur.toList.drop (i * 2 + Z.length)).toArray, fun ty => ?_, ⟨by simp [flatP_take, hfl]; omega, .inr ⟨g, cap, (cur.toList.take (i * 2) ++ Z ++ cur.toList.drop (i * 2 + Z.length)).toArray, by simp; omega, hl, setRow_heap w g cur _ _ _ hb, by simp; omega, hm, ?_, ?_⟩⟩, ⟨rfl, rfl, rfl, by simp, fun k _ hk => _root_.Go.setRow_other w g k _ (fun e => hk (by rw [e]))⟩⟩
    · rw [hm']
      simp [Builtin.clear_, run_underlying Try.underlying41, ← hZ, hst]
    · simp only [List.size_toArray, List.length_append, List.length_take, List.length_drop, Array.length_toList, hzl]
      omega
    · have e1 : (xs.take i).length * 2 = i * 2 := by rw [List.length_take]; omega
      rw [e1, flatP_take, List.map_take, ← ht, List.append_assoc, List.take_append_of_le_length (by simp; omega), List.take_take, List.take_take]
      congr 1
      omega
theorem slice_lowP (g n cap i : Nat) (w : World) (h1 : i < n) (h2 : n ≤ cap) : (Instr.sliceAt 41 (.slice (some ⟨g, 0, none⟩) n cap) (some (.int .i64 i)) none none).run Try.prog w = .ok (.slice (some ⟨g, i * 2, none⟩) (n - i) (cap - i)) w := by
  obtain ⟨i0, hi0, hz0, hz1, hz2⟩ := info_parts Try.infoSpotA
  have he : Try.prog.elem 41 = 80 := by unfold Program.elem; rw [Try.underlying41]
  have ht' : Try.prog.underlying 41 = some (.slice (Try.prog.elem 41)) := by rw [he]; exact Try.underlying41
  rw [run_sliceAt_slice w _ _ _ _ _ ht', run_slice_l w _ _ _ _ ht' .i64 _ (by omega) (by omega)]
  have hne : ¬ cap = i := by omega
  simp [sizeOf, typeInfo, he, hi0, hz1, sliced, Addr.add_lit, Result.andThen, hne]
theorem slice_highP (g n cap i : Nat) (w : World) (h1 : i < n) (h2 : n ≤ cap) : (Instr.sliceAt 41 (.slice (some ⟨g, 0, none⟩) n cap) none (some (.int .i64 i)) none).run Try.prog w = .ok (.slice (some ⟨g, 0, none⟩) i cap) w := by
  obtain ⟨i0, hi0, hz0, hz1, hz2⟩ := info_parts Try.infoSpotA
  have he : Try.prog.elem 41 = 80 := by unfold Program.elem; rw [Try.underlying41]
  have ht' : Try.prog.underlying 41 = some (.slice (Try.prog.elem 41)) := by rw [he]; exact Try.underlying41
  rw [run_sliceAt_slice w _ _ _ _ _ ht', run_slice_h w _ _ _ _ ht' .i64 _ (by omega) (by omega)]
  have hne : ¬ cap = 0 := by omega
  simp [sizeOf, typeInfo, he, hi0, hz1, sliced, Addr.add_lit, Result.andThen, hne]
set_option maxRecDepth 5000 in
set_option maxHeartbeats 800000 in
theorem indexFuncP_any (a : Option Addr) (c f : Nat) (caps : Array Value) (os : List (Int × Int)) (p : Int × Int → Bool) (w : World) (hn : os.length ≤ 1048576) (hm : RowP w a os) (he : Enters f)
    (hf : ∀ w', w.Ext w' → ∀ i, i < os.length → Calls Try.prog f (#[spotV (os.getD i (0, 0))] ++ caps) w' fun e w'' => e = .returned (.bool (p (os.getD i (0, 0)))) ∧ w'.Ext w'') :
    Calls Try.prog 132 #[.slice a os.length c, .func (.func f) #[] caps] w fun e w' => e = .returned (.int .i64 (idxP p os)) ∧ w.Ext w' := by
  have HM := Lib.hid hm
  have HF := Lib.hid hf
  have hn2 : os.length ≤ 4611686018427387904 := by omega
  unfold Enters at he
  clear hm hf hn
  go_enter Try.func132, Try.ntmps132
  go_wp2
  go_loopw [5, 8] (fun _ i wr => ∃ k : Nat, k ≤ os.length ∧ i = .int .i64 k ∧ Hid (∀ i, i < k → p (os.getD i (0, 0)) = false) ∧ w.Ext wr) (fun _ i _ => os.length - (intOf i).toNat)
  case atStart => exact ⟨0, Nat.zero_le _, rfl, fun i hi => by omega, .refl _⟩
  case round =>
    obtain ⟨k, hk, rfl, HK, hx⟩ := hrel
    by_cases hlt : k < os.length
    · obtain ⟨b, o, rfl, hc1, hc2⟩ := (HM.out.ext hx).at hlt
      have HC := Lib.hid (HF.out wr hx k hlt)
      unfold spotV at HC
      have HK1 : Hid (p (os.getD k (0, 0)) = false → ∀ i, i < k + 1 → p (os.getD i (0, 0)) = false) := fun h i hi => by
        by_cases e : i = k
        · rw [e]; exact h
        · exact HK.out i (by omega)
      have HI : Hid (p (os.getD k (0, 0)) = true → (k : Int) = idxP p os) := fun h => (idxP_at hlt HK.out h).symm
      generalize p (os.getD k (0, 0)) = t at HC HK1 HI
      generalize os.getD k (0, 0) = z at hc1 hc2 HC
      go_wp2_with fail
      refine HC.out.mono ?_
      rintro e w2 ⟨rfl, hx2⟩
      have hx := hx.trans hx2
      cases t
      · have HK2 := Lib.hid (HK1.out rfl)
        clear HK1 HI
        go_wp2
        go_roundw
        case rel => exact ⟨k + 1, by omega, by go_num, HK2.out, hx⟩
        case measure => simp [intOf]; omega
      · have HI2 := Lib.hid (HI.out rfl)
        clear HK1 HI
        go_wp2
        go_ret
        exact ⟨ret_int HI2.out, hx⟩
    · have : k = os.length := by omega
      subst this
      go_wp2
      go_ret
      exact ⟨ret_int (idxP_none HK.out).symm, hx⟩
/-- Of the first j those that are kept. -/
def flt (p : Int × Int → Bool) (os : List (Int × Int)) (j : Nat) : List (Int × Int) := (os.take j).filter fun s => !p s
theorem take_nextP {l : List (Int × Int)} {k : Nat} (h : k < l.length) : l.take (k + 1) = l.take k ++ [l.getD k (0, 0)] := by
  rw [List.take_succ_eq_append_getElem h, List.getD_eq_getElem?_getD, List.getElem?_eq_getElem h]
  rfl
theorem flt_no {p : Int × Int → Bool} {os : List (Int × Int)} {j : Nat} (hj : j < os.length) (h : p (os.getD j (0, 0)) = true) : flt p os (j + 1) = flt p os j := by
  unfold flt
  rw [take_nextP hj, List.filter_append, List.filter_cons_of_neg (by rw [h]; decide), List.filter_nil, List.append_nil]
theorem flt_yes {p : Int × Int → Bool} {os : List (Int × Int)} {j : Nat} (hj : j < os.length) (h : p (os.getD j (0, 0)) = false) : flt p os (j + 1) = flt p os j ++ [os.getD j (0, 0)] := by
  unfold flt
  rw [take_nextP hj, List.filter_append, List.filter_cons_of_pos (by rw [h]; rfl), List.filter_nil]
theorem flt_all (p : Int × Int → Bool) (os : List (Int × Int)) : flt p os os.length = os.filter fun s => !p s := by unfold flt; rw [List.take_length]
theorem flt_len (p : Int × Int → Bool) (os : List (Int × Int)) (j : Nat) : (flt p os j).length ≤ j := Nat.le_trans (List.length_filter_le _ _) (by simp; omega)
theorem flt_head {p : Int × Int → Bool} {os : List (Int × Int)} : ∀ {k : Nat}, k ≤ os.length → (∀ i, i < k → p (os.getD i (0, 0)) = false) → flt p os k = os.take k
  | 0, _, _ => by simp [flt]
  | k + 1, hk, h => by rw [flt_yes (by omega) (h k (by omega)), flt_head (by omega) (fun i hi => h i (by omega)), ← take_nextP (by omega)]
theorem flt_lt {p : Int × Int → Bool} {os : List (Int × Int)} {k : Nat} (hk : k < os.length) (h : p (os.getD k (0, 0)) = true) : ∀ j, k < j → j ≤ os.length → (flt p os j).length < j
  | 0, hj, _ => by omega
  | j + 1, hj, hl => by
    by_cases e : k = j
    · subst e
      rw [flt_no hk h]
      have := flt_len p os k
      omega
    · have ih := flt_lt hk h j (by omega) (by omega)
      cases hb : p (os.getD j (0, 0))
      · rw [flt_yes (by omega) hb, List.length_append]
        simp only [List.length_cons, List.length_nil]
        omega
      · rw [flt_no (by omega) hb]
        omega
structure DelSt (lo : Nat) (W3 : World) (g cap : Nat) (p : Int × Int → Bool) (os : List (Int × Int)) (j : Nat) (wr : World) : Prop where
  wrote : Wrote (fun k => lo ≤ k) W3 wr
  list : ∃ xs, GrowP lo 80 wr (.slice (some ⟨g, 0, none⟩) os.length cap) xs ∧ xs.length = os.length ∧ xs.take (flt p os j).length = flt p os j ∧ ∀ k, j ≤ k → k < os.length → xs.getD k (0, 0) = os.getD k (0, 0)
theorem DelSt.ext {lo : Nat} {W3 : World} {g cap : Nat} {p : Int × Int → Bool} {os : List (Int × Int)} {j : Nat} {wr w' : World} (h : DelSt lo W3 g cap p os j wr) (hx : wr.Ext w') : DelSt lo W3 g cap p os j w' :=
  ⟨h.wrote.trans (hx.wrote _), let ⟨xs, h1, h2⟩ := h.list; ⟨xs, h1.ext hx, h2⟩⟩
theorem DelSt.no {lo : Nat} {W3 : World} {g cap : Nat} {p : Int × Int → Bool} {os : List (Int × Int)} {j : Nat} {wr : World} (h : DelSt lo W3 g cap p os j wr) (hj : j < os.length) (hp : p (os.getD j (0, 0)) = true) : DelSt lo W3 g cap p os (j + 1) wr :=
  ⟨h.wrote, let ⟨xs, h1, h2, h3, h4⟩ := h.list; ⟨xs, h1, h2, by rw [flt_no hj hp]; exact h3, fun k hk hl => h4 k (by omega) hl⟩⟩
theorem DelSt.yes {lo : Nat} {W3 : World} {g cap : Nat} {p : Int × Int → Bool} {os : List (Int × Int)} {j : Nat} {wr : World} (h : DelSt lo W3 g cap p os j wr) (hj : j < os.length) (hp : p (os.getD j (0, 0)) = false) :
    ∃ a0 a1, wr.cell? ⟨g, (flt p os j).length * 2, none⟩ = some (.int .i64 a0) ∧ wr.cell? ⟨g, (flt p os j).length * 2 + 1, none⟩ = some (.int .i64 a1) ∧ wr.frozen? ⟨g, (flt p os j).length * 2, none⟩ = false ∧ wr.frozen? ⟨g, (flt p os j).length * 2 + 1, none⟩ = false ∧
      Hid (DelSt lo W3 g cap p os (j + 1) ((wr.setCell ⟨g, (flt p os j).length * 2, none⟩ (.int .i64 (os.getD j (0, 0)).1)).setCell ⟨g, (flt p os j).length * 2 + 1, none⟩ (.int .i64 (os.getD j (0, 0)).2))) := by
  obtain ⟨xs, h1, h2, h3, h4⟩ := h.list
  have hl := flt_len p os j
  obtain ⟨g', cap', hv, hlo, hcap, c0, c1, f0, f1, hset⟩ := GrowP.atI h1 (i := (flt p os j).length) (by omega)
  simp only [Value.slice.injEq, Option.some.injEq, Addr.mk.injEq, and_true] at hv
  obtain ⟨rfl, -, -⟩ := hv
  refine ⟨_, _, c0, c1, f0, f1, (h.wrote.setCell (p := ⟨g, _, none⟩) hlo _).setCell (p := ⟨g, _, none⟩) hlo _, xs.set (flt p os j).length (os.getD j (0, 0)), hset _, by rw [List.length_set]; exact h2, ?_, fun k hk hkl => ?_⟩
  · rw [flt_yes hj hp, List.length_append]
    simp only [List.length_cons, List.length_nil, Nat.zero_add]
    have hxl : (flt p os j).length < (xs.set (flt p os j).length (os.getD j (0, 0))).length := by rw [List.length_set]; omega
    rw [List.take_succ_eq_append_getElem hxl, List.take_set_of_le (Nat.le_refl _), h3]
    simp
  · rw [List.getD_eq_getElem?_getD, List.getElem?_set_ne (by omega), ← List.getD_eq_getElem?_getD]
    exact h4 k (by omega) hkl
theorem DelSt.cells {lo : Nat} {W3 : World} {g cap : Nat} {p : Int × Int → Bool} {os : List (Int × Int)} {j : Nat} {wr : World} (h : DelSt lo W3 g cap p os j wr) (hj : j < os.length) :
    wr.cell? ⟨g, j * 2, none⟩ = some (.int .i64 (os.getD j (0, 0)).1) ∧ wr.cell? ⟨g, j * 2 + 1, none⟩ = some (.int .i64 (os.getD j (0, 0)).2) := by
  obtain ⟨xs, h1, h2, h3, h4⟩ := h.list
  obtain ⟨g', cap', hv, hlo, hcap, c0, c1, f0, f1, hset⟩ := GrowP.atI h1 (i := j) (by omega)
  simp only [Value.slice.injEq, Option.some.injEq, Addr.mk.injEq, and_true] at hv
  obtain ⟨rfl, -, -⟩ := hv
  rw [h4 j (Nat.le_refl _) hj] at c0 c1
  exact ⟨c0, c1⟩
/-- What is left of a list is returned. -/
def DelRet (lo : Nat) (W3 : World) (ps : List (Int × Int)) (e : Ending) (w' : World) : Prop := ∃ a c, e = .returned (.slice a ps.length c) ∧ Wrote (fun k => lo ≤ k) W3 w' ∧ OwnP lo w'.heap.size w' a ps
set_option maxRecDepth 5000 in
set_option maxHeartbeats 1600000 in
theorem deleteFunc_any (lo : Nat) (v : Value) (os : List (Int × Int)) (f : Nat) (caps : Array Value) (p : Int × Int → Bool) (W3 : World) (he : Enters f) (hn : os.length ≤ 100000) (hg : GrowP lo 80 W3 v os)
    (hf : ∀ w', Wrote (fun k => lo ≤ k) W3 w' → ∀ i, i < os.length → Calls Try.prog f (#[spotV (os.getD i (0, 0))] ++ caps) w' fun e w'' => e = .returned (.bool (p (os.getD i (0, 0)))) ∧ w'.Ext w'') :
    Calls Try.prog 81 #[v, .func (.func f) #[] caps] W3 (DelRet lo W3 (os.filter fun s => !p s)) := by
  obtain ⟨a, cap, rfl, hcap⟩ := hg.form
  have HIX := Lib.hid (indexFuncP_any a cap f caps os p W3 (by omega) hg.own.row he (fun w' hx i hi => hf w' (hx.wrote _) i hi))
  have HF := Lib.hid hf
  unfold Enters at he
  by_cases hall : ∀ i, i < os.length → p (os.getD i (0, 0)) = false
  · have e1 := idxP_none hall
    rw [e1] at HIX
    have hfl : (os.filter fun s => !p s) = os := by
      rw [← flt_all, flt_head (Nat.le_refl _) hall, List.take_length]
    rw [hfl]
    have HG := Lib.hid hg
    clear hall e1 hfl hg hf
    go_enter Try.func81, Try.ntmps81
    go_wp2_with fail
    refine HIX.out.mono ?_
    rintro e w1 ⟨rfl, hx1⟩
    have HR : Hid (DelRet lo W3 os (.returned (.slice a os.length cap)) w1) := ⟨a, cap, rfl, hx1.wrote _, (HG.out.ext hx1).own⟩
    clear hx1
    go_wp2
    go_ret
    exact HR.out
  · obtain ⟨k, hk, hpk, hmin⟩ : ∃ k, k < os.length ∧ p (os.getD k (0, 0)) = true ∧ ∀ i, i < k → p (os.getD i (0, 0)) = false := by
      have hex : ∃ i, i < os.length ∧ p (os.getD i (0, 0)) = true := by
        apply Classical.byContradiction
        intro hno
        apply hall
        intro i hi
        cases hb : p (os.getD i (0, 0))
        · rfl
        · exact absurd ⟨i, hi, hb⟩ hno
      cases hc : os.findIdx? p with
      | none =>
        obtain ⟨i, hi, hp⟩ := hex
        rw [List.findIdx?_eq_none_iff] at hc
        have := hc (os.getD i (0, 0)) (getD_mem hi)
        rw [this] at hp
        cases hp
      | some k =>
        obtain ⟨h1, h2, h3⟩ := List.findIdx?_eq_some_iff_getElem.1 hc
        refine ⟨k, h1, by rw [List.getD_eq_getElem?_getD, List.getElem?_eq_getElem h1]; exact h2, fun i hi => ?_⟩
        have := h3 i hi
        rw [List.getD_eq_getElem?_getD, List.getElem?_eq_getElem (by omega)]
        simpa using this
    have e1 := idxP_at hk hmin hpk
    rw [e1] at HIX
    obtain ⟨g, cap', hv, hlg, -, -, -, -, -, -⟩ := GrowP.atI hg hk
    simp only [Value.slice.injEq] at hv
    obtain ⟨rfl, -, rfl⟩ := hv
    have HS0 : Hid (∀ w1, W3.Ext w1 → DelSt lo W3 g cap p os (k + 1) w1) := fun w1 hx => ⟨hx.wrote _, os, hg.ext hx, rfl, by rw [flt_no hk hpk, flt_head (by omega) hmin, List.length_take, Nat.min_eq_left (by omega)], fun _ _ _ => rfl⟩
    have hfk : (flt p os (k + 1)).length = k := by rw [flt_no hk hpk, flt_head (by omega) hmin, List.length_take]; omega
    have HFK := Lib.hid hfk
    have HLT : Hid (∀ j, k < j → j ≤ os.length → (flt p os j).length < j) := flt_lt hk hpk
    have hk1 : ((k : Int) == -1) = false := by rw [beq_eq_false_iff_ne]; omega
    rw [← flt_all]
    clear hall e1 hg hf hfk hpk hmin
    go_enter Try.func81, Try.ntmps81
    go_wp2_with fail
    refine HIX.out.mono ?_
    rintro e w1 ⟨rfl, hx1⟩
    have HS1 := Lib.hid (HS0.out w1 hx1)
    clear hx1 HS0 HIX
    go_wp2
    go_loopw [5, 6] (fun u m wr => ∃ j : Nat, k + 1 ≤ j ∧ j ≤ os.length ∧ m = .int .i64 j ∧ u = .int .i64 (flt p os j).length ∧ Hid (DelSt lo W3 g cap p os j wr)) (fun _ m _ => os.length - (intOf m).toNat)
    case atStart => exact ⟨k + 1, Nat.le_refl _, hk, by rw [Int.natCast_add]; rfl, by rw [HFK.out], HS1⟩
    case round =>
      clear HS1
      obtain ⟨j, hkj, hj, rfl, rfl, HS⟩ := hrel
      obtain ⟨w4, rfl⟩ : ∃ w4 : World, w4 = wr := ⟨_, rfl⟩
      by_cases hlt : j < os.length
      · have hlt' : (j : Int) < (os.length : Int) := by omega
        have hj0 : (0 : Int) ≤ (j : Int) := by omega
        obtain ⟨c0, c1⟩ := HS.out.cells hlt
        have hfl := flt_len p os j
        have HNO : Hid (∀ wr, DelSt lo W3 g cap p os j wr → p (os.getD j (0, 0)) = true → DelSt lo W3 g cap p os (j + 1) wr) := fun wr h hp => h.no hlt hp
        have HYES := Lib.hid (fun (wr : World) (h : DelSt lo W3 g cap p os j wr) (hp : p (os.getD j (0, 0)) = false) => h.yes hlt hp)
        have HFN : Hid (p (os.getD j (0, 0)) = true → (flt p os (j + 1)).length = (flt p os j).length) := fun hp => by rw [flt_no hlt hp]
        have HFY : Hid (p (os.getD j (0, 0)) = false → (flt p os (j + 1)).length = (flt p os j).length + 1) := fun hp => by rw [flt_yes hlt hp]; simp
        have HC := Lib.hid (fun w' (hw : Wrote (fun k => lo ≤ k) W3 w') => HF.out w' hw j hlt)
        unfold spotV at HC
        generalize os.getD j (0, 0) = s at *
        obtain ⟨x, y⟩ := s
        dsimp only at c0 c1
        obtain ⟨w5, hw5⟩ : ∃ w5, w5 = w4.alloc (.cells #[.int .i64 x, .int .i64 y] 80) := ⟨_, rfl⟩
        have hx5 : w4.Ext w5 := by rw [hw5]; repeat (first | exact World.Ext.refl _ | exact ⟨_, rfl⟩ | assumption | refine World.Ext.over ?_ _ | refine World.Ext.drewN ?_ _ | refine World.Ext.drew ?_ | refine World.Ext.alloc ?_ _ | refine World.Ext.setCell ?_ (by simp) _)
        have d0 : w5.cell? ⟨w4.heap.size, 0, none⟩ = some (.int .i64 x) := by rw [hw5]; simp [go_sem]
        have d1 : w5.cell? ⟨w4.heap.size, 1, none⟩ = some (.int .i64 y) := by rw [hw5]; simp [go_sem]
        have HS5 := Lib.hid (HS.out.ext hx5)
        clear hx5 HS
        go_wp2_with fail
        rw [← hw5]
        clear hw5
        refine (HC.out w5 HS5.out.wrote).mono ?_
        rintro e w6 ⟨rfl, hx6⟩
        have HS6 := Lib.hid (HS5.out.ext hx6)
        have e0 := hx6.cell d0
        have e1 := hx6.cell d1
        clear hx6 d0 d1 HS5 HC c0 c1
        cases hb : p (x, y)
        · obtain ⟨a0, a1, q0, q1, q2, q3, HS7⟩ := HYES.out w6 HS6.out hb
          have HL := Lib.hid (HFY.out hb)
          clear HNO HYES HFN HFY HS6 hb
          have hfl' : ((flt p os j).length : Int) < (os.length : Int) := by omega
          have hfl0 : (0 : Int) ≤ ((flt p os j).length : Int) := by omega
          generalize (flt p os j).length = m at *
          go_wp2
          go_roundw
          case rel => exact ⟨j + 1, by omega, by omega, by go_num, by rw [HL.out]; go_num, HS7⟩
          case measure => simp [intOf]; omega
        · have HS7 := Lib.hid (HNO.out w6 HS6.out hb)
          have HL := Lib.hid (HFN.out hb)
          clear HNO HYES HFN HFY HS6 hb
          generalize (flt p os j).length = m at *
          go_wp2
          go_roundw
          case rel => exact ⟨j + 1, by omega, by omega, by go_num, by rw [HL.out], HS7⟩
          case measure => simp [intOf]; omega
      · have : j = os.length := by omega
        subst this
        have hl := HLT.out os.length (by omega) (Nat.le_refl _)
        obtain ⟨xs, h1, h2, h3, h4⟩ := HS.out.list
        obtain ⟨w5, hcl, hg5, hgr⟩ := h1.clear h2.symm hl
        rw [h3] at hg5
        have hrun1 := slice_lowP g os.length cap (flt p os os.length).length w4 hl hcap
        have hrun2 := slice_highP g os.length cap (flt p os os.length).length w5 hl hcap
        have HR : Hid (DelRet lo W3 (flt p os os.length) (.returned (.slice (some ⟨g, 0, none⟩) (flt p os os.length).length cap)) w5) :=
          ⟨_, _, rfl, HS.out.wrote.trans ⟨hgr.os, hgr.tape, hgr.output, hgr.size, fun k hk hs => hgr.block k hk (by simp only [ne_eq, Option.some.injEq]; rintro rfl; exact hs hlg)⟩, hg5.own⟩
        clear HS h1 h2 h3 h4 hg5 hgr
        generalize hm : (flt p os os.length).length = m at *
        clear hm
        go_wp2
        go_ret
        exact HR.out
set_option maxRecDepth 5000 in
set_option maxHeartbeats 1600000 in
theorem spotsOwn_any (b ab W H : Nat) (l : List Bool) (w : World) (hW : W ≤ 64) (hH : H ≤ 64) (hI : Img w b ab W H l) :
    Calls Try.prog 82 #[.pointer (some ⟨b, 0, none⟩)] w fun e w' => ∃ v, e = .returned v ∧ w.Ext w' ∧ GrowP w.heap.size 80 w' v (spotsTo W l (H * W)) := by
  obtain ⟨W0, hW0⟩ : ∃ W0, W0 = ((w.alloc (.cells #[.pointer (some ⟨b, 0, none⟩)] 68)).alloc (.cells #[] 80)).alloc (.cells #[.slice (some ⟨w.heap.size + 1, 0, none⟩) 0 0] 41) := ⟨_, rfl⟩
  have hx0 : w.Ext W0 := by rw [hW0]; repeat (first | exact World.Ext.refl _ | exact ⟨_, rfl⟩ | assumption | refine World.Ext.over ?_ _ | refine World.Ext.drewN ?_ _ | refine World.Ext.drew ?_ | refine World.Ext.alloc ?_ _ | refine World.Ext.setCell ?_ (by simp) _)
  have h1 : One W0 w.heap.size 68 (.pointer (some ⟨b, 0, none⟩)) := by
    rw [hW0]
    exact ((One.new w _ _ _ rfl).ext ((World.Ext.refl _).alloc _)).ext ((World.Ext.refl _).alloc _)
  have h3 : One W0 (w.heap.size + 1 + 1) 41 (.slice (some ⟨w.heap.size + 1, 0, none⟩) 0 0) := by
    rw [hW0]
    exact One.new _ _ _ _ (by simp)
  have hg : GrowP w.heap.size 80 W0 (.slice (some ⟨w.heap.size + 1, 0, none⟩) 0 0) [] := by
    rw [hW0]
    have h := (GrowP.empty (lo := w.heap.size) (e := 80) (w.alloc (.cells #[.pointer (some ⟨b, 0, none⟩)] 68)) (by simp)).ext ((World.Ext.refl _).alloc (.cells #[.slice (some ⟨w.heap.size + 1, 0, none⟩) 0 0] 41))
    simpa using h
  have key := each_any b 134 W H #[.pointer (some ⟨w.heap.size, 0, none⟩), .pointer (some ⟨w.heap.size + 1 + 1, 0, none⟩)] (fun k w' => SpSt w w.heap.size (w.heap.size + 1 + 1) b W l k w') W0 hW hH enters_spots1
    (fun k w' h => ⟨(hI.ext h.x).c0, (hI.ext h.x).c1⟩)
    (fun x y w' hx hy h => spots1_any w _ _ b ab W H l x y w' hW hH hI hx hy (by omega) (by omega) h)
    ⟨hx0, h1, _, h3, hg⟩
  have HK := Lib.hid key
  clear key hI hx0 h1 h3 hg
  go_enter Try.func82, Try.ntmps82
  go_wp2_with fail
  rw [← hW0]
  refine HK.out.mono ?_
  rintro e w2 ⟨rfl, hS⟩
  obtain ⟨hX, h1, v, hv, hg⟩ := hS
  have c3 := hv.cell
  have HX := Lib.hid hX
  have HG := Lib.hid hg
  clear hX h1 hv hg hW0 HK
  go_wp2
  go_ret
  exact ⟨v, rfl, HX.out, HG.out⟩
/-- Is a pixel no end? -/
def notEnd (px : Int → Int → Bool) (q : Int × Int) : Bool := (nearN px q.1 q.2 : Int) != 1
def endsL (ss : List ByteArray) : List (Int × Int) := (spotsTo (picW ss) (picL ss) (ss.length * picW ss)).filter fun s => !notEnd (pxl (picW ss) ss.length (picL ss)) s
def optP (ok : Bool) (ps : List (Int × Int)) : List (Int × Int) := if ok then ps else []
def PairsRet2 (w : World) (ps : List (Int × Int)) (ok : Bool) (e : Ending) (w' : World) : Prop := ∃ a c, e = .returned (.tuple #[.slice a ps.length c, .bool ok]) ∧ w.Ext w' ∧ OwnP w.heap.size w'.heap.size w' a ps
theorem ends_bnd (ss : List ByteArray) : (optP (picOk ss) (endsL ss)).length ≤ 262144 := by
  cases h : picOk ss
  · simp [optP]
  · obtain ⟨v1, v2, v3, v4, -, -⟩ := picOk_spec h
    have h1 := spotsTo_few (W := picW ss) (H := ss.length) (l := picL ss) (by omega) (by omega)
    have h2 : (endsL ss).length ≤ _ := List.length_filter_le _ _
    show (endsL ss).length ≤ _
    omega
set_option maxRecDepth 5000 in
set_option maxHeartbeats 800000 in
theorem ends1_any (p b ab W H : Nat) (l : List Bool) (x y : Int) (w : World) (hW : W ≤ 64) (hH : H ≤ 64) (hx : -1000 ≤ x ∧ x ≤ 1000) (hy : -1000 ≤ y ∧ y ≤ 1000) (hp : w.cell? ⟨p, 0, none⟩ = some (.pointer (some ⟨b, 0, none⟩))) (hI : Img w b ab W H l) :
    Calls Try.prog 83 #[.agg #[.int .i64 x, .int .i64 y], .pointer (some ⟨p, 0, none⟩)] w fun e w' => e = .returned (.bool (notEnd (pxl W H l) (x, y))) ∧ w.Ext w' := by
  obtain ⟨W0, hW0⟩ : ∃ W0, W0 = w.alloc (.cells #[.int .i64 x, .int .i64 y] 80) := ⟨_, rfl⟩
  have hx0 : w.Ext W0 := by rw [hW0]; repeat (first | exact World.Ext.refl _ | exact ⟨_, rfl⟩ | assumption | refine World.Ext.over ?_ _ | refine World.Ext.drewN ?_ _ | refine World.Ext.drew ?_ | refine World.Ext.alloc ?_ _ | refine World.Ext.setCell ?_ (by simp) _)
  have HC := Lib.hid (company_any b ab W H l x y W0 hW hH (hI.ext hx0) hx hy)
  have hl := World.block_lt_of_cell? _ _ hp
  have HX0 := Lib.hid hx0
  unfold notEnd
  dsimp only
  clear hI hx0
  generalize nearN (pxl W H l) x y = n at *
  go_enter Try.func83, Try.ntmps83
  go_wp2_with fail
  rw [← hW0]
  clear hW0
  refine HC.out.mono ?_
  rintro e w1 ⟨rfl, hx1⟩
  have HX := Lib.hid (HX0.out.trans hx1)
  clear hx1
  go_wp2
  go_ret
  exact ⟨rfl, HX.out⟩
theorem enters_ends1 : Enters 83 := enters_of Try.func83 (by kernel_rfl) (by kernel_rfl)
set_option maxRecDepth 5000 in
set_option maxHeartbeats 1600000 in
theorem implEnds_any (a : Option Addr) (c : Nat) (ss : List ByteArray) (w : World) (hb : PicBnd ss) (hm : RowS w a ss) :
    Calls Try.prog 34 #[.agg #[.slice a ss.length c]] w (PairsRet2 w (optP (picOk ss) (endsL ss)) (picOk ss)) := by
  obtain ⟨W0, hW0⟩ : ∃ W0, W0 = w.alloc (.cells #[.slice a ss.length c] 29) := ⟨_, rfl⟩
  have hx0 : w.Ext W0 := by rw [hW0]; repeat (first | exact World.Ext.refl _ | exact ⟨_, rfl⟩ | assumption | refine World.Ext.over ?_ _ | refine World.Ext.drewN ?_ _ | refine World.Ext.drew ?_ | refine World.Ext.alloc ?_ _ | refine World.Ext.setCell ?_ (by simp) _)
  have HIO : Hid (Calls Try.prog 60 #[.agg #[.slice a ss.length c]] W0 (ImgOf W0 ss (picOk ss))) := imageOf_any a c ss W0 hb.1 hb.2 (hm.ext hx0) _ rfl
  have HX0 := Lib.hid hx0
  cases h : picOk ss
  · rw [h] at HIO
    clear hb hm hx0 h
    show Calls _ _ _ _ (PairsRet2 w [] false)
    go_enter Try.func34, Try.ntmps34
    go_wp2_with fail
    rw [← hW0]
    refine HIO.out.mono ?_
    rintro e w1 ⟨rfl, hx1⟩
    have HR : Hid (∀ W1 : World, w1.Ext W1 → PairsRet2 w [] false (.returned (.tuple #[.slice none 0 0, .bool false])) W1) := fun W1 hx => ⟨none, 0, rfl, (HX0.out.trans hx1).trans hx, OwnOf.nil _ _⟩
    clear hx1 hW0
    go_wp2
    go_ret2
    exact HR.out _ (by repeat (first | exact World.Ext.refl _ | exact ⟨_, rfl⟩ | assumption | refine World.Ext.over ?_ _ | refine World.Ext.drewN ?_ _ | refine World.Ext.drew ?_ | refine World.Ext.alloc ?_ _ | refine World.Ext.setCell ?_ (by simp) _))
  · rw [h] at HIO
    obtain ⟨v1, v2, v3, v4, e1, -⟩ := picOk_spec h
    have hfew := spotsTo_few (W := picW ss) (H := ss.length) (l := picL ss) (by omega) (by omega)
    have hbnd := spotsTo_bnd (W := picW ss) (H := ss.length) (l := picL ss) (by omega) (by omega)
    have HSP : Hid (∀ w' b ab, Img w' b ab (picW ss) ss.length (picL ss) → Calls Try.prog 82 #[.pointer (some ⟨b, 0, none⟩)] w' fun e w'' => ∃ v, e = .returned v ∧ w'.Ext w'' ∧ GrowP w'.heap.size 80 w'' v (spotsTo (picW ss) (picL ss) (ss.length * picW ss))) := fun w' b ab hI => spotsOwn_any b ab _ _ _ w' (by omega) (by omega) hI
    have HDF : Hid (∀ (lo : Nat) (v : Value) (W3 : World) (p4 b ab : Nat), p4 < lo → b < lo → ab < lo → GrowP lo 80 W3 v (spotsTo (picW ss) (picL ss) (ss.length * picW ss)) → W3.cell? ⟨p4, 0, none⟩ = some (.pointer (some ⟨b, 0, none⟩)) → Img W3 b ab (picW ss) ss.length (picL ss) →
        Calls Try.prog 81 #[v, .func (.func 83) #[] #[.pointer (some ⟨p4, 0, none⟩)]] W3 (DelRet lo W3 (endsL ss))) := fun lo v W3 p4 b ab h1 h2 h3 hg hc hI =>
      deleteFunc_any lo v _ 83 #[.pointer (some ⟨p4, 0, none⟩)] (notEnd (pxl (picW ss) ss.length (picL ss))) W3 enters_ends1 (by omega) hg (fun w' hw i hi => by
        have hq := hbnd _ (getD_mem hi)
        exact ends1_any p4 b ab _ _ _ _ _ w' (by omega) (by omega) (by omega) (by omega) (hw.cell hc (by dsimp only; omega)) (hI.keep (hw.block b hI.lt (by omega)) (hw.block ab hI.px.lt (by omega))))
    clear hb hm hx0 h e1 v1 v2 v3 v4 hfew hbnd
    show Calls _ _ _ _ (PairsRet2 w (endsL ss) true)
    generalize spotsTo (picW ss) (picL ss) (ss.length * picW ss) = S at *
    generalize endsL ss = R at *
    go_enter Try.func34, Try.ntmps34
    go_wp2_with fail
    rw [← hW0]
    refine HIO.out.mono ?_
    rintro e w1 ⟨b1, ab1, rfl, hx1, hi1, -, -⟩
    obtain ⟨w2, hw2⟩ : ∃ w2, w2 = w1.alloc (.cells #[.pointer (some ⟨b1, 0, none⟩)] 68) := ⟨_, rfl⟩
    have hx2 : w1.Ext w2 := by rw [hw2]; repeat (first | exact World.Ext.refl _ | exact ⟨_, rfl⟩ | assumption | refine World.Ext.over ?_ _ | refine World.Ext.drewN ?_ _ | refine World.Ext.drew ?_ | refine World.Ext.alloc ?_ _ | refine World.Ext.setCell ?_ (by simp) _)
    have c4 : w2.cell? ⟨w1.heap.size, 0, none⟩ = some (.pointer (some ⟨b1, 0, none⟩)) := by rw [hw2]; simp [go_sem]
    have HI2 := Lib.hid (hi1.ext hx2)
    have HX2 := Lib.hid (HX0.out.trans (hx1.trans hx2))
    have q1 : w1.heap.size < w2.heap.size := World.block_lt_of_cell? _ _ c4
    have q2 := HI2.out.lt
    have q3 := HI2.out.px.lt
    have HC4 := Lib.hid c4
    clear hi1 hx1 hx2 c4 hW0
    go_wp2_with fail
    rw [← hw2]
    clear hw2
    refine (HSP.out w2 b1 ab1 HI2.out).mono ?_
    rintro e w3 ⟨v3, rfl, hx3, hg3⟩
    have HD := Lib.hid (HDF.out w2.heap.size v3 w3 w1.heap.size b1 ab1 q1 q2 q3 hg3 (hx3.cell HC4.out) (HI2.out.ext hx3))
    have HX3 := Lib.hid (HX2.out.trans hx3)
    have hs2 : w.heap.size ≤ w2.heap.size := HX2.out.size
    clear hx3 hg3
    go_wp2_with fail
    refine HD.out.mono ?_
    rintro e w4 ⟨a4, c4, rfl, hw4, ho4⟩
    have HR : Hid (PairsRet2 w R true (.returned (.tuple #[.slice a4 R.length c4, .bool true])) w4) := ⟨a4, c4, rfl, HX3.out.wroteNew hw4 (fun k hk => by omega), ho4.mono hs2 (Nat.le_refl _)⟩
    clear hw4 ho4
    go_wp2
    go_ret2
    exact HR.out
set_option maxRecDepth 5000 in
set_option maxHeartbeats 1600000 in
theorem specEnds_any (a : Option Addr) (c : Nat) (ss : List ByteArray) (w : World) (hb : PicBnd ss) (hm : RowS w a ss) :
    Calls Try.prog 33 #[.agg #[.slice a ss.length c]] w (PairsRet2 w (optP (picOk ss) (endsL ss)) (picOk ss)) := by
  obtain ⟨i0, hi, hz0, hz1, hz2⟩ := info_parts Try.infoSpotA
  obtain ⟨W0, hW0⟩ : ∃ W0, W0 = w.alloc (.cells #[.slice a ss.length c] 29) := ⟨_, rfl⟩
  have hx0 : w.Ext W0 := by rw [hW0]; repeat (first | exact World.Ext.refl _ | exact ⟨_, rfl⟩ | assumption | refine World.Ext.over ?_ _ | refine World.Ext.drewN ?_ _ | refine World.Ext.drew ?_ | refine World.Ext.alloc ?_ _ | refine World.Ext.setCell ?_ (by simp) _)
  have d0 : W0.cell? ⟨w.heap.size, 0, none⟩ = some (.slice a ss.length c) := by rw [hW0]; simp [go_sem]
  have HI : Hid (Calls Try.prog 78 #[.pointer (some ⟨w.heap.size, 0, none⟩)] W0 fun e w' => e = .returned (.bool (picOk ss)) ∧ W0.Ext w') := l01Is_any _ a c ss W0 hb.1 hb.2 d0 (hm.ext hx0) _ rfl
  have HX0 := Lib.hid hx0
  cases h : picOk ss
  · rw [h] at HI
    clear hb hm hx0 d0 h
    show Calls _ _ _ _ (PairsRet2 w [] false)
    go_enter Try.func33, Try.ntmps33
    go_wp2_with fail
    rw [← hW0]
    refine HI.out.mono ?_
    rintro e w1 ⟨rfl, hx1⟩
    have HR : Hid (PairsRet2 w [] false (.returned (.tuple #[.slice none 0 0, .bool false])) w1) := ⟨none, 0, rfl, HX0.out.trans hx1, OwnOf.nil _ _⟩
    clear hx1 hW0
    go_wp2
    go_ret2
    exact HR.out
  · rw [h] at HI
    obtain ⟨v1, v2, v3, v4, e1, -⟩ := picOk_spec h
    have HSP : Hid (∀ w', W0.Ext w' → Calls Try.prog 79 #[.pointer (some ⟨w.heap.size, 0, none⟩)] w' (PairsRet w' (spotsTo (picW ss) (picL ss) (ss.length * picW ss)))) := fun w' hx => l01Spots_any _ a c ss w' e1 (by omega) (by omega) (hx.cell d0) ((hm.ext hx0).ext hx)
    have hfew := spotsTo_few (W := picW ss) (H := ss.length) (l := picL ss) (by omega) (by omega)
    have HBN := Lib.hid (spotsTo_bnd (W := picW ss) (H := ss.length) (l := picL ss) (by omega) (by omega))
    have HNR : Hid (∀ w' (x y : Int), W0.Ext w' → (-1000 ≤ x ∧ x ≤ 1000) → (-1000 ≤ y ∧ y ≤ 1000) → Calls Try.prog 80 #[.pointer (some ⟨w.heap.size, 0, none⟩), .int .i64 x, .int .i64 y] w' fun e w'' => e = .returned (.int .i64 (nearN (pxl (picW ss) ss.length (picL ss)) x y)) ∧ w'.Ext w'') := fun w' x y hx h1 h2 => l05Near_any _ a c ss x y w' e1 (by omega) (by omega) (hx.cell d0) ((hm.ext hx0).ext hx) h1 h2
    show Calls _ _ _ _ (PairsRet2 w (endsL ss) true)
    have hall : endsL ss = flt (notEnd (pxl (picW ss) ss.length (picL ss))) (spotsTo (picW ss) (picL ss) (ss.length * picW ss)) (spotsTo (picW ss) (picL ss) (ss.length * picW ss)).length := (flt_all _ _).symm
    have HNE : Hid (∀ x y, notEnd (pxl (picW ss) ss.length (picL ss)) (x, y) = ((nearN (pxl (picW ss) ss.length (picL ss)) x y : Int) != 1)) := fun x y => rfl
    rw [hall]
    clear hb hm hx0 d0 h e1 v1 v2 v3 v4 hall
    generalize notEnd (pxl (picW ss) ss.length (picL ss)) = P at *
    generalize nearN (pxl (picW ss) ss.length (picL ss)) = NN at *
    generalize spotsTo (picW ss) (picL ss) (ss.length * picW ss) = S at *
    go_enter Try.func33, Try.ntmps33
    go_wp2_with fail
    rw [← hW0]
    refine HI.out.mono ?_
    rintro e w1 ⟨rfl, hx1⟩
    go_wp2_with fail
    refine (HSP.out w1 hx1).mono ?_
    rintro e w2 ⟨sa, sc, rfl, hx2, ho2⟩
    have HROW := Lib.hid ho2.row
    have HX2 := Lib.hid (hx1.trans hx2)
    have HST : Hid (ArSt w2 (.slice (some ⟨w2.heap.size, 0, none⟩) 0 0) (flt P S 0) (w2.alloc (.cells #[] 80))) := ⟨by repeat (first | exact World.Ext.refl _ | exact ⟨_, rfl⟩ | assumption | refine World.Ext.over ?_ _ | refine World.Ext.drewN ?_ _ | refine World.Ext.drew ?_ | refine World.Ext.alloc ?_ _ | refine World.Ext.setCell ?_ (by simp) _), GrowP.empty (e := 80) w2 (Nat.le_refl _)⟩
    clear hx1 hx2 ho2 hW0
    go_wp2
    go_loopw [5, 6] (fun v m wr => ∃ k : Nat, k ≤ S.length ∧ m = .int .i64 k ∧ Hid (ArSt w2 v (flt P S k) wr)) (fun _ m _ => S.length - (intOf m).toNat)
    case atStart => exact ⟨0, Nat.zero_le _, rfl, HST⟩
    case round =>
      obtain ⟨k, hk, rfl, HS⟩ := hrel
      clear HST
      obtain ⟨w3, rfl⟩ : ∃ w3 : World, w3 = wr := ⟨_, rfl⟩
      by_cases hltk : k < S.length
      · have hltk' : (k : Int) < (S.length : Int) := by omega
        have hk0 : (0 : Int) ≤ (k : Int) := by omega
        obtain ⟨b0, o0, rfl, c0, c1⟩ := HROW.out.at hltk
        have hq := HBN.out _ (getD_mem hltk)
        have HNO : Hid (P (S.getD k (0, 0)) = true → flt P S (k + 1) = flt P S k) := flt_no hltk
        have HYES : Hid (P (S.getD k (0, 0)) = false → flt P S (k + 1) = flt P S k ++ [S.getD k (0, 0)]) := flt_yes hltk
        have hfl := flt_len P S k
        have HB1 : Hid ((flt P S k).length + 1 ≤ maxLen) := by show _ ≤ _; unfold maxLen; omega
        have HB2 : Hid (((flt P S k).length + 1) * 16 ≤ 140737488355328) := by show _ ≤ _; omega
        generalize S.getD k (0, 0) = s at c0 c1 hq HNO HYES
        obtain ⟨x, y⟩ := s
        dsimp only at c0 c1 hq
        have hne := HNE.out x y
        have HC : Hid (∀ x1, Calls Try.prog 80 #[.pointer (some ⟨w.heap.size, 0, none⟩), .int .i64 x, .int .i64 y] (w3.over x1) fun e w'' => e = .returned (.int .i64 (NN x y)) ∧ (w3.over x1).Ext w'') := fun x1 => HNR.out _ x y ((HX2.out.trans HS.out.1).trans ⟨x1, rfl⟩) (by omega) (by omega)
        have HC0 : Hid (∀ wr, w2.Ext wr → wr.cell? ⟨b0, o0 + k * 2, none⟩ = some (.int .i64 x) ∧ wr.cell? ⟨b0, o0 + k * 2 + 1, none⟩ = some (.int .i64 y)) := fun wr hx => ⟨hx.cell c0, hx.cell c1⟩
        clear c0 c1 hfl hq
        obtain ⟨c0, c1⟩ := HC0.out w3 HS.out.1
        generalize (NN x y : Int) = n at *
        by_cases h1 : n = 1
        · have f1 : (n == 1) = true := by simp; omega
          have hp : P (x, y) = false := by rw [hne]; unfold bne; rw [f1]; rfl
          have HQ := Lib.hid (HYES.out hp)
          clear HNO HYES h1 hp hne
          go_wp2_with fail
          refine wp_region_over_lit (by kernel_rfl) (by kernel_rfl) ?_; (repeat (go_big_quiet_step ((go_at_call 80; exact Calls.over_of (HC.out _))))); refine wpQuiet_nil ?_; rintro _ ⟨x1, rfl⟩
          have HS2 := Lib.hid (HS.out.ext ⟨x1, rfl⟩)
          clear HS HC
          generalize w3.over x1 = w4 at *
          clear c0 c1
          obtain ⟨c0, c1⟩ := HC0.out w4 HS2.out.1
          have HNEXT : Hid (∀ (o : Obj) (v' : Value) (w1 : World), (w4.alloc o).grownBy w1 u5.ownBlock → w1.ownsRow w2.heap.size 80 2 v' ((flt P S k).length + 1) ((flatP (flt P S k)).map (Value.int .i64) ++ [.int .i64 x, .int .i64 y]) → Hid (ArSt w2 v' (flt P S (k + 1)) w1)) := fun o v' w1 hgrow hown' => ArSt.next HS2.out HQ.out hgrow hown'
          have hown := HS2.out.2
          unfold GrowP at hown
          have HLE : ∀ o' : Obj, w2.heap.size ≤ (w4.alloc o').heap.size := fun o' => (HS2.out.1.alloc o').size
          clear HS2 HQ HC0
          generalize flt P S k = ps at *
          go_wp2_with (at_builtin; refine wpList_append_own _ rfl _ _ 41 rfl w2.heap.size 80 i0 (.agg #[.int .i64 0, .int .i64 0]) 2 16 Try.underlying41 hi hz0 hz1 hz2 rfl (by decide) _ _ _ rfl (hown.alloc _) ⟨w4.heap.size, 0, none⟩ 1 1 [.int .i64 x, .int .i64 y] rfl rfl (cell_two_at (by simp)) (by simp [Value.oneCell']) HB1.out HB2.out (HLE _) (fun v' w1 hown' hgrow _ => ?_); have HS9 := HNEXT.out _ _ _ hgrow hown'; clear hgrow hown' hown c0 c1)
          go_roundw
          case rel => exact ⟨k + 1, by omega, by go_num, HS9⟩
          case measure => simp [intOf]; omega
        · have f1 : (n == 1) = false := by simp; omega
          have hp : P (x, y) = true := by rw [hne]; unfold bne; rw [f1]; rfl
          have HQ := Lib.hid (HNO.out hp)
          clear HNO HYES h1 hp hne
          go_wp2_with fail
          refine wp_region_over_lit (by kernel_rfl) (by kernel_rfl) ?_; (repeat (go_big_quiet_step ((go_at_call 80; exact Calls.over_of (HC.out _))))); refine wpQuiet_nil ?_; rintro _ ⟨x1, rfl⟩
          have hS2 := HS.out.ext (show w3.Ext (w3.over x1) from ⟨x1, rfl⟩)
          rw [← HQ.out] at hS2
          have HS2 := Lib.hid hS2
          clear HS HC hS2 c0 c1 HC0
          generalize w3.over x1 = w4 at *
          go_wp2
          go_roundw
          case rel => exact ⟨k + 1, by omega, by go_num, HS2⟩
          case measure => simp [intOf]; omega
      · have : k = S.length := by omega
        subst this
        obtain ⟨a5, c5, rfl, _⟩ := HS.out.2.form
        have HR : Hid (PairsRet2 w (flt P S S.length) true (.returned (.tuple #[.slice a5 (flt P S S.length).length c5, .bool true])) w3) := ⟨a5, c5, rfl, HX0.out.trans (HX2.out.trans HS.out.1), (GrowP.own HS.out.2).mono ((HX0.out.trans HX2.out).size) (Nat.le_refl _)⟩
        clear HS
        go_wp2
        go_ret2
        exact HR.out
end Go.Proofs.Ytlnklcjnjfmknaa
