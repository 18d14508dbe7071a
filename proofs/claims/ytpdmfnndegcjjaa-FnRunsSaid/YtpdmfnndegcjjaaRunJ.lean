/- A picture of runs: the program and the reference. -/
import Derived.Test.YtpdmfnndegcjjaaRunI
import Derived.Test.YtpdmfnndegcjjaaRecP
import Derived.IntWalk
namespace Go.Proofs.Ytpdmfnndegcjjaa
open Go Go.RowKit
theorem all_false_at {W H : Int} {m : List (List Int)} {k : Nat} (hk : k < m.length) (h : runGood W H (m.getD k []) = false) : m.all (runGood W H) = false := by
  rw [Bool.eq_false_iff]
  intro h2
  rw [List.all_eq_true] at h2
  have := h2 (m.getD k []) (by rw [List.getD_eq_getElem?_getD, List.getElem?_eq_getElem hk]; exact List.getElem_mem hk)
  rw [h] at this
  cases this
theorem all_true_at {W H : Int} {m : List (List Int)} (h : ∀ k, k < m.length → runGood W H (m.getD k []) = true) : m.all (runGood W H) = true := by
  rw [List.all_eq_true]
  intro r hr
  obtain ⟨i, hi, e⟩ := List.getElem_of_mem hr
  have := h i hi
  rw [List.getD_eq_getElem?_getD, List.getElem?_eq_getElem hi] at this
  rw [← e]
  exact this
theorem porOk_size {i0 i1 : Int} {m : List (List Int)} (h : sizeB i0 i1 = false) : porOk i0 i1 m = false := by
  unfold porOk
  unfold sizeB at h
  rw [h, Bool.false_and]
theorem porOk_bad {W H : Nat} {m : List (List Int)} {k : Nat} (hk : k < m.length) (h : runGood W H (m.getD k []) = false) : porOk W H m = false := by
  unfold porOk runsOkB
  simp only [Int.toNat_natCast]
  rw [all_false_at hk h, Bool.false_and, Bool.and_false]
theorem porOk_all {W H : Nat} {m : List (List Int)} (hs : sizeB W H = true) (h : ∀ k, k < m.length → runGood W H (m.getD k []) = true) : porOk W H m = decide (runsTo W (paintTo W H m m.length) (H * W) = m) := by
  unfold porOk runsOkB
  unfold sizeB at hs
  simp only [Int.toNat_natCast]
  rw [all_true_at h, hs, Bool.true_and, Bool.true_and]
theorem porRows_no {i0 i1 : Int} {m : List (List Int)} (h : porOk i0 i1 m = false) : porRows i0 i1 m = [] := by unfold porRows; rw [h]; rfl
theorem porRows_yes {W H : Nat} {m : List (List Int)} (h : porOk W H m = true) : porRows W H m = picRows W H (paintTo W H m m.length) := by unfold porRows; rw [h]; rfl
theorem porRows_bnd (i0 i1 : Int) (m : List (List Int)) : (porRows i0 i1 m).length ≤ 1048576 := by
  unfold porRows
  split
  · rename_i h
    unfold porOk at h
    rw [Bool.and_eq_true, Bool.and_eq_true, inB_true, inB_true] at h
    rw [picRows_len]
    omega
  · simp
theorem runsTo_rowlen (W : Nat) (l : List Bool) (k r : Nat) : ((runsTo W l k).getD r []).length ≤ maxLen := by
  by_cases h : r < (runsTo W l k).length
  · have hm : (runsTo W l k).getD r [] ∈ runsTo W l k := by
      rw [List.getD_eq_getElem?_getD, List.getElem?_eq_getElem h]
      exact List.getElem_mem _
    obtain ⟨a, b, c, e, -⟩ := runsTo_fit W l k _ hm
    rw [e]
    unfold maxLen
    simp
  · rw [List.getD_eq_getElem?_getD, List.getElem?_eq_none (by omega)]
    simp
theorem runAt_nat {W a b c : Nat} : runAt W [(a : Int), (b : Int), (c : Int)] = a * W + b := by
  unfold runAt
  simp only [List.getD_cons_zero, List.getD_cons_succ]
  rw [← Int.natCast_mul, ← Int.natCast_add, Int.toNat_natCast]
theorem paintTo_next {W H : Nat} {m : List (List Int)} {k a b c : Nat} (h : m.getD k [] = [(a : Int), (b : Int), (c : Int)]) : paintTo W H m (k + 1) = paintRun (paintTo W H m k) (a * W + b) c := by
  show paintRun (paintTo W H m k) (runAt W (m.getD k [])) ((m.getD k []).getD 2 0).toNat = _
  rw [h, runAt_nat]
  rfl
/-- How a run is bad. -/
theorem runGood_cases {W H : Nat} (r : List Int) (h : runGood W H r = false) :
    r.length ≠ 3 ∨ ∃ z0 z1 z2 : Int, r = [z0, z1, z2] ∧ (inB z0 0 ((H : Int) - 1) = false ∨ inB z0 0 ((H : Int) - 1) = true ∧ inB z1 0 ((W : Int) - 1) = false ∨ inB z0 0 ((H : Int) - 1) = true ∧ inB z1 0 ((W : Int) - 1) = true ∧ inB z2 1 ((W : Int) - z1) = false) ∧
      (inB z2 1 16 = false ∨ inB z2 1 16 = true ∧ hasB W H z1 z0 = false ∨ inB z2 1 16 = true ∧ hasB W H z1 z0 = true ∧ hasB W H (z1 + z2 - 1) z0 = false) := by
  by_cases hl : r.length = 3
  · right
    match r, hl with
    | [z0, z1, z2], _ =>
      refine ⟨z0, z1, z2, rfl, ?_, ?_⟩
      · cases h1 : inB z0 0 ((H : Int) - 1)
        · exact .inl rfl
        · cases h2 : inB z1 0 ((W : Int) - 1)
          · exact .inr (.inl ⟨rfl, rfl⟩)
          · refine .inr (.inr ⟨rfl, rfl, ?_⟩)
            unfold runGood at h
            simp only [List.getD_cons_zero, List.getD_cons_succ, List.length_cons, List.length_nil] at h
            rw [h1, h2] at h
            simpa using h
      · cases h1 : inB z2 1 16
        · exact .inl rfl
        · cases h2 : hasB W H z1 z0
          · exact .inr (.inl ⟨rfl, rfl⟩)
          · refine .inr (.inr ⟨rfl, rfl, ?_⟩)
            rw [Bool.eq_false_iff]
            intro h3
            have h2 := hasB_true.1 h2
            have h3 := hasB_true.1 h3
            have h1 := inB_true.1 h1
            unfold runGood at h
            simp only [List.getD_cons_zero, List.getD_cons_succ, List.length_cons, List.length_nil] at h
            rw [inB_true.2 ⟨h2.2.2.1, by omega⟩, inB_true.2 ⟨h2.1, by omega⟩, inB_true.2 ⟨h1.1, by omega⟩] at h
            simp at h
  · exact .inl hl
theorem enters_runs1 : Enters 224 := enters_of Try.func224 (by kernel_rfl) (by kernel_rfl)
set_option maxRecDepth 5000 in
set_option maxHeartbeats 1600000 in
theorem runs_any (b ab W H : Nat) (l : List Bool) (w : World) (hW : W ≤ 64) (hH : H ≤ 64) (hI : Img w b ab W H l) :
    Calls Try.prog 145 #[.pointer (some ⟨b, 0, none⟩)] w (MatRet w (runsTo W l (H * W))) := by
  obtain ⟨W0, hW0⟩ : ∃ W0, W0 = ((w.alloc (.cells #[.pointer (some ⟨b, 0, none⟩)] 121)).alloc (.cells #[] 37)).alloc (.cells #[.slice (some ⟨w.heap.size + 1, 0, none⟩) 0 0] 33) := ⟨_, rfl⟩
  have hx0 : w.Ext W0 := by rw [hW0]; repeat (first | exact World.Ext.refl _ | exact ⟨_, rfl⟩ | assumption | refine World.Ext.over ?_ _ | refine World.Ext.drewN ?_ _ | refine World.Ext.drew ?_ | refine World.Ext.alloc ?_ _ | refine World.Ext.setCell ?_ (by simp) _)
  have h1 : One W0 w.heap.size 121 (.pointer (some ⟨b, 0, none⟩)) := by
    rw [hW0]
    exact ((One.new w _ _ _ rfl).ext ((World.Ext.refl _).alloc _)).ext ((World.Ext.refl _).alloc _)
  have h3 : One W0 (w.heap.size + 1 + 1) 33 (.slice (some ⟨w.heap.size + 1, 0, none⟩) 0 0) := by
    rw [hW0]
    exact One.new _ _ _ _ (by simp)
  have hg : MatSt w [] (.slice (some ⟨w.heap.size + 1, 0, none⟩) 0 0) W0 := by
    rw [hW0]
    have h := (MatSt.start (w := w) (w1 := w.alloc (.cells #[.pointer (some ⟨b, 0, none⟩)] 121)) (by repeat (first | exact World.Ext.refl _ | exact ⟨_, rfl⟩ | assumption | refine World.Ext.over ?_ _ | refine World.Ext.drewN ?_ _ | refine World.Ext.drew ?_ | refine World.Ext.alloc ?_ _ | refine World.Ext.setCell ?_ (by simp) _))).ext ((World.Ext.refl _).alloc (.cells #[.slice (some ⟨w.heap.size + 1, 0, none⟩) 0 0] 33))
    simpa using h
  have key := each_any b 224 W H #[.pointer (some ⟨w.heap.size, 0, none⟩), .pointer (some ⟨w.heap.size + 1 + 1, 0, none⟩)] (fun k w' => RnSt w w.heap.size (w.heap.size + 1 + 1) b W l k w') W0 hW hH enters_runs1
    (fun k w' h => ⟨(hI.ext h.x).c0, (hI.ext h.x).c1⟩)
    (fun x y w' hx hy h => runs1_any w _ _ b ab W H l x y w' hW hH hI hx hy (by omega) (by omega) h)
    ⟨hx0, h1, _, h3, hg⟩
  have HK := Lib.hid key
  clear key hI hx0 h1 h3 hg
  go_enter Try.func145, Try.ntmps145
  go_wp2_with fail
  rw [← hW0]
  refine HK.out.mono ?_
  rintro e w2 ⟨rfl, hS⟩
  obtain ⟨hX, h1, v, hv, hg⟩ := hS
  obtain ⟨a, c, A, C, e, hx, hm⟩ := hg.ret
  simp only [Ending.returned.injEq] at e
  subst e
  have c3 := hv.cell
  have HR : Hid (MatRet w (runsTo W l (H * W)) (.returned (.slice a (runsTo W l (H * W)).length c)) w2) := ⟨a, c, A, C, rfl, hx, hm⟩
  clear hX h1 hv hg hW0 HK hx hm
  go_wp2
  go_ret
  exact HR.out
theorem PicRet2.no {w w' : World} (hx : w.Ext w') : PicRet2 w [] false (.returned (.tuple #[.agg #[.slice none 0 0], .bool false])) w' := ⟨none, 0, rfl, hx, OwnOf.nil _ _⟩
/-- Nothing is stored as a result. -/
theorem One.noPic {w W1 : World} {p : Nat} {T : TypeId} {v0 : Value} (hX : w.Ext W1) (hp : w.heap.size ≤ p) (hone : One W1 p T v0) :
    W1.cell? ⟨p, 0, none⟩ = some v0 ∧ W1.frozen? ⟨p, 0, none⟩ = false ∧ (W1.setCell ⟨p, 0, none⟩ (.slice none 0 0)).cell? ⟨p, 0, none⟩ = some (.slice none 0 0) ∧ Hid (w.Ext (W1.setCell ⟨p, 0, none⟩ (.slice none 0 0))) := by
  obtain ⟨r1, r2, r3, HR⟩ := Res.store (f := Value.string) (d := ByteArray.empty) (a := none) (xs := []) (lo := p + 1) (.slice none 0 0) hX hp hone (by omega) (OwnOf.nil _ _)
  exact ⟨r1, r2, r3, HR.out.1⟩
set_option maxRecDepth 5000 in
set_option maxHeartbeats 8000000 in
theorem implPOR_any (i0 i1 : Int) (a : Option Addr) (c : Nat) (A : Nat → Option Addr) (C : Nat → Nat) (m : List (List Int)) (w : World) (hb : MatBnd m) (hm : MatAt w a A C m) :
    Calls Try.prog 48 #[.int .i64 i0, .int .i64 i1, .slice a m.length c] w (PicRet2 w (porRows i0 i1 m) (porOk i0 i1 m)) := by
  obtain ⟨W0, hW0⟩ : ∃ W0, W0 = w.alloc (.cells #[.slice none 0 0] 26) := ⟨_, rfl⟩
  have hx0 : w.Ext W0 := by rw [hW0]; repeat (first | exact World.Ext.refl _ | exact ⟨_, rfl⟩ | assumption | refine World.Ext.over ?_ _ | refine World.Ext.drewN ?_ _ | refine World.Ext.drew ?_ | refine World.Ext.alloc ?_ _ | refine World.Ext.setCell ?_ (by simp) _)
  have hone : One W0 w.heap.size 26 (.slice none 0 0) := by rw [hW0]; exact One.new _ _ _ _ rfl
  have HX0 := Lib.hid hx0
  have HO := Lib.hid hone
  cases hs : sizeB i0 i1
  · have HSZ := Lib.hid (sizeOk_any i0 i1 W0 false hs)
    have ho := porOk_size (m := m) hs
    rw [porRows_no ho, ho]
    clear hb hm hx0 hone hs ho
    go_enter Try.func48, Try.ntmps48
    go_wp2_with fail
    rw [← hW0]
    clear hW0
    refine HSZ.out.mono ?_
    rintro e w1 ⟨rfl, hx1⟩
    obtain ⟨r1, r2, r3, HR⟩ := One.noPic (HX0.out.trans hx1) (Nat.le_refl _) (HO.out.ext hx1)
    clear hx1
    go_wp2
    exact bodyPost_ret (v := .tuple #[.agg #[.slice none 0 0], .bool false]) (by simp [results, Try.results48, go_sem, r3]) rfl (PicRet2.no HR.out)
  · have hs2 := hs
    unfold sizeB at hs2
    rw [Bool.and_eq_true, inB_true, inB_true] at hs2
    obtain ⟨W, rfl⟩ := Int.eq_ofNat_of_zero_le (show 0 ≤ i0 by omega)
    obtain ⟨H, rfl⟩ := Int.eq_ofNat_of_zero_le (show 0 ≤ i1 by omega)
    obtain ⟨⟨sW1, sW2⟩, sH1, sH2⟩ := hs2
    have HSZ := Lib.hid (sizeOk_any (W : Int) (H : Int) W0 true hs)
    have HBLK : Hid (∀ w', Calls Try.prog 147 #[.int .i64 W, .int .i64 H] w' (ImgRet w' W H (List.replicate (W * H) false))) := fun w' => blank_any W H w' (by omega) (by omega)
    have HALL : Hid ((∀ k, k < m.length → runGood W H (m.getD k []) = true) → porOk W H m = decide (runsTo W (paintTo W H m m.length) (H * W) = m)) := fun h => porOk_all hs h
    have HBAD : Hid (∀ k, k < m.length → runGood W H (m.getD k []) = false → porRows W H m = [] ∧ porOk W H m = false) := fun k hk h => ⟨porRows_no (porOk_bad hk h), porOk_bad hk h⟩
    have HYES : Hid (porOk W H m = true → porRows W H m = picRows W H (paintTo W H m m.length)) := fun h => porRows_yes h
    have HNO : Hid (porOk W H m = false → porRows W H m = []) := fun h => porRows_no h
    have HM := Lib.hid (hm.ext hx0)
    have HIN : Hid (∀ w' z t, inB z 1 16 = t → Calls Try.prog 106 #[.int .i64 z, .int .i64 1, .int .i64 16] w' fun e w'' => e = .returned (.bool t) ∧ w'.Ext w'') := fun w' z t ht => in_any _ _ _ w' t ht
    have HHAS : Hid (∀ w' b ab l x y t, Img w' b ab W H l → hasB W H x y = t → Calls Try.prog 148 #[.pointer (some ⟨b, 0, none⟩), .int .i64 x, .int .i64 y] w' fun e w'' => e = .returned (.bool t) ∧ w'.Ext w'') := fun w' b ab l x y t hI ht => has_any b ab W H l x y w' (by omega) (by omega) hI t ht
    have HRN : Hid (∀ w' b ab l, Img w' b ab W H l → Calls Try.prog 145 #[.pointer (some ⟨b, 0, none⟩)] w' (MatRet w' (runsTo W l (H * W)))) := fun w' b ab l hI => runs_any b ab W H l w' (by omega) (by omega) hI
    have HTD : Hid (∀ w' b ab l, Img w' b ab W H l → Calls Try.prog 105 #[.pointer (some ⟨b, 0, none⟩)] w' (PicVal w' (picRows W H l))) := fun w' b ab l hI => told_any b ab W H l w' (by omega) (by omega) (by omega) hI
    have HPN : Hid (∀ (k a b c : Nat), m.getD k [] = [(a : Int), (b : Int), (c : Int)] → paintTo W H m (k + 1) = paintRun (paintTo W H m k) (a * W + b) c) := fun k a b c h => paintTo_next h
    have HMB := Lib.hid hb
    have hn := hb.1
    have HP0 : Hid (paintTo W H m 0 = List.replicate (W * H) false) := rfl
    have HRL : Hid (∀ l, (runsTo W l (H * W)).length ≤ 4096) := fun l => Nat.le_trans (runsTo_len W l (H * W)) (Nat.mul_le_mul (show H ≤ 64 by omega) (show W ≤ 64 by omega))
    clear hb hm hx0 hone hs
    go_enter Try.func48, Try.ntmps48
    go_wp2_with fail
    rw [← hW0]
    clear hW0
    refine HSZ.out.mono ?_
    rintro e w1 ⟨rfl, hx1⟩
    go_wp2_with fail
    refine (HBLK.out w1).mono ?_
    rintro e w2 ⟨b, ab, rfl, hx2, hi2, hlb, hlab⟩
    have HAB : Hid (W0.heap.size ≤ ab) := Nat.le_trans hx1.size hlab
    have HST : Hid (W0.Ext w2 ∧ Img w2 b ab W H (paintTo W H m 0)) := ⟨hx1.trans hx2, by rw [HP0.out]; exact hi2⟩
    clear hx1 hx2 hi2 hlb hlab HSZ HBLK
    go_wp2
    go_loopw [10, 11, 22] (fun _ _ i wr => ∃ k : Nat, k ≤ m.length ∧ i = .int .i64 k ∧ Hid (∀ r, r < k → runGood W H (m.getD r []) = true) ∧ Hid (W0.Ext wr ∧ Img wr b ab W H (paintTo W H m k))) (fun _ _ i _ => m.length - (intOf i).toNat)
    case atStart => exact ⟨0, Nat.zero_le _, rfl, fun r hr => by omega, HST⟩
    case round =>
      clear HST
      obtain ⟨k, hk, rfl, HK, HS⟩ := hrel
      obtain ⟨wo, rfl⟩ : ∃ wo : World, wo = wr := ⟨_, rfl⟩
      have hk0 : (0 : Int) ≤ (k : Int) := by omega
      by_cases hlt : k < m.length
      · have hlt' : (k : Int) < (m.length : Int) := by omega
        obtain ⟨⟨b1, o1, rfl, hc1⟩, hr1⟩ := (HM.out.ext HS.out.1) k hlt
        have hrl := HMB.out.2 k
        cases hg : runGood W H (m.getD k [])
        · obtain ⟨e1, e2⟩ := HBAD.out k hlt hg
          rw [e1, e2]
          rcases runGood_cases _ hg with hl | ⟨z0, z1, z2, hrow, -, hcs⟩
          · have hne : (((m.getD k []).length : Int) != 3) = true := by
              simp only [bne_iff_ne, ne_eq]
              omega
            clear e1 e2 hg hl hr1 HHAS HRN HTD HIN HPN HALL HYES HNO HBAD HK HAB HRL HM
            generalize (m.getD k []).length = rl at *
            go_wp2_with fail
            refine wp_region_over_lit (by kernel_rfl) (by kernel_rfl) ?_; (repeat (go_big_quiet_step (fail))); refine wpQuiet_nil ?_; rintro _ ⟨x1, rfl⟩
            have HX9 : Hid (W0.Ext (wo.over x1)) := HS.out.1.trans ⟨x1, rfl⟩; obtain ⟨r1, r2, r3, HR⟩ := One.noPic (HX0.out.trans HX9.out) (Nat.le_refl _) (HO.out.ext HX9.out); go_wp2; exact bodyPost_ret (v := .tuple #[.agg #[.slice none 0 0], .bool false]) (by simp [results, Try.results48, go_sem, r3]) rfl (PicRet2.no HR.out)
          · rw [hrow] at hc1 hr1
            obtain ⟨br, or', hA, q0⟩ := hr1 0 (by simp)
            obtain ⟨br1, or1, hA1, q1⟩ := hr1 1 (by simp)
            obtain ⟨br2, or2, hA2, q2⟩ := hr1 2 (by simp)
            rw [hA] at hA1 hA2 hc1
            simp only [Option.some.injEq, Addr.mk.injEq, and_true] at hA1 hA2
            obtain ⟨rfl, rfl⟩ := hA1
            obtain ⟨rfl, rfl⟩ := hA2
            have q0 : wo.cell? ⟨br, or', none⟩ = some (.int .i64 z0) := q0
            have q1 : wo.cell? ⟨br, or' + 1, none⟩ = some (.int .i64 z1) := q1
            have q2 : wo.cell? ⟨br, or' + 2, none⟩ = some (.int .i64 z2) := q2
            have hc1 : wo.cell? ⟨b1, o1 + k, none⟩ = some (.slice (some ⟨br, or', none⟩) 3 (C k)) := hc1
            clear e1 e2 hg hr1 HRN HTD HPN HALL HYES HNO HBAD HK HAB HRL hrow hrl hA HM
            rcases hcs with h1 | ⟨h1, h2⟩ | ⟨h1, h2, h3⟩
            · have HC1 := Lib.hid (fun w' => HIN.out w' z2 _ h1)
              clear h1 HIN HHAS
              go_wp2_with fail
              refine wp_region_over_lit (by kernel_rfl) (by kernel_rfl) ?_; (repeat (go_big_quiet_step ((go_at_call 106; exact Calls.over_of (HC1.out _))))); refine wpQuiet_nil ?_; rintro _ ⟨x1, rfl⟩
              have HX9 : Hid (W0.Ext (wo.over x1)) := HS.out.1.trans ⟨x1, rfl⟩; obtain ⟨r1, r2, r3, HR⟩ := One.noPic (HX0.out.trans HX9.out) (Nat.le_refl _) (HO.out.ext HX9.out); go_wp2; exact bodyPost_ret (v := .tuple #[.agg #[.slice none 0 0], .bool false]) (by simp [results, Try.results48, go_sem, r3]) rfl (PicRet2.no HR.out)
            · have HC1 := Lib.hid (fun w' => HIN.out w' z2 _ h1)
              have HC2 : Hid (∀ w', wo.Ext w' → Calls Try.prog 148 #[.pointer (some ⟨b, 0, none⟩), .int .i64 z1, .int .i64 z0] w' fun e w'' => e = .returned (.bool false) ∧ w'.Ext w'') := fun w' hx => HHAS.out w' b ab _ z1 z0 _ (HS.out.2.ext hx) h2
              clear h1 h2 HIN HHAS
              go_wp2_with fail
              refine wp_region_over_lit (by kernel_rfl) (by kernel_rfl) ?_; (repeat (go_big_quiet_step ((first | (go_at_call 106; exact Calls.over_of (HC1.out _)) | (go_at_call 148; exact Calls.over_of (HC2.out _ ⟨_, rfl⟩)))))); refine wpQuiet_nil ?_; rintro _ ⟨x1, rfl⟩
              have HX9 : Hid (W0.Ext (wo.over x1)) := HS.out.1.trans ⟨x1, rfl⟩; obtain ⟨r1, r2, r3, HR⟩ := One.noPic (HX0.out.trans HX9.out) (Nat.le_refl _) (HO.out.ext HX9.out); go_wp2; exact bodyPost_ret (v := .tuple #[.agg #[.slice none 0 0], .bool false]) (by simp [results, Try.results48, go_sem, r3]) rfl (PicRet2.no HR.out)
            · have HC1 := Lib.hid (fun w' => HIN.out w' z2 _ h1)
              have HC2 : Hid (∀ w' x y, wo.Ext w' → hasB W H x y = true → Calls Try.prog 148 #[.pointer (some ⟨b, 0, none⟩), .int .i64 x, .int .i64 y] w' fun e w'' => e = .returned (.bool true) ∧ w'.Ext w'') := fun w' x y hx h => HHAS.out w' b ab _ x y _ (HS.out.2.ext hx) h
              have HC3 : Hid (∀ w', wo.Ext w' → Calls Try.prog 148 #[.pointer (some ⟨b, 0, none⟩), .int .i64 (z1 + z2 - 1), .int .i64 z0] w' fun e w'' => e = .returned (.bool false) ∧ w'.Ext w'') := fun w' hx => HHAS.out w' b ab _ _ z0 _ (HS.out.2.ext hx) h3
              have HC2' := Lib.hid (fun w' hx => HC2.out w' z1 z0 hx h2)
              have h2 := hasB_true.1 h2
              have h1 := inB_true.1 h1
              have hw1 : IntKind.i64.wrap (z1 + z2) = z1 + z2 := IntWalk.i64_in _ (by omega)
              have hw2 : IntKind.i64.wrap (z1 + z2 - 1) = z1 + z2 - 1 := IntWalk.i64_in _ (by omega)
              clear HIN HHAS h3 HC2
              go_wp2_with fail
              refine wp_region_over_lit (by kernel_rfl) (by kernel_rfl) ?_; (repeat (go_big_quiet_step ((first | (go_at_call 106; exact Calls.over_of (HC1.out _)) | (go_at_call_of 148 (Value.int .i64 z1); exact Calls.over_of (HC2'.out _ ⟨_, rfl⟩)) | (go_at_call 148; exact Calls.over_of (HC3.out _ ⟨_, rfl⟩)))))); refine wpQuiet_nil ?_; rintro _ ⟨x1, rfl⟩
              have HX9 : Hid (W0.Ext (wo.over x1)) := HS.out.1.trans ⟨x1, rfl⟩; obtain ⟨r1, r2, r3, HR⟩ := One.noPic (HX0.out.trans HX9.out) (Nat.le_refl _) (HO.out.ext HX9.out); go_wp2; exact bodyPost_ret (v := .tuple #[.agg #[.slice none 0 0], .bool false]) (by simp [results, Try.results48, go_sem, r3]) rfl (PicRet2.no HR.out)
        · obtain ⟨ra, rb, rc, hrow, g1, g2, g3⟩ := runGood_spec hg
          have HNX := Lib.hid (HPN.out k ra rb rc hrow)
          rw [hrow] at hc1 hr1
          obtain ⟨br, or', hA, q0⟩ := hr1 0 (by simp)
          obtain ⟨br1, or1, hA1, q1⟩ := hr1 1 (by simp)
          obtain ⟨br2, or2, hA2, q2⟩ := hr1 2 (by simp)
          rw [hA] at hA1 hA2 hc1
          simp only [Option.some.injEq, Addr.mk.injEq, and_true] at hA1 hA2
          obtain ⟨rfl, rfl⟩ := hA1
          obtain ⟨rfl, rfl⟩ := hA2
          have q0 : wo.cell? ⟨br, or', none⟩ = some (.int .i64 ra) := q0
          have q1 : wo.cell? ⟨br, or' + 1, none⟩ = some (.int .i64 rb) := q1
          have q2 : wo.cell? ⟨br, or' + 2, none⟩ = some (.int .i64 rc) := q2
          have hc1 : wo.cell? ⟨b1, o1 + k, none⟩ = some (.slice (some ⟨br, or', none⟩) 3 (C k)) := hc1
          have HK2 : Hid (∀ r, r < k + 1 → runGood W H (m.getD r []) = true) := fun r hr => by
            by_cases e : r = k
            · rw [e]; exact hg
            · exact HK.out r (by omega)
          have HC1 := Lib.hid (fun w' => HIN.out w' (rc : Int) true (inB_true.2 (by omega)))
          have HC2 : Hid (∀ w' x y, wo.Ext w' → hasB W H x y = true → Calls Try.prog 148 #[.pointer (some ⟨b, 0, none⟩), .int .i64 x, .int .i64 y] w' fun e w'' => e = .returned (.bool true) ∧ w'.Ext w'') := fun w' x y hx h => HHAS.out w' b ab _ x y _ (HS.out.2.ext hx) h
          have HCE : Hid (∀ w', W0.Ext w' → w'.cell? ⟨br, or', none⟩ = some (.int .i64 ra) ∧ w'.cell? ⟨br, or' + 1, none⟩ = some (.int .i64 rb)) := fun w' hx => by
            have hx2 := (HM.out.ext hx) k hlt
            rw [hrow, hA] at hx2
            obtain ⟨-, hr⟩ := hx2
            obtain ⟨b1, o1, e1, q1⟩ := hr 0 (by simp)
            obtain ⟨b2, o2, e2, q2⟩ := hr 1 (by simp)
            simp only [Option.some.injEq, Addr.mk.injEq, and_true] at e1 e2
            obtain ⟨rfl, rfl⟩ := e1
            obtain ⟨rfl, rfl⟩ := e2
            exact ⟨q1, q2⟩
          have HSET : Hid (∀ w' l (x : Nat), rb ≤ x → x < rb + rc → Img w' b ab W H l → Calls Try.prog 149 #[.pointer (some ⟨b, 0, none⟩), .int .i64 ((rb : Int) + ((x - rb : Nat) : Int)), .int .i64 ra, .bool true] w' (SetRet w' b ab W H (l.set (ra * W + rb + (x - rb)) true))) := fun w' l x h1 h2 hI => by
            have h := set_any b ab W H l ((rb : Int) + ((x - rb : Nat) : Int)) ra true w' (by omega) (by omega) hI (by omega) (by omega) (by omega) (by omega)
            rw [show ((ra : Int) * (W : Int) + ((rb : Int) + ((x - rb : Nat) : Int))).toNat = ra * W + rb + (x - rb) by rw [← Int.natCast_mul]; omega] at h
            exact h
          have HB9 : Hid ((rb : Int) + rc ≤ 16) := by show _ ≤ _; omega
          have hrb : (rb : Int) ≤ 16 := by omega
          have hrc : (rc : Int) ≤ 16 := by omega
          have hrc0 : (1 : Int) ≤ (rc : Int) := by omega
          have hra : (ra : Int) ≤ 16 := by omega
          have HC3 := Lib.hid (fun w' (hx : wo.Ext w') => HC2.out w' (rb : Int) ra hx (hasB_true.2 (by omega)))
          have HC4 := Lib.hid (fun w' (hx : wo.Ext w') => HC2.out w' ((rb : Int) + rc - 1) ra hx (hasB_true.2 (by omega)))
          have hw1 : IntKind.i64.wrap ((rb : Int) + rc) = (rb : Int) + rc := IntWalk.i64_in _ (by omega)
          have hw2 : IntKind.i64.wrap ((rb : Int) + rc - 1) = (rb : Int) + rc - 1 := IntWalk.i64_in _ (by omega)
          clear hr1 hrow hg hA HHAS HIN HPN hrl HK HBAD HC2
          go_wp2_with fail
          refine wp_region_over_lit (by kernel_rfl) (by kernel_rfl) ?_; (repeat (go_big_quiet_step ((first | (go_at_call 106; exact Calls.over_of (HC1.out _)) | (go_at_call_of 148 (Value.int .i64 (rb : Int)); exact Calls.over_of (HC3.out _ ⟨_, rfl⟩)) | (go_at_call 148; exact Calls.over_of (HC4.out _ ⟨_, rfl⟩)))))); refine wpQuiet_nil ?_; rintro _ ⟨x1, rfl⟩
          have HS2 : Hid (W0.Ext (wo.over x1) ∧ Img (wo.over x1) b ab W H (paintRun (paintTo W H m k) (ra * W + rb) 0)) := ⟨HS.out.1.trans ⟨x1, rfl⟩, HS.out.2.ext ⟨x1, rfl⟩⟩
          clear HC1 HC3 HC4 hw1 hw2
          go_wp2
          clear q0 q1 q2 hc1 HS
          go_loopw [11, 67] (fun _ j wr => ∃ x : Nat, x ≤ rc ∧ j = .int .i64 x ∧ Hid (W0.Ext wr ∧ Img wr b ab W H (paintRun (paintTo W H m k) (ra * W + rb) x))) (fun _ j _ => rc - (intOf j).toNat)
          case atStart => exact ⟨0, Nat.zero_le _, rfl, HS2⟩
          case round =>
            clear HS2
            obtain ⟨x, hx, rfl, HS⟩ := hrel
            obtain ⟨wi, rfl⟩ : ∃ wi : World, wi = wr := ⟨_, rfl⟩
            by_cases hltx : x < rc
            · have hltx' : (x : Int) < (rc : Int) := by omega
              have hx0 : (0 : Int) ≤ (x : Int) := by omega
              have hw1 : IntKind.i64.wrap ((rb : Int) + (x : Int)) = (rb : Int) + (x : Int) := IntWalk.i64_in _ (by omega)
              obtain ⟨q0, q1⟩ := HCE.out wi HS.out.1
              have HC : Hid (∀ x1, Calls Try.prog 149 #[.pointer (some ⟨b, 0, none⟩), .int .i64 ((rb : Int) + (x : Int)), .int .i64 ra, .bool true] (wi.over x1) (SetRet (wi.over x1) b ab W H (paintRun (paintTo W H m k) (ra * W + rb) (x + 1)))) := fun x1 => by
                have h := HSET.out (wi.over x1) _ (rb + x) (by omega) (by omega) (HS.out.2.ext ⟨x1, rfl⟩)
                rw [show rb + x - rb = x by omega] at h
                exact h
              go_wp2_with fail
              refine wp_region_over_tail 9 (by kernel_rfl) (by kernel_rfl) ?_; simp only [List.take_succ_cons, List.take_zero, List.drop_succ_cons, List.drop_zero]; (repeat (go_big_quiet_step (fail))); refine wpQuiet_nil ?_; rintro _ ⟨x1, rfl⟩
              go_wp2_with fail
              refine (HC.out _).mono ?_
              rintro e w3 ⟨rfl, hw3, hi3⟩
              have HS3 : Hid (W0.Ext w3 ∧ Img w3 b ab W H (paintRun (paintTo W H m k) (ra * W + rb) (x + 1))) := ⟨(HS.out.1.trans ⟨x1, rfl⟩).wroteNew hw3 (fun k hk => by have := HAB.out; omega), hi3⟩
              clear hw3 hi3 HC HS q0 q1
              go_wp2
              go_roundw
              case rel => exact ⟨x + 1, by omega, by go_num, HS3⟩
              case measure => simp [intOf]; omega
            · have : x = rc := by omega
              subst this
              have HS3 : Hid (W0.Ext wi ∧ Img wi b ab W H (paintTo W H m (k + 1))) := ⟨HS.out.1, by rw [HNX.out]; exact HS.out.2⟩
              clear HS
              go_wp2
              go_roundw
              case rel => exact ⟨k + 1, by omega, by go_num, HK2, HS3⟩
              case measure => simp [intOf]; omega
      · have hkk : k = m.length := by omega
        subst hkk
        have HOK := Lib.hid (HALL.out HK.out)
        clear HK HALL HBAD HPN HP0 HIN HHAS
        have HRN1 := Lib.hid (HRN.out wo b ab _ HS.out.2)
        have HRL1 := Lib.hid (HRL.out (paintTo W H m m.length))
        have HRO : Hid (∀ r, ((runsTo W (paintTo W H m m.length) (H * W)).getD r []).length ≤ maxLen) := fun r => runsTo_rowlen _ _ _ _
        have HTD1 := Lib.hid (fun w' (hx : wo.Ext w') => HTD.out w' b ab _ (HS.out.2.ext hx))
        have HX := Lib.hid HS.out.1
        clear HS HRN HTD HRL
        generalize runsTo W (paintTo W H m m.length) (H * W) = R at *
        cases hd : decide (R = m)
        · rw [hd] at HOK
          have HE : Hid (porRows W H m = [] ∧ porOk W H m = false) := ⟨HNO.out HOK.out, HOK.out⟩
          clear HOK HYES HNO
          go_wp2_with fail
          refine HRN1.out.mono ?_
          rintro e w3 ⟨a3, c3, A3, C3, rfl, hx3, hm3⟩
          have HC := Lib.hid (sameLists_any a3 a c3 c A3 A C3 C R m w3 (by have := HRL1.out; unfold maxLen; omega) (by unfold maxLen; omega) HRO.out (fun r => by have := HMB.out.2 r; unfold maxLen; omega) (hm3.mat (by decide)).mat (HM.out.ext (HX.out.trans hx3)))
          rw [hd] at HC
          have HX3 := Lib.hid (HX.out.trans hx3)
          clear hm3 hx3 HRN1 hd
          go_wp2_with fail
          refine HC.out.mono ?_
          rintro e w4 ⟨rfl, hx4⟩
          obtain ⟨r1, r2, r3, HR⟩ := One.noPic (HX0.out.trans (HX3.out.trans hx4)) (Nat.le_refl _) (HO.out.ext (HX3.out.trans hx4))
          clear hx4
          go_wp2
          exact bodyPost_ret (v := .tuple #[.agg #[.slice none 0 0], .bool false]) (by simp [results, Try.results48, go_sem, r3]) rfl (by rw [HE.out.1, HE.out.2]; exact PicRet2.no HR.out)
        · rw [hd] at HOK
          have HE : Hid (porRows W H m = picRows W H (paintTo W H m m.length) ∧ porOk W H m = true) := ⟨HYES.out HOK.out, HOK.out⟩
          clear HOK HYES HNO
          go_wp2_with fail
          refine HRN1.out.mono ?_
          rintro e w3 ⟨a3, c3, A3, C3, rfl, hx3, hm3⟩
          have HC := Lib.hid (sameLists_any a3 a c3 c A3 A C3 C R m w3 (by have := HRL1.out; unfold maxLen; omega) (by unfold maxLen; omega) HRO.out (fun r => by have := HMB.out.2 r; unfold maxLen; omega) (hm3.mat (by decide)).mat (HM.out.ext (HX.out.trans hx3)))
          rw [hd] at HC
          have HX3 := Lib.hid (HX.out.trans hx3)
          have HT3 := Lib.hid hx3
          clear hm3 hx3 HRN1 hd
          go_wp2_with fail
          refine HC.out.mono ?_
          rintro e w4 ⟨rfl, hx4⟩
          have HX4 := Lib.hid (HX3.out.trans hx4)
          have HT4 := Lib.hid (HTD1.out w4 (HT3.out.trans hx4))
          have hrl := picRows_len W H (paintTo W H m m.length)
          clear hx4 HC HX3 HT3 HTD1
          generalize picRows W H (paintTo W H m m.length) = P at *
          have hl0 : w.heap.size < w4.heap.size := (HO.out.ext HX4.out).lt
          go_wp2_with fail
          refine HT4.out.mono ?_
          rintro e w5 ⟨a5, c5, rfl, hx5, ho5⟩
          obtain ⟨r1, r2, r3, HR⟩ := Res.store (.slice a5 P.length c5) (HX0.out.trans (HX4.out.trans hx5)) (Nat.le_refl _) (HO.out.ext (HX4.out.trans hx5)) hl0 ho5
          clear hx5 ho5 hrl
          go_wp2
          exact bodyPost_ret (v := .tuple #[.agg #[.slice a5 P.length c5], .bool true]) (by simp [results, Try.results48, go_sem, r3]) rfl (by rw [HE.out.1, HE.out.2]; exact ⟨a5, c5, rfl, HR.out.1, HR.out.2⟩)
end Go.Proofs.Ytpdmfnndegcjjaa
