/- Quadtrees: the implementation's leaves of a tree. -/
import Derived.Test.YtlcofjicpbbdhaaTreeM
namespace Go.Proofs.Ytlcofjicpbbdhaa
open Go Go.RowKit
theorem ownsRow_mono {w : World} {base base' : Nat} {e : TypeId} {size : Nat} {v : Value} {n : Nat} {xs : List Value} (h : w.ownsRow base e size v n xs) (hb : base' ≤ base) : w.ownsRow base' e size v n xs :=
  ⟨h.1, h.2.imp id fun ⟨g, cap, cur, h1, h2, h3⟩ => ⟨g, cap, cur, h1, Nat.le_trans hb h2, h3⟩⟩
theorem opn_rd {z : Int} {s : ByteArray} (hs : sdOk z = true) : opn z s = match rd s (lgN z) 0 with
    | some q => if q.2 = s.size then some (lgN z, q.1) else none
    | none => none := by
  unfold opn rd
  rw [if_pos hs]
  cases parse s (lgN z) 0 with
  | none => rfl
  | some p =>
    dsimp only [Option.bind_some]
    cases hr : p.1.red
    · simp
    · by_cases hk : p.2 = s.size <;> simp [hk]
def LvRet (w : World) (z : Int) (s : ByteArray) (e : Ending) (w' : World) : Prop := ∃ v, e = .returned (.tuple #[v, .bool (opn z s).isSome]) ∧ w.Ext w' ∧
  ∀ n T, opn z s = some (n, T) → w'.ownsRow w.heap.size 222 5 v (T.lvs n 0 0 ⟨#[]⟩).length (lfC (T.lvs n 0 0 ⟨#[]⟩))
theorem LvRet.no {w w' : World} {z : Int} {s : ByteArray} {v : Value} (h : opn z s = none) (hx : w.Ext w') : LvRet w z s (.returned (.tuple #[v, .bool false])) w' := ⟨v, by rw [h]; rfl, hx, fun n T e => by rw [h] at e; cases e⟩
set_option maxRecDepth 5000 in
set_option maxHeartbeats 1600000 in
theorem leavesOf_any (z : Int) (s : ByteArray) (w : World) (hs : s.size ≤ 1048576) : Calls Try.prog 225 #[.agg #[.int .i64 z, .string s]] w (LvRet w z s) := by
  obtain ⟨W0, hW0⟩ : ∃ W0, W0 = w.alloc (.cells #[.int .i64 z, .string s] 91) := ⟨_, rfl⟩
  have hx0 : w.Ext W0 := by rw [hW0]; repeat (first | exact World.Ext.refl _ | exact ⟨_, rfl⟩ | assumption | refine World.Ext.over ?_ _ | refine World.Ext.drewN ?_ _ | refine World.Ext.drew ?_ | refine World.Ext.alloc ?_ _ | refine World.Ext.setCell ?_ (by simp) _)
  have d0 : W0.cell? ⟨w.heap.size, 0, none⟩ = some (.int .i64 z) := by rw [hW0]; simp [go_sem]
  have d1 : W0.cell? ⟨w.heap.size, 1, none⟩ = some (.string s) := by rw [hW0]; simp [go_sem]
  have HSD := Lib.hid (sideOk_any z W0)
  have HX0 := Lib.hid hx0
  cases hsd : sdOk z
  · have hno : opn z s = none := by unfold opn; rw [hsd]; rfl
    rw [hsd] at HSD
    have HNO := Lib.hid (fun v w' (h : w.Ext w') => LvRet.no (v := v) hno h)
    clear hx0 hno hsd d0 d1
    go_enter Try.func225, Try.ntmps225
    go_wp2_with fail
    rw [← hW0]
    clear hW0
    refine HSD.out.mono ?_
    rintro e w1 ⟨rfl, hx1⟩
    have HX1 := Lib.hid (HX0.out.trans hx1)
    clear hx1
    go_wp2_with fail
    go_ret2
    exact HNO.out _ _ HX1.out
  · obtain ⟨hn4, hzn⟩ := sdOk_lg hsd
    obtain ⟨n, hn⟩ : ∃ n, n = lgN z := ⟨_, rfl⟩
    have hop := opn_rd (s := s) hsd
    rw [← hn] at hn4 hzn hop
    have h16 : 2 ^ n ≤ 16 := Nat.pow_le_pow_right (by decide) hn4
    have HRD : Hid (∀ w', Calls Try.prog 249 #[.string s, .int .i64 0, .agg #[.int .i64 0, .int .i64 0, .int .i64 z], .string ⟨#[]⟩] w' (SqRet w' (rd s n 0) n 0 0 ⟨#[]⟩)) := fun w' =>
      readSquare_any s hs n 0 0 0 0 0 z ⟨#[]⟩ w' hn4 (Nat.zero_le _) rfl rfl hzn (by omega) (by omega) (by show 0 + n ≤ 4; omega)
    rw [hsd] at HSD
    have HOP := Lib.hid hop
    clear hx0 hsd hop hn hzn
    generalize rd s n 0 = r at *
    go_enter Try.func225, Try.ntmps225
    go_wp2_with fail
    rw [← hW0]
    clear hW0
    refine HSD.out.mono ?_
    rintro e w1 ⟨rfl, hx1⟩
    have e0 := hx1.cell d0
    have e1 := hx1.cell d1
    have HX1 := Lib.hid (HX0.out.trans hx1)
    clear hx1 d0 d1 HSD HX0
    go_wp2_with fail
    refine (HRD.out _).mono ?_
    intro e w2 hret
    cases r with
    | none =>
      obtain ⟨rfl, hx2⟩ := hret
      have f1 := hx2.cell e1
      have HX2 := Lib.hid (HX1.out.trans hx2)
      have HNO := Lib.hid (fun v w' (h : w.Ext w') => LvRet.no (v := v) HOP.out h)
      have hne : ((-1 : Int) == (s.size : Int)) = false := by rw [beq_eq_false_iff_ne]; omega
      clear hx2 e0 e1 HX1 HRD HOP
      go_wp2_with fail
      refine wp_region_over_lit (by kernel_rfl) (by kernel_rfl) ?_; (repeat (go_big_quiet_step (fail))); refine wpQuiet_nil ?_; rintro _ ⟨x1, rfl⟩
      go_wp2_with fail
      go_ret2
      exact HNO.out _ _ (HX2.out.trans ⟨x1, rfl⟩)
    | some q =>
      obtain ⟨T, k'⟩ := q
      obtain ⟨v, rfl, hx2, hown⟩ := hret
      have f1 := hx2.cell e1
      have HX2 := Lib.hid (HX1.out.trans hx2)
      by_cases hk : k' = s.size
      · have hop : opn z s = some (n, T) := by rw [HOP.out]; exact if_pos hk
        have HY : Hid (∀ w', w2.Ext w' → LvRet w z s (.returned (.tuple #[v, .bool true])) w') := fun w' hx => ⟨v, by rw [hop]; rfl, HX2.out.trans hx, fun n' T' e => by
          rw [hop] at e
          cases e
          exact ownsRow_mono (World.ownsRow.ext hown hx) HX1.out.size⟩
        have heq : ((k' : Int) == (s.size : Int)) = true := by rw [beq_iff_eq]; omega
        clear hx2 e0 e1 HX1 HRD HOP hown hop hk
        go_wp2_with fail
        refine wp_region_over_lit (by kernel_rfl) (by kernel_rfl) ?_; (repeat (go_big_quiet_step (fail))); refine wpQuiet_nil ?_; rintro _ ⟨x1, rfl⟩
        go_wp2_with fail
        go_ret2
        exact HY.out _ ⟨x1, rfl⟩
      · have hop : opn z s = none := by rw [HOP.out]; exact if_neg hk
        have HNO := Lib.hid (fun v w' (h : w.Ext w') => LvRet.no (v := v) hop h)
        have heq : ((k' : Int) == (s.size : Int)) = false := by rw [beq_eq_false_iff_ne]; omega
        clear hx2 e0 e1 HX1 HRD HOP hown hop hk
        go_wp2_with fail
        refine wp_region_over_lit (by kernel_rfl) (by kernel_rfl) ?_; (repeat (go_big_quiet_step (fail))); refine wpQuiet_nil ?_; rintro _ ⟨x1, rfl⟩
        go_wp2_with fail
        go_ret2
        exact HNO.out _ _ (HX2.out.trans ⟨x1, rfl⟩)
/-- What leaves paint. -/
def pnt (acc : Bool) (ls : List Lf) (i j : Nat) : Bool := ls.foldl (fun c f => if inSq f.m f.x f.y i j then f.b else c) acc
theorem pnt_app (acc : Bool) (a b : List Lf) (i j : Nat) : pnt acc (a ++ b) i j = pnt (pnt acc a i j) b i j := List.foldl_append
theorem pnt_lvs : ∀ (T : QT) (n x y : Nat) (p : ByteArray) (acc : Bool) (i j : Nat), T.fits n → pnt acc (T.lvs n x y p) i j = if inSq (2 ^ n) x y i j then T.on n x y i j else acc
  | .leaf b, n, x, y, p, acc, i, j, _ => by
    show (if inSq (2 ^ n) x y i j then b else acc) = _
    unfold QT.on
    cases inSq (2 ^ n) x y i j <;> simp
  | .node a b c d, 0, _, _, _, _, _, _, h => h.elim
  | .node a b c d, n + 1, x, y, p, acc, i, j, h => by
    have e2 : (2 : Nat) ^ (n + 1) = 2 * 2 ^ n := by rw [Nat.pow_succ]; omega
    have hp : (0 : Nat) < 2 ^ n := Nat.two_pow_pos n
    unfold QT.lvs
    rw [Nat.add_sub_cancel, pnt_app, pnt_app, pnt_app, pnt_lvs a n _ _ _ _ i j h.1, pnt_lvs b n _ _ _ _ i j h.2.1, pnt_lvs c n _ _ _ _ i j h.2.2.1, pnt_lvs d n _ _ _ _ i j h.2.2.2]
    have q0 : qX x (2 ^ n) 0 = x ∧ qY y (2 ^ n) 0 = y ∧ qX x (2 ^ n) 1 = x + 2 ^ n ∧ qY y (2 ^ n) 1 = y ∧ qX x (2 ^ n) 2 = x ∧ qY y (2 ^ n) 2 = y + 2 ^ n ∧ qX x (2 ^ n) 3 = x + 2 ^ n ∧ qY y (2 ^ n) 3 = y + 2 ^ n := by simp [qX, qY]
    obtain ⟨z1, z2, z3, z4, z5, z6, z7, z8⟩ := q0
    rw [z1, z2, z3, z4, z5, z6, z7, z8, e2]
    obtain ⟨o1, o2, o3, o4⟩ := QT.on_q (i := i) (j := j) (x := x) (y := y) h
    unfold inSq
    by_cases h1 : x ≤ i ∧ i < x + 2 * 2 ^ n ∧ y ≤ j ∧ j < y + 2 * 2 ^ n
    · rw [decide_eq_true h1]
      by_cases hx : i < x + 2 ^ n <;> by_cases hy : j < y + 2 ^ n
      · rw [o1 (by omega) hx (by omega) hy]
        have da : decide (x ≤ i ∧ i < x + 2 ^ n ∧ y ≤ j ∧ j < y + 2 ^ n) = true := decide_eq_true (by omega)
        have db : decide (x + 2 ^ n ≤ i ∧ i < x + 2 ^ n + 2 ^ n ∧ y ≤ j ∧ j < y + 2 ^ n) = false := decide_eq_false (by omega)
        have dc : decide (x ≤ i ∧ i < x + 2 ^ n ∧ y + 2 ^ n ≤ j ∧ j < y + 2 ^ n + 2 ^ n) = false := decide_eq_false (by omega)
        have dd : decide (x + 2 ^ n ≤ i ∧ i < x + 2 ^ n + 2 ^ n ∧ y + 2 ^ n ≤ j ∧ j < y + 2 ^ n + 2 ^ n) = false := decide_eq_false (by omega)
        rw [da, db, dc, dd]
        simp
      · rw [o3 (by omega) hx (by omega) (by omega)]
        have da : decide (x ≤ i ∧ i < x + 2 ^ n ∧ y ≤ j ∧ j < y + 2 ^ n) = false := decide_eq_false (by omega)
        have db : decide (x + 2 ^ n ≤ i ∧ i < x + 2 ^ n + 2 ^ n ∧ y ≤ j ∧ j < y + 2 ^ n) = false := decide_eq_false (by omega)
        have dc : decide (x ≤ i ∧ i < x + 2 ^ n ∧ y + 2 ^ n ≤ j ∧ j < y + 2 ^ n + 2 ^ n) = true := decide_eq_true (by omega)
        have dd : decide (x + 2 ^ n ≤ i ∧ i < x + 2 ^ n + 2 ^ n ∧ y + 2 ^ n ≤ j ∧ j < y + 2 ^ n + 2 ^ n) = false := decide_eq_false (by omega)
        rw [da, db, dc, dd]
        simp
      · rw [o2 (by omega) (by omega) (by omega) hy]
        have da : decide (x ≤ i ∧ i < x + 2 ^ n ∧ y ≤ j ∧ j < y + 2 ^ n) = false := decide_eq_false (by omega)
        have db : decide (x + 2 ^ n ≤ i ∧ i < x + 2 ^ n + 2 ^ n ∧ y ≤ j ∧ j < y + 2 ^ n) = true := decide_eq_true (by omega)
        have dc : decide (x ≤ i ∧ i < x + 2 ^ n ∧ y + 2 ^ n ≤ j ∧ j < y + 2 ^ n + 2 ^ n) = false := decide_eq_false (by omega)
        have dd : decide (x + 2 ^ n ≤ i ∧ i < x + 2 ^ n + 2 ^ n ∧ y + 2 ^ n ≤ j ∧ j < y + 2 ^ n + 2 ^ n) = false := decide_eq_false (by omega)
        rw [da, db, dc, dd]
        simp
      · rw [o4 (by omega) (by omega) (by omega) (by omega)]
        have da : decide (x ≤ i ∧ i < x + 2 ^ n ∧ y ≤ j ∧ j < y + 2 ^ n) = false := decide_eq_false (by omega)
        have db : decide (x + 2 ^ n ≤ i ∧ i < x + 2 ^ n + 2 ^ n ∧ y ≤ j ∧ j < y + 2 ^ n) = false := decide_eq_false (by omega)
        have dc : decide (x ≤ i ∧ i < x + 2 ^ n ∧ y + 2 ^ n ≤ j ∧ j < y + 2 ^ n + 2 ^ n) = false := decide_eq_false (by omega)
        have dd : decide (x + 2 ^ n ≤ i ∧ i < x + 2 ^ n + 2 ^ n ∧ y + 2 ^ n ≤ j ∧ j < y + 2 ^ n + 2 ^ n) = true := decide_eq_true (by omega)
        rw [da, db, dc, dd]
        simp
    · rw [decide_eq_false h1]
      have da : decide (x ≤ i ∧ i < x + 2 ^ n ∧ y ≤ j ∧ j < y + 2 ^ n) = false := decide_eq_false (by omega)
      have db : decide (x + 2 ^ n ≤ i ∧ i < x + 2 ^ n + 2 ^ n ∧ y ≤ j ∧ j < y + 2 ^ n) = false := decide_eq_false (by omega)
      have dc : decide (x ≤ i ∧ i < x + 2 ^ n ∧ y + 2 ^ n ≤ j ∧ j < y + 2 ^ n + 2 ^ n) = false := decide_eq_false (by omega)
      have dd : decide (x + 2 ^ n ≤ i ∧ i < x + 2 ^ n + 2 ^ n ∧ y + 2 ^ n ≤ j ∧ j < y + 2 ^ n + 2 ^ n) = false := decide_eq_false (by omega)
      rw [da, db, dc, dd]
      simp
end Go.Proofs.Ytlcofjicpbbdhaa
