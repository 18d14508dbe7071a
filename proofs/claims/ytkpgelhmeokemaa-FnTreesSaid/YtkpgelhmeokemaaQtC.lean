/- Quadtrees: the implementation's leaves of a tree. -/
import Derived.Test.YtkpgelhmeokemaaQtB
import Derived.Test.YtkpgelhmeokemaaSumP
namespace Go.Proofs.Ytkpgelhmeokemaa
open Go Go.RowKit
theorem ownsRow_mono {w : World} {base base' : Nat} {e : TypeId} {size : Nat} {v : Value} {n : Nat} {xs : List Value} (h : w.ownsRow base e size v n xs) (hb : base' ≤ base) : w.ownsRow base' e size v n xs :=
  ⟨h.1, h.2.imp id fun ⟨g, cap, cur, h1, h2, h3⟩ => ⟨g, cap, cur, h1, Nat.le_trans hb h2, h3⟩⟩
theorem opn_rd {z : Int} {s : ByteArray} (hs : sdOk z = true) : opn z s = match rd s (lgN z) 0 with
    | some q => if q.2 = s.size then some (lgN z, q.1) else none
    | none => none := by
  unfold opn rd
  rw [if_pos hs]
  cases parse s (lgN z) 0 with
  | none => rfl
  | some p =>
    dsimp only [Option.bind_some]
    cases hr : p.1.red
    · simp
    · by_cases hk : p.2 = s.size <;> simp [hk]
def LvRet (w : World) (z : Int) (s : ByteArray) (e : Ending) (w' : World) : Prop := ∃ v, e = .returned (.tuple #[v, .bool (opn z s).isSome]) ∧ w.Ext w' ∧
  ∀ n T, opn z s = some (n, T) → w'.ownsRow w.heap.size 88 5 v (T.lvs n 0 0 ⟨#[]⟩).length (lfC (T.lvs n 0 0 ⟨#[]⟩))
theorem LvRet.no {w w' : World} {z : Int} {s : ByteArray} {v : Value} (h : opn z s = none) (hx : w.Ext w') : LvRet w z s (.returned (.tuple #[v, .bool false])) w' := ⟨v, by rw [h]; rfl, hx, fun n T e => by rw [h] at e; cases e⟩
set_option maxRecDepth 5000 in
set_option maxHeartbeats 1600000 in
theorem leavesOf_any (z : Int) (s : ByteArray) (w : World) (hs : s.size ≤ 1048576) : Calls Try.prog 41 #[.agg #[.int .i64 z, .string s]] w (LvRet w z s) := by
  obtain ⟨W0, hW0⟩ : ∃ W0, W0 = w.alloc (.cells #[.int .i64 z, .string s] 29) := ⟨_, rfl⟩
  have hx0 : w.Ext W0 := by rw [hW0]; repeat (first | exact World.Ext.refl _ | exact ⟨_, rfl⟩ | assumption | refine World.Ext.over ?_ _ | refine World.Ext.drewN ?_ _ | refine World.Ext.drew ?_ | refine World.Ext.alloc ?_ _ | refine World.Ext.setCell ?_ (by simp) _)
  have d0 : W0.cell? ⟨w.heap.size, 0, none⟩ = some (.int .i64 z) := by rw [hW0]; simp [go_sem]
  have d1 : W0.cell? ⟨w.heap.size, 1, none⟩ = some (.string s) := by rw [hW0]; simp [go_sem]
  have HSD := Lib.hid (sideOk_any z W0)
  have HX0 := Lib.hid hx0
  cases hsd : sdOk z
  · have hno : opn z s = none := by unfold opn; rw [hsd]; rfl
    rw [hsd] at HSD
    have HNO := Lib.hid (fun v w' (h : w.Ext w') => LvRet.no (v := v) hno h)
    clear hx0 hno hsd d0 d1
    go_enter Try.func41, Try.ntmps41
    go_wp2_with fail
    rw [← hW0]
    clear hW0
    refine HSD.out.mono ?_
    rintro e w1 ⟨rfl, hx1⟩
    have HX1 := Lib.hid (HX0.out.trans hx1)
    clear hx1
    go_wp2_with fail
    go_ret2
    exact HNO.out _ _ HX1.out
  · obtain ⟨hn4, hzn⟩ := sdOk_lg hsd
    obtain ⟨n, hn⟩ : ∃ n, n = lgN z := ⟨_, rfl⟩
    have hop := opn_rd (s := s) hsd
    rw [← hn] at hn4 hzn hop
    have h16 : 2 ^ n ≤ 16 := Nat.pow_le_pow_right (by decide) hn4
    have HRD : Hid (∀ w', Calls Try.prog 86 #[.string s, .int .i64 0, .agg #[.int .i64 0, .int .i64 0, .int .i64 z], .string ⟨#[]⟩] w' (SqRet w' (rd s n 0) n 0 0 ⟨#[]⟩)) := fun w' =>
      readSquare_any s hs n 0 0 0 0 0 z ⟨#[]⟩ w' hn4 (Nat.zero_le _) rfl rfl hzn (by omega) (by omega) (by show 0 + n ≤ 4; omega)
    rw [hsd] at HSD
    have HOP := Lib.hid hop
    clear hx0 hsd hop hn hzn
    generalize rd s n 0 = r at *
    go_enter Try.func41, Try.ntmps41
    go_wp2_with fail
    rw [← hW0]
    clear hW0
    refine HSD.out.mono ?_
    rintro e w1 ⟨rfl, hx1⟩
    have e0 := hx1.cell d0
    have e1 := hx1.cell d1
    have HX1 := Lib.hid (HX0.out.trans hx1)
    clear hx1 d0 d1 HSD HX0
    go_wp2_with fail
    refine (HRD.out _).mono ?_
    intro e w2 hret
    cases r with
    | none =>
      obtain ⟨rfl, hx2⟩ := hret
      have f1 := hx2.cell e1
      have HX2 := Lib.hid (HX1.out.trans hx2)
      have HNO := Lib.hid (fun v w' (h : w.Ext w') => LvRet.no (v := v) HOP.out h)
      have hne : ((-1 : Int) == (s.size : Int)) = false := by rw [beq_eq_false_iff_ne]; omega
      clear hx2 e0 e1 HX1 HRD HOP
      go_wp2_with fail
      refine wp_region_over_lit (by kernel_rfl) (by kernel_rfl) ?_; (repeat (go_big_quiet_step (fail))); refine wpQuiet_nil ?_; rintro _ ⟨x1, rfl⟩
      go_wp2_with fail
      go_ret2
      exact HNO.out _ _ (HX2.out.trans ⟨x1, rfl⟩)
    | some q =>
      obtain ⟨T, k'⟩ := q
      obtain ⟨v, rfl, hx2, hown⟩ := hret
      have f1 := hx2.cell e1
      have HX2 := Lib.hid (HX1.out.trans hx2)
      by_cases hk : k' = s.size
      · have hop : opn z s = some (n, T) := by rw [HOP.out]; exact if_pos hk
        have HY : Hid (∀ w', w2.Ext w' → LvRet w z s (.returned (.tuple #[v, .bool true])) w') := fun w' hx => ⟨v, by rw [hop]; rfl, HX2.out.trans hx, fun n' T' e => by
          rw [hop] at e
          cases e
          exact ownsRow_mono (World.ownsRow.ext hown hx) HX1.out.size⟩
        have heq : ((k' : Int) == (s.size : Int)) = true := by rw [beq_iff_eq]; omega
        clear hx2 e0 e1 HX1 HRD HOP hown hop hk
        go_wp2_with fail
        refine wp_region_over_lit (by kernel_rfl) (by kernel_rfl) ?_; (repeat (go_big_quiet_step (fail))); refine wpQuiet_nil ?_; rintro _ ⟨x1, rfl⟩
        go_wp2_with fail
        go_ret2
        exact HY.out _ ⟨x1, rfl⟩
      · have hop : opn z s = none := by rw [HOP.out]; exact if_neg hk
        have HNO := Lib.hid (fun v w' (h : w.Ext w') => LvRet.no (v := v) hop h)
        have heq : ((k' : Int) == (s.size : Int)) = false := by rw [beq_eq_false_iff_ne]; omega
        clear hx2 e0 e1 HX1 HRD HOP hown hop hk
        go_wp2_with fail
        refine wp_region_over_lit (by kernel_rfl) (by kernel_rfl) ?_; (repeat (go_big_quiet_step (fail))); refine wpQuiet_nil ?_; rintro _ ⟨x1, rfl⟩
        go_wp2_with fail
        go_ret2
        exact HNO.out _ _ (HX2.out.trans ⟨x1, rfl⟩)
/-- What leaves paint. -/
def pnt (acc : Bool) (ls : List Lf) (i j : Nat) : Bool := ls.foldl (fun c f => if inSq f.m f.x f.y i j then f.b else c) acc
theorem pnt_app (acc : Bool) (a b : List Lf) (i j : Nat) : pnt acc (a ++ b) i j = pnt (pnt acc a i j) b i j := List.foldl_append
theorem pnt_lvs : ∀ (T : QT) (n x y : Nat) (p : ByteArray) (acc : Bool) (i j : Nat), T.fits n → pnt acc (T.lvs n x y p) i j = if inSq (2 ^ n) x y i j then T.on n x y i j else acc
  | .leaf b, n, x, y, p, acc, i, j, _ => by
    show (if inSq (2 ^ n) x y i j then b else acc) = _
    unfold QT.on
    cases inSq (2 ^ n) x y i j <;> simp
  | .node a b c d, 0, _, _, _, _, _, _, h => h.elim
  | .node a b c d, n + 1, x, y, p, acc, i, j, h => by
    have e2 : (2 : Nat) ^ (n + 1) = 2 * 2 ^ n := by rw [Nat.pow_succ]; omega
    have hp : (0 : Nat) < 2 ^ n := Nat.two_pow_pos n
    unfold QT.lvs
    rw [Nat.add_sub_cancel, pnt_app, pnt_app, pnt_app, pnt_lvs a n _ _ _ _ i j h.1, pnt_lvs b n _ _ _ _ i j h.2.1, pnt_lvs c n _ _ _ _ i j h.2.2.1, pnt_lvs d n _ _ _ _ i j h.2.2.2]
    have q0 : qX x (2 ^ n) 0 = x ∧ qY y (2 ^ n) 0 = y ∧ qX x (2 ^ n) 1 = x + 2 ^ n ∧ qY y (2 ^ n) 1 = y ∧ qX x (2 ^ n) 2 = x ∧ qY y (2 ^ n) 2 = y + 2 ^ n ∧ qX x (2 ^ n) 3 = x + 2 ^ n ∧ qY y (2 ^ n) 3 = y + 2 ^ n := by simp [qX, qY]
    obtain ⟨z1, z2, z3, z4, z5, z6, z7, z8⟩ := q0
    rw [z1, z2, z3, z4, z5, z6, z7, z8, e2]
    obtain ⟨o1, o2, o3, o4⟩ := QT.on_q (i := i) (j := j) (x := x) (y := y) h
    unfold inSq
    by_cases h1 : x ≤ i ∧ i < x + 2 * 2 ^ n ∧ y ≤ j ∧ j < y + 2 * 2 ^ n
    · rw [decide_eq_true h1]
      by_cases hx : i < x + 2 ^ n <;> by_cases hy : j < y + 2 ^ n
      · rw [o1 (by omega) hx (by omega) hy]
        have da : decide (x ≤ i ∧ i < x + 2 ^ n ∧ y ≤ j ∧ j < y + 2 ^ n) = true := decide_eq_true (by omega)
        have db : decide (x + 2 ^ n ≤ i ∧ i < x + 2 ^ n + 2 ^ n ∧ y ≤ j ∧ j < y + 2 ^ n) = false := decide_eq_false (by omega)
        have dc : decide (x ≤ i ∧ i < x + 2 ^ n ∧ y + 2 ^ n ≤ j ∧ j < y + 2 ^ n + 2 ^ n) = false := decide_eq_false (by omega)
        have dd : decide (x + 2 ^ n ≤ i ∧ i < x + 2 ^ n + 2 ^ n ∧ y + 2 ^ n ≤ j ∧ j < y + 2 ^ n + 2 ^ n) = false := decide_eq_false (by omega)
        rw [da, db, dc, dd]
        simp
      · rw [o3 (by omega) hx (by omega) (by omega)]
        have da : decide (x ≤ i ∧ i < x + 2 ^ n ∧ y ≤ j ∧ j < y + 2 ^ n) = false := decide_eq_false (by omega)
        have db : decide (x + 2 ^ n ≤ i ∧ i < x + 2 ^ n + 2 ^ n ∧ y ≤ j ∧ j < y + 2 ^ n) = false := decide_eq_false (by omega)
        have dc : decide (x ≤ i ∧ i < x + 2 ^ n ∧ y + 2 ^ n ≤ j ∧ j < y + 2 ^ n + 2 ^ n) = true := decide_eq_true (by omega)
        have dd : decide (x + 2 ^ n ≤ i ∧ i < x + 2 ^ n + 2 ^ n ∧ y + 2 ^ n ≤ j ∧ j < y + 2 ^ n + 2 ^ n) = false := decide_eq_false (by omega)
        rw [da, db, dc, dd]
        simp
      · rw [o2 (by omega) (by omega) (by omega) hy]
        have da : decide (x ≤ i ∧ i < x + 2 ^ n ∧ y ≤ j ∧ j < y + 2 ^ n) = false := decide_eq_false (by omega)
        have db : decide (x + 2 ^ n ≤ i ∧ i < x + 2 ^ n + 2 ^ n ∧ y ≤ j ∧ j < y + 2 ^ n) = true := decide_eq_true (by omega)
        have dc : decide (x ≤ i ∧ i < x + 2 ^ n ∧ y + 2 ^ n ≤ j ∧ j < y + 2 ^ n + 2 ^ n) = false := decide_eq_false (by omega)
        have dd : decide (x + 2 ^ n ≤ i ∧ i < x + 2 ^ n + 2 ^ n ∧ y + 2 ^ n ≤ j ∧ j < y + 2 ^ n + 2 ^ n) = false := decide_eq_false (by omega)
        rw [da, db, dc, dd]
        simp
      · rw [o4 (by omega) (by omega) (by omega) (by omega)]
        have da : decide (x ≤ i ∧ i < x + 2 ^ n ∧ y ≤ j ∧ j < y + 2 ^ n) = false := decide_eq_false (by omega)
        have db : decide (x + 2 ^ n ≤ i ∧ i < x + 2 ^ n + 2 ^ n ∧ y ≤ j ∧ j < y + 2 ^ n) = false := decide_eq_false (by omega)
        have dc : decide (x ≤ i ∧ i < x + 2 ^ n ∧ y + 2 ^ n ≤ j ∧ j < y + 2 ^ n + 2 ^ n) = false := decide_eq_false (by omega)
        have dd : decide (x + 2 ^ n ≤ i ∧ i < x + 2 ^ n + 2 ^ n ∧ y + 2 ^ n ≤ j ∧ j < y + 2 ^ n + 2 ^ n) = true := decide_eq_true (by omega)
        rw [da, db, dc, dd]
        simp
    · rw [decide_eq_false h1]
      have da : decide (x ≤ i ∧ i < x + 2 ^ n ∧ y ≤ j ∧ j < y + 2 ^ n) = false := decide_eq_false (by omega)
      have db : decide (x + 2 ^ n ≤ i ∧ i < x + 2 ^ n + 2 ^ n ∧ y ≤ j ∧ j < y + 2 ^ n) = false := decide_eq_false (by omega)
      have dc : decide (x ≤ i ∧ i < x + 2 ^ n ∧ y + 2 ^ n ≤ j ∧ j < y + 2 ^ n + 2 ^ n) = false := decide_eq_false (by omega)
      have dd : decide (x + 2 ^ n ≤ i ∧ i < x + 2 ^ n + 2 ^ n ∧ y + 2 ^ n ≤ j ∧ j < y + 2 ^ n + 2 ^ n) = false := decide_eq_false (by omega)
      rw [da, db, dc, dd]
      simp
end Go.Proofs.Ytkpgelhmeokemaa

/- Quadtrees: the implementation's image of a tree. -/
namespace Go.Proofs.Ytkpgelhmeokemaa
open Go Go.RowKit
theorem lfC_at : ∀ (ls : List Lf) (k : Nat) (f : Lf), ls[k]? = some f → (lfC ls)[k * 5]? = some (.int .i64 f.x) ∧ (lfC ls)[k * 5 + 1]? = some (.int .i64 f.y) ∧ (lfC ls)[k * 5 + 2]? = some (.int .i64 f.m) ∧ (lfC ls)[k * 5 + 3]? = some (.bool f.b) ∧ (lfC ls)[k * 5 + 4]? = some (.string f.p)
  | [], k, f, h => by simp at h
  | g :: ls, 0, f, h => by
    simp at h
    subst h
    simp [lfC, lfV]
  | g :: ls, k + 1, f, h => by
    have h' : ls[k]? = some f := by simpa using h
    obtain ⟨h1, h2, h3, h4, h5⟩ := lfC_at ls k f h'
    have e : lfC (g :: ls) = lfV g ++ lfC ls := rfl
    have hl : (lfV g).length = 5 := rfl
    have sh : ∀ i, (lfC (g :: ls))[(k + 1) * 5 + i]? = (lfC ls)[k * 5 + i]? := fun i => by
      rw [e, List.getElem?_append_right (by rw [hl]; omega), hl]
      congr 1
      omega
    have s0 := sh 0
    simp only [Nat.add_zero] at s0
    exact ⟨by rw [s0]; exact h1, by rw [sh 1]; exact h2, by rw [sh 2]; exact h3, by rw [sh 3]; exact h4, by rw [sh 4]; exact h5⟩
/-- An image under way: its pixels by what they show. -/
structure PnSt (w : World) (b ab m : Nat) (F : Nat → Nat → Bool) (wr : World) : Prop where
  wrote : Wrote (fun k => k = ab ∨ w.heap.size ≤ k) w wr
  im : ∃ l, Img wr b ab m m l ∧ PtL m l F
theorem PnSt.ext {w : World} {b ab m : Nat} {F : Nat → Nat → Bool} {wr w' : World} (h : PnSt w b ab m F wr) (hx : wr.Ext w') : PnSt w b ab m F w' := by
  obtain ⟨l, h1, h2⟩ := h.im
  exact ⟨h.wrote.trans (hx.wrote _), l, h1.ext hx, h2⟩
theorem PnSt.congr {w : World} {b ab m : Nat} {F G : Nat → Nat → Bool} {wr : World} (h : PnSt w b ab m F wr) (e : ∀ i j, i < m → j < m → F i j = G i j) : PnSt w b ab m G wr := by
  obtain ⟨l, h1, h2⟩ := h.im
  exact ⟨h.wrote, l, h1, h2.congr e⟩
theorem PnSt.set {w : World} {b ab m : Nat} {F : Nat → Nat → Bool} {wr : World} (h : PnSt w b ab m F wr) (hm : m ≤ 64) {X Y : Int} {i0 j0 : Nat} (hX : X = i0) (hY : Y = j0) (hi : i0 < m) (hj : j0 < m) (v : Bool) :
    Calls Try.prog 50 #[.pointer (some ⟨b, 0, none⟩), .int .i64 X, .int .i64 Y, .bool v] wr fun e w' => e = .returned (.tuple #[]) ∧ PnSt w b ab m (fun i j => if i = i0 ∧ j = j0 then v else F i j) w' ∧ Wrote (fun k => k = ab) wr w' := by
  obtain ⟨l, hI, hl⟩ := h.im
  subst hX hY
  refine (set_any b ab m m l i0 j0 v wr hm hm hI (by omega) (by omega) (by omega) (by omega)).mono fun e w' hq => ?_
  obtain ⟨rfl, hw, hI'⟩ := hq
  have e : ((j0 : Int) * m + i0).toNat = j0 * m + i0 := by
    have : ((j0 : Int) * m + i0) = ((j0 * m + i0 : Nat) : Int) := by simp [Int.natCast_add, Int.natCast_mul]
    rw [this]; rfl
  rw [e] at hI'
  exact ⟨rfl, ⟨h.wrote.trans (hw.mono fun k _ hk => .inl hk), _, hI', hl.set hi hj v⟩, hw⟩
/-- A leaf under way: rows ahead of b, and a pixels of the next row. -/
def lfB (f : Lf) (a b : Nat) (F : Nat → Nat → Bool) (i j : Nat) : Bool := if sqB f.x f.y a b f.m i j then f.b else F i j
/-- The loops over one leaf's square, its cells at p. -/
theorem lfB_next {f : Lf} {a b : Nat} {F : Nat → Nat → Bool} (i j : Nat) : lfB f (a + 1) b F i j = if i = f.x + a ∧ j = f.y + b then f.b else lfB f a b F i j := by
  unfold lfB
  by_cases hij : i = f.x + a ∧ j = f.y + b
  · rw [if_pos hij, sqB, show decide (j = f.y + b ∧ f.x ≤ i ∧ i < f.x + (a + 1)) = true from decide_eq_true (by omega)]
    simp
  · rw [if_neg hij]
    have e : sqB f.x f.y (a + 1) b f.m i j = sqB f.x f.y a b f.m i j := by
      unfold sqB
      congr 1
      exact decide_eq_decide.2 (by omega)
    rw [e]
theorem lfB_row {f : Lf} {b : Nat} {F : Nat → Nat → Bool} (i j : Nat) : lfB f f.m b F i j = lfB f 0 (b + 1) F i j := by
  unfold lfB
  have e : sqB f.x f.y f.m b f.m i j = sqB f.x f.y 0 (b + 1) f.m i j := by
    unfold sqB
    rw [← Bool.decide_or, ← Bool.decide_or]
    exact decide_eq_decide.2 (by omega)
  rw [e]
theorem lfB_zero {f : Lf} {F : Nat → Nat → Bool} (i j : Nat) : lfB f 0 0 F i j = F i j := by
  unfold lfB
  rw [sqB, decide_eq_false (by omega), decide_eq_false (by omega)]
  simp
theorem lfB_all {f : Lf} {F : Nat → Nat → Bool} (i j : Nat) : lfB f 0 f.m F i j = if inSq f.m f.x f.y i j then f.b else F i j := by
  unfold lfB
  have e : sqB f.x f.y 0 f.m f.m i j = inSq f.m f.x f.y i j := by
    unfold sqB inSq
    rw [show decide (j = f.y + f.m ∧ f.x ≤ i ∧ i < f.x + 0) = false from decide_eq_false (by omega), Bool.or_false]
    exact decide_eq_decide.2 (by omega)
  rw [e]
theorem lvs_in : ∀ (T : QT) (n x y : Nat) (p : ByteArray), T.fits n → ∀ f, f ∈ T.lvs n x y p → f.x + f.m ≤ x + 2 ^ n ∧ f.y + f.m ≤ y + 2 ^ n
  | .leaf b, n, x, y, p, _, f, hf => by
    simp [QT.lvs] at hf
    subst hf
    exact ⟨Nat.le_refl _, Nat.le_refl _⟩
  | .node a b c d, 0, _, _, _, h, _, _ => h.elim
  | .node a b c d, n + 1, x, y, p, h, f, hf => by
    have e2 : (2 : Nat) ^ (n + 1) = 2 * 2 ^ n := by rw [Nat.pow_succ]; omega
    simp only [QT.lvs, Nat.add_sub_cancel, List.mem_append] at hf
    have q : qX x (2 ^ n) 0 = x ∧ qY y (2 ^ n) 0 = y ∧ qX x (2 ^ n) 1 = x + 2 ^ n ∧ qY y (2 ^ n) 1 = y ∧ qX x (2 ^ n) 2 = x ∧ qY y (2 ^ n) 2 = y + 2 ^ n ∧ qX x (2 ^ n) 3 = x + 2 ^ n ∧ qY y (2 ^ n) 3 = y + 2 ^ n := by simp [qX, qY]
    obtain ⟨z1, z2, z3, z4, z5, z6, z7, z8⟩ := q
    rw [z1, z2, z3, z4, z5, z6, z7, z8] at hf
    rw [e2]
    rcases hf with ((hf | hf) | hf) | hf
    · have := lvs_in a n _ _ _ h.1 f hf; omega
    · have := lvs_in b n _ _ _ h.2.1 f hf; omega
    · have := lvs_in c n _ _ _ h.2.2.1 f hf; omega
    · have := lvs_in d n _ _ _ h.2.2.2 f hf; omega
def OfRet (w : World) (z : Int) (s : ByteArray) (e : Ending) (w' : World) : Prop := match opn z s with
  | some q => ∃ b ab l, e = .returned (.tuple #[.pointer (some ⟨b, 0, none⟩), .bool true]) ∧ w.Ext w' ∧ Img w' b ab (2 ^ q.1) (2 ^ q.1) l ∧ ∀ i j, i < 2 ^ q.1 → j < 2 ^ q.1 → lF (2 ^ q.1) l i j = q.2.on q.1 0 0 i j
  | none => e = .returned (.tuple #[.pointer none, .bool false]) ∧ w.Ext w'
def P8 (w : World) (p : Nat) (f : Lf) : Prop := w.cell? ⟨p, 0, none⟩ = some (.int .i64 f.x) ∧ w.cell? ⟨p, 1, none⟩ = some (.int .i64 f.y) ∧ w.cell? ⟨p, 2, none⟩ = some (.int .i64 f.m) ∧ w.cell? ⟨p, 3, none⟩ = some (.bool f.b)
set_option maxRecDepth 5000 in
set_option maxHeartbeats 3200000 in
theorem ofTree_any (z : Int) (s : ByteArray) (w : World) (hs : s.size ≤ 1048576) : Calls Try.prog 39 #[.agg #[.int .i64 z, .string s]] w (OfRet w z s) := by
  obtain ⟨W0, hW0⟩ : ∃ W0, W0 = w.alloc (.cells #[.int .i64 z, .string s] 29) := ⟨_, rfl⟩
  have hx0 : w.Ext W0 := by rw [hW0]; repeat (first | exact World.Ext.refl _ | exact ⟨_, rfl⟩ | assumption | refine World.Ext.over ?_ _ | refine World.Ext.drewN ?_ _ | refine World.Ext.drew ?_ | refine World.Ext.alloc ?_ _ | refine World.Ext.setCell ?_ (by simp) _)
  have d0 : W0.cell? ⟨w.heap.size, 0, none⟩ = some (.int .i64 z) := by rw [hW0]; simp [go_sem]
  have HLV := Lib.hid (leavesOf_any z s W0 hs)
  have HX0 := Lib.hid hx0
  clear hx0
  cases hop : opn z s with
  | none =>
    have HNO : Hid (∀ w', w.Ext w' → OfRet w z s (.returned (.tuple #[.pointer none, .bool false])) w') := fun w' hx => by unfold OfRet; rw [hop]; exact ⟨rfl, hx⟩
    have HOP := Lib.hid hop
    clear hop d0
    go_enter Try.func39, Try.ntmps39
    go_wp2_with fail
    rw [← hW0]
    clear hW0
    refine HLV.out.mono ?_
    rintro e w1 ⟨v, rfl, hx1, -⟩
    rw [HOP.out]
    have HX1 := Lib.hid (HX0.out.trans hx1)
    clear hx1
    go_wp2_with fail
    go_ret2
    exact HNO.out _ HX1.out
  | some q =>
    obtain ⟨n, T⟩ := q
    obtain ⟨hn4, hzn, hfit, -⟩ := opn_some hop
    obtain ⟨m, hm⟩ : ∃ m : Nat, m = 2 ^ n := ⟨_, rfl⟩
    rw [← hm] at hzn
    have hm16 : m ≤ 16 := by rw [hm]; exact Nat.pow_le_pow_right (by decide) hn4
    subst hzn
    have HIN : Hid (∀ f, f ∈ T.lvs n 0 0 ⟨#[]⟩ → f.x + f.m ≤ m ∧ f.y + f.m ≤ m) := fun f hf => by have := lvs_in T n 0 0 _ hfit f hf; omega
    have HPN : Hid (∀ i j, i < m → j < m → pnt false (T.lvs n 0 0 ⟨#[]⟩) i j = T.on n 0 0 i j) := fun i j hi hj => by
      rw [pnt_lvs T n 0 0 _ _ i j hfit, if_pos (inSq_yes (by omega))]
    have HYES : Hid (∀ (w' : World) (b ab : Nat) (l : List Bool), w.Ext w' → Img w' b ab m m l → (∀ i j, i < m → j < m → lF m l i j = T.on n 0 0 i j) → OfRet w (m : Int) s (.returned (.tuple #[.pointer (some ⟨b, 0, none⟩), .bool true])) w') := fun w' b ab l h1 h2 h3 => by
      unfold OfRet
      rw [hop]
      dsimp only
      rw [← hm]
      exact ⟨b, ab, l, rfl, h1, h2, h3⟩
    have HLL := lvs_len T n 0 0 ⟨#[]⟩ hfit
    have hll : (T.lvs n 0 0 ⟨#[]⟩).length ≤ 256 := Nat.le_trans HLL.2 (by match n, hn4 with | 0, _ => decide | 1, _ => decide | 2, _ => decide | 3, _ => decide | 4, _ => decide)
    have hl1 := HLL.1
    have HBL : Hid (∀ w', Calls Try.prog 48 #[.int .i64 m, .int .i64 m] w' (ImgRet w' m m (List.replicate (m * m) false))) := fun w' => blank_any m m w' (by omega) (by omega)
    have HOP := Lib.hid hop
    clear hop HLL hfit hm
    go_enter Try.func39, Try.ntmps39
    go_wp2_with fail
    rw [← hW0]
    clear hW0
    refine HLV.out.mono ?_
    rintro e w1 ⟨v, rfl, hx1, hown⟩
    have hown := hown n T HOP.out
    rw [HOP.out]
    have e0 := hx1.cell d0
    generalize T.lvs n 0 0 ⟨#[]⟩ = ls at *
    obtain ⟨g, cap, rfl⟩ : ∃ g cap, v = .slice (some ⟨g, 0, none⟩) ls.length cap := by
      rcases hown.2 with ⟨-, h0⟩ | ⟨g, cap, cur, h3, -⟩
      · omega
      · exact ⟨g, cap, h3⟩
    have hgl : g < w1.heap.size := ((World.ownsRow.lt hown) g rfl).2
    have HC1 : Hid (∀ k f, ls[k]? = some f → w1.cell? ⟨g, k * 5, none⟩ = some (.int .i64 f.x) ∧ w1.cell? ⟨g, k * 5 + 1, none⟩ = some (.int .i64 f.y) ∧ w1.cell? ⟨g, k * 5 + 2, none⟩ = some (.int .i64 f.m) ∧ w1.cell? ⟨g, k * 5 + 3, none⟩ = some (.bool f.b) ∧ w1.cell? ⟨g, k * 5 + 4, none⟩ = some (.string f.p)) := fun k f hf => by
      obtain ⟨h1, h2, h3, h4, h5⟩ := lfC_at ls k f hf
      have hk : k < ls.length := (List.getElem?_eq_some_iff.1 hf).1
      have at_ : ∀ i, i < 5 → w1.cell? ⟨g, k * 5 + i, none⟩ = (lfC ls)[k * 5 + i]? := fun i hi => by
        obtain ⟨b5, o5, h5, -, -, h6, -⟩ := World.ownsRow.own hown (i := k * 5 + i) (by omega)
        cases h5
        rw [Nat.zero_add] at h6
        exact h6
      have a0 := at_ 0 (by omega)
      rw [Nat.add_zero] at a0
      exact ⟨by rw [a0, h1], by rw [at_ 1 (by omega), h2], by rw [at_ 2 (by omega), h3], by rw [at_ 3 (by omega), h4], by rw [at_ 4 (by omega), h5]⟩
    have HX1 := Lib.hid (HX0.out.trans hx1)
    clear hx1 d0 hown HLV HX0 HOP
    go_wp2_with fail
    refine (HBL.out w1).mono ?_
    rintro e w2 ⟨b, ab, rfl, hx2, hi2, hlb, hlab⟩
    have HS0 : Hid (PnSt w1 b ab m (pnt false (ls.take 0)) w2) := ⟨hx2.wrote _, _, hi2, by rw [List.length_replicate], fun i j hi hj => by
      rw [List.getD_eq_getElem?_getD, List.getElem?_replicate]
      split <;> rfl⟩
    clear hx2 hi2 HBL e0
    go_wp2_with fail
    go_loopw [25] (fun v wr => ∃ k : Nat, k ≤ ls.length ∧ v = .int .i64 k ∧ Hid (PnSt w1 b ab m (pnt false (ls.take k)) wr)) (fun v _ => ls.length - (intOf v).toNat)
    case atStart => exact ⟨0, Nat.zero_le _, rfl, HS0⟩
    case round =>
      obtain ⟨k, hk, rfl, HS⟩ := hrel
      clear HS0
      obtain ⟨w3, rfl⟩ : ∃ w3 : World, w3 = wr := ⟨_, rfl⟩
      by_cases hlt : k < ls.length
      · have hlt' : (k : Int) < (ls.length : Int) := by omega
        have hk0 : (0 : Int) ≤ (k : Int) := by omega
        obtain ⟨f, hf⟩ : ∃ f, ls[k]? = some f := ⟨_, List.getElem?_eq_getElem hlt⟩
        have hng : ¬ (g = ab ∨ w1.heap.size ≤ g) := by omega
        obtain ⟨c0, c1, c2, c3, c4⟩ := HC1.out k f hf
        replace c0 := HS.out.wrote.cell c0 hng
        replace c1 := HS.out.wrote.cell c1 hng
        replace c2 := HS.out.wrote.cell c2 hng
        replace c3 := HS.out.wrote.cell c3 hng
        replace c4 := HS.out.wrote.cell c4 hng
        obtain ⟨hfx, hfy⟩ := HIN.out f (List.mem_of_getElem? hf)
        have HNXT : Hid (∀ i j, lfB f 0 f.m (pnt false (ls.take k)) i j = pnt false (ls.take (k + 1)) i j) := fun i j => by
          rw [lfB_all, List.take_add_one, hf, pnt_app]
          rfl
        obtain ⟨fx, fy, fm, fb, fp⟩ := f
        dsimp only at c0 c1 c2 c3 c4 hfx hfy
        obtain ⟨p8, hp8⟩ : ∃ p8, p8 = w3.heap.size := ⟨_, rfl⟩
        have hp8' : p8 ≠ ab := by
          obtain ⟨l0, hI0, -⟩ := HS.out.im
          have := hI0.px.lt
          omega
        go_wp2_with fail
        rw [← hp8]
        have HP8 := Lib.hid hp8
        clear hp8
        go_loopw [32] (fun v wr => ∃ bq : Nat, bq ≤ fm ∧ v = .int .i64 bq ∧ Hid (PnSt w1 b ab m (lfB ⟨fx, fy, fm, fb, fp⟩ 0 bq (pnt false (ls.take k))) wr) ∧ Hid (P8 wr p8 ⟨fx, fy, fm, fb, fp⟩)) (fun v _ => fm - (intOf v).toNat)
        case atStart =>
          refine ⟨0, Nat.zero_le _, rfl, (HS.out.ext ((World.Ext.refl _).alloc _)).congr fun i j _ _ => (lfB_zero i j).symm, ?_⟩
          have hp := HP8.out
          subst hp
          exact ⟨by simp [go_sem], by simp [go_sem], by simp [go_sem], by simp [go_sem]⟩
        case round =>
          obtain ⟨bq, hbq, rfl, HT, HP⟩ := hrel
          obtain ⟨w4, rfl⟩ : ∃ w4 : World, w4 = wr := ⟨_, rfl⟩
          clear HS c0 c1 c2 c3 c4
          by_cases hltb : bq < fm
          · have hltb' : (bq : Int) < (fm : Int) := by omega
            obtain ⟨s0, s1, s2, s3⟩ := HP.out
            dsimp only at s0 s1 s2 s3
            go_wp2_with fail
            clear s0 s1 s2 s3
            go_loopw [38] (fun v wr => ∃ a : Nat, a ≤ fm ∧ v = .int .i64 a ∧ Hid (PnSt w1 b ab m (lfB ⟨fx, fy, fm, fb, fp⟩ a bq (pnt false (ls.take k))) wr) ∧ Hid (P8 wr p8 ⟨fx, fy, fm, fb, fp⟩)) (fun v _ => fm - (intOf v).toNat)
            case atStart => exact ⟨0, Nat.zero_le _, rfl, HT, HP⟩
            case round =>
              clear HT HP
              obtain ⟨a, ha, rfl, HT, HP⟩ := hrel
              obtain ⟨w5, rfl⟩ : ∃ w5 : World, w5 = wr := ⟨_, rfl⟩
              by_cases hlta : a < fm
              · have hlta' : (a : Int) < (fm : Int) := by omega
                obtain ⟨s0, s1, s2, s3⟩ := HP.out
                dsimp only at s0 s1 s2 s3
                have HSET := Lib.hid (HT.out.set (by omega) (X := (fx : Int) + a) (Y := (fy : Int) + bq) (i0 := fx + a) (j0 := fy + bq) (by rw [Int.natCast_add]) (by rw [Int.natCast_add]) (by omega) (by omega) fb)
                go_wp2_with fail
                refine HSET.out.mono ?_
                rintro e w6 ⟨rfl, hS6, hw6⟩
                have HT6 : Hid (PnSt w1 b ab m (lfB ⟨fx, fy, fm, fb, fp⟩ (a + 1) bq (pnt false (ls.take k))) w6) := hS6.congr fun i j _ _ => (lfB_next (f := ⟨fx, fy, fm, fb, fp⟩) (a := a) (b := bq) (F := pnt false (ls.take k)) i j).symm
                have HP6 : Hid (P8 w6 p8 ⟨fx, fy, fm, fb, fp⟩) := ⟨hw6.cell s0 hp8', hw6.cell s1 hp8', hw6.cell s2 hp8', hw6.cell s3 hp8'⟩
                clear hS6 hw6 s0 s1 s2 s3 HT HP HSET
                go_wp2_with fail
                go_roundw
                case rel => exact ⟨a + 1, by omega, by go_num, HT6, HP6⟩
                case measure => simp [intOf]; omega
              · have : a = fm := by omega
                subst this
                have HT6 : Hid (PnSt w1 b ab m (lfB ⟨fx, fy, a, fb, fp⟩ 0 (bq + 1) (pnt false (ls.take k))) w5) := HT.out.congr fun i j _ _ => lfB_row i j
                clear HT
                go_wp2_with fail
                go_roundw
                case rel => exact ⟨bq + 1, by omega, by go_num, HT6, HP⟩
                case measure => simp [intOf]; omega
          · have : bq = fm := by omega
            subst this
            have HT6 : Hid (PnSt w1 b ab m (pnt false (ls.take (k + 1))) w4) := HT.out.congr fun i j _ _ => HNXT.out i j
            clear HT
            go_wp2_with fail
            go_roundw
            case rel => exact ⟨k + 1, by omega, by go_num, HT6⟩
            case measure => simp [intOf]; omega
      · have : k = ls.length := by omega
        subst this
        have h1 := HS.out
        rw [List.take_length] at h1
        obtain ⟨l, hI, hl⟩ := h1.im
        have hx : w.Ext w3 := HX1.out.wroteNew h1.wrote fun k hk hs => by have := HX1.out.size; omega
        have HY := Lib.hid (HYES.out w3 b ab l hx hI fun i j hi hj => by rw [← HPN.out i j hi hj]; exact hl.2 i j hi hj)
        clear hI hl h1 hx HS
        go_wp2_with fail
        go_ret2
        exact HY.out
end Go.Proofs.Ytkpgelhmeokemaa

/- Quadtrees: the implementation's TurnTree. -/
namespace Go.Proofs.Ytkpgelhmeokemaa
open Go Go.RowKit
theorem OfRet.none {w w' : World} {z : Int} {s : ByteArray} {e : Ending} (h : OfRet w z s e w') (ho : opn z s = .none) : e = .returned (.tuple #[.pointer .none, .bool false]) ∧ w.Ext w' := by unfold OfRet at h; rw [ho] at h; exact h
theorem OfRet.some {w w' : World} {z : Int} {s : ByteArray} {e : Ending} {n m : Nat} {T : QT} (h : OfRet w z s e w') (ho : opn z s = .some (n, T)) (hm : m = 2 ^ n) : ∃ b ab l, e = .returned (.tuple #[.pointer (.some ⟨b, 0, .none⟩), .bool true]) ∧ w.Ext w' ∧ Img w' b ab m m l ∧ ∀ i j, i < m → j < m → lF m l i j = T.on n 0 0 i j := by
  unfold OfRet at h; rw [ho] at h; subst hm; exact h
theorem optT_le {o : Option (Int × ByteArray)} (h : ∀ q, o = some q → q.2.size ≤ 426) : (optT o).2.size ≤ maxLen := by
  cases o with
  | none => show 0 ≤ maxLen; exact Nat.zero_le _
  | some q =>
    have := h q rfl
    show q.2.size ≤ maxLen
    unfold maxLen
    omega
theorem turn_bnd (z : Int) (s : ByteArray) (k : Int) : (optT (turnO z s k)).2.size ≤ maxLen := optT_le fun q h => by
  unfold turnO at h
  split at h
  · cases ho : opn z s with
    | none => rw [ho] at h; cases h
    | some p =>
      rw [ho] at h
      cases h
      exact txG_size _ (opn_some (n := p.1) (T := p.2) ho).1
  · cases h
end Go.Proofs.Ytkpgelhmeokemaa

/- Quadtrees: the tree of a picture; its text is read back; how many leaves it has. -/
namespace Go.Proofs.Ytkpgelhmeokemaa
open Go Go.RowKit
/-- The tree of a picture. -/
def qtr (f : Nat → Nat → Bool) : Nat → Nat → Nat → QT
  | 0, x, y => .leaf (f x y)
  | n + 1, x, y => if uni f (2 ^ (n + 1)) x y then .leaf (f x y) else .node (qtr f n x y) (qtr f n (x + 2 ^ n) y) (qtr f n x (y + 2 ^ n)) (qtr f n (x + 2 ^ n) (y + 2 ^ n))
theorem qtr_uni {f : Nat → Nat → Bool} {n x y : Nat} (h : uni f (2 ^ n) x y = true) : qtr f n x y = .leaf (f x y) := by
  cases n with
  | zero => rfl
  | succ n => show (if _ then _ else _) = _; rw [if_pos h]
theorem qtr_not {f : Nat → Nat → Bool} {n x y : Nat} (h : ¬ uni f (2 ^ (n + 1)) x y = true) : qtr f (n + 1) x y = .node (qtr f n x y) (qtr f n (x + 2 ^ n) y) (qtr f n x (y + 2 ^ n)) (qtr f n (x + 2 ^ n) (y + 2 ^ n)) := by
  show (if _ then _ else _) = _
  rw [if_neg h]
theorem qtr_leaf {f : Nat → Nat → Bool} {n x y : Nat} {v : Bool} (h : qtr f n x y = .leaf v) : uni f (2 ^ n) x y = true ∧ f x y = v := by
  by_cases hu : uni f (2 ^ n) x y = true
  · rw [qtr_uni hu] at h
    exact ⟨hu, by cases h; rfl⟩
  · cases n with
    | zero => exact absurd (uni_one f x y) hu
    | succ n => rw [qtr_not hu] at h; cases h
theorem qtr_text (f : Nat → Nat → Bool) : ∀ n x y, (qtr f n x y).text = qtext f n x y
  | 0, x, y => by rw [qtext_uni (uni_one f x y)]; rfl
  | n + 1, x, y => by
    by_cases h : uni f (2 ^ (n + 1)) x y = true
    · rw [qtr_uni h, qtext_uni h]; rfl
    · rw [qtr_not h, qtext_eq, if_neg h]
      show 40 :: _ = 40 :: _
      rw [qtr_text f n, qtr_text f n, qtr_text f n, qtr_text f n]
      rfl
theorem qtr_fits (f : Nat → Nat → Bool) : ∀ n x y, (qtr f n x y).fits n
  | 0, _, _ => trivial
  | n + 1, x, y => by
    by_cases h : uni f (2 ^ (n + 1)) x y = true
    · rw [qtr_uni h]; exact trivial
    · rw [qtr_not h]
      exact ⟨qtr_fits f n _ _, qtr_fits f n _ _, qtr_fits f n _ _, qtr_fits f n _ _⟩
theorem qtr_four {f : Nat → Nat → Bool} {n x y : Nat} (v : Bool) (h : ¬ uni f (2 ^ (n + 1)) x y = true) : four v (qtr f n x y) (qtr f n (x + 2 ^ n) y) (qtr f n x (y + 2 ^ n)) (qtr f n (x + 2 ^ n) (y + 2 ^ n)) = false := by
  rw [Bool.eq_false_iff]
  intro h4
  apply h
  simp only [four, Bool.and_eq_true] at h4
  obtain ⟨⟨⟨i1, i2⟩, i3⟩, i4⟩ := h4
  obtain ⟨u1, v1⟩ := qtr_leaf (QT.of_isB i1)
  obtain ⟨u2, v2⟩ := qtr_leaf (QT.of_isB i2)
  obtain ⟨u3, v3⟩ := qtr_leaf (QT.of_isB i3)
  obtain ⟨u4, v4⟩ := qtr_leaf (QT.of_isB i4)
  rw [Nat.pow_succ, Nat.mul_comm]
  exact uni_four u1 u2 u3 u4 (by rw [v1, v2]) (by rw [v1, v3]) (by rw [v1, v4])
theorem qtr_red (f : Nat → Nat → Bool) : ∀ n x y, (qtr f n x y).red = true
  | 0, _, _ => rfl
  | n + 1, x, y => by
    by_cases h : uni f (2 ^ (n + 1)) x y = true
    · rw [qtr_uni h]; rfl
    · rw [qtr_not h]
      unfold QT.red
      rw [qtr_red f n, qtr_red f n, qtr_red f n, qtr_red f n, qtr_four true h, qtr_four false h]
      rfl
theorem qtr_on (f : Nat → Nat → Bool) : ∀ n x y i j, x ≤ i → i < x + 2 ^ n → y ≤ j → j < y + 2 ^ n → (qtr f n x y).on n x y i j = f i j := by
  intro n
  induction n with
  | zero =>
    intro x y i j h1 h2 h3 h4
    have e1 : i = x := by simp at h2; omega
    have e2 : j = y := by simp at h4; omega
    subst e1 e2
    exact leaf_at _ _ _ _
  | succ n ih =>
    intro x y i j h1 h2 h3 h4
    by_cases h : uni f (2 ^ (n + 1)) x y = true
    · rw [qtr_uni h]
      show (f x y && inSq _ _ _ _ _) = _
      rw [inSq_yes ⟨h1, h2, h3, h4⟩, Bool.and_true]
      have := uni_iff.1 h (i - x) (j - y) (by omega) (by omega)
      rw [show x + (i - x) = i by omega, show y + (j - y) = j by omega] at this
      exact this.symm
    · rw [qtr_not h]
      have e2 : (2 : Nat) ^ (n + 1) = 2 * 2 ^ n := by rw [Nat.pow_succ]; omega
      rw [e2] at h2 h4
      show ((qtr f n x y).on n x y i j || (qtr f n (x + 2 ^ n) y).on n (x + 2 ^ n) y i j || (qtr f n x (y + 2 ^ n)).on n x (y + 2 ^ n) i j || (qtr f n (x + 2 ^ n) (y + 2 ^ n)).on n (x + 2 ^ n) (y + 2 ^ n) i j) = _
      by_cases hx : i < x + 2 ^ n <;> by_cases hy : j < y + 2 ^ n
      · rw [ih x y i j h1 hx h3 hy, QT.on_out _ n (x + 2 ^ n) y i j (qtr_fits _ _ _ _) (by omega), QT.on_out _ n x (y + 2 ^ n) i j (qtr_fits _ _ _ _) (by omega), QT.on_out _ n (x + 2 ^ n) (y + 2 ^ n) i j (qtr_fits _ _ _ _) (by omega)]
        simp
      · rw [ih x (y + 2 ^ n) i j h1 hx (by omega) (by omega), QT.on_out _ n x y i j (qtr_fits _ _ _ _) (by omega), QT.on_out _ n (x + 2 ^ n) y i j (qtr_fits _ _ _ _) (by omega), QT.on_out _ n (x + 2 ^ n) (y + 2 ^ n) i j (qtr_fits _ _ _ _) (by omega)]
        simp
      · rw [ih (x + 2 ^ n) y i j (by omega) (by omega) h3 hy, QT.on_out _ n x y i j (qtr_fits _ _ _ _) (by omega), QT.on_out _ n x (y + 2 ^ n) i j (qtr_fits _ _ _ _) (by omega), QT.on_out _ n (x + 2 ^ n) (y + 2 ^ n) i j (qtr_fits _ _ _ _) (by omega)]
        simp
      · rw [ih (x + 2 ^ n) (y + 2 ^ n) i j (by omega) (by omega) (by omega) (by omega), QT.on_out _ n x y i j (qtr_fits _ _ _ _) (by omega), QT.on_out _ n x (y + 2 ^ n) i j (qtr_fits _ _ _ _) (by omega), QT.on_out _ n (x + 2 ^ n) y i j (qtr_fits _ _ _ _) (by omega)]
        simp
theorem byt_drop {s : ByteArray} {k : Nat} {c : UInt8} {r : List UInt8} (h : s.data.toList.drop k = c :: r) : byt s k = c.toNat ∧ s.data.toList.drop (k + 1) = r := by
  have hl : k < s.data.toList.length := by
    rcases Nat.lt_or_ge k s.data.toList.length with h1 | h1
    · exact h1
    · rw [List.drop_eq_nil_of_le h1] at h; cases h
  have e := List.drop_eq_getElem_cons hl
  rw [h] at e
  injection e with e1 e2
  refine ⟨?_, e2.symm⟩
  have hs : k < s.size := by rw [← show s.data.toList.length = s.size by cases s; rfl]; exact hl
  unfold byt
  rw [dif_pos hs, e1]
  rfl
theorem parse_text (s : ByteArray) : ∀ (T : QT) (n k : Nat) (r : List UInt8), T.fits n → s.data.toList.drop k = T.text ++ r → parse s n k = some (T, k + T.text.length)
  | .leaf b, n, k, r, _, h => by
    obtain ⟨h1, -⟩ := byt_drop (show s.data.toList.drop k = tokB b :: r from h)
    have e : ∀ g, leafF s g k = some (.leaf b, k + 1) := fun g => by
      unfold leafF
      cases b
      · rw [h1]; rfl
      · rw [h1]; rfl
    cases n <;> exact e _
  | .node a b c d, 0, _, _, hf, _ => hf.elim
  | .node a b c d, n + 1, k, r, hf, h => by
    obtain ⟨f1, f2, f3, f4⟩ := hf
    have h : s.data.toList.drop k = 40 :: (a.text ++ (b.text ++ (c.text ++ (d.text ++ 41 :: r)))) := by rw [h]; simp [QT.text]
    obtain ⟨h0, h⟩ := byt_drop h
    have dr : ∀ (j : Nat) (u v : List UInt8), s.data.toList.drop j = u ++ v → s.data.toList.drop (j + u.length) = v := fun j u v e => by rw [← List.drop_drop, e, List.drop_left]
    have p1 := parse_text s a n _ _ f1 h
    have h := dr _ _ _ h
    have p2 := parse_text s b n _ _ f2 h
    have h := dr _ _ _ h
    have p3 := parse_text s c n _ _ f3 h
    have h := dr _ _ _ h
    have p4 := parse_text s d n _ _ f4 h
    have h := dr _ _ _ h
    obtain ⟨h5, -⟩ := byt_drop h
    show leafF s (nodeF s (parse s n)) k = _
    unfold leafF
    rw [if_neg (by rw [h0]; decide), if_neg (by rw [h0]; decide), if_pos (by rw [h0]; rfl)]
    unfold nodeF
    simp only [p1, p2, p3, p4, nxtF, Option.bind_some, pT]
    rw [if_pos (by rw [h5]; rfl)]
    simp only [QT.text, List.length_cons, List.length_append, List.length_nil, Option.some.injEq, Prod.mk.injEq, true_and]
    omega
theorem lgN_pow {n : Nat} (h : n ≤ 4) : lgN ((2 ^ n : Nat) : Int) = n ∧ sdOk ((2 ^ n : Nat) : Int) = true := by
  match n, h with
  | 0, _ => exact ⟨rfl, rfl⟩
  | 1, _ => exact ⟨rfl, rfl⟩
  | 2, _ => exact ⟨rfl, rfl⟩
  | 3, _ => exact ⟨rfl, rfl⟩
  | 4, _ => exact ⟨rfl, rfl⟩
/-- The text of a picture's tree is read as the picture's tree. -/
theorem opn_tx {n : Nat} (hn : n ≤ 4) (f : Nat → Nat → Bool) : opn ((2 ^ n : Nat) : Int) (txB (qtext f n 0 0)) = some (n, qtr f n 0 0) := by
  obtain ⟨h1, h2⟩ := lgN_pow hn
  have hp := parse_text (txB (qtext f n 0 0)) (qtr f n 0 0) n 0 [] (qtr_fits _ _ _ _) (by rw [List.drop_zero, List.append_nil, qtr_text]; rfl)
  rw [Nat.zero_add, qtr_text] at hp
  unfold opn
  rw [if_pos h2, h1, hp]
  dsimp only
  rw [if_pos ⟨by rw [txB_size], qtr_red _ _ _ _⟩]
/-- How many leaves a text has. -/
def cntT (l : List UInt8) : Nat := (l.filter fun b => b == 35 || b == 46).length
theorem cntT_app (a b : List UInt8) : cntT (a ++ b) = cntT a + cntT b := by unfold cntT; rw [List.filter_append, List.length_append]
theorem lvs_cnt : ∀ (T : QT) (n x y : Nat) (p : ByteArray), T.fits n → (T.lvs n x y p).length = cntT T.text
  | .leaf b, n, x, y, p, _ => by cases b <;> rfl
  | .node a b c d, 0, _, _, _, h => h.elim
  | .node a b c d, n + 1, x, y, p, h => by
    have h1 := lvs_cnt a n (qX x (2 ^ n) 0) (qY y (2 ^ n) 0) (pth p 0) h.1
    have h2 := lvs_cnt b n (qX x (2 ^ n) 1) (qY y (2 ^ n) 1) (pth p 1) h.2.1
    have h3 := lvs_cnt c n (qX x (2 ^ n) 2) (qY y (2 ^ n) 2) (pth p 2) h.2.2.1
    have h4 := lvs_cnt d n (qX x (2 ^ n) 3) (qY y (2 ^ n) 3) (pth p 3) h.2.2.2
    simp only [QT.lvs, Nat.add_sub_cancel, List.length_append]
    rw [h1, h2, h3, h4]
    show _ = cntT ([40] ++ (a.text ++ b.text ++ c.text ++ d.text ++ [41]))
    simp only [cntT_app]
    show _ = 0 + (_ + 0)
    omega
end Go.Proofs.Ytkpgelhmeokemaa

/- Quadtrees: leaves of inverted and turned pictures, what leaves cover, that no four are one. -/
namespace Go.Proofs.Ytkpgelhmeokemaa
open Go Go.RowKit
/-- How many leaves a picture has. -/
def lcN (f : Nat → Nat → Bool) : Nat → Nat → Nat → Nat
  | 0, _, _ => 1
  | n + 1, x, y => if uni f (2 ^ (n + 1)) x y then 1 else lcN f n x y + lcN f n (x + 2 ^ n) y + lcN f n x (y + 2 ^ n) + lcN f n (x + 2 ^ n) (y + 2 ^ n)
theorem qtr_lcN (f : Nat → Nat → Bool) : ∀ n x y x' y' p, ((qtr f n x y).lvs n x' y' p).length = lcN f n x y
  | 0, _, _, _, _, _ => rfl
  | n + 1, x, y, x', y', p => by
    show _ = if _ then _ else _
    by_cases h : uni f (2 ^ (n + 1)) x y = true
    · rw [qtr_uni h, if_pos h]; rfl
    · rw [qtr_not h, if_neg h]
      simp only [QT.lvs, Nat.add_sub_cancel, List.length_append]
      rw [qtr_lcN f n, qtr_lcN f n, qtr_lcN f n, qtr_lcN f n]
theorem uni_iff2 {f : Nat → Nat → Bool} {m x y : Nat} : uni f m x y = true ↔ ∃ v, ∀ i j, i < m → j < m → f (x + i) (y + j) = v := by
  rw [uni_iff]
  refine ⟨fun h => ⟨_, h⟩, fun ⟨v, h⟩ i j hi hj => ?_⟩
  rw [h i j hi hj]
  exact (h 0 0 (by omega) (by omega)).symm
theorem uni_eq {f g : Nat → Nat → Bool} {m x y x' y' : Nat} (h : uni f m x y = true ↔ uni g m x' y' = true) : uni f m x y = uni g m x' y' := by rw [Bool.eq_iff_iff]; exact h
theorem lcN_not (f : Nat → Nat → Bool) : ∀ n x y, lcN (fun i j => !f i j) n x y = lcN f n x y
  | 0, _, _ => rfl
  | n + 1, x, y => by
    have e : uni (fun i j => !f i j) (2 ^ (n + 1)) x y = uni f (2 ^ (n + 1)) x y := uni_eq (by
      rw [uni_iff, uni_iff]
      refine forall_congr' fun i => forall_congr' fun j => imp_congr_right fun _ => imp_congr_right fun _ => ?_
      cases f (x + i) (y + j) <;> cases f x y <;> simp)
    show (if _ then _ else _) = if _ then _ else _
    rw [e, lcN_not f n, lcN_not f n, lcN_not f n, lcN_not f n]
theorem lcN_turn0 (f : Nat → Nat → Bool) (m : Nat) : ∀ n x y, x + 2 ^ n ≤ m → y + 2 ^ n ≤ m → lcN (trnF 0 m f) n x y = lcN f n (m - x - 2 ^ n) y
  | 0, _, _, _, _ => rfl
  | n + 1, x, y, hx, hy => by
    have e2 : (2 : Nat) ^ (n + 1) = 2 * 2 ^ n := by rw [Nat.pow_succ]; omega
    have e : uni (trnF 0 m f) (2 ^ (n + 1)) x y = uni f (2 ^ (n + 1)) (m - x - 2 ^ (n + 1)) y := uni_eq (by
      rw [uni_iff2, uni_iff2]
      refine exists_congr fun v => ⟨fun h i j hi hj => ?_, fun h i j hi hj => ?_⟩
      · rw [← h (2 ^ (n + 1) - 1 - i) j (by omega) hj]
        show _ = f _ _
        congr 1; omega
      · rw [← h (2 ^ (n + 1) - 1 - i) j (by omega) hj]
        show f _ _ = _
        congr 1; omega)
    rw [e2] at hx hy
    show (if _ then _ else _) = if _ then _ else _
    rw [e, e2, lcN_turn0 f m n _ _ (by omega) (by omega), lcN_turn0 f m n _ _ (by omega) (by omega), lcN_turn0 f m n _ _ (by omega) (by omega), lcN_turn0 f m n _ _ (by omega) (by omega),
      show m - x - 2 ^ n = m - x - 2 * 2 ^ n + 2 ^ n by omega, show m - (x + 2 ^ n) - 2 ^ n = m - x - 2 * 2 ^ n by omega]
    exact ite_congr rfl (fun _ => rfl) (fun _ => by omega)
theorem lcN_turn1 (f : Nat → Nat → Bool) (m : Nat) : ∀ n x y, x + 2 ^ n ≤ m → y + 2 ^ n ≤ m → lcN (trnF 1 m f) n x y = lcN f n x (m - y - 2 ^ n)
  | 0, _, _, _, _ => rfl
  | n + 1, x, y, hx, hy => by
    have e2 : (2 : Nat) ^ (n + 1) = 2 * 2 ^ n := by rw [Nat.pow_succ]; omega
    have e : uni (trnF 1 m f) (2 ^ (n + 1)) x y = uni f (2 ^ (n + 1)) x (m - y - 2 ^ (n + 1)) := uni_eq (by
      rw [uni_iff2, uni_iff2]
      refine exists_congr fun v => ⟨fun h i j hi hj => ?_, fun h i j hi hj => ?_⟩
      · rw [← h i (2 ^ (n + 1) - 1 - j) hi (by omega)]
        show _ = f _ _
        congr 1; omega
      · rw [← h i (2 ^ (n + 1) - 1 - j) hi (by omega)]
        show f _ _ = _
        congr 1; omega)
    rw [e2] at hx hy
    show (if _ then _ else _) = if _ then _ else _
    rw [e, e2, lcN_turn1 f m n _ _ (by omega) (by omega), lcN_turn1 f m n _ _ (by omega) (by omega), lcN_turn1 f m n _ _ (by omega) (by omega), lcN_turn1 f m n _ _ (by omega) (by omega),
      show m - y - 2 ^ n = m - y - 2 * 2 ^ n + 2 ^ n by omega, show m - (y + 2 ^ n) - 2 ^ n = m - y - 2 * 2 ^ n by omega]
    exact ite_congr rfl (fun _ => rfl) (fun _ => by omega)
theorem lcN_turn2 (f : Nat → Nat → Bool) (m : Nat) : ∀ n x y, lcN (trnF 2 m f) n x y = lcN f n y x
  | 0, _, _ => rfl
  | n + 1, x, y => by
    have e : uni (trnF 2 m f) (2 ^ (n + 1)) x y = uni f (2 ^ (n + 1)) y x := uni_eq (by
      rw [uni_iff2, uni_iff2]
      exact exists_congr fun v => ⟨fun h i j hi hj => h j i hj hi, fun h i j hi hj => h j i hj hi⟩)
    show (if _ then _ else _) = if _ then _ else _
    rw [e, lcN_turn2 f m n, lcN_turn2 f m n, lcN_turn2 f m n, lcN_turn2 f m n]
    exact ite_congr rfl (fun _ => rfl) (fun _ => by omega)
theorem lcN_turn3 (f : Nat → Nat → Bool) (m : Nat) : ∀ n x y, x + 2 ^ n ≤ m → y + 2 ^ n ≤ m → lcN (trnF 3 m f) n x y = lcN f n y (m - x - 2 ^ n)
  | 0, _, _, _, _ => rfl
  | n + 1, x, y, hx, hy => by
    have e2 : (2 : Nat) ^ (n + 1) = 2 * 2 ^ n := by rw [Nat.pow_succ]; omega
    have e : uni (trnF 3 m f) (2 ^ (n + 1)) x y = uni f (2 ^ (n + 1)) y (m - x - 2 ^ (n + 1)) := uni_eq (by
      rw [uni_iff2, uni_iff2]
      refine exists_congr fun v => ⟨fun h i j hi hj => ?_, fun h i j hi hj => ?_⟩
      · rw [← h (2 ^ (n + 1) - 1 - j) i (by omega) hi]
        show _ = f _ _
        congr 1; omega
      · rw [← h j (2 ^ (n + 1) - 1 - i) hj (by omega)]
        show f _ _ = _
        congr 1; omega)
    rw [e2] at hx hy
    show (if _ then _ else _) = if _ then _ else _
    rw [e, e2, lcN_turn3 f m n _ _ (by omega) (by omega), lcN_turn3 f m n _ _ (by omega) (by omega), lcN_turn3 f m n _ _ (by omega) (by omega), lcN_turn3 f m n _ _ (by omega) (by omega),
      show m - x - 2 ^ n = m - x - 2 * 2 ^ n + 2 ^ n by omega, show m - (x + 2 ^ n) - 2 ^ n = m - x - 2 * 2 ^ n by omega]
    exact ite_congr rfl (fun _ => rfl) (fun _ => by omega)
/-- Turning keeps the number of leaves. -/
theorem lcN_turn (f : Nat → Nat → Bool) (k n : Nat) (hk : k ≤ 3) : lcN (trnF k (2 ^ n) f) n 0 0 = lcN f n 0 0 := by
  match k, hk with
  | 0, _ => rw [lcN_turn0 f _ n 0 0 (by omega) (by omega), show 2 ^ n - 0 - 2 ^ n = 0 by omega]
  | 1, _ => rw [lcN_turn1 f _ n 0 0 (by omega) (by omega), show 2 ^ n - 0 - 2 ^ n = 0 by omega]
  | 2, _ => rw [lcN_turn2]
  | 3, _ => rw [lcN_turn3 f _ n 0 0 (by omega) (by omega), show 2 ^ n - 0 - 2 ^ n = 0 by omega]
theorem turn_four {m : Nat} {f : Nat → Nat → Bool} {i j : Nat} (hi : i < m) (hj : j < m) : trnF 3 m (trnF 3 m (trnF 3 m (trnF 3 m f))) i j = f i j := by
  show f _ _ = _
  congr 1 <;> omega
/-- How many leaves have a pixel. -/
def cvr (ls : List Lf) (i j : Nat) : Nat := (ls.filter fun f => inSq f.m f.x f.y i j).length
theorem cvr_app (a b : List Lf) (i j : Nat) : cvr (a ++ b) i j = cvr a i j + cvr b i j := by unfold cvr; rw [List.filter_append, List.length_append]
theorem qXY (x y h : Nat) : qX x h 0 = x ∧ qY y h 0 = y ∧ qX x h 1 = x + h ∧ qY y h 1 = y ∧ qX x h 2 = x ∧ qY y h 2 = y + h ∧ qX x h 3 = x + h ∧ qY y h 3 = y + h := by simp [qX, qY]
theorem lvs_node (a b c d : QT) (n x y : Nat) (p : ByteArray) : (QT.node a b c d).lvs (n + 1) x y p = a.lvs n x y (pth p 0) ++ b.lvs n (x + 2 ^ n) y (pth p 1) ++ c.lvs n x (y + 2 ^ n) (pth p 2) ++ d.lvs n (x + 2 ^ n) (y + 2 ^ n) (pth p 3) := by
  obtain ⟨z1, z2, z3, z4, z5, z6, z7, z8⟩ := qXY x y (2 ^ n)
  rw [QT.lvs, Nat.add_sub_cancel, z1, z2, z3, z4, z5, z6, z7, z8]
def b2n (b : Bool) : Nat := if b then 1 else 0
theorem inSq_four (x y h i j : Nat) : b2n (inSq h x y i j) + b2n (inSq h (x + h) y i j) + b2n (inSq h x (y + h) i j) + b2n (inSq h (x + h) (y + h) i j) = b2n (inSq (2 * h) x y i j) := by
  unfold inSq b2n
  simp only [decide_eq_true_eq]
  repeat' split
  all_goals omega
/-- Each pixel of a square is in just one leaf. -/
theorem cvr_lvs : ∀ (T : QT) (n x y : Nat) (p : ByteArray) (i j : Nat), T.fits n → cvr (T.lvs n x y p) i j = b2n (inSq (2 ^ n) x y i j)
  | .leaf b, n, x, y, p, i, j, _ => by
    show (List.filter _ [_]).length = _
    cases h : inSq (2 ^ n) x y i j <;> simp [h, b2n]
  | .node a b c d, 0, _, _, _, _, _, h => h.elim
  | .node a b c d, n + 1, x, y, p, i, j, h => by
    rw [lvs_node, cvr_app, cvr_app, cvr_app, cvr_lvs a n _ _ _ i j h.1, cvr_lvs b n _ _ _ i j h.2.1, cvr_lvs c n _ _ _ i j h.2.2.1, cvr_lvs d n _ _ _ i j h.2.2.2, inSq_four, Nat.pow_succ, Nat.mul_comm]
/-- A pixel has the colour of its leaf. -/
theorem lvs_col : ∀ (T : QT) (n x y : Nat) (p : ByteArray) (i j : Nat), T.fits n → ∀ f, f ∈ T.lvs n x y p → inSq f.m f.x f.y i j = true → T.on n x y i j = f.b
  | .leaf b, n, x, y, p, i, j, _, f, hf, hs => by
    simp [QT.lvs] at hf
    subst hf
    show (b && _) = b
    rw [show inSq (2 ^ n) x y i j = true from hs, Bool.and_true]
  | .node a b c d, 0, _, _, _, _, _, h, _, _, _ => h.elim
  | .node a b c d, n + 1, x, y, p, i, j, h, f, hf, hs => by
    obtain ⟨o1, o2, o3, o4⟩ := QT.on_q (i := i) (j := j) (x := x) (y := y) h
    rw [lvs_node] at hf
    simp only [List.mem_append] at hf
    have hs' := of_decide_eq_true hs
    have lo : ∀ (T : QT) (x y : Nat) (p : ByteArray), T.fits n → f ∈ T.lvs n x y p → x ≤ f.x ∧ y ≤ f.y := fun T x y p ht hm => by
      have hc := cvr_lvs T n x y p f.x f.y ht
      have hp : 0 < cvr (T.lvs n x y p) f.x f.y := List.length_pos_of_mem (List.mem_filter.2 ⟨hm, inSq_yes (by omega)⟩)
      rw [hc] at hp
      unfold b2n at hp
      split at hp
      · rename_i h1
        have := of_decide_eq_true h1
        omega
      · omega
    rcases hf with ((hf | hf) | hf) | hf
    · have h1 := lvs_in a n _ _ _ h.1 f hf
      have h2 := lo a _ _ _ h.1 hf
      rw [o1 (by omega) (by omega) (by omega) (by omega)]
      exact lvs_col a n _ _ _ i j h.1 f hf hs
    · have h1 := lvs_in b n _ _ _ h.2.1 f hf
      have h2 := lo b _ _ _ h.2.1 hf
      rw [o2 (by omega) (by omega) (by omega) (by omega)]
      exact lvs_col b n _ _ _ i j h.2.1 f hf hs
    · have h1 := lvs_in c n _ _ _ h.2.2.1 f hf
      have h2 := lo c _ _ _ h.2.2.1 hf
      rw [o3 (by omega) (by omega) (by omega) (by omega)]
      exact lvs_col c n _ _ _ i j h.2.2.1 f hf hs
    · have h1 := lvs_in d n _ _ _ h.2.2.2 f hf
      have h2 := lo d _ _ _ h.2.2.2 hf
      rw [o4 (by omega) (by omega) (by omega) (by omega)]
      exact lvs_col d n _ _ _ i j h.2.2.2 f hf hs
/-- The black area of leaves. -/
def arL (ls : List Lf) : Nat := (ls.map fun f => if f.b then f.m * f.m else 0).sum
theorem arL_app (a b : List Lf) : arL (a ++ b) = arL a + arL b := by unfold arL; rw [List.map_append, List.sum_append]
def sqC (f : Nat → Nat → Bool) (h x y : Nat) : Nat := sumN (fun j => sumN (fun i => b2n (f (x + i) (y + j))) h) h
theorem sqC_four (f : Nat → Nat → Bool) (h x y : Nat) : sqC f (2 * h) x y = sqC f h x y + sqC f h (x + h) y + sqC f h x (y + h) + sqC f h (x + h) (y + h) := by
  unfold sqC
  rw [show 2 * h = h + h by omega, sumN_more]
  have e : ∀ g : Nat → Nat, sumN g (h + h) = sumN g h + sumN (fun x => g (h + x)) h := fun g => sumN_more g h h
  rw [sumN_congr h (fun j _ => e _), sumN_congr h (f := fun j => sumN _ (h + h)) (fun j _ => e _), sumN_add, sumN_add]
  simp only [Nat.add_assoc]
theorem sqC_congr {f g : Nat → Nat → Bool} {h x y : Nat} (e : ∀ i j, x ≤ i → i < x + h → y ≤ j → j < y + h → f i j = g i j) : sqC f h x y = sqC g h x y :=
  sumN_congr h fun j hj => sumN_congr h fun i hi => by rw [e _ _ (by omega) (by omega) (by omega) (by omega)]
theorem sumN_const (c : Nat) : ∀ n, sumN (fun _ => c) n = n * c
  | 0 => by simp [sumN]
  | n + 1 => by show sumN _ n + c = _; rw [sumN_const c n, Nat.succ_mul]
theorem arL_lvs : ∀ (T : QT) (n x y : Nat) (p : ByteArray), T.fits n → arL (T.lvs n x y p) = sqC (fun i j => T.on n x y i j) (2 ^ n) x y
  | .leaf b, n, x, y, p, _ => by
    have e : sqC (fun i j => (QT.leaf b).on n x y i j) (2 ^ n) x y = sqC (fun _ _ => b) (2 ^ n) x y := sqC_congr fun i j h1 h2 h3 h4 => by
      show (b && _) = b
      rw [inSq_yes ⟨h1, h2, h3, h4⟩, Bool.and_true]
    rw [e]
    show (if b then 2 ^ n * 2 ^ n else 0) + 0 = _
    unfold sqC
    rw [sumN_const, sumN_const]
    cases b <;> simp [b2n]
  | .node a b c d, 0, _, _, _, h => h.elim
  | .node a b c d, n + 1, x, y, p, h => by
    have e2 : (2 : Nat) ^ (n + 1) = 2 * 2 ^ n := by rw [Nat.pow_succ]; omega
    rw [lvs_node, arL_app, arL_app, arL_app, arL_lvs a n _ _ _ h.1, arL_lvs b n _ _ _ h.2.1, arL_lvs c n _ _ _ h.2.2.1, arL_lvs d n _ _ _ h.2.2.2, e2, sqC_four]
    rw [sqC_congr (f := fun i j => (QT.node a b c d).on (n + 1) x y i j) (g := fun i j => a.on n x y i j) (x := x) (y := y) fun i j h1 h2 h3 h4 => (QT.on_q h).1 h1 h2 h3 h4,
      sqC_congr (f := fun i j => (QT.node a b c d).on (n + 1) x y i j) (g := fun i j => b.on n (x + 2 ^ n) y i j) (x := x + 2 ^ n) (y := y) fun i j h1 h2 h3 h4 => (QT.on_q h).2.1 h1 h2 h3 h4,
      sqC_congr (f := fun i j => (QT.node a b c d).on (n + 1) x y i j) (g := fun i j => c.on n x (y + 2 ^ n) i j) (x := x) (y := y + 2 ^ n) fun i j h1 h2 h3 h4 => (QT.on_q h).2.2.1 h1 h2 h3 h4,
      sqC_congr (f := fun i j => (QT.node a b c d).on (n + 1) x y i j) (g := fun i j => d.on n (x + 2 ^ n) (y + 2 ^ n) i j) (x := x + 2 ^ n) (y := y + 2 ^ n) fun i j h1 h2 h3 h4 => (QT.on_q h).2.2.2 h1 h2 h3 h4]
end Go.Proofs.Ytkpgelhmeokemaa
