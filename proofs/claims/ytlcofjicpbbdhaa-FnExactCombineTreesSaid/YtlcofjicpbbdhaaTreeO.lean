/- Quadtrees: the implementation's image of a tree. -/
import Derived.Test.YtlcofjicpbbdhaaTreeN
namespace Go.Proofs.Ytlcofjicpbbdhaa
open Go Go.RowKit
theorem lfC_at : ∀ (ls : List Lf) (k : Nat) (f : Lf), ls[k]? = some f → (lfC ls)[k * 5]? = some (.int .i64 f.x) ∧ (lfC ls)[k * 5 + 1]? = some (.int .i64 f.y) ∧ (lfC ls)[k * 5 + 2]? = some (.int .i64 f.m) ∧ (lfC ls)[k * 5 + 3]? = some (.bool f.b) ∧ (lfC ls)[k * 5 + 4]? = some (.string f.p)
  | [], k, f, h => by simp at h
  | g :: ls, 0, f, h => by
    simp at h
    subst h
    simp [lfC, lfV]
  | g :: ls, k + 1, f, h => by
    have h' : ls[k]? = some f := by simpa using h
    obtain ⟨h1, h2, h3, h4, h5⟩ := lfC_at ls k f h'
    have e : lfC (g :: ls) = lfV g ++ lfC ls := rfl
    have hl : (lfV g).length = 5 := rfl
    have sh : ∀ i, (lfC (g :: ls))[(k + 1) * 5 + i]? = (lfC ls)[k * 5 + i]? := fun i => by
      rw [e, List.getElem?_append_right (by rw [hl]; omega), hl]
      congr 1
      omega
    have s0 := sh 0
    simp only [Nat.add_zero] at s0
    exact ⟨by rw [s0]; exact h1, by rw [sh 1]; exact h2, by rw [sh 2]; exact h3, by rw [sh 3]; exact h4, by rw [sh 4]; exact h5⟩
/-- An image under way: its pixels by what they show. -/
structure PnSt (w : World) (b ab m : Nat) (F : Nat → Nat → Bool) (wr : World) : Prop where
  wrote : Wrote (fun k => k = ab ∨ w.heap.size ≤ k) w wr
  im : ∃ l, Img wr b ab m m l ∧ PtL m l F
theorem PnSt.ext {w : World} {b ab m : Nat} {F : Nat → Nat → Bool} {wr w' : World} (h : PnSt w b ab m F wr) (hx : wr.Ext w') : PnSt w b ab m F w' := by
  obtain ⟨l, h1, h2⟩ := h.im
  exact ⟨h.wrote.trans (hx.wrote _), l, h1.ext hx, h2⟩
theorem PnSt.congr {w : World} {b ab m : Nat} {F G : Nat → Nat → Bool} {wr : World} (h : PnSt w b ab m F wr) (e : ∀ i j, i < m → j < m → F i j = G i j) : PnSt w b ab m G wr := by
  obtain ⟨l, h1, h2⟩ := h.im
  exact ⟨h.wrote, l, h1, h2.congr e⟩
theorem PnSt.set {w : World} {b ab m : Nat} {F : Nat → Nat → Bool} {wr : World} (h : PnSt w b ab m F wr) (hm : m ≤ 64) {X Y : Int} {i0 j0 : Nat} (hX : X = i0) (hY : Y = j0) (hi : i0 < m) (hj : j0 < m) (v : Bool) :
    Calls Try.prog 186 #[.pointer (some ⟨b, 0, none⟩), .int .i64 X, .int .i64 Y, .bool v] wr fun e w' => e = .returned (.tuple #[]) ∧ PnSt w b ab m (fun i j => if i = i0 ∧ j = j0 then v else F i j) w' ∧ Wrote (fun k => k = ab) wr w' := by
  obtain ⟨l, hI, hl⟩ := h.im
  subst hX hY
  refine (set_any b ab m m l i0 j0 v wr hm hm hI (by omega) (by omega) (by omega) (by omega)).mono fun e w' hq => ?_
  obtain ⟨rfl, hw, hI'⟩ := hq
  have e : ((j0 : Int) * m + i0).toNat = j0 * m + i0 := by
    have : ((j0 : Int) * m + i0) = ((j0 * m + i0 : Nat) : Int) := by simp [Int.natCast_add, Int.natCast_mul]
    rw [this]; rfl
  rw [e] at hI'
  exact ⟨rfl, ⟨h.wrote.trans (hw.mono fun k _ hk => .inl hk), _, hI', hl.set hi hj v⟩, hw⟩
/-- A leaf under way: rows ahead of b, and a pixels of the next row. -/
def lfB (f : Lf) (a b : Nat) (F : Nat → Nat → Bool) (i j : Nat) : Bool := if sqB f.x f.y a b f.m i j then f.b else F i j
/-- The loops over one leaf's square, its cells at p. -/
theorem lfB_next {f : Lf} {a b : Nat} {F : Nat → Nat → Bool} (i j : Nat) : lfB f (a + 1) b F i j = if i = f.x + a ∧ j = f.y + b then f.b else lfB f a b F i j := by
  unfold lfB
  by_cases hij : i = f.x + a ∧ j = f.y + b
  · rw [if_pos hij, sqB, show decide (j = f.y + b ∧ f.x ≤ i ∧ i < f.x + (a + 1)) = true from decide_eq_true (by omega)]
    simp
  · rw [if_neg hij]
    have e : sqB f.x f.y (a + 1) b f.m i j = sqB f.x f.y a b f.m i j := by
      unfold sqB
      congr 1
      exact decide_eq_decide.2 (by omega)
    rw [e]
theorem lfB_row {f : Lf} {b : Nat} {F : Nat → Nat → Bool} (i j : Nat) : lfB f f.m b F i j = lfB f 0 (b + 1) F i j := by
  unfold lfB
  have e : sqB f.x f.y f.m b f.m i j = sqB f.x f.y 0 (b + 1) f.m i j := by
    unfold sqB
    rw [← Bool.decide_or, ← Bool.decide_or]
    exact decide_eq_decide.2 (by omega)
  rw [e]
theorem lfB_zero {f : Lf} {F : Nat → Nat → Bool} (i j : Nat) : lfB f 0 0 F i j = F i j := by
  unfold lfB
  rw [sqB, decide_eq_false (by omega), decide_eq_false (by omega)]
  simp
theorem lfB_all {f : Lf} {F : Nat → Nat → Bool} (i j : Nat) : lfB f 0 f.m F i j = if inSq f.m f.x f.y i j then f.b else F i j := by
  unfold lfB
  have e : sqB f.x f.y 0 f.m f.m i j = inSq f.m f.x f.y i j := by
    unfold sqB inSq
    rw [show decide (j = f.y + f.m ∧ f.x ≤ i ∧ i < f.x + 0) = false from decide_eq_false (by omega), Bool.or_false]
    exact decide_eq_decide.2 (by omega)
  rw [e]
theorem lvs_in : ∀ (T : QT) (n x y : Nat) (p : ByteArray), T.fits n → ∀ f, f ∈ T.lvs n x y p → f.x + f.m ≤ x + 2 ^ n ∧ f.y + f.m ≤ y + 2 ^ n
  | .leaf b, n, x, y, p, _, f, hf => by
    simp [QT.lvs] at hf
    subst hf
    exact ⟨Nat.le_refl _, Nat.le_refl _⟩
  | .node a b c d, 0, _, _, _, h, _, _ => h.elim
  | .node a b c d, n + 1, x, y, p, h, f, hf => by
    have e2 : (2 : Nat) ^ (n + 1) = 2 * 2 ^ n := by rw [Nat.pow_succ]; omega
    simp only [QT.lvs, Nat.add_sub_cancel, List.mem_append] at hf
    have q : qX x (2 ^ n) 0 = x ∧ qY y (2 ^ n) 0 = y ∧ qX x (2 ^ n) 1 = x + 2 ^ n ∧ qY y (2 ^ n) 1 = y ∧ qX x (2 ^ n) 2 = x ∧ qY y (2 ^ n) 2 = y + 2 ^ n ∧ qX x (2 ^ n) 3 = x + 2 ^ n ∧ qY y (2 ^ n) 3 = y + 2 ^ n := by simp [qX, qY]
    obtain ⟨z1, z2, z3, z4, z5, z6, z7, z8⟩ := q
    rw [z1, z2, z3, z4, z5, z6, z7, z8] at hf
    rw [e2]
    rcases hf with ((hf | hf) | hf) | hf
    · have := lvs_in a n _ _ _ h.1 f hf; omega
    · have := lvs_in b n _ _ _ h.2.1 f hf; omega
    · have := lvs_in c n _ _ _ h.2.2.1 f hf; omega
    · have := lvs_in d n _ _ _ h.2.2.2 f hf; omega
def OfRet (w : World) (z : Int) (s : ByteArray) (e : Ending) (w' : World) : Prop := match opn z s with
  | some q => ∃ b ab l, e = .returned (.tuple #[.pointer (some ⟨b, 0, none⟩), .bool true]) ∧ w.Ext w' ∧ Img w' b ab (2 ^ q.1) (2 ^ q.1) l ∧ ∀ i j, i < 2 ^ q.1 → j < 2 ^ q.1 → lF (2 ^ q.1) l i j = q.2.on q.1 0 0 i j
  | none => e = .returned (.tuple #[.pointer none, .bool false]) ∧ w.Ext w'
def P8 (w : World) (p : Nat) (f : Lf) : Prop := w.cell? ⟨p, 0, none⟩ = some (.int .i64 f.x) ∧ w.cell? ⟨p, 1, none⟩ = some (.int .i64 f.y) ∧ w.cell? ⟨p, 2, none⟩ = some (.int .i64 f.m) ∧ w.cell? ⟨p, 3, none⟩ = some (.bool f.b)
set_option maxRecDepth 5000 in
set_option maxHeartbeats 3200000 in
theorem ofTree_any (z : Int) (s : ByteArray) (w : World) (hs : s.size ≤ 1048576) : Calls Try.prog 171 #[.agg #[.int .i64 z, .string s]] w (OfRet w z s) := by
  obtain ⟨W0, hW0⟩ : ∃ W0, W0 = w.alloc (.cells #[.int .i64 z, .string s] 91) := ⟨_, rfl⟩
  have hx0 : w.Ext W0 := by rw [hW0]; repeat (first | exact World.Ext.refl _ | exact ⟨_, rfl⟩ | assumption | refine World.Ext.over ?_ _ | refine World.Ext.drewN ?_ _ | refine World.Ext.drew ?_ | refine World.Ext.alloc ?_ _ | refine World.Ext.setCell ?_ (by simp) _)
  have d0 : W0.cell? ⟨w.heap.size, 0, none⟩ = some (.int .i64 z) := by rw [hW0]; simp [go_sem]
  have HLV := Lib.hid (leavesOf_any z s W0 hs)
  have HX0 := Lib.hid hx0
  clear hx0
  cases hop : opn z s with
  | none =>
    have HNO : Hid (∀ w', w.Ext w' → OfRet w z s (.returned (.tuple #[.pointer none, .bool false])) w') := fun w' hx => by unfold OfRet; rw [hop]; exact ⟨rfl, hx⟩
    have HOP := Lib.hid hop
    clear hop d0
    go_enter Try.func171, Try.ntmps171
    go_wp2_with fail
    rw [← hW0]
    clear hW0
    refine HLV.out.mono ?_
    rintro e w1 ⟨v, rfl, hx1, -⟩
    rw [HOP.out]
    have HX1 := Lib.hid (HX0.out.trans hx1)
    clear hx1
    go_wp2_with fail
    go_ret2
    exact HNO.out _ HX1.out
  | some q =>
    obtain ⟨n, T⟩ := q
    obtain ⟨hn4, hzn, hfit, -⟩ := opn_some hop
    obtain ⟨m, hm⟩ : ∃ m : Nat, m = 2 ^ n := ⟨_, rfl⟩
    rw [← hm] at hzn
    have hm16 : m ≤ 16 := by rw [hm]; exact Nat.pow_le_pow_right (by decide) hn4
    subst hzn
    have HIN : Hid (∀ f, f ∈ T.lvs n 0 0 ⟨#[]⟩ → f.x + f.m ≤ m ∧ f.y + f.m ≤ m) := fun f hf => by have := lvs_in T n 0 0 _ hfit f hf; omega
    have HPN : Hid (∀ i j, i < m → j < m → pnt false (T.lvs n 0 0 ⟨#[]⟩) i j = T.on n 0 0 i j) := fun i j hi hj => by
      rw [pnt_lvs T n 0 0 _ _ i j hfit, if_pos (inSq_yes (by omega))]
    have HYES : Hid (∀ (w' : World) (b ab : Nat) (l : List Bool), w.Ext w' → Img w' b ab m m l → (∀ i j, i < m → j < m → lF m l i j = T.on n 0 0 i j) → OfRet w (m : Int) s (.returned (.tuple #[.pointer (some ⟨b, 0, none⟩), .bool true])) w') := fun w' b ab l h1 h2 h3 => by
      unfold OfRet
      rw [hop]
      dsimp only
      rw [← hm]
      exact ⟨b, ab, l, rfl, h1, h2, h3⟩
    have HLL := lvs_len T n 0 0 ⟨#[]⟩ hfit
    have hll : (T.lvs n 0 0 ⟨#[]⟩).length ≤ 256 := Nat.le_trans HLL.2 (by match n, hn4 with | 0, _ => decide | 1, _ => decide | 2, _ => decide | 3, _ => decide | 4, _ => decide)
    have hl1 := HLL.1
    have HBL : Hid (∀ w', Calls Try.prog 185 #[.int .i64 m, .int .i64 m] w' (ImgRet w' m m (List.replicate (m * m) false))) := fun w' => blank_any m m w' (by omega) (by omega)
    have HOP := Lib.hid hop
    clear hop HLL hfit hm
    go_enter Try.func171, Try.ntmps171
    go_wp2_with fail
    rw [← hW0]
    clear hW0
    refine HLV.out.mono ?_
    rintro e w1 ⟨v, rfl, hx1, hown⟩
    have hown := hown n T HOP.out
    rw [HOP.out]
    have e0 := hx1.cell d0
    generalize T.lvs n 0 0 ⟨#[]⟩ = ls at *
    obtain ⟨g, cap, rfl⟩ : ∃ g cap, v = .slice (some ⟨g, 0, none⟩) ls.length cap := by
      rcases hown.2 with ⟨-, h0⟩ | ⟨g, cap, cur, h3, -⟩
      · omega
      · exact ⟨g, cap, h3⟩
    have hgl : g < w1.heap.size := ((World.ownsRow.lt hown) g rfl).2
    have HC1 : Hid (∀ k f, ls[k]? = some f → w1.cell? ⟨g, k * 5, none⟩ = some (.int .i64 f.x) ∧ w1.cell? ⟨g, k * 5 + 1, none⟩ = some (.int .i64 f.y) ∧ w1.cell? ⟨g, k * 5 + 2, none⟩ = some (.int .i64 f.m) ∧ w1.cell? ⟨g, k * 5 + 3, none⟩ = some (.bool f.b) ∧ w1.cell? ⟨g, k * 5 + 4, none⟩ = some (.string f.p)) := fun k f hf => by
      obtain ⟨h1, h2, h3, h4, h5⟩ := lfC_at ls k f hf
      have hk : k < ls.length := (List.getElem?_eq_some_iff.1 hf).1
      have at_ : ∀ i, i < 5 → w1.cell? ⟨g, k * 5 + i, none⟩ = (lfC ls)[k * 5 + i]? := fun i hi => by
        obtain ⟨b5, o5, h5, -, -, h6, -⟩ := World.ownsRow.own hown (i := k * 5 + i) (by omega)
        cases h5
        rw [Nat.zero_add] at h6
        exact h6
      have a0 := at_ 0 (by omega)
      rw [Nat.add_zero] at a0
      exact ⟨by rw [a0, h1], by rw [at_ 1 (by omega), h2], by rw [at_ 2 (by omega), h3], by rw [at_ 3 (by omega), h4], by rw [at_ 4 (by omega), h5]⟩
    have HX1 := Lib.hid (HX0.out.trans hx1)
    clear hx1 d0 hown HLV HX0 HOP
    go_wp2_with fail
    refine (HBL.out w1).mono ?_
    rintro e w2 ⟨b, ab, rfl, hx2, hi2, hlb, hlab⟩
    have HS0 : Hid (PnSt w1 b ab m (pnt false (ls.take 0)) w2) := ⟨hx2.wrote _, _, hi2, by rw [List.length_replicate], fun i j hi hj => by
      rw [List.getD_eq_getElem?_getD, List.getElem?_replicate]
      split <;> rfl⟩
    clear hx2 hi2 HBL e0
    go_wp2_with fail
    go_loopw [25] (fun v wr => ∃ k : Nat, k ≤ ls.length ∧ v = .int .i64 k ∧ Hid (PnSt w1 b ab m (pnt false (ls.take k)) wr)) (fun v _ => ls.length - (intOf v).toNat)
    case atStart => exact ⟨0, Nat.zero_le _, rfl, HS0⟩
    case round =>
      obtain ⟨k, hk, rfl, HS⟩ := hrel
      clear HS0
      obtain ⟨w3, rfl⟩ : ∃ w3 : World, w3 = wr := ⟨_, rfl⟩
      by_cases hlt : k < ls.length
      · have hlt' : (k : Int) < (ls.length : Int) := by omega
        have hk0 : (0 : Int) ≤ (k : Int) := by omega
        obtain ⟨f, hf⟩ : ∃ f, ls[k]? = some f := ⟨_, List.getElem?_eq_getElem hlt⟩
        have hng : ¬ (g = ab ∨ w1.heap.size ≤ g) := by omega
        obtain ⟨c0, c1, c2, c3, c4⟩ := HC1.out k f hf
        replace c0 := HS.out.wrote.cell c0 hng
        replace c1 := HS.out.wrote.cell c1 hng
        replace c2 := HS.out.wrote.cell c2 hng
        replace c3 := HS.out.wrote.cell c3 hng
        replace c4 := HS.out.wrote.cell c4 hng
        obtain ⟨hfx, hfy⟩ := HIN.out f (List.mem_of_getElem? hf)
        have HNXT : Hid (∀ i j, lfB f 0 f.m (pnt false (ls.take k)) i j = pnt false (ls.take (k + 1)) i j) := fun i j => by
          rw [lfB_all, List.take_add_one, hf, pnt_app]
          rfl
        obtain ⟨fx, fy, fm, fb, fp⟩ := f
        dsimp only at c0 c1 c2 c3 c4 hfx hfy
        obtain ⟨p8, hp8⟩ : ∃ p8, p8 = w3.heap.size := ⟨_, rfl⟩
        have hp8' : p8 ≠ ab := by
          obtain ⟨l0, hI0, -⟩ := HS.out.im
          have := hI0.px.lt
          omega
        go_wp2_with fail
        rw [← hp8]
        have HP8 := Lib.hid hp8
        clear hp8
        go_loopw [32] (fun v wr => ∃ bq : Nat, bq ≤ fm ∧ v = .int .i64 bq ∧ Hid (PnSt w1 b ab m (lfB ⟨fx, fy, fm, fb, fp⟩ 0 bq (pnt false (ls.take k))) wr) ∧ Hid (P8 wr p8 ⟨fx, fy, fm, fb, fp⟩)) (fun v _ => fm - (intOf v).toNat)
        case atStart =>
          refine ⟨0, Nat.zero_le _, rfl, (HS.out.ext ((World.Ext.refl _).alloc _)).congr fun i j _ _ => (lfB_zero i j).symm, ?_⟩
          have hp := HP8.out
          subst hp
          exact ⟨by simp [go_sem], by simp [go_sem], by simp [go_sem], by simp [go_sem]⟩
        case round =>
          obtain ⟨bq, hbq, rfl, HT, HP⟩ := hrel
          obtain ⟨w4, rfl⟩ : ∃ w4 : World, w4 = wr := ⟨_, rfl⟩
          clear HS c0 c1 c2 c3 c4
          by_cases hltb : bq < fm
          · have hltb' : (bq : Int) < (fm : Int) := by omega
            obtain ⟨s0, s1, s2, s3⟩ := HP.out
            dsimp only at s0 s1 s2 s3
            go_wp2_with fail
            clear s0 s1 s2 s3
            go_loopw [38] (fun v wr => ∃ a : Nat, a ≤ fm ∧ v = .int .i64 a ∧ Hid (PnSt w1 b ab m (lfB ⟨fx, fy, fm, fb, fp⟩ a bq (pnt false (ls.take k))) wr) ∧ Hid (P8 wr p8 ⟨fx, fy, fm, fb, fp⟩)) (fun v _ => fm - (intOf v).toNat)
            case atStart => exact ⟨0, Nat.zero_le _, rfl, HT, HP⟩
            case round =>
              clear HT HP
              obtain ⟨a, ha, rfl, HT, HP⟩ := hrel
              obtain ⟨w5, rfl⟩ : ∃ w5 : World, w5 = wr := ⟨_, rfl⟩
              by_cases hlta : a < fm
              · have hlta' : (a : Int) < (fm : Int) := by omega
                obtain ⟨s0, s1, s2, s3⟩ := HP.out
                dsimp only at s0 s1 s2 s3
                have HSET := Lib.hid (HT.out.set (by omega) (X := (fx : Int) + a) (Y := (fy : Int) + bq) (i0 := fx + a) (j0 := fy + bq) (by rw [Int.natCast_add]) (by rw [Int.natCast_add]) (by omega) (by omega) fb)
                go_wp2_with fail
                refine HSET.out.mono ?_
                rintro e w6 ⟨rfl, hS6, hw6⟩
                have HT6 : Hid (PnSt w1 b ab m (lfB ⟨fx, fy, fm, fb, fp⟩ (a + 1) bq (pnt false (ls.take k))) w6) := hS6.congr fun i j _ _ => (lfB_next (f := ⟨fx, fy, fm, fb, fp⟩) (a := a) (b := bq) (F := pnt false (ls.take k)) i j).symm
                have HP6 : Hid (P8 w6 p8 ⟨fx, fy, fm, fb, fp⟩) := ⟨hw6.cell s0 hp8', hw6.cell s1 hp8', hw6.cell s2 hp8', hw6.cell s3 hp8'⟩
                clear hS6 hw6 s0 s1 s2 s3 HT HP HSET
                go_wp2_with fail
                go_roundw
                case rel => exact ⟨a + 1, by omega, by go_num, HT6, HP6⟩
                case measure => simp [intOf]; omega
              · have : a = fm := by omega
                subst this
                have HT6 : Hid (PnSt w1 b ab m (lfB ⟨fx, fy, a, fb, fp⟩ 0 (bq + 1) (pnt false (ls.take k))) w5) := HT.out.congr fun i j _ _ => lfB_row i j
                clear HT
                go_wp2_with fail
                go_roundw
                case rel => exact ⟨bq + 1, by omega, by go_num, HT6, HP⟩
                case measure => simp [intOf]; omega
          · have : bq = fm := by omega
            subst this
            have HT6 : Hid (PnSt w1 b ab m (pnt false (ls.take (k + 1))) w4) := HT.out.congr fun i j _ _ => HNXT.out i j
            clear HT
            go_wp2_with fail
            go_roundw
            case rel => exact ⟨k + 1, by omega, by go_num, HT6⟩
            case measure => simp [intOf]; omega
      · have : k = ls.length := by omega
        subst this
        have h1 := HS.out
        rw [List.take_length] at h1
        obtain ⟨l, hI, hl⟩ := h1.im
        have hx : w.Ext w3 := HX1.out.wroteNew h1.wrote fun k hk hs => by have := HX1.out.size; omega
        have HY := Lib.hid (HYES.out w3 b ab l hx hI fun i j hi hj => by rw [← HPN.out i j hi hj]; exact hl.2 i j hi hj)
        clear hI hl h1 hx HS
        go_wp2_with fail
        go_ret2
        exact HY.out
end Go.Proofs.Ytlcofjicpbbdhaa
