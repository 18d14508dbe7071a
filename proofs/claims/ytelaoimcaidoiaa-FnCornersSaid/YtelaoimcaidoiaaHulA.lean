/- Plain: the hull of spots by two chains: it bends to the right everywhere, and all spots lie to the right of each of its ways. -/
import Derived.Test.YtelaoimcaidoiaaProg
import Derived.Test.YtelaoimcaidoiaaBfA
namespace Go.Proofs.Ytelaoimcaidoiaa
open Go
/-- More than 0 if c lies on the right of the way from a to b, as the second coordinate goes down. -/
def crx (a b c : Int × Int) : Int := (b.1 - a.1) * (c.2 - a.2) - (b.2 - a.2) * (c.1 - a.1)
def bndJ (a b c : Int × Int) : Int := (b.1 - a.1) * (c.2 - b.2) - (b.2 - a.2) * (c.1 - b.1)
theorem bndJ_crx (a b c : Int × Int) : bndJ a b c = crx a b c := by unfold bndJ crx; grind
theorem crx_cyc (a b c : Int × Int) : crx a b c = crx b c a := by unfold crx; grind
theorem crx_self (a b : Int × Int) : crx a b b = 0 := by unfold crx; grind
theorem crx_self1 (a b : Int × Int) : crx a b a = 0 := by unfold crx; grind
def lxl (a b : Int × Int) : Prop := a.1 < b.1 ∨ (a.1 = b.1 ∧ a.2 < b.2)
def lxp (x y : Int) : Prop := 0 < x ∨ (x = 0 ∧ 0 < y)
theorem pos_of_mul {a b : Int} (hb : 0 < b) (h : 0 < a * b) : 0 < a := by
  apply Classical.byContradiction
  intro hn
  have := Int.mul_nonneg (show 0 ≤ -a by omega) (Int.le_of_lt hb)
  rw [Int.neg_mul] at this
  omega
theorem nonneg_of_mul {a b : Int} (hb : 0 < b) (h : 0 ≤ a * b) : 0 ≤ a := by
  apply Classical.byContradiction
  intro hn
  have := Int.mul_pos (show 0 < -a by omega) hb
  rw [Int.neg_mul] at this
  omega
theorem vec1 {a a' b b' c c' : Int} (hA : lxp a a') (hB : lxp b b') (hC : lxp c c') (h1 : 0 < a * b' - a' * b) (h2 : 0 < b * c' - b' * c) : 0 < a * c' - a' * c := by
  unfold lxp at *
  have id1 : (a * c' - a' * c) * b = (b * c' - b' * c) * a + (a * b' - a' * b) * c := by grind
  have hc0 : 0 ≤ c := by omega
  rcases hB with hb | ⟨hb, hb'⟩
  · rcases hA with ha | ⟨ha, ha'⟩
    · refine pos_of_mul hb ?_
      rw [id1]
      have := Int.mul_pos h2 ha
      have := Int.mul_nonneg (Int.le_of_lt h1) hc0
      omega
    · subst ha
      have := Int.mul_pos ha' hb
      omega
  · subst hb
    have := Int.mul_nonneg (Int.le_of_lt hb') hc0
    omega
theorem vec0 {a a' b b' c c' : Int} (hA : lxp a a') (hB : lxp b b') (hC : lxp c c') (h1 : 0 ≤ a * b' - a' * b) (h2 : 0 ≤ b * c' - b' * c) : 0 ≤ a * c' - a' * c := by
  unfold lxp at *
  have id1 : (a * c' - a' * c) * b = (b * c' - b' * c) * a + (a * b' - a' * b) * c := by grind
  have hc0 : 0 ≤ c := by omega
  have ha0 : 0 ≤ a := by omega
  rcases hB with hb | ⟨hb, hb'⟩
  · refine nonneg_of_mul hb ?_
    rw [id1]
    have := Int.mul_nonneg h2 ha0
    have := Int.mul_nonneg h1 hc0
    omega
  · subst hb
    rcases hC with hc | ⟨hc, hc'⟩
    · have := Int.mul_pos hb' hc
      omega
    · subst hc
      have := Int.mul_nonneg ha0 (Int.le_of_lt hc')
      omega
/-- An order of spots in which a chain goes: from left to right, or back. -/
structure Lx (L : Int × Int → Int × Int → Prop) : Prop where
  tr : ∀ a b c, L a b → L b c → L a c
  ir : ∀ a, ¬ L a a
  g1 : ∀ u v w s, L u v → L v w → L w s → 0 < crx u v w → 0 < crx v w s → 0 < crx u v s
  g2 : ∀ a b q s, L a b → L a q → L a s → 0 ≤ crx a b q → crx a b s ≤ 0 → 0 ≤ crx a s q
  g3 : ∀ c a q s, L c a → L a s → L q a → 0 ≤ crx c a q → 0 < crx c a s → 0 ≤ crx a s q
theorem lxp_sub {a b : Int × Int} (h : lxl a b) : lxp (b.1 - a.1) (b.2 - a.2) := by unfold lxl at h; unfold lxp; omega
theorem lx_low : Lx lxl where
  tr a b c h1 h2 := by unfold lxl at *; omega
  ir a h := by unfold lxl at h; omega
  g1 u v w s h1 h2 h3 h4 h5 := by
    have e1 : crx u v w = (v.1 - u.1) * (w.2 - v.2) - (v.2 - u.2) * (w.1 - v.1) := by unfold crx; grind
    have e2 : crx v w s = (w.1 - v.1) * (s.2 - w.2) - (w.2 - v.2) * (s.1 - w.1) := by unfold crx; grind
    have e3 : crx u v s = ((v.1 - u.1) * (s.2 - w.2) - (v.2 - u.2) * (s.1 - w.1)) + ((v.1 - u.1) * (w.2 - v.2) - (v.2 - u.2) * (w.1 - v.1)) := by unfold crx; grind
    rw [e1] at h4
    rw [e2] at h5
    rw [e3]
    have := vec1 (lxp_sub h1) (lxp_sub h2) (lxp_sub h3) h4 h5
    omega
  g2 a b q s h1 h2 h3 h4 h5 := by
    unfold crx at *
    exact vec0 (lxp_sub h3) (lxp_sub h1) (lxp_sub h2) (by grind) h4
  g3 c a q s h1 h2 h3 h4 h5 := by
    have e1 : crx c a q = (a.1 - q.1) * (a.2 - c.2) - (a.2 - q.2) * (a.1 - c.1) := by unfold crx; grind
    have e2 : crx c a s = (a.1 - c.1) * (s.2 - a.2) - (a.2 - c.2) * (s.1 - a.1) := by unfold crx; grind
    have e3 : crx a s q = (a.1 - q.1) * (s.2 - a.2) - (a.2 - q.2) * (s.1 - a.1) := by unfold crx; grind
    rw [e1] at h4
    rw [e2] at h5
    rw [e3]
    exact vec0 (lxp_sub h3) (lxp_sub h1) (lxp_sub h2) h4 (Int.le_of_lt h5)
def ng (a : Int × Int) : Int × Int := (-a.1, -a.2)
theorem crx_ng (a b c : Int × Int) : crx (ng a) (ng b) (ng c) = crx a b c := by unfold crx ng; grind
theorem lxl_ng {a b : Int × Int} (h : lxl b a) : lxl (ng a) (ng b) := by unfold lxl ng at *; simp only; omega
theorem lx_high : Lx (fun a b => lxl b a) where
  tr a b c h1 h2 := lx_low.tr _ _ _ h2 h1
  ir a h := lx_low.ir a h
  g1 u v w s h1 h2 h3 h4 h5 := by
    rw [← crx_ng] at h4 h5 ⊢
    exact lx_low.g1 _ _ _ _ (lxl_ng h1) (lxl_ng h2) (lxl_ng h3) h4 h5
  g2 a b q s h1 h2 h3 h4 h5 := by
    rw [← crx_ng] at h4 h5 ⊢
    exact lx_low.g2 _ _ _ _ (lxl_ng h1) (lxl_ng h2) (lxl_ng h3) h4 h5
  g3 c a q s h1 h2 h3 h4 h5 := by
    rw [← crx_ng] at h4 h5 ⊢
    exact lx_low.g3 _ _ _ _ (lxl_ng h1) (lxl_ng h2) (lxl_ng h3) h4 h5
theorem lx_tot {L : Int × Int → Int × Int → Prop} (_ : Lx L) : ∀ (rs : List (Int × Int)), rs.Pairwise (fun a b => L b a) → ∀ x y, x ∈ rs → y ∈ rs → x = y ∨ L x y ∨ L y x
  | p :: rs, h, x, y, hx, hy => by
    rw [List.pairwise_cons] at h
    rcases List.mem_cons.1 hx with e1 | h1
    · rcases List.mem_cons.1 hy with e2 | h2
      · exact .inl (e1.trans e2.symm)
      · exact .inr (.inr (e1 ▸ h.1 y h2))
    · rcases List.mem_cons.1 hy with e2 | h2
      · exact .inr (.inl (e2 ▸ h.1 x h1))
      · exact lx_tot ‹_› rs h.2 x y h1 h2
theorem least_last {L : Int × Int → Int × Int → Prop} : ∀ (rs : List (Int × Int)), rs.Pairwise (fun a b => L b a) → ∀ q, q ∈ rs → ∀ z, rs.getLast? = some z → q = z ∨ L z q
  | [p], _, q, hq, z, hz => by
    rw [List.mem_singleton] at hq
    simp only [List.getLast?_singleton, Option.some.injEq] at hz
    rw [hq, hz]
    exact .inl rfl
  | p :: r :: rs, h, q, hq, z, hz => by
    rw [List.pairwise_cons] at h
    rw [List.getLast?_cons_cons] at hz
    rcases List.mem_cons.1 hq with rfl | hq
    · exact .inr (h.1 z (List.mem_of_getLast? hz))
    · exact least_last (r :: rs) h.2 q hq z hz
/-- What lies left of a new spot is taken off. -/
def popS (s : Int × Int) : List (Int × Int) → List (Int × Int)
  | b :: a :: r => if bndJ a b s ≤ 0 then popS s (a :: r) else b :: a :: r
  | r => r
def chS (ps : List (Int × Int)) : List (Int × Int) := ps.foldl (fun st s => s :: popS s st) []
/-- A chain, its last spot first: it goes on, bends to the right, and all that D tells lie to its right. -/
def Gd (L : Int × Int → Int × Int → Prop) (D : Int × Int → Prop) : List (Int × Int) → Prop
  | b :: a :: r => L a b ∧ (∀ q, D q → 0 ≤ crx a b q) ∧ (∀ c, r.head? = some c → 0 < crx c a b) ∧ Gd L D (a :: r)
  | _ => True
section
variable {L : Int × Int → Int × Int → Prop} {D : Int × Int → Prop}
theorem gd_add (hL : Lx L) {s : Int × Int} : ∀ (r : List (Int × Int)) (a : Int × Int), Gd L D (a :: r) → L a s → (∀ c, r.head? = some c → 0 < crx c a s) → Gd L (fun q => D q ∨ q = s) (a :: r)
  | [], a, _, _, _ => trivial
  | [c], a, h, hs, ht => ⟨h.1, fun q hq => by
      rcases hq with hq | rfl
      · exact h.2.1 q hq
      · exact Int.le_of_lt (ht c rfl), fun c h => (by cases h), trivial⟩
  | c :: d :: r, a, h, hs, ht => by
    obtain ⟨h1, h2, h3, h4⟩ := h
    have hc := ht c rfl
    refine ⟨h1, fun q hq => ?_, h3, gd_add hL (d :: r) c h4 (hL.tr _ _ _ h1 hs) fun c' hc' => ?_⟩
    · rcases hq with hq | rfl
      · exact h2 q hq
      · exact Int.le_of_lt hc
    · simp only [List.head?_cons, Option.some.injEq] at hc'
      subst hc'
      exact hL.g1 _ _ _ _ h4.1 h1 hs (h3 _ rfl) hc
theorem popS_ok (hL : Lx L) {s : Int × Int} (hmax : ∀ q, D q → L q s) : ∀ (r : List (Int × Int)) (b : Int × Int), Gd L D (b :: r) → D b → (∀ q, q ∈ r → D q) → (∀ q, D q → L b q → 0 ≤ crx b s q) →
    ∃ a r', popS s (b :: r) = a :: r' ∧ Gd L D (a :: r') ∧ D a ∧ (∀ q, q ∈ r' → D q) ∧ (∀ q, D q → L a q → 0 ≤ crx a s q) ∧ (∀ c, r'.head? = some c → 0 < crx c a s) ∧ (a :: r').getLast? = (b :: r).getLast?
  | [], b, h, hb, hr, hT => ⟨b, [], rfl, trivial, hb, hr, hT, fun c h => (by cases h), rfl⟩
  | a :: r, b, h, hb, hr, hT => by
    obtain ⟨h1, h2, h3, h4⟩ := h
    unfold popS
    by_cases hn : bndJ a b s ≤ 0
    · rw [if_pos hn]
      rw [bndJ_crx] at hn
      have ha := hr a (List.mem_cons_self ..)
      obtain ⟨a', r', e1, e2, e3, e4, e5, e6, e7⟩ := popS_ok hL hmax r a h4 ha (fun q hq => hr q (List.mem_cons_of_mem _ hq)) fun q hq hl => hL.g2 _ _ _ _ h1 hl (hmax a ha) (h2 q hq) hn
      exact ⟨a', r', e1, e2, e3, e4, e5, e6, by rw [e7, List.getLast?_cons_cons]⟩
    · rw [if_neg hn]
      rw [bndJ_crx] at hn
      exact ⟨b, a :: r, rfl, ⟨h1, h2, h3, h4⟩, hb, hr, hT, fun c hc => by
        simp only [List.head?_cons, Option.some.injEq] at hc
        subst hc
        omega, rfl⟩
theorem gd_mono {D' : Int × Int → Prop} (hD : ∀ q, D' q → D q) : ∀ st, Gd L D st → Gd L D' st
  | [], _ => trivial
  | [_], _ => trivial
  | _ :: a :: r, h => ⟨h.1, fun q hq => h.2.1 q (hD q hq), h.2.2.1, gd_mono hD (a :: r) h.2.2.2⟩
/-- The chain of the spots of a list that goes on. -/
theorem chS_ok (hL : Lx L) : ∀ (rs : List (Int × Int)) (p : Int × Int), (p :: rs).Pairwise (fun a b => L b a) →
    ∃ st, chS (p :: rs).reverse = p :: st ∧ Gd L (· ∈ p :: rs) (p :: st) ∧ (∀ q, q ∈ st → q ∈ rs) ∧ (p :: st).getLast? = (p :: rs).getLast?
  | [], p, _ => ⟨[], rfl, trivial, fun _ h => h, rfl⟩
  | b :: rs, p, hp => by
    rw [List.pairwise_cons] at hp
    obtain ⟨st, e1, e2, e3, e4⟩ := chS_ok hL rs b hp.2
    have hmax : ∀ q, q ∈ b :: rs → L q p := hp.1
    have hb := List.pairwise_cons.1 hp.2
    have htop : ∀ q, q ∈ b :: rs → L b q → 0 ≤ crx b p q := fun q hq hl => by
      rcases List.mem_cons.1 hq with rfl | hq
      · exact absurd hl (hL.ir _)
      · exact absurd (hL.tr _ _ _ hl (hb.1 q hq)) (hL.ir _)
    obtain ⟨a, r', f1, f2, f3, f4, f5, f6, f7⟩ := popS_ok (D := (· ∈ b :: rs)) hL hmax st b e2 (List.mem_cons_self ..) (fun q hq => List.mem_cons_of_mem _ (e3 q hq)) htop
    have hch : chS (p :: b :: rs).reverse = p :: a :: r' := by
      rw [List.reverse_cons]
      unfold chS at e1 ⊢
      rw [List.foldl_append, e1]
      show p :: popS p (b :: st) = _
      rw [f1]
    have hlast : (a :: r').getLast? = (b :: rs).getLast? := by rw [f7, e4]
    have hleast : ∀ q, q ∈ b :: rs → ∀ z, (b :: rs).getLast? = some z → q = z ∨ L z q := fun q hq z hz => least_last (b :: rs) hp.2 q hq z hz
    refine ⟨a :: r', hch, ⟨hmax a f3, fun q hq => ?_, f6, ?_⟩, fun q hq => ?_, ?_⟩
    · rcases List.mem_cons.1 hq with rfl | hq
      · rw [crx_self]; exact Int.le_refl _
      · by_cases hqa : q = a
        · rw [hqa, crx_self1]; exact Int.le_refl _
        · by_cases hl : L a q
          · exact f5 q hq hl
          · have hlq : L q a := by
              rcases lx_tot hL (b :: rs) hp.2 q a hq f3 with h | h | h
              · exact absurd h hqa
              · exact h
              · exact absurd h hl
            cases r' with
            | nil =>
              have hz : (b :: rs).getLast? = some a := by rw [← hlast]; rfl
              rcases hleast q hq a hz with h | h
              · exact absurd h hqa
              · exact absurd h hl
            | cons c r'' => exact hL.g3 _ _ _ _ f2.1 (hmax a f3) hlq (f2.2.1 q hq) (f6 c rfl)
    · refine gd_mono (fun q hq => ?_) _ (gd_add (s := p) hL r' a f2 (hmax a f3) f6)
      rcases List.mem_cons.1 hq with rfl | hq
      · exact .inr rfl
      · exact .inl hq
    · rcases List.mem_cons.1 hq with rfl | hq
      · exact f3
      · exact f4 q hq
    · rw [List.getLast?_cons_cons, hlast, List.getLast?_cons_cons]
end

theorem g4_low {u m v q : Int × Int} (h1 : lxl u m) (h2 : lxl v m) (h3 : crx u m v = 0) (h4 : 0 ≤ crx u m q) (h5 : 0 ≤ crx m v q) : crx u m q = 0 := by
  have a1 := lxp_sub h1
  have a2 := lxp_sub h2
  have e1 : crx u m v = (m.2 - u.2) * (m.1 - v.1) - (m.1 - u.1) * (m.2 - v.2) := by unfold crx; grind
  have e2 : crx u m q = (m.1 - u.1) * (q.2 - m.2) - (m.2 - u.2) * (q.1 - m.1) := by unfold crx; grind
  have e3 : crx m v q = (m.2 - v.2) * (q.1 - m.1) - (m.1 - v.1) * (q.2 - m.2) := by unfold crx; grind
  rw [e1] at h3
  rw [e2] at h4 ⊢
  rw [e3] at h5
  generalize m.1 - u.1 = d1 at *
  generalize m.2 - u.2 = d2 at *
  generalize m.1 - v.1 = f1 at *
  generalize m.2 - v.2 = f2 at *
  generalize q.1 - m.1 = g1 at *
  generalize q.2 - m.2 = g2 at *
  clear e1 e2 e3 h1 h2
  unfold lxp at a1 a2
  have id1 : (d1 * g2 - d2 * g1) * f1 = -((f2 * g1 - f1 * g2) * d1) + (d2 * f1 - d1 * f2) * (-g1) := by grind
  have id2 : (d1 * g2 - d2 * g1) * f2 = -((f2 * g1 - f1 * g2) * d2) + (d2 * f1 - d1 * f2) * (-g2) := by grind
  rw [h3, Int.zero_mul, Int.add_zero] at id1 id2
  apply Classical.byContradiction
  intro hne
  have hpos : 0 < d1 * g2 - d2 * g1 := by omega
  rcases a2 with hb | ⟨hb, hb'⟩
  · have := Int.mul_pos hpos hb
    have := Int.mul_nonneg h5 (show 0 ≤ d1 by omega)
    omega
  · subst hb
    have hd1 : d1 = 0 := by
      have h6 : d1 * f2 = 0 := by rw [Int.mul_zero] at h3; omega
      rcases Int.mul_eq_zero.1 h6 with h | h <;> omega
    have := Int.mul_pos hpos hb'
    have := Int.mul_nonneg h5 (show 0 ≤ d2 by omega)
    omega
theorem g4_high {u m v q : Int × Int} (h1 : lxl m u) (h2 : lxl m v) (h3 : crx u m v = 0) (h4 : 0 ≤ crx u m q) (h5 : 0 ≤ crx m v q) : crx u m q = 0 := by
  rw [← crx_ng] at h3 h4 h5 ⊢
  exact g4_low (lxl_ng h1) (lxl_ng h2) h3 h4 h5
theorem gd_at {L : Int × Int → Int × Int → Prop} {D : Int × Int → Prop} : ∀ (st : List (Int × Int)), Gd L D st → ∀ j, j + 1 < st.length → L (st.getD (j + 1) (0, 0)) (st.getD j (0, 0)) ∧ ∀ q, D q → 0 ≤ crx (st.getD (j + 1) (0, 0)) (st.getD j (0, 0)) q
  | [], _, _, h => by cases h
  | [_], _, _, h => by simp at h
  | b :: a :: r, h, 0, _ => ⟨h.1, h.2.1⟩
  | b :: a :: r, h, j + 1, hj => by
    have := gd_at (a :: r) h.2.2.2 j (by simpa using hj)
    simpa using this
theorem gd_turn {L : Int × Int → Int × Int → Prop} {D : Int × Int → Prop} : ∀ (st : List (Int × Int)), Gd L D st → ∀ j, j + 2 < st.length → 0 < crx (st.getD (j + 2) (0, 0)) (st.getD (j + 1) (0, 0)) (st.getD j (0, 0))
  | [], _, _, h => by cases h
  | [_], _, _, h => by simp at h
  | [_, _], _, _, h => by simp only [List.length_cons, List.length_nil] at h; omega
  | b :: a :: c :: r, h, 0, _ => h.2.2.1 c rfl
  | b :: a :: c :: r, h, j + 1, hj => by
    have := gd_turn (a :: c :: r) h.2.2.2 j (by simpa using hj)
    simpa using this
theorem getD_rev {xs : List (Int × Int)} {i : Nat} (hi : i < xs.length) : xs.reverse.getD i (0, 0) = xs.getD (xs.length - 1 - i) (0, 0) := by
  rw [List.getD_eq_getElem?_getD, List.getD_eq_getElem?_getD, List.getElem?_reverse hi]
/-- A side of a hull as the program keeps it: the first spot first. -/
structure Side (L : Int × Int → Int × Int → Prop) (ps U : List (Int × Int)) : Prop where
  few : 1 ≤ U.length
  first : U.getD 0 (0, 0) = ps.getD 0 (0, 0)
  last : U.getD (U.length - 1) (0, 0) = ps.getD (ps.length - 1) (0, 0)
  sub : ∀ q, q ∈ U → q ∈ ps
  on : ∀ i, i + 1 < U.length → L (U.getD i (0, 0)) (U.getD (i + 1) (0, 0)) ∧ ∀ q, q ∈ ps → 0 ≤ crx (U.getD i (0, 0)) (U.getD (i + 1) (0, 0)) q
  bend : ∀ i, i + 2 < U.length → 0 < crx (U.getD i (0, 0)) (U.getD (i + 1) (0, 0)) (U.getD (i + 2) (0, 0))
theorem side_of {L : Int × Int → Int × Int → Prop} (hL : Lx L) {ps : List (Int × Int)} (h1 : 1 ≤ ps.length) (hs : ps.Pairwise L) : Side L ps (chS ps).reverse := by
  obtain ⟨p, rs, hp⟩ : ∃ p rs, ps.reverse = p :: rs := by
    cases h : ps.reverse with
    | nil => rw [List.reverse_eq_nil_iff.1 h] at h1; simp at h1
    | cons p rs => exact ⟨p, rs, rfl⟩
  have hps : ps = (p :: rs).reverse := by rw [← hp, List.reverse_reverse]
  have hpw : (p :: rs).Pairwise (fun a b => L b a) := by rw [← hp, List.pairwise_reverse]; exact hs
  obtain ⟨st, e1, e2, e3, e4⟩ := chS_ok hL rs p hpw
  have hmem : ∀ q, q ∈ ps ↔ q ∈ p :: rs := fun q => by rw [hps, List.mem_reverse]
  rw [← hps] at e1
  rw [e1]
  have hlen : (p :: st).reverse.length = st.length + 1 := by simp
  have hg : ∀ i, i < st.length + 1 → (p :: st).reverse.getD i (0, 0) = (p :: st).getD (st.length - i) (0, 0) := fun i hi => by
    rw [getD_rev (by simpa using hi)]
    simp
  have hlst : ∀ (x : Int × Int) (xs : List (Int × Int)), (x :: xs).getLast? = some ((x :: xs).getD xs.length (0, 0)) := fun x xs => by
    rw [List.getLast?_eq_getElem?, List.getD_eq_getElem?_getD]
    simp
  refine ⟨by rw [hlen]; omega, ?_, ?_, fun q hq => ?_, fun i hi => ?_, fun i hi => ?_⟩
  · rw [hg 0 (by omega), Nat.sub_zero, hps, getD_rev (by simp)]
    rw [hlst, hlst] at e4
    simp only [Option.some.injEq] at e4
    rw [e4]
    simp
  · rw [hlen, Nat.add_sub_cancel, hg _ (by omega), Nat.sub_self, hps, getD_rev (by simp)]
    simp
  · rw [hmem]
    rcases List.mem_cons.1 (List.mem_reverse.1 hq) with rfl | h
    · exact List.mem_cons_self ..
    · exact List.mem_cons_of_mem _ (e3 q h)
  · rw [hlen] at hi
    have := gd_at _ e2 (st.length - (i + 1)) (by simp; omega)
    rw [show st.length - (i + 1) + 1 = st.length - i by omega] at this
    rw [hg i (by omega), hg (i + 1) (by omega)]
    exact ⟨this.1, fun q hq => this.2 q ((hmem q).1 hq)⟩
  · rw [hlen] at hi
    have := gd_turn _ e2 (st.length - (i + 2)) (by simp; omega)
    rw [show st.length - (i + 2) + 1 = st.length - (i + 1) by omega, show st.length - (i + 2) + 2 = st.length - i by omega] at this
    rw [hg i (by omega), hg (i + 1) (by omega), hg (i + 2) (by omega)]
    exact this
/-- What is told of a hull: it bends to the right at each of its spots, and all of D lie to the right of each of its ways. -/
structure Hull (ps h : List (Int × Int)) : Prop where
  four : 4 ≤ h.length
  sub : ∀ q, q ∈ h → q ∈ ps
  bend : ∀ i, i < h.length → 0 < crx (h.getD i (0, 0)) (h.getD ((i + 1) % h.length) (0, 0)) (h.getD ((i + 2) % h.length) (0, 0))
  on : ∀ i, i < h.length → ∀ q, q ∈ ps → 0 ≤ crx (h.getD i (0, 0)) (h.getD ((i + 1) % h.length) (0, 0)) q
theorem getD_dl {xs ys : List (Int × Int)} {i : Nat} (hi : i < xs.length - 1) : (xs.dropLast ++ ys).getD i (0, 0) = xs.getD i (0, 0) := by
  rw [List.getD_eq_getElem?_getD, List.getElem?_append_left (by rw [List.length_dropLast]; exact hi), List.getElem?_dropLast, if_pos hi, List.getD_eq_getElem?_getD]
theorem getD_dr {xs ys : List (Int × Int)} {i : Nat} (hi : xs.length - 1 ≤ i) (h2 : i - (xs.length - 1) < ys.length - 1) : (xs.dropLast ++ ys.dropLast).getD i (0, 0) = ys.getD (i - (xs.length - 1)) (0, 0) := by
  rw [List.getD_eq_getElem?_getD, List.getElem?_append_right (by rw [List.length_dropLast]; exact hi), List.length_dropLast, List.getElem?_dropLast, if_pos h2, List.getD_eq_getElem?_getD]
theorem hull_of {ps : List (Int × Int)} (h2 : 2 ≤ ps.length) (hs : ps.Pairwise lxl) (hnc : ∀ a b, a ≠ b → (∀ q, q ∈ ps → crx a b q = 0) → False)
    (hup : ∃ q, q ∈ ps ∧ crx (ps.getD 0 (0, 0)) (ps.getD (ps.length - 1) (0, 0)) q < 0) (hdn : ∃ q, q ∈ ps ∧ crx (ps.getD (ps.length - 1) (0, 0)) (ps.getD 0 (0, 0)) q < 0) :
    Hull ps ((chS ps).reverse.dropLast ++ (chS ps.reverse).reverse.dropLast) := by
  have sU := side_of lx_low (by omega) hs
  have sV := side_of lx_high (ps := ps.reverse) (by simp; omega) (by rw [List.pairwise_reverse]; exact hs)
  generalize (chS ps).reverse = U at *
  generalize (chS ps.reverse).reverse = V at *
  have hrm : ∀ q, q ∈ ps.reverse ↔ q ∈ ps := fun q => List.mem_reverse
  have v1 : V.getD 0 (0, 0) = ps.getD (ps.length - 1) (0, 0) := by
    rw [sV.first, getD_rev (by omega)]
    simp
  have v2 : V.getD (V.length - 1) (0, 0) = ps.getD 0 (0, 0) := by
    rw [sV.last, getD_rev (by simp; omega)]
    simp
  have vs : ∀ q, q ∈ V → q ∈ ps := fun q hq => (hrm q).1 (sV.sub q hq)
  have von : ∀ i, i + 1 < V.length → lxl (V.getD (i + 1) (0, 0)) (V.getD i (0, 0)) ∧ ∀ q, q ∈ ps → 0 ≤ crx (V.getD i (0, 0)) (V.getD (i + 1) (0, 0)) q := fun i hi => ⟨(sV.on i hi).1, fun q hq => (sV.on i hi).2 q ((hrm q).2 hq)⟩
  have vb := sV.bend
  obtain ⟨u0, u1, u2, us, uon, ub⟩ := sU
  have v0 := sV.few
  clear sV
  have hne : ps.getD 0 (0, 0) ≠ ps.getD (ps.length - 1) (0, 0) := fun e => by
    obtain ⟨q, hq, hlt⟩ := hup
    rw [← e] at hlt
    unfold crx at hlt
    grind
  generalize ps.getD 0 (0, 0) = p0 at *
  generalize ps.getD (ps.length - 1) (0, 0) = m at *
  have hU3 : 3 ≤ U.length := by
    apply Classical.byContradiction
    intro hn
    by_cases e1 : U.length = 1
    · rw [e1] at u2
      exact hne (u1.symm.trans u2)
    · obtain ⟨q, hq, hlt⟩ := hup
      have h := (uon 0 (by omega)).2 q hq
      have e2 : U.length - 1 = 0 + 1 := by omega
      rw [e2] at u2
      rw [u1, u2] at h
      omega
  have hV3 : 3 ≤ V.length := by
    apply Classical.byContradiction
    intro hn
    by_cases e1 : V.length = 1
    · rw [e1] at v2
      exact hne (v2.symm.trans v1)
    · obtain ⟨q, hq, hlt⟩ := hdn
      have h := (von 0 (by omega)).2 q hq
      have e2 : V.length - 1 = 0 + 1 := by omega
      rw [e2] at v2
      rw [v1, v2] at h
      omega
  obtain ⟨k, hk⟩ : ∃ k, U.length = k + 1 := ⟨U.length - 1, by omega⟩
  obtain ⟨j, hj⟩ : ∃ j, V.length = j + 1 := ⟨V.length - 1, by omega⟩
  have hlen : (U.dropLast ++ V.dropLast).length = k + j := by rw [List.length_append, List.length_dropLast, List.length_dropLast]; omega
  rw [hk, Nat.add_sub_cancel] at u2
  rw [hj, Nat.add_sub_cancel] at v2
  obtain ⟨H, hH⟩ : ∃ H : Nat → Int × Int, H = fun i => if i < k then U.getD i (0, 0) else V.getD (i - k) (0, 0) := ⟨_, rfl⟩
  have HU : ∀ i, i ≤ k → H i = U.getD i (0, 0) := fun i hi => by
    rw [hH]
    by_cases e : i = k
    · subst e
      simp only [Nat.lt_irrefl, if_false, Nat.sub_self]
      rw [v1, u2]
    · simp only [if_pos (show i < k by omega)]
  have HV : ∀ i, H (k + i) = V.getD i (0, 0) := fun i => by
    rw [hH]
    simp only [if_neg (show ¬ k + i < k by omega), Nat.add_sub_cancel_left]
  have Hat : ∀ i, i < k + j → (U.dropLast ++ V.dropLast).getD i (0, 0) = H i := fun i hi => by
    by_cases e : i < k
    · rw [getD_dl (by omega), HU i (by omega)]
    · obtain ⟨d, rfl⟩ : ∃ d, i = k + d := ⟨i - k, by omega⟩
      rw [getD_dr (by omega) (by omega), HV, hk]
      congr 1
      omega
  have H0 : H (k + j) = H 0 := by rw [HV, HU 0 (by omega), v2, u1]
  have Hs : ∀ i, i ≤ k + j → (U.dropLast ++ V.dropLast).getD (i % (k + j)) (0, 0) = H i := fun i hi => by
    by_cases e : i = k + j
    · rw [e, Nat.mod_self, Hat 0 (by omega), H0]
    · rw [Nat.mod_eq_of_lt (by omega), Hat i (by omega)]
  have Eon : ∀ i, i < k + j → ∀ q, q ∈ ps → 0 ≤ crx (H i) (H (i + 1)) q := fun i hi q hq => by
    by_cases e : i < k
    · rw [HU i (by omega), HU (i + 1) (by omega)]
      exact (uon i (by omega)).2 q hq
    · obtain ⟨d, rfl⟩ : ∃ d, i = k + d := ⟨i - k, by omega⟩
      rw [HV, Nat.add_assoc, HV]
      exact (von d (by omega)).2 q hq
  have Hin : ∀ i, i ≤ k + j → H i ∈ ps := fun i hi => by
    by_cases e : i < k
    · rw [HU i (by omega), List.getD_eq_getElem?_getD, List.getElem?_eq_getElem (by omega)]
      exact us _ (List.getElem_mem _)
    · obtain ⟨d, rfl⟩ : ∃ d, i = k + d := ⟨i - k, by omega⟩
      rw [HV, List.getD_eq_getElem?_getD, List.getElem?_eq_getElem (by omega)]
      exact vs _ (List.getElem_mem _)
  have jm : 0 < crx (H (k - 1)) (H k) (H (k + 1)) := by
    have a1 : lxl (H (k - 1)) (H k) := by
      have := (uon (k - 1) (by omega)).1
      rw [HU _ (by omega), HU _ (by omega)]
      rwa [show k - 1 + 1 = k by omega] at this
    have a2 : lxl (H (k + 1)) (H k) := by
      have := (von 0 (by omega)).1
      rw [HV, HU k (by omega), u2, ← v1]
      exact this
    have a3 : ∀ q, q ∈ ps → 0 ≤ crx (H (k - 1)) (H k) q := fun q hq => by
      have := Eon (k - 1) (by omega) q hq
      rwa [show k - 1 + 1 = k by omega] at this
    have a4 := Eon k (by omega)
    have a5 := a3 _ (Hin (k + 1) (by omega))
    apply Classical.byContradiction
    intro hn
    exact hnc (H (k - 1)) (H k) (fun e => lx_low.ir _ (by rw [← e] at a1; exact a1)) fun q hq => g4_low a1 a2 (by omega) (a3 q hq) (a4 q hq)
  have j0 : 0 < crx (H (k + j - 1)) (H (k + j)) (H 1) := by
    have a1 : lxl (H (k + j)) (H (k + j - 1)) := by
      have := (von (j - 1) (by omega)).1
      rw [HV, show k + j - 1 = k + (j - 1) by omega, HV]
      rwa [show j - 1 + 1 = j by omega] at this
    have a2 : lxl (H (k + j)) (H 1) := by
      have := (uon 0 (by omega)).1
      rw [H0, HU 1 (by omega), HU 0 (by omega)]
      exact this
    have a3 : ∀ q, q ∈ ps → 0 ≤ crx (H (k + j - 1)) (H (k + j)) q := fun q hq => by
      have := Eon (k + j - 1) (by omega) q hq
      rwa [show k + j - 1 + 1 = k + j by omega] at this
    have a4 : ∀ q, q ∈ ps → 0 ≤ crx (H (k + j)) (H 1) q := fun q hq => by
      rw [H0]
      exact Eon 0 (by omega) q hq
    have a5 := a3 _ (Hin 1 (by omega))
    apply Classical.byContradiction
    intro hn
    exact hnc (H (k + j)) (H (k + j - 1)) (fun e => lx_low.ir _ (by rw [← e] at a1; exact a1)) fun q hq => by
      have h := g4_high a1 a2 (by omega) (a3 q hq) (a4 q hq)
      have e : crx (H (k + j)) (H (k + j - 1)) q = - crx (H (k + j - 1)) (H (k + j)) q := by unfold crx; grind
      rw [e, h]
      rfl
  have Tn : ∀ i, i + 2 ≤ k + j → 0 < crx (H i) (H (i + 1)) (H (i + 2)) := fun i hi => by
    by_cases e : i + 2 ≤ k
    · rw [HU i (by omega), HU (i + 1) (by omega), HU (i + 2) (by omega)]
      exact ub i (by omega)
    · by_cases e2 : i + 1 = k
      · rw [← e2] at jm
        simpa using jm
      · obtain ⟨d, rfl⟩ : ∃ d, i = k + d := ⟨i - k, by omega⟩
        rw [HV, Nat.add_assoc, HV, Nat.add_assoc, HV]
        exact vb d (by omega)
  refine ⟨by omega, fun q hq => ?_, fun i hi => ?_, fun i hi q hq => ?_⟩
  · rcases List.mem_append.1 hq with h | h
    · exact us q (List.dropLast_subset _ h)
    · exact vs q (List.dropLast_subset _ h)
  · rw [hlen] at hi ⊢
    rw [Hat i hi, Hs (i + 1) (by omega)]
    by_cases e : i + 2 ≤ k + j
    · rw [Hs (i + 2) e]
      exact Tn i e
    · have e1 : i + 2 = k + j + 1 := by omega
      rw [e1, Nat.add_mod_left, Hs 1 (by omega), show i + 1 = k + j by omega]
      rw [show k + j - 1 = i by omega] at j0
      exact j0
  · rw [hlen] at hi ⊢
    rw [Hat i hi, Hs (i + 1) (by omega)]
    exact Eon i hi q hq
end Go.Proofs.Ytelaoimcaidoiaa

/- Plain: the hull of a border's corners, from its first spot on. -/
namespace Go.Proofs.Ytelaoimcaidoiaa
open Go
theorem pw_least {ps : List (Int × Int)} (hs : ps.Pairwise lxl) {q : Int × Int} (hq : q ∈ ps) : (q = ps.getD 0 (0, 0) ∨ lxl (ps.getD 0 (0, 0)) q) ∧ (q = ps.getD (ps.length - 1) (0, 0) ∨ lxl q (ps.getD (ps.length - 1) (0, 0))) := by
  obtain ⟨i, hi, rfl⟩ := List.mem_iff_getElem.1 hq
  have hp := List.pairwise_iff_getElem.1 hs
  constructor
  · rw [List.getD_eq_getElem?_getD, List.getElem?_eq_getElem (show 0 < ps.length by omega)]
    rcases Nat.eq_zero_or_pos i with e | e
    · subst e; exact .inl rfl
    · exact .inr (hp 0 i (by omega) hi e)
  · rw [List.getD_eq_getElem?_getD, List.getElem?_eq_getElem (show ps.length - 1 < ps.length by omega)]
    by_cases e : i = ps.length - 1
    · subst e; exact .inl rfl
    · exact .inr (hp i (ps.length - 1) hi (by omega) (by omega))
theorem hull_cor {ps : List (Int × Int)} (hs : ps.Pairwise lxl) (h1 : 1 ≤ ps.length)
    (hx : ∀ p, p ∈ ps → (∃ q, q ∈ ps ∧ q.1 = p.1 ∧ q.2 ≠ p.2) ∧ (∃ q, q ∈ ps ∧ q.2 = p.2 ∧ q.1 ≠ p.1)) :
    Hull ps ((chS ps).reverse.dropLast ++ (chS ps.reverse).reverse.dropLast) := by
  have hm : ∀ i, i < ps.length → ps.getD i (0, 0) ∈ ps := fun i hi => by
    rw [List.getD_eq_getElem?_getD, List.getElem?_eq_getElem hi]
    exact List.getElem_mem _
  obtain ⟨⟨a, a1, a2, a3⟩, ⟨b, b1, b2, b3⟩⟩ := hx _ (hm 0 (by omega))
  obtain ⟨⟨d, d1, d2, d3⟩, -⟩ := hx _ (hm (ps.length - 1) (by omega))
  have la := (pw_least hs a1).1
  have lb := pw_least hs b1
  have ld := (pw_least hs d1).2
  have h2 : 2 ≤ ps.length := by
    apply Classical.byContradiction
    intro hn
    obtain ⟨x, hxx⟩ := List.length_eq_one_iff.1 (show ps.length = 1 by omega)
    rw [hxx] at a1 a3
    rw [List.mem_singleton] at a1
    rw [a1] at a3
    exact a3 rfl
  refine hull_of h2 hs (fun u v huv h0 => ?_) ⟨d, d1, ?_⟩ ⟨a, a1, ?_⟩
  · have c0 := h0 _ (hm 0 (by omega))
    have ca := h0 _ a1
    have cb := h0 _ b1
    generalize ps.getD 0 (0, 0) = p at *
    obtain ⟨u1, u2⟩ := u
    obtain ⟨v1, v2⟩ := v
    obtain ⟨p1, p2⟩ := p
    obtain ⟨e1, e2⟩ := a
    obtain ⟨f1, f2⟩ := b
    unfold crx at c0 ca cb
    simp only at *
    subst a2
    subst b2
    have k1 : (v1 - u1) * (e2 - f2) = 0 := by grind
    have k2 : (v2 - u2) * (f1 - e1) = 0 := by grind
    rcases Int.mul_eq_zero.1 k1 with k1 | k1
    · rcases Int.mul_eq_zero.1 k2 with k2 | k2
      · exact huv (by rw [show u1 = v1 by omega, show u2 = v2 by omega])
      · omega
    · omega
  · generalize ps.getD 0 (0, 0) = p at *
    generalize ps.getD (ps.length - 1) (0, 0) = m at *
    unfold lxl at *
    have hpm : p.1 < m.1 := by
      rcases lb.1 with e | e
      · rw [e] at b3; exact absurd rfl b3
      · rcases lb.2 with e' | e'
        · rw [← e']; omega
        · omega
    have hd : d.2 < m.2 := by
      rcases ld with e | e
      · rw [e] at d3; exact absurd rfl d3
      · omega
    have e : crx p m d = -((m.1 - p.1) * (m.2 - d.2)) := by unfold crx; rw [d2]; grind
    rw [e]
    have := Int.mul_pos (show 0 < m.1 - p.1 by omega) (show 0 < m.2 - d.2 by omega)
    omega
  · generalize ps.getD 0 (0, 0) = p at *
    generalize ps.getD (ps.length - 1) (0, 0) = m at *
    unfold lxl at *
    have hpm : p.1 < m.1 := by
      rcases lb.1 with e | e
      · rw [e] at b3; exact absurd rfl b3
      · rcases lb.2 with e' | e'
        · rw [← e']; omega
        · omega
    have hd : p.2 < a.2 := by
      rcases la with e | e
      · rw [e] at a3; exact absurd rfl a3
      · omega
    have e : crx m p a = -((m.1 - p.1) * (a.2 - p.2)) := by unfold crx; rw [a2]; grind
    rw [e]
    have := Int.mul_pos (show 0 < m.1 - p.1 by omega) (show 0 < a.2 - p.2 by omega)
    omega
def rotL (f : Nat) (h : List (Int × Int)) : List (Int × Int) := h.drop f ++ h.take f
theorem rotL_len {f : Nat} {h : List (Int × Int)} (hf : f ≤ h.length) : (rotL f h).length = h.length := by
  unfold rotL
  rw [List.length_append, List.length_drop, List.length_take]
  omega
theorem rotL_at {f : Nat} {h : List (Int × Int)} (hf : f < h.length) {i : Nat} (hi : i < h.length) : (rotL f h).getD i (0, 0) = h.getD ((i + f) % h.length) (0, 0) := by
  unfold rotL
  rw [List.getD_eq_getElem?_getD, List.getD_eq_getElem?_getD]
  by_cases e : i + f < h.length
  · rw [List.getElem?_append_left (by rw [List.length_drop]; omega), List.getElem?_drop, Nat.mod_eq_of_lt e, Nat.add_comm]
  · rw [List.getElem?_append_right (by rw [List.length_drop]; omega), List.length_drop, List.getElem?_take, if_pos (by omega)]
    congr 2
    rw [show i + f = (i - (h.length - f)) + h.length by omega, Nat.add_mod_right, Nat.mod_eq_of_lt (by omega)]
theorem rotL_mem {f : Nat} {h : List (Int × Int)} {q : Int × Int} : q ∈ rotL f h ↔ q ∈ h := by
  unfold rotL
  rw [List.mem_append, Or.comm, ← List.mem_append, List.take_append_drop]
theorem hull_rot {ps h : List (Int × Int)} (H : Hull ps h) {f : Nat} (hf : f < h.length) : Hull ps (rotL f h) := by
  have hl := rotL_len (Nat.le_of_lt hf)
  have hm : ∀ x, x % h.length < h.length := fun x => Nat.mod_lt _ (by omega)
  have e1 : ∀ i d, ((i + d) % h.length + f) % h.length = ((i + f) % h.length + d) % h.length := fun i d => by
    rw [Nat.mod_add_mod, Nat.mod_add_mod]
    congr 1
    omega
  refine ⟨by rw [hl]; exact H.four, fun q hq => H.sub q (rotL_mem.1 hq), fun i hi => ?_, fun i hi q hq => ?_⟩
  · rw [hl] at hi ⊢
    rw [rotL_at hf hi, rotL_at hf (hm _), rotL_at hf (hm _), e1, e1]
    exact H.bend _ (hm _)
  · rw [hl] at hi ⊢
    rw [rotL_at hf hi, rotL_at hf (hm _), e1]
    exact H.on _ (hm _) q hq
/-- Whether a spot comes ahead of another one, in reading order. -/
def rdB (a b : Int × Int) : Bool := decide (a.2 < b.2 ∨ (a.2 = b.2 ∧ a.1 < b.1))
/-- The number of the least spot of the first k. -/
def fstN (h : List (Int × Int)) : Nat → Nat
  | 0 => 0
  | k + 1 => if rdB (h.getD k (0, 0)) (h.getD (fstN h k) (0, 0)) = true then k else fstN h k
theorem fstN_lt (h : List (Int × Int)) : ∀ k, 0 < k → fstN h k < k
  | 0, h => by omega
  | k + 1, _ => by
    unfold fstN
    split
    · omega
    · rcases Nat.eq_zero_or_pos k with e | e
      · subst e; exact Nat.lt_succ_self _
      · have := fstN_lt h k e
        omega
theorem fstN_least (h : List (Int × Int)) : ∀ k i, i < k → rdB (h.getD i (0, 0)) (h.getD (fstN h k) (0, 0)) = false
  | 0, i, hi => by omega
  | k + 1, i, hi => by
    have ih := fstN_least h k i
    unfold fstN
    split
    · rename_i hr
      by_cases e : i = k
      · subst e
        unfold rdB
        rw [decide_eq_false_iff_not]
        omega
      · have h2 := ih (by omega)
        unfold rdB at *
        have := of_decide_eq_true hr
        have := of_decide_eq_false h2
        rw [decide_eq_false_iff_not]
        omega
    · rename_i hr
      by_cases e : i = k
      · subst e
        cases hh : rdB (h.getD i (0, 0)) (h.getD (fstN h i) (0, 0))
        · rfl
        · exact absurd hh hr
      · exact ih (by omega)
/-- The hull as the program tells it. -/
def hulL (ps : List (Int × Int)) : List (Int × Int) := (chS ps).reverse.dropLast ++ (chS ps.reverse).reverse.dropLast
theorem hull_all {ps : List (Int × Int)} (hs : ps.Pairwise lxl) (h1 : 1 ≤ ps.length)
    (hx : ∀ p, p ∈ ps → (∃ q, q ∈ ps ∧ q.1 = p.1 ∧ q.2 ≠ p.2) ∧ (∃ q, q ∈ ps ∧ q.2 = p.2 ∧ q.1 ≠ p.1)) :
    Hull ps (rotL (fstN (hulL ps) (hulL ps).length) (hulL ps)) ∧ ∀ i, i < (hulL ps).length → rdB ((rotL (fstN (hulL ps) (hulL ps).length) (hulL ps)).getD i (0, 0)) ((rotL (fstN (hulL ps) (hulL ps).length) (hulL ps)).getD 0 (0, 0)) = false := by
  have H := hull_cor hs h1 hx
  have hf := fstN_lt (hulL ps) (hulL ps).length (by have := H.four; unfold hulL; omega)
  refine ⟨hull_rot H hf, fun i hi => ?_⟩
  rw [rotL_at hf hi, rotL_at hf (by omega), Nat.zero_add, Nat.mod_eq_of_lt hf]
  exact fstN_least _ _ _ (Nat.mod_lt _ (by omega))
end Go.Proofs.Ytelaoimcaidoiaa

/- Plain: the corners of a border. -/
namespace Go.Proofs.Ytelaoimcaidoiaa
open Go
/-- Whether a border turns ahead of a step. -/
def isC (K : Nat → Nat) (n i : Nat) : Bool := !(tnV K n i == 0)
def corI (K : Nat → Nat) (n i : Nat) : List Nat := (List.range i).filter (isC K n)
theorem corI_yes {K : Nat → Nat} {n i : Nat} (h : isC K n i = true) : corI K n (i + 1) = corI K n i ++ [i] := by
  unfold corI
  rw [List.range_succ, List.filter_append]
  simp [h]
theorem corI_no {K : Nat → Nat} {n i : Nat} (h : isC K n i = false) : corI K n (i + 1) = corI K n i := by
  unfold corI
  rw [List.range_succ, List.filter_append]
  simp [h]
theorem corI_mem {K : Nat → Nat} {n m i : Nat} : i ∈ corI K n m ↔ i < m ∧ isC K n i = true := by
  unfold corI
  rw [List.mem_filter, List.mem_range]
theorem corI_len (K : Nat → Nat) (n : Nat) : ∀ i, (corI K n i).length ≤ i
  | 0 => Nat.le_refl _
  | i + 1 => by
    have := corI_len K n i
    cases h : isC K n i
    · rw [corI_no h]; omega
    · rw [corI_yes h, List.length_append]
      show _ + 1 ≤ _
      omega
theorem gl {L : List Nat} {x d j : Nat} (h : j < L.length) : (L ++ [x]).getD j d = L.getD j d := by
  rw [List.getD_eq_getElem?_getD, List.getElem?_append_left h, List.getD_eq_getElem?_getD]
theorem gr {L : List Nat} {x d : Nat} : (L ++ [x]).getD L.length d = x := by
  rw [List.getD_eq_getElem?_getD]
  simp
theorem go_ {L : List Nat} {d j : Nat} (h : L.length ≤ j) : L.getD j d = d := by
  rw [List.getD_eq_getElem?_getD, List.getElem?_eq_none h]
  rfl
/-- A corner and the one behind it: none lies between. -/
theorem corI_next (K : Nat → Nat) (n : Nat) : ∀ m j, j < (corI K n m).length →
    isC K n ((corI K n m).getD j m) = true ∧ (corI K n m).getD j m < (corI K n m).getD (j + 1) m ∧ (corI K n m).getD (j + 1) m ≤ m ∧ ∀ t, (corI K n m).getD j m < t → t < (corI K n m).getD (j + 1) m → isC K n t = false
  | 0, j, h => by cases h
  | m + 1, j, h => by
    have dflt : ∀ (L : List Nat) (j d d' : Nat), j < L.length → L.getD j d = L.getD j d' := fun L j d d' h => by
      rw [List.getD_eq_getElem?_getD, List.getD_eq_getElem?_getD, List.getElem?_eq_getElem h]
      rfl
    cases hc : isC K n m
    · rw [corI_no hc] at h ⊢
      obtain ⟨h1, h2, h3, h4⟩ := corI_next K n m j h
      rw [dflt _ j (m + 1) m h]
      by_cases hj : j + 1 < (corI K n m).length
      · rw [dflt _ (j + 1) (m + 1) m hj]
        exact ⟨h1, h2, by omega, h4⟩
      · rw [go_ (L := corI K n m) (d := m) (j := j + 1) (by omega)] at h2 h3 h4
        rw [go_ (L := corI K n m) (d := m + 1) (j := j + 1) (by omega)]
        refine ⟨h1, by omega, Nat.le_refl _, fun t ht1 ht2 => ?_⟩
        by_cases e : t = m
        · rw [e]; exact hc
        · exact h4 t ht1 (by omega)
    · rw [corI_yes hc] at h ⊢
      by_cases hj : j < (corI K n m).length
      · obtain ⟨h1, h2, h3, h4⟩ := corI_next K n m j hj
        rw [gl hj, dflt _ j (m + 1) m hj]
        by_cases hj2 : j + 1 < (corI K n m).length
        · rw [gl hj2, dflt _ (j + 1) (m + 1) m hj2]
          exact ⟨h1, h2, by omega, h4⟩
        · have e : j + 1 = (corI K n m).length := by omega
          rw [e, gr]
          rw [go_ (L := corI K n m) (d := m) (j := j + 1) (by omega)] at h2 h3 h4
          exact ⟨h1, h2, by omega, h4⟩
      · rw [List.length_append] at h
        have e : j = (corI K n m).length := by
          have : [m].length = 1 := rfl
          omega
        rw [e, gr, go_ (by rw [List.length_append]; exact Nat.le_refl _)]
        exact ⟨hc, by omega, Nat.le_refl _, fun t ht1 ht2 => by omega⟩
/-- A closed way of steps that never leads straight back. -/
structure Way (c : Nat → Edg) (n : Nat) : Prop where
  pos : 0 < n
  sx : ∀ i, (c (i + 1)).x = (c i).x + dX (c i).k
  sy : ∀ i, (c (i + 1)).y = (c i).y + dY (c i).k
  back : c n = c 0
  k4 : ∀ i, (c i).k < 4
  nb : ∀ i, ((c i).k + 2) % 4 ≠ (c (i + 1)).k
theorem Ring.way {f : Int → Int → Bool} {c : Nat → Edg} {n : Nat} (R : Ring f c n) : Way c n :=
  ⟨R.pos, fun i => by rw [R.next i]; rfl, fun i => by rw [R.next i]; rfl, R.back, fun i => (R.ok i).1, fun i => by rw [R.next i]; exact nxt_noback (R.ok i)⟩
section
variable {c : Nat → Edg} {n : Nat}
def cK (c : Nat → Edg) (i : Nat) : Nat := (c i).k
def cP (c : Nat → Edg) (i : Nat) : Int × Int := ((c i).x, (c i).y)
theorem prv {i : Nat} (hn : 0 < n) (hi : i < n) : (i = 0 ∧ (i + n - 1) % n + 1 = n) ∨ (0 < i ∧ (i + n - 1) % n + 1 = i) := by
  rcases Nat.eq_zero_or_pos i with h | h
  · refine .inl ⟨h, ?_⟩
    rw [Nat.mod_eq_of_lt (by omega)]
    omega
  · refine .inr ⟨h, ?_⟩
    rw [show i + n - 1 = i - 1 + n by omega, Nat.add_mod_right, Nat.mod_eq_of_lt (by omega)]
    omega
theorem Way.prv (h : Way c n) {i : Nat} (hi : i < n) : c ((i + n - 1) % n + 1) = c i := by
  rcases Go.Proofs.Ytelaoimcaidoiaa.prv h.pos hi with ⟨e, e2⟩ | ⟨-, e2⟩
  · rw [e2, h.back, e]
  · rw [e2]
theorem isC_no (h : Way c n) {i : Nat} : isC (cK c) n i = false ↔ cK c i = cK c ((i + n - 1) % n) := by
  have h1 : cK c i < 4 := h.k4 i
  have h2 : cK c ((i + n - 1) % n) < 4 := h.k4 _
  unfold isC tnV
  rw [Bool.not_eq_false', beq_iff_eq]
  omega
theorem isC_yes (h : Way c n) {i : Nat} (hi : i < n) (hc : isC (cK c) n i = true) : (cK c i % 2 = 0 ∧ cK c ((i + n - 1) % n) % 2 = 1) ∨ (cK c i % 2 = 1 ∧ cK c ((i + n - 1) % n) % 2 = 0) := by
  have h1 : cK c i < 4 := h.k4 i
  have h2 : cK c ((i + n - 1) % n) < 4 := h.k4 _
  have h3 : (cK c ((i + n - 1) % n) + 2) % 4 ≠ cK c i := by
    have := h.nb ((i + n - 1) % n)
    rw [h.prv hi] at this
    exact this
  unfold isC tnV at hc
  rw [Bool.not_eq_true', beq_eq_false_iff_ne] at hc
  omega
/-- Between corners all steps have one way. -/
theorem Way.straight (h : Way c n) {a b : Nat} (_ : a < b) (hbn : b ≤ n) (hs : ∀ t, a < t → t < b → isC (cK c) n t = false) : ∀ t, a ≤ t → t < b → cK c t = cK c a := fun t => by
  induction t with
  | zero => intro h1 _; rw [show a = 0 by omega]
  | succ t ih =>
    intro h1 h2
    by_cases e : a = t + 1
    · rw [e]
    · have := (isC_no h).1 (hs (t + 1) (by omega) h2)
      rcases Go.Proofs.Ytelaoimcaidoiaa.prv h.pos (show t + 1 < n by omega) with ⟨e1, -⟩ | ⟨-, e2⟩
      · cases e1
      · rw [this, show (t + 1 + n - 1) % n = t by omega]
        exact ih (by omega) (by omega)
theorem Way.along (h : Way c n) {a b : Nat} (hs : ∀ t, a ≤ t → t < b → cK c t = cK c a) : ∀ d : Nat, a + d ≤ b → (c (a + d)).x = (c a).x + (d : Int) * dX (cK c a) ∧ (c (a + d)).y = (c a).y + (d : Int) * dY (cK c a)
  | 0, _ => by
    constructor <;> simp
  | d + 1, hd => by
    obtain ⟨h1, h2⟩ := h.along hs d (by omega)
    have h3 : (c (a + d)).k = cK c a := hs (a + d) (by omega) (by omega)
    rw [← Nat.add_assoc, h.sx, h.sy, h1, h2, h3]
    constructor <;> (push_cast; rw [Int.add_mul]; omega)
/-- The corners' numbers, and the way from one to the one behind it. -/
def corN (c : Nat → Edg) (n j : Nat) : Nat := (corI (cK c) n n).getD j n
structure Seg (c : Nat → Edg) (n a b : Nat) : Prop where
  cor : isC (cK c) n a = true
  lt : a < b
  le : b ≤ n
  all : ∀ t, a ≤ t → t < b → cK c t = cK c a
  x : (c b).x = (c a).x + ((b - a : Nat) : Int) * dX (cK c a)
  y : (c b).y = (c a).y + ((b - a : Nat) : Int) * dY (cK c a)
theorem Way.seg (h : Way c n) {j : Nat} (hj : j < (corI (cK c) n n).length) : Seg c n (corN c n j) (corN c n (j + 1)) := by
  obtain ⟨h1, h2, h3, h4⟩ := corI_next (cK c) n n j hj
  change corN c n j < corN c n (j + 1) at h2
  change corN c n (j + 1) ≤ n at h3
  have h5 : ∀ t, corN c n j ≤ t → t < corN c n (j + 1) → cK c t = cK c (corN c n j) := h.straight h2 h3 h4
  have h6 := h.along h5 (corN c n (j + 1) - corN c n j) (by omega)
  rw [show corN c n j + (corN c n (j + 1) - corN c n j) = corN c n (j + 1) by omega] at h6
  exact ⟨h1, h2, h3, h5, h6.1, h6.2⟩
/-- Corners and turns. -/
theorem corI_turn (h : Way c n) : ∀ i, i ≤ n → ∃ u v : Nat, (corI (cK c) n i).length = u + v ∧ tnS (cK c) n i = (u : Int) - v
  | 0, _ => ⟨0, 0, rfl, rfl⟩
  | i + 1, hi => by
    obtain ⟨u, v, e1, e2⟩ := corI_turn h i (by omega)
    have h1 : cK c i < 4 := h.k4 i
    have h2 : cK c ((i + n - 1) % n) < 4 := h.k4 _
    have h3 : (cK c ((i + n - 1) % n) + 2) % 4 ≠ cK c i := by
      have := h.nb ((i + n - 1) % n)
      rw [h.prv (by omega)] at this
      exact this
    have e3 : tnS (cK c) n (i + 1) = tnS (cK c) n i + tauK (cK c ((i + n - 1) % n)) (cK c i) := rfl
    cases hc : isC (cK c) n i
    · rw [corI_no hc, e3]
      have := (isC_no h).1 hc
      refine ⟨u, v, e1, ?_⟩
      unfold tauK
      rw [if_neg (by omega), if_neg (by omega)]
      omega
    · rw [corI_yes hc, e3, List.length_append, e1, e2]
      unfold isC tnV at hc
      rw [Bool.not_eq_true', beq_eq_false_iff_ne] at hc
      unfold tauK
      by_cases e : cK c i = (cK c ((i + n - 1) % n) + 1) % 4
      · rw [if_pos e]
        exact ⟨u + 1, v, by simp only [List.length_singleton]; omega, by omega⟩
      · rw [if_neg e, if_pos (by omega)]
        exact ⟨u, v + 1, by simp only [List.length_singleton]; omega, by omega⟩
theorem corI_even (h : Way c n) (ht : turnS c n = 4 ∨ turnS c n = -4) : 4 ≤ (corI (cK c) n n).length ∧ (corI (cK c) n n).length % 2 = 0 := by
  obtain ⟨u, v, e1, e2⟩ := corI_turn h n (Nat.le_refl _)
  have e3 : tnS (cK c) n n = turnS c n := tnS_turn c h.pos h.back
  omega
/-- The corners. -/
def corL (c : Nat → Edg) (n i : Nat) : List (Int × Int) := (corI (cK c) n i).map (cP c)
theorem corL_len : (corL c n n).length = (corI (cK c) n n).length := by simp [corL]
theorem corL_at {j : Nat} (hj : j < (corI (cK c) n n).length) : (corL c n n).getD j (0, 0) = cP c (corN c n j) := by
  unfold corL corN
  rw [List.getD_eq_getElem?_getD, List.getElem?_map, List.getD_eq_getElem?_getD, List.getElem?_eq_getElem hj]
  rfl
theorem corN_zero (h : Way c n) (h0 : isC (cK c) n 0 = true) : corN c n 0 = 0 ∧ 0 < (corI (cK c) n n).length := by
  have hm : 0 ∈ corI (cK c) n n := corI_mem.2 ⟨h.pos, h0⟩
  have hl : 0 < (corI (cK c) n n).length := List.length_pos_of_mem hm
  refine ⟨?_, hl⟩
  obtain ⟨i, hi, e⟩ := List.mem_iff_getElem.1 hm
  rcases Nat.eq_zero_or_pos i with hz | hz
  · subst hz
    unfold corN
    rw [List.getD_eq_getElem?_getD, List.getElem?_eq_getElem hi, e]
    rfl
  · have hp := (List.pairwise_lt_range (n := n)).filter (isC (cK c) n)
    have := List.pairwise_iff_getElem.1 hp 0 i hl hi hz
    have e' : ((List.range n).filter (isC (cK c) n))[i] = 0 := e
    rw [e'] at this
    omega
theorem corN_end {j : Nat} (hj : (corI (cK c) n n).length ≤ j) : corN c n j = n := go_ hj
/-- The corner behind the last one is the first one. -/
theorem corL_next (h : Way c n) (h0 : isC (cK c) n 0 = true) {j : Nat} (hj : j < (corI (cK c) n n).length) : (corL c n n).getD ((j + 1) % (corI (cK c) n n).length) (0, 0) = cP c (corN c n (j + 1)) := by
  obtain ⟨z1, z2⟩ := corN_zero h h0
  by_cases e : j + 1 < (corI (cK c) n n).length
  · rw [Nat.mod_eq_of_lt e, corL_at e]
  · rw [show j + 1 = (corI (cK c) n n).length by omega, Nat.mod_self, corL_at z2, z1, corN_end (Nat.le_refl _)]
    unfold cP
    rw [h.back]
theorem dXY {k : Nat} (h : k < 4) : (k % 2 = 0 ∧ dY k = 0 ∧ (dX k = 1 ∨ dX k = -1)) ∨ (k % 2 = 1 ∧ dX k = 0 ∧ (dY k = 1 ∨ dY k = -1)) := by
  have : k = 0 ∨ k = 1 ∨ k = 2 ∨ k = 3 := by omega
  rcases this with rfl | rfl | rfl | rfl <;> decide
/-- Each corner has one in its column and one in its row. -/
theorem cor_cross (h : Way c n) (h0 : isC (cK c) n 0 = true) {j : Nat} (hj : j < (corI (cK c) n n).length) :
    (∃ q, q ∈ corL c n n ∧ q.1 = (cP c (corN c n j)).1 ∧ q.2 ≠ (cP c (corN c n j)).2) ∧ (∃ q, q ∈ corL c n n ∧ q.2 = (cP c (corN c n j)).2 ∧ q.1 ≠ (cP c (corN c n j)).1) := by
  obtain ⟨m, hm⟩ : ∃ m, m = (corI (cK c) n n).length := ⟨_, rfl⟩
  have hmem : ∀ i, i < m → (corL c n n).getD i (0, 0) ∈ corL c n n := fun i hi => by
    have : i < (corL c n n).length := by rw [corL_len]; omega
    rw [List.getD_eq_getElem?_getD, List.getElem?_eq_getElem this]
    exact List.getElem_mem _
  have s1 := h.seg hj
  have q1 := corL_next h h0 hj
  have m1 := hmem ((j + 1) % m) (Nat.mod_lt _ (by omega))
  rw [hm, q1] at m1
  -- the one ahead
  obtain ⟨i, hi, hij⟩ : ∃ i, i < m ∧ (i + 1) % m = j := by
    rcases Nat.eq_zero_or_pos j with e | e
    · exact ⟨m - 1, by omega, by rw [show m - 1 + 1 = m by omega, Nat.mod_self, e]⟩
    · exact ⟨j - 1, by omega, by rw [show j - 1 + 1 = j by omega]; exact Nat.mod_eq_of_lt (by omega)⟩
  have hi' : i < (corI (cK c) n n).length := by omega
  have s2 := h.seg hi'
  have q2 := corL_next h h0 hi'
  rw [← hm, hij, corL_at hj] at q2
  have m2 := hmem i hi
  rw [corL_at hi'] at m2
  have hkp : cK c ((corN c n j + n - 1) % n) = cK c (corN c n i) := by
    obtain ⟨z1, z2⟩ := corN_zero h h0
    have hjn : corN c n j < n := Nat.lt_of_lt_of_le s1.lt s1.le
    have hb : (corN c n j + n - 1) % n = corN c n (i + 1) - 1 := by
      rcases Nat.eq_zero_or_pos j with e | e
      · have : i = m - 1 := by
          rcases Nat.lt_or_ge (i + 1) m with h9 | h9
          · rw [Nat.mod_eq_of_lt h9] at hij; omega
          · omega
        rw [corN_end (j := i + 1) (by omega), e, z1, Nat.mod_eq_of_lt (by omega)]
        omega
      · have h9 : i + 1 = j := by
          rcases Nat.lt_or_ge (i + 1) m with h9 | h9
          · rw [Nat.mod_eq_of_lt h9] at hij; exact hij
          · rw [show i + 1 = m by omega, Nat.mod_self] at hij; omega
        rw [h9] at s2 ⊢
        have := s2.lt
        rw [show corN c n j + n - 1 = corN c n j - 1 + n by omega, Nat.add_mod_right, Nat.mod_eq_of_lt (by omega)]
    rw [hb]
    have := s2.lt
    exact s2.all _ (by omega) (by omega)
  have hc := isC_yes h (Nat.lt_of_lt_of_le s1.lt s1.le) s1.cor
  rw [hkp] at hc
  have d1 := dXY (h.k4 (corN c n j))
  have d2 := dXY (h.k4 (corN c n i))
  have x1 := s1.x
  have y1 := s1.y
  have x2 := s2.x
  have y2 := s2.y
  have l1 := s1.lt
  have l2 := s2.lt
  have e2x : (cP c (corN c n j)).1 = (c (corN c n (i + 1))).x := by rw [q2]; rfl
  have e2y : (cP c (corN c n j)).2 = (c (corN c n (i + 1))).y := by rw [q2]; rfl
  have f1 : ((corN c n (j + 1) - corN c n j : Nat) : Int) > 0 := by omega
  have f2 : ((corN c n (i + 1) - corN c n i : Nat) : Int) > 0 := by omega
  generalize ((corN c n (j + 1) - corN c n j : Nat) : Int) = t1 at *
  generalize ((corN c n (i + 1) - corN c n i : Nat) : Int) = t2 at *
  clear s1 s2 l1 l2 q1 q2
  have hdir : ∀ (a b : Nat) (t : Int), 0 < t → (c b).x = (c a).x + t * dX (cK c a) → (c b).y = (c a).y + t * dY (cK c a) → (cK c a % 2 = 0 → (c b).y = (c a).y ∧ (c b).x ≠ (c a).x) ∧ (cK c a % 2 = 1 → (c b).x = (c a).x ∧ (c b).y ≠ (c a).y) := fun a b t ht hx hy => by
    rcases dXY (h.k4 a) with ⟨k1, k2, k3⟩ | ⟨k1, k2, k3⟩
    · have k1' : cK c a % 2 = 0 := k1
      have k2' : dY (cK c a) = 0 := k2
      rw [k2', Int.mul_zero] at hy
      refine ⟨fun _ => ⟨by omega, ?_⟩, fun h => by omega⟩
      rcases k3 with k3 | k3 <;> (have k3' : dX (cK c a) = _ := k3; rw [k3'] at hx; omega)
    · have k1' : cK c a % 2 = 1 := k1
      have k2' : dX (cK c a) = 0 := k2
      rw [k2', Int.mul_zero] at hx
      refine ⟨fun h => by omega, fun _ => ⟨by omega, ?_⟩⟩
      rcases k3 with k3 | k3 <;> (have k3' : dY (cK c a) = _ := k3; rw [k3'] at hy; omega)
  obtain ⟨g1, g2⟩ := hdir _ _ t1 f1 x1 y1
  obtain ⟨g3, g4⟩ := hdir _ _ t2 f2 x2 y2
  rcases hc with ⟨c1, c2⟩ | ⟨c1, c2⟩
  · have a1 := g1 c1
    have a2 := g4 c2
    exact ⟨⟨_, m2, by rw [e2x]; exact a2.1.symm, by rw [e2y]; exact fun e => a2.2 e.symm⟩, ⟨_, m1, a1.1, a1.2⟩⟩
  · have a1 := g2 c1
    have a2 := g3 c2
    exact ⟨⟨_, m1, a1.1, a1.2⟩, ⟨_, m2, by rw [e2y]; exact a2.1.symm, by rw [e2x]; exact fun e => a2.2 e.symm⟩⟩
end
end Go.Proofs.Ytelaoimcaidoiaa
