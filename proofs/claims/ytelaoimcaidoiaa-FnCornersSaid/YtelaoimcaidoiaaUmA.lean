/- FnBorders, plain: how often a border winds around a pixel. -/
import Derived.Test.YtelaoimcaidoiaaEuA
import Derived.Test.YtelaoimcaidoiaaBrdP
namespace Go.Proofs.Ytelaoimcaidoiaa
open Go Go.RowKit
/-- The pixel to the right of a step, and that to its left. -/
def pxO (e : Edg) : Int × Int := if e.k = 0 then (e.x, e.y) else if e.k = 1 then (e.x - 1, e.y) else if e.k = 2 then (e.x - 1, e.y - 1) else (e.x, e.y - 1)
def pxX (e : Edg) : Int × Int := if e.k = 0 then (e.x, e.y - 1) else if e.k = 1 then (e.x, e.y) else if e.k = 2 then (e.x - 1, e.y) else (e.x - 1, e.y - 1)
def revE (e : Edg) : Edg := ⟨e.x + dX e.k, e.y + dY e.k, (e.k + 2) % 4⟩
theorem k4 {k : Nat} (h : k < 4) : k = 0 ∨ k = 1 ∨ k = 2 ∨ k = 3 := by omega
/-- The four pixels at a corner. -/
def quad (x y : Int) (j : Nat) : Int × Int := if j = 0 then (x, y) else if j = 1 then (x - 1, y) else if j = 2 then (x - 1, y - 1) else (x, y - 1)
theorem canB_quad (f : Int → Int → Bool) (x y : Int) {j : Nat} (hj : j < 4) : canB f x y j = (f (quad x y j).1 (quad x y j).2 && !f (quad x y ((j + 3) % 4)).1 (quad x y ((j + 3) % 4)).2) := by
  rcases k4 hj with rfl | rfl | rfl | rfl <;> rfl
theorem pxO_start {e : Edg} (_ : e.k < 4) : pxO e = quad e.x e.y e.k := rfl
theorem pxX_start {e : Edg} (hk : e.k < 4) : pxX e = quad e.x e.y ((e.k + 3) % 4) := by
  obtain ⟨x, y, k⟩ := e
  dsimp only at hk
  rcases k4 hk with rfl | rfl | rfl | rfl <;> simp [pxX, quad]
theorem pxO_end {e : Edg} (hk : e.k < 4) : pxO e = quad (e.x + dX e.k) (e.y + dY e.k) ((e.k + 1) % 4) := by
  obtain ⟨x, y, k⟩ := e
  dsimp only at hk
  rcases k4 hk with rfl | rfl | rfl | rfl <;> simp [pxO, quad, dX, dY, Prod.mk.injEq] <;> omega
theorem pxX_end {e : Edg} (hk : e.k < 4) : pxX e = quad (e.x + dX e.k) (e.y + dY e.k) ((e.k + 2) % 4) := by
  obtain ⟨x, y, k⟩ := e
  dsimp only at hk
  rcases k4 hk with rfl | rfl | rfl | rfl <;> simp [pxX, quad, dX, dY, Prod.mk.injEq] <;> omega
theorem quad_adj (x y : Int) {j : Nat} (hj : j < 4) : quad x y ((j + 1) % 4) ∈ nbA false (quad x y j) ∧ quad x y ((j + 3) % 4) ∈ nbA false (quad x y j) ∧ quad x y ((j + 2) % 4) ∈ nbA true (quad x y j) := by
  rw [nbA_iff, nbA_iff, nbA_iff]
  rcases k4 hj with rfl | rfl | rfl | rfl <;> simp [quad] <;> omega
theorem nbA_eight {p q : Int × Int} (h : q ∈ nbA false p) : q ∈ nbA true p := by
  rw [nbA_iff] at h ⊢
  exact ⟨h.1, h.2.1, .inl rfl⟩
theorem EOk.px {f : Int → Int → Bool} {e : Edg} (h : EOk f e) : f (pxO e).1 (pxO e).2 = true ∧ f (pxX e).1 (pxX e).2 = false := by
  have h2 := h.2
  rw [canB_quad f _ _ h.1, ← pxO_start h.1, ← pxX_start h.1, Bool.and_eq_true] at h2
  exact ⟨h2.1, by simpa using h2.2⟩
theorem EOk.of_px {f : Int → Int → Bool} {e : Edg} (hk : e.k < 4) (h1 : f (pxO e).1 (pxO e).2 = true) (h2 : f (pxX e).1 (pxX e).2 = false) : EOk f e :=
  ⟨hk, by rw [canB_quad f _ _ hk, ← pxO_start hk, ← pxX_start hk, h1, h2]; rfl⟩
theorem rev_px {e : Edg} (hk : e.k < 4) : pxO (revE e) = pxX e ∧ pxX (revE e) = pxO e ∧ (revE e).k < 4 := by
  obtain ⟨x, y, k⟩ := e
  dsimp only at hk
  rcases k4 hk with rfl | rfl | rfl | rfl <;> simp [pxO, pxX, revE, dX, dY, Prod.mk.injEq] <;> omega
theorem EOk.not_rev {f : Int → Int → Bool} {e : Edg} (h : EOk f e) : ¬ EOk f (revE e) := fun h2 => by
  have h3 := h2.px.1
  rw [(rev_px h.1).1, h.px.2] at h3
  cases h3
theorem trnB_eq (f : Int → Int → Bool) (x y : Int) (k : Nat) : trnB f x y k = if canB f x y ((k + 1) % 4) = true then (k + 1) % 4 else if canB f x y k = true then k else (k + 3) % 4 := rfl
/-- How a border goes on: the pixels at its right hand are joined by black ones, those at its left hand touch. -/
theorem own_next {f : Int → Int → Bool} {e : Edg} (h : EOk f e) :
    (∃ m : Int × Int, f m.1 m.2 = true ∧ (m = pxO e ∨ m ∈ nbA false (pxO e)) ∧ (pxO (nxt f e) = m ∨ pxO (nxt f e) ∈ nbA false m)) ∧ (pxX (nxt f e) = pxX e ∨ pxX (nxt f e) ∈ nbA true (pxX e)) := by
  have hk := h.1
  have hn := nxt_ok h
  obtain ⟨p1, p2⟩ := h.px
  have eO := pxO_end hk
  have eX := pxX_end hk
  have nO := pxO_start hn.1
  have nX := pxX_start hn.1
  have ek : (nxt f e).k = trnB f (e.x + dX e.k) (e.y + dY e.k) e.k := rfl
  have ex : (nxt f e).x = e.x + dX e.k := rfl
  have ey : (nxt f e).y = e.y + dY e.k := rfl
  have hnk := hn.1
  rw [ex, ey] at nO nX
  generalize (nxt f e).k = k' at *
  generalize pxO (nxt f e) = O' at *
  generalize pxX (nxt f e) = X' at *
  generalize pxO e = O at *
  generalize pxX e = X at *
  generalize e.x + dX e.k = vx at *
  generalize e.y + dY e.k = vy at *
  generalize e.k = k at *
  have c1 := canB_quad f vx vy (j := (k + 1) % 4) (by omega)
  have c0 := canB_quad f vx vy (j := k) hk
  rw [show ((k + 1) % 4 + 3) % 4 = k by omega, ← eO, p1, Bool.true_and] at c1
  rw [trnB_eq] at ek
  have a1 := quad_adj vx vy (j := (k + 1) % 4) (by omega)
  have a2 := quad_adj vx vy (j := (k + 2) % 4) (by omega)
  have a0 := quad_adj vx vy hk
  rw [show ((k + 1) % 4 + 3) % 4 = k by omega] at a1
  rw [show ((k + 2) % 4 + 2) % 4 = k by omega, show ((k + 2) % 4 + 1) % 4 = (k + 3) % 4 by omega] at a2
  by_cases h1 : canB f vx vy ((k + 1) % 4) = true
  · rw [if_pos h1] at ek
    subst ek
    rw [← eO] at nO
    rw [show ((k + 1) % 4 + 3) % 4 = k by omega] at nX
    exact ⟨⟨O, p1, .inl rfl, .inl nO⟩, .inr (by rw [nX, eX]; exact a2.2.2)⟩
  · rw [if_neg h1] at ek
    have hb : f (quad vx vy k).1 (quad vx vy k).2 = true := by
      cases hq : f (quad vx vy k).1 (quad vx vy k).2
      · rw [hq] at c1; exact absurd c1 h1
      · rfl
    by_cases h2 : canB f vx vy k = true
    · rw [if_pos h2] at ek
      subst ek
      exact ⟨⟨quad vx vy k', hb, .inr (by rw [eO]; exact a1.2.1), .inl nO⟩, .inr (by rw [nX, eX]; exact nbA_eight a2.1)⟩
    · rw [if_neg h2] at ek
      subst ek
      rw [show ((k + 3) % 4 + 3) % 4 = (k + 2) % 4 by omega, ← eX] at nX
      exact ⟨⟨quad vx vy k, hb, .inr (by rw [eO]; exact a1.2.1), .inr (by rw [nO]; exact a0.2.1)⟩, .inl nX⟩
/-! The winding number. -/
def om (e : Edg) (x y : Int) : Int := if e.k = 3 ∧ e.y = y + 1 ∧ e.x ≤ x then 1 else if e.k = 1 ∧ e.y = y ∧ e.x ≤ x then -1 else 0
def isE (e t : Edg) : Int := if e = t then 1 else 0
def wnd (c : Nat → Edg) (n : Nat) (x y : Int) : Int := sI (fun i => om (c i) x y) n
def cntE (c : Nat → Edg) (n : Nat) (t : Edg) : Int := sI (fun i => isE (c i) t) n
theorem isE_mk (x y : Int) (k : Nat) (x' y' : Int) (k' : Nat) : isE ⟨x, y, k⟩ ⟨x', y', k'⟩ = if x = x' ∧ y = y' ∧ k = k' then 1 else 0 := by
  unfold isE
  simp only [Edg.mk.injEq]
theorem sI_sub (f g : Nat → Int) (n : Nat) : sI (fun i => f i - g i) n = sI f n - sI g n := by
  have h1 := sI_add f (fun i => - g i) n
  rw [sI_neg] at h1
  have h2 : sI (fun i => f i - g i) n = sI (fun i => f i + - g i) n := sI_congr fun i _ => by omega
  rw [h2, h1]
  omega
theorem wnd_row (c : Nat → Edg) (n : Nat) (x y : Int) : wnd c n x y - wnd c n (x - 1) y = cntE c n ⟨x, y + 1, 3⟩ - cntE c n ⟨x, y, 1⟩ := by
  unfold wnd cntE
  rw [← sI_sub, ← sI_sub]
  refine sI_congr fun i _ => ?_
  generalize c i = e
  obtain ⟨a, b, k⟩ := e
  rw [isE_mk, isE_mk]
  unfold om
  simp only
  split <;> split <;> split <;> split <;> (try split) <;> (try split) <;> omega
def phi (x y : Int) (a b : Int) : Int := if b = y ∧ a ≤ x then 1 else 0
theorem sI_tel (g : Nat → Int) : ∀ n, sI (fun i => g (i + 1) - g i) n = g n - g 0
  | 0 => by show 0 = g 0 - g 0; omega
  | n + 1 => by
    show sI (fun i => g (i + 1) - g i) n + (g (n + 1) - g n) = _
    rw [sI_tel g n]
    omega
/-- A closed way of steps. -/
structure Ring (f : Int → Int → Bool) (c : Nat → Edg) (n : Nat) : Prop where
  pos : 0 < n
  ok : ∀ i, EOk f (c i)
  next : ∀ i, c (i + 1) = nxt f (c i)
  back : c n = c 0
  inj : ∀ i j, i < n → j < n → c i = c j → i = j
section
variable {f : Int → Int → Bool} {c : Nat → Edg} {n : Nat} {W H : Nat}
theorem Ring.of {e : Edg} {n : Nat} (h : EOk f e) (hp : Per f e n) : Ring f (fun i => itr f i e) n := ⟨hp.1, itr_ok h, fun _ => rfl, hp.2.1, fun _ _ hi hj he => Per.inj h hp hi hj he⟩
theorem Ring.sum0 (R : Ring f c n) (g : Int → Int → Int) : sI (fun i => g ((c i).x + dX (c i).k) ((c i).y + dY (c i).k) - g (c i).x (c i).y) n = 0 := by
  have h1 : sI (fun i => g ((c i).x + dX (c i).k) ((c i).y + dY (c i).k) - g (c i).x (c i).y) n = sI (fun i => (fun j => g (c j).x (c j).y) (i + 1) - (fun j => g (c j).x (c j).y) i) n := sI_congr fun i _ => by
    simp only [R.next i]
    rfl
  have h2 := sI_tel (fun j => g (c j).x (c j).y) n
  simp only [R.back] at h2
  rw [h1, show (0 : Int) = g (c 0).x (c 0).y - g (c 0).x (c 0).y by omega]
  exact h2
theorem om_col (e : Edg) (hk : e.k < 4) (x y : Int) : om e x y - om e x (y - 1) = (isE e ⟨x, y, 0⟩ - isE e ⟨x + 1, y, 2⟩) + (phi x y (e.x + dX e.k) (e.y + dY e.k) - phi x y e.x e.y) := by
  obtain ⟨a, b, k⟩ := e
  dsimp only at hk
  rw [isE_mk, isE_mk]
  unfold om phi
  rcases k4 hk with rfl | rfl | rfl | rfl
  all_goals
    simp only [dX, dY, if_true, if_false, Nat.reduceEqDiff, false_and, and_false, and_true, true_and]
    (repeat' split) <;> omega
theorem wnd_col (R : Ring f c n) (x y : Int) : wnd c n x y - wnd c n x (y - 1) = cntE c n ⟨x, y, 0⟩ - cntE c n ⟨x + 1, y, 2⟩ := by
  have h0 := R.sum0 (phi x y)
  unfold wnd cntE
  rw [← sI_sub, ← sI_sub]
  rw [sI_congr (g := fun i => (isE (c i) ⟨x, y, 0⟩ - isE (c i) ⟨x + 1, y, 2⟩) + (phi x y ((c i).x + dX (c i).k) ((c i).y + dY (c i).k) - phi x y (c i).x (c i).y)) fun i _ => om_col _ (R.ok i).1 x y, sI_add, h0]
  omega
/-- Across a step, from left to right, it rises by how often the step is gone, less how often it is gone back. -/
theorem wnd_px (R : Ring f c n) {e : Edg} (hk : e.k < 4) : wnd c n (pxO e).1 (pxO e).2 - wnd c n (pxX e).1 (pxX e).2 = cntE c n e - cntE c n (revE e) := by
  obtain ⟨x, y, k⟩ := e
  dsimp only at hk
  rcases k4 hk with rfl | rfl | rfl | rfl
  · have := wnd_col R x y
    simpa [pxO, pxX, revE, dX, dY] using this
  · have := wnd_row c n x y
    simp [pxO, pxX, revE, dX, dY]
    omega
  · have := wnd_col R (x - 1) y
    simp [pxO, pxX, revE, dX, dY]
    rw [show x + -1 = x - 1 by omega]
    rw [show x - 1 + 1 = x by omega] at this
    omega
  · have := wnd_row c n x (y - 1)
    simp [pxO, pxX, revE, dX, dY]
    rw [show y + -1 = y - 1 by omega]
    rw [show y - 1 + 1 = y by omega] at this
    exact this
theorem sI_nn {g : Nat → Int} : ∀ {n : Nat}, (∀ i, i < n → 0 ≤ g i) → 0 ≤ sI g n
  | 0, _ => by show (0 : Int) ≤ 0; omega
  | n + 1, h => by
    have h1 := sI_nn (n := n) fun i hi => h i (by omega)
    have h2 := h n (by omega)
    show 0 ≤ sI g n + g n
    omega
theorem sI_single {g : Nat → Int} {a : Nat} : ∀ {n : Nat}, a < n → (∀ i, i < n → i ≠ a → g i = 0) → sI g n = g a := fun {n} h h2 => by
  have h3 := sI_one (f := g) (g := fun _ => 0) h fun i hi hn => h2 i hi hn
  rw [sI_zero fun _ _ => rfl] at h3
  omega
theorem cntE_in (R : Ring f c n) {i : Nat} (hi : i < n) : cntE c n (c i) = 1 := by
  unfold cntE
  rw [sI_single hi fun j hj hne => ?_]
  · unfold isE; rw [if_pos rfl]
  · unfold isE
    rw [if_neg fun e => hne (R.inj j i hj hi e)]
theorem cntE_out {t : Edg} (h : ∀ i, i < n → c i ≠ t) : cntE c n t = 0 := sI_zero fun i hi => by
  unfold isE
  rw [if_neg (h i hi)]
theorem cntE_or (R : Ring f c n) (t : Edg) : (cntE c n t = 0 ∧ ∀ i, i < n → c i ≠ t) ∨ (cntE c n t = 1 ∧ ∃ i, i < n ∧ c i = t) := by
  by_cases h : ∃ i, i < n ∧ c i = t
  · obtain ⟨i, hi, rfl⟩ := h
    exact .inr ⟨cntE_in R hi, i, hi, rfl⟩
  · exact .inl ⟨cntE_out fun i hi e => h ⟨i, hi, e⟩, fun i hi e => h ⟨i, hi, e⟩⟩
theorem cntE_bad (R : Ring f c n) {t : Edg} (h : ¬ EOk f t) : cntE c n t = 0 := cntE_out fun i _ e => h (e ▸ R.ok i)
/-- Two pixels side by side are the two at a step, or that back. -/
theorem adj_edge {p q : Int × Int} (h : q ∈ nbA false p) : ∃ e : Edg, e.k < 4 ∧ pxO e = p ∧ pxX e = q := by
  obtain ⟨px, py⟩ := p
  obtain ⟨qx, qy⟩ := q
  rw [nbA_iff] at h
  simp only [Bool.false_eq_true, false_or] at h
  have hc : (qx = px ∧ qy = py - 1) ∨ (qx = px + 1 ∧ qy = py) ∨ (qx = px ∧ qy = py + 1) ∨ (qx = px - 1 ∧ qy = py) := by omega
  rcases hc with ⟨h1, h2⟩ | ⟨h1, h2⟩ | ⟨h1, h2⟩ | ⟨h1, h2⟩ <;> rw [h1, h2]
  · exact ⟨⟨px, py, 0⟩, by simp only; omega, by simp [pxO], by simp [pxX]⟩
  · exact ⟨⟨px + 1, py, 1⟩, by simp only; omega, by simp [pxO], by simp [pxX]⟩
  · exact ⟨⟨px + 1, py + 1, 2⟩, by simp only; omega, by simp [pxO], by simp [pxX]⟩
  · exact ⟨⟨px, py + 1, 3⟩, by simp only; omega, by simp [pxO], by simp [pxX]⟩
/-- Neighbours of one colour are not parted. -/
theorem wnd_same (R : Ring f c n) {p q : Int × Int} (h : q ∈ nbA false p) (hf : f p.1 p.2 = f q.1 q.2) : wnd c n p.1 p.2 = wnd c n q.1 q.2 := by
  obtain ⟨e, hk, rfl, rfl⟩ := adj_edge h
  have h1 := wnd_px R hk
  obtain ⟨r1, r2, r3⟩ := rev_px hk
  have b1 := cntE_bad R (t := e) fun he => by rw [he.px.1, he.px.2] at hf; cases hf
  have b2 := cntE_bad R (t := revE e) fun he => by
    have h3 := he.px.1
    have h4 := he.px.2
    rw [r1] at h3
    rw [r2] at h4
    rw [h3, h4] at hf
    cases hf
  omega
theorem wnd_step (R : Ring f c n) {i : Nat} (hi : i < n) : wnd c n (pxO (c i)).1 (pxO (c i)).2 = wnd c n (pxX (c i)).1 (pxX (c i)).2 + 1 := by
  have h1 := wnd_px R (R.ok i).1
  rw [cntE_in R hi, cntE_bad R (R.ok i).not_rev] at h1
  omega
end
end Go.Proofs.Ytelaoimcaidoiaa

/- FnBorders, plain: a border parts the plane in two connected parts. -/
namespace Go.Proofs.Ytelaoimcaidoiaa
open Go Go.RowKit
section
variable {f : Int → Int → Bool} {c : Nat → Edg} {n : Nat} {W H : Nat}
theorem EOk.inO (hb : InBx f W H) {e : Edg} (h : EOk f e) : 0 ≤ (pxO e).1 ∧ (pxO e).1 < W ∧ 0 ≤ (pxO e).2 ∧ (pxO e).2 < H := hb _ _ h.px.1
theorem pxX_near {e : Edg} (hk : e.k < 4) : pxX e ∈ nbA false (pxO e) := by
  rw [pxO_start hk, pxX_start hk]
  exact (quad_adj _ _ hk).2.1
theorem EOk.inX (hb : InBx f W H) {e : Edg} (h : EOk f e) : -1 ≤ (pxX e).1 ∧ (pxX e).1 ≤ W ∧ -1 ≤ (pxX e).2 ∧ (pxX e).2 ≤ H := by
  have h1 := h.inO hb
  have h2 := (nbA_iff _ _ _).1 (pxX_near h.1)
  omega
theorem om_zero (hb : InBx f W H) {e : Edg} (h : EOk f e) {x y : Int} (hq : y < 0 ∨ (H : Int) ≤ y ∨ x < 0) : om e x y = 0 := by
  have h1 := h.inO hb
  unfold om
  by_cases h3 : e.k = 3
  · rw [if_neg (by
      rintro ⟨-, a1, a2⟩
      simp [pxO, h3] at h1
      omega), if_neg (by omega)]
  · rw [if_neg (by omega)]
    by_cases h4 : e.k = 1
    · rw [if_neg (by
        rintro ⟨-, a1, a2⟩
        simp [pxO, h4] at h1
        omega)]
    · rw [if_neg (by omega)]
theorem wnd_zero (hb : InBx f W H) (R : Ring f c n) {x y : Int} (hq : y < 0 ∨ (H : Int) ≤ y ∨ x < 0) : wnd c n x y = 0 := sI_zero fun i _ => om_zero hb (R.ok i) hq
theorem wnd_rightZ (hb : InBx f W H) (R : Ring f c n) {x : Int} (hx : (W : Int) ≤ x) : ∀ k : Nat, wnd c n x (-1 + (k : Int)) = 0
  | 0 => wnd_zero hb R (by omega)
  | k + 1 => by
    have h1 := wnd_rightZ hb R hx k
    have h2 := wnd_col R x (-1 + ((k + 1 : Nat) : Int))
    rw [cntE_bad R (t := ⟨x, -1 + ((k + 1 : Nat) : Int), 0⟩) (fun h => by have := h.inO hb; simp [pxO] at this; omega), cntE_bad R (t := ⟨x + 1, -1 + ((k + 1 : Nat) : Int), 2⟩) (fun h => by have := h.inO hb; simp [pxO] at this; omega),
      show (-1 : Int) + ((k + 1 : Nat) : Int) - 1 = -1 + (k : Int) by omega, h1] at h2
    omega
theorem wnd_box (hb : InBx f W H) (R : Ring f c n) {x y : Int} (h : wnd c n x y ≠ 0) : 0 ≤ x ∧ x < W ∧ 0 ≤ y ∧ y < H := by
  by_cases h1 : y < 0 ∨ (H : Int) ≤ y ∨ x < 0
  · exact absurd (wnd_zero hb R h1) h
  · by_cases h2 : (W : Int) ≤ x
    · have := wnd_rightZ hb R h2 (y + 1).toNat
      rw [show (-1 : Int) + ((y + 1).toNat : Int) = y by omega] at this
      exact absurd this h
    · omega
/-- The pixels of the frame that are wound around so often. -/
def cls (c : Nat → Edg) (n W H : Nat) (v : Int) (q : Int × Int) : Bool := decide (-1 ≤ q.1 ∧ q.1 ≤ W ∧ -1 ≤ q.2 ∧ q.2 ≤ H) && decide (wnd c n q.1 q.2 = v)
theorem cls_iff {v : Int} {q : Int × Int} : cls c n W H v q = true ↔ (-1 ≤ q.1 ∧ q.1 ≤ W ∧ -1 ≤ q.2 ∧ q.2 ≤ H) ∧ wnd c n q.1 q.2 = v := by
  unfold cls
  rw [Bool.and_eq_true, decide_eq_true_eq, decide_eq_true_eq]
theorem own_all (hb : InBx f W H) (R : Ring f c n) : ∀ i, wnd c n (pxO (c i)).1 (pxO (c i)).2 = wnd c n (pxO (c 0)).1 (pxO (c 0)).2 ∧ Rch (cls c n W H (wnd c n (pxO (c 0)).1 (pxO (c 0)).2)) (nbA false) [pxO (c 0)] (pxO (c i))
  | 0 => ⟨rfl, .start (List.mem_singleton.2 rfl) (cls_iff.2 ⟨by have := (R.ok 0).inO hb; omega, rfl⟩)⟩
  | i + 1 => by
    obtain ⟨h1, h2⟩ := own_all hb R i
    obtain ⟨⟨m, m1, m2, m3⟩, -⟩ := own_next (R.ok i)
    rw [← R.next i] at m3
    have b1 := (R.ok i).px.1
    have b2 := (R.ok (i + 1)).px.1
    have im := hb _ _ m1
    have hm : wnd c n m.1 m.2 = wnd c n (pxO (c 0)).1 (pxO (c 0)).2 ∧ Rch (cls c n W H (wnd c n (pxO (c 0)).1 (pxO (c 0)).2)) (nbA false) [pxO (c 0)] m := by
      rcases m2 with rfl | m2
      · exact ⟨h1, h2⟩
      · have h3 := wnd_same R m2 (by rw [b1, m1])
        have h4 : wnd c n m.1 m.2 = wnd c n (pxO (c 0)).1 (pxO (c 0)).2 := by rw [← h3, h1]
        exact ⟨h4, .step h2 m2 (cls_iff.2 ⟨by omega, h4⟩)⟩
    rcases m3 with m3 | m3
    · rw [m3]; exact hm
    · have h3 := wnd_same R m3 (by rw [b2, m1])
      have h4 : wnd c n (pxO (c (i + 1))).1 (pxO (c (i + 1))).2 = wnd c n (pxO (c 0)).1 (pxO (c 0)).2 := by rw [← h3, hm.1]
      exact ⟨h4, .step hm.2 m3 (cls_iff.2 ⟨by have := (R.ok (i + 1)).inO hb; omega, h4⟩)⟩
theorem opp_all (hb : InBx f W H) (R : Ring f c n) : ∀ i, i < n → wnd c n (pxX (c i)).1 (pxX (c i)).2 = wnd c n (pxO (c 0)).1 (pxO (c 0)).2 - 1 ∧ Rch (cls c n W H (wnd c n (pxO (c 0)).1 (pxO (c 0)).2 - 1)) (nbA true) [pxX (c 0)] (pxX (c i))
  | 0, hi => by
    have h1 := wnd_step R hi
    have h2 : wnd c n (pxX (c 0)).1 (pxX (c 0)).2 = wnd c n (pxO (c 0)).1 (pxO (c 0)).2 - 1 := by omega
    exact ⟨h2, .start (List.mem_singleton.2 rfl) (cls_iff.2 ⟨(R.ok 0).inX hb, h2⟩)⟩
  | i + 1, hi => by
    obtain ⟨-, h2⟩ := opp_all hb R i (by omega)
    have h3 := wnd_step R hi
    have h4 := (own_all hb R (i + 1)).1
    have h5 : wnd c n (pxX (c (i + 1))).1 (pxX (c (i + 1))).2 = wnd c n (pxO (c 0)).1 (pxO (c 0)).2 - 1 := by omega
    refine ⟨h5, ?_⟩
    have m := (own_next (R.ok i)).2
    rw [← R.next i] at m
    rcases m with m | m
    · rw [m]; exact h2
    · exact .step h2 m (cls_iff.2 ⟨(R.ok (i + 1)).inX hb, h5⟩)
/-- Where it changes, going down, there is a step. -/
theorem col_edge (R : Ring f c n) {x y : Int} (h : wnd c n x y ≠ wnd c n x (y - 1)) : (∃ i, i < n ∧ c i = ⟨x, y, 0⟩) ∨ ∃ i, i < n ∧ c i = ⟨x + 1, y, 2⟩ := by
  have h1 := wnd_col R x y
  rcases cntE_or R ⟨x, y, 0⟩ with ⟨a1, -⟩ | ⟨-, a2⟩
  · rcases cntE_or R ⟨x + 1, y, 2⟩ with ⟨b1, -⟩ | ⟨-, b2⟩
    · omega
    · exact .inr b2
  · exact .inl a2
theorem scan (hb : InBx f W H) (R : Ring f c n) {x : Int} (hx : -1 ≤ x ∧ x ≤ W) : ∀ k : Nat, (k : Int) ≤ H + 1 →
    (wnd c n x (-1 + (k : Int)) = wnd c n (pxO (c 0)).1 (pxO (c 0)).2 ∧ ∃ i, i < n ∧ Rch (cls c n W H (wnd c n (pxO (c 0)).1 (pxO (c 0)).2)) (nbA false) [pxO (c i)] (x, -1 + (k : Int))) ∨
    (wnd c n x (-1 + (k : Int)) = wnd c n (pxO (c 0)).1 (pxO (c 0)).2 - 1 ∧ ∃ i, i < n ∧ Rch (cls c n W H (wnd c n (pxO (c 0)).1 (pxO (c 0)).2 - 1)) (nbA false) [pxX (c i)] (x, -1 + (k : Int))) ∨
    (wnd c n x (-1 + (k : Int)) = 0 ∧ Rch (cls c n W H 0) (nbA false) [(x, -1)] (x, -1 + (k : Int)))
  | 0, _ => .inr (.inr ⟨wnd_zero hb R (by omega), .start (by simp) (cls_iff.2 ⟨by simp only; omega, wnd_zero hb R (by simp only; first | omega | (simp; done) | (simp; omega))⟩)⟩)
  | k + 1, hk => by
    have ih := scan hb R hx k (by omega)
    have ea : (-1 : Int) + ((k + 1 : Nat) : Int) - 1 = -1 + (k : Int) := by omega
    have adj : (x, -1 + ((k + 1 : Nat) : Int)) ∈ nbA false (x, -1 + (k : Int)) := nbA_one (by simp only; first | omega | (simp; done) | (simp; omega))
    by_cases he : wnd c n x (-1 + ((k + 1 : Nat) : Int)) = wnd c n x (-1 + (k : Int))
    · rcases ih with ⟨h1, i, hi, h2⟩ | ⟨h1, i, hi, h2⟩ | ⟨h1, h2⟩
      · exact .inl ⟨by omega, i, hi, .step h2 adj (cls_iff.2 ⟨by simp only; omega, by simp only; omega⟩)⟩
      · exact .inr (.inl ⟨by omega, i, hi, .step h2 adj (cls_iff.2 ⟨by simp only; omega, by simp only; omega⟩)⟩)
      · exact .inr (.inr ⟨by omega, .step h2 adj (cls_iff.2 ⟨by simp only; omega, by simp only; omega⟩)⟩)
    · rcases col_edge R (x := x) (y := -1 + ((k + 1 : Nat) : Int)) (by rw [ea]; exact he) with ⟨i, hi, e⟩ | ⟨i, hi, e⟩
      · have h1 := (own_all hb R i).1
        have e2 : pxO (c i) = (x, -1 + ((k + 1 : Nat) : Int)) := by rw [e]; rfl
        rw [e2] at h1
        exact .inl ⟨h1, i, hi, by rw [e2]; exact .start (List.mem_singleton.2 rfl) (cls_iff.2 ⟨by simp only; omega, h1⟩)⟩
      · have h1 := (opp_all hb R i hi).1
        have e2 : pxX (c i) = (x, -1 + ((k + 1 : Nat) : Int)) := by rw [e]; simp [pxX]
        rw [e2] at h1
        exact .inr (.inl ⟨h1, i, hi, by rw [e2]; exact .start (List.mem_singleton.2 rfl) (cls_iff.2 ⟨by simp only; omega, h1⟩)⟩)
theorem top_row (hb : InBx f W H) (R : Ring f c n) : ∀ k : Nat, (k : Int) ≤ W + 1 → Rch (cls c n W H 0) (nbA false) [(-1, -1)] (-1 + (k : Int), -1)
  | 0, _ => .start (by simp) (cls_iff.2 ⟨by simp only; omega, wnd_zero hb R (by simp only; first | omega | (simp; done) | (simp; omega))⟩)
  | k + 1, hk => .step (top_row hb R k (by omega)) (nbA_one (by simp only; first | omega | (simp; done) | (simp; omega))) (cls_iff.2 ⟨by simp only; omega, wnd_zero hb R (by simp only; first | omega | (simp; done) | (simp; omega))⟩)
theorem top_conn (hb : InBx f W H) (R : Ring f c n) {x x' : Int} (hx : -1 ≤ x ∧ x ≤ W) (hx' : -1 ≤ x' ∧ x' ≤ W) : Rch (cls c n W H 0) (nbA false) [(x, -1)] (x', -1) := by
  have h1 := top_row hb R (x + 1).toNat (by omega)
  have h2 := top_row hb R (x' + 1).toNat (by omega)
  rw [show (-1 : Int) + ((x + 1).toNat : Int) = x by omega] at h1
  rw [show (-1 : Int) + ((x' + 1).toNat : Int) = x' by omega] at h2
  exact Rch.trans1 (Rch.symm1 (nbA_symm false) h1) h2
/-- One side of it is the outside. -/
theorem outer (hb : InBx f W H) (R : Ring f c n) (hr : ∃ i, i < n ∧ (c i).k = 0) :
    (wnd c n (pxO (c 0)).1 (pxO (c 0)).2 = 1 ∧ ∃ i x, i < n ∧ (-1 ≤ x ∧ x ≤ (W : Int)) ∧ Rch (cls c n W H 0) (nbA false) [pxX (c i)] (x, -1)) ∨
    (wnd c n (pxO (c 0)).1 (pxO (c 0)).2 = 0 ∧ ∃ i x, i < n ∧ (-1 ≤ x ∧ x ≤ (W : Int)) ∧ Rch (cls c n W H 0) (nbA false) [pxO (c i)] (x, -1)) := by
  obtain ⟨i, hi, hk⟩ := hr
  obtain ⟨x, hx⟩ : ∃ x, x = (c i).x := ⟨_, rfl⟩
  obtain ⟨y, hy⟩ : ∃ y, y = (c i).y := ⟨_, rfl⟩
  have hO : pxO (c i) = (x, y) := by unfold pxO; rw [if_pos hk, hx, hy]
  have hX : pxX (c i) = (x, y - 1) := by unfold pxX; rw [if_pos hk, hx, hy]
  have h1 := (R.ok i).inO hb
  have h2 := wnd_step R hi
  rw [hO] at h1 h2
  rw [hX] at h2
  simp only at h1 h2
  have hex : ∃ k : Nat, wnd c n x (-1 + (k : Int)) ≠ 0 := by
    by_cases h0 : wnd c n x y = 0
    · exact ⟨y.toNat, by rw [show (-1 : Int) + (y.toNat : Int) = y - 1 by omega]; omega⟩
    · exact ⟨(y + 1).toNat, by rw [show (-1 : Int) + ((y + 1).toNat : Int) = y by omega]; exact h0⟩
  obtain ⟨k0, hk0⟩ := hex
  obtain ⟨k, -, k1, k2⟩ := leastP (fun k : Nat => wnd c n x (-1 + (k : Int)) ≠ 0) k0 hk0
  have kb := wnd_box hb R k1
  obtain ⟨j, rfl⟩ : ∃ j, k = j + 1 := ⟨k - 1, by omega⟩
  have down : ∀ m : Nat, m ≤ j → Rch (cls c n W H 0) (nbA false) [(x, -1)] (x, -1 + (m : Int)) := fun m => by
    induction m with
    | zero => intro _; exact .start (by simp) (cls_iff.2 ⟨by simp only; omega, wnd_zero hb R (by simp only; first | omega | (simp; done) | (simp; omega))⟩)
    | succ m ih =>
      intro hm
      exact .step (ih (by omega)) (nbA_one (by simp only; first | omega | (simp; done) | (simp; omega))) (cls_iff.2 ⟨by simp only; omega, by
        have := k2 (m + 1) (by omega)
        simp only [ne_eq, Decidable.not_not] at this
        exact this⟩)
  have hd := Rch.symm1 (nbA_symm false) (down j (Nat.le_refl _))
  have hz : wnd c n x (-1 + (j : Int)) = 0 := by
    have := k2 j (by omega)
    simp only [ne_eq, Decidable.not_not] at this
    exact this
  have ea : (-1 : Int) + ((j + 1 : Nat) : Int) - 1 = -1 + (j : Int) := by omega
  rcases col_edge R (x := x) (y := -1 + ((j + 1 : Nat) : Int)) (by rw [ea, hz]; exact k1) with ⟨i', hi', e⟩ | ⟨i', hi', e⟩
  · have e2 : pxX (c i') = (x, -1 + (j : Int)) := by rw [e]; simp [pxX]; omega
    have h3 := (opp_all hb R i' hi').1
    rw [e2] at h3
    simp only at h3
    exact .inl ⟨by omega, i', x, hi', by omega, by rw [e2]; exact hd⟩
  · have e2 : pxO (c i') = (x, -1 + (j : Int)) := by rw [e]; simp [pxO]; omega
    have h3 := (own_all hb R i').1
    rw [e2] at h3
    simp only at h3
    exact .inr ⟨by omega, i', x, hi', by omega, by rw [e2]; exact hd⟩
theorem Rch.eight {B : Int × Int → Bool} {s q : Int × Int} (h : Rch B (nbA false) [s] q) : Rch B (nbA true) [s] q := h.congr1 fun _ _ => nbA_eight
/-- Both parts are connected. -/
theorem two_parts (hb : InBx f W H) (R : Ring f c n) (hr : ∃ i, i < n ∧ (c i).k = 0) {v : Int} (hv : wnd c n (pxO (c 0)).1 (pxO (c 0)).2 = v) :
    (v = 1 ∨ v = 0) ∧ (∀ q, cls c n W H v q = true → Rch (cls c n W H v) (nbA false) [pxO (c 0)] q) ∧ (∀ q, cls c n W H (v - 1) q = true → Rch (cls c n W H (v - 1)) (nbA true) [pxX (c 0)] q) ∧
    (∀ q : Int × Int, wnd c n q.1 q.2 = v ∨ wnd c n q.1 q.2 = v - 1) := by
  have ho := outer hb R hr
  have hs := fun (q : Int × Int) (hq : -1 ≤ q.1 ∧ q.1 ≤ (W : Int) ∧ -1 ≤ q.2 ∧ q.2 ≤ (H : Int)) => scan hb R (x := q.1) ⟨hq.1, hq.2.1⟩ (q.2 + 1).toNat (by omega)
  have hown := own_all hb R
  have hopp := opp_all hb R
  rw [hv] at ho hown
  simp only [hv] at hs hopp
  have hs2 : ∀ q : Int × Int, (-1 ≤ q.1 ∧ q.1 ≤ (W : Int) ∧ -1 ≤ q.2 ∧ q.2 ≤ (H : Int)) → (wnd c n q.1 q.2 = v ∧ ∃ i, i < n ∧ Rch (cls c n W H v) (nbA false) [pxO (c i)] q) ∨ (wnd c n q.1 q.2 = v - 1 ∧ ∃ i, i < n ∧ Rch (cls c n W H (v - 1)) (nbA false) [pxX (c i)] q) ∨ (wnd c n q.1 q.2 = 0 ∧ Rch (cls c n W H 0) (nbA false) [(q.1, -1)] q) := fun q hq => by
    have h := hs q hq
    rw [show (-1 : Int) + ((q.2 + 1).toNat : Int) = q.2 by omega] at h
    exact h
  clear hs
  refine ⟨?_, fun q hq => ?_, fun q hq => ?_, fun q => ?_⟩
  · rcases ho with ⟨h, -⟩ | ⟨h, -⟩ <;> omega
  · obtain ⟨h1, h2⟩ := cls_iff.1 hq
    rcases hs2 q h1 with ⟨h3, i, hi, h4⟩ | ⟨h3, -⟩ | ⟨h3, h4⟩
    · exact Rch.trans1 (hown i).2 h4
    · omega
    · have hv0 : v = 0 := by omega
      subst hv0
      rcases ho with ⟨h, -⟩ | ⟨-, i, x, hi, hx, h5⟩
      · omega
      · exact Rch.trans1 (hown i).2 (Rch.trans1 h5 (Rch.trans1 (top_conn hb R hx ⟨h1.1, h1.2.1⟩) h4))
  · obtain ⟨h1, h2⟩ := cls_iff.1 hq
    rcases hs2 q h1 with ⟨h3, -⟩ | ⟨h3, i, hi, h4⟩ | ⟨h3, h4⟩
    · omega
    · exact Rch.trans1 (hopp i hi).2 h4.eight
    · have hv0 : v = 1 := by omega
      subst hv0
      rcases ho with ⟨-, i, x, hi, hx, h5⟩ | ⟨h, -⟩
      · exact Rch.trans1 (hopp i hi).2 (Rch.eight (Rch.trans1 h5 (Rch.trans1 (top_conn hb R hx ⟨h1.1, h1.2.1⟩) h4)))
      · omega
  · by_cases h0 : wnd c n q.1 q.2 = 0
    · rcases ho with ⟨h, -⟩ | ⟨h, -⟩ <;> omega
    · have h1 := wnd_box hb R h0
      rcases hs2 q (by omega) with ⟨h3, -⟩ | ⟨h3, -⟩ | ⟨h3, -⟩
      · exact .inl h3
      · exact .inr h3
      · exact absurd h3 h0
end
theorem parts_one {R : Int × Int → Bool} {N : Int × Int → List (Int × Int)} (hN : ∀ p q, q ∈ N p → p ∈ N q) {s : Int × Int} (hs : R s = true) (h : ∀ q, R q = true → Rch R N [s] q) : Parts R N 1 := by
  refine ⟨fun L hL => ?_, fun L hL => ?_, [s], rfl, fun q hq => ⟨s, List.mem_singleton.2 rfl, h q hq⟩⟩
  · obtain ⟨r, hr, -⟩ := hL s hs
    exact List.length_pos_of_mem hr
  · match L, hL with
    | [], _ => exact Nat.zero_le _
    | [a], _ => exact Nat.le_refl _
    | a :: b :: L, ⟨h1, h2⟩ =>
      exact absurd (Rch.trans1 (Rch.symm1 hN (h a (h1 a (List.mem_cons_self)))) (h b (h1 b (List.mem_cons_of_mem _ List.mem_cons_self)))) ((List.pairwise_cons.1 h2).1 b List.mem_cons_self)
/-- A set of pixels that is connected, and whose outside is connected: the sum over windows is 4. -/
theorem chi_one {e : Bool} {W H : Nat} {F : Int × Int → Bool} {s t : Int × Int} (hbox : ∀ q, F q = true → 0 ≤ q.1 ∧ q.1 < W ∧ 0 ≤ q.2 ∧ q.2 < H) (hs : F s = true) (h1 : ∀ q, F q = true → Rch F (nbA e) [s] q)
    (ht : whiteF W H F t = true) (h2 : ∀ q, whiteF W H F q = true → Rch (whiteF W H F) (nbA (!e)) [t] q) : chi e W H F = 4 := by
  have p1 := parts_one (nbA_symm e) hs h1
  have p2 : Parts (invB W H F) (nbA (!e)) 1 := parts_one (nbA_symm (!e)) (s := (t.1 + 1, t.2 + 1)) (by unfold invB; simp only [Int.add_sub_cancel]; exact ht) fun q hq => by
    have := rch_map (R' := invB W H F) (fun q => (q.1 + 1, q.2 + 1)) (fun p hp => by unfold invB; simp only [Int.add_sub_cancel]; exact hp) (fun p q h => nbA_move _ 1 1 h) (h2 _ hq)
    simpa [Int.sub_add_cancel] using this
  have := euler_parts hbox p1 p2
  omega
end Go.Proofs.Ytelaoimcaidoiaa

/- FnBorders, plain: a border turns once around, to the side that its area tells. -/
namespace Go.Proofs.Ytelaoimcaidoiaa
open Go Go.RowKit
/-- A turn to the right, or to the left. -/
def tauK (k k' : Nat) : Int := if k' = (k + 1) % 4 then 1 else if k' = (k + 3) % 4 then -1 else 0
def turnS (c : Nat → Edg) (n : Nat) : Int := sI (fun i => tauK (c i).k (c (i + 1)).k) n
theorem sI_swap (g : Nat → Nat → Int) (m : Nat) : ∀ n, sI (fun i => sI (fun j => g i j) m) n = sI (fun j => sI (fun i => g i j) n) m
  | 0 => (sI_zero fun _ _ => rfl).symm
  | n + 1 => by
    show sI (fun i => sI (fun j => g i j) m) n + sI (fun j => g n j) m = _
    rw [sI_swap g m n, ← sI_add]
    rfl
theorem sI_mul (g : Nat → Int) (c : Int) : ∀ n, sI (fun i => g i * c) n = sI g n * c
  | 0 => by show (0 : Int) = 0 * c; rw [Int.zero_mul]
  | n + 1 => by
    show sI (fun i => g i * c) n + g n * c = (sI g n + g n) * c
    rw [sI_mul g c n, Int.add_mul]
/-- The step of a direction that ends at a corner. -/
def arrE (x y : Int) (k : Nat) : Edg := ⟨x - dX k, y - dY k, k⟩
theorem arrE_end (x y : Int) (k : Nat) : (arrE x y k).x + dX (arrE x y k).k = x ∧ (arrE x y k).y + dY (arrE x y k).k = y := by
  unfold arrE
  simp only
  omega
theorem arrE_of (e : Edg) : arrE (e.x + dX e.k) (e.y + dY e.k) e.k = e := by
  unfold arrE
  simp only [Int.add_sub_cancel]
theorem arr_iff (f : Int → Int → Bool) (x y : Int) {k : Nat} (hk : k < 4) : EOk f (arrE x y k) ↔ arrQ (f (x - 1) (y - 1)) (f x (y - 1)) (f (x - 1) y) (f x y) k = true := by
  have h0 : (arrE x y k).k < 4 := hk
  have h1 := pxO_end h0
  have h2 := pxX_end h0
  rw [(arrE_end x y k).1, (arrE_end x y k).2] at h1 h2
  have hk' : (arrE x y k).k = k := rfl
  rw [hk'] at h1 h2
  have h3 : arrQ (f (x - 1) (y - 1)) (f x (y - 1)) (f (x - 1) y) (f x y) k = (f (quad x y ((k + 1) % 4)).1 (quad x y ((k + 1) % 4)).2 && !f (quad x y ((k + 2) % 4)).1 (quad x y ((k + 2) % 4)).2) := by
    rcases k4 hk with rfl | rfl | rfl | rfl <;> rfl
  rw [h3, ← h1, ← h2, Bool.and_eq_true]
  constructor
  · intro h
    exact ⟨h.px.1, by rw [h.px.2]; rfl⟩
  · rintro ⟨a, b⟩
    exact EOk.of_px h0 a (by simpa using b)
theorem win_turn : ∀ a b c d : Bool, (if arrQ a b c d 0 then (1 : Int) else 0) * tauK 0 (trnQ a b c d 0) + (if arrQ a b c d 1 then (1 : Int) else 0) * tauK 1 (trnQ a b c d 1) + (if arrQ a b c d 2 then (1 : Int) else 0) * tauK 2 (trnQ a b c d 2) + (if arrQ a b c d 3 then (1 : Int) else 0) * tauK 3 (trnQ a b c d 3) = win false a b c d := by decide
section
variable {f : Int → Int → Bool} {c : Nat → Edg} {n : Nat} {W H : Nat}
/-- The steps of what is wound around just so often are those of the border. -/
theorem step_iff (R : Ring f c n) {v : Int} (hown : ∀ i, wnd c n (pxO (c i)).1 (pxO (c i)).2 = v) (hall : ∀ q : Int × Int, wnd c n q.1 q.2 = v ∨ wnd c n q.1 q.2 = v - 1) {e : Edg} (hk : e.k < 4) :
    EOk (fun x y => decide (wnd c n x y = v)) e ↔ ∃ i, i < n ∧ c i = e := by
  constructor
  · intro h
    have h1 := of_decide_eq_true h.px.1
    have h2 := of_decide_eq_false h.px.2
    have h3 := (hall (pxX e)).resolve_left h2
    have h4 := wnd_px R hk
    rcases cntE_or R e with ⟨a1, -⟩ | ⟨-, a2⟩
    · rcases cntE_or R (revE e) with ⟨b1, -⟩ | ⟨b1, -⟩ <;> omega
    · exact a2
  · rintro ⟨i, hi, rfl⟩
    have h1 := hown i
    have h2 := wnd_step R hi
    exact EOk.of_px hk (decide_eq_true h1) (decide_eq_false (by omega))
theorem trn_same (R : Ring f c n) {v : Int} (hown : ∀ i, wnd c n (pxO (c i)).1 (pxO (c i)).2 = v) (hall : ∀ q : Int × Int, wnd c n q.1 q.2 = v ∨ wnd c n q.1 q.2 = v - 1) {i : Nat} (hi : i < n) :
    trnB (fun x y => decide (wnd c n x y = v)) ((c i).x + dX (c i).k) ((c i).y + dY (c i).k) (c i).k = (c (i + 1)).k := by
  have hn := R.next i
  have hok := R.ok (i + 1)
  have hex : c (i + 1) = ⟨(c i).x + dX (c i).k, (c i).y + dY (c i).k, (c (i + 1)).k⟩ := by rw [hn]; rfl
  have hkk : (c (i + 1)).k = trnB f ((c i).x + dX (c i).k) ((c i).y + dY (c i).k) (c i).k := by rw [hn]; rfl
  have hG : EOk (fun x y => decide (wnd c n x y = v)) (c (i + 1)) := by
    refine (step_iff R hown hall hok.1).2 ?_
    by_cases h1 : i + 1 < n
    · exact ⟨i + 1, h1, rfl⟩
    · exact ⟨0, R.pos, by rw [show i + 1 = n by omega, R.back]⟩
  have hsub : ∀ j, j < 4 → canB (fun x y => decide (wnd c n x y = v)) ((c i).x + dX (c i).k) ((c i).y + dY (c i).k) j = true → canB f ((c i).x + dX (c i).k) ((c i).y + dY (c i).k) j = true := fun j hj h => by
    obtain ⟨i', _, e⟩ := (step_iff R hown hall (e := ⟨(c i).x + dX (c i).k, (c i).y + dY (c i).k, j⟩) hj).1 ⟨hj, h⟩
    have := (R.ok i').2
    rw [e] at this
    exact this
  have hG2 := hG.2
  rw [hex] at hG2
  simp only at hG2
  rw [hkk] at hG2 ⊢
  have hk := (R.ok i).1
  generalize (c i).x + dX (c i).k = vx at *
  generalize (c i).y + dY (c i).k = vy at *
  generalize (c i).k = k at *
  rw [trnB_eq, trnB_eq] at *
  by_cases h1 : canB f vx vy ((k + 1) % 4) = true
  · rw [if_pos h1] at hG2 ⊢
    rw [if_pos hG2]
  · rw [if_neg h1] at hG2 ⊢
    rw [if_neg fun h => h1 (hsub _ (by omega) h)]
    by_cases h2 : canB f vx vy k = true
    · rw [if_pos h2] at hG2 ⊢
      rw [if_pos hG2]
    · rw [if_neg h2, if_neg fun h => h2 (hsub _ hk h)]
theorem turn_chi (hb : InBx f W H) (R : Ring f c n) {v : Int} (hown : ∀ i, wnd c n (pxO (c i)).1 (pxO (c i)).2 = v) (hall : ∀ q : Int × Int, wnd c n q.1 q.2 = v ∨ wnd c n q.1 q.2 = v - 1) :
    turnS c n = chi false W H fun q => decide (wnd c n q.1 q.2 = v) := by
  obtain ⟨G, hG⟩ : ∃ G : Int → Int → Bool, G = fun x y => decide (wnd c n x y = v) := ⟨_, rfl⟩
  have one : ∀ i, i < n → tauK (c i).k (c (i + 1)).k = sI (fun y => sI (fun x => sI (fun k => isE (c i) (arrE (x : Int) (y : Int) k) * tauK k (trnB G (x : Int) (y : Int) k)) 4) (W + 1)) (H + 1) := fun i hi => by
    have hin := hb.edge (R.ok (i + 1))
    have hx : (c (i + 1)).x = (c i).x + dX (c i).k := by rw [R.next i]; rfl
    have hy : (c (i + 1)).y = (c i).y + dY (c i).k := by rw [R.next i]; rfl
    have ht := trn_same R hown hall hi
    rw [← hG] at ht
    obtain ⟨X, hX⟩ : ∃ X : Nat, (c i).x + dX (c i).k = X := ⟨((c i).x + dX (c i).k).toNat, by omega⟩
    obtain ⟨Y, hY⟩ : ∃ Y : Nat, (c i).y + dY (c i).k = Y := ⟨((c i).y + dY (c i).k).toNat, by omega⟩
    have ha := arrE_of (c i)
    rw [hX, hY] at ha ht
    have off : ∀ (x y : Int) (k : Nat), ¬ (x = X ∧ y = Y ∧ k = (c i).k) → isE (c i) (arrE x y k) * tauK k (trnB G x y k) = 0 := fun x y k hne => by
      unfold isE
      rw [if_neg fun e => hne ?_, Int.zero_mul]
      have e1 := congrArg Edg.k e
      have e2 := arrE_end x y k
      rw [← e] at e2
      exact ⟨by rw [← e2.1, hX], by rw [← e2.2, hY], e1.symm⟩
    rw [sI_single (a := Y) (by omega) fun y _ hne => sI_zero fun x _ => sI_zero fun k _ => off _ _ _ (by omega),
      sI_single (a := X) (by omega) fun x _ hne => sI_zero fun k _ => off _ _ _ (by omega),
      sI_single (a := (c i).k) (R.ok i).1 fun k _ hne => off _ _ _ (fun h => hne h.2.2)]
    unfold isE
    rw [ha, if_pos rfl, ht, Int.one_mul]
  unfold turnS
  rw [sI_congr one, sI_swap (fun i y => sI (fun x => sI (fun k => isE (c i) (arrE (x : Int) (y : Int) k) * tauK k (trnB G (x : Int) (y : Int) k)) 4) (W + 1))]
  unfold chi
  refine sI_congr fun y _ => ?_
  rw [sI_swap (fun i x => sI (fun k => isE (c i) (arrE (x : Int) (y : Int) k) * tauK k (trnB G (x : Int) (y : Int) k)) 4)]
  refine sI_congr fun x _ => ?_
  rw [sI_swap (fun i k => isE (c i) (arrE (x : Int) (y : Int) k) * tauK k (trnB G (x : Int) (y : Int) k))]
  have cnt : ∀ k, k < 4 → sI (fun i => isE (c i) (arrE (x : Int) (y : Int) k) * tauK k (trnB G (x : Int) (y : Int) k)) n = (if arrQ (G ((x : Int) - 1) ((y : Int) - 1)) (G (x : Int) ((y : Int) - 1)) (G ((x : Int) - 1) (y : Int)) (G (x : Int) (y : Int)) k then (1 : Int) else 0) * tauK k (trnB G (x : Int) (y : Int) k) := fun k hk => by
    rw [sI_mul]
    congr 1
    show cntE c n (arrE (x : Int) (y : Int) k) = _
    have h1 := arr_iff G (x : Int) (y : Int) hk
    rw [hG, step_iff R hown hall hk, ← hG] at h1
    rcases cntE_or R (arrE (x : Int) (y : Int) k) with ⟨a1, a2⟩ | ⟨a1, a2⟩
    · rw [a1, if_neg fun h => ?_]
      obtain ⟨i, hi, e⟩ := h1.2 h
      exact a2 i hi e
    · rw [a1, if_pos (h1.1 a2)]
  rw [sI_congr cnt]
  have hw := win_turn (G ((x : Int) - 1) ((y : Int) - 1)) (G (x : Int) ((y : Int) - 1)) (G ((x : Int) - 1) (y : Int)) (G (x : Int) (y : Int))
  have hR : winA false (fun q => decide (wnd c n q.1 q.2 = v)) y x = win false (G ((x : Int) - 1) ((y : Int) - 1)) (G (x : Int) ((y : Int) - 1)) (G ((x : Int) - 1) (y : Int)) (G (x : Int) (y : Int)) := by
    rw [hG]; rfl
  rw [hR, ← hw]
  show 0 + _ + _ + _ + _ = _
  rw [Int.zero_add]
  rfl
/-- Once around, to the right where the inside is at the right hand. -/
theorem turn_one (hb : InBx f W H) (R : Ring f c n) (hr : ∃ i, i < n ∧ (c i).k = 0) :
    (wnd c n (pxO (c 0)).1 (pxO (c 0)).2 = 1 ∧ turnS c n = 4) ∨ (wnd c n (pxO (c 0)).1 (pxO (c 0)).2 = 0 ∧ turnS c n = -4) := by
  obtain ⟨v, hv⟩ : ∃ v, wnd c n (pxO (c 0)).1 (pxO (c 0)).2 = v := ⟨_, rfl⟩
  obtain ⟨h1, h2, h3, h4⟩ := two_parts hb R hr hv
  have hown := fun i => (own_all hb R i).1
  have hopp := fun i hi => (opp_all hb R i hi).1
  rw [hv] at hown hopp
  have ht := turn_chi hb R hown h4
  rw [hv]
  obtain ⟨F, hF⟩ : ∃ F : Int × Int → Bool, F = fun q => decide (wnd c n q.1 q.2 ≠ 0) := ⟨_, rfl⟩
  have hFb : ∀ q, F q = true → 0 ≤ q.1 ∧ q.1 < W ∧ 0 ≤ q.2 ∧ q.2 < H := fun q hq => by
    rw [hF] at hq
    exact wnd_box hb R (of_decide_eq_true hq)
  have hwh : ∀ q, whiteF W H F q = cls c n W H 0 q := fun q => by
    unfold whiteF cls
    rw [hF]
    congr 1
    simp
  have hwF : whiteF W H F = cls c n W H 0 := funext hwh
  rcases h1 with rfl | rfl
  · refine .inl ⟨rfl, ?_⟩
    have hFc : F = cls c n W H 1 := funext fun q => by
      cases hq : cls c n W H 1 q
      · cases hq2 : F q
        · rfl
        · have b := hFb q hq2
          rw [hF] at hq2
          have b2 := of_decide_eq_true hq2
          have b3 := (h4 q).resolve_right (by omega)
          rw [cls_iff.2 ⟨by omega, b3⟩] at hq
          cases hq
      · have b := (cls_iff.1 hq).2
        rw [hF]
        exact decide_eq_true (by omega)
    have hGF : (fun q : Int × Int => decide (wnd c n q.1 q.2 = 1)) = F := funext fun q => by
      rw [hF]
      refine decide_eq_decide.2 ?_
      have := h4 q
      omega
    rw [ht, hGF]
    refine chi_one (s := pxO (c 0)) (t := pxX (c 0)) hFb (by rw [hFc]; exact cls_iff.2 ⟨by have := (R.ok 0).inO hb; omega, hown 0⟩) (by rw [hFc]; exact h2) (by rw [hwF]; exact cls_iff.2 ⟨(R.ok 0).inX hb, by have := hopp 0 R.pos; omega⟩) ?_
    rw [hwF]
    exact h3
  · refine .inr ⟨rfl, ?_⟩
    have hFc : F = cls c n W H (0 - 1) := funext fun q => by
      cases hq : cls c n W H (0 - 1) q
      · cases hq2 : F q
        · rfl
        · have b := hFb q hq2
          rw [hF] at hq2
          have b2 := of_decide_eq_true hq2
          have b3 := (h4 q).resolve_left b2
          rw [cls_iff.2 ⟨by omega, b3⟩] at hq
          cases hq
      · have b := (cls_iff.1 hq).2
        rw [hF]
        exact decide_eq_true (by omega)
    have hchi : chi true W H F = 4 := chi_one (s := pxX (c 0)) (t := pxO (c 0)) hFb (by rw [hFc]; exact cls_iff.2 ⟨(R.ok 0).inX hb, hopp 0 R.pos⟩) (by rw [hFc]; exact h3) (by rw [hwF]; exact cls_iff.2 ⟨by have := (R.ok 0).inO hb; omega, hown 0⟩) (by rw [hwF]; exact h2)
    have hneg : chi false W H (fun q : Int × Int => decide (wnd c n q.1 q.2 = 0)) = - chi true W H F := by
      unfold chi
      rw [← sI_neg]
      refine sI_congr fun i _ => ?_
      rw [← sI_neg]
      refine sI_congr fun j _ => ?_
      unfold winA
      rw [hF, ← win_not]
      simp
    rw [ht, hneg, hchi]
/-! Areas. -/
def areE (e : Edg) : Int := if e.k = 1 then e.x else if e.k = 3 then - e.x else 0
def areS (c : Nat → Edg) (n : Nat) : Int := sI (fun i => areE (c i)) n
theorem sI_from {a : Int} (h0 : 0 ≤ a) : ∀ {W : Nat}, a ≤ W → sI (fun x => if a ≤ (x : Int) then (1 : Int) else 0) W = W - a := by
  intro W
  induction W with
  | zero => intro h; show (0 : Int) = _; omega
  | succ W ih =>
    intro h
    show sI _ W + (if a ≤ (W : Int) then (1 : Int) else 0) = _
    by_cases h1 : a ≤ W
    · rw [ih h1, if_pos h1]; omega
    · rw [if_neg h1, sI_zero fun i hi => by rw [if_neg (by omega)]]; omega
theorem om_all (hb : InBx f W H) {e : Edg} (h : EOk f e) : sI (fun y => sI (fun x => om e (x : Int) (y : Int)) W) H = areE e + (- dY e.k) * W := by
  have h1 := h.inO hb
  have h2 := hb.edge h
  by_cases h3 : e.k = 3
  · simp [pxO, h3] at h1
    rw [sI_single (a := (e.y - 1).toNat) (by omega) fun y _ hne => sI_zero fun x _ => by unfold om; rw [if_neg (by omega), if_neg (by omega)]]
    rw [sI_congr (g := fun x => if e.x ≤ (x : Int) then (1 : Int) else 0) fun x _ => by
      unfold om
      by_cases hx : e.x ≤ (x : Int)
      · rw [if_pos (by omega), if_pos hx]
      · rw [if_neg (by omega), if_neg (by omega), if_neg hx], sI_from (by omega) (by omega)]
    unfold areE dY
    rw [h3]
    simp
    omega
  · by_cases h4 : e.k = 1
    · simp [pxO, h4] at h1
      rw [sI_single (a := e.y.toNat) (by omega) fun y _ hne => sI_zero fun x _ => by unfold om; rw [if_neg (by omega), if_neg (by omega)]]
      rw [sI_congr (g := fun x => - (if e.x ≤ (x : Int) then (1 : Int) else 0)) fun x _ => by
        unfold om
        by_cases hx : e.x ≤ (x : Int)
        · rw [if_neg (by omega), if_pos (by omega), if_pos hx]
        · rw [if_neg (by omega), if_neg (by omega), if_neg hx]; rfl, sI_neg, sI_from (by omega) (by omega)]
      unfold areE dY
      rw [h4]
      simp
      omega
    · rw [sI_zero fun y _ => sI_zero fun x _ => by unfold om; rw [if_neg (by omega), if_neg (by omega)]]
      unfold areE dY
      rw [if_neg h4, if_neg h3, if_neg h4, if_neg h3]
      simp
/-- The area is how often all pixels are wound around. -/
theorem area_wnd (hb : InBx f W H) (R : Ring f c n) : sI (fun y => sI (fun x => wnd c n (x : Int) (y : Int)) W) H = areS c n := by
  have h0 := R.sum0 fun _ b => b
  have h1 : sI (fun i => (c i).y + dY (c i).k - (c i).y) n = sI (fun i => dY (c i).k) n := sI_congr fun i _ => by omega
  rw [h1] at h0
  have h2 : sI (fun y => sI (fun x => wnd c n (x : Int) (y : Int)) W) H = sI (fun i => sI (fun y => sI (fun x => om (c i) (x : Int) (y : Int)) W) H) n := by
    rw [sI_swap (fun i y => sI (fun x => om (c i) (x : Int) (y : Int)) W)]
    refine sI_congr fun y _ => ?_
    rw [sI_swap (fun i x => om (c i) (x : Int) (y : Int))]
    rfl
  rw [h2, sI_congr fun i _ => om_all hb (R.ok i), sI_add, sI_mul, sI_neg, h0]
  unfold areS
  simp
theorem sI_le {g h : Nat → Int} : ∀ {n : Nat}, (∀ i, i < n → g i ≤ h i) → sI g n ≤ sI h n
  | 0, _ => Int.le_refl _
  | n + 1, e => by
    have h1 := sI_le (n := n) fun i hi => e i (by omega)
    have h2 := e n (by omega)
    show sI g n + g n ≤ sI h n + h n
    omega
theorem sI_pos {g : Nat → Int} {a n : Nat} (h : ∀ i, i < n → 0 ≤ g i) (ha : a < n) (h1 : 0 < g a) : 0 < sI g n := by
  have h2 := sI_one (f := g) (g := fun i => if i = a then 0 else g i) ha fun i _ hne => by simp only [if_neg hne]
  have h3 : 0 ≤ sI (fun i => if i = a then 0 else g i) n := sI_nn fun i hi => by
    split
    · exact Int.le_refl _
    · exact h i hi
  simp only [if_true] at h2
  omega
theorem area_sign (hb : InBx f W H) (R : Ring f c n) (hr : ∃ i, i < n ∧ (c i).k = 0) : (turnS c n = 4 ∧ 0 < areS c n) ∨ (turnS c n = -4 ∧ areS c n < 0) := by
  obtain ⟨h1, h2, h3, h4⟩ := two_parts hb R hr rfl
  have hown := (own_all hb R 0).1
  have hopp := (opp_all hb R 0 R.pos).1
  have iO := (R.ok 0).inO hb
  rcases turn_one hb R hr with ⟨hv, ht⟩ | ⟨hv, ht⟩
  · rw [hv] at h4 hown
    refine .inl ⟨ht, ?_⟩
    rw [← area_wnd hb R]
    refine sI_pos (a := (pxO (c 0)).2.toNat) (fun y _ => sI_nn fun x _ => by have := h4 ((x : Int), (y : Int)); simp only at this; omega) (by omega) ?_
    refine sI_pos (a := (pxO (c 0)).1.toNat) (fun x _ => by have := h4 ((x : Int), (((pxO (c 0)).2.toNat : Nat) : Int)); simp only at this; omega) (by omega) ?_
    rw [show (((pxO (c 0)).1.toNat : Nat) : Int) = (pxO (c 0)).1 by omega, show (((pxO (c 0)).2.toNat : Nat) : Int) = (pxO (c 0)).2 by omega, hv]
    omega
  · rw [hv] at h4 hopp
    refine .inr ⟨ht, ?_⟩
    have hX := wnd_box hb R (x := (pxX (c 0)).1) (y := (pxX (c 0)).2) (by omega)
    rw [← area_wnd hb R]
    have : 0 < sI (fun y => sI (fun x => - wnd c n (x : Int) (y : Int)) W) H := by
      refine sI_pos (a := (pxX (c 0)).2.toNat) (fun y _ => sI_nn fun x _ => by have := h4 ((x : Int), (y : Int)); simp only at this; omega) (by omega) ?_
      refine sI_pos (a := (pxX (c 0)).1.toNat) (fun x _ => by have := h4 ((x : Int), (((pxX (c 0)).2.toNat : Nat) : Int)); simp only at this; omega) (by omega) ?_
      rw [show (((pxX (c 0)).1.toNat : Nat) : Int) = (pxX (c 0)).1 by omega, show (((pxX (c 0)).2.toNat : Nat) : Int) = (pxX (c 0)).2 by omega, hopp]
      omega
    have e : sI (fun y => sI (fun x => - wnd c n (x : Int) (y : Int)) W) H = - sI (fun y => sI (fun x => wnd c n (x : Int) (y : Int)) W) H := by
      rw [← sI_neg]
      exact sI_congr fun y _ => sI_neg _ _
    omega
end
end Go.Proofs.Ytelaoimcaidoiaa

/- FnBorders, plain: the borders of a picture fill it; their areas and their steps. -/
namespace Go.Proofs.Ytelaoimcaidoiaa
open Go Go.RowKit
def sumE {α : Type} (g : α → Int) : List α → Int
  | [] => 0
  | a :: l => g a + sumE g l
section
variable {α β : Type} {g h : α → Int}
theorem sumE_append : ∀ (l m : List α), sumE g (l ++ m) = sumE g l + sumE g m
  | [], m => by show _ = 0 + _; rw [Int.zero_add]; rfl
  | a :: l, m => by show g a + sumE g (l ++ m) = g a + sumE g l + _; rw [sumE_append l m, Int.add_assoc]
theorem sumE_flat {k : β → List α} : ∀ l : List β, sumE g (l.flatMap k) = sumE (fun b => sumE g (k b)) l
  | [] => rfl
  | b :: l => by
    rw [List.flatMap_cons, sumE_append, sumE_flat l]
    rfl
theorem sumE_range (c : Nat → α) : ∀ n, sumE g ((List.range n).map c) = sI (fun i => g (c i)) n
  | 0 => rfl
  | n + 1 => by
    rw [List.range_succ, List.map_append, sumE_append, sumE_range c n]
    show _ + (g (c n) + 0) = _
    rw [Int.add_zero]
    rfl
theorem sumE_congr : ∀ {l : List α}, (∀ a, a ∈ l → g a = h a) → sumE g l = sumE h l
  | [], _ => rfl
  | a :: l, e => by
    show g a + sumE g l = h a + sumE h l
    rw [e a List.mem_cons_self, sumE_congr fun b hb => e b (List.mem_cons_of_mem _ hb)]
theorem sumE_zero : ∀ {l : List α}, (∀ a, a ∈ l → g a = 0) → sumE g l = 0
  | [], _ => rfl
  | a :: l, e => by
    show g a + sumE g l = 0
    rw [e a List.mem_cons_self, sumE_zero fun b hb => e b (List.mem_cons_of_mem _ hb)]
    rfl
theorem sumE_sub : ∀ l : List α, sumE (fun a => g a - h a) l = sumE g l - sumE h l
  | [] => rfl
  | a :: l => by
    show g a - h a + sumE (fun a => g a - h a) l = g a + sumE g l - (h a + sumE h l)
    rw [sumE_sub l]
    omega
theorem sumE_sI {k : α → Nat → Int} (n : Nat) : ∀ l : List α, sumE (fun a => sI (k a) n) l = sI (fun i => sumE (fun a => k a i) l) n
  | [] => (sI_zero fun _ _ => rfl).symm
  | a :: l => by
    show sI (k a) n + sumE (fun a => sI (k a) n) l = _
    rw [sumE_sI n l, ← sI_add]
    rfl
theorem sumE_len : ∀ l : List α, sumE (fun _ => 1) l = (l.length : Int)
  | [] => rfl
  | a :: l => by
    show 1 + sumE (fun _ => 1) l = _
    rw [sumE_len l, List.length_cons]
    omega
end
theorem sumE_isE {t : Edg} : ∀ {l : List Edg}, l.Nodup → sumE (fun e => isE e t) l = if t ∈ l then 1 else 0
  | [], _ => by simp [sumE]
  | a :: l, h => by
    obtain ⟨h1, h2⟩ := List.nodup_cons.1 h
    show isE a t + sumE (fun e => isE e t) l = _
    rw [sumE_isE h2]
    unfold isE
    by_cases e : a = t
    · subst e
      rw [if_pos rfl, if_neg h1, if_pos List.mem_cons_self]
      rfl
    · rw [if_neg e]
      by_cases h3 : t ∈ l
      · rw [if_pos h3, if_pos (List.mem_cons_of_mem _ h3)]; rfl
      · rw [if_neg h3, if_neg fun h4 => ?_]
        · rfl
        · rcases List.mem_cons.1 h4 with h5 | h5
          · exact e h5.symm
          · exact h3 h5
theorem om_row (e : Edg) (x y : Int) : om e x y - om e (x - 1) y = isE e ⟨x, y + 1, 3⟩ - isE e ⟨x, y, 1⟩ := by
  have h := wnd_row (fun _ => e) 1 x y
  unfold wnd cntE at h
  show _ = _
  have e1 : ∀ z : Int, sI (fun _ => z) 1 = z := fun z => by show 0 + z = z; omega
  rw [e1, e1, e1, e1] at h
  exact h
def bI (b : Bool) : Int := if b then 1 else 0
section
variable {f : Int → Int → Bool} {W H : Nat}
/-- The steps of a picture fill it. -/
theorem fill_edges (hb : InBx f W H) (hW : W ≤ 16) (hH : H ≤ 16) (y : Int) : ∀ k : Nat, sumE (fun e => om e (-1 + (k : Int)) y) (edgL f W H) = bI (f (-1 + (k : Int)) y)
  | 0 => by
    rw [sumE_zero fun e he => om_zero hb ((mem_edgL hb hW hH).1 he) (by omega)]
    cases hf : f (-1 + ((0 : Nat) : Int)) y
    · rfl
    · have := hb _ _ hf; omega
  | k + 1 => by
    have ih := fill_edges hb hW hH y k
    obtain ⟨x, hx⟩ : ∃ x : Int, x = -1 + ((k + 1 : Nat) : Int) := ⟨_, rfl⟩
    have hx1 : -1 + (k : Int) = x - 1 := by omega
    rw [hx1] at ih
    rw [← hx]
    have h1 : sumE (fun e => om e x y) (edgL f W H) - sumE (fun e => om e (x - 1) y) (edgL f W H) = sumE (fun e => isE e ⟨x, y + 1, 3⟩) (edgL f W H) - sumE (fun e => isE e ⟨x, y, 1⟩) (edgL f W H) := by
      rw [← sumE_sub, ← sumE_sub]
      exact sumE_congr fun e _ => om_row e x y
    rw [sumE_isE (edgL_nodup hb hW hH), sumE_isE (edgL_nodup hb hW hH), ih] at h1
    have k3 : (⟨x, y + 1, 3⟩ : Edg) ∈ edgL f W H ↔ (f x y = true ∧ f (x - 1) y = false) := by
      rw [mem_edgL hb hW hH]
      constructor
      · intro h
        have := h.px
        simp [pxO, pxX] at this
        exact this
      · rintro ⟨a, b⟩
        exact EOk.of_px (by show 3 < 4; omega) (by simpa [pxO] using a) (by simpa [pxX] using b)
    have k1 : (⟨x, y, 1⟩ : Edg) ∈ edgL f W H ↔ (f (x - 1) y = true ∧ f x y = false) := by
      rw [mem_edgL hb hW hH]
      constructor
      · intro h
        have := h.px
        simp [pxO, pxX] at this
        exact this
      · rintro ⟨a, b⟩
        exact EOk.of_px (by show 1 < 4; omega) (by simpa [pxO] using a) (by simpa [pxX] using b)
    cases ha : f x y <;> cases hc : f (x - 1) y <;> rw [ha, hc] at k3 k1 <;> simp only [Bool.false_eq_true, and_true, and_false, iff_false, iff_true, reduceCtorEq] at k3 k1 <;> simp only [k3, k1, if_true, if_false, hc, bI, Bool.false_eq_true] at h1 ⊢ <;> omega
theorem fill_at (hb : InBx f W H) (hW : W ≤ 16) (hH : H ≤ 16) (x y : Nat) : sumE (fun e => om e (x : Int) (y : Int)) (edgL f W H) = bI (f x y) := by
  have h := fill_edges hb hW hH (y : Int) (x + 1)
  rw [show -1 + ((x + 1 : Nat) : Int) = (x : Int) by omega] at h
  exact h
set_option maxRecDepth 20000 in
theorem orb_ring (hb : InBx f W H) (hW : W ≤ 16) (hH : H ≤ 16) {e : Edg} (h : EOk f e) : Ring f (fun i => itr f i e) (per f e) ∧ ∃ i, i < per f e ∧ (itr f i e).k = 0 := by
  have hp := (per_of hb hW hH h).1
  refine ⟨Ring.of h hp, ?_⟩
  obtain ⟨i, hi⟩ := orb_right hb h
  exact ⟨i % per f e, Nat.mod_lt _ hp.1, by rw [← hp.mod]; exact hi⟩
set_option maxRecDepth 20000 in
theorem orb_sum (g : Edg → Int) (e : Edg) : sumE g (orbL f e) = sI (fun i => g (itr f i e)) (per f e) := sumE_range _ _
set_option maxRecDepth 20000 in
/-- The areas add up to the black pixels. -/
theorem area_all (hb : InBx f W H) (hW : W ≤ 16) (hH : H ≤ 16) : sumE (fun j => areS (fun i => itr f i (stE W j)) (per f (stE W j))) (bTo f W (H * W)) = sI (fun y => sI (fun x => bI (f (x : Int) (y : Int))) W) H := by
  rw [sumE_congr (h := fun j => sI (fun y => sI (fun x => wnd (fun i => itr f i (stE W j)) (per f (stE W j)) (x : Int) (y : Int)) W) H) fun j hj => (area_wnd hb (orb_ring hb hW hH (isSt_ok (bTo_mem hj).2)).1).symm]
  rw [sumE_sI]
  refine sI_congr fun y _ => ?_
  rw [sumE_sI]
  refine sI_congr fun x _ => ?_
  rw [← fill_at hb hW hH x y]
  unfold edgL
  rw [sumE_flat]
  exact sumE_congr fun j _ => (orb_sum (f := f) (fun e => om e (x : Int) (y : Int)) (stE W j)).symm
set_option maxRecDepth 20000 in
theorem steps_all : sumE (fun j => ((per f (stE W j) : Nat) : Int)) (bTo f W (H * W)) = ((edgL f W H).length : Int) := by
  rw [← sumE_len, edgL, sumE_flat]
  refine sumE_congr fun j _ => ?_
  rw [sumE_len, orbL, List.length_map, List.length_range]
end
end Go.Proofs.Ytelaoimcaidoiaa
