/- Quadtrees: no four leaves of a square have one colour. -/
import Derived.Test.YtkpgelhmeokemaaQtC
namespace Go.Proofs.Ytkpgelhmeokemaa
open Go Go.RowKit
theorem lvs_pow : ∀ (T : QT) (n x y : Nat) (p : ByteArray), T.fits n → ∀ f, f ∈ T.lvs n x y p → ∃ k, k ≤ n ∧ f.m = 2 ^ k
  | .leaf b, n, x, y, p, _, f, hf => by
    simp [QT.lvs] at hf
    subst hf
    exact ⟨n, Nat.le_refl _, rfl⟩
  | .node a b c d, 0, _, _, _, h, _, _ => h.elim
  | .node a b c d, n + 1, x, y, p, h, f, hf => by
    rw [lvs_node] at hf
    simp only [List.mem_append] at hf
    have e : ∃ k, k ≤ n ∧ f.m = 2 ^ k := by
      rcases hf with ((hf | hf) | hf) | hf
      · exact lvs_pow a n _ _ _ h.1 f hf
      · exact lvs_pow b n _ _ _ h.2.1 f hf
      · exact lvs_pow c n _ _ _ h.2.2.1 f hf
      · exact lvs_pow d n _ _ _ h.2.2.2 f hf
    obtain ⟨k, h1, h2⟩ := e
    exact ⟨k, by omega, h2⟩
theorem lvs_big : ∀ (T : QT) {n x y : Nat} {p : ByteArray} {f : Lf}, T.fits n → f ∈ T.lvs n x y p → f.m = 2 ^ n → ∃ b, T = .leaf b ∧ f = ⟨x, y, 2 ^ n, b, p⟩
  | .leaf b, n, x, y, p, f, _, hf, _ => by
    simp [QT.lvs] at hf
    exact ⟨b, rfl, hf⟩
  | .node a b c d, 0, _, _, _, _, h, _, _ => h.elim
  | .node a b c d, n + 1, x, y, p, f, h, hf, hm => by
    exfalso
    rw [lvs_node] at hf
    simp only [List.mem_append] at hf
    have e : ∃ k, k ≤ n ∧ f.m = 2 ^ k := by
      rcases hf with ((hf | hf) | hf) | hf
      · exact lvs_pow a n _ _ _ h.1 f hf
      · exact lvs_pow b n _ _ _ h.2.1 f hf
      · exact lvs_pow c n _ _ _ h.2.2.1 f hf
      · exact lvs_pow d n _ _ _ h.2.2.2 f hf
    obtain ⟨k, h1, h2⟩ := e
    rw [h2] at hm
    have := Nat.pow_lt_pow_right (a := 2) (by decide) (show k < n + 1 by omega)
    omega
def Algn (f : Lf) : Prop := f.x % (2 * f.m) = 0 ∧ f.y % (2 * f.m) = 0
theorem odd_mod {x h : Nat} (hh : 0 < h) (hd : 2 * h ∣ x) : (x + h) % (2 * h) ≠ 0 := by
  obtain ⟨q, rfl⟩ := hd
  rw [Nat.add_comm, Nat.add_mul_mod_self_left, Nat.mod_eq_of_lt (by omega)]
  omega
theorem two_dvd {x n : Nat} (h : 2 ^ (n + 1) ∣ x) : 2 ^ n ∣ x ∧ 2 ^ n ∣ x + 2 ^ n ∧ 2 * 2 ^ n ∣ x := by
  have h1 : 2 ^ n ∣ x := Nat.dvd_trans (Nat.pow_dvd_pow 2 (by omega)) h
  exact ⟨h1, (Nat.dvd_add_right h1).2 (Nat.dvd_refl _), by rw [Nat.mul_comm, ← Nat.pow_succ]; exact h⟩
theorem at_four {α : Type} (A B C D : List α) (i : Nat) (f : α) (h : (A ++ B ++ C ++ D)[i]? = some f) :
    (A[i]? = some f) ∨ (∃ j, i = A.length + j ∧ B[j]? = some f) ∨ (∃ j, i = A.length + B.length + j ∧ C[j]? = some f) ∨ (∃ j, i = A.length + B.length + C.length + j ∧ D[j]? = some f) := by
  rw [List.append_assoc, List.append_assoc, List.getElem?_append] at h
  split at h
  · exact .inl h
  · rw [List.getElem?_append] at h
    split at h
    · exact .inr (.inl ⟨_, by omega, h⟩)
    · rw [List.getElem?_append] at h
      split at h
      · exact .inr (.inr (.inl ⟨_, by omega, h⟩))
      · exact .inr (.inr (.inr ⟨_, by omega, h⟩))
theorem lt_of_at {α : Type} {A : List α} {i : Nat} {f : α} (h : A[i]? = some f) : i < A.length := (List.getElem?_eq_some_iff.1 h).1
theorem room : ∀ (T : QT) (n x y : Nat) (p : ByteArray) (i : Nat) (f : Lf), T.fits n → 2 ^ n ∣ x → 2 ^ n ∣ y → (T.lvs n x y p)[i]? = some f → Algn f →
    i + 3 < (T.lvs n x y p).length ∨ (i = 0 ∧ ∃ b, T = .leaf b ∧ f = ⟨x, y, 2 ^ n, b, p⟩)
  | .leaf b, n, x, y, p, i, f, _, _, _, h, _ => by
    have hi := lt_of_at h
    have hi : i < 1 := hi
    have e0 : i = 0 := by omega
    subst e0
    have h : some (⟨x, y, 2 ^ n, b, p⟩ : Lf) = some f := h
    exact .inr ⟨rfl, b, rfl, (Option.some.inj h).symm⟩
  | .node a b c d, 0, _, _, _, _, _, h, _, _, _, _ => h.elim
  | .node a b c d, n + 1, x, y, p, i, f, hf, hx, hy, h, hal => by
    left
    obtain ⟨x1, x2, x3⟩ := two_dvd hx
    obtain ⟨y1, y2, y3⟩ := two_dvd hy
    have hp := Nat.two_pow_pos n
    have la := (lvs_len a n x y (pth p 0) hf.1).1
    have lb := (lvs_len b n (x + 2 ^ n) y (pth p 1) hf.2.1).1
    have lc := (lvs_len c n x (y + 2 ^ n) (pth p 2) hf.2.2.1).1
    have ld := (lvs_len d n (x + 2 ^ n) (y + 2 ^ n) (pth p 3) hf.2.2.2).1
    rw [lvs_node] at h ⊢
    simp only [List.length_append]
    rcases at_four _ _ _ _ _ _ h with h | ⟨j, e, h⟩ | ⟨j, e, h⟩ | ⟨j, e, h⟩
    · rcases room a n _ _ _ _ _ hf.1 x1 y1 h hal with h1 | ⟨h1, v, -, h2⟩
      · omega
      · omega
    · rcases room b n _ _ _ _ _ hf.2.1 x2 y1 h hal with h1 | ⟨h1, v, -, h2⟩
      · omega
      · subst h2; exact absurd hal.1 (odd_mod hp x3)
    · rcases room c n _ _ _ _ _ hf.2.2.1 x1 y2 h hal with h1 | ⟨h1, v, -, h2⟩
      · omega
      · subst h2; exact absurd hal.2 (odd_mod hp y3)
    · rcases room d n _ _ _ _ _ hf.2.2.2 x2 y2 h hal with h1 | ⟨h1, v, -, h2⟩
      · omega
      · subst h2; exact absurd hal.1 (odd_mod hp x3)
/-- Four leaves that could be one. -/
def Quad (l : List Lf) (i : Nat) : Prop := ∃ f g h k, l[i]? = some f ∧ l[i + 1]? = some g ∧ l[i + 2]? = some h ∧ l[i + 3]? = some k ∧ g.m = f.m ∧ h.m = f.m ∧ k.m = f.m ∧ Algn f ∧ g.b = f.b ∧ h.b = f.b ∧ k.b = f.b
theorem Quad.sub {L : List Lf} {X : List Lf} {off i : Nat} (hl : ∀ j, j < X.length → L[off + j]? = X[j]?) (hi : i + 3 < X.length) (h : Quad L (off + i)) : Quad X i := by
  obtain ⟨f, g, k, m, h1, h2, h3, h4, r⟩ := h
  exact ⟨f, g, k, m, by rw [← hl _ (by omega)]; exact h1, by rw [← hl _ (by omega)]; exact h2, by rw [← hl _ (by omega)]; exact h3, by rw [← hl _ (by omega)]; exact h4, r⟩
theorem noQuad : ∀ (T : QT) (n x y : Nat) (p : ByteArray) (i : Nat), T.fits n → T.red = true → 2 ^ n ∣ x → 2 ^ n ∣ y → ¬ Quad (T.lvs n x y p) i
  | .leaf b, n, x, y, p, i, _, _, _, _, ⟨f, g, h, k, h1, h2, h3, h4, _⟩ => by
    have : i + 3 < 1 := lt_of_at h4
    omega
  | .node a b c d, 0, _, _, _, _, h, _, _, _, _ => h.elim
  | .node a b c d, n + 1, x, y, p, i, hf, hr, hx, hy, hq => by
    obtain ⟨x1, x2, x3⟩ := two_dvd hx
    obtain ⟨y1, y2, y3⟩ := two_dvd hy
    have hp := Nat.two_pow_pos n
    simp only [QT.red, Bool.and_eq_true, Bool.not_eq_true'] at hr
    obtain ⟨⟨⟨⟨⟨ra, rb⟩, rc⟩, rd'⟩, f1⟩, f0⟩ := hr
    rw [lvs_node] at hq
    have hq' := hq
    obtain ⟨f, g, g3, k, h1, h2, h3, h4, m2, m3, m4, hal, e2, e3, e4⟩ := hq'
    have hq0 : Quad (a.lvs n x y (pth p 0) ++ b.lvs n (x + 2 ^ n) y (pth p 1) ++ c.lvs n x (y + 2 ^ n) (pth p 2) ++ d.lvs n (x + 2 ^ n) (y + 2 ^ n) (pth p 3)) (0 + i) := by rw [Nat.zero_add]; exact hq
    have la := (lvs_len a n x y (pth p 0) hf.1).1
    have lb := (lvs_len b n (x + 2 ^ n) y (pth p 1) hf.2.1).1
    have lc := (lvs_len c n x (y + 2 ^ n) (pth p 2) hf.2.2.1).1
    have ld := (lvs_len d n (x + 2 ^ n) (y + 2 ^ n) (pth p 3) hf.2.2.2).1
    rcases at_four _ _ _ _ _ _ h1 with h | ⟨j, e, h⟩ | ⟨j, e, h⟩ | ⟨j, e, h⟩
    · rcases room a n _ _ _ _ _ hf.1 x1 y1 h hal with h5 | ⟨h5, v, ea, h6⟩
      · exact noQuad a n _ _ _ i hf.1 ra x1 y1 (Quad.sub (fun j hj => by rw [Nat.zero_add, List.append_assoc, List.append_assoc, List.getElem?_append_left hj]) h5 hq0)
      · subst h5
        subst ea
        have hA : (QT.leaf v).lvs n x y (pth p 0) = [⟨x, y, 2 ^ n, v, pth p 0⟩] := rfl
        have fm : f.m = 2 ^ n := by rw [h6]
        have fb : f.b = v := by rw [h6]
        rw [hA] at h2 h3 h4
        obtain ⟨B, hB⟩ : ∃ B, B = b.lvs n (x + 2 ^ n) y (pth p 1) := ⟨_, rfl⟩
        obtain ⟨C, hC⟩ : ∃ C, C = c.lvs n x (y + 2 ^ n) (pth p 2) := ⟨_, rfl⟩
        obtain ⟨D, hD⟩ : ∃ D, D = d.lvs n (x + 2 ^ n) (y + 2 ^ n) (pth p 3) := ⟨_, rfl⟩
        rw [← hB, ← hC, ← hD] at h2 h3 h4
        rw [← hB] at lb
        rw [← hC] at lc
        rw [← hD] at ld
        have gB : B[0]? = some g := by
          have h2 : ([⟨x, y, 2 ^ n, v, pth p 0⟩] ++ B ++ C ++ D)[1]? = some g := h2
          rw [List.append_assoc, List.append_assoc, List.getElem?_append_right (by simp), List.getElem?_append_left (by simp; omega)] at h2
          exact h2
        obtain ⟨vb, eb, eg⟩ := lvs_big b hf.2.1 (by rw [← hB]; exact List.mem_of_getElem? gB) (by rw [m2, fm])
        have hB1 : B = [g] := by rw [hB, eb, eg]; rfl
        rw [hB1] at h3 h4
        have gC : C[0]? = some g3 := by
          have h3 : ([⟨x, y, 2 ^ n, v, pth p 0⟩] ++ [g] ++ C ++ D)[2]? = some g3 := h3
          rw [List.append_assoc, List.getElem?_append_right (by simp), List.getElem?_append_left (by simp; omega)] at h3
          exact h3
        obtain ⟨vc, ec, eh⟩ := lvs_big c hf.2.2.1 (by rw [← hC]; exact List.mem_of_getElem? gC) (by rw [m3, fm])
        have hC1 : C = [g3] := by rw [hC, ec, eh]; rfl
        rw [hC1] at h4
        have gD : D[0]? = some k := h4
        obtain ⟨vd, ed, ek⟩ := lvs_big d hf.2.2.2 (by rw [← hD]; exact List.mem_of_getElem? gD) (by rw [m4, fm])
        have e2' : vb = v := by rw [← fb, ← e2, eg]
        have e3' : vc = v := by rw [← fb, ← e3, eh]
        have e4' : vd = v := by rw [← fb, ← e4, ek]
        subst eb ec ed e2'
        rw [e3', e4'] at f1 f0
        cases vb <;> simp [four, QT.isB] at f1 f0
    · rcases room b n _ _ _ _ _ hf.2.1 x2 y1 h hal with h5 | ⟨h5, v, -, h6⟩
      · subst e
        exact noQuad b n _ _ _ j hf.2.1 rb x2 y1 (Quad.sub (fun j hj => by rw [List.append_assoc, List.append_assoc, List.getElem?_append_right (by omega), Nat.add_sub_cancel_left, List.getElem?_append_left hj]) h5 hq)
      · subst h6; exact absurd hal.1 (odd_mod hp x3)
    · rcases room c n _ _ _ _ _ hf.2.2.1 x1 y2 h hal with h5 | ⟨h5, v, -, h6⟩
      · subst e
        exact noQuad c n _ _ _ j hf.2.2.1 rc x1 y2 (Quad.sub (fun j hj => by rw [List.append_assoc, List.getElem?_append_right (by rw [List.length_append]; omega), List.length_append, Nat.add_sub_cancel_left, List.getElem?_append_left hj]) h5 hq)
      · subst h6; exact absurd hal.2 (odd_mod hp y3)
    · rcases room d n _ _ _ _ _ hf.2.2.2 x2 y2 h hal with h5 | ⟨h5, v, -, h6⟩
      · subst e
        exact noQuad d n _ _ _ j hf.2.2.2 rd' x2 y2 (Quad.sub (fun j hj => by rw [List.getElem?_append_right (by rw [List.length_append, List.length_append]; omega), List.length_append, List.length_append, Nat.add_sub_cancel_left]) h5 hq)
      · subst h6; exact absurd hal.1 (odd_mod hp x3)
end Go.Proofs.Ytkpgelhmeokemaa
