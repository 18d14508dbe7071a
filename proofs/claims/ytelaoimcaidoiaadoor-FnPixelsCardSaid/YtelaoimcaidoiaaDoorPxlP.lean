/- FnPixels, plain: pictures that are turned or shifted there and back. -/
import Derived.Test.YtelaoimcaidoiaaDoorPxlC
import Derived.Test.YtelaoimcaidoiaaDoorFitL
import Derived.Test.YtelaoimcaidoiaaDoorRunT
namespace Go.Proofs.YtelaoimcaidoiaaDoor
open Go Go.RowKit
theorem rowsP {W H : Nat} (hW1 : 1 ≤ W) (hW : W ≤ 16) (hH1 : 1 ≤ H) (hH : H ≤ 16) (g : Nat → Nat → Bool) : PicOf W H (picRows W H (mkl W H g)) ∧ picL (picRows W H (mkl W H g)) = mkl W H g := by
  have hl : (mkl W H g).length = W * H := by rw [mkl_len, Nat.mul_comm]
  exact ⟨⟨picOk_rows hW1 hW hH1 hH hl, picRows_len _ _ _, picW_rows (by omega) hl⟩, picL_rows hl⟩
theorem pxl_mkI {W H : Nat} {g : Nat → Nat → Bool} {x y : Int} (hx : 0 ≤ x ∧ x < W) (hy : 0 ≤ y ∧ y < H) : pxl W H (mkl W H g) x y = g x.toNat y.toNat := by
  obtain ⟨X, rfl⟩ : ∃ X : Nat, x = X := ⟨x.toNat, by omega⟩
  obtain ⟨Y, rfl⟩ : ∃ Y : Nat, y = Y := ⟨y.toNat, by omega⟩
  exact pxl_mkl (by omega) (by omega)
theorem pxl_inP {W H : Nat} {l : List Bool} {x y : Int} (h : pxl W H l x y = true) : 0 ≤ x ∧ x < W ∧ 0 ≤ y ∧ y < H := by
  unfold pxl at h
  simp only [Bool.and_eq_true, inB_true] at h
  omega
theorem self_of {W H : Nat} {ss : List ByteArray} (h : PicOf W H ss) {g : Nat → Nat → Bool} (hg : ∀ x y : Nat, x < W → y < H → g x y = pxl W H (picL ss) x y) : picRows W H (mkl W H g) = ss := by
  obtain ⟨hok, rfl, rfl⟩ := h
  have hl : (picL ss).length = ss.length * picW ss := picL_len (picOk_spec hok).2.2.2.2.1
  have e : mkl (picW ss) ss.length g = picL ss := by
    rw [mkl_congr hg]
    apply List.ext_getElem
    · rw [mkl_len, hl]
    · intro k h1 h2
      have hW := (picOk_spec hok).2.2.1
      have h3 : k < ss.length * picW ss := by rw [← hl]; exact h2
      have hx : k % picW ss < picW ss := Nat.mod_lt _ (by omega)
      have hy : k / picW ss < ss.length := Nat.div_lt_of_lt_mul (by rw [Nat.mul_comm]; exact h3)
      have e : k / picW ss * picW ss + k % picW ss = k := by rw [Nat.mul_comm]; exact Nat.div_add_mod k _
      have q := mkl_at (picW ss) ss.length (fun x y => pxl (picW ss) ss.length (picL ss) x y) _ _ hx hy
      rw [e, List.getD_eq_getElem?_getD, List.getElem?_eq_getElem h1, pxl_at _ _ _ _ _ hx hy, e, List.getD_eq_getElem?_getD, List.getElem?_eq_getElem h2] at q
      exact q
  rw [e]
  exact pic_self hok
theorem trW_in {k W H : Nat} (hW1 : 1 ≤ W) (hW : W ≤ 16) (hH1 : 1 ≤ H) (hH : H ≤ 16) : 1 ≤ trW k W H ∧ trW k W H ≤ 16 := by unfold trW; split <;> omega
theorem trW_lo {k W H : Nat} (h : k < 2) : trW k W H = W := if_pos h
theorem trW_hi {k W H : Nat} (h : ¬ k < 2) : trW k W H = H := if_neg h
theorem pic_dims {W H : Nat} {ss : List ByteArray} (h : PicOf W H ss) : 1 ≤ W ∧ W ≤ 16 ∧ 1 ≤ H ∧ H ≤ 16 := by
  obtain ⟨hok, rfl, rfl⟩ := h
  obtain ⟨v1, v2, v3, v4, -⟩ := picOk_spec hok
  exact ⟨v3, v4, v1, v2⟩
/-- A picture turned is a picture, pixel by pixel told. -/
theorem trn_pic {W H : Nat} {ss : List ByteArray} (h : PicOf W H ss) (k : Nat) : PicOf (trW k W H) (trW k H W) (trnP k ss) ∧ picL (trnP k ss) = mkl (trW k W H) (trW k H W) (trP k W H (picL ss)) := by
  obtain ⟨d1, d2, d3, d4⟩ := pic_dims h
  obtain ⟨hok, rfl, rfl⟩ := h
  obtain ⟨a1, a2⟩ := trW_in (k := k) d1 d2 d3 d4
  obtain ⟨b1, b2⟩ := trW_in (k := k) d3 d4 d1 d2
  exact rowsP a1 a2 b1 b2 _
theorem trn_at {W H : Nat} {ss : List ByteArray} (h : PicOf W H ss) (k : Nat) {x y : Int} (hx : 0 ≤ x ∧ x < trW k W H) (hy : 0 ≤ y ∧ y < trW k H W) : pxl (trW k W H) (trW k H W) (picL (trnP k ss)) x y = trP k W H (picL ss) x.toNat y.toNat := by
  rw [(trn_pic h k).2, pxl_mkI hx hy]
theorem trn_twice {W H : Nat} {ss : List ByteArray} (h : PicOf W H ss) {k : Nat} (hk : k < 3) : trnP k (trnP k ss) = ss := by
  obtain ⟨⟨h1, h2, h3⟩, h4⟩ := trn_pic h k
  show picRows (trW k (picW (trnP k ss)) (trnP k ss).length) (trW k (trnP k ss).length (picW (trnP k ss))) (mkl _ _ (trP k (picW (trnP k ss)) (trnP k ss).length (picL (trnP k ss)))) = ss
  rw [h2, h3]
  have e1 : trW k (trW k W H) (trW k H W) = W := by unfold trW; split <;> rfl
  have e2 : trW k (trW k H W) (trW k W H) = H := by unfold trW; split <;> rfl
  rw [e1, e2]
  refine self_of h fun x y hx hy => ?_
  rcases (show k = 0 ∨ k = 1 ∨ k = 2 by omega) with rfl | rfl | rfl
  · have e := trn_at h 0 (x := (W : Int) - 1 - x) (y := y) (by rw [trW_lo (by omega)]; omega) (by rw [trW_lo (by omega)]; omega)
    show pxl (trW 0 W H) (trW 0 H W) (picL (trnP 0 ss)) (((trW 0 W H : Nat) : Int) - 1 - x) y = _
    rw [trW_lo (W := W) (H := H) (by omega), trW_lo (W := H) (H := W) (by omega)] at *
    rw [e]
    show pxl W H (picL ss) ((W : Int) - 1 - (((W : Int) - 1 - x).toNat : Int)) (((y : Int).toNat : Nat) : Int) = _
    rw [show (W : Int) - 1 - (((W : Int) - 1 - x).toNat : Int) = x by omega]
    rfl
  · have e := trn_at h 1 (x := x) (y := (H : Int) - 1 - y) (by rw [trW_lo (by omega)]; omega) (by rw [trW_lo (by omega)]; omega)
    show pxl (trW 1 W H) (trW 1 H W) (picL (trnP 1 ss)) x (((trW 1 H W : Nat) : Int) - 1 - y) = _
    rw [trW_lo (W := W) (H := H) (by omega), trW_lo (W := H) (H := W) (by omega)] at *
    rw [e]
    show pxl W H (picL ss) (((x : Int).toNat : Nat) : Int) ((H : Int) - 1 - (((H : Int) - 1 - y).toNat : Int)) = _
    rw [show (H : Int) - 1 - (((H : Int) - 1 - y).toNat : Int) = y by omega]
    rfl
  · have e := trn_at h 2 (x := y) (y := x) (by rw [trW_hi (by omega)]; omega) (by rw [trW_hi (by omega)]; omega)
    show pxl (trW 2 W H) (trW 2 H W) (picL (trnP 2 ss)) y x = _
    rw [e]
    rfl
/-- Four quarter turns. -/
theorem trn_four {W H : Nat} {ss : List ByteArray} (h : PicOf W H ss) : trnP 3 (trnP 3 (trnP 3 (trnP 3 ss))) = ss := by
  have half : ∀ {W H : Nat} {ss : List ByteArray}, PicOf W H ss → PicOf W H (trnP 3 (trnP 3 ss)) ∧ ∀ x y : Nat, x < W → y < H → pxl W H (picL (trnP 3 (trnP 3 ss))) x y = pxl W H (picL ss) ((W : Int) - 1 - x) ((H : Int) - 1 - y) := by
    intro W H ss h
    have p1 := (trn_pic h 3).1
    have p2 := (trn_pic p1 3).1
    have e : ∀ a b : Nat, trW 3 a b = b := fun a b => trW_hi (by omega)
    simp only [e] at p1 p2
    refine ⟨p2, fun x y hx hy => ?_⟩
    have t2 := trn_at p1 3 (x := x) (y := y) (by rw [e]; omega) (by rw [e]; omega)
    have t1 := trn_at h 3 (x := y) (y := (W : Int) - 1 - x) (by rw [e]; omega) (by rw [e]; omega)
    simp only [e] at t1 t2
    rw [t2]
    show pxl H W (picL (trnP 3 ss)) y ((W : Int) - 1 - x) = _
    rw [t1]
    show pxl W H (picL ss) ((((W : Int) - 1 - x).toNat : Nat) : Int) ((H : Int) - 1 - (((y : Int).toNat : Nat) : Int)) = _
    rw [show ((((W : Int) - 1 - x).toNat : Nat) : Int) = (W : Int) - 1 - x by omega]
    rfl
  obtain ⟨p2, q2⟩ := half h
  obtain ⟨p4, q4⟩ := half p2
  have hs : ∀ {R : List ByteArray}, PicOf W H R → R = picRows W H (picL R) := fun {R} hR => by
    obtain ⟨r1, r2, r3⟩ := hR
    have := pic_self r1
    rw [r2, r3] at this
    exact this.symm
  have e1 := self_of p4 (g := fun x y => pxl W H (picL (trnP 3 (trnP 3 (trnP 3 (trnP 3 ss))))) x y) fun _ _ _ _ => rfl
  rw [← e1]
  refine self_of h fun x y hx hy => ?_
  show pxl W H (picL (trnP 3 (trnP 3 (trnP 3 (trnP 3 ss))))) x y = _
  rw [q4 x y hx hy]
  have := q2 (W - 1 - x) (H - 1 - y) (by omega) (by omega)
  rw [show (((W - 1 - x : Nat)) : Int) = (W : Int) - 1 - x by omega, show (((H - 1 - y : Nat)) : Int) = (H : Int) - 1 - y by omega] at this
  rw [this, show (W : Int) - 1 - ((W : Int) - 1 - x) = x by omega, show (H : Int) - 1 - ((H : Int) - 1 - y) = y by omega]
/-- A picture shifted is a picture. -/
theorem sh_pic {W H : Nat} {ss : List ByteArray} (h : PicOf W H ss) (dx dy : Int) : PicOf W H (shP dx dy ss) ∧ picL (shP dx dy ss) = mkl W H fun x y => pxl W H (picL ss) ((x : Int) - dx) ((y : Int) - dy) := by
  obtain ⟨d1, d2, d3, d4⟩ := pic_dims h
  obtain ⟨hok, rfl, rfl⟩ := h
  exact rowsP d1 d2 d3 d4 _
/-- Shifted there and back, a picture has no pixel that it hadn't. -/
theorem sh_back {W H : Nat} {ss : List ByteArray} (h : PicOf W H ss) (dx dy : Int) {x y : Nat} (hx : x < W) (hy : y < H) (hp : pxl W H (picL (shP (-dx) (-dy) (shP dx dy ss))) x y = true) : pxl W H (picL ss) x y = true := by
  obtain ⟨p1, e1⟩ := sh_pic h dx dy
  obtain ⟨p2, e2⟩ := sh_pic p1 (-dx) (-dy)
  rw [e2, pxl_mkl hx hy, e1] at hp
  obtain ⟨b1, b2, b3, b4⟩ := pxl_inP hp
  rw [pxl_mkI ⟨b1, b2⟩ ⟨b3, b4⟩] at hp
  rwa [show ((((x : Int) - -dx).toNat : Nat) : Int) - dx = x by omega, show ((((y : Int) - -dy).toNat : Nat) : Int) - dy = y by omega] at hp
end Go.Proofs.YtelaoimcaidoiaaDoor
