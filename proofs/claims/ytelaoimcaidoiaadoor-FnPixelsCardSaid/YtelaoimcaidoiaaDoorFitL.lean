/- FnFitting: eroded, dilated, hit or missed: as each pixel tells. -/
import Derived.Test.YtelaoimcaidoiaaDoorGenF
namespace Go.Proofs.YtelaoimcaidoiaaDoor
open Go Go.RowKit
theorem pxl_mkl {W H : Nat} {g : Nat → Nat → Bool} {x y : Nat} (hx : x < W) (hy : y < H) : pxl W H (mkl W H g) x y = g x y := by
  have h1 : inB (x : Int) 0 ((W : Int) - 1) = true := inB_true.2 (by omega)
  have h2 : inB (y : Int) 0 ((H : Int) - 1) = true := inB_true.2 (by omega)
  unfold pxl
  rw [h1, h2, Bool.true_and, Bool.true_and, ← Int.natCast_mul, ← Int.natCast_add, Int.toNat_natCast, mkl_at W H g x y hx hy]
theorem pic_bnd {ss : List ByteArray} (h : picOk ss = true) : PicBnd ss := by
  obtain ⟨v1, v2, v3, v4, v5, -⟩ := picOk_spec h
  refine ⟨by omega, fun y => ?_⟩
  by_cases hy : y < ss.length
  · rw [v5.2 y hy]; omega
  · rw [List.getD_eq_getElem?_getD, List.getElem?_eq_none (by omega)]; simp
theorem rowsIf_true {ss : List ByteArray} {ok : Bool} (h : ok = true) (g : Nat → Nat → Bool) : rowsIf ss ok g = picRows (picW ss) ss.length (mkl (picW ss) ss.length g) := by unfold rowsIf; rw [if_pos h]
/-- A picture that is made pixel by pixel. -/
theorem made_pic {ss : List ByteArray} (hok : picOk ss = true) (g : Nat → Nat → Bool) : PicOf (picW ss) ss.length (picRows (picW ss) ss.length (mkl (picW ss) ss.length g)) ∧
    ∀ x y : Nat, x < picW ss → y < ss.length → pxl (picW ss) ss.length (picL (picRows (picW ss) ss.length (mkl (picW ss) ss.length g))) x y = g x y := by
  obtain ⟨v1, v2, v3, v4, v5, -⟩ := picOk_spec hok
  have hl : (mkl (picW ss) ss.length g).length = picW ss * ss.length := by rw [mkl_len, Nat.mul_comm]
  exact ⟨⟨picOk_rows v3 v4 v1 v2 hl, picRows_len _ _ _, picW_rows v1 hl⟩, fun x y hx hy => by rw [picL_rows hl, pxl_mkl hx hy]⟩
theorem blackOf_any {W H : Nat} (R : List ByteArray) (hR : PicOf W H R) (g : Nat → Nat → Bool) (hg : ∀ x y : Nat, x < W → y < H → pxl W H (picL R) x y = g x y) (a : Option Addr) (c : Nat) (x y : Nat) (w : World) (hx : x < W) (hy : y < H) (hm : RowS w a R) :
    Calls Tryd.prog 14 #[.agg #[.slice a H c], .int .i64 x, .int .i64 y] w fun e w' => e = .returned (.bool (g x y)) ∧ w.Ext w' := by
  obtain ⟨h1, h2, h3⟩ := hR
  have h := b10Black_any a c R x y w h1 (pic_bnd h1) hm
  rw [h2, h3, hg x y hx hy] at h
  exact h
theorem getD_memP {os : List (Int × Int)} {k : Nat} (hk : k < os.length) : os.take (k + 1) = os.take k ++ [os.getD k (0, 0)] := by
  rw [List.take_succ_eq_append_getElem hk, List.getD_eq_getElem?_getD, List.getElem?_eq_getElem hk]
  rfl
theorem all_take {os : List (Int × Int)} {p : Int × Int → Bool} {k : Nat} (hk : k < os.length) : (os.take (k + 1)).all p = ((os.take k).all p && p (os.getD k (0, 0))) := by
  rw [getD_memP hk, List.all_append]
  simp
theorem any_take {os : List (Int × Int)} {p : Int × Int → Bool} {k : Nat} (hk : k < os.length) : (os.take (k + 1)).any p = ((os.take k).any p || p (os.getD k (0, 0))) := by
  rw [getD_memP hk, List.any_append]
  simp
end Go.Proofs.YtelaoimcaidoiaaDoor
