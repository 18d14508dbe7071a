/- FillHoles, both sides. -/
import Derived.Test.YtelaoimcaidoiaaListS
import Derived.Test.YtelaoimcaidoiaaLab
import Derived.Test.YtelaoimcaidoiaaRecF
namespace Go.Proofs.Ytelaoimcaidoiaa
open Go.RowKit
theorem nbA_four (eight : Bool) (p : Int × Int) : (p.1, p.2 - 1) ∈ nbA eight p ∧ (p.1 - 1, p.2) ∈ nbA eight p ∧ (p.1 + 1, p.2) ∈ nbA eight p ∧ (p.1, p.2 + 1) ∈ nbA eight p := by
  unfold nbA
  simp only [List.mem_map]
  refine ⟨⟨(0, -1), ?_, ?_⟩, ⟨(-1, 0), ?_, ?_⟩, ⟨(1, 0), ?_, ?_⟩, ⟨(0, 1), ?_, ?_⟩⟩
  all_goals first | (cases eight <;> decide) | (simp; try omega)
theorem mkl_map_not (W H : Nat) (g : Nat → Nat → Bool) : (mkl W H g).map (!·) = mkl W H fun x y => !g x y := by unfold mkl; rw [List.map_map]; rfl
theorem mkl_not {W H : Nat} {l : List Bool} (hl : l.length = W * H) : mkl W H (fun x y => !pxl W H l x y) = l.map (!·) := by
  apply List.ext_getElem?
  intro k
  by_cases hk : k < H * W
  · have hW : 0 < W := by
      rcases Nat.eq_zero_or_pos W with e | e
      · rw [e] at hk; simp at hk
      · exact e
    have hx : k % W < W := Nat.mod_lt _ hW
    have hy : k / W < H := Nat.div_lt_of_lt_mul (by rw [Nat.mul_comm]; exact hk)
    have e : k / W * W + k % W = k := by rw [Nat.mul_comm]; exact Nat.div_add_mod k W
    have hkl : k < l.length := by rw [hl, Nat.mul_comm]; exact hk
    have er : (mkl W H fun x y => !pxl W H l x y)[k]? = some (!pxl W H l ((k % W : Nat) : Int) ((k / W : Nat) : Int)) := by unfold mkl; rw [List.getElem?_map, List.getElem?_range hk]; rfl
    rw [er, pxl_at _ _ _ _ _ hx hy, e, List.getElem?_map, List.getElem?_eq_getElem hkl, List.getD_eq_getElem?_getD, List.getElem?_eq_getElem hkl]
    rfl
  · rw [List.getElem?_eq_none (by rw [mkl_len]; omega), List.getElem?_eq_none (by rw [List.length_map, hl, Nat.mul_comm]; omega)]
theorem pxl_map_not {W H : Nat} {l : List Bool} (hl : l.length = W * H) {x y : Nat} (hx : x < W) (hy : y < H) : pxl W H (l.map (!·)) x y = !pxl W H l x y := by
  rw [pxl_at _ _ _ _ _ hx hy, pxl_at _ _ _ _ _ hx hy]
  have hk : y * W + x < l.length := by
    rw [hl]
    have := Nat.mul_le_mul_right W (show y + 1 ≤ H by omega)
    rw [Nat.succ_mul, Nat.mul_comm H] at this
    omega
  rw [List.getD_eq_getElem?_getD, List.getD_eq_getElem?_getD, List.getElem?_map, List.getElem?_eq_getElem hk]
  rfl
def bigP (W H : Nat) (l : List Bool) (p : Int × Int) : Bool := inB p.1 (-1) W && inB p.2 (-1) H && !pxl W H l p.1 p.2
/-- What is white from the outside: g says which pixels. -/
def OutG (W H : Nat) (l : List Bool) (e8 : Bool) (g : Nat → Nat → Bool) : Prop :=
  ∀ x y : Nat, x < W → y < H → (g x y = true ↔ Rch (pxP W H (l.map (!·))) (nbA e8) (spotsBy W (edgeB W H) (H * W)) ((x : Int), (y : Int)))
theorem OutG.ex (W H : Nat) (l : List Bool) (e8 : Bool) : ∃ g, OutG W H l e8 g :=
  ⟨fun x y => @decide (Rch (pxP W H (l.map (!·))) (nbA e8) (spotsBy W (edgeB W H) (H * W)) ((x : Int), (y : Int))) (Classical.propDecidable _), fun x y _ _ => by simp⟩
theorem OutG.big {W H : Nat} {l : List Bool} {e8 : Bool} {g : Nat → Nat → Bool} (h : OutG W H l e8 g) (hl : l.length = W * H) (hW : 1 ≤ W) (hH : 1 ≤ H) {x y : Nat} (hx : x < W) (hy : y < H) :
    g x y = true ↔ Rch (bigP W H l) (nbA e8) [(-1, -1)] ((x : Int), (y : Int)) := by
  rw [h x y hx hy]
  refine frame_in hW hH (fun p hp => ?_) (fun p hp => ?_) (fun p hp => ?_) (fun p h1 h2 => ?_) (fun p q => nbA_near) (nbA_four e8) (fun p => ?_) _ (by dsimp only; omega)
  · obtain ⟨x, y, rfl, h1, h2⟩ := pxP_nat hp
    dsimp only
    omega
  · obtain ⟨i, j⟩ := p
    dsimp only at hp
    obtain ⟨i, rfl⟩ : ∃ k : Nat, i = k := ⟨i.toNat, by omega⟩
    obtain ⟨j, rfl⟩ : ∃ k : Nat, j = k := ⟨j.toNat, by omega⟩
    unfold bigP pxP
    rw [pxl_map_not hl (by omega) (by omega)]
    have b1 : inB (i : Int) (-1) W = true := by rw [inB_true]; omega
    have b2 : inB (j : Int) (-1) H = true := by rw [inB_true]; omega
    simp [b1, b2]
  · unfold bigP at hp
    rw [Bool.and_eq_true, Bool.and_eq_true, inB_true, inB_true] at hp
    omega
  · unfold bigP
    have b1 : inB p.1 (-1) W = true := by rw [inB_true]; omega
    have b2 : inB p.2 (-1) H = true := by rw [inB_true]; omega
    have b3 : pxl W H l p.1 p.2 = false := by
      cases hd : hasB W H p.1 p.2
      · exact pxl_out hd
      · have := hasB_true.1 hd
        omega
    simp [b1, b2, b3]
  · rw [spotsBy_mem]
    constructor
    · rintro ⟨i, j, h1, h2, h3, rfl⟩
      unfold edgeB at h3
      simp only [Bool.or_eq_true, beq_iff_eq] at h3
      dsimp only
      omega
    · rintro ⟨h1, h2⟩
      refine ⟨p.1.toNat, p.2.toNat, by omega, by omega, ?_, Prod.ext (by simp; omega) (by simp; omega)⟩
      unfold edgeB
      simp only [Bool.or_eq_true, beq_iff_eq]
      omega
theorem bigP_true {W H : Nat} {l : List Bool} {p : Int × Int} (h : bigP W H l p = true) : -1 ≤ p.1 ∧ p.1 ≤ W ∧ -1 ≤ p.2 ∧ p.2 ≤ H := by
  unfold bigP at h
  rw [Bool.and_eq_true, Bool.and_eq_true, inB_true, inB_true] at h
  omega
end Go.Proofs.Ytelaoimcaidoiaa
