/- Borders that are given: the reference's picture is the program's where either is right; plain. -/
import Derived.Test.YthgkmaccbcpaeaaPobG
namespace Go.Proofs.Ythgkmaccbcpaeaa
open Go Go.RowKit
/-- Whether a step changes the colour of a pixel. -/
def flE (e : Edg) (x y : Int) : Bool := (decide (e.k = 1 ∧ e.y = y) || decide (e.k = 3 ∧ e.y = y + 1)) && decide (e.x ≤ x)
def parL (L : List Edg) (x y : Int) : Bool := L.foldl (fun b e => b != flE e x y) false
def picP (L : List Edg) (W H : Nat) : List Bool := mkl W H fun i j => parL L (i : Int) (j : Int)
def PobOk2 (W H : Nat) (B : List Bord) : Prop := (∀ r, r < B.length → IsBdB (B.getD r bd0)) ∧ brds (pxl W H (picP (allG B) W H)) W (H * W) = B
theorem parL_add (L : List Edg) (e : Edg) (x y : Int) : parL (L ++ [e]) x y = (parL L x y != flE e x y) := by
  unfold parL
  rw [List.foldl_append]
  rfl
theorem om_par (e : Edg) (x y : Int) : om e x y % 2 = if flE e x y = true then 1 else 0 := by
  unfold om flE
  by_cases h3 : e.k = 3 ∧ e.y = y + 1 ∧ e.x ≤ x
  · rw [if_pos h3, if_pos (by simp [h3.1, h3.2.1, h3.2.2])]
    rfl
  · rw [if_neg h3]
    by_cases h1 : e.k = 1 ∧ e.y = y ∧ e.x ≤ x
    · rw [if_pos h1, if_pos (by simp [h1.1, h1.2.1, h1.2.2])]
      rfl
    · rw [if_neg h1, if_neg]
      · rfl
      · intro h
        simp only [Bool.and_eq_true, Bool.or_eq_true, decide_eq_true_eq] at h
        rcases h with ⟨⟨h4, h5⟩ | ⟨h4, h5⟩, h6⟩
        · exact h1 ⟨h4, h5, h6⟩
        · exact h3 ⟨h4, h5, h6⟩
theorem par_sum (x y : Int) : ∀ (L : List Edg) (b : Bool), L.foldl (fun b e => b != flE e x y) b = decide ((bI b + sumE (fun e => om e x y) L) % 2 = 1)
  | [], b => by cases b <;> rfl
  | e :: L, b => by
    rw [List.foldl_cons, par_sum x y L]
    have h := om_par e x y
    have e1 : sumE (fun e => om e x y) (e :: L) = om e x y + sumE (fun e => om e x y) L := rfl
    rw [e1]
    apply decide_eq_decide.2
    generalize sumE (fun e => om e x y) L = s at *
    generalize om e x y = o at *
    generalize flE e x y = t at *
    cases t
    · have h : o % 2 = 0 := h
      cases b
      · show (bI false + s) % 2 = 1 ↔ (bI false + (o + s)) % 2 = 1
        show (0 + s) % 2 = 1 ↔ (0 + (o + s)) % 2 = 1
        omega
      · show (1 + s) % 2 = 1 ↔ (1 + (o + s)) % 2 = 1
        omega
    · have h : o % 2 = 1 := h
      cases b
      · show (1 + s) % 2 = 1 ↔ (0 + (o + s)) % 2 = 1
        omega
      · show (0 + s) % 2 = 1 ↔ (1 + (o + s)) % 2 = 1
        omega
section
variable {f : Int → Int → Bool} {W H : Nat}
theorem par_fill (hb : InBx f W H) (hW : W ≤ 16) (hH : H ≤ 16) (x y : Nat) : parL (edgL f W H) (x : Int) (y : Int) = f (x : Int) (y : Int) := by
  unfold parL
  rw [par_sum, fill_at hb hW hH]
  cases f (x : Int) (y : Int) <;> rfl
theorem ins_fill (hb : InBx f W H) (hW : W ≤ 16) (hH : H ≤ 16) (y : Nat) : ∀ x : Nat, insN (edgL f W H) y x = bI (f ((x : Int) - 1) (y : Int))
  | 0 => by
    cases hf : f (((0 : Nat) : Int) - 1) (y : Int)
    · rfl
    · have := hb _ _ hf
      omega
  | x + 1 => by
    have h := upN_fill hb hW hH x y
    have e : insN (edgL f W H) y (x + 1) = insN (edgL f W H) y x + upN (edgL f W H) ((x : Int), (y : Int)) := rfl
    rw [e, ins_fill hb hW hH y x, h, show (((x + 1 : Nat) : Int) - 1) = (x : Int) by omega]
theorem gEL_own (hb : InBx f W H) (hW : W ≤ 16) (hH : H ≤ 16) {j : Nat} (h : isSt f W j = true) : gEL (bdOf f W j) (bdOf f W j).2.2.size = orbL f (stE W j) := by
  unfold gEL orbL bdOf
  dsimp only
  rw [wrd_size]
  apply List.map_congr_left
  intro i hi
  exact wrd_gE hb hW hH (isSt_ok h) (List.mem_range.1 hi)
set_option maxRecDepth 20000 in
theorem allG_own (hb : InBx f W H) (hW : W ≤ 16) (hH : H ≤ 16) : allG (brds f W (H * W)) = edgL f W H := by
  unfold allG brds edgL
  rw [List.flatMap_map]
  have hg : ∀ C : List Nat, (∀ j, j ∈ C → isSt f W j = true) → (C.flatMap fun j => gEL (bdOf f W j) (bdOf f W j).2.2.size) = C.flatMap fun j => orbL f (stE W j) := fun C => by
    induction C with
    | nil => intro _; rfl
    | cons j C ih =>
      intro hC
      rw [List.flatMap_cons, List.flatMap_cons, ih fun k hk => hC k (List.mem_cons_of_mem _ hk), gEL_own hb hW hH (hC j List.mem_cons_self)]
  exact hg _ fun j hj => (bTo_mem hj).2
end
theorem mkl_pxl {W H : Nat} {l : List Bool} (hl : l.length = W * H) (hW : 1 ≤ W) : (mkl W H fun i j => pxl W H l (i : Int) (j : Int)) = l := by
  rw [← mkl_all]
  exact mkl_done hl hW
/-- Borders that are a picture's own: both fills give the picture. -/
theorem fills_own {W H : Nat} {l : List Bool} {B : List Bord} (hl : l.length = W * H) (hW1 : 1 ≤ W) (hW : W ≤ 16) (hH : H ≤ 16) (h : brds (pxl W H l) W (H * W) = B) : picG (allG B) W H = l ∧ picP (allG B) W H = l := by
  have hb := inBx_pxl W H l
  rw [← h, allG_own hb hW hH]
  constructor
  · refine Eq.trans (mkl_congr fun x y _ _ => ?_) (mkl_pxl hl hW1)
    show decide (0 < insN (edgL (pxl W H l) W H) y (x + 1)) = _
    rw [ins_fill hb hW hH y (x + 1), show (((x + 1 : Nat) : Int) - 1) = (x : Int) by omega]
    cases pxl W H l (x : Int) (y : Int) <;> rfl
  · exact Eq.trans (mkl_congr fun x y _ _ => par_fill hb hW hH x y) (mkl_pxl hl hW1)
theorem pob_same {W H : Nat} {B : List Bord} (hW1 : 1 ≤ W) (hW : W ≤ 16) (hH : H ≤ 16) : (PobOk W H B ↔ PobOk2 W H B) ∧ (PobOk W H B → picG (allG B) W H = picP (allG B) W H) := by
  have hg : (picG (allG B) W H).length = W * H := by unfold picG; rw [mkl_len, Nat.mul_comm]
  have hp : (picP (allG B) W H).length = W * H := by unfold picP; rw [mkl_len, Nat.mul_comm]
  refine ⟨⟨fun h => ⟨h.1, ?_⟩, fun h => ⟨h.1, ?_⟩⟩, fun h => ?_⟩
  · rw [(fills_own hg hW1 hW hH h.2).2]
    exact h.2
  · rw [(fills_own hp hW1 hW hH h.2).1]
    exact h.2
  · exact (fills_own hg hW1 hW hH h.2).2.symm
end Go.Proofs.Ythgkmaccbcpaeaa
