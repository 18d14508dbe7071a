/- A picture comes back from its runs; how many edges it has. -/
import Derived.Test.YtpdmfnndegcjjaaRunJ
import Derived.Test.YtpdmfnndegcjjaaSumP
import Derived.Test.YtpdmfnndegcjjaaCount
namespace Go.Proofs.Ytpdmfnndegcjjaa
open Go Go.RowKit
def paintL (W : Int) (l : List Bool) (R : List (List Int)) : List Bool := R.foldl (fun l r => paintRun l (runAt W r) (r.getD 2 0).toNat) l
theorem take_getD {m : List (List Int)} {k : Nat} (h : k < m.length) : m.take (k + 1) = m.take k ++ [m.getD k []] := by
  rw [List.take_succ_eq_append_getElem h, List.getD_eq_getElem?_getD, List.getElem?_eq_getElem h]
  rfl
theorem paintTo_eq (W H : Nat) (m : List (List Int)) : ∀ k, k ≤ m.length → paintTo W H m k = paintL W (List.replicate (W * H) false) (m.take k)
  | 0, _ => by simp [paintTo, paintL]
  | k + 1, h => by
    show paintRun (paintTo W H m k) _ _ = _
    rw [paintTo_eq W H m k (by omega), take_getD h]
    unfold paintL
    rw [List.foldl_append]
    rfl
theorem copied_no {L : List Bool} {k : Nat} (hk : k < L.length) (h : L.getD k false = false) : copied false L (k + 1) = copied false L k := by
  rw [← copied_set false L k hk, h]
  apply List.ext_getElem (by simp)
  intro i h1 h2
  rw [List.getElem_set]
  split
  · rename_i e
    subst e
    have h3 : (copied false L k)[k]? = some false := by
      unfold copied
      rw [List.getElem?_append_right (by rw [List.length_take]; omega), List.length_take, List.getElem?_replicate, if_pos (by omega)]
    rw [List.getElem?_eq_getElem h2] at h3
    simpa using h3.symm
  · rfl
def sumR (R : List (List Int)) : Int := (R.map fun r => r.getD 2 0).sum
theorem sumR_snoc (R : List (List Int)) (a b c : Int) : sumR (R ++ [[a, b, c]]) = sumR R + c := by
  unfold sumR
  rw [List.map_append, List.sum_append]
  simp
structure RunInv (W H : Nat) (L : List Bool) (k : Nat) : Prop where
  good : ∀ r, r ∈ runsTo W L k → runGood W H r = true
  paint : paintL W (List.replicate (W * H) false) (runsTo W L k) = copied false L k
  last : 0 < k → L.getD (k - 1) false = true → ∃ (R' : List (List Int)) (y x n : Nat), runsTo W L k = R' ++ [[(y : Int), (x : Int), (n : Int)]] ∧ y * W + x + n = k ∧ x + n ≤ W ∧ 1 ≤ n ∧ y < H
  sum : sumR (runsTo W L k) = (spotsTo W L k).length
theorem runGood_nat {W H y x n : Nat} (h1 : x + n ≤ W) (h2 : 1 ≤ n) (h3 : y < H) : runGood W H [(y : Int), (x : Int), (n : Int)] = true := by
  unfold runGood
  simp only [List.getD_cons_zero, List.getD_cons_succ, List.length_cons, List.length_nil]
  rw [inB_true.2 (by omega), inB_true.2 (by omega), inB_true.2 (by omega)]
  rfl
theorem runInv {W H : Nat} {L : List Bool} (hl : L.length = W * H) (hW : 1 ≤ W) : ∀ k, k ≤ W * H → RunInv W H L k
  | 0, _ => ⟨fun r h => by simp [runsTo] at h, by
      show List.replicate (W * H) false = _
      rw [copied_zero, hl], fun h => by omega, by simp [runsTo, sumR, spotsTo]⟩
  | k + 1, hk => by
    obtain ⟨g, p, la, s⟩ := runInv hl hW k (by omega)
    have hkl : k < L.length := by omega
    have hc := spotsTo_count (W := W) (l := L) (k := k)
    have hsnoc : ∀ (R : List (List Int)) (y x n : Nat), paintL W (List.replicate (W * H) false) (R ++ [[(y : Int), (x : Int), (n : Int)]]) = paintRun (paintL W (List.replicate (W * H) false) R) (y * W + x) n := fun R y x n => by
      unfold paintL
      rw [List.foldl_append]
      show paintRun _ (runAt _ _) _ = _
      rw [runAt_nat]
      rfl
    cases hb : L.getD k false
    · have e := runsTo_no (W := W) hb
      rw [hb] at hc
      refine ⟨by rw [e]; exact g, by rw [e, copied_no hkl hb]; exact p, fun _ h => ?_, by rw [e, s, hc]; simp⟩
      rw [Nat.add_sub_cancel, hb] at h
      cases h
    · rw [hb] at hc
      have hm := Nat.mod_lt k (show W > 0 by omega)
      have hd := Nat.div_add_mod k W
      have hcs := copied_set false L k hkl
      rw [hb] at hcs
      have hyH : k / W < H := Nat.div_lt_of_lt_mul (by omega)
      by_cases hq : k % W ≠ 0 ∧ L.getD (k - 1) false = true
      · have hk0 : 0 < k := by
          rcases Nat.eq_zero_or_pos k with h | h
          · rw [h] at hq; simp at hq
          · exact h
        obtain ⟨R', y, x, n, e, e1, e2, e3, e4⟩ := la hk0 hq.2
        have hxn : x + n < W := by
          rcases Nat.lt_or_ge (x + n) W with h | h
          · exact h
          · exfalso
            apply hq.1
            rw [← e1, Nat.add_assoc, show x + n = W by omega, ← Nat.succ_mul]
            exact Nat.mul_mod_left _ _
        have er : runsTo W L (k + 1) = R' ++ [[(y : Int), (x : Int), ((n + 1 : Nat) : Int)]] := by
          show (if L.getD k false = true then _ else _) = _
          rw [if_pos hb, if_pos hq, e, incL_append]
          rfl
        refine ⟨fun r h => ?_, ?_, fun _ _ => ⟨R', y, x, n + 1, er, by omega, by omega, by omega, e4⟩, ?_⟩
        · rw [er] at h
          rcases List.mem_append.1 h with h | h
          · exact g r (by rw [e]; exact List.mem_append_left _ h)
          · rw [List.mem_singleton.1 h]
            exact runGood_nat (by omega) (by omega) e4
        · rw [er, hsnoc]
          show (paintRun _ _ n).set _ _ = _
          rw [e, hsnoc] at p
          rw [p, show y * W + x + n = k by omega]
          exact hcs
        · rw [er, sumR_snoc]
          rw [e, sumR_snoc] at s
          rw [hc]
          simp at s ⊢
          omega
      · have er : runsTo W L (k + 1) = runsTo W L k ++ [[((k / W : Nat) : Int), ((k % W : Nat) : Int), ((1 : Nat) : Int)]] := by
          show (if L.getD k false = true then _ else _) = _
          rw [if_pos hb, if_neg hq]
          rfl
        have hkk : k / W * W + k % W = k := by rw [Nat.mul_comm]; exact hd
        refine ⟨fun r h => ?_, ?_, fun _ _ => ⟨_, k / W, k % W, 1, er, by omega, by omega, Nat.le_refl _, hyH⟩, ?_⟩
        · rw [er] at h
          rcases List.mem_append.1 h with h | h
          · exact g r h
          · rw [List.mem_singleton.1 h]
            exact runGood_nat (by omega) (by omega) hyH
        · rw [er, hsnoc, p, hkk]
          show (copied false L k).set (k + 0) true = _
          exact hcs
        · rw [er, sumR_snoc, s, hc]
          simp
/-- The runs of a picture give the picture. -/
theorem por_runs {W H : Nat} {L : List Bool} (hl : L.length = W * H) (hW1 : 1 ≤ W) (hW2 : W ≤ 16) (hH1 : 1 ≤ H) (hH2 : H ≤ 16) :
    porOk W H (runsTo W L (H * W)) = true ∧ porRows W H (runsTo W L (H * W)) = picRows W H L ∧ sumR (runsTo W L (H * W)) = (spotsTo W L (H * W)).length := by
  obtain ⟨g, p, -, s⟩ := runInv (H := H) hl hW1 (W * H) (Nat.le_refl _)
  rw [Nat.mul_comm W H] at g p s
  have hp : paintTo W H (runsTo W L (H * W)) (runsTo W L (H * W)).length = L := by
    rw [paintTo_eq _ _ _ _ (Nat.le_refl _), List.take_length, Nat.mul_comm W H, p, Nat.mul_comm H W, ← hl, copied_all]
  have hok : porOk W H (runsTo W L (H * W)) = true := by
    rw [porOk_all (by unfold sizeB; rw [show inB (W : Int) 1 16 = true from inB_true.2 (by omega), show inB (H : Int) 1 16 = true from inB_true.2 (by omega)]; rfl) (fun k hk => g _ (by rw [List.getD_eq_getElem?_getD, List.getElem?_eq_getElem hk]; exact List.getElem_mem hk)), hp]
    simp
  exact ⟨hok, by rw [porRows_yes hok, hp], s⟩
def whiteN (r : Bool) : Nat := if r then 0 else 1
def diffN (a b : Bool) : Nat := if a = b then 0 else 1
theorem row_edges (r : Int → Bool) (h0 : r (-1) = false) : ∀ n : Nat, sumN (fun x : Nat => if r x then whiteN (r (x - 1)) + whiteN (r (x + 1)) else 0) n + (if r n then whiteN (r (n - 1)) else 0) = sumN (fun x : Nat => diffN (r x) (r (x - 1))) (n + 1)
  | 0 => by
    show 0 + _ = 0 + diffN (r ((0 : Nat) : Int)) (r (((0 : Nat) : Int) - 1))
    rw [show ((0 : Nat) : Int) - 1 = -1 by omega, h0]
    cases r ((0 : Nat) : Int) <;> rfl
  | n + 1 => by
    have ih := row_edges r h0 n
    show (sumN _ n + _) + _ = sumN (fun x : Nat => diffN (r x) (r (x - 1))) (n + 1) + diffN (r ((n + 1 : Nat) : Int)) (r (((n + 1 : Nat) : Int) - 1))
    rw [← ih]
    dsimp only
    have e1 : ((n + 1 : Nat) : Int) - 1 = (n : Int) := by omega
    have e2 : ((n : Int) + 1) = ((n + 1 : Nat) : Int) := by omega
    rw [e1, e2]
    generalize sumN _ n = S
    generalize r (n : Int) = a
    generalize r ((n + 1 : Nat) : Int) = b
    generalize r ((n : Int) - 1) = c
    cases a <;> cases b <;> cases c <;> simp [whiteN, diffN]
theorem row_edges_all (r : Int → Bool) (h0 : r (-1) = false) (W : Nat) (hW : r W = false) : sumN (fun x : Nat => if r x then whiteN (r (x - 1)) + whiteN (r (x + 1)) else 0) W = sumN (fun x : Nat => diffN (r x) (r (x - 1))) (W + 1) := by
  have h := row_edges r h0 W
  rw [hW] at h
  simpa using h
/-- The edges that a picture has, from the black pixels and from all places. -/
def edgI (W H : Nat) (L : List Bool) : Nat := ((spotsTo W L (H * W)).map fun s => ((nbA false s).map fun q => whiteN (pxl W H L q.1 q.2)).sum).sum
def ownE (W H : Nat) (L : List Bool) : Nat := sumN (fun y => sumN (fun x => diffN (pxl W H L x y) (pxl W H L (x - 1) y) + diffN (pxl W H L x y) (pxl W H L x (y - 1))) (W + 1)) (H + 1)
theorem edges_same (W H : Nat) (L : List Bool) : edgI W H L = ownE W H L := by
  unfold edgI ownE
  rw [spots_sum, sumN_rows]
  have e1 : sumN (fun y => sumN (fun x => if L.getD (y * W + x) false then ((nbA false ((((y * W + x) % W : Nat) : Int), (((y * W + x) / W : Nat) : Int))).map fun q => whiteN (pxl W H L q.1 q.2)).sum else 0) W) H =
      sumN (fun y => sumN (fun x => (if pxl W H L x y then whiteN (pxl W H L (x - 1) y) + whiteN (pxl W H L (x + 1) y) else 0) + (if pxl W H L x y then whiteN (pxl W H L x (y - 1)) + whiteN (pxl W H L x (y + 1)) else 0)) W) H := by
    refine sumN_congr H fun y hy => sumN_congr W fun x hx => ?_
    have hm : (y * W + x) % W = x := by rw [Nat.add_comm, Nat.add_mul_mod_self_right, Nat.mod_eq_of_lt hx]
    have hd : (y * W + x) / W = y := by rw [Nat.add_comm, Nat.add_mul_div_right _ _ (by omega), Nat.div_eq_of_lt hx, Nat.zero_add]
    rw [hm, hd, pxl_at W H L x y hx hy]
    have hnb : nbA false ((x : Int), (y : Int)) = [((x : Int) + 0, (y : Int) + -1), ((x : Int) + -1, (y : Int) + 0), ((x : Int) + 1, (y : Int) + 0), ((x : Int) + 0, (y : Int) + 1)] := rfl
    rw [hnb]
    simp only [List.map_cons, List.map_nil, List.sum_cons, List.sum_nil, Int.add_zero]
    rw [show (x : Int) + -1 = (x : Int) - 1 from rfl, show (y : Int) + -1 = (y : Int) - 1 from rfl]
    split <;> omega
  rw [e1]
  have e2 : ∀ y, sumN (fun x : Nat => (if pxl W H L x y then whiteN (pxl W H L (x - 1) y) + whiteN (pxl W H L (x + 1) y) else 0) + (if pxl W H L x y then whiteN (pxl W H L x (y - 1)) + whiteN (pxl W H L x (y + 1)) else 0)) W =
      sumN (fun x : Nat => if pxl W H L x y then whiteN (pxl W H L (x - 1) y) + whiteN (pxl W H L (x + 1) y) else 0) W + sumN (fun x : Nat => if pxl W H L x y then whiteN (pxl W H L x (y - 1)) + whiteN (pxl W H L x (y + 1)) else 0) W := fun y => sumN_add _ _ W
  have e3 : ∀ y : Nat, sumN (fun x : Nat => diffN (pxl W H L x y) (pxl W H L (x - 1) y) + diffN (pxl W H L x y) (pxl W H L x (y - 1))) (W + 1) = sumN (fun x : Nat => diffN (pxl W H L x y) (pxl W H L (x - 1) y)) (W + 1) + sumN (fun x : Nat => diffN (pxl W H L x y) (pxl W H L x (y - 1))) (W + 1) := fun y => sumN_add _ _ _
  rw [sumN_congr H (fun y _ => e2 y), sumN_add, sumN_congr (H + 1) (fun y _ => e3 y), sumN_add]
  congr 1
  · show _ = sumN _ H + sumN (fun x : Nat => diffN (pxl W H L x H) (pxl W H L (x - 1) H)) (W + 1)
    rw [sumN_congr (f := fun x : Nat => diffN (pxl W H L x H) (pxl W H L (x - 1) H)) (g := fun _ => 0) (W + 1) (fun i _ => by rw [pxl_off (by omega), pxl_off (by omega)]; rfl), sumN_zero, Nat.add_zero]
    exact sumN_congr H fun y _ => row_edges_all (fun x => pxl W H L x y) (pxl_off (by omega)) W (pxl_off (by omega))
  · rw [sumN_swap (fun x y : Nat => if pxl W H L x y then whiteN (pxl W H L x (y - 1)) + whiteN (pxl W H L x (y + 1)) else 0) W H, sumN_swap (fun x y : Nat => diffN (pxl W H L x y) (pxl W H L x (y - 1))) (W + 1) (H + 1)]
    show _ = sumN _ W + sumN (fun y : Nat => diffN (pxl W H L W y) (pxl W H L W (y - 1))) (H + 1)
    rw [sumN_congr (f := fun y : Nat => diffN (pxl W H L W y) (pxl W H L W (y - 1))) (g := fun _ => 0) (H + 1) (fun i _ => by rw [pxl_off (by omega), pxl_off (by omega)]; rfl), sumN_zero, Nat.add_zero]
    exact sumN_congr W fun x _ => row_edges_all (fun y => pxl W H L x y) (pxl_off (by omega)) H (pxl_off (by omega))
end Go.Proofs.Ytpdmfnndegcjjaa
