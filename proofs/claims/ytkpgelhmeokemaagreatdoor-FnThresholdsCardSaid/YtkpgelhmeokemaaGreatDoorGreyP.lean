/- Plain: numbers grow within a mask. -/
import Derived.Test.YtkpgelhmeokemaaGreatDoorPasP
import Derived.Test.YtkpgelhmeokemaaGreatDoorReach
import Derived.Test.YtkpgelhmeokemaaGreatDoorDist
namespace Go.Proofs.YtkpgelhmeokemaaGreatDoor
open Go.RowKit
theorem mod_atI {W x y : Nat} (hx : x < W) : (y * W + x) % W = x ∧ (y * W + x) / W = y :=
  ⟨by rw [Nat.mul_comm, Nat.mul_add_mod, Nat.mod_eq_of_lt hx], by rw [Nat.mul_comm, Nat.mul_add_div (by omega), Nat.div_eq_of_lt hx]; rfl⟩
def mnI (a b : Int) : Int := if a < b then a else b
def mxJ (a b : Int) : Int := if a < b then b else a
/-- The number at a pixel of a list of rows. -/
def nbV (W : Nat) (m : List Int) (x y : Int) : Int := m.getD (y * W + x).toNat 0
/-- The greatest of a number and of those of neighbours. -/
def upTo (W H : Nat) (m : List Int) (v : Int) (qs : List (Int × Int)) : Int := qs.foldl (fun n q => if hasB W H q.1 q.2 then mxJ n (nbV W m q.1 q.2) else n) v
/-- The same, each of them cut. -/
def capTo (W H : Nat) (m : List Int) (M : Int) (v : Int) (qs : List (Int × Int)) : Int := qs.foldl (fun n q => if hasB W H q.1 q.2 then mxJ n (mnI (nbV W m q.1 q.2) M) else n) v
theorem mxJ_ge (a b : Int) : a ≤ mxJ a b := by unfold mxJ; split <;> omega
theorem mnI_cut (v x M : Int) : mxJ (mnI v M) (mnI x M) = mnI (mxJ v x) M := by
  unfold mxJ mnI
  repeat' split
  all_goals omega
theorem capTo_eq (W H : Nat) (m : List Int) (M : Int) : ∀ (qs : List (Int × Int)) (v : Int), capTo W H m M (mnI v M) qs = mnI (upTo W H m v qs) M
  | [], v => rfl
  | q :: qs, v => by
    unfold capTo upTo
    rw [List.foldl_cons, List.foldl_cons]
    split
    · rw [mnI_cut]
      exact capTo_eq W H m M qs _
    · exact capTo_eq W H m M qs v
theorem capTo_ge (W H : Nat) (m : List Int) (M : Int) : ∀ (qs : List (Int × Int)) (v : Int), v ≤ capTo W H m M v qs
  | [], v => Int.le_refl _
  | q :: qs, v => by
    unfold capTo
    rw [List.foldl_cons]
    split
    · exact Int.le_trans (mxJ_ge _ _) (capTo_ge W H m M qs _)
    · exact capTo_ge W H m M qs v
theorem capTo_snoc (W H : Nat) (m : List Int) (M v : Int) (qs : List (Int × Int)) (q : Int × Int) : capTo W H m M v (qs ++ [q]) = if hasB W H q.1 q.2 then mxJ (capTo W H m M v qs) (mnI (nbV W m q.1 q.2) M) else capTo W H m M v qs := by
  unfold capTo
  rw [List.foldl_append]
  rfl
theorem upTo_snoc (W H : Nat) (m : List Int) (v : Int) (qs : List (Int × Int)) (q : Int × Int) : upTo W H m v (qs ++ [q]) = if hasB W H q.1 q.2 then mxJ (upTo W H m v qs) (nbV W m q.1 q.2) else upTo W H m v qs := by
  unfold upTo
  rw [List.foldl_append]
  rfl
def nb4 (W k : Nat) : List (Int × Int) := nbA false (((k % W : Nat) : Int), ((k / W : Nat) : Int))
/-- The number that a pixel gets. -/
def greV (W H : Nat) (mask m : List Int) (k : Nat) : Int := mnI (upTo W H m (m.getD k 0) (nb4 W k)) (mask.getD k 0)
def greC (W H : Nat) (mask m : List Int) (k : Nat) : Bool := decide (m.getD k 0 < greV W H mask m k)
/-- Nowhere above the mask, as long, from 0 on. -/
def Under (mask m : List Int) : Prop := m.length = mask.length ∧ ∀ k, k < m.length → 0 ≤ m.getD k 0 ∧ m.getD k 0 ≤ mask.getD k 0
/-- What is missing. -/
def gap : List Int → List Int → Nat
  | a :: al, b :: bl => (a - b).toNat + gap al bl
  | _, _ => 0
theorem gap_set : ∀ (mask m : List Int) (k : Nat) (v : Int), k < m.length → k < mask.length → m.getD k 0 < v → v ≤ mask.getD k 0 → gap mask (m.set k v) < gap mask m
  | [], m, k, v, _, h, _, _ => by cases h
  | a :: al, [], k, v, h, _, _, _ => by cases h
  | a :: al, b :: bl, 0, v, _, _, h1, h2 => by
    simp at h1 h2
    simp only [List.set_cons_zero, gap]
    omega
  | a :: al, b :: bl, k + 1, v, h, h', h1, h2 => by
    simp only [List.set_cons_succ, gap]
    have := gap_set al bl k v (by simpa using h) (by simpa using h') (by simpa using h1) (by simpa using h2)
    omega
theorem getD_set (m : List Int) (k j : Nat) (v : Int) (h : k < m.length) : (m.set k v).getD j 0 = if j = k then v else m.getD j 0 := by
  rw [List.getD_eq_getElem?_getD, List.getElem?_set, List.getD_eq_getElem?_getD]
  by_cases e : k = j
  · subst e
    simp [h]
  · rw [if_neg e, if_neg (Ne.symm e)]
theorem greV_le (W H : Nat) (mask m : List Int) (k : Nat) : greV W H mask m k ≤ mask.getD k 0 := by unfold greV mnI; split <;> omega
theorem gre_falls (W H : Nat) (mask : List Int) (M : Nat) (hM : M = mask.length) : Falls (greC W H mask) (greV W H mask) M (Under mask) (gap mask) :=
  ⟨fun l k hk ⟨h1, h2⟩ hc => by
    have hc' : l.getD k 0 < greV W H mask l k := of_decide_eq_true hc
    refine ⟨by rw [List.length_set, h1], fun j hj => ?_⟩
    rw [List.length_set] at hj
    rw [getD_set l k j _ (by omega)]
    by_cases e : j = k
    · rw [if_pos e, e]
      have := h2 k (by omega)
      exact ⟨by omega, greV_le W H mask l k⟩
    · rw [if_neg e]
      exact h2 j hj,
   fun l k hk ⟨h1, h2⟩ hc => gap_set mask l k _ (by omega) (by omega) (of_decide_eq_true hc) (greV_le W H mask l k)⟩
/-- Under the mask the number is that of the neighbours' cut numbers, one after another. -/
theorem greV_cap {W H : Nat} {mask m : List Int} (h : Under mask m) {k : Nat} (hk : k < m.length) : greV W H mask m k = capTo W H m (mask.getD k 0) (m.getD k 0) (nb4 W k) := by
  unfold greV
  rw [← capTo_eq]
  have := (h.2 k hk).2
  rw [show mnI (m.getD k 0) (mask.getD k 0) = m.getD k 0 by unfold mnI; split <;> omega]
theorem greV_ge {W H : Nat} {mask m : List Int} (h : Under mask m) {k : Nat} (hk : k < m.length) : m.getD k 0 ≤ greV W H mask m k := by
  rw [greV_cap h hk]
  exact capTo_ge _ _ _ _ _ _
/-- What grows within the mask. -/
def GreR (W H : Nat) (mask m res : List Int) : Prop := PasR (greC W H mask) (greV W H mask) mask.length m res
theorem GreR.ex (W H : Nat) {mask m : List Int} (h : Under mask m) : ∃ res, GreR W H mask m res := PasR.ex (gre_falls W H mask _ rfl) _ m h (Nat.le_refl _)
theorem idx_lt {W H : Nat} {q : Int × Int} (h : hasB W H q.1 q.2 = true) : (q.2 * W + q.1).toNat < H * W := by
  obtain ⟨h1, h2, h3, h4⟩ := hasB_true.1 h
  have := place_lt h1 h2 h3 h4
  rw [Nat.mul_comm H W]
  omega
/-- A neighbour is another pixel. -/
theorem nb4_ne {W k : Nat} (hW : 0 < W) {q : Int × Int} (hq : q ∈ nb4 W k) {H : Nat} (hh : hasB W H q.1 q.2 = true) : (q.2 * W + q.1).toNat ≠ k := by
  obtain ⟨h1, h2, h3, h4⟩ := hasB_true.1 hh
  obtain ⟨X, hX⟩ : ∃ X : Nat, q.1 = X := ⟨q.1.toNat, by omega⟩
  obtain ⟨Y, hY⟩ : ∃ Y : Nat, q.2 = Y := ⟨q.2.toNat, by omega⟩
  rw [hX, hY]
  rw [show (((Y : Int) * (W : Int) + (X : Int))).toNat = Y * W + X by rw [← Int.natCast_mul, ← Int.natCast_add, Int.toNat_natCast]]
  intro e
  have hXW : X < W := by omega
  have e1 : k % W = X := by rw [← e, Nat.add_comm, Nat.add_mul_mod_self_right, Nat.mod_eq_of_lt hXW]
  have e2 : k / W = Y := by rw [← e, Nat.add_comm, Nat.add_mul_div_right _ _ hW, Nat.div_eq_of_lt hXW, Nat.zero_add]
  unfold nb4 nbA arndL at hq
  rw [e1, e2] at hq
  simp at hq
  rcases hq with h | h | h | h <;> (have h1 := congrArg Prod.fst h; have h2 := congrArg Prod.snd h; simp only at h1 h2; omega)
end Go.Proofs.YtkpgelhmeokemaaGreatDoor
