/- Elements, and the program's pictures that are made by one. -/
import Derived.Test.YtelaoimcaidoiaaWith
import Derived.IntWalk
import Derived.Deep.RegionWith
namespace Go.Proofs.Ytelaoimcaidoiaa
open Go Go.RowKit
def befB (p q : Int × Int) : Bool := decide (p.2 < q.2) || (decide (p.2 = q.2) && decide (p.1 < q.1))
def offOk (p : Int × Int) : Bool := inB p.1 (-4) 4 && inB p.2 (-4) 4
def elemAt (os : List (Int × Int)) (i : Nat) : Bool := offOk (os.getD i (0, 0)) && (decide (i = 0) || befB (os.getD (i - 1) (0, 0)) (os.getD i (0, 0)))
/-- Is an element valid? -/
def elemOk (os : List (Int × Int)) : Bool := (List.range os.length).all (elemAt os) && inB os.length 1 50
theorem elemOk_all {os : List (Int × Int)} : (List.range os.length).all (elemAt os) = true ↔ ∀ i, i < os.length → elemAt os i = true := by
  rw [List.all_eq_true]
  simp
theorem elemOk_spec {os : List (Int × Int)} (h : elemOk os = true) : 1 ≤ os.length ∧ os.length ≤ 50 ∧ ∀ i, i < os.length → -4 ≤ (os.getD i (0, 0)).1 ∧ (os.getD i (0, 0)).1 ≤ 4 ∧ -4 ≤ (os.getD i (0, 0)).2 ∧ (os.getD i (0, 0)).2 ≤ 4 := by
  unfold elemOk at h
  rw [Bool.and_eq_true, elemOk_all, inB_true] at h
  refine ⟨by omega, by omega, fun i hi => ?_⟩
  have := h.1 i hi
  unfold elemAt offOk at this
  rw [Bool.and_eq_true, Bool.and_eq_true, inB_true, inB_true] at this
  omega
def cmpI (x y : Int) : Int := if x < y then -1 else if y < x then 1 else 0
set_option maxHeartbeats 400000 in
theorem isNaN_any (x : Int) (w : World) : Calls Try.prog 53 #[.int .i64 x] w fun e w' => e = .returned (.bool false) ∧ w.Ext w' := by
  go_enter Try.func53, Try.ntmps53
  go_wp2
  go_ret
  exact ⟨by simp, .refl _⟩
set_option maxHeartbeats 800000 in
theorem compare_any (x y : Int) (w : World) (t : Int) (ht : cmpI x y = t) : Calls Try.prog 27 #[.int .i64 x, .int .i64 y] w fun e w' => e = .returned (.int .i64 t) ∧ w.Ext w' := by
  subst ht
  unfold cmpI
  by_cases h1 : x < y
  · rw [if_pos h1]
    go_enter Try.func27, Try.ntmps27
    go_wp2_with (go_at_call 53; refine (isNaN_any _ _).mono ?_; rintro e w' ⟨rfl, x1, rfl⟩)
    go_ret
    refine ⟨rfl, ?_⟩
    repeat (first | exact World.Ext.refl _ | exact ⟨_, rfl⟩ | assumption | refine World.Ext.over ?_ _ | refine World.Ext.drewN ?_ _ | refine World.Ext.drew ?_ | refine World.Ext.alloc ?_ _ | refine World.Ext.setCell ?_ (by simp) _)
  · rw [if_neg h1]
    by_cases h2 : y < x
    · rw [if_pos h2]
      go_enter Try.func27, Try.ntmps27
      go_wp2_with (go_at_call 53; refine (isNaN_any _ _).mono ?_; rintro e w' ⟨rfl, x1, rfl⟩)
      go_ret
      refine ⟨rfl, ?_⟩
      repeat (first | exact World.Ext.refl _ | exact ⟨_, rfl⟩ | assumption | refine World.Ext.over ?_ _ | refine World.Ext.drewN ?_ _ | refine World.Ext.drew ?_ | refine World.Ext.alloc ?_ _ | refine World.Ext.setCell ?_ (by simp) _)
    · rw [if_neg h2]
      go_enter Try.func27, Try.ntmps27
      go_wp2_with (go_at_call 53; refine (isNaN_any _ _).mono ?_; rintro e w' ⟨rfl, x1, rfl⟩)
      go_ret
      refine ⟨rfl, ?_⟩
      repeat (first | exact World.Ext.refl _ | exact ⟨_, rfl⟩ | assumption | refine World.Ext.over ?_ _ | refine World.Ext.drewN ?_ _ | refine World.Ext.drew ?_ | refine World.Ext.alloc ?_ _ | refine World.Ext.setCell ?_ (by simp) _)
def ordI (p q : Int × Int) : Int := if cmpI p.2 q.2 = 0 then cmpI p.1 q.1 else cmpI p.2 q.2
set_option maxRecDepth 5000 in
set_option maxHeartbeats 800000 in
theorem or2_any (b : Nat) (x y : Int) (w : World) (h0 : w.cell? ⟨b, 0, none⟩ = some (.int .i64 x)) (h1 : w.cell? ⟨b, 1, none⟩ = some (.int .i64 y)) (t : Int) (ht : (if x = 0 then y else x) = t) :
    Calls Try.prog 26 #[.slice (some ⟨b, 0, none⟩) 2 2] w fun e w' => e = .returned (.int .i64 t) ∧ w.Ext w' := by
  have HT := Lib.hid ht
  clear ht
  go_enter Try.func26, Try.ntmps26
  go_wp2
  go_loopw [5, 8] (fun _ i wr => ∃ k : Nat, k ≤ 2 ∧ i = .int .i64 k ∧ Hid (1 ≤ k → x = 0) ∧ Hid (2 ≤ k → y = 0) ∧ Hid (w.Ext wr)) (fun _ i _ => 2 - (intOf i).toNat)
  case atStart => exact ⟨0, by omega, rfl, fun h => by omega, fun h => by omega, .refl _⟩
  case round =>
    obtain ⟨k, hk, rfl, HA, HB, HX⟩ := hrel
    have hc0 := HX.out.cell h0
    have hc1 := HX.out.cell h1
    by_cases e0 : k = 0
    · subst e0
      by_cases hx : x = 0
      · have hne : (x != 0) = false := by simp; exact hx
        have HX0 := Lib.hid hx
        clear hx
        go_wp2
        go_roundw
        case rel => exact ⟨1, by omega, by go_num, fun _ => HX0.out, fun h => by omega, HX⟩
        case measure => simp [intOf]
      · have hne : (x != 0) = true := by simp; exact hx
        have HV : Hid (x = t) := by show _ = _; rw [← HT.out, if_neg hx]
        clear hx
        go_wp2
        go_ret
        exact ⟨ret_int HV.out, HX.out⟩
    · by_cases e1 : k = 1
      · subst e1
        have HXZ : Hid (x = 0) := HA.out (by omega)
        have hyv : Hid (t = y) := by show _ = _; rw [← HT.out, if_pos HXZ.out]
        by_cases hy : y = 0
        · have hne : (y != 0) = false := by simp; exact hy
          have HY0 := Lib.hid hy
          clear hy
          go_wp2
          go_roundw
          case rel => exact ⟨2, by omega, by go_num, fun _ => HXZ.out, fun _ => HY0.out, HX⟩
          case measure => simp [intOf]
        · have hne : (y != 0) = true := by simp; exact hy
          clear hy
          go_wp2
          go_ret
          exact ⟨ret_int hyv.out.symm, HX.out⟩
      · have e2 : k = 2 := by omega
        subst e2
        have HV : Hid ((0 : Int) = t) := by
          show _ = _
          rw [← HT.out, if_pos (HA.out (by omega)), HB.out (by omega)]
        go_wp2
        go_ret
        exact ⟨ret_int HV.out, HX.out⟩
set_option maxHeartbeats 800000 in
theorem spotOrder_any (p q : Int × Int) (w : World) (t0 : Int) (ht0 : ordI p q = t0) :
    Calls Try.prog 31 #[.agg #[.int .i64 p.1, .int .i64 p.2], .agg #[.int .i64 q.1, .int .i64 q.2]] w fun e w' => e = .returned (.int .i64 t0) ∧ w.Ext w' := by
  subst ht0
  obtain ⟨xa, ya⟩ := p
  obtain ⟨xb, yb⟩ := q
  obtain ⟨u, hu⟩ : ∃ u, cmpI ya yb = u := ⟨_, rfl⟩
  obtain ⟨v, hv⟩ : ∃ v, cmpI xa xb = v := ⟨_, rfl⟩
  obtain ⟨t, ht⟩ : ∃ t, ordI (xa, ya) (xb, yb) = t := ⟨_, rfl⟩
  have HT : Hid ((if u = 0 then v else u) = t) := by show _ = _; rw [← ht, ← hu, ← hv]; rfl
  have HU := Lib.hid hu
  have HV := Lib.hid hv
  rw [ht]
  clear hu hv ht
  dsimp only
  go_enter Try.func31, Try.ntmps31
  go_wp2_with fail
  refine wp_region_over_tail 10 (by kernel_rfl) (by kernel_rfl) ?_; simp only [List.take_succ_cons, List.take_zero, List.drop_succ_cons, List.drop_zero]; (repeat (go_big_quiet_step ((first | (go_at_call_of 27 (Value.int .i64 ya); exact Calls.over_of (compare_any ya yb _ _ HU.out)) | (go_at_call_of 27 (Value.int .i64 xa); exact Calls.over_of (compare_any xa xb _ _ HV.out)))))); refine wpQuiet_nil ?_; rintro _ ⟨x1, rfl⟩
  go_wp2_with fail
  refine (or2_any _ u v _ (by simp [go_sem]) (by simp [go_sem]) _ HT.out).mono ?_
  rintro e w2 ⟨rfl, hx2⟩
  go_wp2
  go_ret
  refine ⟨rfl, World.Ext.trans ?_ hx2⟩
  repeat (first | exact World.Ext.refl _ | exact ⟨_, rfl⟩ | assumption | refine World.Ext.over ?_ _ | refine World.Ext.drewN ?_ _ | refine World.Ext.drew ?_ | refine World.Ext.alloc ?_ _ | refine World.Ext.setCell ?_ (by simp) _)
theorem ord_lt (p q : Int × Int) : befB p q = decide (ordI p q < 0) := by
  unfold befB ordI cmpI
  rw [Bool.eq_iff_iff]
  simp
  repeat (first | split | omega)
  all_goals omega
theorem ord_false {p q : Int × Int} (h : befB p q = false) : ∃ u, ordI p q = u ∧ 0 ≤ u := ⟨_, rfl, by rw [ord_lt] at h; simpa using h⟩
theorem ord_true {p q : Int × Int} (h : befB p q = true) : ∃ u, ordI p q = u ∧ u < 0 := ⟨_, rfl, by rw [ord_lt] at h; simpa using h⟩
/-- All offsets of an element are small. -/
def Small (os : List (Int × Int)) : Prop := ∀ i, i < os.length → -4 ≤ (os.getD i (0, 0)).1 ∧ (os.getD i (0, 0)).1 ≤ 4 ∧ -4 ≤ (os.getD i (0, 0)).2 ∧ (os.getD i (0, 0)).2 ≤ 4
def someB (W H : Nat) (l : List Bool) (os : List (Int × Int)) (x y : Int) : Bool := os.any fun o => pxl W H l (x - o.1) (y - o.2)
def fitsB (W H : Nat) (l : List Bool) (os : List (Int × Int)) (x y : Int) : Bool := os.all fun o => pxl W H l (x + o.1) (y + o.2)
theorem any_true {α : Type} {p : α → Bool} {xs : List α} {d : α} {k : Nat} (hk : k < xs.length) (h : p (xs.getD k d) = true) : xs.any p = true := by
  rw [List.any_eq_true]
  exact ⟨xs.getD k d, by rw [List.getD_eq_getElem?_getD, List.getElem?_eq_getElem hk]; exact List.getElem_mem hk, h⟩
theorem any_false {α : Type} {p : α → Bool} {xs : List α} {d : α} (h : ∀ i, i < xs.length → p (xs.getD i d) = false) : xs.any p = false := by
  rw [List.any_eq_false]
  intro x hx
  obtain ⟨i, hi, rfl⟩ := List.getElem_of_mem hx
  have := h i hi
  rw [List.getD_eq_getElem?_getD, List.getElem?_eq_getElem hi, Option.getD_some] at this
  rw [this]
  simp
def openB (W H : Nat) (l : List Bool) (os : List (Int × Int)) (x y : Int) : Bool := os.any fun o => fitsB W H l os (x - o.1) (y - o.2)
def closeB (W H : Nat) (l : List Bool) (os : List (Int × Int)) (x y : Int) : Bool := os.all fun o => someB W H l os (x + o.1) (y + o.2)
def npxl (W H : Nat) (l : List Bool) (x y : Int) : Bool := !pxl W H l x y
def homB (W H : Nat) (l : List Bool) (os ms : List (Int × Int)) (x y : Int) : Bool := fitsB W H l os x y && ms.all fun o => npxl W H l (x + o.1) (y + o.2)

def homOk (ss : List ByteArray) (os ms : List (Int × Int)) : Bool := (picOk ss && elemOk os) && elemOk ms
theorem homOk_and (ss : List ByteArray) (os ms : List (Int × Int)) (h : elemOk ms = true) : homOk ss os ms = (elemOk os && (picOk ss && true)) := by unfold homOk; rw [h, Bool.and_true, Bool.and_true, Bool.and_comm]
end Go.Proofs.Ytelaoimcaidoiaa
