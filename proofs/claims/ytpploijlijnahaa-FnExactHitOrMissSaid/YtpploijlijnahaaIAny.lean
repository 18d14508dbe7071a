/- The program's some and all over spots. -/
import Derived.Test.YtpploijlijnahaaKit2
namespace Go.Proofs.Ytpploijlijnahaa
open Go.RowKit
set_option maxRecDepth 5000 in
set_option maxHeartbeats 800000 in
theorem indexFuncP_any (a : Option Addr) (c f : Nat) (caps : Array Value) (os : List (Int × Int)) (p : Int × Int → Bool) (w : World) (hn : os.length ≤ 1048576) (hm : RowP w a os) (he : Enters f)
    (hf : ∀ w', w.Ext w' → ∀ i, i < os.length → Calls Try.prog f (#[spotV (os.getD i (0, 0))] ++ caps) w' fun e w'' => e = .returned (.bool (p (os.getD i (0, 0)))) ∧ w'.Ext w'') :
    Calls Try.prog 188 #[.slice a os.length c, .func (.func f) #[] caps] w fun e w' => e = .returned (.int .i64 (idxP p os)) ∧ w.Ext w' := by
  have HM := Lib.hid hm
  have HF := Lib.hid hf
  have hn2 : os.length ≤ 4611686018427387904 := by omega
  unfold Enters at he
  clear hm hf hn
  go_enter Try.func188, Try.ntmps188
  go_wp2
  go_loopw [5, 8] (fun _ i wr => ∃ k : Nat, k ≤ os.length ∧ i = .int .i64 k ∧ Hid (∀ i, i < k → p (os.getD i (0, 0)) = false) ∧ w.Ext wr) (fun _ i _ => os.length - (intOf i).toNat)
  case atStart => exact ⟨0, Nat.zero_le _, rfl, fun i hi => by omega, .refl _⟩
  case round =>
    obtain ⟨k, hk, rfl, HK, hx⟩ := hrel
    by_cases hlt : k < os.length
    · obtain ⟨b, o, rfl, hc1, hc2⟩ := (HM.out.ext hx).at hlt
      have HC := Lib.hid (HF.out wr hx k hlt)
      unfold spotV at HC
      have HK1 : Hid (p (os.getD k (0, 0)) = false → ∀ i, i < k + 1 → p (os.getD i (0, 0)) = false) := fun h i hi => by
        by_cases e : i = k
        · rw [e]; exact h
        · exact HK.out i (by omega)
      have HI : Hid (p (os.getD k (0, 0)) = true → (k : Int) = idxP p os) := fun h => (idxP_at hlt HK.out h).symm
      generalize p (os.getD k (0, 0)) = t at HC HK1 HI
      generalize os.getD k (0, 0) = z at hc1 hc2 HC
      go_wp2_with fail
      refine HC.out.mono ?_
      rintro e w2 ⟨rfl, hx2⟩
      have hx := hx.trans hx2
      cases t
      · have HK2 := Lib.hid (HK1.out rfl)
        clear HK1 HI
        go_wp2
        go_roundw
        case rel => exact ⟨k + 1, by omega, by go_num, HK2.out, hx⟩
        case measure => simp [intOf]; omega
      · have HI2 := Lib.hid (HI.out rfl)
        clear HK1 HI
        go_wp2
        go_ret
        exact ⟨ret_int HI2.out, hx⟩
    · have : k = os.length := by omega
      subst this
      go_wp2
      go_ret
      exact ⟨ret_int (idxP_none HK.out).symm, hx⟩
set_option maxHeartbeats 400000 in
theorem containsFuncP_any (a : Option Addr) (c f : Nat) (caps : Array Value) (os : List (Int × Int)) (p : Int × Int → Bool) (w : World) (hn : os.length ≤ 1048576) (hm : RowP w a os) (he : Enters f)
    (hf : ∀ w', w.Ext w' → ∀ i, i < os.length → Calls Try.prog f (#[spotV (os.getD i (0, 0))] ++ caps) w' fun e w'' => e = .returned (.bool (p (os.getD i (0, 0)))) ∧ w'.Ext w'') :
    Calls Try.prog 168 #[.slice a os.length c, .func (.func f) #[] caps] w fun e w' => e = .returned (.bool (os.any p)) ∧ w.Ext w' := by
  have HC := Lib.hid (indexFuncP_any a c f caps os p w hn hm he hf)
  have HT := Lib.hid (idxP_any p os)
  have hlo := idxP_lo p os
  clear hn hm he hf
  generalize os.any p = t at HT ⊢
  generalize idxP p os = z at HC HT hlo
  go_enter Try.func168, Try.ntmps168
  go_wp2_with fail
  refine HC.out.mono ?_
  rintro e w2 ⟨rfl, hx⟩
  go_wp2
  go_ret
  exact ⟨ret_bool HT.out, hx⟩
set_option maxHeartbeats 400000 in
theorem some_any (a : Option Addr) (c f : Nat) (caps : Array Value) (os : List (Int × Int)) (p : Int × Int → Bool) (w : World) (hn : os.length ≤ 1048576) (hm : RowP w a os) (he : Enters f)
    (hf : ∀ w', w.Ext w' → ∀ i, i < os.length → Calls Try.prog f (#[spotV (os.getD i (0, 0))] ++ caps) w' fun e w'' => e = .returned (.bool (p (os.getD i (0, 0)))) ∧ w'.Ext w'') :
    Calls Try.prog 145 #[.slice a os.length c, .func (.func f) #[] caps] w fun e w' => e = .returned (.bool (os.any p)) ∧ w.Ext w' := by
  have HC := Lib.hid (containsFuncP_any a c f caps os p w hn hm he hf)
  clear hn hm he hf
  generalize os.any p = t at HC ⊢
  go_enter Try.func145, Try.ntmps145
  go_wp2_with fail
  refine HC.out.mono ?_
  rintro e w2 ⟨rfl, hx⟩
  go_wp2
  go_ret
  exact ⟨rfl, hx⟩
theorem enters_all1 : Enters 169 := enters_of Try.func169 (by kernel_rfl) (by kernel_rfl)
set_option maxHeartbeats 400000 in
theorem all_any (a : Option Addr) (c f : Nat) (caps : Array Value) (os : List (Int × Int)) (p : Int × Int → Bool) (w : World) (hn : os.length ≤ 1048576) (hm : RowP w a os) (he : Enters f)
    (hf : ∀ w', w.Ext w' → ∀ i, i < os.length → Calls Try.prog f (#[spotV (os.getD i (0, 0))] ++ caps) w' fun e w'' => e = .returned (.bool (p (os.getD i (0, 0)))) ∧ w'.Ext w'') :
    Calls Try.prog 95 #[.slice a os.length c, .func (.func f) #[] caps] w fun e w' => e = .returned (.bool (os.all p)) ∧ w.Ext w' := by
  have hx0 : w.Ext (w.alloc (.cells #[.func (.func f) #[] caps] 112)) := by simp
  have HC := Lib.hid (containsFuncP_any a c 169 #[.pointer (some ⟨w.heap.size, 0, none⟩)] os (fun q => !p q) (w.alloc (.cells #[.func (.func f) #[] caps] 112)) hn (hm.ext hx0) enters_all1 (fun w' hx i hi => by
    have hcell : w'.cell? ⟨w.heap.size, 0, none⟩ = some (.func (.func f) #[] caps) := hx.cell (by simp [go_sem])
    have hlt : w.heap.size < w'.heap.size := World.block_lt_of_cell? _ _ hcell
    have HC := Lib.hid (hf (w'.alloc (.cells #[.int .i64 (os.getD i (0, 0)).1, .int .i64 (os.getD i (0, 0)).2] 52)) ((hx0.trans hx).alloc _) i hi)
    generalize p (os.getD i (0, 0)) = t at HC ⊢
    generalize os.getD i (0, 0) = z at HC ⊢
    unfold spotV at HC ⊢
    unfold Enters at he
    clear hf hx hi hm hx0 hn
    go_enter Try.func169, Try.ntmps169
    go_wp2_with fail
    refine HC.out.mono ?_
    rintro e w2 ⟨rfl, hx⟩
    go_wp2
    go_ret
    exact ⟨rfl, .trans (by simp) hx⟩))
  have HA : Hid (os.all p = !os.any fun q => !p q) := by show _ = _; rw [List.not_any_eq_all_not]; simp
  clear hn hm he hf hx0
  generalize os.all p = t at HA ⊢
  generalize (os.any fun q => !p q) = s at HC HA
  go_enter Try.func95, Try.ntmps95
  go_wp2_with fail
  refine HC.out.mono ?_
  rintro e w2 ⟨rfl, hx⟩
  go_wp2
  go_ret
  exact ⟨ret_bool HA.out.symm, .trans (by simp) hx⟩
end Go.Proofs.Ytpploijlijnahaa
