/- What the laws do with slices of strings: their size, their copies, whether they are equal, marks. -/
import Derived.Test.YtpploijlijnahaaProg
import Derived.Test.YtpploijlijnahaaOwn
import Derived.Deep.QuietTactic
import Derived.BigQuiet
namespace Go.Proofs.Ytpploijlijnahaa
open Go.RowKit
/-- The digits of a number, ahead of others. -/
def digs : Nat → Nat → List UInt8 → List UInt8
  | 0, _, acc => acc
  | f + 1, k, acc => if k = 0 then acc else digs f (k / 10) (UInt8.ofNat (48 + k % 10) :: acc)
def markT (k : Nat) : ByteArray := if k = 0 then ⟨#[109, 48]⟩ else ⟨(109 :: digs k k []).toArray⟩
set_option maxRecDepth 20000 in
set_option maxHeartbeats 400000 in
theorem markText_any (k : Nat) (w : World) (hk : k ≤ 4194304) :
    Calls Try.prog 157 #[.int .i64 k] w fun e w' => e = .returned (.string (markT k)) ∧ w.Ext w' := by
  by_cases h0 : k = 0
  · subst h0
    go_enter Try.func157, Try.ntmps157
    go_wp2
    go_ret
    exact ⟨rfl, .refl _⟩
  · have hpos : 0 < (k : Int) := by omega
    have hm : k ≤ 4611686018427387904 := by omega
    have hnn : decide ((k : Int) ≤ 0) = false := by simp; omega
    clear hk
    go_enter Try.func157, Try.ntmps157
    go_wp2
    go_loopw [0, 3] (fun i s wr => ∃ (j f : Nat) (acc : List UInt8), i = .int .i64 j ∧ s = .string ⟨acc.toArray⟩ ∧ j ≤ f ∧ f + acc.length ≤ k ∧ Hid (digs k k [] = digs f j acc) ∧ w.Ext wr) (fun i _ _ => (intOf i).toNat)
    case atStart => exact ⟨k, k, [], rfl, rfl, Nat.le_refl _, Nat.le_refl _, rfl, .refl _⟩
    case round =>
      obtain ⟨j, f, acc, rfl, rfl, hj, hf, HD, hx⟩ := hrel
      by_cases hlt : 0 < j
      · have hcv := run_convert_bytes_arg (P := Try.prog) (wr.alloc (.cells #[.int .u8 (48 + (j : Int) % 10)] 5)) 45 5 Try.underlying45 Try.underlying5 wr.heap.size 0 1 1 [48 + (j : Int) % 10] rfl
          (by intro i hi; obtain rfl : i = 0 := by omega
              simp) 9 Try.underlying9
        have hsz : (strOfNums [48 + (j : Int) % 10]).size + acc.length ≤ 9223372036854775807 := by simp [strOfNums_size]; omega
        have hcat : strOfNums [48 + (j : Int) % 10] ++ ⟨acc.toArray⟩ = (⟨(UInt8.ofNat (48 + j % 10) :: acc).toArray⟩ : ByteArray) := by
          have e : (48 + (j : Int) % 10).toNat = 48 + j % 10 := by omega
          unfold strOfNums
          rw [ByteArray.mk_append_mk]
          simp [e]
        obtain ⟨f', rfl⟩ : ∃ f', f = f' + 1 := ⟨f - 1, by omega⟩
        have hd : digs k k [] = digs f' (j / 10) (UInt8.ofNat (48 + j % 10) :: acc) := by
          rw [HD.out, digs, if_neg (by omega)]
        have HC := Lib.hid hcat
        have HD2 := Lib.hid hd
        clear hcat hd
        go_wp2
        go_roundw
        case rel => exact ⟨j / 10, f', _, by go_num, congrArg Value.string HC.out, by omega, by simp; omega, HD2.out, hx.alloc _⟩
        case measure => simp [intOf]; omega
      · have : j = 0 := by omega
        subst this
        have hd : digs k k [] = acc := by
          rw [HD.out]
          cases f <;> simp [digs]
        have hcat : (⟨#[109]⟩ : ByteArray) ++ ⟨acc.toArray⟩ = markT k := by
          rw [markT, if_neg h0, hd]
          exact ByteArray.mk_append_mk [109] acc
        have HC := Lib.hid hcat
        have hsz : 1 + acc.length ≤ 9223372036854775807 := by omega
        clear hcat hd HD
        go_wp2
        go_ret
        exact ⟨congrArg (fun b => Ending.returned (.string b)) HC.out, hx⟩
theorem digs_len : ∀ (f k : Nat) (acc : List UInt8), (digs f k acc).length ≤ f + acc.length
  | 0, _, acc => by simp [digs]
  | f + 1, k, acc => by
    unfold digs
    split
    · omega
    · have := digs_len f (k / 10) (UInt8.ofNat (48 + k % 10) :: acc)
      rw [List.length_cons] at this
      omega
def marksS (k : Nat) (n : Nat) : List ByteArray := (List.range n).map fun i => markT (k + i)
theorem marksS_len (k n : Nat) : (marksS k n).length = n := by simp [marksS]
theorem marksS_at (k n i : Nat) (h : i < n) : (marksS k n).getD i ByteArray.empty = markT (k + i) := by simp [marksS, List.getD_eq_getElem?_getD, h]
set_option maxHeartbeats 400000 in
theorem eqStringS_any (a b : Option Addr) (c c' : Nat) (ss : List ByteArray) (w : World) (hn : ss.length ≤ maxLen) (ha : RowS w a ss) (hb : RowS w b ss) :
    Calls Try.prog 76 #[.slice a ss.length c, .slice b ss.length c'] w fun e w' => e = .returned (.bool true) ∧ w.Ext w' := by
  unfold maxLen at hn
  have HA := Lib.hid ha
  have HB := Lib.hid hb
  clear ha hb
  go_enter Try.func76, Try.ntmps76
  go_wp2
  go_loopw [5] (fun i wr => ∃ k : Nat, k ≤ ss.length ∧ i = .int .i64 k ∧ w.Ext wr) (fun i _ => ss.length - (intOf i).toNat)
  case atStart => exact ⟨0, Nat.zero_le _, rfl, .refl _⟩
  case round =>
    obtain ⟨k, hk, rfl, hx⟩ := hrel
    by_cases hlt : k < ss.length
    · obtain ⟨b1, o1, rfl, hc1⟩ := (RowOf.ext HA.out hx) k hlt
      obtain ⟨b2, o2, rfl, hc2⟩ := (RowOf.ext HB.out hx) k hlt
      have hk0 : (0 : Int) ≤ (k : Int) := by omega
      have hlt' : (k : Int) < (ss.length : Int) := by omega
      generalize ss.getD k ByteArray.empty = z at hc1 hc2
      go_wp2
      refine wp_region_over_lit (by kernel_rfl) (by kernel_rfl) ?_
      repeat (go_big_quiet_step (fail))
      refine wpQuiet_nil ?_
      rintro _ ⟨x1, rfl⟩
      go_wp2
      go_roundw
      case rel => exact ⟨k + 1, by omega, by go_num, hx.over _⟩
      case measure => simp [intOf]; omega
    · have : k = ss.length := by omega
      subst this
      go_wp2
      go_ret
      exact ⟨rfl, hx⟩
theorem markT_size (k : Nat) : (markT k).size ≤ k + 2 := by
  unfold markT
  split
  · show 2 ≤ _; omega
  · have := digs_len k k []
    simp [ByteArray.size] at *
    omega
set_option maxHeartbeats 400000 in
theorem markStringS_any (a : Option Addr) (c : Nat) (ss : List ByteArray) (k0 : Nat) (lo hi : Nat) (w : World) (hn : ss.length ≤ 1048576) (h1 : k0 ≤ 2097152) (ha : OwnOf Value.string ByteArray.empty lo hi w a ss) :
    Calls Try.prog 78 #[.slice a ss.length c, .int .i64 k0] w fun e w' => e = .returned (.int .i64 (k0 + ss.length : Nat)) ∧ Wrote (fun b => lo ≤ b ∧ b < hi) w w' ∧ OwnOf Value.string ByteArray.empty lo hi w' a (marksS k0 ss.length) := by
  have hh := HalfOf.start (mk := fun i => markT (k0 + i)) ha
  have hm : ss.length ≤ 4611686018427387904 := by omega
  generalize ss.length = n at *
  have hkn : k0 + n ≤ 4194304 := by omega
  have HKN := Lib.hid hkn
  have HH := Lib.hid hh
  clear ha hh hn h1 hkn
  have hb : k0 ≤ 4194304 := by have := HKN.out; omega
  go_enter Try.func78, Try.ntmps78
  go_wp2
  go_loopw [1, 5] (fun l i wr => ∃ k : Nat, k ≤ n ∧ i = .int .i64 k ∧ l = .int .i64 (k0 + k : Nat) ∧ Hid (Wrote (fun b => lo ≤ b ∧ b < hi) w wr ∧ HalfOf Value.string (fun i => markT (k0 + i)) lo hi wr a n k)) (fun _ i _ => n - (intOf i).toNat)
  case atStart => exact ⟨0, Nat.zero_le _, rfl, by simp, .refl _ _, HH.out⟩
  case round =>
    obtain ⟨k, hk, rfl, rfl, HW⟩ := hrel
    by_cases hlt : k < n
    · obtain ⟨b, o, v, rfl, h2, h3, h4, _, h6⟩ := HW.out.2 k hlt
      have hle : k0 + k ≤ 4194304 := by have := HKN.out; omega
      have hlt' : (k : Int) < (n : Int) := by omega
      have HLE := Lib.hid hle
      have hwx : ∀ x1, Wrote (fun b => lo ≤ b ∧ b < hi) w ((wr.over x1).setCell ⟨b, o + k, none⟩ (.string (markT (k0 + k)))) ∧ HalfOf Value.string (fun i => markT (k0 + i)) lo hi ((wr.over x1).setCell ⟨b, o + k, none⟩ (.string (markT (k0 + k)))) (some ⟨b, o, none⟩) n (k + 1) := by
        intro x1
        refine ⟨(HW.out.1.trans (World.Ext.wrote ⟨x1, rfl⟩ _)).setCell ⟨h2, h3⟩ _, ?_⟩
        have hx : wr.Ext (wr.over x1) := ⟨x1, rfl⟩
        have : HalfOf Value.string (fun i => markT (k0 + i)) lo hi (wr.over x1) (some ⟨b, o, none⟩) n k := fun i hi' => by
          obtain ⟨b', o', v', g1, g2, g3, g4, g5, g6⟩ := HW.out.2 i hi'
          exact ⟨b', o', v', g1, g2, g3, hx.cell g4, g5, by rw [hx.frozen g4]; exact g6⟩
        exact this.next hlt
      have h6x : ∀ x1 : World, (wr.over x1).frozen? ⟨b, o + k, none⟩ = false := fun x1 => by
        rw [World.Ext.frozen (w := wr) ⟨x1, rfl⟩ h4]; exact h6
      have HWX := Lib.hid hwx
      have HK1 : Hid (((k0 + k : Nat) : Int) + 1 = ((k0 + (k + 1) : Nat) : Int)) := by show _ = _; omega
      have hb1 : ((k0 + k : Nat) : Int) ≤ 4194304 := by omega
      have hb0 : (0 : Int) ≤ ((k0 + k : Nat) : Int) := by omega
      clear hwx hle
      generalize hq : k0 + k = q at *
      clear hq
      go_wp2_with (go_at_call 157; refine (markText_any q _ HLE.out).mono ?_; rintro e w' ⟨rfl, x1, rfl⟩)
      go_roundw
      case rel => exact ⟨k + 1, by omega, by go_num, congrArg (Value.int .i64) HK1.out, HWX.out _⟩
      case measure => simp [intOf]; omega
    · have : k = n := by omega
      subst this
      go_wp2
      go_ret
      exact ⟨rfl, HW.out.1, HW.out.2.done _⟩
set_option maxHeartbeats 400000 in
theorem heldStringS_any (a : Option Addr) (n c : Nat) (k0 : Nat) (w : World) (hn : n ≤ 1048576) (h1 : k0 ≤ 2097152) (ha : RowS w a (marksS k0 n)) :
    Calls Try.prog 80 #[.slice a n c, .int .i64 k0] w fun e w' => e = .returned (.int .i64 (k0 + n : Nat)) ∧ w.Ext w' := by
  have HA := Lib.hid ha
  have hm : n ≤ 4611686018427387904 := by omega
  have hkn : k0 + n ≤ 4194304 := by omega
  have HKN := Lib.hid hkn
  clear ha hn h1 hkn
  go_enter Try.func80, Try.ntmps80
  go_wp2
  go_loopw [1, 5] (fun l i wr => ∃ k : Nat, k ≤ n ∧ i = .int .i64 k ∧ l = .int .i64 (k0 + k : Nat) ∧ w.Ext wr) (fun _ i _ => n - (intOf i).toNat)
  case atStart => exact ⟨0, Nat.zero_le _, rfl, by simp, .refl _⟩
  case round =>
    obtain ⟨k, hk, rfl, rfl, hx⟩ := hrel
    by_cases hlt : k < n
    · obtain ⟨b, o, rfl, hc⟩ := (RowOf.ext HA.out hx) k (by rw [marksS_len]; exact hlt)
      rw [marksS_at _ _ _ hlt] at hc
      have hle : k0 + k ≤ 4194304 := by have := HKN.out; omega
      have HLE := Lib.hid hle
      have HK1 : Hid (((k0 + k : Nat) : Int) + 1 = ((k0 + (k + 1) : Nat) : Int)) := by show _ = _; omega
      have hb1 : ((k0 + k : Nat) : Int) ≤ 4194304 := by omega
      have hb0 : (0 : Int) ≤ ((k0 + k : Nat) : Int) := by omega
      have hlt' : (k : Int) < (n : Int) := by omega
      have hk0 : (0 : Int) ≤ (k : Int) := by omega
      clear hle
      generalize hq : k0 + k = q at *
      clear hq
      go_wp2
      refine wp_region_over_lit (by kernel_rfl) (by kernel_rfl) ?_
      repeat (go_big_quiet_step ((go_at_call 157; exact Calls.over_of (markText_any q _ HLE.out))))
      refine wpQuiet_nil ?_
      rintro _ ⟨x1, rfl⟩
      go_wp2
      go_roundw
      case rel => exact ⟨k + 1, by omega, by go_num, congrArg (Value.int .i64) HK1.out, hx.over _⟩
      case measure => simp [intOf]; omega
    · have : k = n := by omega
      subst this
      go_wp2
      go_ret
      exact ⟨rfl, hx⟩
end Go.Proofs.Ytpploijlijnahaa
