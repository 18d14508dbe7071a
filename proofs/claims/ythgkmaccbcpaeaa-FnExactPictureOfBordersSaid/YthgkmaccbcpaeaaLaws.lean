/- What the laws do with their arguments and results. -/
import Derived.Test.YthgkmaccbcpaeaaMem
import Derived.Test.YthgkmaccbcpaeaaProg
import Derived.Deep.QuietTactic
import Derived.BigQuiet
import Derived.Lib.SmallJoins
import Derived.Deep.Matrix
import Derived.Deep.Strs
import Derived.Deep.SlicePairs
namespace Go.Proofs.Ythgkmaccbcpaeaa
open Go.RowKit
theorem Try.infoI64 : (Try.prog.info? 2).map (fun i => (i.zero, i.size, i.bytes)) = some (some (.int .i64 0), 1, 8) := by kernel_rfl
theorem Try.infoRow : (Try.prog.info? 41).map (fun i => (i.zero, i.size, i.bytes)) = some (some (.slice none 0 0), 1, 24) := by kernel_rfl
def szS (left : Int) (n : Nat) : Int := if left - n < 0 then -1 else left - n
def szGo : Int → List Nat → Int
  | left, [] => left
  | left, n :: ns => if left - n < 0 then -1 else szGo (left - n) ns
def szSS (left : Int) (ns : List Nat) : Int := if left - ns.length < 0 then -1 else szGo (left - ns.length) ns
theorem szGo_neg (l : List Nat) : ∀ left : Int, left ≤ -1 → szGo left l ≤ -1 := by
  induction l with
  | nil => intro left h; exact h
  | cons n ns ih => intro left h; unfold szGo; rw [if_pos (by omega)]; omega
theorem szGo_le (l : List Nat) : ∀ left : Int, 0 ≤ szGo left l → szGo left l + (l.sum : Nat) ≤ left := by
  induction l with
  | nil => intro left _; simp [szGo]
  | cons n ns ih =>
    intro left h
    unfold szGo at h ⊢
    split at h
    · omega
    · rename_i hn
      rw [if_neg hn]
      have := ih _ h
      simp only [List.sum_cons] at *
      omega
def offM (m : List (List Int)) : Nat → Nat
  | 0 => 0
  | r + 1 => offM m r + (m.getD r []).length
theorem offM_mono (m : List (List Int)) (r s : Nat) (h : r ≤ s) : offM m r ≤ offM m s := by
  induction s with
  | zero => rw [Nat.le_zero.1 h]; exact Nat.le_refl _
  | succ s ih =>
    by_cases e : r = s + 1
    · rw [e]; exact Nat.le_refl _
    · have := ih (by omega); show offM m r ≤ offM m s + _; omega
theorem offM_cons (x : List Int) (m : List (List Int)) (r : Nat) : offM (x :: m) (r + 1) = x.length + offM m r := by
  induction r with
  | zero => simp [offM]
  | succ r ih => rw [offM, ih]; simp [offM]; omega
theorem offM_all (m : List (List Int)) : offM m m.length = (m.map List.length).sum := by
  induction m with
  | nil => rfl
  | cons x m ih => rw [List.length_cons, offM_cons, ih]; simp
def marksM (k0 : Int) (m : List (List Int)) : List (List Int) := (List.range m.length).map fun r => marksI (k0 + offM m r) (m.getD r []).length
theorem marksM_len (k0 : Int) (m : List (List Int)) : (marksM k0 m).length = m.length := by simp [marksM]
theorem marksM_at (k0 : Int) (m : List (List Int)) (r : Nat) (h : r < m.length) : (marksM k0 m).getD r [] = marksI (k0 + offM m r) (m.getD r []).length := by
  simp [marksM, List.getD_eq_getElem?_getD, h]
/-- Of which the first k rows are marks. -/
structure HalfM (k0 : Int) (lo hi : Nat) (w0 w : World) (a : Option Addr) (A : Nat → Option Addr) (C : Nat → Nat) (m : List (List Int)) (k : Nat) : Prop where
  wrote : Wrote (fun b => lo ≤ b ∧ b < hi) w0 w
  outer : ∀ r, r < m.length → ∃ b o, a = some ⟨b, o, none⟩ ∧ lo ≤ b ∧ b < hi ∧ w.cell? ⟨b, o + r, none⟩ = some (.slice (A r) (m.getD r []).length (C r)) ∧
    ∀ s b' o', s < m.length → A s = some ⟨b', o', none⟩ → b' ≠ b
  rows : ∀ r, r < m.length → if r < k then OwnOf (Value.int .i64) 0 lo hi w (A r) (marksI (k0 + offM m r) (m.getD r []).length) else OwnOf (Value.int .i64) 0 lo hi w (A r) (m.getD r [])
  apart : ∀ r s b o b' o', r < m.length → s < m.length → r ≠ s → A r = some ⟨b, o, none⟩ → A s = some ⟨b', o', none⟩ → b ≠ b'
theorem OwnOf.wroteAt {α : Type} {f : α → Value} {d : α} {lo hi : Nat} {w w' : World} {a : Option Addr} {xs : List α} {S : Nat → Prop} (h : OwnOf f d lo hi w a xs) (hx : Wrote S w w') (hs : ∀ b o, a = some ⟨b, o, none⟩ → ¬ S b) : OwnOf f d lo hi w' a xs :=
  fun i hi => let ⟨b, o, h1, h2, h2', h3, h4⟩ := h i hi; ⟨b, o, h1, h2, h2', hx.cell h3 (hs b o h1), by rw [hx.frozen h3 (hs b o h1)]; exact h4⟩
theorem HalfM.next {k0 : Int} {lo hi : Nat} {w0 w w' : World} {a : Option Addr} {A : Nat → Option Addr} {C : Nat → Nat} {m : List (List Int)} {k : Nat} (h : HalfM k0 lo hi w0 w a A C m k) (hk : k < m.length)
    (hw : Wrote (fun b => lo ≤ b ∧ b < hi ∧ ∃ o, A k = some ⟨b, o, none⟩) w w') (ho : OwnOf (Value.int .i64) 0 lo hi w' (A k) (marksI (k0 + offM m k) (m.getD k []).length)) : HalfM k0 lo hi w0 w' a A C m (k + 1) := by
  refine ⟨h.wrote.trans (hw.mono fun b _ hb => ⟨hb.1, hb.2.1⟩), fun r hr => ?_, fun r hr => ?_, h.apart⟩
  · obtain ⟨b, o, h1, h2, h3, h4, h5⟩ := h.outer r hr
    exact ⟨b, o, h1, h2, h3, hw.cell h4 (fun ⟨_, _, o', ho'⟩ => h5 k b o' hk ho' rfl), h5⟩
  · have hr0 := h.rows r hr
    by_cases e : r = k
    · subst e
      rw [if_pos (by omega)]
      exact ho
    · have hne : ∀ b o, A r = some ⟨b, o, none⟩ → ¬ (lo ≤ b ∧ b < hi ∧ ∃ o, A k = some ⟨b, o, none⟩) := fun b o hb ⟨_, _, o', hb'⟩ => h.apart r k b o b o' hr hk e hb hb' rfl
      by_cases e2 : r < k
      · rw [if_pos e2] at hr0
        rw [if_pos (by omega)]
        exact OwnOf.wroteAt hr0 hw hne
      · rw [if_neg e2] at hr0
        rw [if_neg (by omega)]
        exact OwnOf.wroteAt hr0 hw hne
theorem HalfM.done {k0 : Int} {lo hi : Nat} {w0 w : World} {a : Option Addr} {A : Nat → Option Addr} {C : Nat → Nat} {m : List (List Int)} (h : HalfM k0 lo hi w0 w a A C m m.length) : OwnMat lo hi w a A C (marksM k0 m) := by
  refine ⟨fun r hr => ?_, fun r hr => ?_, fun r s b o b' o' hr hs => ?_⟩
  · rw [marksM_len] at hr
    obtain ⟨b, o, h1, h2, h3, h4, h5⟩ := h.outer r hr
    refine ⟨b, o, h1, h2, h3, by rw [marksM_at _ _ _ hr, marksI_len]; exact h4, fun s b' o' hs => ?_⟩
    rw [marksM_len] at hs
    exact h5 s b' o' hs
  · rw [marksM_len] at hr
    rw [marksM_at _ _ _ hr]
    have := h.rows r hr
    rwa [if_pos hr] at this
  · rw [marksM_len] at hr hs
    exact h.apart r s b o b' o' hr hs
end Go.Proofs.Ythgkmaccbcpaeaa
namespace Go.Proofs.Ythgkmaccbcpaeaa
open Go.RowKit
/-- The digits of a number, ahead of others. -/
def digs : Nat → Nat → List UInt8 → List UInt8
  | 0, _, acc => acc
  | f + 1, k, acc => if k = 0 then acc else digs f (k / 10) (UInt8.ofNat (48 + k % 10) :: acc)
def markT (k : Nat) : ByteArray := if k = 0 then ⟨#[109, 48]⟩ else ⟨(109 :: digs k k []).toArray⟩
set_option maxRecDepth 20000 in
set_option maxHeartbeats 400000 in
theorem markText_any (k : Nat) (w : World) (hk : k ≤ 4194304) :
    Calls Try.prog 141 #[.int .i64 k] w fun e w' => e = .returned (.string (markT k)) ∧ w.Ext w' := by
  by_cases h0 : k = 0
  · subst h0
    go_enter Try.func141, Try.ntmps141
    go_wp2
    go_ret
    exact ⟨rfl, .refl _⟩
  · have hpos : 0 < (k : Int) := by omega
    have hm : k ≤ 4611686018427387904 := by omega
    have hnn : decide ((k : Int) ≤ 0) = false := by simp; omega
    clear hk
    go_enter Try.func141, Try.ntmps141
    go_wp2
    go_loopw [0, 3] (fun i s wr => ∃ (j f : Nat) (acc : List UInt8), i = .int .i64 j ∧ s = .string ⟨acc.toArray⟩ ∧ j ≤ f ∧ f + acc.length ≤ k ∧ Hid (digs k k [] = digs f j acc) ∧ w.Ext wr) (fun i _ _ => (intOf i).toNat)
    case atStart => exact ⟨k, k, [], rfl, rfl, Nat.le_refl _, Nat.le_refl _, rfl, .refl _⟩
    case round =>
      obtain ⟨j, f, acc, rfl, rfl, hj, hf, HD, hx⟩ := hrel
      by_cases hlt : 0 < j
      · have hcv := run_convert_bytes_arg (P := Try.prog) (wr.alloc (.cells #[.int .u8 (48 + (j : Int) % 10)] 5)) 22 5 Try.underlying22 Try.underlying5 wr.heap.size 0 1 1 [48 + (j : Int) % 10] rfl
          (by intro i hi; obtain rfl : i = 0 := by omega
              simp) 9 Try.underlying9
        have hsz : (strOfNums [48 + (j : Int) % 10]).size + acc.length ≤ 9223372036854775807 := by simp [strOfNums_size]; omega
        have hcat : strOfNums [48 + (j : Int) % 10] ++ ⟨acc.toArray⟩ = (⟨(UInt8.ofNat (48 + j % 10) :: acc).toArray⟩ : ByteArray) := by
          have e : (48 + (j : Int) % 10).toNat = 48 + j % 10 := by omega
          unfold strOfNums
          rw [ByteArray.mk_append_mk]
          simp [e]
        obtain ⟨f', rfl⟩ : ∃ f', f = f' + 1 := ⟨f - 1, by omega⟩
        have hd : digs k k [] = digs f' (j / 10) (UInt8.ofNat (48 + j % 10) :: acc) := by
          rw [HD.out, digs, if_neg (by omega)]
        have HC := Lib.hid hcat
        have HD2 := Lib.hid hd
        clear hcat hd
        go_wp2
        go_roundw
        case rel => exact ⟨j / 10, f', _, by go_num, congrArg Value.string HC.out, by omega, by simp; omega, HD2.out, hx.alloc _⟩
        case measure => simp [intOf]; omega
      · have : j = 0 := by omega
        subst this
        have hd : digs k k [] = acc := by
          rw [HD.out]
          cases f <;> simp [digs]
        have hcat : (⟨#[109]⟩ : ByteArray) ++ ⟨acc.toArray⟩ = markT k := by
          rw [markT, if_neg h0, hd]
          exact ByteArray.mk_append_mk [109] acc
        have HC := Lib.hid hcat
        have hsz : 1 + acc.length ≤ 9223372036854775807 := by omega
        clear hcat hd HD
        go_wp2
        go_ret
        exact ⟨congrArg (fun b => Ending.returned (.string b)) HC.out, hx⟩
theorem digs_len : ∀ (f k : Nat) (acc : List UInt8), (digs f k acc).length ≤ f + acc.length
  | 0, _, acc => by simp [digs]
  | f + 1, k, acc => by
    unfold digs
    split
    · omega
    · have := digs_len f (k / 10) (UInt8.ofNat (48 + k % 10) :: acc)
      rw [List.length_cons] at this
      omega
def marksS (k : Nat) (n : Nat) : List ByteArray := (List.range n).map fun i => markT (k + i)
theorem marksS_len (k n : Nat) : (marksS k n).length = n := by simp [marksS]
theorem marksS_at (k n i : Nat) (h : i < n) : (marksS k n).getD i ByteArray.empty = markT (k + i) := by simp [marksS, List.getD_eq_getElem?_getD, h]
set_option maxHeartbeats 400000 in
theorem eqStringS_any (a b : Option Addr) (c c' : Nat) (ss : List ByteArray) (w : World) (hn : ss.length ≤ maxLen) (ha : RowS w a ss) (hb : RowS w b ss) :
    Calls Try.prog 139 #[.slice a ss.length c, .slice b ss.length c'] w fun e w' => e = .returned (.bool true) ∧ w.Ext w' := by
  unfold maxLen at hn
  have HA := Lib.hid ha
  have HB := Lib.hid hb
  clear ha hb
  go_enter Try.func139, Try.ntmps139
  go_wp2
  go_loopw [5] (fun i wr => ∃ k : Nat, k ≤ ss.length ∧ i = .int .i64 k ∧ w.Ext wr) (fun i _ => ss.length - (intOf i).toNat)
  case atStart => exact ⟨0, Nat.zero_le _, rfl, .refl _⟩
  case round =>
    obtain ⟨k, hk, rfl, hx⟩ := hrel
    by_cases hlt : k < ss.length
    · obtain ⟨b1, o1, rfl, hc1⟩ := (RowOf.ext HA.out hx) k hlt
      obtain ⟨b2, o2, rfl, hc2⟩ := (RowOf.ext HB.out hx) k hlt
      have hk0 : (0 : Int) ≤ (k : Int) := by omega
      have hlt' : (k : Int) < (ss.length : Int) := by omega
      generalize ss.getD k ByteArray.empty = z at hc1 hc2
      go_wp2
      refine wp_region_over_lit (by kernel_rfl) (by kernel_rfl) ?_
      repeat (go_big_quiet_step (fail))
      refine wpQuiet_nil ?_
      rintro _ ⟨x1, rfl⟩
      go_wp2
      go_roundw
      case rel => exact ⟨k + 1, by omega, by go_num, hx.over _⟩
      case measure => simp [intOf]; omega
    · have : k = ss.length := by omega
      subst this
      go_wp2
      go_ret
      exact ⟨rfl, hx⟩
theorem markT_size (k : Nat) : (markT k).size ≤ k + 2 := by
  unfold markT
  split
  · show 2 ≤ _; omega
  · have := digs_len k k []
    simp [ByteArray.size] at *
    omega
set_option maxHeartbeats 400000 in
theorem markStringS_any (a : Option Addr) (c : Nat) (ss : List ByteArray) (k0 : Nat) (lo hi : Nat) (w : World) (hn : ss.length ≤ 1048576) (h1 : k0 ≤ 2097152) (ha : OwnOf Value.string ByteArray.empty lo hi w a ss) :
    Calls Try.prog 142 #[.slice a ss.length c, .int .i64 k0] w fun e w' => e = .returned (.int .i64 (k0 + ss.length : Nat)) ∧ Wrote (fun b => lo ≤ b ∧ b < hi) w w' ∧ OwnOf Value.string ByteArray.empty lo hi w' a (marksS k0 ss.length) := by
  have hh := HalfOf.start (mk := fun i => markT (k0 + i)) ha
  have hm : ss.length ≤ 4611686018427387904 := by omega
  generalize ss.length = n at *
  have hkn : k0 + n ≤ 4194304 := by omega
  have HKN := Lib.hid hkn
  have HH := Lib.hid hh
  clear ha hh hn h1 hkn
  have hb : k0 ≤ 4194304 := by have := HKN.out; omega
  go_enter Try.func142, Try.ntmps142
  go_wp2
  go_loopw [1, 5] (fun l i wr => ∃ k : Nat, k ≤ n ∧ i = .int .i64 k ∧ l = .int .i64 (k0 + k : Nat) ∧ Hid (Wrote (fun b => lo ≤ b ∧ b < hi) w wr ∧ HalfOf Value.string (fun i => markT (k0 + i)) lo hi wr a n k)) (fun _ i _ => n - (intOf i).toNat)
  case atStart => exact ⟨0, Nat.zero_le _, rfl, by simp, .refl _ _, HH.out⟩
  case round =>
    obtain ⟨k, hk, rfl, rfl, HW⟩ := hrel
    by_cases hlt : k < n
    · obtain ⟨b, o, v, rfl, h2, h3, h4, _, h6⟩ := HW.out.2 k hlt
      have hle : k0 + k ≤ 4194304 := by have := HKN.out; omega
      have hlt' : (k : Int) < (n : Int) := by omega
      have HLE := Lib.hid hle
      have hwx : ∀ x1, Wrote (fun b => lo ≤ b ∧ b < hi) w ((wr.over x1).setCell ⟨b, o + k, none⟩ (.string (markT (k0 + k)))) ∧ HalfOf Value.string (fun i => markT (k0 + i)) lo hi ((wr.over x1).setCell ⟨b, o + k, none⟩ (.string (markT (k0 + k)))) (some ⟨b, o, none⟩) n (k + 1) := by
        intro x1
        refine ⟨(HW.out.1.trans (World.Ext.wrote ⟨x1, rfl⟩ _)).setCell ⟨h2, h3⟩ _, ?_⟩
        have hx : wr.Ext (wr.over x1) := ⟨x1, rfl⟩
        have : HalfOf Value.string (fun i => markT (k0 + i)) lo hi (wr.over x1) (some ⟨b, o, none⟩) n k := fun i hi' => by
          obtain ⟨b', o', v', g1, g2, g3, g4, g5, g6⟩ := HW.out.2 i hi'
          exact ⟨b', o', v', g1, g2, g3, hx.cell g4, g5, by rw [hx.frozen g4]; exact g6⟩
        exact this.next hlt
      have h6x : ∀ x1 : World, (wr.over x1).frozen? ⟨b, o + k, none⟩ = false := fun x1 => by
        rw [World.Ext.frozen (w := wr) ⟨x1, rfl⟩ h4]; exact h6
      have HWX := Lib.hid hwx
      have HK1 : Hid (((k0 + k : Nat) : Int) + 1 = ((k0 + (k + 1) : Nat) : Int)) := by show _ = _; omega
      have hb1 : ((k0 + k : Nat) : Int) ≤ 4194304 := by omega
      have hb0 : (0 : Int) ≤ ((k0 + k : Nat) : Int) := by omega
      clear hwx hle
      generalize hq : k0 + k = q at *
      clear hq
      go_wp2_with (go_at_call 141; refine (markText_any q _ HLE.out).mono ?_; rintro e w' ⟨rfl, x1, rfl⟩)
      go_roundw
      case rel => exact ⟨k + 1, by omega, by go_num, congrArg (Value.int .i64) HK1.out, HWX.out _⟩
      case measure => simp [intOf]; omega
    · have : k = n := by omega
      subst this
      go_wp2
      go_ret
      exact ⟨rfl, HW.out.1, HW.out.2.done _⟩
set_option maxHeartbeats 400000 in
theorem heldStringS_any (a : Option Addr) (n c : Nat) (k0 : Nat) (w : World) (hn : n ≤ 1048576) (h1 : k0 ≤ 2097152) (ha : RowS w a (marksS k0 n)) :
    Calls Try.prog 143 #[.slice a n c, .int .i64 k0] w fun e w' => e = .returned (.int .i64 (k0 + n : Nat)) ∧ w.Ext w' := by
  have HA := Lib.hid ha
  have hm : n ≤ 4611686018427387904 := by omega
  have hkn : k0 + n ≤ 4194304 := by omega
  have HKN := Lib.hid hkn
  clear ha hn h1 hkn
  go_enter Try.func143, Try.ntmps143
  go_wp2
  go_loopw [1, 5] (fun l i wr => ∃ k : Nat, k ≤ n ∧ i = .int .i64 k ∧ l = .int .i64 (k0 + k : Nat) ∧ w.Ext wr) (fun _ i _ => n - (intOf i).toNat)
  case atStart => exact ⟨0, Nat.zero_le _, rfl, by simp, .refl _⟩
  case round =>
    obtain ⟨k, hk, rfl, rfl, hx⟩ := hrel
    by_cases hlt : k < n
    · obtain ⟨b, o, rfl, hc⟩ := (RowOf.ext HA.out hx) k (by rw [marksS_len]; exact hlt)
      rw [marksS_at _ _ _ hlt] at hc
      have hle : k0 + k ≤ 4194304 := by have := HKN.out; omega
      have HLE := Lib.hid hle
      have HK1 : Hid (((k0 + k : Nat) : Int) + 1 = ((k0 + (k + 1) : Nat) : Int)) := by show _ = _; omega
      have hb1 : ((k0 + k : Nat) : Int) ≤ 4194304 := by omega
      have hb0 : (0 : Int) ≤ ((k0 + k : Nat) : Int) := by omega
      have hlt' : (k : Int) < (n : Int) := by omega
      have hk0 : (0 : Int) ≤ (k : Int) := by omega
      clear hle
      generalize hq : k0 + k = q at *
      clear hq
      go_wp2
      refine wp_region_over_lit (by kernel_rfl) (by kernel_rfl) ?_
      repeat (go_big_quiet_step ((go_at_call 141; exact Calls.over_of (markText_any q _ HLE.out))))
      refine wpQuiet_nil ?_
      rintro _ ⟨x1, rfl⟩
      go_wp2
      go_roundw
      case rel => exact ⟨k + 1, by omega, by go_num, congrArg (Value.int .i64) HK1.out, hx.over _⟩
      case measure => simp [intOf]; omega
    · have : k = n := by omega
      subst this
      go_wp2
      go_ret
      exact ⟨rfl, hx⟩
end Go.Proofs.Ythgkmaccbcpaeaa
namespace Go.Proofs.Ythgkmaccbcpaeaa
open Go.RowKit
set_option maxHeartbeats 400000 in
theorem eqPicture_any (a b : Option Addr) (c c' : Nat) (ss : List ByteArray) (w : World) (hn : ss.length ≤ maxLen) (ha : RowS w a ss) (hb : RowS w b ss) :
    Calls Try.prog 52 #[.agg #[.slice a ss.length c], .agg #[.slice b ss.length c']] w fun e w' => e = .returned (.bool true) ∧ w.Ext w' := by
  have HA := Lib.hid ha
  have HB := Lib.hid hb
  have HN := Lib.hid hn
  clear ha hb hn
  go_enter Try.func52, Try.ntmps52
  go_wp2_with (go_at_call 139; refine (eqStringS_any _ _ _ _ ss _ HN.out (RowOf.ext HA.out (by repeat (first | exact World.Ext.refl _ | exact ⟨_, rfl⟩ | assumption | refine World.Ext.over ?_ _ | refine World.Ext.drewN ?_ _ | refine World.Ext.drew ?_ | refine World.Ext.alloc ?_ _ | refine World.Ext.setCell ?_ (by simp) _))) (RowOf.ext HB.out (by repeat (first | exact World.Ext.refl _ | exact ⟨_, rfl⟩ | assumption | refine World.Ext.over ?_ _ | refine World.Ext.drewN ?_ _ | refine World.Ext.drew ?_ | refine World.Ext.alloc ?_ _ | refine World.Ext.setCell ?_ (by simp) _)))).mono ?_; rintro e w' ⟨rfl, x1, rfl⟩)
  go_ret
  refine ⟨rfl, ?_⟩
  repeat (first | exact World.Ext.refl _ | exact ⟨_, rfl⟩ | assumption | refine World.Ext.over ?_ _ | refine World.Ext.drewN ?_ _ | refine World.Ext.drew ?_ | refine World.Ext.alloc ?_ _ | refine World.Ext.setCell ?_ (by simp) _)
set_option maxHeartbeats 400000 in
theorem markPicture_any (a : Option Addr) (c : Nat) (ss : List ByteArray) (k0 : Nat) (lo hi : Nat) (w : World) (hn : ss.length ≤ 1048576) (h1 : k0 ≤ 2097152) (ha : OwnOf Value.string ByteArray.empty lo hi w a ss) :
    Calls Try.prog 55 #[.agg #[.slice a ss.length c], .int .i64 k0] w fun e w' => e = .returned (.int .i64 (k0 + ss.length : Nat)) ∧ Wrote (fun b => lo ≤ b ∧ b < hi) w w' ∧ OwnOf Value.string ByteArray.empty lo hi w' a (marksS k0 ss.length) := by
  have HA := Lib.hid ha
  have HN := Lib.hid hn
  have H1 := Lib.hid h1
  clear ha hn h1
  go_enter Try.func55, Try.ntmps55
  go_wp2_with fail
  refine (markStringS_any _ _ ss _ lo hi _ HN.out H1.out (HA.out.ext (by repeat (first | exact World.Ext.refl _ | exact ⟨_, rfl⟩ | assumption | refine World.Ext.over ?_ _ | refine World.Ext.drewN ?_ _ | refine World.Ext.drew ?_ | refine World.Ext.alloc ?_ _ | refine World.Ext.setCell ?_ (by simp) _)))).mono ?_
  rintro e w1 ⟨rfl, hw1, ho1⟩
  have HW := Lib.hid hw1
  have HO := Lib.hid ho1
  clear hw1 ho1
  go_wp2
  go_ret
  exact ⟨rfl, (World.Ext.wrote (by repeat (first | exact World.Ext.refl _ | exact ⟨_, rfl⟩ | assumption | refine World.Ext.over ?_ _ | refine World.Ext.drewN ?_ _ | refine World.Ext.drew ?_ | refine World.Ext.alloc ?_ _ | refine World.Ext.setCell ?_ (by simp) _)) _).trans HW.out, HO.out⟩
set_option maxHeartbeats 400000 in
theorem heldPicture_any (a : Option Addr) (n c : Nat) (k0 : Nat) (w : World) (hn : n ≤ 1048576) (h1 : k0 ≤ 2097152) (ha : RowS w a (marksS k0 n)) :
    Calls Try.prog 56 #[.agg #[.slice a n c], .int .i64 k0] w fun e w' => e = .returned (.int .i64 (k0 + n : Nat)) ∧ w.Ext w' := by
  have HA := Lib.hid ha
  have HN := Lib.hid hn
  have H1 := Lib.hid h1
  clear ha hn h1
  have hnn : (0 : Int) ≤ ((k0 + n : Nat) : Int) := by omega
  generalize hz : k0 + n = z at *
  have HZ := Lib.hid hz
  clear hz
  go_enter Try.func56, Try.ntmps56
  go_wp2_with (go_at_call 143; refine (heldStringS_any _ n _ k0 _ HN.out H1.out (RowOf.ext HA.out (by repeat (first | exact World.Ext.refl _ | exact ⟨_, rfl⟩ | assumption | refine World.Ext.over ?_ _ | refine World.Ext.drewN ?_ _ | refine World.Ext.drew ?_ | refine World.Ext.alloc ?_ _ | refine World.Ext.setCell ?_ (by simp) _)))).mono ?_; rintro e w' ⟨rfl, x1, rfl⟩; rw [HZ.out])
  go_ret
  refine ⟨rfl, ?_⟩
  repeat (first | exact World.Ext.refl _ | exact ⟨_, rfl⟩ | assumption | refine World.Ext.over ?_ _ | refine World.Ext.drewN ?_ _ | refine World.Ext.drew ?_ | refine World.Ext.alloc ?_ _ | refine World.Ext.setCell ?_ (by simp) _)
end Go.Proofs.Ythgkmaccbcpaeaa
namespace Go.Proofs.Ythgkmaccbcpaeaa
open Go.RowKit
def PicLen (s : List ByteArray) : Prop := s.length ≤ maxLen ∧ ∀ r, (s.getD r ByteArray.empty).size ≤ maxLen
def PicBnd (s : List ByteArray) : Prop := s.length ≤ 1048576 ∧ ∀ r, (s.getD r ByteArray.empty).size ≤ 1048576
def MatLen (m : List (List Int)) : Prop := m.length ≤ maxLen ∧ ∀ r, (m.getD r []).length ≤ maxLen
def MatBnd (m : List (List Int)) : Prop := m.length ≤ 1048576 ∧ ∀ r, (m.getD r []).length ≤ 1048576
def IntsLen (s : List Int) : Prop := s.length ≤ maxLen
def IntsBnd (s : List Int) : Prop := s.length ≤ 1048576
section
variable {w0 w w' : World} {a b c d f g : Addr} {v1 v2 v3 v4 v5 v6 : Value}
theorem keepR1 (h : w.cell? a = some v1 ∧ w0.Ext w) (hx : w.Ext w') : w'.cell? a = some v1 ∧ w0.Ext w' := ⟨hx.cell h.1, h.2.trans hx⟩
theorem keepR2 (h : w.cell? a = some v1 ∧ w.cell? b = some v2 ∧ w0.Ext w) (hx : w.Ext w') : w'.cell? a = some v1 ∧ w'.cell? b = some v2 ∧ w0.Ext w' := ⟨hx.cell h.1, hx.cell h.2.1, h.2.2.trans hx⟩
theorem keepR3 (h : w.cell? a = some v1 ∧ w.cell? b = some v2 ∧ w.cell? c = some v3 ∧ w0.Ext w) (hx : w.Ext w') : w'.cell? a = some v1 ∧ w'.cell? b = some v2 ∧ w'.cell? c = some v3 ∧ w0.Ext w' :=
  ⟨hx.cell h.1, hx.cell h.2.1, hx.cell h.2.2.1, h.2.2.2.trans hx⟩
theorem keepR4 (h : w.cell? a = some v1 ∧ w.cell? b = some v2 ∧ w.cell? c = some v3 ∧ w.cell? d = some v4 ∧ w0.Ext w) (hx : w.Ext w') : w'.cell? a = some v1 ∧ w'.cell? b = some v2 ∧ w'.cell? c = some v3 ∧ w'.cell? d = some v4 ∧ w0.Ext w' :=
  ⟨hx.cell h.1, hx.cell h.2.1, hx.cell h.2.2.1, hx.cell h.2.2.2.1, h.2.2.2.2.trans hx⟩
end
theorem RowS.ext {w w' : World} {a : Option Addr} {s : List ByteArray} (h : RowS w a s) (hx : w.Ext w') : RowS w' a s := RowOf.ext h hx
theorem RowI.ext {w w' : World} {a : Option Addr} {s : List Int} (h : RowI w a s) (hx : w.Ext w') : RowI w' a s := RowOf.ext h hx
theorem newCell1 {w w' : World} {v : Value} {T : TypeId} (h : (w.alloc (.cells #[v] T)).Ext w') : w'.cell? ⟨w.heap.size, 0, none⟩ = some v ∧ w'.frozen? ⟨w.heap.size, 0, none⟩ = false :=
  ⟨h.cell (by simp [go_sem]), h.free (v := v) (by simp [go_sem]) (by simp [go_sem])⟩
theorem newCellD {w w' : World} {v : Value} {T : TypeId} (h : (w.alloc (.cells #[v] T)).drew.Ext w') : w'.cell? ⟨w.heap.size, 0, none⟩ = some v ∧ w'.frozen? ⟨w.heap.size, 0, none⟩ = false := newCell1 (((World.Ext.refl _).drew).trans h)
theorem oldCell1 {w w' : World} {a : Addr} {v : Value} (h : w.cell? a = some v ∧ w.frozen? a = false) (hx : w.Ext w') : w'.cell? a = some v ∧ w'.frozen? a = false := ⟨hx.cell h.1, hx.free h.1 h.2⟩
theorem le_sum_of_mem : ∀ (l : List Nat) (x : Nat), x ∈ l → x ≤ l.sum
  | [], x, h => by cases h
  | y :: l, x, h => by
    rw [List.sum_cons]
    rcases List.mem_cons.1 h with rfl | h
    · omega
    · have := le_sum_of_mem l x h
      omega
theorem szSS_le {left z : Int} {ns : List Nat} (h : szSS left ns = z) (h0 : 0 ≤ z) : z + ns.length + (ns.sum : Nat) ≤ left ∧ ∀ n ∈ ns, (n : Int) ≤ left := by
  unfold szSS at h
  split at h
  · omega
  · have h1 := szGo_le ns (left - ns.length) (by rw [h]; exact h0)
    rw [h] at h1
    refine ⟨by omega, fun n hn => ?_⟩
    have := le_sum_of_mem ns n hn
    omega
theorem szSS_hi {left : Int} (hl : 0 ≤ left) : ∀ ns : List Nat, szSS left ns ≤ left := fun ns => by
  by_cases h : 0 ≤ szSS left ns
  · have := (szSS_le rfl h).1
    omega
  · omega
theorem eqPicture_ok (a b : Option Addr) (c c' : Nat) (s : List ByteArray) (w : World) (hn : PicBnd s) (ha : RowS w a s) (hb : RowS w b s) :
    Calls Try.prog 52 #[.agg #[.slice a s.length c], .agg #[.slice b s.length c']] w fun e w' => e = .returned (.bool true) ∧ w.Ext w' :=
  eqPicture_any a b c c' s w (Nat.le_trans hn.1 (by unfold maxLen; omega)) ha hb
theorem eqPicture_res (a b : Option Addr) (c c' : Nat) (s : List ByteArray) (w : World) (hn : s.length ≤ 1048576) (ha : RowS w a s) (hb : RowS w b s) :
    Calls Try.prog 52 #[.agg #[.slice a s.length c], .agg #[.slice b s.length c']] w fun e w' => e = .returned (.bool true) ∧ w.Ext w' :=
  eqPicture_any a b c c' s w (Nat.le_trans hn (by unfold maxLen; omega)) ha hb
theorem markPicture_ok (a : Option Addr) (c : Nat) (s : List ByteArray) (k0 lo hi : Nat) (w : World) (hn : PicBnd s) (h1 : k0 ≤ 2097152 ∧ s.length ≤ 1048576) (ha : OwnOf Value.string ByteArray.empty lo hi w a s) :
    Calls Try.prog 55 #[.agg #[.slice a s.length c], .int .i64 k0] w fun e w' => e = .returned (.int .i64 (k0 + s.length : Nat)) ∧ Wrote (fun b => lo ≤ b ∧ b < hi) w w' ∧ OwnOf Value.string ByteArray.empty lo hi w' a (marksS k0 s.length) :=
  markPicture_any a c s k0 lo hi w hn.1 h1.1 ha
theorem markPicture_res (a : Option Addr) (c : Nat) (s : List ByteArray) (k0 lo hi : Nat) (w : World) (hn : s.length ≤ 1048576) (h1 : k0 ≤ 2097152 ∧ s.length ≤ 1048576) (ha : OwnOf Value.string ByteArray.empty lo hi w a s) :
    Calls Try.prog 55 #[.agg #[.slice a s.length c], .int .i64 k0] w fun e w' => e = .returned (.int .i64 (k0 + s.length : Nat)) ∧ Wrote (fun b => lo ≤ b ∧ b < hi) w w' ∧ OwnOf Value.string ByteArray.empty lo hi w' a (marksS k0 s.length) :=
  markPicture_any a c s k0 lo hi w hn h1.1 ha
theorem heldPicture_res (a : Option Addr) (c : Nat) (s : List ByteArray) (k0 : Nat) (w : World) (hn : s.length ≤ 1048576) (h1 : k0 ≤ 2097152 ∧ s.length ≤ 1048576) (ha : RowS w a (marksS k0 s.length)) :
    Calls Try.prog 56 #[.agg #[.slice a s.length c], .int .i64 k0] w fun e w' => e = .returned (.int .i64 (k0 + s.length : Nat)) ∧ w.Ext w' :=
  heldPicture_any a s.length c k0 w hn h1.1 ha
end Go.Proofs.Ythgkmaccbcpaeaa
namespace Go.Proofs.Ythgkmaccbcpaeaa
open Go.RowKit
/-- Pairs as the integers in their order. -/
def flatP : List (Int × Int) → List Int
  | [] => []
  | p :: ps => p.1 :: p.2 :: flatP ps
theorem flatP_len : ∀ ps : List (Int × Int), (flatP ps).length = 2 * ps.length
  | [] => rfl
  | p :: ps => by simp [flatP, flatP_len ps]; omega
theorem flatP_fst : ∀ (ps : List (Int × Int)) (i : Nat), (flatP ps).getD (2 * i) 0 = (ps.getD i (0, 0)).1
  | [], i => by simp [flatP]
  | p :: ps, 0 => by simp [flatP]
  | p :: ps, i + 1 => by
    have := flatP_fst ps i
    rw [show 2 * (i + 1) = 2 * i + 1 + 1 by omega]
    simpa [flatP] using this
theorem flatP_snd : ∀ (ps : List (Int × Int)) (i : Nat), (flatP ps).getD (2 * i + 1) 0 = (ps.getD i (0, 0)).2
  | [], i => by simp [flatP]
  | p :: ps, 0 => by simp [flatP]
  | p :: ps, i + 1 => by
    have := flatP_snd ps i
    rw [show 2 * (i + 1) + 1 = 2 * i + 1 + 1 + 1 by omega]
    simpa [flatP] using this
def RowP (w : World) (a : Option Addr) (ps : List (Int × Int)) : Prop := RowOf (Value.int .i64) 0 w a (flatP ps)
def OwnP (lo hi : Nat) (w : World) (a : Option Addr) (ps : List (Int × Int)) : Prop := OwnOf (Value.int .i64) 0 lo hi w a (flatP ps)
def PairLen (s : List (Int × Int)) : Prop := s.length ≤ maxLen
def PairBnd (s : List (Int × Int)) : Prop := s.length ≤ 1048576
section
variable {w w' : World} {a : Option Addr} {ps : List (Int × Int)} {lo hi lo' hi' : Nat}
theorem RowP.ext (h : RowP w a ps) (hx : w.Ext w') : RowP w' a ps := RowOf.ext h hx
theorem OwnP.ext (h : OwnP lo hi w a ps) (hx : w.Ext w') : OwnP lo hi w' a ps := OwnOf.ext h hx
theorem OwnP.row (h : OwnP lo hi w a ps) : RowP w a ps := OwnOf.row h
theorem OwnP.mono (h : OwnP lo hi w a ps) (hl : lo' ≤ lo) (hh : hi ≤ hi') : OwnP lo' hi' w a ps := OwnOf.mono h hl hh
theorem OwnP.wrote {S : Nat → Prop} (h : OwnP lo hi w a ps) (hx : Wrote S w w') (hs : ∀ k, lo ≤ k → k < hi → ¬ S k) : OwnP lo hi w' a ps := OwnOf.wrote h hx hs
theorem RowP.at (h : RowP w a ps) {i : Nat} (hi : i < ps.length) : ∃ b o, a = some ⟨b, o, none⟩ ∧ w.cell? ⟨b, o + i * 2, none⟩ = some (.int .i64 (ps.getD i (0, 0)).1) ∧ w.cell? ⟨b, o + i * 2 + 1, none⟩ = some (.int .i64 (ps.getD i (0, 0)).2) := by
  have hl := flatP_len ps
  obtain ⟨b, o, e, h1⟩ := h (2 * i) (by omega)
  obtain ⟨b', o', e', h2⟩ := h (2 * i + 1) (by omega)
  rw [e] at e'
  cases e'
  rw [flatP_fst] at h1
  rw [flatP_snd] at h2
  exact ⟨b, o, e, by rw [Nat.mul_comm i 2]; exact h1, by rw [Nat.mul_comm i 2, Nat.add_assoc]; exact h2⟩
end
set_option maxHeartbeats 400000 in
theorem toSpotP_any (x y : Int) (w : World) :
    Calls Try.prog 203 #[.agg #[.int .i64 x, .int .i64 y]] w fun e w' => e = .returned (.agg #[.int .i64 x, .int .i64 y]) ∧ w.Ext w' := by
  go_enter Try.func203, Try.ntmps203
  go_wp2
  refine bodyPost_ret (v := .agg #[.int .i64 x, .int .i64 y]) (by simp [results, Try.results203, go_sem]) rfl ⟨rfl, ?_⟩
  repeat (first | exact World.Ext.refl _ | exact ⟨_, rfl⟩ | assumption | refine World.Ext.over ?_ _ | refine World.Ext.drewN ?_ _ | refine World.Ext.drew ?_ | refine World.Ext.alloc ?_ _ | refine World.Ext.setCell ?_ (by simp) _)
set_option maxHeartbeats 400000 in
theorem eqSpotP_any (x y : Int) (w : World) :
    Calls Try.prog 204 #[.agg #[.int .i64 x, .int .i64 y], .agg #[.int .i64 x, .int .i64 y]] w fun e w' => e = .returned (.bool true) ∧ w.Ext w' := by
  go_enter Try.func204, Try.ntmps204
  go_wp2
  go_ret
  refine ⟨rfl, ?_⟩
  repeat (first | exact World.Ext.refl _ | exact ⟨_, rfl⟩ | assumption | refine World.Ext.over ?_ _ | refine World.Ext.drewN ?_ _ | refine World.Ext.drew ?_ | refine World.Ext.alloc ?_ _ | refine World.Ext.setCell ?_ (by simp) _)
end Go.Proofs.Ythgkmaccbcpaeaa
namespace Go.Proofs.Ythgkmaccbcpaeaa
open Go.ChangeShapes Go.WideShapes Go.RowKit Go.Deep Go.Joins
section
variable {H : Type} {enc : TypeId × Value → H} {P : Program} {w : World} {base : Nat} {spare : Nat → Bool} {held : Bool}
theorem spot_none {a : Addr} {v : Value} (h : w.cell? (a.add 0) = some v) : ∃ b o, a = ⟨b, o, none⟩ := by
  obtain ⟨b, o, spot⟩ := a
  have hspot : spot = none := by simpa [Addr.add] using World.cell?_spot h
  subst hspot
  exact ⟨b, o, rfl⟩
theorem add_at (b o i : Nat) : (⟨b, o, none⟩ : Addr).add i = ⟨b, o + i, none⟩ := by
  unfold Addr.add
  by_cases h : i = 0
  · simp [h]
  · simp [h]
theorem open_agg1 {r : Reach} {b0 : Nat} {t : TypeId} {f0 : Field} {v : Value} {d : DataW H} {p : List MemPlace} (hs : P.underlying t = some (.struct #[f0])) (hone : oneCellFields P #[f0] = true) (hC : P.cellsOf t = 1)
    (hv : Value.okWide P w r b0 t v) (h : DataW.Trod enc P w base spare held t v d p) :
    ∃ (v0 : Value) (y0 : DataW H × List MemPlace) (n : Nat), v = .agg #[v0] ∧ DataW.trod enc P w base spare held n f0.type [v0] = some y0 := by
  obtain ⟨cs, rfl, hsz⟩ := okWide_struct hs hv
  obtain ⟨c0, rfl⟩ : ∃ c0, cs = #[c0] := by
    have : cs.size = 1 := hsz.trans hC
    rcases cs with ⟨l⟩
    match l, this with
    | [c0], _ => exact ⟨c0, rfl⟩
  obtain ⟨fuel, hf⟩ := h
  obtain ⟨y0, n, _, _, h0⟩ := trod_struct1 hs hf
  obtain ⟨o0, k0⟩ := hone_of hone 0 f0 rfl
  exact ⟨c0, y0, n, rfl, by simpa [Value.cells, o0, k0] using h0⟩
theorem open_rows {t e q : TypeId} {fuel : Nat} {v0 : Value} {x : DataW H × List MemPlace} (ht : P.underlying t = some (.slice e)) (he : P.underlying e = some (.slice q)) (hq : P.underlying q = some (.int .i64))
    (ce : P.cellsOf e = 1) (cq : P.cellsOf q = 1) (h : DataW.trod enc P w base (fun _ => true) held fuel t [v0] = some x) :
    ∃ (a : Option Addr) (c : Nat) (A : Nat → Option Addr) (C : Nat → Nat) (m : List (List Int)), v0 = .slice a m.length c ∧ MatAt w a A C m ∧ m.length ≤ maxLen ∧ ∀ r, (m.getD r []).length ≤ maxLen := by
  rcases open_int_rows ht he hq ce cq h with ⟨h0, _⟩ | ⟨a, len, cap, A, L, C, Z, h0, _, hl, hm, _, hx⟩
  · exact ⟨none, 0, fun _ => none, fun _ => 0, [], by simpa using h0, fun r hr => by simp at hr, by simp, fun r => by simp⟩
  have hv0 : v0 = .slice (some a) len cap := by simpa using h0
  refine ⟨some a, cap, A, C, (List.range len).map fun r => (Z r).take (L r), by simpa using hv0, fun r hr => ?_, by simp; omega, fun r => ?_⟩
  · have hr' : r < len := by simpa using hr
    obtain ⟨q1, q2, q3, q4, _, q6, q7⟩ := hx r (by omega)
    have hg : ((List.range len).map fun r => (Z r).take (L r)).getD r [] = (Z r).take (L r) := by simp [List.getD_eq_getElem?_getD, hr']
    have hgl : ((Z r).take (L r)).length = L r := by simp; omega
    rw [hg]
    obtain ⟨b, o, rfl⟩ := spot_none (hx 0 (by omega)).1
    rw [add_at] at q1
    refine ⟨⟨b, o, rfl, by rw [hgl]; exact q1⟩, fun i hi => ?_⟩
    rw [hgl] at hi
    cases hA : A r with
    | none => have := q6 hA; omega
    | some a' =>
      obtain ⟨_, h7⟩ := q7 a' hA
      obtain ⟨b', o', rfl⟩ := spot_none (h7 0 (by omega))
      refine ⟨b', o', rfl, ?_⟩
      have := h7 i (by omega)
      rw [add_at] at this
      rw [this]
      have e : ((Z r).take (L r)).getD i 0 = (Z r).getD i 0 := by simp [List.getD_eq_getElem?_getD, hi]
      rw [e]
  · by_cases hr : r < len
    · obtain ⟨_, q2, q3, q4, _⟩ := hx r (by omega)
      simp [List.getD_eq_getElem?_getD, hr]; omega
    · simp [List.getD_eq_getElem?_getD, hr]
theorem open_texts {t e : TypeId} {fuel : Nat} {v0 : Value} {x : DataW H × List MemPlace} (ht : P.underlying t = some (.slice e)) (he : P.underlying e = some .string) (hc : P.cellsOf e = 1)
    (h : DataW.trod enc P w base (fun _ => true) held fuel t [v0] = some x) :
    ∃ (a : Option Addr) (c : Nat) (ss : List ByteArray), v0 = .slice a ss.length c ∧ RowS w a ss ∧ ss.length ≤ maxLen ∧ ∀ r, (ss.getD r ByteArray.empty).size ≤ maxLen := by
  rcases open_strs ht he hc h with ⟨h0, _⟩ | ⟨a, len, cap, m, S, h0, _, hl, hm, hmm, _, hx⟩
  · exact ⟨none, 0, [], by simpa using h0, fun r hr => by simp at hr, by simp, fun r => by simp⟩
  simp only [if_true] at hmm
  subst hmm
  have hv0 : v0 = .slice (some a) len m := by simpa using h0
  refine ⟨some a, m, (List.range len).map S, by simpa using hv0, fun r hr => ?_, by simp; omega, fun r => ?_⟩
  · have hr' : r < len := by simpa using hr
    obtain ⟨q1, q2⟩ := hx r (by omega)
    obtain ⟨b, o, rfl⟩ := spot_none (hx 0 (by omega)).1
    rw [add_at] at q1
    exact ⟨b, o, rfl, by rw [q1]; simp [List.getD_eq_getElem?_getD, hr']⟩
  · by_cases hr : r < len
    · have := (hx r (by omega)).2
      simpa [List.getD_eq_getElem?_getD, hr] using this
    · simp [List.getD_eq_getElem?_getD, hr]
end
end Go.Proofs.Ythgkmaccbcpaeaa
namespace Go.Proofs.Ythgkmaccbcpaeaa
open Go.ChangeShapes Go.WideShapes Go.RowKit Go.Deep Go.Joins
section
variable {H : Type} {enc : TypeId × Value → H} {P : Program} {w : World} {base : Nat} {spare : Nat → Bool} {held : Bool}
def intOfV : Value → Int
  | .int _ z => z
  | _ => 0
theorem RowP.of_at {w : World} {a : Option Addr} {ps : List (Int × Int)} (h : ∀ i, i < ps.length → ∃ b o, a = some ⟨b, o, none⟩ ∧ w.cell? ⟨b, o + i * 2, none⟩ = some (.int .i64 (ps.getD i (0, 0)).1) ∧ w.cell? ⟨b, o + i * 2 + 1, none⟩ = some (.int .i64 (ps.getD i (0, 0)).2)) : RowP w a ps := by
  intro k hk
  rw [flatP_len] at hk
  obtain ⟨b, o, e, h1, h2⟩ := h (k / 2) (by omega)
  rcases Nat.mod_two_eq_zero_or_one k with hm | hm
  · have ek : k = 2 * (k / 2) := by omega
    refine ⟨b, o, e, ?_⟩
    have e2 : (flatP ps).getD k 0 = (ps.getD (k / 2) (0, 0)).1 := by rw [ek, flatP_fst, ← ek]
    rw [e2, ← h1]
    congr 2
    omega
  · have ek : k = 2 * (k / 2) + 1 := by omega
    refine ⟨b, o, e, ?_⟩
    have e2 : (flatP ps).getD k 0 = (ps.getD (k / 2) (0, 0)).2 := by
      have := flatP_snd ps (k / 2)
      rw [← ek] at this
      exact this
    rw [e2, ← h2]
    congr 2
    omega
theorem open_pairs {t e q : TypeId} {f0 f1 : Field} {fuel : Nat} {v0 : Value} {x : DataW H × List MemPlace} (ht : P.underlying t = some (.slice e)) (he : P.underlying e = some (.struct #[f0, f1])) (t0 : f0.type = q) (t1 : f1.type = q) (hq : P.underlying q = some (.int .i64))
    (ce : P.cellsOf e = 2) (o0 : f0.offset = 0) (o1 : f1.offset = 1) (cq : P.cellsOf q = 1) (h : DataW.trod enc P w base (fun _ => true) held fuel t [v0] = some x) :
    ∃ (a : Option Addr) (c : Nat) (ss : List (Int × Int)), v0 = .slice a ss.length c ∧ RowP w a ss ∧ ss.length ≤ maxLen := by
  rcases open_slice_pairs ht he ce o0 o1 (by rw [t0]; exact cq) (by rw [t1]; exact cq) h with ⟨h0, _⟩ | ⟨a, len, cap, m, n, V0, V1, D0, D1, P0, P1, h0, _, hl, hm, hmm, _, hx⟩
  · exact ⟨none, 0, [], by simpa using h0, RowP.of_at (fun i hi => by simp at hi), by simp⟩
  simp only [if_true] at hmm
  subst hmm
  have hv0 : v0 = .slice (some a) len m := by simpa using h0
  refine ⟨some a, m, (List.range len).map fun i => (intOfV (V0 i), intOfV (V1 i)), by simpa using hv0, RowP.of_at fun i hi => ?_, by simp; omega⟩
  have hi' : i < len := by simpa using hi
  obtain ⟨q1, q2, q3, q4⟩ := hx i (by omega)
  rw [t0] at q3
  rw [t1] at q4
  obtain ⟨z0, e0, _, _⟩ := DataW.trod_int hq q3
  obtain ⟨z1, e1, _, _⟩ := DataW.trod_int hq q4
  simp at e0 e1
  obtain ⟨b, o, rfl⟩ := spot_none (hx 0 (by omega)).1
  rw [add_at] at q1 q2
  refine ⟨b, o, rfl, ?_, ?_⟩
  · rw [q1, e0]; simp [List.getD_eq_getElem?_getD, hi', e0, intOfV]
  · rw [Nat.add_assoc, q2, e1]; simp [List.getD_eq_getElem?_getD, hi', e1, intOfV]
end
end Go.Proofs.Ythgkmaccbcpaeaa
