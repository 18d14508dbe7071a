/- The reference's small functions: ranges, sides, tables of numbers. -/
import Derived.Test.YtfjjplllcilnaaaProg
import Derived.Test.YtfjjplllcilnaaaOwn
import Derived.Deep.QuietTactic
import Derived.BigQuiet
namespace Go.Proofs.Ytfjjplllcilnaaa
open Go.RowKit
def inB (n lo hi : Int) : Bool := decide (lo ≤ n) && decide (n ≤ hi)
theorem inB_true {n lo hi : Int} : inB n lo hi = true ↔ lo ≤ n ∧ n ≤ hi := by simp [inB]
set_option maxHeartbeats 400000 in
theorem l00In_any (n lo hi : Int) (w : World) (t : Bool) (ht : inB n lo hi = t) :
    Calls Try.prog 46 #[.int .i64 n, .int .i64 lo, .int .i64 hi] w fun e w' => e = .returned (.bool t) ∧ w.Ext w' := by
  subst ht
  by_cases h1 : lo ≤ n <;> by_cases h2 : n ≤ hi
  all_goals
    go_enter Try.func46, Try.ntmps46
    go_wp2
    go_ret
    exact ⟨by simp [inB, h1, h2], .refl _⟩
set_option maxHeartbeats 400000 in
theorem l01Side_any (n : Int) (w : World) (t : Bool) (ht : inB n 1 16 = t) :
    Calls Try.prog 132 #[.int .i64 n] w fun e w' => e = .returned (.bool t) ∧ w.Ext w' := by
  subst ht
  go_enter Try.func132, Try.ntmps132
  go_wp2_with (go_at_call 46; refine (l00In_any _ _ _ _ _ rfl).mono ?_; rintro e w' ⟨rfl, x1, rfl⟩)
  go_ret
  refine ⟨rfl, ?_⟩
  repeat (first | exact World.Ext.refl _ | exact ⟨_, rfl⟩ | assumption | refine World.Ext.over ?_ _ | refine World.Ext.drewN ?_ _ | refine World.Ext.drew ?_ | refine World.Ext.alloc ?_ _ | refine World.Ext.setCell ?_ (by simp) _)
/-- A row of a table is as it should be. -/
def rowOk (width : Nat) (most : Int) (r : List Int) : Bool := decide (r.length = width) && r.all fun n => inB n 0 most
/-- A table of numbers from 0 to 'most', of 1 to 16 rows and columns. -/
def tableOk (m : List (List Int)) (most : Int) : Bool := inB m.length 1 16 && inB (m.getD 0 []).length 1 16 && m.all (rowOk (m.getD 0 []).length most)
theorem all_getD {α : Type} {p : α → Bool} {l : List α} {d : α} : l.all p = true ↔ ∀ i, i < l.length → p (l.getD i d) = true := by
  rw [List.all_eq_true]
  constructor
  · intro h i hi
    rw [List.getD_eq_getElem?_getD, List.getElem?_eq_getElem hi]
    exact h _ (List.getElem_mem hi)
  · intro h x hx
    obtain ⟨i, hi, rfl⟩ := List.getElem_of_mem hx
    have := h i hi
    rwa [List.getD_eq_getElem?_getD, List.getElem?_eq_getElem hi] at this
theorem all_false {α : Type} {p : α → Bool} {l : List α} {d : α} {i : Nat} (hi : i < l.length) (h : p (l.getD i d) = false) : l.all p = false := by
  cases hh : l.all p
  · rfl
  · rw [all_getD (d := d)] at hh
    rw [hh i hi] at h; cases h
set_option maxHeartbeats 1000000 in
theorem l07Table_any (a : Option Addr) (c : Nat) (A : Nat → Option Addr) (C : Nat → Nat) (m : List (List Int)) (most : Int) (w : World) (hn : m.length ≤ 1048576) (hrow : ∀ r, (m.getD r []).length ≤ 1048576) (hm : MatAt w a A C m) :
    Calls Try.prog 109 #[.slice a m.length c, .int .i64 most] w fun e w' => e = .returned (.bool (tableOk m most)) ∧ w.Ext w' := by
  have HM := Lib.hid hm
  have HR := Lib.hid hrow
  have hn2 : m.length ≤ 4611686018427387904 := by omega
  clear hm hrow hn
  cases h1 : inB m.length 1 16
  · have hv : tableOk m most = false := by simp [tableOk, h1]
    rw [hv]
    clear hv
    go_enter Try.func109, Try.ntmps109
    go_wp2_with (go_at_call 132; refine (l01Side_any _ _ _ h1).mono ?_; rintro e w' ⟨rfl, x1, rfl⟩)
    go_ret
    refine ⟨rfl, ?_⟩
    repeat (first | exact World.Ext.refl _ | exact ⟨_, rfl⟩ | assumption | refine World.Ext.over ?_ _ | refine World.Ext.drewN ?_ _ | refine World.Ext.drew ?_ | refine World.Ext.alloc ?_ _ | refine World.Ext.setCell ?_ (by simp) _)
  · have hpos : 0 < m.length := by rw [inB_true] at h1; omega
    have hpos' : (0 : Int) < (m.length : Int) := by omega
    obtain ⟨⟨b0, o0, rfl, hc0⟩, _⟩ := HM.out 0 hpos
    rw [Nat.add_zero] at hc0
    have hl0 := HR.out 0
    obtain ⟨W, hW⟩ : ∃ W, W = (m.getD 0 []).length := ⟨_, rfl⟩
    rw [← hW] at hc0 hl0
    have hWm : W ≤ 4611686018427387904 := by omega
    have H1 := Lib.hid h1
    have HW := Lib.hid hW
    clear hW hl0 h1
    cases h2 : inB W 1 16
    · have hv : tableOk m most = false := by unfold tableOk; rw [← HW.out, h2]; simp
      rw [hv]
      clear hv
      have H2 := Lib.hid h2
      clear h2
      go_enter Try.func109, Try.ntmps109
      go_wp2_with fail
      refine (l01Side_any _ _ _ H1.out).mono ?_
      rintro e w' ⟨rfl, x1, rfl⟩
      go_wp2_with fail
      refine (l01Side_any _ _ _ H2.out).mono ?_
      rintro e w' ⟨rfl, x2, rfl⟩
      go_wp2
      go_ret
      refine ⟨rfl, ?_⟩
      repeat (first | exact World.Ext.refl _ | exact ⟨_, rfl⟩ | assumption | refine World.Ext.over ?_ _ | refine World.Ext.drewN ?_ _ | refine World.Ext.drew ?_ | refine World.Ext.alloc ?_ _ | refine World.Ext.setCell ?_ (by simp) _)
    · have H2 := Lib.hid h2
      clear h2
      have hv : tableOk m most = m.all (rowOk W most) := by unfold tableOk; rw [← HW.out, H1.out, H2.out]; simp
      rw [hv]
      clear hv
      go_enter Try.func109, Try.ntmps109
      go_wp2_with fail
      refine (l01Side_any _ _ _ H1.out).mono ?_
      rintro e w' ⟨rfl, x1, rfl⟩
      go_wp2_with fail
      refine (l01Side_any _ _ _ H2.out).mono ?_
      rintro e w' ⟨rfl, x2, rfl⟩
      go_wp2
      have hx0 : w.Ext ((w.over x1).over x2) := by repeat (first | exact World.Ext.refl _ | exact ⟨_, rfl⟩ | assumption | refine World.Ext.over ?_ _ | refine World.Ext.drewN ?_ _ | refine World.Ext.drew ?_ | refine World.Ext.alloc ?_ _ | refine World.Ext.setCell ?_ (by simp) _)
      generalize (w.over x1).over x2 = w2 at hx0 ⊢
      go_loopw [5, 6] (fun i _ wr => ∃ k : Nat, k ≤ m.length ∧ i = .int .i64 k ∧ Hid (∀ r, r < k → rowOk W most (m.getD r []) = true) ∧ w.Ext wr) (fun i _ _ => m.length - (intOf i).toNat)
      case atStart => exact ⟨0, Nat.zero_le _, rfl, fun r hr => by omega, hx0⟩
      case round =>
        obtain ⟨k, hk, rfl, HK, hx⟩ := hrel
        have hc0r := hx.cell hc0
        by_cases hlt : k < m.length
        · obtain ⟨⟨b, o, hbo, hc⟩, hrow⟩ := (HM.out.ext hx) k hlt
          simp only [Option.some.injEq, Addr.mk.injEq, and_true] at hbo
          obtain ⟨rfl, rfl⟩ := hbo
          have hlt' : (k : Int) < (m.length : Int) := by omega
          have hk0 : (0 : Int) ≤ (k : Int) := by omega
          have hlq := HR.out k
          have hF : rowOk W most (m.getD k []) = false → m.all (rowOk W most) = false := all_false hlt
          have hT : rowOk W most (m.getD k []) = true → ∀ r, r < k + 1 → rowOk W most (m.getD r []) = true := fun h r hr => by
            by_cases e : r = k
            · rw [e]; exact h
            · exact HK.out r (by omega)
          have HF := Lib.hid hF
          have HT := Lib.hid hT
          clear hF hT
          generalize m.getD k [] = q at hc hrow hlq HF HT
          have hqm : q.length ≤ 4611686018427387904 := by omega
          have HROW := Lib.hid hrow
          clear hrow hlq
          by_cases hqW : q.length = W
          · subst hqW
            go_wp2
            refine wp_region_over_lit (by kernel_rfl) (by kernel_rfl) ?_
            repeat (go_big_quiet_step (fail))
            refine wpQuiet_nil ?_
            rintro _ ⟨x3, rfl⟩
            have hx3 := hx.over x3
            have hc3 := World.Ext.cell (w' := wr.over x3) ⟨x3, rfl⟩ hc
            have HROW3 := Lib.hid (RowOf.ext HROW.out ⟨x3, rfl⟩ : RowOf _ _ (wr.over x3) _ _)
            clear hc HROW hx hc0r
            generalize wr.over x3 = w3 at hx3 hc3 HROW3 ⊢
            go_wp2
            go_loopw [6] (fun i w4 => ∃ j : Nat, j ≤ q.length ∧ i = .int .i64 j ∧ Hid (∀ r, r < j → inB (q.getD r 0) 0 most = true) ∧ w3.Ext w4) (fun i _ => q.length - (intOf i).toNat)
            case atStart => exact ⟨0, Nat.zero_le _, rfl, fun r hr => by omega, .refl _⟩
            case round =>
              obtain ⟨j, hj, rfl, HJ, hx4⟩ := hrel
              have hc4 := hx4.cell hc3
              by_cases hltj : j < q.length
              · obtain ⟨b2, o2, hA, hc5⟩ := (RowOf.ext HROW3.out hx4) j hltj
                rw [hA] at hc4
                clear hA
                have hj0 : (0 : Int) ≤ (j : Int) := by omega
                have hltj' : (j : Int) < (q.length : Int) := by omega
                cases hin : inB (q.getD j 0) 0 most
                · have hbad : rowOk q.length most q = false := by
                    unfold rowOk
                    rw [all_false hltj hin]; simp
                  have HB := Lib.hid (HF.out hbad)
                  have HI := Lib.hid hin
                  clear hbad hin
                  generalize q.getD j 0 = z at hc5 HI
                  go_wp2_with (go_at_call 46; refine (l00In_any _ _ _ _ _ HI.out).mono ?_; rintro e w' ⟨rfl, x5, rfl⟩)
                  go_ret
                  exact ⟨ret_bool HB.out.symm, (hx3.trans hx4).over _⟩
                · have hJ1 : ∀ r, r < j + 1 → inB (q.getD r 0) 0 most = true := fun r hr => by
                    by_cases e : r = j
                    · rw [e]; exact hin
                    · exact HJ.out r (by omega)
                  have HJ1 := Lib.hid hJ1
                  have HI := Lib.hid hin
                  clear hJ1 hin
                  generalize q.getD j 0 = z at hc5 HI
                  go_wp2_with (go_at_call 46; refine (l00In_any _ _ _ _ _ HI.out).mono ?_; rintro e w' ⟨rfl, x5, rfl⟩)
                  go_roundw
                  case rel => exact ⟨j + 1, by omega, by go_num, HJ1.out, hx4.over _⟩
                  case measure => simp [intOf]; omega
              · have : j = q.length := by omega
                subst this
                have hgood : rowOk q.length most q = true := by
                  unfold rowOk
                  rw [all_getD.2 HJ.out]; simp
                have HG := Lib.hid (HT.out hgood)
                clear hgood
                go_wp2
                go_roundw
                case rel => exact ⟨k + 1, by omega, by go_num, HG.out, hx3.trans hx4⟩
                case measure => simp [intOf]; omega
          · have hbad : rowOk W most q = false := by simp [rowOk, hqW]
            have HB := Lib.hid (HF.out hbad)
            clear hbad
            have hne : ((q.length : Int) != (W : Int)) = true := by simp; omega
            go_wp2
            refine wp_region_over_lit (by kernel_rfl) (by kernel_rfl) ?_
            repeat (go_big_quiet_step (fail))
            refine wpQuiet_nil ?_
            rintro _ ⟨x3, rfl⟩
            go_wp2
            go_ret
            exact ⟨ret_bool HB.out.symm, hx.over _⟩
        · have : k = m.length := by omega
          subst this
          go_wp2
          go_ret
          exact ⟨ret_bool (all_getD.2 HK.out).symm, hx⟩
set_option maxHeartbeats 400000 in
theorem l07Is_any (p : Nat) (a : Option Addr) (c : Nat) (A : Nat → Option Addr) (C : Nat → Nat) (m : List (List Int)) (w : World) (hn : m.length ≤ 1048576) (hrow : ∀ r, (m.getD r []).length ≤ 1048576)
    (hp : w.cell? ⟨p, 0, none⟩ = some (.slice a m.length c)) (hm : MatAt w a A C m) (t : Bool) (ht : tableOk m 99 = t) :
    Calls Try.prog 74 #[.pointer (some ⟨p, 0, none⟩)] w fun e w' => e = .returned (.bool t) ∧ w.Ext w' := by
  subst ht
  have HM := Lib.hid hm
  have HR := Lib.hid hrow
  have HN := Lib.hid hn
  clear hm hrow hn
  go_enter Try.func74, Try.ntmps74
  go_wp2_with (go_at_call 109; refine (l07Table_any _ _ A C m _ _ HN.out HR.out HM.out).mono ?_; rintro e w' ⟨rfl, x1, rfl⟩)
  go_ret
  refine ⟨rfl, ?_⟩
  repeat (first | exact World.Ext.refl _ | exact ⟨_, rfl⟩ | assumption | refine World.Ext.over ?_ _ | refine World.Ext.drewN ?_ _ | refine World.Ext.drew ?_ | refine World.Ext.alloc ?_ _ | refine World.Ext.setCell ?_ (by simp) _)
set_option maxHeartbeats 400000 in
theorem l07Width_any (p : Nat) (a : Option Addr) (c : Nat) (A : Nat → Option Addr) (C : Nat → Nat) (m : List (List Int)) (w : World) (hpos : 0 < m.length)
    (hp : w.cell? ⟨p, 0, none⟩ = some (.slice a m.length c)) (hm : MatAt w a A C m) :
    Calls Try.prog 111 #[.pointer (some ⟨p, 0, none⟩)] w fun e w' => e = .returned (.int .i64 (m.getD 0 []).length) ∧ w.Ext w' := by
  obtain ⟨⟨b0, o0, rfl, hc0⟩, _⟩ := hm 0 hpos
  rw [Nat.add_zero] at hc0
  have hpos' : (0 : Int) < (m.length : Int) := by omega
  clear hm
  generalize m.getD 0 [] = q at *
  go_enter Try.func111, Try.ntmps111
  go_wp2
  go_ret
  refine ⟨rfl, ?_⟩
  repeat (first | exact World.Ext.refl _ | exact ⟨_, rfl⟩ | assumption | refine World.Ext.over ?_ _ | refine World.Ext.drewN ?_ _ | refine World.Ext.drew ?_ | refine World.Ext.alloc ?_ _ | refine World.Ext.setCell ?_ (by simp) _)
theorem Try.infoI64' : (Try.prog.info? 2).map (fun i => (i.zero, i.size, i.bytes)) = some (some (.int .i64 0), 1, 8) := by kernel_rfl
theorem flat_succ (m : List (List Int)) (k : Nat) (h : k < m.length) : (m.take (k + 1)).flatten = (m.take k).flatten ++ m.getD k [] := by
  rw [List.take_succ_eq_append_getElem h, List.flatten_append, List.getD_eq_getElem?_getD, List.getElem?_eq_getElem h]
  simp
theorem flat_take_le (m : List (List Int)) (k : Nat) : (m.take k).flatten.length ≤ m.flatten.length := by
  have : m.flatten = (m.take k).flatten ++ (m.drop k).flatten := by rw [← List.flatten_append, List.take_append_drop]
  rw [this, List.length_append]; omega
set_option maxRecDepth 5000 in
set_option maxHeartbeats 800000 in
theorem l07List_any (a : Option Addr) (c : Nat) (A : Nat → Option Addr) (C : Nat → Nat) (m : List (List Int)) (w : World) (hn : m.length ≤ 1048576) (hrow : ∀ r, r < m.length → 0 < (m.getD r []).length) (hsum : m.flatten.length ≤ 1048576) (hm : MatAt w a A C m) :
    Calls Try.prog 110 #[.slice a m.length c] w fun e w' => ∃ a' c', e = .returned (.slice a' m.flatten.length c') ∧ w.Ext w' ∧ OwnOf (Value.int .i64) 0 w.heap.size w'.heap.size w' a' m.flatten ∧ Tag w' a' 2 := by
  obtain ⟨i0, hi, hz0, hz1, hz2⟩ := info_parts Try.infoI64'
  have HM := Lib.hid hm
  have HROW := Lib.hid hrow
  have HSUM := Lib.hid hsum
  have hn2 : m.length ≤ 4611686018427387904 := by omega
  have hg0 := GrowOf.empty (f := Value.int .i64) (lo := w.heap.size) (e := 2) w (Nat.le_refl _)
  have hx0 : w.Ext (w.alloc (.cells #[] 2)) := by repeat (first | exact World.Ext.refl _ | exact ⟨_, rfl⟩ | assumption | refine World.Ext.over ?_ _ | refine World.Ext.drewN ?_ _ | refine World.Ext.drew ?_ | refine World.Ext.alloc ?_ _ | refine World.Ext.setCell ?_ (by simp) _)
  have HG0 := Lib.hid hg0
  have HX0 := Lib.hid hx0
  clear hm hrow hsum hn hg0 hx0
  go_enter Try.func110, Try.ntmps110
  go_wp2
  go_loopw [3, 4] (fun v i wr => ∃ k : Nat, k ≤ m.length ∧ i = .int .i64 k ∧ Hid (w.Ext wr) ∧ Hid (GrowOf (Value.int .i64) w.heap.size 2 wr v (m.take k).flatten)) (fun _ i _ => m.length - (intOf i).toNat)
  case atStart => exact ⟨0, Nat.zero_le _, rfl, HX0, HG0⟩
  case round =>
    obtain ⟨k, hk, rfl, HX, HG⟩ := hrel
    by_cases hlt : k < m.length
    · obtain ⟨⟨b, o, rfl, hc⟩, hr⟩ := (HM.out.ext HX.out) k hlt
      have hrp := HROW.out k hlt
      obtain ⟨b2, o2, hA, _⟩ := hr 0 hrp
      rw [hA] at hc hr
      clear hA
      have hlt' : (k : Int) < (m.length : Int) := by omega
      have hk0 : (0 : Int) ≤ (k : Int) := by omega
      have hfs := flat_succ m k hlt
      have hle := flat_take_le m (k + 1)
      rw [hfs, List.length_append] at hle
      have hown := HG.out
      unfold GrowOf at hown
      have hnext : ∀ (v' : Value) (w1 : World), wr.grownBy w1 u3.ownBlock → w1.ownsRow w.heap.size 2 1 v' ((m.take k).flatten.length + (m.getD k []).length) ((m.take k).flatten.map (Value.int .i64) ++ (m.getD k []).map (Value.int .i64)) →
          w.Ext w1 ∧ GrowOf (Value.int .i64) w.heap.size 2 w1 v' (m.take (k + 1)).flatten := fun v' w1 hgrow hown' => by
        refine ⟨HG.out.pushesExt HX.out hgrow, ?_⟩
        rw [hfs]
        exact GrowOf.pushes hown'
      have hb1 : (m.take k).flatten.length + (m.getD k []).length ≤ maxLen := by unfold maxLen; have := HSUM.out; omega
      have hb2 : ((m.take k).flatten.length + (m.getD k []).length) * 8 ≤ 140737488355328 := by have := HSUM.out; omega
      have HNEXT := Lib.hid hnext
      have HB1 := Lib.hid hb1
      have HB2 := Lib.hid hb2
      have HLE := Lib.hid HX.out.size
      have HNEWS := Lib.hid (RowOf.news hr)
      clear hnext hb1 hb2 hfs hle hr
      generalize m.getD k [] = q at *
      have HLQ : Hid ((q.map (Value.int .i64)).length = q.length * 1) := by show _ = _; simp
      go_wp2_with (at_builtin; refine wpList_append_own _ rfl _ _ 44 rfl w.heap.size 2 i0 (.int .i64 0) 1 8 Try.underlying44 hi hz0 hz1 hz2 rfl (by decide) _ _ _ rfl hown ⟨b2, o2, none⟩ q.length _ (q.map (Value.int .i64)) rfl HLQ.out HNEWS.out (by intro u hu; obtain ⟨z, _, rfl⟩ := List.mem_map.1 hu; rfl) HB1.out HB2.out HLE.out (fun v' w1 hown' hgrow _ => ?_); obtain ⟨hx1, hg1⟩ := HNEXT.out _ _ hgrow hown'; have HX1 := Lib.hid hx1; have HG1 := Lib.hid hg1; clear hx1 hg1 hown' hgrow hown)
      go_roundw
      case rel => exact ⟨k + 1, by omega, by go_num, HX1, HG1⟩
      case measure => simp [intOf]; omega
    · have : k = m.length := by omega
      subst this
      have hg1 := HG.out
      rw [List.take_length] at hg1
      obtain ⟨a', c', rfl, _⟩ := hg1.form
      go_wp2
      go_ret
      exact ⟨a', c', rfl, HX.out, hg1.own 0, hg1.tag⟩
end Go.Proofs.Ytfjjplllcilnaaa
