/- Runs, and a picture of runs: the program. -/
import Derived.Test.YtmmanehdmnkekaaRunS
namespace Go
open Go.RowKit
/-- Writing into a row of a table of the call's own. -/
theorem GrowM.put {lo : Nat} {TO TI : TypeId} {w : World} {v : Value} {A : Nat → Option Addr} {C : Nat → Nat} {m : List (List Int)} (hne : TO ≠ TI) (h : GrowM lo TO TI w v A C m) {y x : Nat} (hy : y < m.length) (hx : x < (m.getD y []).length) :
    ∃ b, A y = some ⟨b, 0, none⟩ ∧ lo ≤ b ∧ w.cell? ⟨b, x, none⟩ = some (.int .i64 ((m.getD y []).getD x 0)) ∧ w.frozen? ⟨b, x, none⟩ = false ∧ (∃ cs fr, w.heap[b]? = some (.cells cs TI fr)) ∧
      ∀ z : Int, GrowM lo TO TI (w.setCell ⟨b, x, none⟩ (.int .i64 z)) v A C (m.set y ((m.getD y []).set x z)) := by
  obtain ⟨b, cap, e, h1, h2, h3, h4⟩ := GrowOf.atI 0 (h.rows y hy) hx
  have eA : A y = some ⟨b, 0, none⟩ := by
    simp only [Value.slice.injEq] at e
    exact e.1
  have htag := (h.rows y hy).blockTag (k := b) (by rw [eA]; rfl)
  obtain ⟨cs, fr, hcs⟩ := htag
  have hgl : ∀ z : Int, ∀ r, ((m.set y ((m.getD y []).set x z)).getD r []) = if r = y then (m.getD y []).set x z else m.getD r [] := fun z r => by
    by_cases e2 : r = y
    · rw [if_pos e2, e2, List.getD_eq_getElem?_getD, List.getElem?_set_self hy]; rfl
    · rw [if_neg e2, List.getD_eq_getElem?_getD, List.getElem?_set_ne (by omega), List.getD_eq_getElem?_getD]
  have hle : ∀ z : Int, ∀ r, ((m.set y ((m.getD y []).set x z)).getD r []).length = (m.getD r []).length := fun z r => by
    rw [hgl z r]
    split
    · rename_i e2; rw [List.length_set, e2]
    · rfl
  refine ⟨b, eA, h1, h2, h3, ⟨cs, fr, hcs⟩, fun z => ⟨?_, fun r hr => ?_, fun r s p o p' o' hr hs => ?_⟩⟩
  · rw [List.length_set]
    simp only [hle]
    exact World.ownsRow.setCell h.outer (World.ownsRow.ne h.outer hcs hne) _
  · rw [List.length_set] at hr
    rw [hle, hgl]
    split
    · rename_i e2
      subst e2
      rw [eA]
      have := h4 z
      rw [eA] at this
      unfold GrowOf at this ⊢
      rw [List.length_set] at this ⊢
      exact this
    · rename_i e2
      refine GrowOf.setCell (h.rows r hr) ?_ _
      intro e3
      cases hA : A r with
      | none => rw [hA] at e3; cases e3
      | some q =>
        rw [hA] at e3
        have e4 : b = q.block := by simpa [Value.ownBlock] using e3
        obtain ⟨qb, qo, qs⟩ := q
        obtain ⟨-, h6⟩ := h.rows r hr
        rcases h6 with ⟨h6, _⟩ | ⟨g6, cap6, cur6, h6, _⟩
        · simp only [Value.slice.injEq] at h6
          rw [hA] at h6
          cases h6.1
        · simp only [Value.slice.injEq] at h6
          have h7 := h6.1
          rw [hA] at h7
          simp only [Option.some.injEq, Addr.mk.injEq] at h7
          obtain ⟨rfl, rfl, rfl⟩ := h7
          exact h.apart r y _ _ _ _ hr hy e2 hA eA e4.symm
  · rw [List.length_set] at hr hs
    exact h.apart r s p o p' o' hr hs
/-- A store into a cell of another kind. -/
theorem GrowM.setOther {lo : Nat} {TO TI T : TypeId} {w : World} {v x0 : Value} {A : Nat → Option Addr} {C : Nat → Nat} {m : List (List Int)} {p : Nat} (hne : TO ≠ T) (hni : TI ≠ T) (h : GrowM lo TO TI w v A C m) (ho : One w p T x0) (u : Value) : GrowM lo TO TI (w.setCell ⟨p, 0, none⟩ u) v A C m :=
  ⟨World.ownsRow.setCell h.outer (World.ownsRow.ne h.outer (show w.heap[p]? = some (.cells #[x0] T (0, 0)) from ho) hne) u, fun r hr => GrowOf.setCell (h.rows r hr) (GrowOf.ne (h.rows r hr) ho hni) u, h.apart⟩
end Go
namespace Go.Proofs.Ytmmanehdmnkekaa
open Go Go.RowKit
theorem enters_same1 : Enters 185 := enters_of Try.func185 (by kernel_rfl) (by kernel_rfl)
set_option maxHeartbeats 400000 in
theorem same1_any (a b : Option Addr) (c c' : Nat) (xs ys : List Int) (w : World) (hn : xs.length ≤ maxLen) (hn' : ys.length ≤ maxLen) (ha : RowI w a xs) (hb : RowI w b ys) :
    Calls Try.prog 185 #[.slice a xs.length c, .slice b ys.length c'] w fun e w' => e = .returned (.bool (decide (xs = ys))) ∧ w.Ext w' := by
  have HC := Lib.hid (equalI_any a b c c' xs ys w hn hn' ha hb)
  clear hn hn' ha hb
  generalize decide (xs = ys) = t at *
  go_enter Try.func185, Try.ntmps185
  go_wp2_with fail
  refine HC.out.mono ?_
  rintro e w2 ⟨rfl, hx⟩
  go_wp2
  go_ret
  exact ⟨rfl, hx⟩
set_option maxHeartbeats 800000 in
theorem equalFunc_any (a b : Option Addr) (c c' : Nat) (A B : Nat → Option Addr) (C D : Nat → Nat) (m m' : List (List Int)) (w : World) (hn : m.length ≤ maxLen) (_ : m'.length ≤ maxLen) (hr : ∀ r, (m.getD r []).length ≤ maxLen) (hr' : ∀ r, (m'.getD r []).length ≤ maxLen) (ha : MatAt w a A C m) (hb : MatAt w b B D m') :
    Calls Try.prog 184 #[.slice a m.length c, .slice b m'.length c', .func (.func 185) #[] #[]] w fun e w' => e = .returned (.bool (decide (m = m'))) ∧ w.Ext w' := by
  unfold maxLen at hn
  have he := enters_same1
  unfold Enters at he
  by_cases hl : m.length = m'.length
  · have HT : Hid ((∀ i, i < m.length → m.getD i [] = m'.getD i []) → true = decide (m = m')) := fun h => (decide_eq_true (listM_ext hl h)).symm
    have HF : Hid (∀ i, i < m.length → ¬ m.getD i [] = m'.getD i [] → false = decide (m = m')) := fun i _ h => (decide_eq_false (fun e => h (by rw [e]))).symm
    have HA := Lib.hid ha
    have HB := Lib.hid hb
    have HL := Lib.hid hl
    have HR := Lib.hid hr
    have HR' := Lib.hid hr'
    clear ha hb hr hr'
    generalize decide (m = m') = t at *
    rw [← hl]
    clear hl
    go_enter Try.func184, Try.ntmps184
    go_wp2
    go_loopw [7, 8, 9, 17] (fun _ _ _ i wr => ∃ k : Nat, k ≤ m.length ∧ i = .int .i64 k ∧ Hid (∀ i, i < k → m.getD i [] = m'.getD i []) ∧ Hid (w.Ext wr)) (fun _ _ _ i _ => m.length - (intOf i).toNat)
    case atStart => exact ⟨0, Nat.zero_le _, rfl, fun i hi => by omega, .refl _⟩
    case round =>
      obtain ⟨k, hk, rfl, HK, HX⟩ := hrel
      by_cases hlt : k < m.length
      · obtain ⟨⟨b1, o1, rfl, hc1⟩, hr1⟩ := (HA.out.ext HX.out) k hlt
        obtain ⟨⟨b2, o2, rfl, hc2⟩, hr2⟩ := (HB.out.ext HX.out) k (by rw [← HL.out]; exact hlt)
        have hk0 : (0 : Int) ≤ (k : Int) := by omega
        have hlt' : (k : Int) < (m.length : Int) := by omega
        have HC : Hid (Calls Try.prog 185 #[.slice (A k) (m.getD k []).length (C k), .slice (B k) (m'.getD k []).length (D k)] wr fun e w' => e = .returned (.bool (decide (m.getD k [] = m'.getD k []))) ∧ wr.Ext w') :=
          same1_any _ _ _ _ _ _ _ (HR.out k) (HR'.out k) hr1 hr2
        have HK1 : Hid (decide (m.getD k [] = m'.getD k []) = true → ∀ i, i < k + 1 → m.getD i [] = m'.getD i []) := fun h i hi => by
          by_cases e : i = k
          · rw [e]; exact of_decide_eq_true h
          · exact HK.out i (by omega)
        have HFK : Hid (decide (m.getD k [] = m'.getD k []) = false → false = t) := fun h => HF.out k hlt (of_decide_eq_false h)
        clear HK HT HF hr1 hr2
        generalize decide (m.getD k [] = m'.getD k []) = q at *
        generalize (m.getD k []).length = z at *
        generalize (m'.getD k []).length = z' at *
        cases q
        · have hf := HFK.out rfl
          subst hf
          clear HK1 HFK
          go_wp2_with fail
          refine HC.out.mono ?_
          rintro e w2 ⟨rfl, hx⟩
          have HX2 := Lib.hid (HX.out.trans hx)
          clear hx
          go_wp2
          go_ret
          exact ⟨rfl, HX2.out⟩
        · have HK2 := Lib.hid (HK1.out rfl)
          clear HK1 HFK
          go_wp2_with fail
          refine HC.out.mono ?_
          rintro e w2 ⟨rfl, hx⟩
          have HX2 := Lib.hid (HX.out.trans hx)
          clear hx
          go_wp2
          go_roundw
          case rel => exact ⟨k + 1, by omega, by go_num, HK2, HX2⟩
          case measure => simp [intOf]; omega
      · have : k = m.length := by omega
        subst this
        have ht := HT.out HK.out
        subst ht
        clear HT HF HK
        go_wp2
        go_ret
        exact ⟨rfl, HX.out⟩
  · have hd : decide (m = m') = false := decide_eq_false (fun e => hl (by rw [e]))
    rw [hd]
    have hne : ((m.length : Int) != (m'.length : Int)) = true := by
      simp only [bne_iff_ne, ne_eq]
      omega
    clear ha hb hd hl hr hr'
    generalize m.length = n at *
    generalize m'.length = n' at *
    go_enter Try.func184, Try.ntmps184
    go_wp2
    go_ret
    exact ⟨rfl, .refl _⟩
set_option maxHeartbeats 400000 in
theorem sameLists_any (a b : Option Addr) (c c' : Nat) (A B : Nat → Option Addr) (C D : Nat → Nat) (m m' : List (List Int)) (w : World) (hn : m.length ≤ maxLen) (hn' : m'.length ≤ maxLen) (hr : ∀ r, (m.getD r []).length ≤ maxLen) (hr' : ∀ r, (m'.getD r []).length ≤ maxLen) (ha : MatAt w a A C m) (hb : MatAt w b B D m') :
    Calls Try.prog 82 #[.slice a m.length c, .slice b m'.length c'] w fun e w' => e = .returned (.bool (decide (m = m'))) ∧ w.Ext w' := by
  have HC := Lib.hid (equalFunc_any a b c c' A B C D m m' w hn hn' hr hr' ha hb)
  clear hn hn' hr hr' ha hb
  generalize decide (m = m') = t at *
  go_enter Try.func82, Try.ntmps82
  go_wp2_with fail
  refine HC.out.mono ?_
  rintro e w2 ⟨rfl, hx⟩
  go_wp2
  go_ret
  exact ⟨rfl, hx⟩
end Go.Proofs.Ytmmanehdmnkekaa
