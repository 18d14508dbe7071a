/- Texts of grey pictures are read: the reference. -/
import Derived.Test.YthgkmaccbcpaeaaDoorRdgP
namespace Go.Proofs.YthgkmaccbcpaeaaDoor
open Go Go.RowKit
set_option maxRecDepth 5000 in
set_option maxHeartbeats 1600000 in
theorem l01DecN_any (u : Nat) (w : World) (hu : u ≤ 1000000000) (hu2 : 1 ≤ u) :
    Calls Tryd.prog 99 #[.int .i64 (-(u : Int))] w fun e w' => e = .returned (.string (bstr (45 :: Lib.decDigits u))) ∧ w.Ext w' := by
  obtain ⟨i0, hi, hz0, hz1, hz2⟩ := info_parts Tryd.infoU8
  have HDL : Hid ((Lib.decDigits u).length ≤ 10) := digs_le 9 u (by omega)
  have HG0 : Hid (GrowOf (Value.int .u8) w.heap.size 5 (w.alloc (.cells #[] 5)) (.slice (some ⟨w.heap.size, 0, none⟩) 0 0) (u8s [])) := GrowOf.empty (f := Value.int .u8) (lo := w.heap.size) (e := 5) w (Nat.le_refl _)
  have HX0 : Hid (w.Ext (w.alloc (.cells #[] 5))) := by show w.Ext _; repeat (first | exact World.Ext.refl _ | exact ⟨_, rfl⟩ | assumption | refine World.Ext.over ?_ _ | refine World.Ext.drewN ?_ _ | refine World.Ext.drew ?_ | refine World.Ext.alloc ?_ _ | refine World.Ext.setCell ?_ (by simp) _)
  have HD0 : Hid (DecI u u []) := .inl ⟨rfl, rfl⟩
  have hu0 : (0 : Int) ≤ (u : Int) := by omega
  have hu1 : -(u : Int) < 0 := by omega
  go_enter Tryd.func99, Tryd.ntmps99
  go_wp2
  go_loopw [3, 4, 5] (fun v r _ wr => ∃ (x n : Nat) (L : List UInt8) (b c : Nat), x ≤ u ∧ r = .int .i64 (-(x : Int)) ∧ v = .slice (some ⟨b, 0, none⟩) n c ∧ Hid (n = L.length ∧ DecI u x L ∧ w.Ext wr ∧ GrowOf (Value.int .u8) w.heap.size 5 wr (.slice (some ⟨b, 0, none⟩) n c) (u8s L))) (fun v r _ _ => (intOf r).natAbs + match v with | .slice _ n _ => if n = 0 then 1 else 0 | _ => 0)
  case atStart => exact ⟨u, 0, [], w.heap.size, 0, Nat.le_refl _, rfl, rfl, rfl, HD0.out, HX0.out, HG0.out⟩
  case round =>
    clear HX0 HG0 HD0
    obtain ⟨x, n, L, b, c, hx, rfl, rfl, HR⟩ := hrel
    obtain ⟨wo, rfl⟩ : ∃ wo : World, wo = wr := ⟨_, rfl⟩
    have hn10 : n ≤ 10 := by
      rw [HR.out.1]
      exact Nat.le_trans HR.out.2.1.len HDL.out
    have hx0 : (0 : Int) ≤ (x : Int) := by omega
    by_cases hc : L = [] ∨ x ≠ 0
    · have hd0 : 0 ≤ (x : Int) % 10 := by omega
      have hd1 : (x : Int) % 10 < 10 := by omega
      have HT : Hid (Int.tmod (-(x : Int)) 10 = -((x : Int) % 10)) := by show _ = _; rw [Int.neg_tmod, Int.tmod_eq_emod_of_nonneg (by omega)]
      have HTD : Hid (Int.tdiv (-(x : Int)) 10 = -((x / 10 : Nat) : Int)) := by show _ = _; rw [Int.neg_tdiv, Int.tdiv_eq_ediv_of_nonneg (by omega), Int.natCast_ediv]; rfl
      have HLE : Hid (w.heap.size ≤ wo.heap.size) := HR.out.2.2.1.size
      have HLE2 : Hid (∀ o, w.heap.size ≤ (wo.alloc o).heap.size) := fun o => (HR.out.2.2.1.alloc o).size
      have HLQ : Hid (((u8s L).map (Value.int .u8)).length = n * 1) := by show _ = _; rw [List.length_map, u8s_len, HR.out.1, Nat.mul_one]
      have hrow : RowOf (Value.int .u8) 0 wo (some ⟨b, 0, none⟩) (u8s L) := (HR.out.2.2.2.own 0).row
      have HNEWS : Hid (∀ o, ∀ (j : Nat) z, ((u8s L).map (Value.int .u8))[j]? = some z → (wo.alloc o).cell? ((⟨b, 0, none⟩ : Addr).add j) = some z) := fun o => RowOf.news (RowOf.ext hrow ((World.Ext.refl _).alloc o))
      have HB1 : Hid (1 + n ≤ maxLen) := by show _ ≤ _; unfold maxLen; omega
      have HB2 : Hid ((1 + n) * 1 ≤ 140737488355328) := by show _ ≤ _; omega
      have HNEXT : Hid (∀ (D : Int) (o : Obj) (v' : Value) (w1 : World), (wo.alloc o).grownBy w1 (some wo.heap.size) → w1.ownsRow w.heap.size 5 1 v' (1 + n) ([Value.int .u8 D] ++ (u8s L).map (Value.int .u8)) → D = 48 + (x : Int) % 10 →
          (n + 1 = (dgt x :: L).length ∧ DecI u (x / 10) (dgt x :: L) ∧ w.Ext w1 ∧ GrowOf (Value.int .u8) w.heap.size 5 w1 v' (u8s (dgt x :: L))) ∧ ∃ b1 c1, v' = .slice (some ⟨b1, 0, none⟩) (n + 1) c1) := fun D o v' w1 hgrow hown' hD => by
        subst hD
        have hg : GrowOf (Value.int .u8) w.heap.size 5 w1 v' (u8s (dgt x :: L)) := by
          unfold GrowOf
          have e1 : (u8s (dgt x :: L)).length = 1 + n := by rw [u8s_len, HR.out.1]; simp; omega
          have e2 : (u8s (dgt x :: L)).map (Value.int .u8) = [Value.int .u8 (48 + (x : Int) % 10)] ++ (u8s L).map (Value.int .u8) := by
            show Value.int .u8 ((dgt x).toNat : Int) :: _ = _
            rw [dgt_nat]
            rfl
          rw [e1, e2]
          exact hown'
        have hx1 : w.Ext w1 := by
          have h0 : GrowOf (Value.int .u8) wo.heap.size 5 (wo.alloc (.cells #[.int .u8 0] 5)) (.slice (some ⟨wo.heap.size, 0, none⟩) 1 1) [0] := lit_own (w := wo) (.int .u8 0) (Nat.le_refl _)
          refine HR.out.2.2.1.trans ?_
          exact World.Ext.of_below ⟨hgrow.os, hgrow.tape, hgrow.output, Nat.le_trans (World.Ext.size ((World.Ext.refl wo).alloc o)) hgrow.size, fun k hk => by rw [hgrow.block k (by simp; omega) (by simp; omega), Below.heap_alloc _ _ _ hk]⟩
        obtain ⟨b1, c1, h1, _⟩ := hg.some (by simp [u8s])
        refine ⟨⟨by rw [HR.out.1]; rfl, HR.out.2.1.next hc, hx1, hg⟩, b1, c1, ?_⟩
        rw [h1, u8s_len, List.length_cons, ← HR.out.1]
      have HN1 : Hid (n = 0 → ∀ D : Int, D = 48 + (x : Int) % 10 → 1 = [dgt x].length ∧ DecI u (x / 10) [dgt x] ∧ w.Ext (wo.alloc (.cells #[.int .u8 D] 5)) ∧ GrowOf (Value.int .u8) w.heap.size 5 (wo.alloc (.cells #[.int .u8 D] 5)) (.slice (some ⟨wo.heap.size, 0, none⟩) 1 1) (u8s [dgt x])) := fun h D hD => by
        subst hD
        have hL : L = [] := List.eq_nil_of_length_eq_zero (by rw [← HR.out.1]; exact h)
        have h2 := HR.out.2.1.next hc
        rw [hL] at h2
        refine ⟨rfl, h2, HR.out.2.2.1.alloc _, ?_⟩
        have h3 := lit_own (w := wo) (base := w.heap.size) (T := 5) (.int .u8 (48 + (x : Int) % 10)) HLE.out
        rw [← dgt_nat] at h3 ⊢
        exact h3
      have HN0 : Hid (¬ n = 0 → x ≠ 0) := fun h => by
        rcases hc with h2 | h2
        · rw [HR.out.1, h2] at h; exact absurd rfl h
        · exact h2
      have HMS : Hid (x / 10 < x + if n = 0 then 1 else 0) := by
        show _ < _
        split
        · omega
        · rename_i h
          have := HN0.out h
          omega
      have hdv : (x : Int) / 10 = ((x / 10 : Nat) : Int) := by rw [Int.natCast_ediv]; rfl
      have HDV := Lib.hid hdv
      clear hdv hrow hc HR
      by_cases h0 : n = 0
      · subst h0
        have HRN := Lib.hid (HN1.out rfl)
        have HM2 := HMS.out
        clear HNEXT HN1 HMS
        by_cases hd : (x : Int) % 10 = 0
        · have hng : ¬ -((x : Int) % 10) < 0 := by omega
          go_wp2
          go_roundw
          case rel => exact ⟨x / 10, 1, [dgt x], wo.heap.size, 1, by omega, by rw [HDV.out], rfl, HRN.out _ (by omega)⟩
          case measure => rw [HDV.out]; simp [intOf] at HM2 ⊢; omega
        · have hng : -((x : Int) % 10) < 0 := by omega
          go_wp2
          go_roundw
          case rel => exact ⟨x / 10, 1, [dgt x], wo.heap.size, 1, by omega, by rw [HDV.out], rfl, HRN.out _ (by omega)⟩
          case measure => rw [HDV.out]; simp [intOf] at HM2 ⊢; omega
      · have hnb : ((n : Int) == 0) = false := by rw [beq_eq_false_iff_ne]; omega
        have hxb : (-(x : Int) != 0) = true := by rw [bne_iff_ne]; have := HN0.out h0; omega
        have hxp : ¬ x = 0 := HN0.out h0
        have HM2 := HMS.out
        clear HN1 HMS
        by_cases hd : (x : Int) % 10 = 0
        · have hng : ¬ -((x : Int) % 10) < 0 := by omega
          go_wp2_with (at_builtin; refine wpList_append_own _ rfl _ _ 32 rfl w.heap.size 5 i0 (.int .u8 0) 1 1 Tryd.underlying32 hi hz0 hz1 hz2 rfl (by decide) _ _ _ rfl (lit_own _ HLE.out) ⟨b, 0, none⟩ n _ ((u8s L).map (Value.int .u8)) rfl HLQ.out (HNEWS.out _) (by intro z hz; obtain ⟨y, _, rfl⟩ := List.mem_map.1 hz; rfl) HB1.out HB2.out (HLE2.out _) (fun v' w1 hown' hgrow _ => ?_); go_loud (obtain ⟨hR, b1, c1, rfl⟩ := HNEXT.out _ _ _ _ hgrow hown' (by omega); have HRN := Lib.hid hR; clear hR hown' hgrow))
          go_roundw
          case rel => exact ⟨x / 10, n + 1, dgt x :: L, b1, c1, by omega, by rw [HDV.out], rfl, HRN.out⟩
          case measure => rw [HDV.out]; simp [intOf, h0] at HM2 ⊢; omega
        · have hng : -((x : Int) % 10) < 0 := by omega
          go_wp2_with (at_builtin; refine wpList_append_own _ rfl _ _ 32 rfl w.heap.size 5 i0 (.int .u8 0) 1 1 Tryd.underlying32 hi hz0 hz1 hz2 rfl (by decide) _ _ _ rfl (lit_own _ HLE.out) ⟨b, 0, none⟩ n _ ((u8s L).map (Value.int .u8)) rfl HLQ.out (HNEWS.out _) (by intro z hz; obtain ⟨y, _, rfl⟩ := List.mem_map.1 hz; rfl) HB1.out HB2.out (HLE2.out _) (fun v' w1 hown' hgrow _ => ?_); go_loud (obtain ⟨hR, b1, c1, rfl⟩ := HNEXT.out _ _ _ _ hgrow hown' (by omega); have HRN := Lib.hid hR; clear hR hown' hgrow))
          go_roundw
          case rel => exact ⟨x / 10, n + 1, dgt x :: L, b1, c1, by omega, by rw [HDV.out], rfl, HRN.out⟩
          case measure => rw [HDV.out]; simp [intOf, h0] at HM2 ⊢; omega
    · have hL : L ≠ [] := fun h => hc (.inl h)
      have hx00 : x = 0 := by
        rcases Nat.eq_zero_or_pos x with h | h
        · exact h
        · exact absurd (.inr (by omega)) hc
      subst hx00
      have hn1 : ¬ n = 0 := fun h => hL (List.eq_nil_of_length_eq_zero (by rw [← HR.out.1]; exact h))
      have hnb : ((n : Int) == 0) = false := by rw [beq_eq_false_iff_ne]; omega
      have hLD := HR.out.2.1.done hL rfl
      have HLE : Hid (w.heap.size ≤ wo.heap.size) := HR.out.2.2.1.size
      have HLE2 : Hid (∀ o, w.heap.size ≤ (wo.alloc o).heap.size) := fun o => (HR.out.2.2.1.alloc o).size
      have HLQ : Hid (((u8s L).map (Value.int .u8)).length = n * 1) := by show _ = _; rw [List.length_map, u8s_len, HR.out.1, Nat.mul_one]
      have hrow : RowOf (Value.int .u8) 0 wo (some ⟨b, 0, none⟩) (u8s L) := (HR.out.2.2.2.own 0).row
      have HNEWS : Hid (∀ o, ∀ (j : Nat) z, ((u8s L).map (Value.int .u8))[j]? = some z → (wo.alloc o).cell? ((⟨b, 0, none⟩ : Addr).add j) = some z) := fun o => RowOf.news (RowOf.ext hrow ((World.Ext.refl _).alloc o))
      have HB1 : Hid (1 + n ≤ maxLen) := by show _ ≤ _; unfold maxLen; omega
      have HB2 : Hid ((1 + n) * 1 ≤ 140737488355328) := by show _ ≤ _; omega
      have HNEXT : Hid (∀ (o : Obj) (v' : Value) (w1 : World), (wo.alloc o).grownBy w1 (some wo.heap.size) → w1.ownsRow w.heap.size 5 1 v' (1 + n) ([Value.int .u8 45] ++ (u8s L).map (Value.int .u8)) →
          w.Ext w1 ∧ ∃ b1 c1, v' = .slice (some ⟨b1, 0, none⟩) (n + 1) c1 ∧ ∀ dst, Tryd.prog.underlying dst = some .string → (convert 32 dst (.slice (some ⟨b1, 0, none⟩) (n + 1) c1)).run Tryd.prog w1 = .ok (.string (bstr (45 :: Lib.decDigits u))) w1) := fun o v' w1 hgrow hown' => by
        have hg : GrowOf (Value.int .u8) w.heap.size 5 w1 v' (u8s (45 :: L)) := by
          unfold GrowOf
          have e1 : (u8s (45 :: L)).length = 1 + n := by rw [u8s_len, HR.out.1]; simp; omega
          rw [e1]
          exact hown'
        have hx1 : w.Ext w1 := by
          refine HR.out.2.2.1.trans ?_
          exact World.Ext.of_below ⟨hgrow.os, hgrow.tape, hgrow.output, Nat.le_trans (World.Ext.size ((World.Ext.refl wo).alloc o)) hgrow.size, fun k hk => by rw [hgrow.block k (by simp; omega) (by simp; omega), Below.heap_alloc _ _ _ hk]⟩
        obtain ⟨b1, c1, h1, _⟩ := hg.some (by simp [u8s])
        have e1 : v' = .slice (some ⟨b1, 0, none⟩) (n + 1) c1 := by rw [h1, u8s_len, List.length_cons, ← HR.out.1]
        refine ⟨hx1, b1, c1, e1, ?_⟩
        rw [e1] at hg
        have hlen : (u8s (45 :: L)).length = n + 1 := by rw [u8s_len, List.length_cons, HR.out.1]
        have hcell : ∀ i, i < n + 1 → w1.cell? ⟨b1, 0 + i, none⟩ = some (.int .u8 ((u8s (45 :: L)).getD i 0)) := fun i hi' => by
          obtain ⟨b', o', e1, e2⟩ := (hg.own 0).row i (by rw [hlen]; exact hi')
          cases e1
          exact e2
        have hcv := run_convert_bytes_arg (P := Tryd.prog) w1 32 5 Tryd.underlying32 Tryd.underlying5 b1 0 (n + 1) c1 (u8s (45 :: L)) hlen hcell
        rw [str_u8s, hLD] at hcv
        exact hcv
      clear HR hrow hLD hL hc
      go_wp2_with (at_builtin; refine wpList_append_own _ rfl _ _ 32 rfl w.heap.size 5 i0 (.int .u8 0) 1 1 Tryd.underlying32 hi hz0 hz1 hz2 rfl (by decide) _ _ _ rfl (lit_own _ HLE.out) ⟨b, 0, none⟩ n _ ((u8s L).map (Value.int .u8)) rfl HLQ.out (HNEWS.out _) (by intro z hz; obtain ⟨y, _, rfl⟩ := List.mem_map.1 hz; rfl) HB1.out HB2.out (HLE2.out _) (fun v' w1 hown' hgrow _ => ?_); go_loud (obtain ⟨hX1, b1, c1, rfl, hcv0⟩ := HNEXT.out _ _ _ hgrow hown'; have hcv := hcv0 9 Tryd.underlying9; have HX := Lib.hid hX1; clear hX1 hown' hgrow hcv0))
      go_ret
      exact ⟨rfl, HX.out⟩
theorem l01Dec_any (n : Int) (w : World) (h1 : -1000000000 ≤ n) (h2 : n ≤ 1000000000) : Calls Tryd.prog 99 #[.int .i64 n] w fun e w' => e = .returned (.string (bstr (Lib.itoa n))) ∧ w.Ext w' := by
  by_cases h : n < 0
  · obtain ⟨u, hu⟩ := Int.eq_ofNat_of_zero_le (show 0 ≤ -n by omega)
    have hn : n = -(u : Int) := by omega
    subst hn
    rw [Lib.itoa_neg u (by omega)]
    exact l01DecN_any u w (by omega) (by omega)
  · obtain ⟨u, hu⟩ := Int.eq_ofNat_of_zero_le (show 0 ≤ n by omega)
    subst hu
    rw [Lib.itoa_nonneg]
    exact l01DecP_any u w (by omega)
theorem ext_bstr (s : ByteArray) (a b : Nat) : s.extract a b = bstr ((s.data.toList.take b).drop a) := by
  rw [← bstr_data (s.extract a b), Lib.extract_data, List.drop_take]
section
variable {c : UInt8} {l : List UInt8}
theorem cutS_tail (c : UInt8) (l : List UInt8) : ∀ i, i ≤ l.length → (cutS c (l.take i)).2.length ≤ i ∧ (cutS c (l.take i)).2 = (l.take i).drop (i - (cutS c (l.take i)).2.length)
  | 0, _ => by simp [cutS]
  | i + 1, h => by
    obtain ⟨h1, h2⟩ := cutS_tail c l i (by omega)
    have hi : i < l.length := by omega
    rw [cutS_succ l hi]
    unfold stepC
    by_cases e : l[i] = c
    · rw [if_pos e]
      refine ⟨Nat.zero_le _, ?_⟩
      rw [show i + 1 - ([] : List UInt8).length = i + 1 from rfl, List.drop_eq_nil_of_le (by rw [List.length_take]; omega)]
    · rw [if_neg e]
      refine ⟨by simp; omega, ?_⟩
      have e2 : i + 1 - ((cutS c (l.take i)).2 ++ [l[i]]).length = i - (cutS c (l.take i)).2.length := by rw [List.length_append]; simp
      show (cutS c (l.take i)).2 ++ [l[i]] = _
      rw [e2, List.take_succ_eq_append_getElem hi, List.drop_append_of_le_length (by rw [List.length_take]; omega), ← h2]
/-- The pieces that are told when i bytes are seen, and where the next one begins. -/
def cutP (c : UInt8) (l : List UInt8) (i : Nat) : List (List UInt8) := if i ≤ l.length then (cutS c (l.take i)).1 else cutL c l
def cutF (c : UInt8) (l : List UInt8) (i : Nat) : Nat := if i ≤ l.length then i - (cutS c (l.take i)).2.length else i
theorem cutF_le (c : UInt8) (l : List UInt8) (i : Nat) : cutF c l i ≤ i := by unfold cutF; split <;> omega
theorem cut_piece {i : Nat} (h : i ≤ l.length) : (cutS c (l.take i)).2 = (l.take i).drop (cutF c l i) := by
  unfold cutF
  rw [if_pos h]
  exact (cutS_tail c l i h).2
theorem cut_at {i : Nat} (h : i < l.length) (e : l[i] = c) : cutP c l (i + 1) = cutP c l i ++ [(l.take i).drop (cutF c l i)] ∧ cutF c l (i + 1) = i + 1 := by
  have h2 : cutS c (l.take (i + 1)) = ((cutS c (l.take i)).1 ++ [(cutS c (l.take i)).2], []) := by rw [cutS_succ l h]; unfold stepC; rw [if_pos e]
  refine ⟨?_, ?_⟩
  · unfold cutP
    rw [if_pos (by omega), if_pos (by omega), h2, cut_piece (by omega)]
  · unfold cutF
    rw [if_pos (by omega), h2]
    rfl
theorem cut_skip {i : Nat} (h : i < l.length) (e : l[i] ≠ c) : cutP c l (i + 1) = cutP c l i ∧ cutF c l (i + 1) = cutF c l i := by
  have h2 : cutS c (l.take (i + 1)) = ((cutS c (l.take i)).1, (cutS c (l.take i)).2 ++ [l[i]]) := by rw [cutS_succ l h]; unfold stepC; rw [if_neg e]
  refine ⟨?_, ?_⟩
  · unfold cutP
    rw [if_pos (by omega), if_pos (by omega), h2]
  · unfold cutF
    rw [if_pos (by omega), if_pos (by omega), h2, List.length_append]
    simp
theorem cut_end (c : UInt8) (l : List UInt8) : cutP c l (l.length + 1) = cutP c l l.length ++ [(l.take l.length).drop (cutF c l l.length)] ∧ cutF c l (l.length + 1) = l.length + 1 := by
  refine ⟨?_, by unfold cutF; rw [if_neg (by omega)]⟩
  rw [← cut_piece (Nat.le_refl _)]
  unfold cutP
  rw [if_neg (by omega), if_pos (Nat.le_refl _), List.take_length]
  rfl
theorem cutP_len (c : UInt8) (l : List UInt8) : ∀ i, i ≤ l.length + 1 → (cutP c l i).length ≤ i
  | 0, _ => by simp [cutP, cutS]
  | i + 1, h => by
    have ih := cutP_len c l i (by omega)
    by_cases hi : i < l.length
    · by_cases e : l[i] = c
      · rw [(cut_at hi e).1, List.length_append]; simp; omega
      · rw [(cut_skip hi e).1]; omega
    · have : i = l.length := by omega
      subst this
      rw [(cut_end c l).1, List.length_append]; simp; omega
end
theorem cutL_len (c : UInt8) (l : List UInt8) : (cutL c l).length ≤ l.length + 1 := by
  have h := cutP_len c l (l.length + 1) (Nat.le_refl _)
  unfold cutP at h
  rwa [if_neg (by omega)] at h
theorem row_grown {α β : Type} {f : α → Value} {d : α} {g : β → Value} {w w3 : World} {a : Option Addr} {xs : List α} {ys : List β} {e e' : TypeId} {lo : Nat} {v : Value} {o : Obj} (hr : RowOf f d w a xs) (ht : Tag w a e') (hg : GrowOf g lo e w v ys) (hne : e ≠ e') (hgrow : (w.alloc o).grownBy w3 v.ownBlock) : RowOf f d w3 a xs ∧ Tag w3 a e' := by
  have hb : ∀ b o' s, a = some ⟨b, o', s⟩ → w3.heap[b]? = w.heap[b]? := fun b o' s h => by
    have hlt := ht.lt h
    rw [hgrow.block b (by simp; omega) (ht.ne hg hne h), Below.heap_alloc _ _ _ hlt]
  refine ⟨fun i hi => ?_, ht.keep hb⟩
  obtain ⟨b, o', h1, h2⟩ := hr i hi
  exact ⟨b, o', h1, by rw [World.cell?_of_block (a := ⟨b, o' + i, none⟩) (hb b o' none h1)]; exact h2⟩
/-- A row of strings is returned, in new memory. -/
def StrsRet (w : World) (L : List ByteArray) (e : Ending) (w' : World) : Prop := ∃ a c, e = .returned (.slice a L.length c) ∧ w.Ext w' ∧ OwnOf Value.string ByteArray.empty w.heap.size w'.heap.size w' a L ∧ Tag w' a 9
set_option maxRecDepth 5000 in
set_option maxHeartbeats 1600000 in
theorem l01Cut_any (s : ByteArray) (ch : UInt8) (w : World) (hs : s.size ≤ 1048576) :
    Calls Tryd.prog 93 #[.string s, .int .u8 (ch.toNat : Int)] w (StrsRet w ((cutL ch s.data.toList).map bstr)) := by
  obtain ⟨is, his, hs0, hs1, hs2⟩ := info_parts Tryd.infoStr
  obtain ⟨l, hl⟩ : ∃ l, l = s.data.toList := ⟨_, rfl⟩
  have hll : l.length = s.size := by rw [hl, Array.length_toList]; rfl
  have HLL := Lib.hid hll
  have HEX : Hid (∀ a b, s.extract a b = bstr ((l.take b).drop a)) := fun a b => by rw [hl]; exact ext_bstr s a b
  have HBY : Hid (∀ i, (hi : i < s.size) → ∃ h2 : i < l.length, s[i]'hi = l[i]) := fun i hi => ⟨by omega, by subst hl; rfl⟩
  have HG0 : Hid (GrowOf Value.string w.heap.size 9 (w.alloc (.cells #[] 9)) (.slice (some ⟨w.heap.size, 0, none⟩) 0 0) ((cutP ch l 0).map bstr)) := GrowOf.empty (f := Value.string) (lo := w.heap.size) (e := 9) w (Nat.le_refl _)
  have HX0 : Hid (w.Ext (w.alloc (.cells #[] 9))) := by show w.Ext _; repeat (first | exact World.Ext.refl _ | exact ⟨_, rfl⟩ | assumption | refine World.Ext.over ?_ _ | refine World.Ext.drewN ?_ _ | refine World.Ext.drew ?_ | refine World.Ext.alloc ?_ _ | refine World.Ext.setCell ?_ (by simp) _)
  have HF0 : Hid (cutF ch l 0 = 0) := by show _ = _; unfold cutF; rw [if_pos (Nat.zero_le _)]; omega
  rw [← hl]
  clear hl hll
  have hss : s.size ≤ 1048576 := hs
  go_enter Tryd.func93, Tryd.ntmps93
  go_wp2
  go_loopw [5, 6, 7] (fun v f i wr => ∃ k : Nat, k ≤ s.size + 1 ∧ i = .int .i64 k ∧ f = .int .i64 (cutF ch l k) ∧ Hid (w.Ext wr ∧ GrowOf Value.string w.heap.size 9 wr v ((cutP ch l k).map bstr))) (fun _ _ i _ => s.size + 1 - (intOf i).toNat)
  case atStart => exact ⟨0, Nat.zero_le _, rfl, by rw [HF0.out]; rfl, HX0.out, HG0.out⟩
  case round =>
    clear HX0 HG0 HF0
    obtain ⟨k, hk, rfl, rfl, HS⟩ := hrel
    obtain ⟨wo, rfl⟩ : ∃ wo : World, wo = wr := ⟨_, rfl⟩
    have hk0 : (0 : Int) ≤ (k : Int) := by omega
    have hfk := cutF_le ch l k
    by_cases hle : k ≤ s.size
    · have hle' : (k : Int) ≤ (s.size : Int) := by omega
      have hpl := cutP_len ch l k (by rw [HLL.out]; omega)
      by_cases hmk : k = s.size ∨ (∃ h : k < s.size, s[k]'h = ch)
      · have HST : Hid (cutP ch l (k + 1) = cutP ch l k ++ [(l.take k).drop (cutF ch l k)] ∧ cutF ch l (k + 1) = k + 1) := by
          rcases hmk with h | ⟨h, e⟩
          · have h3 : k = l.length := by rw [HLL.out]; exact h
            rw [h3]
            exact cut_end ch l
          · obtain ⟨h2, h3⟩ := HBY.out k h
            exact cut_at h2 (by rw [← h3, e])
        have HEXK := Lib.hid (HEX.out (cutF ch l k) k)
        have hown := HS.out.2
        unfold GrowOf at hown
        obtain ⟨n, hn⟩ : ∃ n, n = (cutP ch l k).length := ⟨_, rfl⟩
        have HLK : Hid (((cutP ch l k).map bstr).length = n) := by show _ = _; rw [List.length_map, hn]
        rw [HLK.out] at hown
        have hn1 : n ≤ k := by rw [hn]; exact hpl
        have HY1 : Hid (n + 1 ≤ maxLen) := by show _ ≤ _; unfold maxLen; omega
        have HY2 : Hid ((n + 1) * 16 ≤ 140737488355328) := by show _ ≤ _; omega
        have HLE : Hid (∀ o : Obj, w.heap.size ≤ (wo.alloc o).heap.size) := fun o => (HS.out.1.alloc o).size
        have HNEXT : Hid (∀ (o : Obj) (v' : Value) (w1 : World), (wo.alloc o).grownBy w1 u5.ownBlock → w1.ownsRow w.heap.size 9 1 v' (n + 1) (((cutP ch l k).map bstr).map Value.string ++ [Value.string (s.extract (cutF ch l k) k)]) → w.Ext w1 ∧ GrowOf Value.string w.heap.size 9 w1 v' ((cutP ch l (k + 1)).map bstr)) := fun o v' w1 hgrow hown' => by
          refine ⟨HS.out.2.pushExt HS.out.1 hgrow, ?_⟩
          rw [HST.out.1, List.map_append]
          rw [HEXK.out] at hown'
          exact GrowOf.push (by rw [HLK.out]; exact hown')
        have HF1 := Lib.hid HST.out.2
        clear HS hn HLK HEXK HST hpl
        generalize cutF ch l k = F at *
        have hf2 : (F : Int) ≤ (k : Int) := by omega
        have hf0 : (0 : Int) ≤ (F : Int) := by omega
        rcases hmk with h | ⟨h, e⟩
        · have hb : ((k : Int) == (s.size : Int)) = true := by rw [beq_iff_eq]; omega
          clear h
          go_wp2_with ((at_builtin; refine wpList_append_own _ rfl _ _ 34 rfl w.heap.size 9 is (.string ByteArray.empty) 1 16 Tryd.underlying34 his hs0 hs1 hs2 rfl (by decide) _ _ _ rfl (hown.alloc _) ⟨wo.heap.size, 0, none⟩ 1 1 [.string (s.extract F k)] rfl rfl (cell_one_new _ _ _) (by simp [Value.oneCell']) HY1.out HY2.out (HLE.out _) (fun v' w1 hown' hgrow _ => ?_)); go_loud (have HRN := Lib.hid (HNEXT.out _ _ _ hgrow hown'); clear hown' hgrow))
          go_roundw
          case rel => exact ⟨k + 1, by omega, by go_num, by rw [HF1.out]; go_num, HRN.out⟩
          case measure => simp [intOf]; omega
        · have hb : ((k : Int) == (s.size : Int)) = false := by rw [beq_eq_false_iff_ne]; omega
          have hlt : (k : Int) < (s.size : Int) := by omega
          have he : ((((s[k]'h).toNat : Nat) : Int) == (ch.toNat : Int)) = true := by rw [e, beq_iff_eq]
          go_wp2_with ((at_builtin; refine wpList_append_own _ rfl _ _ 34 rfl w.heap.size 9 is (.string ByteArray.empty) 1 16 Tryd.underlying34 his hs0 hs1 hs2 rfl (by decide) _ _ _ rfl (hown.alloc _) ⟨wo.heap.size, 0, none⟩ 1 1 [.string (s.extract F k)] rfl rfl (cell_one_new _ _ _) (by simp [Value.oneCell']) HY1.out HY2.out (HLE.out _) (fun v' w1 hown' hgrow _ => ?_)); go_loud (have HRN := Lib.hid (HNEXT.out _ _ _ hgrow hown'); clear hown' hgrow))
          go_roundw
          case rel => exact ⟨k + 1, by omega, by go_num, by rw [HF1.out]; go_num, HRN.out⟩
          case measure => simp [intOf]; omega
      · have hks : k < s.size := by
          rcases Nat.lt_or_eq_of_le hle with h | h
          · exact h
          · exact absurd (.inl h) hmk
        have hne : s[k] ≠ ch := fun e => hmk (.inr ⟨hks, e⟩)
        obtain ⟨h2, h3⟩ := HBY.out k hks
        have HST := Lib.hid (cut_skip (c := ch) h2 (by rw [← h3]; exact hne))
        have hb : ((k : Int) == (s.size : Int)) = false := by rw [beq_eq_false_iff_ne]; omega
        have hlt : (k : Int) < (s.size : Int) := by omega
        have he : ((((s[k]'hks).toNat : Nat) : Int) == (ch.toNat : Int)) = false := by
          rw [beq_eq_false_iff_ne]
          intro h
          exact hne (UInt8.toNat_inj.1 (by omega))
        have HS2 : Hid (w.Ext wo ∧ GrowOf Value.string w.heap.size 9 wo u5 ((cutP ch l (k + 1)).map bstr)) := by rw [HST.out.1]; exact HS.out
        clear HS hpl hmk hne h3
        go_wp2
        go_roundw
        case rel => exact ⟨k + 1, by omega, by go_num, by rw [HST.out.2], HS2⟩
        case measure => simp [intOf]; omega
    · have : k = s.size + 1 := by omega
      have hg := HS.out.2
      have e : cutP ch l k = cutL ch l := by unfold cutP; rw [if_neg (by rw [HLL.out]; omega)]
      rw [e] at hg
      have hle' : ¬ (k : Int) ≤ (s.size : Int) := by omega
      obtain ⟨a5, c5, rfl, _⟩ := hg.form
      have HF : Hid (StrsRet w ((cutL ch l).map bstr) (.returned (.slice a5 ((cutL ch l).map bstr).length c5)) wo) := ⟨a5, c5, rfl, HS.out.1, hg.own ByteArray.empty, hg.tag⟩
      generalize ((cutL ch l).map bstr).length = N at *
      clear hg HS e
      go_wp2
      go_ret
      exact HF.out
/-- What the digits of a text spell. -/
def valS (a : Nat) (b : UInt8) : Nat := if 48 ≤ b.toNat ∧ b.toNat ≤ 57 then 10 * a + (b.toNat - 48) else a
def valD (l : List UInt8) : Nat := l.foldl valS 0
theorem valD_succ (l : List UInt8) {i : Nat} (h : i < l.length) : valD (l.take (i + 1)) = valS (valD (l.take i)) l[i] := by
  unfold valD
  rw [List.take_succ_eq_append_getElem h, List.foldl_append]
  rfl
theorem valD_lt (l : List UInt8) : ∀ i, valD (l.take i) < 10 ^ i
  | 0 => by simp [valD]
  | i + 1 => by
    have ih := valD_lt l i
    by_cases h : i < l.length
    · rw [valD_succ l h, Nat.pow_succ]
      unfold valS
      split <;> omega
    · rw [List.take_of_length_le (by omega)]
      rw [List.take_of_length_le (by omega)] at ih
      rw [Nat.pow_succ]
      omega
theorem valD_digs : ∀ (u : Nat), valD (Lib.decDigits u) = u
  | u => by
    have one : ∀ (a d : Nat), d < 10 → valS a (UInt8.ofNat (48 + d)) = 10 * a + d := fun a d hd => by
      have e : (UInt8.ofNat (48 + d)).toNat = 48 + d := by simp; omega
      unfold valS
      rw [e, if_pos (by omega)]
      omega
    by_cases h : u < 10
    · rw [Lib.decDigits_one h]
      show valS 0 _ = _
      rw [one 0 u h]
      omega
    · have ih := valD_digs (u / 10)
      rw [Lib.decDigits, dif_neg h]
      unfold valD at ih ⊢
      rw [List.foldl_append, ih]
      show valS (u / 10) _ = _
      rw [one _ _ (Nat.mod_lt _ (by omega))]
      omega
termination_by u => u
decreasing_by omega
theorem valD_itoa (n : Int) : valD (Lib.itoa n) = n.natAbs ∧ (n < 0 ↔ (Lib.itoa n).getD 0 0 = 45) := by
  by_cases h : n < 0
  · obtain ⟨u, hu⟩ := Int.eq_ofNat_of_zero_le (show 0 ≤ -n by omega)
    have hn : n = -(u : Int) := by omega
    subst hn
    rw [Lib.itoa_neg u (by omega)]
    refine ⟨?_, by simpa using h⟩
    show (Lib.decDigits u).foldl valS (valS 0 45) = _
    have e : valS 0 45 = 0 := by decide
    rw [e]
    have := valD_digs u
    unfold valD at this
    rw [this]
    omega
  · obtain ⟨u, hu⟩ := Int.eq_ofNat_of_zero_le (show 0 ≤ n by omega)
    subst hu
    rw [Lib.itoa_nonneg, valD_digs]
    refine ⟨by omega, ⟨fun h2 => by omega, fun h2 => ?_⟩⟩
    have hr := digs_range u
    cases hl : Lib.decDigits u with
    | nil => exact absurd hl (digs_ne u)
    | cons b r =>
      rw [hl] at hr h2
      have hb := hr b (List.mem_cons_self ..)
      have h2 : b = 45 := h2
      rw [h2] at hb
      have : (45 : UInt8).toNat = 45 := rfl
      omega
/-- The number that a text would have. -/
def valZ (l : List UInt8) : Int := if l.getD 0 0 = 45 then -(valD l : Int) else (valD l : Int)
theorem valZ_of {l : List UInt8} {n : Int} (h : IsDec l n) : valZ l = n := by
  obtain ⟨h1, h2⟩ := valD_itoa n
  rw [h.2.2] at h1 h2
  unfold valZ
  by_cases hn : n < 0
  · rw [if_pos (h2.1 hn), h1]; omega
  · rw [if_neg fun h3 => hn (h2.2 h3), h1]; omega
theorem rd_val {l : List UInt8} (h : ¬ (-1000000000 ≤ valZ l ∧ valZ l ≤ 1000000000 ∧ Lib.itoa (valZ l) = l)) (n : Int) : ¬ IsDec l n := fun hn => by
  have e := valZ_of hn
  rw [e] at h
  exact h hn
theorem dec_len {l : List UInt8} {n : Int} (h : IsDec l n) : 1 ≤ l.length ∧ l.length ≤ 11 := by
  rw [← h.2.2]
  obtain ⟨h1, h2, -⟩ := h
  have d : ∀ u : Nat, u ≤ 1000000000 → 1 ≤ (Lib.decDigits u).length ∧ (Lib.decDigits u).length ≤ 10 := fun u hu =>
    ⟨List.length_pos_iff.2 (digs_ne u), digs_le 9 u (by omega)⟩
  by_cases hn : n < 0
  · obtain ⟨u, hu⟩ := Int.eq_ofNat_of_zero_le (show 0 ≤ -n by omega)
    have hn2 : n = -(u : Int) := by omega
    subst hn2
    rw [Lib.itoa_neg u (by omega), List.length_cons]
    have := d u (by omega)
    omega
  · obtain ⟨u, hu⟩ := Int.eq_ofNat_of_zero_le (show 0 ≤ n by omega)
    subst hu
    rw [Lib.itoa_nonneg]
    have := d u (by omega)
    omega
theorem bytes_inj2 {s t : ByteArray} (h : s.toList = t.toList) : s = t := by
  rw [ByteArray.toList_eq, ByteArray.toList_eq] at h
  cases s
  cases t
  congr 1
  exact Array.toList_inj.1 h
/-- A number is read, or none. -/
def RdRet (w : World) (l : List UInt8) (e : Ending) (w' : World) : Prop := e = .returned (.tuple #[.int .i64 (rdV l), .bool (rdB l)]) ∧ w.Ext w'
theorem RdRet.no {w w' : World} {l : List UInt8} (h : ∀ n, ¬ IsDec l n) (hx : w.Ext w') : RdRet w l (.returned (.tuple #[.int .i64 0, .bool false])) w' := by
  obtain ⟨h1, h2⟩ := rd_no h
  unfold RdRet
  rw [h1, h2]
  exact ⟨rfl, hx⟩
theorem RdRet.yes {w w' : World} {l : List UInt8} {n : Int} (h : IsDec l n) (hx : w.Ext w') : RdRet w l (.returned (.tuple #[.int .i64 n, .bool true])) w' := by
  obtain ⟨h1, h2⟩ := rd_yes h
  unfold RdRet
  rw [h1, h2]
  exact ⟨rfl, hx⟩
set_option maxRecDepth 5000 in
set_option maxHeartbeats 1600000 in
theorem l01Value_any (s : ByteArray) (w : World) (hs : s.size ≤ 1048576) : Calls Tryd.prog 112 #[.string s] w (RdRet w s.data.toList) := by
  obtain ⟨l, hl⟩ : ∃ l, l = s.data.toList := ⟨_, rfl⟩
  have hll : l.length = s.size := by rw [hl, Array.length_toList]; rfl
  rw [← hl]
  by_cases hz : s.size < 1 ∨ 11 < s.size
  · have HNO : Hid (∀ n, ¬ IsDec l n) := fun n hn => by have := dec_len hn; omega
    clear hl hll
    rcases hz with hz | hz
    · have hz1 : (s.size : Int) < 1 := by omega
      go_enter Tryd.func112, Tryd.ntmps112
      go_wp2
      exact bodyPost_ret (v := .tuple #[.int .i64 0, .bool false]) (by simp [results, Tryd.results112, go_sem]) rfl (RdRet.no HNO.out (.refl _))
    · have hz1 : ¬ (s.size : Int) < 1 := by omega
      have hz2 : (11 : Int) < (s.size : Int) := by omega
      go_enter Tryd.func112, Tryd.ntmps112
      go_wp2
      exact bodyPost_ret (v := .tuple #[.int .i64 0, .bool false]) (by simp [results, Tryd.results112, go_sem]) rfl (RdRet.no HNO.out (.refl _))
  · have hz1 : ¬ (s.size : Int) < 1 := by omega
    have hz2 : ¬ (11 : Int) < (s.size : Int) := by omega
    have h0 : (0 : Int) < (s.size : Int) := by omega
    have h0n : 0 < s.size := by omega
    have HLL := Lib.hid hll
    have HBY : Hid (∀ i, (hi : i < s.size) → ∃ h2 : i < l.length, s[i]'hi = l[i]) := fun i hi => ⟨by omega, by subst hl; rfl⟩
    have HVL : Hid (∀ i, i ≤ s.size → valD (l.take i) < 100000000000) := fun i hi => by
      have h1 := valD_lt l i
      have h2 : (10 : Nat) ^ i ≤ 10 ^ 11 := Nat.pow_le_pow_right (by omega) (by omega)
      omega
    have HVA : Hid (valD (l.take s.size) = valD l) := by show _ = _; rw [List.take_of_length_le (by omega)]
    have HSL : Hid (bstr l = s) := by show _ = _; rw [hl]; exact bstr_data s
    have HH : Hid ((((s[0]'h0n).toNat : Nat) : Int) = 45 ↔ l.getD 0 0 = 45) := by
      obtain ⟨h2, h3⟩ := HBY.out 0 h0n
      show _ ↔ _
      rw [h3, List.getD_eq_getElem?_getD, List.getElem?_eq_getElem h2]
      constructor
      · intro h
        have h' : l[0].toNat = 45 := by exact_mod_cast h
        have h5 : l[0].toNat = (45 : UInt8).toNat := h'
        exact UInt8.toNat_inj.1 h5
      · intro h
        have h : l[0] = 45 := h
        rw [h]
        rfl
    clear hl hll
    go_enter Tryd.func112, Tryd.ntmps112
    go_wp2
    go_loopw [4, 5] (fun v i wr => ∃ k : Nat, k ≤ s.size ∧ i = .int .i64 k ∧ v = .int .i64 (valD (l.take k)) ∧ Hid (w.Ext wr)) (fun _ i _ => s.size - (intOf i).toNat)
    case atStart => exact ⟨0, Nat.zero_le _, rfl, rfl, .refl _⟩
    case round =>
      obtain ⟨k, hk, rfl, rfl, HX⟩ := hrel
      obtain ⟨wo, rfl⟩ : ∃ wo : World, wo = wr := ⟨_, rfl⟩
      have hk0 : (0 : Int) ≤ (k : Int) := by omega
      have hV := HVL.out k hk
      by_cases hlt : k < s.size
      · have hlt' : (k : Int) < (s.size : Int) := by omega
        obtain ⟨h2, h3⟩ := HBY.out k hlt
        have HVN := Lib.hid (valD_succ l h2)
        rw [← h3] at HVN
        clear h2 h3
        generalize valD (l.take k) = V at *
        by_cases hb1 : 48 ≤ (s[k]'hlt).toNat
        · have hb1' : (48 : Int) ≤ (((s[k]'hlt).toNat : Nat) : Int) := by omega
          by_cases hb2 : (s[k]'hlt).toNat ≤ 57
          · have hb2' : (((s[k]'hlt).toNat : Nat) : Int) ≤ 57 := by omega
            have HVN2 : Hid (valD (l.take (k + 1)) = 10 * V + ((s[k]'hlt).toNat - 48)) := by show _ = _; rw [HVN.out]; unfold valS; rw [if_pos ⟨hb1, hb2⟩]
            clear HVN
            go_wp2
            go_roundw
            case rel => exact ⟨k + 1, by omega, by go_num, congrArg (Value.int .i64) (by have := HVN2.out; omega), HX⟩
            case measure => simp [intOf]; omega
          · have hb2' : ¬ (((s[k]'hlt).toNat : Nat) : Int) ≤ 57 := by omega
            have HVN2 : Hid (valD (l.take (k + 1)) = V) := by show _ = _; rw [HVN.out]; unfold valS; rw [if_neg fun h => hb2 h.2]
            clear HVN
            go_wp2
            go_roundw
            case rel => exact ⟨k + 1, by omega, by go_num, by rw [HVN2.out], HX⟩
            case measure => simp [intOf]; omega
        · have hb1' : ¬ (48 : Int) ≤ (((s[k]'hlt).toNat : Nat) : Int) := by omega
          have HVN2 : Hid (valD (l.take (k + 1)) = V) := by show _ = _; rw [HVN.out]; unfold valS; rw [if_neg fun h => hb1 h.1]
          clear HVN
          go_wp2
          go_roundw
          case rel => exact ⟨k + 1, by omega, by go_num, by rw [HVN2.out], HX⟩
          case measure => simp [intOf]; omega
      · have hke : k = s.size := by omega
        subst hke
        have hlt' : ¬ (s.size : Int) < (s.size : Int) := by omega
        rw [HVA.out] at hV ⊢
        obtain ⟨z, hz⟩ : ∃ z, z = valZ l := ⟨_, rfl⟩
        have HZ := Lib.hid hz
        have hzb : -100000000000 < z ∧ z < 100000000000 := by rw [hz]; unfold valZ; split <;> omega
        obtain ⟨hzb1, hzb2⟩ := hzb
        obtain ⟨t, ht⟩ : ∃ t, inB z (-1000000000) 1000000000 = t := ⟨_, rfl⟩
        have HIN := Lib.hid (fun w' => l00In_any z (-1000000000) 1000000000 w' t ht)
        have HNEG : Hid ((((s[0]'h0n).toNat : Nat) : Int) = 45 → z = -(valD l : Int)) := fun h => by rw [hz]; unfold valZ; rw [if_pos (HH.out.1 h)]
        have HPOS : Hid (¬ (((s[0]'h0n).toNat : Nat) : Int) = 45 → z = (valD l : Int)) := fun h => by rw [hz]; unfold valZ; rw [if_neg fun h2 => h (HH.out.2 h2)]
        have HNO1 : Hid (t = false → ∀ n, ¬ IsDec l n) := fun h => rd_val fun h2 => by
          rw [← hz] at h2
          rw [h] at ht
          have : inB z (-1000000000) 1000000000 = true := inB_true.2 ⟨h2.1, h2.2.1⟩
          rw [this] at ht
          cases ht
        have HDC : Hid (t = true → ∀ w', Calls Tryd.prog 99 #[.int .i64 z] w' fun e w'' => e = .returned (.string (bstr (Lib.itoa z))) ∧ w'.Ext w'') := fun h w' => by
          rw [h] at ht
          have h2 := inB_true.1 ht
          exact l01Dec_any z w' h2.1 h2.2
        have HNO2 : Hid (bstr (Lib.itoa z) ≠ s → ∀ n, ¬ IsDec l n) := fun h => rd_val fun h2 => h (by rw [← hz] at h2; rw [h2.2.2]; exact HSL.out)
        have HYS : Hid (t = true → bstr (Lib.itoa z) = s → IsDec l z) := fun h h2 => by
          rw [h] at ht
          have h3 := inB_true.1 ht
          refine ⟨h3.1, h3.2, ?_⟩
          rw [← HSL.out] at h2
          have h4 := congrArg (fun b => b.data.toList) h2
          simpa [bstr] using h4
        clear hz ht HZ
        generalize valD l = V at *
        by_cases h45 : (((s[0]'h0n).toNat : Nat) : Int) = 45
        · have hzn := HNEG.out h45
          have hb45 : ((((s[0]'h0n).toNat : Nat) : Int) == 45) = true := by rw [beq_iff_eq]; exact h45
          clear HNEG HPOS
          subst hzn
          go_wp2_with fail
          refine (HIN.out wo).mono ?_
          rintro e w1 ⟨rfl, hx1⟩
          have HX1 := Lib.hid (HX.out.trans hx1)
          clear hx1 HIN
          cases t
          · have HN := Lib.hid (HNO1.out rfl)
            clear HNO1 HDC HNO2 HYS
            go_wp2
            exact bodyPost_ret (v := .tuple #[.int .i64 0, .bool false]) (by simp [results, Tryd.results112, go_sem]) rfl (RdRet.no HN.out HX1.out)
          · have HDC1 := Lib.hid (HDC.out rfl)
            have HYS1 := Lib.hid (HYS.out rfl)
            clear HNO1 HDC HYS
            go_wp2_with fail
            refine (HDC1.out w1).mono ?_
            rintro e w2 ⟨rfl, hx2⟩
            have HX2 := Lib.hid (HX1.out.trans hx2)
            clear hx2 HDC1
            generalize bstr (Lib.itoa (-(V : Int))) = ds at *
            by_cases hq : ds = s
            · have HY := Lib.hid (HYS1.out hq)
              have hqb : (ds.toList == s.toList) = true := by rw [hq, beq_iff_eq]
              clear HYS1 HNO2 hq
              go_wp2
              exact bodyPost_ret (v := .tuple #[.int .i64 (-(V : Int)), .bool true]) (by simp [results, Tryd.results112, go_sem]) rfl (RdRet.yes HY.out HX2.out)
            · have HN := Lib.hid (HNO2.out hq)
              have hqb : (ds.toList == s.toList) = false := by
                rw [beq_eq_false_iff_ne]
                intro h
                exact hq (bytes_inj2 h)
              clear HYS1 HNO2
              go_wp2
              exact bodyPost_ret (v := .tuple #[.int .i64 0, .bool false]) (by simp [results, Tryd.results112, go_sem]) rfl (RdRet.no HN.out HX2.out)
        · have hzn := HPOS.out h45
          have hb45 : ((((s[0]'h0n).toNat : Nat) : Int) == 45) = false := by rw [beq_eq_false_iff_ne]; exact h45
          clear HNEG HPOS
          subst hzn
          go_wp2_with fail
          refine (HIN.out wo).mono ?_
          rintro e w1 ⟨rfl, hx1⟩
          have HX1 := Lib.hid (HX.out.trans hx1)
          clear hx1 HIN
          cases t
          · have HN := Lib.hid (HNO1.out rfl)
            clear HNO1 HDC HNO2 HYS
            go_wp2
            exact bodyPost_ret (v := .tuple #[.int .i64 0, .bool false]) (by simp [results, Tryd.results112, go_sem]) rfl (RdRet.no HN.out HX1.out)
          · have HDC1 := Lib.hid (HDC.out rfl)
            have HYS1 := Lib.hid (HYS.out rfl)
            clear HNO1 HDC HYS
            go_wp2_with fail
            refine (HDC1.out w1).mono ?_
            rintro e w2 ⟨rfl, hx2⟩
            have HX2 := Lib.hid (HX1.out.trans hx2)
            clear hx2 HDC1
            generalize bstr (Lib.itoa (V : Int)) = ds at *
            by_cases hq : ds = s
            · have HY := Lib.hid (HYS1.out hq)
              have hqb : (ds.toList == s.toList) = true := by rw [hq, beq_iff_eq]
              clear HYS1 HNO2 hq
              go_wp2
              exact bodyPost_ret (v := .tuple #[.int .i64 (V : Int), .bool true]) (by simp [results, Tryd.results112, go_sem]) rfl (RdRet.yes HY.out HX2.out)
            · have HN := Lib.hid (HNO2.out hq)
              have hqb : (ds.toList == s.toList) = false := by
                rw [beq_eq_false_iff_ne]
                intro h
                exact hq (bytes_inj2 h)
              clear HYS1 HNO2
              go_wp2
              exact bodyPost_ret (v := .tuple #[.int .i64 0, .bool false]) (by simp [results, Tryd.results112, go_sem]) rfl (RdRet.no HN.out HX2.out)
end Go.Proofs.YthgkmaccbcpaeaaDoor
