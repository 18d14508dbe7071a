/- Lists of numbers are read: the reference. -/
import Derived.Test.YthgkmaccbcpaeaaDoorRdgS
namespace Go.Proofs.YthgkmaccbcpaeaaDoor
open Go Go.RowKit
def noneS : List UInt8 := [110, 111, 110, 101]
noncomputable def lsB (l : List UInt8) : Bool := if l = noneS then true else decide ((cutL 44 l).length ≤ 300) && (cutL 44 l).all rdB
noncomputable def lsV (l : List UInt8) : List Int := if lsB l then (if l = noneS then [] else (cutL 44 l).map rdV) else []
theorem ls_none {l : List UInt8} (h : l = noneS) : lsB l = true ∧ lsV l = [] := by
  have h1 : lsB l = true := by unfold lsB; rw [if_pos h]
  refine ⟨h1, ?_⟩
  unfold lsV
  rw [h1, if_pos rfl, if_pos h]
theorem ls_many {l : List UInt8} (h : l ≠ noneS) (h2 : 300 < (cutL 44 l).length) : lsB l = false ∧ lsV l = [] := by
  have h1 : lsB l = false := by unfold lsB; rw [if_neg h, decide_eq_false (by omega)]; rfl
  refine ⟨h1, ?_⟩
  unfold lsV
  rw [h1]
  rfl
theorem ls_bad {l : List UInt8} (h : l ≠ noneS) {k : Nat} (hk : k < (cutL 44 l).length) (h2 : rdB ((cutL 44 l).getD k []) = false) : lsB l = false ∧ lsV l = [] := by
  have h1 : lsB l = false := by
    unfold lsB
    rw [if_neg h]
    have : (cutL 44 l).all rdB = false := by
      rw [Bool.eq_false_iff]
      intro h3
      have := (all_getD (d := [])).1 h3 k hk
      rw [h2] at this
      cases this
    rw [this, Bool.and_false]
  refine ⟨h1, ?_⟩
  unfold lsV
  rw [h1]
  rfl
theorem ls_all {l : List UInt8} (h : l ≠ noneS) (h2 : (cutL 44 l).length ≤ 300) (h3 : ∀ k, k < (cutL 44 l).length → rdB ((cutL 44 l).getD k []) = true) : lsB l = true ∧ lsV l = (cutL 44 l).map rdV := by
  have h1 : lsB l = true := by
    unfold lsB
    rw [if_neg h, decide_eq_true h2, Bool.true_and]
    exact (all_getD (d := [])).2 h3
  refine ⟨h1, ?_⟩
  unfold lsV
  rw [h1, if_pos rfl, if_neg h]
/-- A list of numbers is read, or none. -/
def LsRet (w : World) (l : List UInt8) (e : Ending) (w' : World) : Prop := ∃ a c, e = .returned (.tuple #[.slice a (lsV l).length c, .bool (lsB l)]) ∧ w.Ext w' ∧ GrowOf (Value.int .i64) w.heap.size 2 w' (.slice a (lsV l).length c) (lsV l)
theorem LsRet.no {w w' : World} {l : List UInt8} (h : lsB l = false ∧ lsV l = []) (hx : w.Ext w') : LsRet w l (.returned (.tuple #[.slice none 0 0, .bool false])) w' := by
  refine ⟨none, 0, ?_, hx, ?_⟩
  · rw [h.1, h.2]; rfl
  · rw [h.2]; exact GrowOf.nilStart _ _ _
theorem str_none (s : ByteArray) : (s.toList == [110, 111, 110, 101]) = decide (s.data.toList = noneS) := by
  rw [ByteArray.toList_eq]
  by_cases h : s.data.toList = noneS
  · rw [decide_eq_true h, beq_iff_eq, h]
    rfl
  · rw [decide_eq_false h, beq_eq_false_iff_ne]
    exact h
theorem cutP_piece (c : UInt8) (l : List UInt8) : ∀ i, i ≤ l.length + 1 → ∀ x, x ∈ cutP c l i → x.length ≤ l.length
  | 0, _, x, hx => by
    unfold cutP at hx
    rw [if_pos (Nat.zero_le _)] at hx
    simp [cutS] at hx
  | i + 1, h, x, hx => by
    have ih := cutP_piece c l i (by omega) x
    have one : ∀ j, ((l.take j).drop (cutF c l j)).length ≤ l.length := fun j => by rw [List.length_drop, List.length_take]; omega
    by_cases hi : i < l.length
    · by_cases e : l[i] = c
      · rw [(cut_at hi e).1] at hx
        rcases List.mem_append.1 hx with h1 | h1
        · exact ih h1
        · rw [List.mem_singleton.1 h1]; exact one i
      · rw [(cut_skip hi e).1] at hx
        exact ih hx
    · have : i = l.length := by omega
      subst this
      rw [(cut_end c l).1] at hx
      rcases List.mem_append.1 hx with h1 | h1
      · exact ih h1
      · rw [List.mem_singleton.1 h1]; exact one _
theorem cutL_piece (c : UInt8) (l : List UInt8) (k : Nat) : ((cutL c l).getD k []).length ≤ l.length := by
  by_cases hk : k < (cutL c l).length
  · rw [List.getD_eq_getElem?_getD, List.getElem?_eq_getElem hk]
    refine cutP_piece c l (l.length + 1) (Nat.le_refl _) _ ?_
    unfold cutP
    rw [if_neg (by omega)]
    exact List.getElem_mem hk
  · rw [List.getD_eq_getElem?_getD, List.getElem?_eq_none (by omega)]
    exact Nat.zero_le _
set_option maxRecDepth 5000 in
set_option maxHeartbeats 1600000 in
theorem l01Numbers_any (s : ByteArray) (w : World) (hs : s.size ≤ 1048576) : Calls Tryd.prog 94 #[.string s] w (LsRet w s.data.toList) := by
  obtain ⟨i0, hi, hz0, hz1, hz2⟩ := info_parts Tryd.infoI64
  have hst := str_none s
  have HCT : Hid (∀ w', Calls Tryd.prog 93 #[.string s, .int .u8 44] w' (StrsRet w' ((cutL 44 s.data.toList).map bstr))) := fun w' => l01Cut_any s 44 w' hs
  have HPC : Hid (∀ k, k < (cutL 44 s.data.toList).length → ((cutL 44 s.data.toList).getD k []).length ≤ 1048576) := fun k hk => Nat.le_trans (cutL_piece 44 _ k) (by rw [Array.length_toList]; exact hs)
  obtain ⟨l, hl⟩ : ∃ l, l = s.data.toList := ⟨_, rfl⟩
  rw [← hl] at hst HCT HPC ⊢
  clear hl
  have HG0 : Hid (GrowOf (Value.int .i64) w.heap.size 2 (w.alloc (.cells #[] 2)) (.slice (some ⟨w.heap.size, 0, none⟩) 0 0) []) := GrowOf.empty (f := Value.int .i64) (lo := w.heap.size) (e := 2) w (Nat.le_refl _)
  have HX0 : Hid (w.Ext (w.alloc (.cells #[] 2))) := by show w.Ext _; repeat (first | exact World.Ext.refl _ | exact ⟨_, rfl⟩ | assumption | refine World.Ext.over ?_ _ | refine World.Ext.drewN ?_ _ | refine World.Ext.drew ?_ | refine World.Ext.alloc ?_ _ | refine World.Ext.setCell ?_ (by simp) _)
  by_cases hn : l = noneS
  · rw [decide_eq_true hn] at hst
    have HF : Hid (LsRet w l (.returned (.tuple #[.slice (some ⟨w.heap.size, 0, none⟩) 0 0, .bool true])) (w.alloc (.cells #[] 2))) := by
      obtain ⟨h1, h2⟩ := ls_none hn
      refine ⟨some ⟨w.heap.size, 0, none⟩, 0, ?_, HX0.out, ?_⟩
      · rw [h1, h2]; rfl
      · rw [h2]; exact HG0.out
    clear hn HCT HPC HG0 HX0
    go_enter Tryd.func94, Tryd.ntmps94
    go_wp2
    exact bodyPost_ret (v := .tuple #[.slice (some ⟨w.heap.size, 0, none⟩) 0 0, .bool true]) (by simp [results, Tryd.results94, go_sem]) rfl HF.out
  · rw [decide_eq_false hn] at hst
    have HMANY : Hid (300 < (cutL 44 l).length → lsB l = false ∧ lsV l = []) := fun h => ls_many hn h
    have HBAD : Hid (∀ k, k < (cutL 44 l).length → rdB ((cutL 44 l).getD k []) = false → lsB l = false ∧ lsV l = []) := fun k hk h => ls_bad hn hk h
    have HALL : Hid ((cutL 44 l).length ≤ 300 → (∀ k, k < (cutL 44 l).length → rdB ((cutL 44 l).getD k []) = true) → lsB l = true ∧ lsV l = (cutL 44 l).map rdV) := fun h h2 => ls_all hn h h2
    generalize cutL 44 l = L at *
    clear hn
    obtain ⟨n, hnl⟩ : ∃ n, n = (L.map bstr).length := ⟨_, rfl⟩
    have hnl2 : L.length = n := by rw [hnl, List.length_map]
    have HLN := Lib.hid hnl2
    rw [hnl2] at HPC HMANY HBAD HALL
    have HC1 := Lib.hid (HCT.out (w.alloc (.cells #[] 2)))
    clear HCT hnl2
    go_enter Tryd.func94, Tryd.ntmps94
    go_wp2_with fail
    refine HC1.out.mono ?_
    rintro e w1 ⟨a1, c1, rfl, hx1, ho1, hta1⟩
    rw [← hnl]
    have HNL : Hid (n = (L.map bstr).length) := hnl
    have HX1 := Lib.hid (HX0.out.trans hx1)
    have HG1 := Lib.hid (HG0.out.ext hx1)
    have HR1 : Hid (RowS w1 a1 (L.map bstr) ∧ Tag w1 a1 9) := ⟨ho1.row, hta1⟩
    clear hx1 ho1 hnl HG0 HX0 HC1 hta1
    by_cases hmany : 300 < n
    · have HF := Lib.hid (HMANY.out hmany)
      have hm2 : (300 : Int) < (n : Int) := by omega
      clear HMANY HBAD HALL
      go_wp2
      exact bodyPost_ret (v := .tuple #[.slice none 0 0, .bool false]) (by simp [results, Tryd.results94, go_sem]) rfl (LsRet.no HF.out HX1.out)
    · have hm2 : ¬ (300 : Int) < (n : Int) := by omega
      go_wp2
      go_loopw [4, 6, 7, 8] (fun v i _ _ wr => ∃ k : Nat, k ≤ n ∧ i = .int .i64 k ∧ Hid ((∀ r, r < k → rdB (L.getD r []) = true) ∧ w.Ext wr ∧ GrowOf (Value.int .i64) w.heap.size 2 wr v ((L.take k).map rdV) ∧ RowS wr a1 (L.map bstr) ∧ Tag wr a1 9)) (fun _ i _ _ _ => n - (intOf i).toNat)
      case atStart => exact ⟨0, Nat.zero_le _, rfl, (fun r hr => by omega), HX1.out, HG1.out, HR1.out⟩
      case round =>
        clear HG1
        obtain ⟨k, hk, rfl, HS⟩ := hrel
        obtain ⟨wo, rfl⟩ : ∃ wo : World, wo = wr := ⟨_, rfl⟩
        have hk0 : (0 : Int) ≤ (k : Int) := by omega
        by_cases hlt : k < n
        · have hlt' : (k : Int) < (n : Int) := by omega
          obtain ⟨b, of0, rfl, hc⟩ := HS.out.2.2.2.1 k (by rw [← HNL.out]; exact hlt)
          have lb := World.block_lt_of_cell? _ _ hc
          rw [getD_map bstr L k [] _ (by rw [HLN.out]; exact hlt)] at hc
          have hv := l01Value_any (bstr (L.getD k [])) wo (by rw [bstr_size]; exact HPC.out k hlt)
          rw [bstr_bytes] at hv
          have HV := Lib.hid hv
          obtain ⟨z, hz⟩ : ∃ z, z = rdV (L.getD k []) := ⟨_, rfl⟩
          obtain ⟨t, ht⟩ : ∃ t, t = rdB (L.getD k []) := ⟨_, rfl⟩
          have HT := Lib.hid ht
          have HNX : Hid ((L.take k).map rdV ++ [z] = (L.take (k + 1)).map rdV) := by
            show _ = _
            rw [hz, List.take_succ_eq_append_getElem (by rw [HLN.out]; exact hlt), List.map_append, List.getD_eq_getElem?_getD, List.getElem?_eq_getElem (by rw [HLN.out]; exact hlt)]
            rfl
          have HLK : Hid (((L.take k).map rdV).length = k) := by show _ = _; rw [List.length_map, List.length_take, HLN.out]; omega
          unfold RdRet at HV
          rw [← hz, ← ht] at HV
          clear hv hz ht
          generalize bstr (L.getD k []) = sk at *
          go_wp2_with fail
          refine HV.out.mono ?_
          rintro e w2 ⟨rfl, hx2⟩
          have HS2 : Hid (w.Ext w2 ∧ GrowOf (Value.int .i64) w.heap.size 2 w2 u4 ((L.take k).map rdV) ∧ RowS w2 (some ⟨b, of0, none⟩) (L.map bstr) ∧ Tag w2 (some ⟨b, of0, none⟩) 9) := ⟨HS.out.2.1.trans hx2, HS.out.2.2.1.ext hx2, RowOf.ext HS.out.2.2.2.1 hx2, HS.out.2.2.2.2.ext hx2⟩
          have HOK := Lib.hid HS.out.1
          clear HS hx2 HV hc lb
          cases t
          · have HF := Lib.hid (HBAD.out k hlt HT.out.symm)
            have HX3 := Lib.hid HS2.out.1
            clear HMANY HBAD HALL HOK HNX HLK
            go_wp2
            exact bodyPost_ret (v := .tuple #[.slice none 0 0, .bool false]) (by simp [results, Tryd.results94, go_sem]) rfl (LsRet.no HF.out HX3.out)
          · have HOK2 : Hid (∀ r, r < k + 1 → rdB (L.getD r []) = true) := fun r hr => by
              by_cases e : r = k
              · rw [e]; exact HT.out.symm
              · exact HOK.out r (by omega)
            have hown := HS2.out.2.1
            unfold GrowOf at hown
            rw [HLK.out] at hown
            have HY1 : Hid (k + 1 ≤ maxLen) := by show _ ≤ _; unfold maxLen; omega
            have HY2 : Hid ((k + 1) * 1 ≤ 140737488355328) := by show _ ≤ _; omega
            have HY3 : Hid ((k + 1) * 8 ≤ 140737488355328) := by show _ ≤ _; omega
            have HLE : Hid (∀ o : Obj, w.heap.size ≤ (w2.alloc o).heap.size) := fun o => (HS2.out.1.alloc o).size
            have HNEXT : Hid (∀ (o : Obj) (v' : Value) (w3 : World), (w2.alloc o).grownBy w3 u4.ownBlock → w3.ownsRow w.heap.size 2 1 v' (k + 1) (((L.take k).map rdV).map (Value.int .i64) ++ [Value.int .i64 z]) → w.Ext w3 ∧ GrowOf (Value.int .i64) w.heap.size 2 w3 v' ((L.take (k + 1)).map rdV) ∧ RowS w3 (some ⟨b, of0, none⟩) (L.map bstr) ∧ Tag w3 (some ⟨b, of0, none⟩) 9) := fun ob v' w3 hgrow hown' => by
              refine ⟨HS2.out.2.1.pushExt HS2.out.1 hgrow, ?_, row_grown HS2.out.2.2.1 HS2.out.2.2.2 HS2.out.2.1 (by decide) hgrow⟩
              · rw [← HNX.out]
                exact GrowOf.push (by rw [HLK.out]; exact hown')
            clear HOK HNX HLK HT
            go_wp2_with ((at_builtin; refine wpList_append_own _ rfl _ _ 68 rfl w.heap.size 2 i0 (.int .i64 0) 1 8 Tryd.underlying68 hi hz0 hz1 hz2 rfl (by decide) _ _ _ rfl (hown.alloc _) ⟨w2.heap.size, 0, none⟩ 1 1 [.int .i64 z] rfl rfl (cell_one_new _ _ _) (by simp [Value.oneCell']) HY1.out HY3.out (HLE.out _) (fun v' w1 hown' hgrow _ => ?_)); go_loud (have HRN := Lib.hid (HNEXT.out _ _ _ hgrow hown'); clear hown' hgrow))
            go_roundw
            case rel => exact ⟨k + 1, by omega, by go_num, HOK2.out, HRN.out⟩
            case measure => simp [intOf]; omega
        · have : k = n := by omega
          subst this
          have hlt' : ¬ (k : Int) < (k : Int) := by omega
          obtain ⟨h1, h2⟩ := HALL.out (by omega) HS.out.1
          have hg := HS.out.2.2.1
          rw [List.take_of_length_le (by rw [HLN.out]; exact Nat.le_refl _), ← h2] at hg
          obtain ⟨a4, c4, rfl, _⟩ := hg.form
          have HF : Hid (LsRet w l (.returned (.tuple #[.slice a4 (lsV l).length c4, .bool true])) wo) := by
            refine ⟨a4, c4, ?_, HS.out.2.1, hg⟩
            rw [h1]
          clear HS hg h1 h2 HMANY HBAD HALL HR1
          generalize (lsV l).length = N at *
          go_wp2
          exact bodyPost_ret (v := .tuple #[.slice a4 N c4, .bool true]) (by simp [results, Tryd.results94, go_sem]) rfl HF.out
end Go.Proofs.YthgkmaccbcpaeaaDoor
