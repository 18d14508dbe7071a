/- Grey pictures are read: the reference. -/
import Derived.Test.YthgkmaccbcpaeaaDoorRdgL
namespace Go.Proofs.YthgkmaccbcpaeaaDoor
open Go Go.RowKit
noncomputable def gyB (l : List UInt8) : Bool := decide ((cutL 47 l).length ≤ 16) && ((cutL 47 l).all lsB && tableOk ((cutL 47 l).map lsV) 99)
noncomputable def gyM (l : List UInt8) : List (List Int) := if gyB l then (cutL 47 l).map lsV else []
theorem gy_no {l : List UInt8} (h : gyB l = false) : gyB l = false ∧ gyM l = [] := ⟨h, by unfold gyM; rw [h]; rfl⟩
theorem gy_many {l : List UInt8} (h : 16 < (cutL 47 l).length) : gyB l = false ∧ gyM l = [] := gy_no (by unfold gyB; rw [decide_eq_false (by omega)]; rfl)
theorem gy_bad {l : List UInt8} {k : Nat} (hk : k < (cutL 47 l).length) (h2 : lsB ((cutL 47 l).getD k []) = false) : gyB l = false ∧ gyM l = [] := gy_no (by
  unfold gyB
  have : (cutL 47 l).all lsB = false := by
    rw [Bool.eq_false_iff]
    intro h3
    have := (all_getD (d := [])).1 h3 k hk
    rw [h2] at this
    cases this
  rw [this, Bool.false_and, Bool.and_false])
theorem gy_tab {l : List UInt8} (h : tableOk ((cutL 47 l).map lsV) 99 = false) : gyB l = false ∧ gyM l = [] := gy_no (by unfold gyB; rw [h, Bool.and_false, Bool.and_false])
theorem gy_yes {l : List UInt8} (h : (cutL 47 l).length ≤ 16) (h2 : ∀ k, k < (cutL 47 l).length → lsB ((cutL 47 l).getD k []) = true) (h3 : tableOk ((cutL 47 l).map lsV) 99 = true) : gyB l = true ∧ gyM l = (cutL 47 l).map lsV := by
  have h1 : gyB l = true := by
    unfold gyB
    rw [decide_eq_true h, h3, Bool.and_true, Bool.true_and]
    exact (all_getD (d := [])).2 h2
  refine ⟨h1, ?_⟩
  unfold gyM
  rw [h1]
  rfl
theorem lsV_len (l : List UInt8) : (lsV l).length ≤ 300 := by
  unfold lsV
  cases h : lsB l
  · simp
  · rw [if_pos rfl]
    split
    · simp
    · rename_i hn
      unfold lsB at h
      rw [if_neg hn, Bool.and_eq_true, decide_eq_true_eq] at h
      rw [List.length_map]
      exact h.1
theorem gy_row (L : List (List UInt8)) (r : Nat) : ((L.map lsV).getD r []).length ≤ 1048576 := by
  by_cases h : r < L.length
  · rw [getD_map lsV L r [] [] h]
    exact Nat.le_trans (lsV_len _) (by omega)
  · rw [List.getD_eq_getElem?_getD, List.getElem?_eq_none (by simp; omega)]
    exact Nat.zero_le _
theorem growM_other {lo : Nat} {TO TI T : TypeId} {w : World} {v x0 : Value} {A : Nat → Option Addr} {C : Nat → Nat} {m : List (List Int)} {p : Nat} (hne : TO ≠ T) (hni : TI ≠ T) (h : GrowM lo TO TI w v A C m) (ho : One w p T x0) (u : Value) : GrowM lo TO TI (w.setCell ⟨p, 0, none⟩ u) v A C m :=
  ⟨World.ownsRow.setCell h.outer (World.ownsRow.ne h.outer (show w.heap[p]? = some (.cells #[x0] T (0, 0)) from ho) hne) u, fun r hr => GrowOf.setCell (h.rows r hr) (GrowOf.ne (h.rows r hr) ho hni) u, h.apart⟩
/-- Rows are read into a box. -/
structure GyR (w : World) (p1 p : Nat) (a1 : Option Addr) (L : List ByteArray) (m : List (List Int)) (wr : World) : Prop where
  x : w.Ext wr
  one : One wr p1 28 (.slice none 0 0)
  st : ∃ v A C, One wr p 28 v ∧ GrowM w.heap.size 68 2 wr v A C m
  row : RowS wr a1 L
  tag : Tag wr a1 9
theorem GyR.ext {w : World} {p1 p : Nat} {a1 : Option Addr} {L : List ByteArray} {m : List (List Int)} {wr w' : World} (h : GyR w p1 p a1 L m wr) (hx : wr.Ext w') : GyR w p1 p a1 L m w' := by
  obtain ⟨v, A, C, h1, h2⟩ := h.st
  exact ⟨h.x.trans hx, h.one.ext hx, ⟨v, A, C, h1.ext hx, h2.ext hx⟩, RowOf.ext h.row hx, h.tag.ext hx⟩
theorem GyR.next {w : World} {p1 p : Nat} {a1 : Option Addr} {L : List ByteArray} {m : List (List Int)} {w1 w3 : World} (h : GyR w p1 p a1 L m w1) (hp : w.heap.size ≤ p) (hpp : p1 ≠ p) (hx : w1.Ext w3) {a : Option Addr} {c : Nat} {zs : List Int} (hg : GrowOf (Value.int .i64) w1.heap.size 2 w3 (.slice a zs.length c) zs) :
    ∃ v pre, w3.cell? ⟨p, 0, none⟩ = some v ∧ p < w3.heap.size ∧ w3.ownsRow w.heap.size 68 1 v m.length pre ∧
      ∀ (o : Obj) (v' : Value) (w4 : World), (w3.alloc o).grownBy w4 v.ownBlock → w4.ownsRow w.heap.size 68 1 v' (m.length + 1) (pre ++ [.slice a zs.length c]) →
        w4.cell? ⟨p, 0, none⟩ = some v ∧ w4.frozen? ⟨p, 0, none⟩ = false ∧ GyR w p1 p a1 L (m ++ [zs]) (w4.setCell ⟨p, 0, none⟩ v') := by
  obtain ⟨v, A, C, h1, h2⟩ := h.st
  have hp3 := h1.ext hx
  have ho3 := h2.outer
  have hown := World.ownsRow.ext h2.outer hx
  have hgo : GrowOf (fun r : Nat => Value.slice (A r) (m.getD r []).length (C r)) w.heap.size 68 w3 v (List.range m.length) := by
    unfold GrowOf
    rw [List.length_range]
    exact hown
  refine ⟨v, _, hp3.cell, hp3.lt, hown, fun o v' w4 hgrow hown' => ?_⟩
  have hm4 := GrowM.push (row := zs) (by decide) h2 hx hg h.x.size hgrow hown'
  have hx4 := GrowM.pushExt h2 h.x hx hgrow
  have a1' := ((h.one.ext hx).ext ((World.Ext.refl _).alloc o)).grown hgrow (World.ownsRow.ne hown (h.one.ext hx) (by decide))
  have ap' := (hp3.ext ((World.Ext.refl _).alloc o)).grown hgrow (World.ownsRow.ne hown hp3 (by decide))
  obtain ⟨r4, t4⟩ := row_grown (RowOf.ext h.row hx) (h.tag.ext hx) hgo (by decide) hgrow
  have hsl : ∀ b o' s, a1 = some ⟨b, o', s⟩ → b ≠ p := fun b o' s e e2 => by
    obtain ⟨cs, fr, hc⟩ := t4 b o' s e
    have hc2 : w4.heap[p]? = some (.cells #[v] 28 (0, 0)) := ap'
    rw [e2, hc2] at hc
    cases hc
  refine ⟨ap'.cell, ap'.free, hx4.setCell (p := ⟨p, 0, none⟩) hp v', a1'.other (a := ⟨p, 0, none⟩) (Ne.symm hpp) v', ⟨v', _, _, ap'.set v', growM_other (by decide) (by decide) hm4 ap' v'⟩, fun i hi => ?_, ?_⟩
  · obtain ⟨b, o', e1, e2⟩ := r4 i hi
    have hb := hsl b o' none e1
    refine ⟨b, o', e1, ?_⟩
    rw [World.cell?_of_block (a := ⟨b, o' + i, none⟩) (Below.heap_setCell w4 ⟨p, 0, none⟩ v' b hb)]
    exact e2
  · exact t4.keep fun b o' s e => Below.heap_setCell w4 ⟨p, 0, none⟩ v' b (hsl b o' s e)
/-- Nothing is stored as a result. -/
theorem one_noPic {w W1 : World} {p : Nat} {T : TypeId} {v0 : Value} (hX : w.Ext W1) (hp : w.heap.size ≤ p) (hone : One W1 p T v0) :
    W1.cell? ⟨p, 0, none⟩ = some v0 ∧ W1.frozen? ⟨p, 0, none⟩ = false ∧ (W1.setCell ⟨p, 0, none⟩ (.slice none 0 0)).cell? ⟨p, 0, none⟩ = some (.slice none 0 0) ∧ Hid (w.Ext (W1.setCell ⟨p, 0, none⟩ (.slice none 0 0))) := by
  obtain ⟨r1, r2, r3, HR⟩ := Res.store (f := Value.string) (d := ByteArray.empty) (a := none) (xs := []) (lo := p + 1) (.slice none 0 0) hX hp hone (by omega) (OwnOf.nil _ _)
  exact ⟨r1, r2, r3, HR.out.1⟩
theorem GreyRet2.no {w w' : World} (hx : w.Ext w') : GreyRet2 w [] false (.returned (.tuple #[.agg #[.slice none 0 0], .bool false])) w' :=
  ⟨none, 0, fun _ => none, fun _ => 0, rfl, hx, ⟨(fun r hr => by cases hr), (fun r hr => by cases hr), (fun r s b o b' o' hr => by cases hr)⟩⟩
theorem Tryd.infoI64L : (Tryd.prog.info? 68).map (fun i => (i.zero, i.size, i.bytes)) = some (some (.slice none 0 0), 1, 24) := by kernel_rfl
set_option maxRecDepth 5000 in
set_option maxHeartbeats 3200000 in
theorem l07Read_any (s : ByteArray) (w : World) (hs : s.size ≤ 1048576) : Calls Tryd.prog 64 #[.string s] w (GreyRet2 w (gyM s.data.toList) (gyB s.data.toList)) := by
  obtain ⟨j0, hj, hz0, hz1, hz2⟩ := info_parts Tryd.infoI64L
  have HCT : Hid (∀ w', Calls Tryd.prog 93 #[.string s, .int .u8 47] w' (StrsRet w' ((cutL 47 s.data.toList).map bstr))) := fun w' => l01Cut_any s 47 w' hs
  have HPC : Hid (∀ k, ((cutL 47 s.data.toList).getD k []).length ≤ 1048576) := fun k => Nat.le_trans (cutL_piece 47 _ k) (by rw [Array.length_toList]; exact hs)
  obtain ⟨l, hl⟩ : ∃ l, l = s.data.toList := ⟨_, rfl⟩
  rw [← hl] at HCT HPC ⊢
  clear hl
  have HMANY : Hid (16 < (cutL 47 l).length → gyB l = false ∧ gyM l = []) := fun h => gy_many h
  have HBAD : Hid (∀ k, k < (cutL 47 l).length → lsB ((cutL 47 l).getD k []) = false → gyB l = false ∧ gyM l = []) := fun k hk h => gy_bad hk h
  have HTAB : Hid (tableOk ((cutL 47 l).map lsV) 99 = false → gyB l = false ∧ gyM l = []) := fun h => gy_tab h
  have HALL : Hid ((cutL 47 l).length ≤ 16 → (∀ k, k < (cutL 47 l).length → lsB ((cutL 47 l).getD k []) = true) → tableOk ((cutL 47 l).map lsV) 99 = true → gyB l = true ∧ gyM l = (cutL 47 l).map lsV) := fun h h2 h3 => gy_yes h h2 h3
  generalize cutL 47 l = L at *
  obtain ⟨B, hB⟩ : ∃ B, B = gyB l := ⟨_, rfl⟩
  obtain ⟨M, hM⟩ : ∃ M, M = gyM l := ⟨_, rfl⟩
  rw [← hB, ← hM] at HMANY HBAD HTAB HALL ⊢
  clear hB hM
  obtain ⟨n, hnl⟩ : ∃ n, n = (L.map bstr).length := ⟨_, rfl⟩
  have hnl2 : L.length = n := by rw [hnl, List.length_map]
  have HLN := Lib.hid hnl2
  rw [hnl2] at HMANY HBAD HALL
  obtain ⟨W0, hW0⟩ : ∃ W0, W0 = w.alloc (.cells #[.slice none 0 0] 28) := ⟨_, rfl⟩
  have hx0 : w.Ext W0 := by rw [hW0]; repeat (first | exact World.Ext.refl _ | exact ⟨_, rfl⟩ | assumption | refine World.Ext.over ?_ _ | refine World.Ext.drewN ?_ _ | refine World.Ext.drew ?_ | refine World.Ext.alloc ?_ _ | refine World.Ext.setCell ?_ (by simp) _)
  have hone : One W0 w.heap.size 28 (.slice none 0 0) := by rw [hW0]; exact One.new _ _ _ _ rfl
  have HX0 := Lib.hid hx0
  have HONE := Lib.hid hone
  have HC1 := Lib.hid (HCT.out W0)
  clear HCT hnl2 hx0 hone
  go_enter Tryd.func64, Tryd.ntmps64
  go_upto_region 1 with fail
  rw [← hW0]
  clear hW0
  go_wp2_with fail
  refine HC1.out.mono ?_
  rintro e w1 ⟨a1, c1, rfl, hx1, ho1, hta1⟩
  rw [← hnl]
  obtain ⟨W2, hW2⟩ : ∃ W2, W2 = (w1.alloc (.cells #[] 68)).alloc (.cells #[.slice (some ⟨w1.heap.size, 0, none⟩) 0 0] 28) := ⟨_, rfl⟩
  have HST : Hid (GyR W0 w.heap.size (w1.heap.size + 1) a1 (L.map bstr) ((L.take 0).map lsV) W2) := by
    have hx2 : w1.Ext W2 := by rw [hW2]; repeat (first | exact World.Ext.refl _ | exact ⟨_, rfl⟩ | assumption | refine World.Ext.over ?_ _ | refine World.Ext.drewN ?_ _ | refine World.Ext.drew ?_ | refine World.Ext.alloc ?_ _ | refine World.Ext.setCell ?_ (by simp) _)
    refine ⟨hx1.trans hx2, HONE.out.ext (hx1.trans hx2), ⟨.slice (some ⟨w1.heap.size, 0, none⟩) 0 0, fun _ => none, fun _ => 0, ?_, ?_⟩, RowOf.ext ho1.row hx2, hta1.ext hx2⟩
    · rw [hW2]; exact One.new _ _ _ _ (by simp)
    · rw [hW2]; exact (GrowM.empty w1 hx1.size).ext ((World.Ext.refl _).alloc _)
  have HNL : Hid (n = (L.map bstr).length) := hnl
  have hl0 : w.heap.size < W0.heap.size := HONE.out.lt
  have HP0 : Hid (W0.heap.size ≤ w1.heap.size) := hx1.size
  have HP1 : Hid (w.heap.size < w1.heap.size) := by
    have := HONE.out.lt
    have := hx1.size
    show _ < _
    omega
  clear hx1 ho1 hta1 hnl HONE HC1
  go_upto_region 3 with fail
  rw [← hW2]
  clear hW2
  obtain ⟨p, hp⟩ : ∃ p, p = w1.heap.size + 1 := ⟨_, rfl⟩
  rw [← hp] at HST ⊢
  have hpw : w.heap.size < p := by have := HP1.out; omega
  have hpW : W0.heap.size ≤ p := by have := HP0.out; omega
  clear hp HP1 HP0
  go_wp2
  go_loopw [6, 7, 8] (fun i _ _ wr => ∃ k : Nat, k ≤ n ∧ i = .int .i64 k ∧ Hid ((16 < n → k = 0) ∧ (∀ r, r < k → lsB (L.getD r []) = true) ∧ GyR W0 w.heap.size p a1 (L.map bstr) ((L.take k).map lsV) wr)) (fun i _ _ _ => n - (intOf i).toNat)
  case atStart => exact ⟨0, Nat.zero_le _, rfl, (fun _ => rfl), (fun r hr => by omega), HST.out⟩
  case round =>
    clear HST
    obtain ⟨k, hk, rfl, HS⟩ := hrel
    obtain ⟨wo, rfl⟩ : ∃ wo : World, wo = wr := ⟨_, rfl⟩
    have hk0 : (0 : Int) ≤ (k : Int) := by omega
    by_cases hlt : k < n ∧ n ≤ 16
    · obtain ⟨hlt1, hn16⟩ := hlt
      have hlt' : (k : Int) < (n : Int) := by omega
      have hn16' : (n : Int) ≤ 16 := by omega
      obtain ⟨b, of0, rfl, hc⟩ := HS.out.2.2.row k (by rw [← HNL.out]; exact hlt1)
      have lb := World.block_lt_of_cell? _ _ hc
      rw [getD_map bstr L k [] _ (by rw [HLN.out]; exact hlt1)] at hc
      have hv := l01Numbers_any (bstr (L.getD k [])) wo (by rw [bstr_size]; exact HPC.out k)
      rw [bstr_bytes] at hv
      have HV := Lib.hid hv
      obtain ⟨t, ht⟩ : ∃ t, t = lsB (L.getD k []) := ⟨_, rfl⟩
      have HT := Lib.hid ht
      obtain ⟨zs, hzs⟩ : ∃ zs, zs = lsV (L.getD k []) := ⟨_, rfl⟩
      have HNX : Hid ((L.take k).map lsV ++ [zs] = (L.take (k + 1)).map lsV) := by
        show _ = _
        rw [hzs, List.take_succ_eq_append_getElem (by rw [HLN.out]; exact hlt1), List.map_append, List.getD_eq_getElem?_getD, List.getElem?_eq_getElem (by rw [HLN.out]; exact hlt1)]
        rfl
      have HLK : Hid (((L.take k).map lsV).length = k) := by show _ = _; rw [List.length_map, List.length_take, HLN.out]; omega
      unfold LsRet at HV
      rw [← ht, ← hzs] at HV
      clear hv ht hzs
      generalize bstr (L.getD k []) = sk at *
      go_wp2_with fail
      refine HV.out.mono ?_
      rintro e w2 ⟨a2, c2, rfl, hx2, hg2⟩
      cases t
      · have HF := Lib.hid (HBAD.out k hlt1 HT.out.symm)
        have hS2 := HS.out.2.2.ext hx2
        obtain ⟨r1, r2, r3, HR⟩ := one_noPic (HX0.out.trans hS2.x) (Nat.le_refl _) hS2.one
        have l1 := hS2.one.lt
        have HE : Hid (GreyRet2 w M B (.returned (.tuple #[.agg #[.slice none 0 0], .bool false])) (w2.setCell ⟨w.heap.size, 0, none⟩ (.slice none 0 0))) := by rw [HF.out.1, HF.out.2]; exact GreyRet2.no HR.out
        clear hx2 HS HV hc lb HMANY HBAD HALL HTAB hS2 hg2 HNX HLK HT HF
        go_wp2
        exact bodyPost_ret (v := .tuple #[.agg #[.slice none 0 0], .bool false]) (by simp [results, Tryd.results64, go_sem, r3]) rfl HE.out
      · have HOK : Hid (∀ r, r < k + 1 → lsB (L.getD r []) = true) := fun r hr => by
          by_cases e : r = k
          · rw [e]; exact HT.out.symm
          · exact HS.out.2.1 r (by omega)
        obtain ⟨v, pre, hcp, hlp, hown, hnext⟩ := HS.out.2.2.next hpW (Nat.ne_of_lt hpw) hx2 hg2
        rw [HLK.out] at hown hnext
        have HNEXT : Hid (∀ (o : Obj) (v' : Value) (w4 : World), (w2.alloc o).grownBy w4 v.ownBlock → w4.ownsRow W0.heap.size 68 1 v' (k + 1) (pre ++ [.slice a2 zs.length c2]) → w4.cell? ⟨p, 0, none⟩ = some v ∧ w4.frozen? ⟨p, 0, none⟩ = false ∧ Hid (GyR W0 w.heap.size p (some ⟨b, of0, none⟩) (L.map bstr) ((L.take (k + 1)).map lsV) (w4.setCell ⟨p, 0, none⟩ v'))) := fun o v' w4 h1 h2 => by
          obtain ⟨q1, q2, q3⟩ := hnext o v' w4 h1 h2
          rw [HNX.out] at q3
          exact ⟨q1, q2, q3⟩
        have HLE : Hid (∀ o : Obj, W0.heap.size ≤ (w2.alloc o).heap.size) := fun o => ((HS.out.2.2.x.trans hx2).alloc o).size
        have HB1 : Hid (k + 1 ≤ maxLen) := by show _ ≤ _; unfold maxLen; omega
        have HB2 : Hid ((k + 1) * 24 ≤ 140737488355328) := by show _ ≤ _; omega
        have HM0 := Lib.hid HS.out.1
        clear hx2 HS HV hc lb hg2 HNX HLK HT hnext
        generalize zs.length = zn at *
        go_wp2_with ((at_builtin; refine wpList_append_own _ rfl _ _ 22 rfl W0.heap.size 68 j0 (.slice none 0 0) 1 24 Tryd.underlying22 hj hz0 hz1 hz2 rfl (by decide) _ _ _ rfl (hown.alloc _) ⟨w2.heap.size, 0, none⟩ 1 1 [.slice a2 zn c2] rfl rfl (cell_one_new _ _ _) (by simp [Value.oneCell']) HB1.out HB2.out (HLE.out _) (fun v' w1 hown' hgrow _ => ?_)); go_loud (obtain ⟨d3, e3, HS4⟩ := HNEXT.out _ _ _ hgrow hown'; obtain ⟨a4, c4, rfl, _⟩ := World.ownsRow.form hown'; clear hgrow hown' hown hcp))
        go_roundw
        case rel => exact ⟨k + 1, by omega, by go_num, (fun h => absurd h (by omega)), HOK.out, HS4.out⟩
        case measure => simp [intOf]; omega
    · obtain ⟨v, A, C, hv1, hv2⟩ := HS.out.2.2.st
      obtain ⟨mm, hmm⟩ : ∃ mm, mm = (L.take k).map lsV := ⟨_, rfl⟩
      rw [← hmm] at hv2
      have hmk : mm.length ≤ 16 ∧ mm.length = k := by
        have h1 := HS.out.1
        have h2 : mm.length = k := by rw [hmm, List.length_map, List.length_take, HLN.out]; omega
        omega
      have hrw : ∀ r, (mm.getD r []).length ≤ 1048576 := fun r => by rw [hmm]; exact gy_row _ r
      obtain ⟨av, cv, rfl, _⟩ := World.ownsRow.form hv2.outer
      have hmat := (hv2.mat (by decide)).mat
      obtain ⟨t, ht⟩ : ∃ t, tableOk mm 99 = t := ⟨_, rfl⟩
      have HIS := Lib.hid (l07Is_any p av cv A C mm wo (by omega) hrw hv1.cell hmat t ht)
      have HFN : Hid (t = true → B = true ∧ M = mm) := fun h => by
        rw [h] at ht
        have hpos := (tableOk_spec ht).1
        have hkn : k = n := by
          rcases Nat.lt_or_ge k n with h1 | h1
          · have : 16 < n := by
              rcases Nat.lt_or_ge 16 n with h2 | h2
              · exact h2
              · exact absurd ⟨h1, h2⟩ hlt
            have := HS.out.1 this
            omega
          · omega
        have hn16 : n ≤ 16 := by omega
        have hmm2 : mm = L.map lsV := by rw [hmm, List.take_of_length_le (by rw [HLN.out]; omega)]
        rw [hmm2] at ht ⊢
        exact HALL.out hn16 (fun r hr => HS.out.2.1 r (by omega)) ht
      have HFF : Hid (t = false → B = false ∧ M = []) := fun h => by
        rw [h] at ht
        rcases Nat.lt_or_ge 16 n with h1 | h1
        · exact HMANY.out h1
        · have hkn : k = n := by
            rcases Nat.lt_or_ge k n with h2 | h2
            · exact absurd ⟨h2, h1⟩ hlt
            · omega
          refine HTAB.out ?_
          have hmm2 : mm = L.map lsV := by rw [hmm, List.take_of_length_le (by rw [HLN.out]; omega)]
          rw [← hmm2]
          exact ht
      have HST2 : Hid (W0.Ext wo ∧ One wo w.heap.size 28 (.slice none 0 0) ∧ One wo p 28 (.slice av mm.length cv) ∧ OwnMat W0.heap.size wo.heap.size wo av A C mm) := ⟨HS.out.2.2.x, HS.out.2.2.one, hv1, hv2.mat (by decide)⟩
      have hcnd : ¬ (k : Int) < (n : Int) ∨ ¬ (n : Int) ≤ 16 := by omega
      clear HS hv1 hv2 hmm hrw ht hmat HMANY HBAD HALL HTAB hlt hmk
      by_cases hkn : (k : Int) < (n : Int)
      · have hn16 : ¬ (n : Int) ≤ 16 := by omega
        clear hcnd
        go_wp2_with fail
        refine HIS.out.mono ?_
        rintro e w3 ⟨rfl, hx3⟩
        obtain ⟨q1, q2, q3, q4⟩ := HST2.out
        have hX3 := HX0.out.trans (q1.trans hx3)
        cases t
        · have HF := Lib.hid (HFF.out rfl)
          obtain ⟨r1, r2, r3, HR⟩ := one_noPic hX3 (Nat.le_refl _) (q2.ext hx3)
          have HE : Hid (GreyRet2 w M B (.returned (.tuple #[.agg #[.slice none 0 0], .bool false])) (w3.setCell ⟨w.heap.size, 0, none⟩ (.slice none 0 0))) := by rw [HF.out.1, HF.out.2]; exact GreyRet2.no HR.out
          clear HF HFF HFN HST2 q1 q2 q3 q4 hx3 hX3 HIS
          go_wp2
          exact bodyPost_ret (v := .tuple #[.agg #[.slice none 0 0], .bool false]) (by simp [results, Tryd.results64, go_sem, r3]) rfl HE.out
        · have HF := Lib.hid (HFN.out rfl)
          have hc3 := (q3.ext hx3).cell
          obtain ⟨r1, r2, r3, HR⟩ := Res.storeM (.slice av mm.length cv) hX3 (Nat.le_refl _) (q2.ext hx3) hl0 ((q4.ext hx3).mono (Nat.le_refl _) hx3.size)
          have HE : Hid (GreyRet2 w M B (.returned (.tuple #[.agg #[.slice av mm.length cv], .bool true])) (w3.setCell ⟨w.heap.size, 0, none⟩ (.slice av mm.length cv))) := by
            rw [HF.out.1, HF.out.2]
            exact ⟨av, cv, A, C, rfl, HR.out.1, HR.out.2⟩
          have lp3 := (q3.ext hx3).lt
          clear HF HFF HFN HST2 q1 q2 q3 q4 hx3 hX3 HIS
          generalize mm.length = mn at *
          go_wp2
          exact bodyPost_ret (v := .tuple #[.agg #[.slice av mn cv], .bool true]) (by simp [results, Tryd.results64, go_sem, r3]) rfl HE.out
      · clear hcnd
        go_wp2_with fail
        refine HIS.out.mono ?_
        rintro e w3 ⟨rfl, hx3⟩
        obtain ⟨q1, q2, q3, q4⟩ := HST2.out
        have hX3 := HX0.out.trans (q1.trans hx3)
        cases t
        · have HF := Lib.hid (HFF.out rfl)
          obtain ⟨r1, r2, r3, HR⟩ := one_noPic hX3 (Nat.le_refl _) (q2.ext hx3)
          have HE : Hid (GreyRet2 w M B (.returned (.tuple #[.agg #[.slice none 0 0], .bool false])) (w3.setCell ⟨w.heap.size, 0, none⟩ (.slice none 0 0))) := by rw [HF.out.1, HF.out.2]; exact GreyRet2.no HR.out
          clear HF HFF HFN HST2 q1 q2 q3 q4 hx3 hX3 HIS
          go_wp2
          exact bodyPost_ret (v := .tuple #[.agg #[.slice none 0 0], .bool false]) (by simp [results, Tryd.results64, go_sem, r3]) rfl HE.out
        · have HF := Lib.hid (HFN.out rfl)
          have hc3 := (q3.ext hx3).cell
          obtain ⟨r1, r2, r3, HR⟩ := Res.storeM (.slice av mm.length cv) hX3 (Nat.le_refl _) (q2.ext hx3) hl0 ((q4.ext hx3).mono (Nat.le_refl _) hx3.size)
          have HE : Hid (GreyRet2 w M B (.returned (.tuple #[.agg #[.slice av mm.length cv], .bool true])) (w3.setCell ⟨w.heap.size, 0, none⟩ (.slice av mm.length cv))) := by
            rw [HF.out.1, HF.out.2]
            exact ⟨av, cv, A, C, rfl, HR.out.1, HR.out.2⟩
          have lp3 := (q3.ext hx3).lt
          clear HF HFF HFN HST2 q1 q2 q3 q4 hx3 hX3 HIS
          generalize mm.length = mn at *
          go_wp2
          exact bodyPost_ret (v := .tuple #[.agg #[.slice av mn cv], .bool true]) (by simp [results, Tryd.results64, go_sem, r3]) rfl HE.out
end Go.Proofs.YthgkmaccbcpaeaaDoor
