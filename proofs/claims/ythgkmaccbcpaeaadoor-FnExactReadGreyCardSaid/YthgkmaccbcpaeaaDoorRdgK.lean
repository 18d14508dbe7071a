/- Grey pictures are read: the program; both sides' last words. -/
import Derived.Test.YthgkmaccbcpaeaaDoorRdgI
namespace Go.Proofs.YthgkmaccbcpaeaaDoor
open Go Go.RowKit
set_option maxRecDepth 5000 in
set_option maxHeartbeats 3200000 in
theorem implRdg_any (s : ByteArray) (w : World) (hd : DoorW w) (hs : s.size ≤ 1048576) : Calls Tryd.prog 28 #[.string s] w (GreyRet2 w (gyM s.data.toList) (gyB s.data.toList)) := by
  obtain ⟨j0, hj, hz0, hz1, hz2⟩ := info_parts Tryd.infoI64L
  have HCT : Hid (∀ w', w.Ext w' → Calls Tryd.prog 49 #[.string s, .string ⟨#[47]⟩] w' (StrsRet w' ((cutL 47 s.data.toList).map bstr))) := fun w' hx => split_any s 47 w' (hd.ext hx) hs
  have HDW := Lib.hid hd
  have HPC : Hid (∀ k, ((cutL 47 s.data.toList).getD k []).length ≤ 1048576) := fun k => Nat.le_trans (cutL_piece 47 _ k) (by rw [Array.length_toList]; exact hs)
  obtain ⟨l, hl⟩ : ∃ l, l = s.data.toList := ⟨_, rfl⟩
  rw [← hl] at HCT HPC ⊢
  clear hl hd
  have HMANY : Hid (16 < (cutL 47 l).length → gyB l = false ∧ gyM l = []) := fun h => gy_many h
  have HBAD : Hid (∀ k, k < (cutL 47 l).length → lsB ((cutL 47 l).getD k []) = false → gyB l = false ∧ gyM l = []) := fun k hk h => gy_bad hk h
  have HTAB : Hid (tableOk ((cutL 47 l).map lsV) 99 = false → gyB l = false ∧ gyM l = []) := fun h => gy_tab h
  have HALL : Hid ((cutL 47 l).length ≤ 16 → (∀ k, k < (cutL 47 l).length → lsB ((cutL 47 l).getD k []) = true) → tableOk ((cutL 47 l).map lsV) 99 = true → gyB l = true ∧ gyM l = (cutL 47 l).map lsV) := fun h h2 h3 => gy_yes h h2 h3
  generalize cutL 47 l = L at *
  obtain ⟨B, hB⟩ : ∃ B, B = gyB l := ⟨_, rfl⟩
  obtain ⟨M, hM⟩ : ∃ M, M = gyM l := ⟨_, rfl⟩
  rw [← hB, ← hM] at HMANY HBAD HTAB HALL ⊢
  clear hB hM
  obtain ⟨n, hnl⟩ : ∃ n, n = (L.map bstr).length := ⟨_, rfl⟩
  have hnl2 : L.length = n := by rw [hnl, List.length_map]
  have HLN := Lib.hid hnl2
  rw [hnl2] at HMANY HBAD HALL
  obtain ⟨W0, hW0⟩ : ∃ W0, W0 = w.alloc (.cells #[.slice none 0 0] 28) := ⟨_, rfl⟩
  have hx0 : w.Ext W0 := by rw [hW0]; repeat (first | exact World.Ext.refl _ | exact ⟨_, rfl⟩ | assumption | refine World.Ext.over ?_ _ | refine World.Ext.drewN ?_ _ | refine World.Ext.drew ?_ | refine World.Ext.alloc ?_ _ | refine World.Ext.setCell ?_ (by simp) _)
  have hone : One W0 w.heap.size 28 (.slice none 0 0) := by rw [hW0]; exact One.new _ _ _ _ rfl
  have hsz0 : W0.heap.size = w.heap.size + 1 := by rw [hW0]; simp
  have HX0 := Lib.hid hx0
  have HONE := Lib.hid hone
  obtain ⟨W1, hW1⟩ : ∃ W1, W1 = W0.alloc (.cells #[.slice none 0 0] 28) := ⟨_, rfl⟩
  have hx1 : W0.Ext W1 := by rw [hW1]; repeat (first | exact World.Ext.refl _ | exact ⟨_, rfl⟩ | assumption | refine World.Ext.over ?_ _ | refine World.Ext.drewN ?_ _ | refine World.Ext.drew ?_ | refine World.Ext.alloc ?_ _ | refine World.Ext.setCell ?_ (by simp) _)
  have hp1 : One W1 (w.heap.size + 1) 28 (.slice none 0 0) := by rw [hW1]; exact One.new _ _ _ _ hsz0.symm
  have HW1 : Hid (W1 = (w.alloc (.cells #[.slice none 0 0] 28)).alloc (.cells #[.slice none 0 0] 28)) := by show _ = _; rw [hW1, hW0]
  have HX1 := Lib.hid hx1
  have HP1 := Lib.hid hp1
  have HC1 := Lib.hid (HCT.out W1 (hx0.trans hx1))
  have hl0 : w.heap.size < W0.heap.size := by omega
  have hpw : w.heap.size < w.heap.size + 1 := by omega
  have hpW : W0.heap.size ≤ w.heap.size + 1 := by omega
  have lp1 := hp1.lt
  clear HCT hnl2 hx0 hone hW0 hW1 hx1 hp1 hsz0
  go_enter Tryd.func28, Tryd.ntmps28
  go_upto_region 2 with fail
  rw [← HW1.out]
  clear HW1
  go_wp2_with fail
  refine HC1.out.mono ?_
  rintro e w1 ⟨a1, c1, rfl, hx2, ho1, hta1⟩
  rw [← hnl]
  obtain ⟨p, hp⟩ : ∃ p, p = w.heap.size + 1 := ⟨_, rfl⟩
  rw [← hp] at HP1 hpw hpW lp1 ⊢
  have HST : Hid (GyR W0 w.heap.size p a1 (L.map bstr) ((L.take 0).map lsV) w1) :=
    ⟨HX1.out.trans hx2, (HONE.out.ext HX1.out).ext hx2, ⟨.slice none 0 0, fun _ => none, fun _ => 0, HP1.out.ext hx2, ⟨⟨rfl, .inl ⟨rfl, rfl⟩⟩, (fun r hr => by cases hr), (fun r s b o b' o' hr => by cases hr)⟩⟩, ho1.row, hta1⟩
  have HNL : Hid (n = (L.map bstr).length) := hnl
  clear hx2 ho1 hta1 hnl HONE HC1 hp HX1 HP1 lp1
  go_wp2
  go_loopw [6, 7, 8, 13] (fun _ _ _ i wr => ∃ k : Nat, k ≤ n ∧ k ≤ 16 ∧ i = .int .i64 k ∧ Hid ((∀ r, r < k → lsB (L.getD r []) = true) ∧ GyR W0 w.heap.size p a1 (L.map bstr) ((L.take k).map lsV) wr)) (fun _ _ _ i _ => n - (intOf i).toNat)
  case atStart => exact ⟨0, Nat.zero_le _, by omega, rfl, (fun r hr => by omega), HST.out⟩
  case round =>
    clear HST
    obtain ⟨k, hk, hk16, rfl, HS⟩ := hrel
    obtain ⟨wo, rfl⟩ : ∃ wo : World, wo = wr := ⟨_, rfl⟩
    have hk0 : (0 : Int) ≤ (k : Int) := by omega
    by_cases hlt1 : k < n
    · have hlt' : (k : Int) < (n : Int) := by omega
      obtain ⟨b, of0, rfl, hc⟩ := HS.out.2.row k (by rw [← HNL.out]; exact hlt1)
      have lb := World.block_lt_of_cell? _ _ hc
      rw [getD_map bstr L k [] _ (by rw [HLN.out]; exact hlt1)] at hc
      have hv := readList_any (bstr (L.getD k [])) wo (HDW.out.ext (HX0.out.trans HS.out.2.x)) (by rw [bstr_size]; exact HPC.out k)
      rw [bstr_bytes] at hv
      have HV := Lib.hid hv
      obtain ⟨t, ht⟩ : ∃ t, t = lsB (L.getD k []) := ⟨_, rfl⟩
      have HT := Lib.hid ht
      obtain ⟨zs, hzs⟩ : ∃ zs, zs = lsV (L.getD k []) := ⟨_, rfl⟩
      have HNX : Hid ((L.take k).map lsV ++ [zs] = (L.take (k + 1)).map lsV) := by
        show _ = _
        rw [hzs, List.take_succ_eq_append_getElem (by rw [HLN.out]; exact hlt1), List.map_append, List.getD_eq_getElem?_getD, List.getElem?_eq_getElem (by rw [HLN.out]; exact hlt1)]
        rfl
      have HLK : Hid (((L.take k).map lsV).length = k) := by show _ = _; rw [List.length_map, List.length_take, HLN.out]; omega
      unfold LsRet at HV
      rw [← ht, ← hzs] at HV
      clear hv ht hzs
      generalize bstr (L.getD k []) = sk at *
      go_wp2_with fail
      refine HV.out.mono ?_
      rintro e w2 ⟨a2, c2, rfl, hx2, hg2⟩
      cases t
      · have HF := Lib.hid (HBAD.out k hlt1 HT.out.symm)
        have hS2 := HS.out.2.ext hx2
        obtain ⟨r1, r2, r3, HR⟩ := one_noPic (HX0.out.trans hS2.x) (Nat.le_refl _) hS2.one
        have l1 := hS2.one.lt
        have HE : Hid (GreyRet2 w M B (.returned (.tuple #[.agg #[.slice none 0 0], .bool false])) (w2.setCell ⟨w.heap.size, 0, none⟩ (.slice none 0 0))) := by rw [HF.out.1, HF.out.2]; exact GreyRet2.no HR.out
        clear hx2 HS HV hc lb HMANY HBAD HALL HTAB hS2 hg2 HNX HLK HT HF
        go_wp2
        exact bodyPost_ret (v := .tuple #[.agg #[.slice none 0 0], .bool false]) (by simp [results, Tryd.results28, go_sem, r3]) rfl HE.out
      · have HOK : Hid (∀ r, r < k + 1 → lsB (L.getD r []) = true) := fun r hr => by
          by_cases e : r = k
          · rw [e]; exact HT.out.symm
          · exact HS.out.1 r (by omega)
        obtain ⟨v, pre, hcp, hlp, hown, hnext⟩ := HS.out.2.next hpW (Nat.ne_of_lt hpw) hx2 hg2
        rw [HLK.out] at hown hnext
        obtain ⟨av, cv, rfl, _⟩ := World.ownsRow.form hown
        by_cases h16 : k = 16
        · have HF := Lib.hid (HMANY.out (by omega))
          have hS2 := HS.out.2.ext hx2
          obtain ⟨r1, r2, r3, HR⟩ := one_noPic (HX0.out.trans hS2.x) (Nat.le_refl _) hS2.one
          have l1 := hS2.one.lt
          have HE : Hid (GreyRet2 w M B (.returned (.tuple #[.agg #[.slice none 0 0], .bool false])) (w2.setCell ⟨w.heap.size, 0, none⟩ (.slice none 0 0))) := by rw [HF.out.1, HF.out.2]; exact GreyRet2.no HR.out
          have hkb : ((k : Int) == 16) = true := by rw [beq_iff_eq]; omega
          clear hx2 HS HV hc lb HMANY HBAD HALL HTAB hS2 hg2 HNX HLK HT HF hnext hown h16
          go_wp2
          exact bodyPost_ret (v := .tuple #[.agg #[.slice none 0 0], .bool false]) (by simp [results, Tryd.results28, go_sem, r3]) rfl HE.out
        have hkb : ((k : Int) == 16) = false := by rw [beq_eq_false_iff_ne]; omega
        have HNEXT : Hid (∀ (o : Obj) (v' : Value) (w4 : World), (w2.alloc o).grownBy w4 (Value.slice av k cv).ownBlock → w4.ownsRow W0.heap.size 68 1 v' (k + 1) (pre ++ [.slice a2 zs.length c2]) → w4.cell? ⟨p, 0, none⟩ = some (.slice av k cv) ∧ w4.frozen? ⟨p, 0, none⟩ = false ∧ Hid (GyR W0 w.heap.size p (some ⟨b, of0, none⟩) (L.map bstr) ((L.take (k + 1)).map lsV) (w4.setCell ⟨p, 0, none⟩ v'))) := fun o v' w4 h1 h2 => by
          obtain ⟨q1, q2, q3⟩ := hnext o v' w4 h1 h2
          rw [HNX.out] at q3
          exact ⟨q1, q2, q3⟩
        have HLE : Hid (∀ o : Obj, W0.heap.size ≤ (w2.alloc o).heap.size) := fun o => ((HS.out.2.x.trans hx2).alloc o).size
        have HB1 : Hid (k + 1 ≤ maxLen) := by show _ ≤ _; unfold maxLen; omega
        have HB2 : Hid ((k + 1) * 24 ≤ 140737488355328) := by show _ ≤ _; omega
        clear hx2 HS HV hc lb hg2 HNX HLK HT hnext
        generalize zs.length = zn at *
        go_wp2_with ((at_builtin; refine wpList_append_own _ rfl _ _ 22 rfl W0.heap.size 68 j0 (.slice none 0 0) 1 24 Tryd.underlying22 hj hz0 hz1 hz2 rfl (by decide) _ _ _ rfl (hown.alloc _) ⟨w2.heap.size, 0, none⟩ 1 1 [.slice a2 zn c2] rfl rfl (cell_one_new _ _ _) (by simp [Value.oneCell']) HB1.out HB2.out (HLE.out _) (fun v' w1 hown' hgrow _ => ?_)); go_loud (obtain ⟨d3, e3, HS4⟩ := HNEXT.out _ _ _ hgrow hown'; obtain ⟨a4, c4, rfl, _⟩ := World.ownsRow.form hown'; clear hgrow hown' hown hcp))
        go_roundw
        case rel => exact ⟨k + 1, by omega, by omega, by go_num, HOK.out, HS4.out⟩
        case measure => simp [intOf]; omega
    · obtain ⟨v, A, C, hv1, hv2⟩ := HS.out.2.st
      obtain ⟨mm, hmm⟩ : ∃ mm, mm = (L.take k).map lsV := ⟨_, rfl⟩
      rw [← hmm] at hv2
      have hkn : k = n := by omega
      have hmk : mm.length ≤ 16 ∧ mm.length = k := by
        have h2 : mm.length = k := by rw [hmm, List.length_map, List.length_take, HLN.out]; omega
        omega
      have hrw : ∀ r, (mm.getD r []).length ≤ 1048576 := fun r => by rw [hmm]; exact gy_row _ r
      obtain ⟨av, cv, rfl, _⟩ := World.ownsRow.form hv2.outer
      have hmat := (hv2.mat (by decide)).mat
      obtain ⟨t, ht⟩ : ∃ t, tableOk mm 99 = t := ⟨_, rfl⟩
      have HIS := Lib.hid (validGrey_any av cv A C mm wo (by omega) hrw hmat t ht)
      have hcp := hv1.cell
      have lpp := hv1.lt
      have hmm2 : mm = L.map lsV := by rw [hmm, List.take_of_length_le (by rw [HLN.out]; omega)]
      have HFN : Hid (t = true → B = true ∧ M = mm) := fun h => by
        rw [h] at ht
        rw [hmm2] at ht ⊢
        exact HALL.out (by omega) (fun r hr => HS.out.1 r (by omega)) ht
      have HFF : Hid (t = false → B = false ∧ M = []) := fun h => by
        rw [h] at ht
        refine HTAB.out ?_
        rw [← hmm2]
        exact ht
      have HST2 : Hid (W0.Ext wo ∧ One wo w.heap.size 28 (.slice none 0 0) ∧ One wo p 28 (.slice av mm.length cv) ∧ OwnMat W0.heap.size wo.heap.size wo av A C mm) := ⟨HS.out.2.x, HS.out.2.one, hv1, hv2.mat (by decide)⟩
      have hltn : ¬ (k : Int) < (n : Int) := by omega
      clear HS hv1 hv2 hmm hmm2 hrw ht hmat HMANY HBAD HALL HTAB hmk hkn hlt1
      go_wp2_with fail
      refine HIS.out.mono ?_
      rintro e w3 ⟨rfl, hx3⟩
      obtain ⟨q1, q2, q3, q4⟩ := HST2.out
      have hX3 := HX0.out.trans (q1.trans hx3)
      cases t
      · have HF := Lib.hid (HFF.out rfl)
        obtain ⟨r1, r2, r3, HR⟩ := one_noPic hX3 (Nat.le_refl _) (q2.ext hx3)
        have HE : Hid (GreyRet2 w M B (.returned (.tuple #[.agg #[.slice none 0 0], .bool false])) (w3.setCell ⟨w.heap.size, 0, none⟩ (.slice none 0 0))) := by rw [HF.out.1, HF.out.2]; exact GreyRet2.no HR.out
        clear HF HFF HFN HST2 q1 q2 q3 q4 hx3 hX3 HIS
        go_wp2
        exact bodyPost_ret (v := .tuple #[.agg #[.slice none 0 0], .bool false]) (by simp [results, Tryd.results28, go_sem, r3]) rfl HE.out
      · have HF := Lib.hid (HFN.out rfl)
        have hc3 := (q3.ext hx3).cell
        obtain ⟨r1, r2, r3, HR⟩ := Res.storeM (.slice av mm.length cv) hX3 (Nat.le_refl _) (q2.ext hx3) hl0 ((q4.ext hx3).mono (Nat.le_refl _) hx3.size)
        have HE : Hid (GreyRet2 w M B (.returned (.tuple #[.agg #[.slice av mm.length cv], .bool true])) (w3.setCell ⟨w.heap.size, 0, none⟩ (.slice av mm.length cv))) := by
          rw [HF.out.1, HF.out.2]
          exact ⟨av, cv, A, C, rfl, HR.out.1, HR.out.2⟩
        have lp3 := (q3.ext hx3).lt
        clear HF HFF HFN HST2 q1 q2 q3 q4 hx3 hX3 HIS
        generalize mm.length = mn at *
        go_wp2
        exact bodyPost_ret (v := .tuple #[.agg #[.slice av mn cv], .bool true]) (by simp [results, Tryd.results28, go_sem, r3]) rfl HE.out
end Go.Proofs.YthgkmaccbcpaeaaDoor
