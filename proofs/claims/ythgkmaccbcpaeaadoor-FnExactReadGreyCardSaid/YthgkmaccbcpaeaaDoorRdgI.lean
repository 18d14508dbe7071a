/- Texts of grey pictures are read: the program. -/
import Derived.Test.YthgkmaccbcpaeaaDoorRdgG
namespace Go.Proofs.YthgkmaccbcpaeaaDoor
open Go Go.RowKit
theorem var_ext {P : Program} {w w' : World} {name : String} {cs : Array Value} (h : w.var? P name = some cs) (hx : w.Ext w') : w'.var? P name = some cs := by
  unfold World.var? at h ⊢
  cases hg : P.globalNamed name with
  | none => rw [hg] at h; cases h
  | some g =>
    rw [hg] at h
    have hlt : g < w.heap.size := by
      rcases Nat.lt_or_ge g w.heap.size with h1 | h1
      · exact h1
      · have e : w.heap[g]? = none := Array.getElem?_eq_none h1
        simp [e] at h
    simp only [Option.bind_some] at h ⊢
    rw [hx.below.block g hlt]
    exact h
/-- What the library's functions ask of the package variables. -/
structure DoorW (w : World) : Prop where
  mx : ∃ m, w.cell? ⟨0, 0, none⟩ = some (.int .i64 m)
  tab : Lib.TabIs Tryd.prog w "internal/strconv.uint64pow10" .u64 Lib.pow10Tab
  es : ∃ tp p, w.var? Tryd.prog "strconv.ErrSyntax" = some #[.iface tp p]
  er : ∃ tp p, w.var? Tryd.prog "strconv.ErrRange" = some #[.iface tp p]
theorem DoorW.ext {w w' : World} (h : DoorW w) (hx : w.Ext w') : DoorW w' := by
  obtain ⟨m, h1⟩ := h.mx
  obtain ⟨t1, p1, h2⟩ := h.es
  obtain ⟨t2, p2, h3⟩ := h.er
  exact ⟨⟨m, hx.cell h1⟩, var_ext h.tab hx, ⟨t1, p1, var_ext h2 hx⟩, ⟨t2, p2, var_ext h3 hx⟩⟩
theorem ext_grow (w : World) (k : Nat) (os : Array Obj) : w.Ext (Sort.grow (w.drewN k) os) := ⟨{ w with heap := os, drawn := (w.drewN k).drawn }, rfl⟩
theorem split_any (s : ByteArray) (c : UInt8) (w : World) (hd : DoorW w) (hs : s.size ≤ 1048576) :
    Calls Tryd.prog 49 #[.string s, .string ⟨#[c]⟩] w (StrsRet w ((cutL c s.data.toList).map bstr)) := by
  obtain ⟨m, hm⟩ := hd.mx
  refine (Tryd.strings_Split s ⟨#[c]⟩ m w (by omega) hm (Nat.le_refl 1)).mono fun e w' ⟨h1, h2⟩ => ?_
  rw [splitB_cut] at h2
  rw [cut_count] at h1
  subst h2
  have hb : BlkOf Value.string (w.alloc (.cells (((cutL c s.data.toList).map bstr).map Value.string).toArray 9)) w.heap.size 9 ((cutL c s.data.toList).map bstr) := heap_alloc_new w _
  exact ⟨some ⟨w.heap.size, 0, none⟩, (cutL c s.data.toList).length, by rw [h1, List.length_map], (World.Ext.refl w).alloc _, hb.own ByteArray.empty (Nat.le_refl _) (Nat.le_refl _), hb.tag⟩
theorem decimal_any (n : Int) (w : World) (h1 : -1000000000 ≤ n) (h2 : n ≤ 1000000000) (hd : DoorW w) : Calls Tryd.prog 73 #[.int .i64 n] w fun e w' => e = .returned (.string (bstr (Lib.itoa n))) ∧ w.Ext w' := by
  have HC := Lib.hid (Tryd.strconv_FormatInt_10 n (by omega) (by omega) w hd.tab)
  go_enter Tryd.func73, Tryd.ntmps73
  go_wp2_with fail
  refine HC.out.mono ?_
  rintro e w' ⟨rfl, k, os, rfl⟩
  have HX := Lib.hid (ext_grow w k os)
  generalize Sort.grow (w.drewN k) os = w2 at *
  go_wp2
  go_ret
  exact ⟨rfl, HX.out⟩
set_option maxRecDepth 5000 in
set_option maxHeartbeats 1600000 in
theorem readDecimal_any (s : ByteArray) (w : World) (hd : DoorW w) (hs : s.size ≤ 1048576) : Calls Tryd.prog 95 #[.string s] w (RdRet w s.data.toList) := by
  obtain ⟨l, hl⟩ : ∃ l, l = s.data.toList := ⟨_, rfl⟩
  have HSL : Hid (bstr l = s) := by show _ = _; rw [hl]; exact bstr_data s
  cases hp : Lib.parseIntB 64 s.data.toList with
  | ok v =>
    have HC := Lib.hid (Tryd.strconv_ParseInt_10_at64_ok s (by omega) v hp w)
    rw [← hl] at hp ⊢
    obtain ⟨t, ht⟩ : ∃ t, inB v (-1000000000) 1000000000 = t := ⟨_, rfl⟩
    have HIN := Lib.hid (fun w' => in_any v (-1000000000) 1000000000 w' t ht)
    have HNO1 : Hid (t = false → ∀ n, ¬ IsDec l n) := fun h => rd_parse hp fun h2 => by
      rw [h] at ht
      have : inB v (-1000000000) 1000000000 = true := inB_true.2 ⟨h2.1, h2.2.1⟩
      rw [this] at ht
      cases ht
    have HDC : Hid (t = true → ∀ w', w.Ext w' → Calls Tryd.prog 73 #[.int .i64 v] w' fun e w'' => e = .returned (.string (bstr (Lib.itoa v))) ∧ w'.Ext w'') := fun h w' hx => by
      rw [h] at ht
      have h2 := inB_true.1 ht
      exact decimal_any v w' h2.1 h2.2 (hd.ext hx)
    have HNO2 : Hid (bstr (Lib.itoa v) ≠ s → ∀ n, ¬ IsDec l n) := fun h => rd_parse hp fun h2 => h (by rw [h2.2.2]; exact HSL.out)
    have HYS : Hid (t = true → bstr (Lib.itoa v) = s → IsDec l v) := fun h h2 => by
      rw [h] at ht
      have h3 := inB_true.1 ht
      refine ⟨h3.1, h3.2, ?_⟩
      rw [← HSL.out] at h2
      have h4 := congrArg (fun b => b.data.toList) h2
      simpa [bstr] using h4
    clear hl hp hd ht
    go_enter Tryd.func95, Tryd.ntmps95
    go_wp2_with fail
    refine HC.out.mono ?_
    rintro e w1 ⟨rfl, hw1⟩
    have HX1 : Hid (w.Ext w1) := by
      rcases hw1 with rfl | ⟨q, rfl⟩
      · exact .refl _
      · exact World.Ext.of_below (Lib.bytesWorld_below _ _ _)
    clear hw1 HC
    go_wp2_with fail
    refine (HIN.out w1).mono ?_
    rintro e w2 ⟨rfl, hx2⟩
    have HX2 := Lib.hid (HX1.out.trans hx2)
    clear hx2 HIN
    cases t
    · have HN := Lib.hid (HNO1.out rfl)
      clear HNO1 HDC HNO2 HYS
      go_wp2
      exact bodyPost_ret (v := .tuple #[.int .i64 0, .bool false]) (by simp [results, Tryd.results95, go_sem]) rfl (RdRet.no HN.out HX2.out)
    · have HDC1 := Lib.hid (HDC.out rfl)
      have HYS1 := Lib.hid (HYS.out rfl)
      clear HNO1 HDC HYS
      go_wp2_with fail
      refine (HDC1.out w2 HX2.out).mono ?_
      rintro e w3 ⟨rfl, hx3⟩
      have HX3 := Lib.hid (HX2.out.trans hx3)
      clear hx3 HDC1
      generalize bstr (Lib.itoa v) = ds at *
      by_cases hq : ds = s
      · have HY := Lib.hid (HYS1.out hq)
        have hqb : (ds.toList == s.toList) = true := by rw [hq, beq_iff_eq]
        clear HYS1 HNO2 hq
        go_wp2
        exact bodyPost_ret (v := .tuple #[.int .i64 v, .bool true]) (by simp [results, Tryd.results95, go_sem]) rfl (RdRet.yes HY.out HX3.out)
      · have HN := Lib.hid (HNO2.out hq)
        have hqb : (ds.toList == s.toList) = false := by
          rw [beq_eq_false_iff_ne]
          intro h
          exact hq (bytes_inj2 h)
        clear HYS1 HNO2
        go_wp2
        exact bodyPost_ret (v := .tuple #[.int .i64 0, .bool false]) (by simp [results, Tryd.results95, go_sem]) rfl (RdRet.no HN.out HX3.out)
  | range =>
    obtain ⟨tp, p, hv⟩ := hd.er
    have HC := Lib.hid (Tryd.strconv_ParseInt_10_at64_range_var s (by omega) hp tp p w hv)
    rw [← hl] at hp ⊢
    have HN : Hid (∀ n, ¬ IsDec l n) := rd_fail fun v h => by rw [hp] at h; cases h
    clear hl hp hd hv
    go_enter Tryd.func95, Tryd.ntmps95
    go_wp2_with fail
    refine HC.out.mono ?_
    rintro e w1 ⟨N, rfl, -, -, hb⟩
    have HX1 := Lib.hid (World.Ext.of_below hb)
    clear hb HC
    go_wp2
    exact bodyPost_ret (v := .tuple #[.int .i64 0, .bool false]) (by simp [results, Tryd.results95, go_sem]) rfl (RdRet.no HN.out HX1.out)
  | _ =>
    obtain ⟨tp, p, hv⟩ := hd.es
    have HC := Lib.hid (Any.strconv_ParseInt_10_at64_syntax_var Tryd.laysC174 s (by omega) hp tp p w hv)
    rw [← hl] at hp ⊢
    have HN : Hid (∀ n, ¬ IsDec l n) := rd_fail fun v h => by rw [hp] at h; cases h
    clear hl hp hd hv
    go_enter Tryd.func95, Tryd.ntmps95
    go_wp2_with fail
    refine HC.out.mono ?_
    rintro e w1 ⟨N, rfl, -, -, hb⟩
    have HX1 := Lib.hid (World.Ext.of_below hb)
    clear hb HC
    go_wp2
    exact bodyPost_ret (v := .tuple #[.int .i64 0, .bool false]) (by simp [results, Tryd.results95, go_sem]) rfl (RdRet.no HN.out HX1.out)
set_option maxRecDepth 5000 in
set_option maxHeartbeats 1600000 in
theorem readList_any (s : ByteArray) (w : World) (hd : DoorW w) (hs : s.size ≤ 1048576) : Calls Tryd.prog 65 #[.string s] w (LsRet w s.data.toList) := by
  obtain ⟨i0, hi, hz0, hz1, hz2⟩ := info_parts Tryd.infoI64
  have hst := str_none s
  have HCT : Hid (∀ w', w.Ext w' → Calls Tryd.prog 49 #[.string s, .string ⟨#[44]⟩] w' (StrsRet w' ((cutL 44 s.data.toList).map bstr))) := fun w' hx => split_any s 44 w' (hd.ext hx) hs
  have HDW := Lib.hid hd
  have HPC : Hid (∀ k, k < (cutL 44 s.data.toList).length → ((cutL 44 s.data.toList).getD k []).length ≤ 1048576) := fun k hk => Nat.le_trans (cutL_piece 44 _ k) (by rw [Array.length_toList]; exact hs)
  obtain ⟨l, hl⟩ : ∃ l, l = s.data.toList := ⟨_, rfl⟩
  rw [← hl] at hst HCT HPC ⊢
  clear hl hd
  have HG0 : Hid (GrowOf (Value.int .i64) w.heap.size 2 (w.alloc (.cells #[] 2)) (.slice (some ⟨w.heap.size, 0, none⟩) 0 0) []) := GrowOf.empty (f := Value.int .i64) (lo := w.heap.size) (e := 2) w (Nat.le_refl _)
  have HX0 : Hid (w.Ext (w.alloc (.cells #[] 2))) := by show w.Ext _; repeat (first | exact World.Ext.refl _ | exact ⟨_, rfl⟩ | assumption | refine World.Ext.over ?_ _ | refine World.Ext.drewN ?_ _ | refine World.Ext.drew ?_ | refine World.Ext.alloc ?_ _ | refine World.Ext.setCell ?_ (by simp) _)
  by_cases hn : l = noneS
  · rw [decide_eq_true hn] at hst
    have HF : Hid (LsRet w l (.returned (.tuple #[.slice (some ⟨w.heap.size, 0, none⟩) 0 0, .bool true])) (w.alloc (.cells #[] 2))) := by
      obtain ⟨h1, h2⟩ := ls_none hn
      refine ⟨some ⟨w.heap.size, 0, none⟩, 0, ?_, HX0.out, ?_⟩
      · rw [h1, h2]; rfl
      · rw [h2]; exact HG0.out
    clear hn HCT HPC HG0 HX0
    go_enter Tryd.func65, Tryd.ntmps65
    go_wp2
    exact bodyPost_ret (v := .tuple #[.slice (some ⟨w.heap.size, 0, none⟩) 0 0, .bool true]) (by simp [results, Tryd.results65, go_sem]) rfl HF.out
  · rw [decide_eq_false hn] at hst
    have HMANY : Hid (300 < (cutL 44 l).length → lsB l = false ∧ lsV l = []) := fun h => ls_many hn h
    have HBAD : Hid (∀ k, k < (cutL 44 l).length → rdB ((cutL 44 l).getD k []) = false → lsB l = false ∧ lsV l = []) := fun k hk h => ls_bad hn hk h
    have HALL : Hid ((cutL 44 l).length ≤ 300 → (∀ k, k < (cutL 44 l).length → rdB ((cutL 44 l).getD k []) = true) → lsB l = true ∧ lsV l = (cutL 44 l).map rdV) := fun h h2 => ls_all hn h h2
    generalize cutL 44 l = L at *
    clear hn
    obtain ⟨n, hnl⟩ : ∃ n, n = (L.map bstr).length := ⟨_, rfl⟩
    have hnl2 : L.length = n := by rw [hnl, List.length_map]
    have HLN := Lib.hid hnl2
    rw [hnl2] at HPC HMANY HBAD HALL
    have HC1 := Lib.hid (HCT.out (w.alloc (.cells #[] 2)) HX0.out)
    clear HCT hnl2
    go_enter Tryd.func65, Tryd.ntmps65
    go_wp2_with fail
    refine HC1.out.mono ?_
    rintro e w1 ⟨a1, c1, rfl, hx1, ho1, hta1⟩
    rw [← hnl]
    have HNL : Hid (n = (L.map bstr).length) := hnl
    have HX1 := Lib.hid (HX0.out.trans hx1)
    have HG1 := Lib.hid (HG0.out.ext hx1)
    have HR1 : Hid (RowS w1 a1 (L.map bstr) ∧ Tag w1 a1 9) := ⟨ho1.row, hta1⟩
    clear hx1 ho1 hnl HG0 HX0 HC1 hta1
    go_wp2
    go_loopw [4, 6, 7, 8, 16] (fun v _ _ _ i wr => ∃ k : Nat, k ≤ n ∧ k ≤ 300 ∧ i = .int .i64 k ∧ Hid ((∀ r, r < k → rdB (L.getD r []) = true) ∧ w.Ext wr ∧ GrowOf (Value.int .i64) w.heap.size 2 wr v ((L.take k).map rdV) ∧ RowS wr a1 (L.map bstr) ∧ Tag wr a1 9)) (fun _ _ _ _ i _ => n - (intOf i).toNat)
    case atStart => exact ⟨0, Nat.zero_le _, by omega, rfl, (fun r hr => by omega), HX1.out, HG1.out, HR1.out⟩
    case round =>
      clear HG1
      obtain ⟨k, hk, hk300, rfl, HS⟩ := hrel
      obtain ⟨wo, rfl⟩ : ∃ wo : World, wo = wr := ⟨_, rfl⟩
      have hk0 : (0 : Int) ≤ (k : Int) := by omega
      by_cases hlt : k < n
      · have hlt' : (k : Int) < (n : Int) := by omega
        obtain ⟨b, of0, rfl, hc⟩ := HS.out.2.2.2.1 k (by rw [← HNL.out]; exact hlt)
        have lb := World.block_lt_of_cell? _ _ hc
        rw [getD_map bstr L k [] _ (by rw [HLN.out]; exact hlt)] at hc
        have hv := readDecimal_any (bstr (L.getD k [])) wo (HDW.out.ext HS.out.2.1) (by rw [bstr_size]; exact HPC.out k hlt)
        rw [bstr_bytes] at hv
        have HV := Lib.hid hv
        obtain ⟨z, hz⟩ : ∃ z, z = rdV (L.getD k []) := ⟨_, rfl⟩
        obtain ⟨t, ht⟩ : ∃ t, t = rdB (L.getD k []) := ⟨_, rfl⟩
        have HT := Lib.hid ht
        have HNX : Hid ((L.take k).map rdV ++ [z] = (L.take (k + 1)).map rdV) := by
          show _ = _
          rw [hz, List.take_succ_eq_append_getElem (by rw [HLN.out]; exact hlt), List.map_append, List.getD_eq_getElem?_getD, List.getElem?_eq_getElem (by rw [HLN.out]; exact hlt)]
          rfl
        have HLK : Hid (((L.take k).map rdV).length = k) := by show _ = _; rw [List.length_map, List.length_take, HLN.out]; omega
        unfold RdRet at HV
        rw [← hz, ← ht] at HV
        clear hv hz ht
        generalize bstr (L.getD k []) = sk at *
        go_wp2_with fail
        refine HV.out.mono ?_
        rintro e w2 ⟨rfl, hx2⟩
        have HS2 : Hid (w.Ext w2 ∧ GrowOf (Value.int .i64) w.heap.size 2 w2 u4 ((L.take k).map rdV) ∧ RowS w2 (some ⟨b, of0, none⟩) (L.map bstr) ∧ Tag w2 (some ⟨b, of0, none⟩) 9) := ⟨HS.out.2.1.trans hx2, HS.out.2.2.1.ext hx2, RowOf.ext HS.out.2.2.2.1 hx2, HS.out.2.2.2.2.ext hx2⟩
        have HOK := Lib.hid HS.out.1
        clear HS hx2 HV hc lb
        cases t
        · have HF := Lib.hid (HBAD.out k hlt HT.out.symm)
          have HX3 := Lib.hid HS2.out.1
          clear HMANY HBAD HALL HOK HNX HLK
          go_wp2
          exact bodyPost_ret (v := .tuple #[.slice none 0 0, .bool false]) (by simp [results, Tryd.results65, go_sem]) rfl (LsRet.no HF.out HX3.out)
        · obtain ⟨a4, c4, e4, _⟩ := HS2.out.2.1.form
          rw [HLK.out] at e4
          subst e4
          by_cases h300 : k = 300
          · have HF := Lib.hid (HMANY.out (by omega))
            have HX3 := Lib.hid HS2.out.1
            have hkb : ((k : Int) == 300) = true := by rw [beq_iff_eq]; omega
            clear HMANY HBAD HALL HOK HNX HS2 h300
            go_wp2
            exact bodyPost_ret (v := .tuple #[.slice none 0 0, .bool false]) (by simp [results, Tryd.results65, go_sem]) rfl (LsRet.no HF.out HX3.out)
          have hkb : ((k : Int) == 300) = false := by rw [beq_eq_false_iff_ne]; omega
          have HOK2 : Hid (∀ r, r < k + 1 → rdB (L.getD r []) = true) := fun r hr => by
            by_cases e : r = k
            · rw [e]; exact HT.out.symm
            · exact HOK.out r (by omega)
          have hown := HS2.out.2.1
          unfold GrowOf at hown
          rw [HLK.out] at hown
          have HY1 : Hid (k + 1 ≤ maxLen) := by show _ ≤ _; unfold maxLen; omega
          have HY2 : Hid ((k + 1) * 1 ≤ 140737488355328) := by show _ ≤ _; omega
          have HY3 : Hid ((k + 1) * 8 ≤ 140737488355328) := by show _ ≤ _; omega
          have HLE : Hid (∀ o : Obj, w.heap.size ≤ (w2.alloc o).heap.size) := fun o => (HS2.out.1.alloc o).size
          have HNEXT : Hid (∀ (o : Obj) (v' : Value) (w3 : World), (w2.alloc o).grownBy w3 (Value.slice a4 k c4).ownBlock → w3.ownsRow w.heap.size 2 1 v' (k + 1) (((L.take k).map rdV).map (Value.int .i64) ++ [Value.int .i64 z]) → w.Ext w3 ∧ GrowOf (Value.int .i64) w.heap.size 2 w3 v' ((L.take (k + 1)).map rdV) ∧ RowS w3 (some ⟨b, of0, none⟩) (L.map bstr) ∧ Tag w3 (some ⟨b, of0, none⟩) 9) := fun ob v' w3 hgrow hown' => by
            refine ⟨HS2.out.2.1.pushExt HS2.out.1 hgrow, ?_, row_grown HS2.out.2.2.1 HS2.out.2.2.2 HS2.out.2.1 (by decide) hgrow⟩
            · rw [← HNX.out]
              exact GrowOf.push (by rw [HLK.out]; exact hown')
          clear HOK HNX HLK HT
          go_wp2_with ((at_builtin; refine wpList_append_own _ rfl _ _ 68 rfl w.heap.size 2 i0 (.int .i64 0) 1 8 Tryd.underlying68 hi hz0 hz1 hz2 rfl (by decide) _ _ _ rfl (hown.alloc _) ⟨w2.heap.size, 0, none⟩ 1 1 [.int .i64 z] rfl rfl (cell_one_new _ _ _) (by simp [Value.oneCell']) HY1.out HY3.out (HLE.out _) (fun v' w1 hown' hgrow _ => ?_)); go_loud (have HRN := Lib.hid (HNEXT.out _ _ _ hgrow hown'); clear hown' hgrow))
          go_roundw
          case rel => exact ⟨k + 1, by omega, by omega, by go_num, HOK2.out, HRN.out⟩
          case measure => simp [intOf]; omega
      · have : k = n := by omega
        subst this
        have hlt' : ¬ (k : Int) < (k : Int) := by omega
        obtain ⟨h1, h2⟩ := HALL.out (by omega) HS.out.1
        have hg := HS.out.2.2.1
        rw [List.take_of_length_le (by rw [HLN.out]; exact Nat.le_refl _), ← h2] at hg
        obtain ⟨a4, c4, rfl, _⟩ := hg.form
        have HF : Hid (LsRet w l (.returned (.tuple #[.slice a4 (lsV l).length c4, .bool true])) wo) := by
          refine ⟨a4, c4, ?_, HS.out.2.1, hg⟩
          rw [h1]
        clear HS hg h1 h2 HMANY HBAD HALL HR1
        generalize (lsV l).length = N at *
        go_wp2
        exact bodyPost_ret (v := .tuple #[.slice a4 N c4, .bool true]) (by simp [results, Tryd.results65, go_sem]) rfl HF.out
end Go.Proofs.YthgkmaccbcpaeaaDoor
