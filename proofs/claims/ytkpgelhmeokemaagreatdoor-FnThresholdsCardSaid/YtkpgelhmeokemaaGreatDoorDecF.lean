/- Numbers in decimal, as the reference and the program write them. -/
import Derived.Test.YtkpgelhmeokemaaGreatDoorGreyK
import Derived.Test.YtkpgelhmeokemaaGreatDoorLGr
import Derived.Test.YtkpgelhmeokemaaGreatDoorLayD
import Derived.Lib.LazyBuf
import Derived.IntWalk
namespace Go.Proofs.YtkpgelhmeokemaaGreatDoor
open Go Go.RowKit
def bstr (l : List UInt8) : ByteArray := ⟨l.toArray⟩
def u8s (L : List UInt8) : List Int := L.map fun b => (b.toNat : Int)
theorem u8s_len (L : List UInt8) : (u8s L).length = L.length := by simp [u8s]
theorem str_u8s (L : List UInt8) : strOfNums (u8s L) = bstr L := Lib.Lz.strOfNums_map L
theorem bstr_size (l : List UInt8) : (bstr l).size = l.length := by simp [bstr, ByteArray.size]
theorem bstr_append (a b : List UInt8) : bstr a ++ bstr b = bstr (a ++ b) := by
  unfold bstr
  rw [ByteArray.mk_append_mk]
theorem digs_le : ∀ (k u : Nat), u < 10 ^ (k + 1) → (Lib.decDigits u).length ≤ k + 1
  | 0, u, h => by rw [Lib.decDigits_one (by simpa using h)]; simp
  | k + 1, u, h => by
    rw [Lib.decDigits]
    split
    · simp
    · have := digs_le k (u / 10) (by rw [Nat.pow_succ] at h; exact Nat.div_lt_of_lt_mul (by omega))
      rw [List.length_append]
      simp
      omega
def dgt (v : Nat) : UInt8 := UInt8.ofNat (48 + v % 10)
theorem dgt_nat (v : Nat) : ((dgt v).toNat : Int) = 48 + (v : Int) % 10 := by
  have : (dgt v).toNat = 48 + v % 10 := by
    unfold dgt
    simp
    omega
  rw [this]
  omega
theorem digs_step (v : Nat) (L : List UInt8) : Lib.decDigits v ++ L = if v / 10 = 0 then dgt v :: L else Lib.decDigits (v / 10) ++ (dgt v :: L) := by
  rw [Lib.decDigits]
  by_cases h : v < 10
  · rw [dif_pos h, if_pos (by omega)]
    have : dgt v = UInt8.ofNat (48 + v) := by unfold dgt; rw [Nat.mod_eq_of_lt h]
    rw [this]
    rfl
  · rw [dif_neg h, if_neg (by omega), List.append_assoc]
    rfl
/-- The digits that are told so far, behind those that are left. -/
def DecI (u v : Nat) (L : List UInt8) : Prop := (L = [] ∧ v = u) ∨ (L ≠ [] ∧ Lib.decDigits u = if v = 0 then L else Lib.decDigits v ++ L)
theorem DecI.full {u v : Nat} {L : List UInt8} (h : DecI u v L) (hc : L = [] ∨ v ≠ 0) : Lib.decDigits u = Lib.decDigits v ++ L := by
  rcases h with ⟨h1, h2⟩ | ⟨h1, h2⟩
  · rw [h1, h2, List.append_nil]
  · rcases hc with h | h
    · exact absurd h h1
    · rw [h2, if_neg h]
theorem DecI.next {u v : Nat} {L : List UInt8} (h : DecI u v L) (hc : L = [] ∨ v ≠ 0) : DecI u (v / 10) (dgt v :: L) := .inr ⟨by simp, by rw [h.full hc]; exact digs_step v L⟩
theorem DecI.done {u v : Nat} {L : List UInt8} (h : DecI u v L) (h1 : L ≠ []) (h2 : v = 0) : L = Lib.decDigits u := by
  rcases h with ⟨h3, _⟩ | ⟨_, h4⟩
  · exact absurd h3 h1
  · rw [h4, if_pos h2]
theorem DecI.len {u v : Nat} {L : List UInt8} (h : DecI u v L) : L.length ≤ (Lib.decDigits u).length := by
  rcases h with ⟨h3, _⟩ | ⟨_, h4⟩
  · rw [h3]; simp
  · rw [h4]
    split
    · exact Nat.le_refl _
    · rw [List.length_append]; omega
theorem lit_own {w : World} {base : Nat} {T : TypeId} (v : Value) (h : base ≤ w.heap.size) : (w.alloc (.cells #[v] T)).ownsRow base T 1 (.slice (some ⟨w.heap.size, 0, none⟩) 1 1) 1 [v] :=
  ⟨by simp, .inr ⟨w.heap.size, 1, #[v], rfl, h, heap_alloc_new _ _, Nat.le_refl _, by decide, rfl, by simp⟩⟩
def jn (sep : UInt8) (xs : List (List UInt8)) : List UInt8 := Lib.join xs [sep]
theorem jn_one (sep : UInt8) (x : List UInt8) : jn sep [x] = x := Lib.join_one x [sep]
theorem jn_next (sep : UInt8) (xs : List (List UInt8)) {k : Nat} (hk : 1 ≤ k) (h : k < xs.length) : jn sep (xs.take (k + 1)) = jn sep (xs.take k) ++ ([sep] ++ xs.getD k []) := by
  obtain ⟨x, r, rfl⟩ : ∃ x r, xs = x :: r := by
    cases xs with
    | nil => simp at h
    | cons x r => exact ⟨x, r, rfl⟩
  obtain ⟨j, rfl⟩ : ∃ j, k = j + 1 := ⟨k - 1, by omega⟩
  unfold jn
  rw [List.take_succ_cons, List.take_succ_cons, Lib.join_cons, Lib.join_cons, List.getD_cons_succ]
  have h2 : j < r.length := by simpa using h
  rw [Lib.joinTail_take_succ [sep] r j (r.getD j []) (by rw [List.getD_eq_getElem?_getD, List.getElem?_eq_getElem h2]; rfl), List.append_assoc, List.append_assoc]
theorem jn_take_le (sep : UInt8) (xs : List (List UInt8)) (B : Nat) (hB : ∀ k, (xs.getD k []).length ≤ B) (k : Nat) : (jn sep (xs.take k)).length ≤ k * (B + 1) := by
  induction k with
  | zero => simp [jn, Lib.join_nil]
  | succ k ih =>
    by_cases h : k < xs.length
    · by_cases hk : 1 ≤ k
      · rw [jn_next sep xs hk h, List.length_append, List.length_append]
        have := hB k
        rw [Nat.add_mul]
        simp only [List.length_cons, List.length_nil]
        omega
      · have : k = 0 := by omega
        subst this
        obtain ⟨x, r, rfl⟩ : ∃ x r, xs = x :: r := by
          cases xs with
          | nil => simp at h
          | cons x r => exact ⟨x, r, rfl⟩
        have := hB 0
        rw [show (x :: r).take (0 + 1) = [x] from rfl, jn_one]
        simp at this ⊢
        omega
    · rw [List.take_of_length_le (by omega)]
      rw [List.take_of_length_le (by omega)] at ih
      exact Nat.le_trans ih (Nat.mul_le_mul_right _ (by omega))
/-- A list of numbers as text. -/
def rowT (zs : List Int) : List UInt8 := jn 44 (zs.map Lib.itoa)
/-- A grey picture as text. -/
def greyT (m : List (List Int)) : List UInt8 := jn 47 (m.map rowT)
def Few99 (zs : List Int) : Prop := zs.length ≤ 16 ∧ ∀ k, k < zs.length → 0 ≤ zs.getD k 0 ∧ zs.getD k 0 ≤ 99
theorem getD_map {α β : Type} (f : α → β) (l : List α) (k : Nat) (d : α) (e : β) (h : k < l.length) : (l.map f).getD k e = f (l.getD k d) := by
  rw [List.getD_eq_getElem?_getD, List.getD_eq_getElem?_getD, List.getElem?_map, List.getElem?_eq_getElem h]; rfl
theorem itoa_few {zs : List Int} (h : Few99 zs) (k : Nat) : ((zs.map Lib.itoa).getD k []).length ≤ 2 := by
  by_cases hk : k < zs.length
  · rw [getD_map Lib.itoa zs k 0 [] hk]
    obtain ⟨h1, h2⟩ := h.2 k hk
    obtain ⟨u, hu⟩ := Int.eq_ofNat_of_zero_le h1
    rw [hu, Lib.itoa_nonneg]
    exact digs_le 1 u (by omega)
  · rw [List.getD_eq_getElem?_getD, List.getElem?_eq_none (by simp; omega)]
    simp
theorem few_of {m : List (List Int)} (hok : tableOk m 99 = true) (r : Nat) (hr : r < m.length) : Few99 (m.getD r []) ∧ 1 ≤ (m.getD r []).length := by
  obtain ⟨h1, h2, h3, h4, h5, h6⟩ := tableOk_spec hok
  have h7 := h5 r hr
  exact ⟨⟨by omega, fun k hk => h6 r k hr hk⟩, by omega⟩
/-- The text of a grey picture, and whether there is one. -/
def gtxT (m : List (List Int)) : ByteArray := if tableOk m 99 then bstr (greyT m) else ⟨#[]⟩
theorem bstr_bytes (l : List UInt8) : (bstr l).data.toList = l := by simp [bstr]
theorem join_bstr (sep : UInt8) (L : List (List UInt8)) : (⟨(Lib.join ((L.map bstr).map (·.data.toList)) (⟨#[sep]⟩ : ByteArray).data.toList).toArray⟩ : ByteArray) = bstr (jn sep L) := by
  have e : (L.map bstr).map (·.data.toList) = L := by
    rw [List.map_map]
    conv => rhs; rw [← List.map_id L]
    exact List.map_congr_left fun l _ => bstr_bytes l
  rw [e]
  rfl
/-- A row of strings of the call's own is joined. -/
theorem join_own {lo : Nat} {T : TypeId} (sep : UInt8) (L : List (List UInt8)) {w : World} {a : Option Addr} {n c : Nat} (h : GrowOf Value.string lo T w (.slice a n c) (L.map bstr)) (h1 : 0 < L.length) (hc : L.length ≤ 1000) (hb : (jn sep L).length ≤ 100000) :
    Calls Tryz.prog 32 #[.slice a n c, .string ⟨#[sep]⟩] w fun e w' => e = .returned (.string (bstr (jn sep L))) ∧ w.Ext w' := by
  obtain ⟨a', cap, e, hcap⟩ := h.form
  cases e
  obtain ⟨g, cap', e, hg1, hg2, hcell⟩ := h.some (by simpa using h1)
  cases e
  refine (Tryz.strings_Join g 0 c (L.map bstr) ⟨#[sep]⟩ w (fun j x hj => ?_) hg2 (by rw [List.length_map]; omega) (by simpa using hcap) ?_).mono fun e w' ⟨h1, h2⟩ => ⟨?_, World.Ext.of_below h2⟩
  · have hj2 : j < (L.map bstr).length := (List.getElem?_eq_some_iff.1 hj).1
    rw [Nat.zero_add, hcell ByteArray.empty j hj2, List.getD_eq_getElem?_getD, hj]
    rfl
  · have e := congrArg ByteArray.size (join_bstr sep L)
    rw [bstr_size] at e
    have e2 : (⟨(Lib.join ((L.map bstr).map (·.data.toList)) (⟨#[sep]⟩ : ByteArray).data.toList).toArray⟩ : ByteArray).size = (Lib.join ((L.map bstr).map (·.data.toList)) (⟨#[sep]⟩ : ByteArray).data.toList).length := by simp [ByteArray.size]
    rw [← e2, e]
    omega
  · rw [h1, join_bstr]
theorem decimal_small (u : Nat) (w : World) (hu : u ≤ 99) : Calls Tryz.prog 47 #[.int .i64 u] w fun e w' => e = .returned (.string (bstr (Lib.itoa u))) ∧ w.Ext w' := by
  have HC := Lib.hid (Tryz.strconv_FormatInt_10_small u (by omega) w)
  go_enter Tryz.func47, Tryz.ntmps47
  go_wp2_with fail
  refine HC.out.mono ?_
  rintro e w' ⟨rfl, rfl⟩
  go_wp2
  go_ret
  exact ⟨by rw [Lib.itoa_nonneg]; rfl, .refl _⟩
set_option maxRecDepth 5000 in
set_option maxHeartbeats 1600000 in
theorem listText_few (a : Option Addr) (c n : Nat) (zs : List Int) (w : World) (hn : zs.length = n) (h1 : 1 ≤ n) (hf : Few99 zs) (hr : RowI w a zs) :
    Calls Tryz.prog 31 #[.slice a n c] w fun e w' => e = .returned (.string (bstr (rowT zs))) ∧ w.Ext w' := by
  obtain ⟨is, his, hs0, hs1, hs2⟩ := info_parts Tryz.infoStr
  have hn16 : n ≤ 16 := by have := hf.1; omega
  have HD : Hid (∀ k, k < n → ∃ u : Nat, zs.getD k 0 = (u : Int) ∧ ∀ w', Calls Tryz.prog 47 #[.int .i64 u] w' fun e w'' => e = .returned (.string (bstr ((zs.map Lib.itoa).getD k []))) ∧ w'.Ext w'') := fun k hk => by
    obtain ⟨q1, q2⟩ := hf.2 k (by omega)
    obtain ⟨u, hu⟩ := Int.eq_ofNat_of_zero_le q1
    refine ⟨u, hu, fun w' => ?_⟩
    rw [getD_map Lib.itoa zs k 0 [] (by omega), hu]
    exact decimal_small u w' (by omega)
  obtain ⟨L, hL⟩ : ∃ L, L = zs.map Lib.itoa := ⟨_, rfl⟩
  have HLL : Hid (L.length = n) := by show _ = _; rw [hL]; simp [hn]
  have HZL : Hid (zs.length = n) := hn
  have HJ : Hid ((jn 44 L).length ≤ 100000) := by
    have h3 := jn_take_le 44 (zs.map Lib.itoa) 2 (itoa_few hf) n
    rw [List.take_of_length_le (by simp; omega)] at h3
    show _ ≤ _
    rw [hL]
    omega
  have HE : Hid (jn 44 L = rowT zs) := by show _ = _; rw [hL]; rfl
  rw [← hL] at HD
  have HR := Lib.hid hr
  have HG0 : Hid (GrowOf Value.string w.heap.size 9 (w.alloc (.cells #[] 9)) (.slice (some ⟨w.heap.size, 0, none⟩) 0 0) ((L.take 0).map bstr)) := GrowOf.empty (f := Value.string) (lo := w.heap.size) (e := 9) w (Nat.le_refl _)
  have HX0 : Hid (w.Ext (w.alloc (.cells #[] 9))) := by show w.Ext _; repeat (first | exact World.Ext.refl _ | exact ⟨_, rfl⟩ | assumption | refine World.Ext.over ?_ _ | refine World.Ext.drewN ?_ _ | refine World.Ext.drew ?_ | refine World.Ext.alloc ?_ _ | refine World.Ext.setCell ?_ (by simp) _)
  rw [← HE.out]
  clear hr hf hL hn
  have hn0 : ((n : Int) == 0) = false := by rw [beq_eq_false_iff_ne]; omega
  go_enter Tryz.func31, Tryz.ntmps31
  go_wp2
  go_loopw [3, 5, 9] (fun v _ i wr => ∃ k : Nat, k ≤ n ∧ i = .int .i64 k ∧ Hid (w.Ext wr ∧ GrowOf Value.string w.heap.size 9 wr v ((L.take k).map bstr))) (fun _ _ i _ => n - (intOf i).toNat)
  case atStart => exact ⟨0, Nat.zero_le _, rfl, HX0.out, HG0.out⟩
  case round =>
    clear HX0 HG0
    obtain ⟨k, hk, rfl, HS⟩ := hrel
    obtain ⟨wo, rfl⟩ : ∃ wo : World, wo = wr := ⟨_, rfl⟩
    have hk0 : (0 : Int) ≤ (k : Int) := by omega
    by_cases hlt : k < n
    · have hlt' : (k : Int) < (n : Int) := by omega
      obtain ⟨u, hu, hd⟩ := HD.out k hlt
      obtain ⟨b, o, rfl, hc⟩ := (RowOf.ext HR.out HS.out.1) k (by rw [HZL.out]; exact hlt)
      rw [hu] at hc
      have HC := Lib.hid hd
      have lb := World.block_lt_of_cell? _ _ hc
      obtain ⟨st, hst⟩ : ∃ st, st = bstr (L.getD k []) := ⟨_, rfl⟩
      rw [← hst] at HC
      have HNX : Hid ((L.take k).map bstr ++ [st] = (L.take (k + 1)).map bstr) := by
        show _ = _
        rw [hst, List.take_succ_eq_append_getElem (by rw [HLL.out]; exact hlt), List.map_append, List.getD_eq_getElem?_getD, List.getElem?_eq_getElem (by rw [HLL.out]; exact hlt)]
        rfl
      have HLK : Hid (((L.take k).map bstr).length = k) := by show _ = _; rw [List.length_map, List.length_take, HLL.out]; omega
      clear hu hd hst
      go_wp2_with fail
      refine (HC.out wo).mono ?_
      rintro e w2 ⟨rfl, hx2⟩
      have HS2 : Hid (w.Ext w2 ∧ GrowOf Value.string w.heap.size 9 w2 u3 ((L.take k).map bstr)) := ⟨HS.out.1.trans hx2, HS.out.2.ext hx2⟩
      have hown := HS2.out.2
      unfold GrowOf at hown
      rw [HLK.out] at hown
      have HY1 : Hid (k + 1 ≤ maxLen) := by show _ ≤ _; unfold maxLen; omega
      have HY2 : Hid ((k + 1) * 16 ≤ 140737488355328) := by show _ ≤ _; omega
      have HLE : Hid (∀ o : Obj, w.heap.size ≤ (w2.alloc o).heap.size) := fun o => (HS2.out.1.alloc o).size
      have HNEXT : Hid (∀ (o : Obj) (v' : Value) (w1 : World), (w2.alloc o).grownBy w1 u3.ownBlock → w1.ownsRow w.heap.size 9 1 v' (k + 1) (((L.take k).map bstr).map Value.string ++ [Value.string st]) → w.Ext w1 ∧ GrowOf Value.string w.heap.size 9 w1 v' ((L.take (k + 1)).map bstr)) := fun o v' w1 hgrow hown' => by
        refine ⟨HS2.out.2.pushExt HS2.out.1 hgrow, ?_⟩
        rw [← HNX.out]
        exact GrowOf.push (by rw [HLK.out]; exact hown')
      clear HS hx2 HC hc lb HNX HLK
      go_wp2_with ((at_builtin; refine wpList_append_own _ rfl _ _ 29 rfl w.heap.size 9 is (.string ByteArray.empty) 1 16 Tryz.underlying29 his hs0 hs1 hs2 rfl (by decide) _ _ _ rfl (hown.alloc _) ⟨w2.heap.size, 0, none⟩ 1 1 [.string st] rfl rfl (cell_one_new _ _ _) (by simp [Value.oneCell']) HY1.out HY2.out (HLE.out _) (fun v' w1 hown' hgrow _ => ?_)); go_loud (have HRN := Lib.hid (HNEXT.out _ _ _ hgrow hown'); clear hown' hgrow))
      go_roundw
      case rel => exact ⟨k + 1, by omega, by go_num, HRN.out⟩
      case measure => simp [intOf]; omega
    · have : k = n := by omega
      subst this
      have hlt' : ¬ (k : Int) < (k : Int) := by omega
      have hg := HS.out.2
      rw [List.take_of_length_le (by rw [HLL.out]; exact Nat.le_refl _)] at hg
      obtain ⟨a3, c3, rfl, _⟩ := hg.form
      have hgl : (L.map bstr).length = k := by rw [List.length_map, HLL.out]
      rw [hgl] at hg ⊢
      have HC := Lib.hid (join_own 44 L hg (by rw [HLL.out]; omega) (by rw [HLL.out]; omega) HJ.out)
      have HX := Lib.hid HS.out.1
      clear hg HS hgl
      go_wp2_with fail
      refine HC.out.mono ?_
      rintro e w2 ⟨rfl, hx2⟩
      have HX2 := Lib.hid (HX.out.trans hx2)
      clear hx2
      go_wp2
      go_ret
      exact ⟨rfl, HX2.out⟩
set_option maxRecDepth 5000 in
set_option maxHeartbeats 1600000 in
theorem implGtx_any (a : Option Addr) (c : Nat) (A : Nat → Option Addr) (C : Nat → Nat) (m : List (List Int)) (w : World) (hb : MatBnd m) (hm : MatAt w a A C m) :
    Calls Tryz.prog 10 #[.agg #[.slice a m.length c]] w fun e w' => e = .returned (.tuple #[.string (gtxT m), .bool (tableOk m 99)]) ∧ w.Ext w' := by
  obtain ⟨is, his, hs0, hs1, hs2⟩ := info_parts Tryz.infoStr
  obtain ⟨W0, hW0⟩ : ∃ W0, W0 = w.alloc (.cells #[.slice a m.length c] 26) := ⟨_, rfl⟩
  have hx0 : w.Ext W0 := by rw [hW0]; repeat (first | exact World.Ext.refl _ | exact ⟨_, rfl⟩ | assumption | refine World.Ext.over ?_ _ | refine World.Ext.drewN ?_ _ | refine World.Ext.drew ?_ | refine World.Ext.alloc ?_ _ | refine World.Ext.setCell ?_ (by simp) _)
  have hp0 : W0.cell? ⟨w.heap.size, 0, none⟩ = some (.slice a m.length c) := by rw [hW0]; simp [go_sem]
  have HP : Hid (∀ w', W0.Ext w' → w'.cell? ⟨w.heap.size, 0, none⟩ = some (.slice a m.length c)) := fun w' hx => hx.cell hp0
  have HIS := Lib.hid (validGrey_any a c A C m W0 hb.1 hb.2 (hm.ext hx0) _ rfl)
  have HX0 := Lib.hid hx0
  cases ht : tableOk m 99
  · rw [ht] at HIS
    have hg : gtxT m = ⟨#[]⟩ := by unfold gtxT; rw [ht]; rfl
    rw [hg]
    have lp := World.block_lt_of_cell? _ _ hp0
    clear hm hx0 hb hg ht HP
    go_enter Tryz.func10, Tryz.ntmps10
    go_upto_region 1 with fail
    rw [← hW0]
    clear hW0
    go_wp2_with fail
    refine HIS.out.mono ?_
    rintro e w1 ⟨rfl, hx1⟩
    have HX1 := Lib.hid (HX0.out.trans hx1)
    clear hx1 hp0 lp
    go_wp2
    exact bodyPost_ret (v := .tuple #[.string ⟨#[]⟩, .bool false]) (by simp [results, Tryz.results10, go_sem]) rfl ⟨rfl, HX1.out⟩
  · rw [ht] at HIS
    have hg : gtxT m = bstr (greyT m) := by unfold gtxT; rw [ht]; rfl
    rw [hg]
    obtain ⟨hl1, hl16⟩ : 1 ≤ m.length ∧ m.length ≤ 16 := ⟨(tableOk_spec ht).1, (tableOk_spec ht).2.1⟩
    have hrl : ∀ k, ((m.map rowT).getD k []).length ≤ 48 := fun k => by
      by_cases hk : k < m.length
      · rw [getD_map rowT m k [] [] hk]
        have h2 := (few_of ht k hk).1
        unfold rowT
        have h3 := jn_take_le 44 ((m.getD k []).map Lib.itoa) 2 (itoa_few h2) (m.getD k []).length
        rw [List.take_of_length_le (by simp)] at h3
        have := h2.1
        omega
      · rw [List.getD_eq_getElem?_getD, List.getElem?_eq_none (by simp; omega)]
        simp
    obtain ⟨L, hL⟩ : ∃ L, L = m.map rowT := ⟨_, rfl⟩
    have HROW : Hid (∀ k, k < m.length → ∃ b o a2 c2 n2, a = some ⟨b, o, none⟩ ∧ ∀ w', w.Ext w' → w'.cell? ⟨b, o + k, none⟩ = some (.slice a2 n2 c2) ∧ Calls Tryz.prog 31 #[.slice a2 n2 c2] w' fun e w3 => e = .returned (.string (bstr (L.getD k []))) ∧ w'.Ext w3) := fun k hk => by
      obtain ⟨⟨b, o, e1, hc⟩, hr⟩ := hm k hk
      refine ⟨b, o, A k, C k, _, e1, fun w' hx => ⟨hx.cell hc, ?_⟩⟩
      have h2 := few_of ht k hk
      rw [hL, getD_map rowT m k [] [] hk]
      exact listText_few (A k) (C k) _ (m.getD k []) w' rfl h2.2 h2.1 (RowOf.ext hr hx)
    obtain ⟨n, hn⟩ : ∃ n, n = m.length := ⟨_, rfl⟩
    rw [← hn] at HROW HP hl1 hl16 hp0 hW0 HIS ⊢
    have HLL : Hid (L.length = n) := by show _ = _; rw [hL, hn]; simp
    have HJ : Hid ((jn 47 L).length ≤ 100000) := by
      have h3 := jn_take_le 47 (m.map rowT) 48 hrl n
      rw [List.take_of_length_le (by simp; omega)] at h3
      show _ ≤ _
      rw [hL]
      omega
    have HE : Hid (jn 47 L = greyT m) := by show _ = _; rw [hL]; rfl
    rw [← HE.out]
    have lp := World.block_lt_of_cell? _ _ hp0
    clear hm hx0 hb hg ht hL hn hrl HE
    go_enter Tryz.func10, Tryz.ntmps10
    go_upto_region 1 with fail
    rw [← hW0]
    clear hW0
    go_wp2_with fail
    refine HIS.out.mono ?_
    rintro e w1 ⟨rfl, hx1⟩
    clear hp0 lp
    have hp1 := HP.out w1 hx1
    have lp := World.block_lt_of_cell? _ _ hp1
    have HX1 := Lib.hid (HX0.out.trans hx1)
    have HG0 : Hid (GrowOf Value.string w.heap.size 9 (w1.alloc (.cells #[] 9)) (.slice (some ⟨w1.heap.size, 0, none⟩) 0 0) ((L.take 0).map bstr)) := GrowOf.empty (f := Value.string) (lo := w.heap.size) (e := 9) w1 HX1.out.size
    have HX2 : Hid (w.Ext (w1.alloc (.cells #[] 9))) := HX1.out.alloc _
    clear hx1 HIS
    go_wp2
    clear hp1 lp
    go_loopw [4, 6, 14] (fun v _ i wr => ∃ k : Nat, k ≤ n ∧ i = .int .i64 k ∧ Hid (w.Ext wr ∧ GrowOf Value.string w.heap.size 9 wr v ((L.take k).map bstr))) (fun _ _ i _ => n - (intOf i).toNat)
    case atStart => exact ⟨0, Nat.zero_le _, rfl, HX2.out, HG0.out⟩
    case round =>
      clear HX2 HG0
      obtain ⟨k, hk, rfl, HS⟩ := hrel
      obtain ⟨wo, rfl⟩ : ∃ wo : World, wo = wr := ⟨_, rfl⟩
      have hk0 : (0 : Int) ≤ (k : Int) := by omega
      by_cases hlt : k < n
      · have hlt' : (k : Int) < (n : Int) := by omega
        obtain ⟨b, o, a2, c2, n2, rfl, hd⟩ := HROW.out k hlt
        obtain ⟨hc, hcl⟩ := hd wo HS.out.1
        have HC := Lib.hid hcl
        have lb := World.block_lt_of_cell? _ _ hc
        obtain ⟨st, hst⟩ : ∃ st, st = bstr (L.getD k []) := ⟨_, rfl⟩
        rw [← hst] at HC
        have HNX : Hid ((L.take k).map bstr ++ [st] = (L.take (k + 1)).map bstr) := by
          show _ = _
          rw [hst, List.take_succ_eq_append_getElem (by rw [HLL.out]; exact hlt), List.map_append, List.getD_eq_getElem?_getD, List.getElem?_eq_getElem (by rw [HLL.out]; exact hlt)]
          rfl
        have HLK : Hid (((L.take k).map bstr).length = k) := by show _ = _; rw [List.length_map, List.length_take, HLL.out]; omega
        clear hd hst hcl
        go_wp2_with fail
        refine HC.out.mono ?_
        rintro e w2 ⟨rfl, hx2⟩
        have HS2 : Hid (w.Ext w2 ∧ GrowOf Value.string w.heap.size 9 w2 u4 ((L.take k).map bstr)) := ⟨HS.out.1.trans hx2, HS.out.2.ext hx2⟩
        have hown := HS2.out.2
        unfold GrowOf at hown
        rw [HLK.out] at hown
        have HY1 : Hid (k + 1 ≤ maxLen) := by show _ ≤ _; unfold maxLen; omega
        have HY2 : Hid ((k + 1) * 16 ≤ 140737488355328) := by show _ ≤ _; omega
        have HLE : Hid (∀ o : Obj, w.heap.size ≤ (w2.alloc o).heap.size) := fun o => (HS2.out.1.alloc o).size
        have HNEXT : Hid (∀ (o : Obj) (v' : Value) (w1 : World), (w2.alloc o).grownBy w1 u4.ownBlock → w1.ownsRow w.heap.size 9 1 v' (k + 1) (((L.take k).map bstr).map Value.string ++ [Value.string st]) → w.Ext w1 ∧ GrowOf Value.string w.heap.size 9 w1 v' ((L.take (k + 1)).map bstr)) := fun o v' w1 hgrow hown' => by
          refine ⟨HS2.out.2.pushExt HS2.out.1 hgrow, ?_⟩
          rw [← HNX.out]
          exact GrowOf.push (by rw [HLK.out]; exact hown')
        clear HS hx2 HC hc lb HNX HLK
        go_wp2_with ((at_builtin; refine wpList_append_own _ rfl _ _ 29 rfl w.heap.size 9 is (.string ByteArray.empty) 1 16 Tryz.underlying29 his hs0 hs1 hs2 rfl (by decide) _ _ _ rfl (hown.alloc _) ⟨w2.heap.size, 0, none⟩ 1 1 [.string st] rfl rfl (cell_one_new _ _ _) (by simp [Value.oneCell']) HY1.out HY2.out (HLE.out _) (fun v' w1 hown' hgrow _ => ?_)); go_loud (have HRN := Lib.hid (HNEXT.out _ _ _ hgrow hown'); clear hown' hgrow))
        go_roundw
        case rel => exact ⟨k + 1, by omega, by go_num, HRN.out⟩
        case measure => simp [intOf]; omega
      · have : k = n := by omega
        subst this
        have hlt' : ¬ (k : Int) < (k : Int) := by omega
        have hg := HS.out.2
        rw [List.take_of_length_le (by rw [HLL.out]; exact Nat.le_refl _)] at hg
        obtain ⟨a3, c3, rfl, _⟩ := hg.form
        have hgl : (L.map bstr).length = k := by rw [List.length_map, HLL.out]
        rw [hgl] at hg ⊢
        have HC := Lib.hid (join_own 47 L hg (by rw [HLL.out]; omega) (by rw [HLL.out]; omega) HJ.out)
        have HX := Lib.hid HS.out.1
        clear hg HS hgl
        go_wp2_with fail
        refine HC.out.mono ?_
        rintro e w2 ⟨rfl, hx2⟩
        have HX2 := Lib.hid (HX.out.trans hx2)
        clear hx2
        go_wp2
        exact bodyPost_ret (v := .tuple #[.string (bstr (jn 47 L)), .bool true]) (by simp [results, Tryz.results10, go_sem]) rfl ⟨rfl, HX2.out⟩
theorem greyT_bnd {m : List (List Int)} (ht : tableOk m 99 = true) : (greyT m).length ≤ maxLen := by
  have hl := (tableOk_spec ht).2.1
  have hrl : ∀ k, ((m.map rowT).getD k []).length ≤ 48 := fun k => by
    by_cases hk : k < m.length
    · rw [getD_map rowT m k [] [] hk]
      have h2 := (few_of ht k hk).1
      unfold rowT
      have h3 := jn_take_le 44 ((m.getD k []).map Lib.itoa) 2 (itoa_few h2) (m.getD k []).length
      rw [List.take_of_length_le (by simp)] at h3
      have := h2.1
      omega
    · rw [List.getD_eq_getElem?_getD, List.getElem?_eq_none (by simp; omega)]
      simp
  have h3 := jn_take_le 47 (m.map rowT) 48 hrl m.length
  rw [List.take_of_length_le (by simp)] at h3
  unfold maxLen
  unfold greyT
  omega
end Go.Proofs.YtkpgelhmeokemaaGreatDoor
