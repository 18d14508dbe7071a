/- Pictures by their spots, as text and back. -/
import Derived.Test.YtelaoimcaidoiaaDoorCutJ
import Derived.Test.YtelaoimcaidoiaaDoorSamB
import Derived.Test.YtelaoimcaidoiaaDoorFrmF
import Derived.Test.YtelaoimcaidoiaaDoorFitL
namespace Go.Proofs.YtelaoimcaidoiaaDoor
open Go Go.RowKit
/-- What the library reads of a package variable. -/
def Mx (w : World) : Prop := ∃ m, w.cell? ⟨0, 0, none⟩ = some (.int .i64 m)
theorem Mx.ext {w w' : World} (h : Mx w) (hx : w.Ext w') : Mx w' := let ⟨m, h⟩ := h; ⟨m, hx.cell h⟩
theorem splitM_any (s : ByteArray) (c : UInt8) (w : World) (hd : Mx w) (hs : s.size ≤ 1048576) :
    Calls Tryd.prog 31 #[.string s, .string ⟨#[c]⟩] w (StrsRet w ((cutY c s.data.toList).map bstr)) := by
  obtain ⟨m, hm⟩ := hd
  refine (Tryd.strings_Split s ⟨#[c]⟩ m w (by omega) hm (Nat.le_refl 1)).mono fun e w' ⟨h1, h2⟩ => ?_
  rw [splitB_cut] at h2
  rw [cut_count] at h1
  subst h2
  have hb : BlkOf Value.string (w.alloc (.cells (((cutY c s.data.toList).map bstr).map Value.string).toArray 9)) w.heap.size 9 ((cutY c s.data.toList).map bstr) := heap_alloc_new w _
  exact ⟨some ⟨w.heap.size, 0, none⟩, (cutY c s.data.toList).length, by rw [h1, List.length_map], (World.Ext.refl w).alloc _, hb.own ByteArray.empty (Nat.le_refl _) (Nat.le_refl _), hb.tag⟩
/-- The text of a picture. -/
def pixT (ss : List ByteArray) : ByteArray := bstr (jn 47 (ss.map (·.data.toList)))
theorem map_bstr (ss : List ByteArray) : (ss.map (·.data.toList)).map bstr = ss := by
  rw [List.map_map]
  exact (List.map_congr_left fun s _ => by simp [bstr]).trans (List.map_id _)
theorem pixT_cut {ss : List ByteArray} (h : picOk ss = true) : (cutY 47 (pixT ss).data.toList).map bstr = ss := by
  have hd : (pixT ss).data.toList = jn 47 (ss.map (·.data.toList)) := by simp [pixT, bstr]
  obtain ⟨v1, -⟩ := picOk_spec h
  rw [hd, cutY_jn _ (fun e => by rw [List.map_eq_nil_iff] at e; rw [e] at v1; simp at v1) (fun x hx hc => ?_), map_bstr]
  obtain ⟨s, hs, rfl⟩ := List.mem_map.1 hx
  unfold picOk at h
  rw [Bool.and_eq_true, List.all_eq_true] at h
  have h2 := h.2 s hs
  unfold rowGood at h2
  rw [Bool.and_eq_true, List.all_eq_true] at h2
  have h3 := h2.2 47 hc
  exact absurd h3 (by decide)
theorem pixT_size {ss : List ByteArray} (h : picOk ss = true) : (pixT ss).size ≤ 1048576 := by
  obtain ⟨v1, v2, v3, v4, v5, -⟩ := picOk_spec h
  unfold pixT
  rw [bstr_size]
  have h1 := jn_take_le 47 (ss.map (·.data.toList)) 16 (fun k => by
    by_cases hk : k < ss.length
    · have h2 := v5.2 k hk
      rw [List.getD_eq_getElem?_getD, List.getElem?_map, List.getElem?_eq_getElem hk]
      rw [List.getD_eq_getElem?_getD, List.getElem?_eq_getElem hk] at h2
      have h3 : (ss[k].data.toList).length = ss[k].size := by rw [Array.length_toList]; rfl
      show (ss[k].data.toList).length ≤ 16
      have h4 : ss[k].size = picW ss := h2
      omega
    · rw [List.getD_eq_getElem?_getD, List.getElem?_eq_none (by simp; omega)]; simp) ss.length
  rw [List.take_of_length_le (by simp)] at h1
  omega
set_option maxHeartbeats 400000 in
theorem validPic_any (a : Option Addr) (c : Nat) (ss : List ByteArray) (w : World) (hok : picOk ss = true) (hm : RowS w a ss) :
    Calls Tryd.prog 13 #[.agg #[.slice a ss.length c]] w fun e w' => e = .returned (.bool true) ∧ w.Ext w' := by
  have hb := pic_bnd hok
  obtain ⟨W0, hW0⟩ : ∃ W0, W0 = w.alloc (.cells #[.slice a ss.length c] 26) := ⟨_, rfl⟩
  have hx0 : w.Ext W0 := by rw [hW0]; repeat (first | exact World.Ext.refl _ | exact ⟨_, rfl⟩ | assumption | refine World.Ext.over ?_ _ | refine World.Ext.drewN ?_ _ | refine World.Ext.drew ?_ | refine World.Ext.alloc ?_ _ | refine World.Ext.setCell ?_ (by simp) _)
  have HI := Lib.hid (imageOf_any a c ss W0 hb.1 hb.2 (RowOf.ext hm hx0) true hok)
  have HX0 := Lib.hid hx0
  clear hb hok hm hx0
  go_enter Tryd.func13, Tryd.ntmps13
  go_wp2_with fail
  rw [← hW0]
  clear hW0
  refine HI.out.mono ?_
  intro e w1 h
  obtain ⟨b, ab, rfl, hx1, -⟩ : ∃ b ab, e = .returned (.tuple #[.pointer (some ⟨b, 0, none⟩), .bool true]) ∧ W0.Ext w1 ∧ Img w1 b ab (picW ss) ss.length (picL ss) ∧ W0.heap.size ≤ b ∧ W0.heap.size ≤ ab := h
  have HX1 := Lib.hid (HX0.out.trans hx1)
  clear hx1 HI
  go_wp2
  go_ret
  exact ⟨rfl, HX1.out⟩
set_option maxHeartbeats 800000 in
theorem spotsOf_any (a : Option Addr) (c : Nat) (ss : List ByteArray) (w : World) (hok : picOk ss = true) (hm : RowS w a ss) :
    Calls Tryd.prog 6 #[.agg #[.slice a ss.length c]] w fun e w' => ∃ a' c', e = .returned (.tuple #[.slice a' (spotsTo (picW ss) (picL ss) (ss.length * picW ss)).length c', .bool true]) ∧ w.Ext w' ∧ RowP w' a' (spotsTo (picW ss) (picL ss) (ss.length * picW ss)) := by
  have hb := pic_bnd hok
  obtain ⟨W0, hW0⟩ : ∃ W0, W0 = w.alloc (.cells #[.slice a ss.length c] 26) := ⟨_, rfl⟩
  have hx0 : w.Ext W0 := by rw [hW0]; repeat (first | exact World.Ext.refl _ | exact ⟨_, rfl⟩ | assumption | refine World.Ext.over ?_ _ | refine World.Ext.drewN ?_ _ | refine World.Ext.drew ?_ | refine World.Ext.alloc ?_ _ | refine World.Ext.setCell ?_ (by simp) _)
  obtain ⟨v1, v2, v3, v4, v5, -⟩ := picOk_spec hok
  have HI := Lib.hid (imageOf_any a c ss W0 hb.1 hb.2 (RowOf.ext hm hx0) true hok)
  have HSP : Hid (∀ w' b ab, Img w' b ab (picW ss) ss.length (picL ss) → Calls Tryd.prog 24 #[.pointer (some ⟨b, 0, none⟩)] w' (PairsRet w' (spotsTo (picW ss) (picL ss) (ss.length * picW ss)))) := fun w' b ab hI => spots_any b ab _ _ _ w' (by omega) (by omega) hI
  have HX0 := Lib.hid hx0
  clear hb hok hm hx0 v1 v2 v3 v4 v5
  generalize spotsTo (picW ss) (picL ss) (ss.length * picW ss) = ps at *
  go_enter Tryd.func6, Tryd.ntmps6
  go_wp2_with fail
  rw [← hW0]
  clear hW0
  refine HI.out.mono ?_
  intro e w1 h
  obtain ⟨b, ab, rfl, hx1, hI, -, -⟩ : ∃ b ab, e = .returned (.tuple #[.pointer (some ⟨b, 0, none⟩), .bool true]) ∧ W0.Ext w1 ∧ Img w1 b ab (picW ss) ss.length (picL ss) ∧ W0.heap.size ≤ b ∧ W0.heap.size ≤ ab := h
  have HC := Lib.hid (HSP.out w1 b ab hI)
  have HX1 := Lib.hid (HX0.out.trans hx1)
  clear hx1 hI
  go_wp2_with fail
  refine HC.out.mono ?_
  rintro e w2 ⟨a2, c2, rfl, hx2, ho2⟩
  have HR : Hid (w.Ext w2 ∧ RowP w2 a2 ps) := ⟨HX1.out.trans hx2, ho2.row⟩
  clear hx2 ho2 HC
  go_wp2
  go_ret2
  exact ⟨a2, c2, rfl, HR.out.1, HR.out.2⟩
set_option maxHeartbeats 800000 in
theorem pictureText_any (a : Option Addr) (c : Nat) (ss : List ByteArray) (w : World) (hok : picOk ss = true) (hc : ss.length ≤ c) (hm : RowS w a ss) :
    Calls Tryd.prog 8 #[.agg #[.slice a ss.length c]] w fun e w' => e = .returned (.tuple #[.string (pixT ss), .bool true]) ∧ w.Ext w' := by
  obtain ⟨v1, v2, -⟩ := picOk_spec hok
  obtain ⟨rb, ro, ha, hc0⟩ := hm 0 (show 0 < ss.length by omega)
  subst ha
  obtain ⟨W0, hW0⟩ : ∃ W0, W0 = w.alloc (.cells #[.slice (some ⟨rb, ro, none⟩) ss.length c] 26) := ⟨_, rfl⟩
  have hx0 : w.Ext W0 := by rw [hW0]; repeat (first | exact World.Ext.refl _ | exact ⟨_, rfl⟩ | assumption | refine World.Ext.over ?_ _ | refine World.Ext.drewN ?_ _ | refine World.Ext.drew ?_ | refine World.Ext.alloc ?_ _ | refine World.Ext.setCell ?_ (by simp) _)
  have d0 : W0.cell? ⟨w.heap.size, 0, none⟩ = some (.slice (some ⟨rb, ro, none⟩) ss.length c) := by rw [hW0]; simp [go_sem]
  have HV := Lib.hid (validPic_any _ c ss W0 hok (RowOf.ext hm hx0))
  have HJ : Hid (∀ w', W0.Ext w' → Calls Tryd.prog 30 #[.slice (some ⟨rb, ro, none⟩) ss.length c, .string ⟨#[47]⟩] w' fun e w'' => e = .returned (.string (pixT ss)) ∧ w'.Ext w'') := fun w' hx => by
    have hm' : RowS w' (some ⟨rb, ro, none⟩) ss := RowOf.ext (RowOf.ext hm hx0) hx
    have e0 := join_bstr 47 (ss.map (·.data.toList))
    rw [map_bstr] at e0
    refine (Tryd.strings_Join rb ro c ss ⟨#[47]⟩ w' (fun j x hj => ?_) ?_ (by omega) hc ?_).mono fun e w'' ⟨h1, h2⟩ => ⟨?_, World.Ext.of_below h2⟩
    · have hjl : j < ss.length := (List.getElem?_eq_some_iff.1 hj).1
      obtain ⟨b', o', e', h3⟩ := hm' j hjl
      cases e'
      rw [h3, List.getD_eq_getElem?_getD, hj]
      rfl
    · obtain ⟨b', o', e', h3⟩ := hm' 0 (by omega)
      cases e'
      exact World.block_lt_of_cell? _ _ h3
    · have h3 := pixT_size hok
      unfold pixT at h3
      rw [← e0] at h3
      have e2 : (⟨(Lib.join (ss.map (·.data.toList)) (⟨#[47]⟩ : ByteArray).data.toList).toArray⟩ : ByteArray).size = (Lib.join (ss.map (·.data.toList)) (⟨#[47]⟩ : ByteArray).data.toList).length := by simp [ByteArray.size]
      rw [e2] at h3
      omega
    · rw [h1]
      unfold pixT
      rw [← e0]
  have HD : Hid (∀ w', W0.Ext w' → w'.cell? ⟨w.heap.size, 0, none⟩ = some (.slice (some ⟨rb, ro, none⟩) ss.length c)) := fun w' h => h.cell d0
  have HX0 := Lib.hid hx0
  have l0 := World.block_lt_of_cell? _ _ d0
  clear hx0 hm hok hc0 v1 v2
  generalize pixT ss = T at *
  generalize ss.length = n at *
  go_enter Tryd.func8, Tryd.ntmps8
  go_upto_region 1 with fail
  rw [← hW0]
  clear hW0
  go_wp2_with fail
  refine HV.out.mono ?_
  rintro e w1 ⟨rfl, hx1⟩
  have HX1 := Lib.hid hx1
  clear hx1 HV d0 l0
  have d0 := HD.out w1 HX1.out
  have l0 := World.block_lt_of_cell? _ _ d0
  go_wp2_with fail
  refine (HJ.out w1 HX1.out).mono ?_
  rintro e w2 ⟨rfl, hx2⟩
  have HX2 := Lib.hid (HX0.out.trans (HX1.out.trans hx2))
  clear hx2 HJ d0 l0
  go_wp2
  go_ret2
  exact ⟨rfl, HX2.out⟩
set_option maxHeartbeats 800000 in
theorem readPicture_any (ss : List ByteArray) (w : World) (hok : picOk ss = true) (hd : Mx w) :
    Calls Tryd.prog 9 #[.string (pixT ss)] w (PicRet2 w ss true) := by
  obtain ⟨W0, hW0⟩ : ∃ W0, W0 = w.alloc (.cells #[.slice none 0 0] 26) := ⟨_, rfl⟩
  have hx0 : w.Ext W0 := by rw [hW0]; repeat (first | exact World.Ext.refl _ | exact ⟨_, rfl⟩ | assumption | refine World.Ext.over ?_ _ | refine World.Ext.drewN ?_ _ | refine World.Ext.drew ?_ | refine World.Ext.alloc ?_ _ | refine World.Ext.setCell ?_ (by simp) _)
  have hone : One W0 w.heap.size 26 (.slice none 0 0) := by rw [hW0]; exact One.new _ _ _ _ rfl
  have HSP : Hid (Calls Tryd.prog 31 #[.string (pixT ss), .string ⟨#[47]⟩] W0 (StrsRet W0 ss)) := by
    have h := splitM_any (pixT ss) 47 W0 (hd.ext hx0) (pixT_size hok)
    rw [pixT_cut hok] at h
    exact h
  have HX0 := Lib.hid hx0
  have HO := Lib.hid hone
  have HV := Lib.hid (fun w' a c (h : RowS w' a ss) => validPic_any a c ss w' hok h)
  have hl0 : w.heap.size < W0.heap.size := hone.lt
  clear hx0 hone hd hok
  generalize pixT ss = T at *
  obtain ⟨n, hn⟩ : ∃ n, n = ss.length := ⟨_, rfl⟩
  have HNN := Lib.hid hn
  rw [← hn] at HV
  clear hn
  go_enter Tryd.func9, Tryd.ntmps9
  go_upto_region 1 with fail
  rw [← hW0]
  clear hW0
  go_wp2_with fail
  refine HSP.out.mono ?_
  rintro e w1 ⟨a1, c1, rfl, hx1, ho1, -⟩
  rw [← HNN.out]
  obtain ⟨w2, hw2⟩ : ∃ w2, w2 = w1.alloc (.cells #[.slice a1 n c1] 26) := ⟨_, rfl⟩
  have hx2 : w1.Ext w2 := by rw [hw2]; repeat (first | exact World.Ext.refl _ | exact ⟨_, rfl⟩ | assumption | refine World.Ext.over ?_ _ | refine World.Ext.drewN ?_ _ | refine World.Ext.drew ?_ | refine World.Ext.alloc ?_ _ | refine World.Ext.setCell ?_ (by simp) _)
  have d0 : w2.cell? ⟨w1.heap.size, 0, none⟩ = some (.slice a1 n c1) := by rw [hw2]; simp [go_sem]
  have HV2 := Lib.hid (HV.out w2 a1 c1 (RowOf.ext ho1.row hx2))
  have HX2 := Lib.hid (hx1.trans hx2)
  have HO1 := Lib.hid (And.intro hx2 ho1)
  have l0 := World.block_lt_of_cell? _ _ d0
  clear hx1 hx2 ho1 HSP
  go_upto_region 2 with fail
  rw [← hw2]
  clear hw2
  generalize w1.heap.size = p4 at *
  go_wp2_with fail
  refine HV2.out.mono ?_
  rintro e w3 ⟨rfl, hx3⟩
  have d3 := hx3.cell d0
  have l3 := World.block_lt_of_cell? _ _ d3
  have hone3 := (HO.out.ext HX2.out).ext hx3
  obtain ⟨r1, r2, r3, HR⟩ := Res.store (.slice a1 n c1) (HX0.out.trans (HX2.out.trans hx3)) (Nat.le_refl _) hone3 hl0 (ho := (HO1.out.2.ext (HO1.out.1.trans hx3)).mono (Nat.le_refl _) (Nat.le_of_lt l3))
  have l4 := hone3.lt
  have HFIN : Hid (PicRet2 w ss true (.returned (.tuple #[.agg #[.slice a1 n c1], .bool true])) (w3.setCell ⟨w.heap.size, 0, none⟩ (.slice a1 n c1))) := ⟨a1, c1, by rw [HNN.out], HR.out.1, HR.out.2⟩
  clear hx3 HO1 HX2 HR HV2 hone3 d0 l0 HO
  go_wp2
  exact bodyPost_ret (v := .tuple #[.agg #[.slice a1 n c1], .bool true]) (by simp [results, Tryd.results9, go_sem, r3]) rfl HFIN.out
end Go.Proofs.YtelaoimcaidoiaaDoor
