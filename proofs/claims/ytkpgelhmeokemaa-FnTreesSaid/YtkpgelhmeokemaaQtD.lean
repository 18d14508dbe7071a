/- Quadtrees: the program's TreeOf, PictureOf, LeavesOf, ValidTree, BlackArea, InvertTree, on trees that there are. -/
import Derived.Test.YtkpgelhmeokemaaQtC
import Derived.Test.YtkpgelhmeokemaaGenA
import Derived.Test.YtkpgelhmeokemaaHolF
import Derived.Test.YtkpgelhmeokemaaRnA
import Derived.Test.YtkpgelhmeokemaaRowK
import Derived.Deep.RegionHeld3
namespace Go.Proofs.Ytkpgelhmeokemaa
open Go Go.RowKit
theorem mkl_map {m : Nat} {f : Nat → Nat → Bool} (hm : 1 ≤ m) : (mkl m m f).map (!·) = mkl m m fun i j => !f i j := PtL.mk hm ⟨by rw [List.length_map]; exact (mkl_pt m f).1, fun i j hi hj => by
  have h := (mkl_pt m f).2 i j hi hj
  have hl : j * m + i < (mkl m m f).length := by rw [(mkl_pt m f).1]; exact idx2 hi hj
  rw [List.getD_eq_getElem?_getD, List.getElem?_eq_getElem hl] at h
  rw [List.getD_eq_getElem?_getD, List.getElem?_map, List.getElem?_eq_getElem hl]
  simpa using h⟩
theorem oneIf_any (t : Bool) (w : World) : Calls Try.prog 42 #[.bool t] w fun e w' => e = .returned (.int .i64 (b2n t)) ∧ w.Ext w' := by
  cases t
  all_goals
    go_enter Try.func42, Try.ntmps42
    go_wp2
    go_ret
    exact ⟨rfl, .refl _⟩
set_option maxRecDepth 5000 in
set_option maxHeartbeats 1600000 in
theorem implTreeOf_any (a : Option Addr) (c : Nat) (ss : List ByteArray) (n : Nat) (g : Nat → Nat → Bool) (w : World) (hn : n ≤ 4) (hW : picW ss = 2 ^ n) (hH : ss.length = 2 ^ n) (hok : picOk ss = true) (hg : ∀ i j, i < 2 ^ n → j < 2 ^ n → (picL ss).getD (j * 2 ^ n + i) false = g i j) (hr : RowS w a ss) :
    Calls Try.prog 8 #[.agg #[.slice a ss.length c]] w fun e w' => e = .returned (.tuple #[.agg #[.int .i64 ((2 ^ n : Nat) : Int), .string (txG n g)], .bool true]) ∧ w.Ext w' := by
  obtain ⟨W0, hW0⟩ : ∃ W0, W0 = (w.alloc (.cells #[.slice a ss.length c] 26)).alloc (.cells #[.int .i64 0, .string ⟨#[]⟩] 29) := ⟨_, rfl⟩
  have hx0 : w.Ext W0 := by rw [hW0]; repeat (first | exact World.Ext.refl _ | exact ⟨_, rfl⟩ | assumption | refine World.Ext.over ?_ _ | refine World.Ext.drewN ?_ _ | refine World.Ext.drew ?_ | refine World.Ext.alloc ?_ _ | refine World.Ext.setCell ?_ (by simp) _)
  have htwo : Two W0 (w.heap.size + 1) 29 (.int .i64 0) (.string ⟨#[]⟩) := by rw [hW0]; exact Two.new _ _ _ _ _ (by simp)
  have h16 : 2 ^ n ≤ 16 := Nat.pow_le_pow_right (by decide) hn
  have HI := Lib.hid (imageOf_any a c ss W0 (by omega) (fun y => by
    by_cases hy : y < ss.length
    · rw [(picOk_spec hok).2.2.2.2.1.2 y hy]; omega
    · rw [List.getD_eq_getElem?_getD, List.getElem?_eq_none (by omega)]; simp) (RowOf.ext hr hx0) true hok)
  obtain ⟨m, hm⟩ : ∃ m : Nat, m = 2 ^ n := ⟨_, rfl⟩
  rw [← hm] at hg hW hH h16 ⊢
  have HSD : Hid (∀ w', Calls Try.prog 37 #[.int .i64 m] w' fun e w'' => e = .returned (.bool true) ∧ w'.Ext w'') := fun w' => by
    have h := sideOk_any m w'
    rw [hm, (lgN_pow hn).2, ← hm] at h
    exact h
  have HTR : Hid (∀ (w' : World) (b ab : Nat), Img w' b ab m m (picL ss) → Calls Try.prog 38 #[.pointer (some ⟨b, 0, none⟩)] w' fun e w'' => e = .returned (.agg #[.int .i64 m, .string (txG n g)]) ∧ w'.Ext w'') := fun w' b ab hI => treeOf_any b ab m n g _ hm hn hg w' hI
  have HX0 := Lib.hid hx0
  have HO := Lib.hid htwo
  unfold ImgOf at HI
  rw [hW, hH] at HI
  rw [hH] at hW0 ⊢
  clear hx0 htwo hr hok hW hH hg hm
  generalize picL ss = L at *
  generalize txG n g = tx at *
  go_enter Try.func8, Try.ntmps8
  go_wp2_with fail
  rw [← hW0]
  clear hW0
  refine HI.out.mono ?_
  intro e w1 h
  rw [if_pos trivial] at h
  obtain ⟨b, ab, rfl, hx1, hI, -, -⟩ := h
  have i0 := hI.c0
  have i1 := hI.c1
  have HX1 := Lib.hid (HX0.out.trans hx1)
  have HO1 := Lib.hid (HO.out.ext hx1)
  have HI1 := Lib.hid hI
  clear hx1 hI HI HX0 HO
  go_wp2_with fail
  refine wp_region_over_lit (by kernel_rfl) (by kernel_rfl) ?_; (repeat (go_big_quiet_step ((go_at_call 37; exact Calls.over_of (HSD.out _))))); refine wpQuiet_nil ?_; rintro _ ⟨x1, rfl⟩
  have HX2 : Hid (w.Ext (w1.over x1)) := HX1.out.trans ⟨x1, rfl⟩
  have HO2 := Lib.hid (HO1.out.ext ⟨x1, rfl⟩)
  have HC := Lib.hid (HTR.out (w1.over x1) b ab (HI1.out.ext ⟨x1, rfl⟩))
  clear i0 i1 HI1 HO1 HX1 HTR HSD
  generalize w1.over x1 = w2 at *
  go_wp2_with fail
  refine HC.out.mono ?_
  rintro e w3 ⟨rfl, hx3⟩
  obtain ⟨s0, s1, s2, s3, s4, s5, HR⟩ := Res.store2 (.int .i64 m) (.string tx) (HX2.out.trans hx3) (by omega) (HO2.out.ext hx3)
  clear hx3
  go_wp2_with fail
  exact bodyPost_ret (v := .tuple #[.agg #[.int .i64 m, .string tx], .bool true]) (by simp [results, Try.results8, go_sem, s4, s5]) rfl ⟨rfl, HR.out⟩
set_option maxHeartbeats 400000 in
theorem validTree_any (z : Int) (s : ByteArray) (w : World) (hs : s.size ≤ 1048576) : Calls Try.prog 12 #[.agg #[.int .i64 z, .string s]] w fun e w' => e = .returned (.bool (opn z s).isSome) ∧ w.Ext w' := by
  obtain ⟨W0, hW0⟩ : ∃ W0, W0 = w.alloc (.cells #[.int .i64 z, .string s] 29) := ⟨_, rfl⟩
  have hx0 : w.Ext W0 := by rw [hW0]; repeat (first | exact World.Ext.refl _ | exact ⟨_, rfl⟩ | assumption | refine World.Ext.over ?_ _ | refine World.Ext.drewN ?_ _ | refine World.Ext.drew ?_ | refine World.Ext.alloc ?_ _ | refine World.Ext.setCell ?_ (by simp) _)
  have HL := Lib.hid (leavesOf_any z s W0 hs)
  have HX0 := Lib.hid hx0
  clear hx0
  go_enter Try.func12, Try.ntmps12
  go_wp2_with fail
  rw [← hW0]
  clear hW0
  refine HL.out.mono ?_
  rintro e w1 ⟨v, rfl, hx1, -⟩
  have HX1 := Lib.hid (HX0.out.trans hx1)
  clear hx1 HL
  go_wp2
  go_ret
  exact ⟨rfl, HX1.out⟩
set_option maxRecDepth 5000 in
set_option maxHeartbeats 800000 in
theorem pictureOf_any (z : Int) (s : ByteArray) (n : Nat) (T : QT) (w : World) (hs : s.size ≤ 1048576) (hop : opn z s = some (n, T)) :
    Calls Try.prog 9 #[.agg #[.int .i64 z, .string s]] w (PicRet2 w (picRows (2 ^ n) (2 ^ n) (mkl (2 ^ n) (2 ^ n) fun i j => T.on n 0 0 i j)) true) := by
  obtain ⟨W0, hW0⟩ : ∃ W0, W0 = (w.alloc (.cells #[.int .i64 z, .string s] 29)).alloc (.cells #[.slice none 0 0] 26) := ⟨_, rfl⟩
  have hx0 : w.Ext W0 := by rw [hW0]; repeat (first | exact World.Ext.refl _ | exact ⟨_, rfl⟩ | assumption | refine World.Ext.over ?_ _ | refine World.Ext.drewN ?_ _ | refine World.Ext.drew ?_ | refine World.Ext.alloc ?_ _ | refine World.Ext.setCell ?_ (by simp) _)
  have hone : One W0 (w.heap.size + 1) 26 (.slice none 0 0) := by rw [hW0]; exact One.new _ _ _ _ (by simp)
  have HL := Lib.hid (ofTree_any z s W0 hs)
  obtain ⟨hn4, -, -⟩ := opn_some hop
  obtain ⟨m, hm⟩ : ∃ m : Nat, m = 2 ^ n := ⟨_, rfl⟩
  have hm16 : m ≤ 16 := by rw [hm]; exact Nat.pow_le_pow_right (by decide) hn4
  have hm1 : 1 ≤ m := by rw [hm]; exact Nat.two_pow_pos n
  have HOR : Hid (∀ e w', OfRet W0 z s e w' → ∃ b ab, e = .returned (.tuple #[.pointer (some ⟨b, 0, none⟩), .bool true]) ∧ W0.Ext w' ∧ Img w' b ab m m (mkl m m fun i j => T.on n 0 0 i j)) := fun e w' h => by
    obtain ⟨b, ab, l, h1, h2, h3, h4⟩ := h.some hop hm
    exact ⟨b, ab, h1, h2, by
      have hl : PtL m l (fun i j => T.on n 0 0 i j) := ⟨h3.len, h4⟩
      rw [← hl.mk hm1]
      exact h3⟩
  rw [← hm]
  have HTD : Hid (∀ (w' : World) (b ab : Nat), Img w' b ab m m (mkl m m fun i j => T.on n 0 0 i j) → Calls Try.prog 40 #[.pointer (some ⟨b, 0, none⟩)] w' (PicVal w' (picRows m m (mkl m m fun i j => T.on n 0 0 i j)))) := fun w' b ab hI => told_any b ab _ _ _ w' (by omega) (by omega) (by omega) hI
  have HX0 := Lib.hid hx0
  have HO := Lib.hid hone
  clear hx0 hone hop hm
  generalize picRows m m (mkl m m fun i j => T.on n 0 0 i j) = R at *
  generalize (mkl m m fun i j => T.on n 0 0 i j) = M at *
  go_enter Try.func9, Try.ntmps9
  go_wp2_with fail
  rw [← hW0]
  clear hW0
  refine HL.out.mono ?_
  intro e w1 h
  obtain ⟨b, ab, rfl, hx1, hI⟩ := HOR.out _ _ h
  have HC := Lib.hid (HTD.out w1 b ab hI)
  have HX1 := Lib.hid (HX0.out.trans hx1)
  have HO1 := Lib.hid (HO.out.ext hx1)
  clear hx1 hI h HL HOR HTD
  go_wp2_with fail
  refine HC.out.mono ?_
  rintro e w2 ⟨a2, c2, rfl, hx2, ho2⟩
  obtain ⟨r1, r2, r3, HR⟩ := Res.store (.slice a2 R.length c2) (HX1.out.trans hx2) (by omega) (HO1.out.ext hx2) (HO1.out).lt ho2
  clear hx2 ho2
  go_wp2_with fail
  exact bodyPost_ret (v := .tuple #[.agg #[.slice a2 R.length c2], .bool true]) (by simp [results, Try.results9, go_sem, r3]) rfl ⟨a2, c2, rfl, HR.out.1, HR.out.2⟩
set_option maxRecDepth 5000 in
set_option maxHeartbeats 800000 in
theorem blackArea_any (z : Int) (s : ByteArray) (n : Nat) (T : QT) (w : World) (hs : s.size ≤ 1048576) (hop : opn z s = some (n, T)) :
    Calls Try.prog 11 #[.agg #[.int .i64 z, .string s]] w fun e w' => e = .returned (.tuple #[.int .i64 (spotsTo (2 ^ n) (mkl (2 ^ n) (2 ^ n) fun i j => T.on n 0 0 i j) (2 ^ n * 2 ^ n)).length, .bool true]) ∧ w.Ext w' := by
  obtain ⟨W0, hW0⟩ : ∃ W0, W0 = w.alloc (.cells #[.int .i64 z, .string s] 29) := ⟨_, rfl⟩
  have hx0 : w.Ext W0 := by rw [hW0]; repeat (first | exact World.Ext.refl _ | exact ⟨_, rfl⟩ | assumption | refine World.Ext.over ?_ _ | refine World.Ext.drewN ?_ _ | refine World.Ext.drew ?_ | refine World.Ext.alloc ?_ _ | refine World.Ext.setCell ?_ (by simp) _)
  have HL := Lib.hid (ofTree_any z s W0 hs)
  obtain ⟨hn4, -, -⟩ := opn_some hop
  obtain ⟨m, hm⟩ : ∃ m : Nat, m = 2 ^ n := ⟨_, rfl⟩
  have hm16 : m ≤ 16 := by rw [hm]; exact Nat.pow_le_pow_right (by decide) hn4
  have hm1 : 1 ≤ m := by rw [hm]; exact Nat.two_pow_pos n
  have HOR : Hid (∀ e w', OfRet W0 z s e w' → ∃ b ab, e = .returned (.tuple #[.pointer (some ⟨b, 0, none⟩), .bool true]) ∧ W0.Ext w' ∧ Img w' b ab m m (mkl m m fun i j => T.on n 0 0 i j)) := fun e w' h => by
    obtain ⟨b, ab, l, h1, h2, h3, h4⟩ := h.some hop hm
    exact ⟨b, ab, h1, h2, by
      have hl : PtL m l (fun i j => T.on n 0 0 i j) := ⟨h3.len, h4⟩
      rw [← hl.mk hm1]
      exact h3⟩
  rw [← hm]
  have HCN : Hid (∀ (w' : World) (b ab : Nat), Img w' b ab m m (mkl m m fun i j => T.on n 0 0 i j) → Calls Try.prog 43 #[.pointer (some ⟨b, 0, none⟩)] w' fun e w'' => e = .returned (.int .i64 (spotsTo m (mkl m m fun i j => T.on n 0 0 i j) (m * m)).length) ∧ w'.Ext w'') := fun w' b ab hI => count_any b ab _ _ _ w' (by omega) (by omega) hI
  have HX0 := Lib.hid hx0
  clear hx0 hop hm
  generalize (spotsTo m (mkl m m fun i j => T.on n 0 0 i j) (m * m)).length = R at *
  generalize (mkl m m fun i j => T.on n 0 0 i j) = M at *
  go_enter Try.func11, Try.ntmps11
  go_wp2_with fail
  rw [← hW0]
  clear hW0
  refine HL.out.mono ?_
  intro e w1 h
  obtain ⟨b, ab, rfl, hx1, hI⟩ := HOR.out _ _ h
  have HC := Lib.hid (HCN.out w1 b ab hI)
  have HX1 := Lib.hid (HX0.out.trans hx1)
  clear hx1 hI h HL HOR HCN
  go_wp2_with fail
  refine HC.out.mono ?_
  rintro e w2 ⟨rfl, hx2⟩
  have HX2 := Lib.hid (HX1.out.trans hx2)
  clear hx2
  go_wp2_with fail
  go_ret2
  exact ⟨rfl, HX2.out⟩
end Go.Proofs.Ytkpgelhmeokemaa

/- Quadtrees: the program's LeavesOf, on a tree that there is. -/
namespace Go.Proofs.Ytkpgelhmeokemaa
open Go Go.RowKit
/-- The rows that tell leaves. -/
def lvR (f : Lf) : List Int := [(f.x : Int), (f.y : Int), (f.m : Int), (b2n f.b : Nat)]
def lvM (ls : List Lf) : List (List Int) := ls.map lvR
theorem lvM_len (ls : List Lf) : (lvM ls).length = ls.length := List.length_map ..
theorem lvM_next {ls : List Lf} {k : Nat} {f : Lf} (h : ls[k]? = some f) : lvM (ls.take (k + 1)) = lvM (ls.take k) ++ [[(f.x : Int), (f.y : Int), (f.m : Int), (b2n f.b : Nat)]] := by
  unfold lvM
  rw [List.take_add_one, h, List.map_append]
  rfl
theorem row4_new (w : World) (x y z u : Int) (e : TypeId) : GrowOf (Value.int .i64) w.heap.size e (w.alloc (.cells #[.int .i64 x, .int .i64 y, .int .i64 z, .int .i64 u] e)) (.slice (some ⟨w.heap.size, 0, none⟩) 4 4) [x, y, z, u] :=
  ⟨by simp, .inr ⟨w.heap.size, 4, _, rfl, Nat.le_refl _, heap_alloc_new w _, Nat.le_refl _, by decide, by simp, by simp⟩⟩
/-- A row of four numbers is appended. -/
theorem MatSt.next4 {w w1 : World} {m : List (List Int)} {v : Value} (h : MatSt w m v w1) (x y z u : Int) :
    ∃ pre : List Value, (w1.alloc (.cells #[.int .i64 x, .int .i64 y, .int .i64 z, .int .i64 u] 2)).ownsRow w.heap.size 41 1 v m.length pre ∧
      ∀ (o : Obj) (v' : Value) (w4 : World), ((w1.alloc (.cells #[.int .i64 x, .int .i64 y, .int .i64 z, .int .i64 u] 2)).alloc o).grownBy w4 v.ownBlock → w4.ownsRow w.heap.size 41 1 v' (m.length + 1) (pre ++ [.slice (some ⟨w1.heap.size, 0, none⟩) 4 4]) → MatSt w (m ++ [[x, y, z, u]]) v' w4 := by
  obtain ⟨A, C, hx, hm⟩ := h
  have hx1 : w1.Ext (w1.alloc (.cells #[.int .i64 x, .int .i64 y, .int .i64 z, .int .i64 u] 2)) := by repeat (first | exact World.Ext.refl _ | exact ⟨_, rfl⟩ | assumption | refine World.Ext.over ?_ _ | refine World.Ext.drewN ?_ _ | refine World.Ext.drew ?_ | refine World.Ext.alloc ?_ _ | refine World.Ext.setCell ?_ (by simp) _)
  refine ⟨_, World.ownsRow.ext hm.outer hx1, fun o v' w4 hgrow hown => ⟨(fun r => if r = m.length then some ⟨w1.heap.size, 0, none⟩ else A r), (fun r => if r = m.length then 4 else C r), GrowM.pushExt hm hx hx1 hgrow, GrowM.push (row := [x, y, z, u]) (by decide) hm hx1 (row4_new w1 x y z u _) hx.size hgrow hown⟩⟩
def TabRet (w : World) (m : List (List Int)) (e : Ending) (w' : World) : Prop := ∃ a c A C, e = .returned (.tuple #[.slice a m.length c, .bool true]) ∧ w.Ext w' ∧ MatAt w' a A C m
set_option maxRecDepth 5000 in
set_option maxHeartbeats 3200000 in
theorem implLeavesOf_any (z : Int) (s : ByteArray) (n : Nat) (T : QT) (w : World) (hs : s.size ≤ 1048576) (hop : opn z s = some (n, T)) :
    Calls Try.prog 10 #[.agg #[.int .i64 z, .string s]] w (TabRet w (lvM (T.lvs n 0 0 ⟨#[]⟩))) := by
  obtain ⟨j0, hj, hz0, hz1, hz2⟩ := info_parts Try.infoRowG
  obtain ⟨W0, hW0⟩ : ∃ W0, W0 = w.alloc (.cells #[.int .i64 z, .string s] 29) := ⟨_, rfl⟩
  have hx0 : w.Ext W0 := by rw [hW0]; repeat (first | exact World.Ext.refl _ | exact ⟨_, rfl⟩ | assumption | refine World.Ext.over ?_ _ | refine World.Ext.drewN ?_ _ | refine World.Ext.drew ?_ | refine World.Ext.alloc ?_ _ | refine World.Ext.setCell ?_ (by simp) _)
  have HLV := Lib.hid (leavesOf_any z s W0 hs)
  have HX0 := Lib.hid hx0
  obtain ⟨hn4, hzn, hfit, -⟩ := opn_some hop
  have HLL := lvs_len T n 0 0 ⟨#[]⟩ hfit
  have hll : (T.lvs n 0 0 ⟨#[]⟩).length ≤ 256 := Nat.le_trans HLL.2 (by match n, hn4 with | 0, _ => decide | 1, _ => decide | 2, _ => decide | 3, _ => decide | 4, _ => decide)
  have hl1 := HLL.1
  have HOP := Lib.hid hop
  have HON := Lib.hid oneIf_any
  clear hop HLL hfit hzn hx0
  go_enter Try.func10, Try.ntmps10
  go_wp2_with fail
  rw [← hW0]
  clear hW0
  refine HLV.out.mono ?_
  rintro e w1 ⟨v, rfl, hx1, hown⟩
  have hown := hown n T HOP.out
  rw [HOP.out]
  generalize T.lvs n 0 0 ⟨#[]⟩ = ls at *
  obtain ⟨g, cap, rfl⟩ : ∃ g cap, v = .slice (some ⟨g, 0, none⟩) ls.length cap := by
    rcases hown.2 with ⟨-, h0⟩ | ⟨g, cap, cur, h3, -⟩
    · omega
    · exact ⟨g, cap, h3⟩
  have HC1 : Hid (∀ k f, ls[k]? = some f → w1.cell? ⟨g, k * 5, none⟩ = some (.int .i64 f.x) ∧ w1.cell? ⟨g, k * 5 + 1, none⟩ = some (.int .i64 f.y) ∧ w1.cell? ⟨g, k * 5 + 2, none⟩ = some (.int .i64 f.m) ∧ w1.cell? ⟨g, k * 5 + 3, none⟩ = some (.bool f.b) ∧ w1.cell? ⟨g, k * 5 + 4, none⟩ = some (.string f.p)) := fun k f hf => by
    obtain ⟨h1, h2, h3, h4, h5⟩ := lfC_at ls k f hf
    have hk : k < ls.length := (List.getElem?_eq_some_iff.1 hf).1
    have at_ : ∀ i, i < 5 → w1.cell? ⟨g, k * 5 + i, none⟩ = (lfC ls)[k * 5 + i]? := fun i hi => by
      obtain ⟨b5, o5, h5, -, -, h6, -⟩ := World.ownsRow.own hown (i := k * 5 + i) (by omega)
      cases h5
      rw [Nat.zero_add] at h6
      exact h6
    have a0 := at_ 0 (by omega)
    rw [Nat.add_zero] at a0
    exact ⟨by rw [a0, h1], by rw [at_ 1 (by omega), h2], by rw [at_ 2 (by omega), h3], by rw [at_ 3 (by omega), h4], by rw [at_ 4 (by omega), h5]⟩
  have HX1 := Lib.hid (HX0.out.trans hx1)
  have HST := Lib.hid (MatSt.start (World.Ext.refl w1))
  clear hx1 hown HLV HX0 HOP
  go_wp2
  go_loopw [6, 8, 19] (fun v _ i wr => ∃ k : Nat, k ≤ ls.length ∧ i = .int .i64 k ∧ Hid (MatSt w1 (lvM (ls.take k)) v wr)) (fun _ _ i _ => ls.length - (intOf i).toNat)
  case atStart => exact ⟨0, Nat.zero_le _, rfl, HST⟩
  case round =>
    clear HST
    obtain ⟨k, hk, rfl, HS⟩ := hrel
    obtain ⟨w2, rfl⟩ : ∃ w2 : World, w2 = wr := ⟨_, rfl⟩
    obtain ⟨vo, rfl⟩ : ∃ vo : Value, vo = u6 := ⟨_, rfl⟩
    by_cases hlt : k < ls.length
    · have hlt' : (k : Int) < (ls.length : Int) := by omega
      have hk0 : (0 : Int) ≤ (k : Int) := by omega
      obtain ⟨f, hf⟩ : ∃ f, ls[k]? = some f := ⟨_, List.getElem?_eq_getElem hlt⟩
      obtain ⟨c0, c1, c2, c3, c4⟩ := HC1.out k f hf
      replace c0 := HS.out.x.cell c0
      replace c1 := HS.out.x.cell c1
      replace c2 := HS.out.x.cell c2
      replace c3 := HS.out.x.cell c3
      replace c4 := HS.out.x.cell c4
      have HNX := Lib.hid (lvM_next hf)
      obtain ⟨w3, hw3⟩ : ∃ w3, w3 = w2.alloc (.cells #[.int .i64 f.x, .int .i64 f.y, .int .i64 f.m, .bool f.b, .string f.p] 88) := ⟨_, rfl⟩
      have hx3 : w2.Ext w3 := by rw [hw3]; repeat (first | exact World.Ext.refl _ | exact ⟨_, rfl⟩ | assumption | refine World.Ext.over ?_ _ | refine World.Ext.drewN ?_ _ | refine World.Ext.drew ?_ | refine World.Ext.alloc ?_ _ | refine World.Ext.setCell ?_ (by simp) _)
      have d0 : w3.cell? ⟨w2.heap.size, 0, none⟩ = some (.int .i64 f.x) := by rw [hw3]; simp [go_sem]
      have d1 : w3.cell? ⟨w2.heap.size, 1, none⟩ = some (.int .i64 f.y) := by rw [hw3]; simp [go_sem]
      have d2 : w3.cell? ⟨w2.heap.size, 2, none⟩ = some (.int .i64 f.m) := by rw [hw3]; simp [go_sem]
      have d3 : w3.cell? ⟨w2.heap.size, 3, none⟩ = some (.bool f.b) := by rw [hw3]; simp [go_sem]
      have HS3 := Lib.hid (HS.out.ext hx3)
      have HVL : Hid (∀ g, vo.ownBlock = some g → g < w2.heap.size) := fun g hg => by
        obtain ⟨A, C, -, hm⟩ := HS.out
        exact ((World.ownsRow.lt hm.outer) g hg).2
      have HLK : Hid ((lvM (ls.take k)).length = k) := by show _ = _; rw [lvM_len, List.length_take]; omega
      clear hx3 hf HS
      go_upto_region 8 with fail
      rw [← hw3]
      clear hw3 c0 c1 c2 c3 c4
      have HB1 : Hid (k + 1 ≤ maxLen) := by show _ ≤ _; unfold maxLen; omega
      have HB2 : Hid ((k + 1) * 24 ≤ 140737488355328) := by show _ ≤ _; omega
      have hd : Hid (w3.cell? ⟨w2.heap.size, 0, none⟩ = some (.int .i64 f.x) ∧ w3.cell? ⟨w2.heap.size, 1, none⟩ = some (.int .i64 f.y) ∧ w3.cell? ⟨w2.heap.size, 2, none⟩ = some (.int .i64 f.m) ∧ w3.cell? ⟨w2.heap.size, 3, none⟩ = some (.bool f.b)) := ⟨d0, d1, d2, d3⟩
      have HKS : Hid (∀ (o1 o2 : Obj) (w5 w6 : World), w3.Ext w5 → ((w5.alloc o1).alloc o2).grownBy w6 vo.ownBlock → w6.cell? ⟨w2.heap.size, 0, none⟩ = some (.int .i64 f.x) ∧ w6.cell? ⟨w2.heap.size, 1, none⟩ = some (.int .i64 f.y) ∧ w6.cell? ⟨w2.heap.size, 2, none⟩ = some (.int .i64 f.m) ∧ w6.cell? ⟨w2.heap.size, 3, none⟩ = some (.bool f.b)) := fun o1 o2 w5 w6 hx hg => by
        have hl := HVL.out
        have hx2 : w3.Ext ((w5.alloc o1).alloc o2) := by repeat (first | exact World.Ext.refl _ | exact ⟨_, rfl⟩ | assumption | refine World.Ext.over ?_ _ | refine World.Ext.drewN ?_ _ | refine World.Ext.drew ?_ | refine World.Ext.alloc ?_ _ | refine World.Ext.setCell ?_ (by simp) _)
        have hlt3 : w2.heap.size < w3.heap.size := World.block_lt_of_cell? _ _ d0
        have hb := hg.block w2.heap.size (Nat.lt_of_lt_of_le hlt3 hx2.size) (fun e => by have := hl _ e.symm; omega)
        obtain ⟨e0, e1, e2, e3⟩ := hd.out
        exact ⟨by rw [World.cell?_of_block (a := ⟨w2.heap.size, 0, none⟩) hb]; exact hx2.cell e0, by rw [World.cell?_of_block (a := ⟨w2.heap.size, 1, none⟩) hb]; exact hx2.cell e1, by rw [World.cell?_of_block (a := ⟨w2.heap.size, 2, none⟩) hb]; exact hx2.cell e2, by rw [World.cell?_of_block (a := ⟨w2.heap.size, 3, none⟩) hb]; exact hx2.cell e3⟩
      have HNX2 : Hid (∀ w5, w3.Ext w5 → ∃ pre : List Value, (w5.alloc (.cells #[.int .i64 f.x, .int .i64 f.y, .int .i64 f.m, .int .i64 (b2n f.b : Nat)] 2)).ownsRow w1.heap.size 41 1 vo k pre ∧
          ∀ (o : Obj) (v' : Value) (w4 : World), ((w5.alloc (.cells #[.int .i64 f.x, .int .i64 f.y, .int .i64 f.m, .int .i64 (b2n f.b : Nat)] 2)).alloc o).grownBy w4 vo.ownBlock → w4.ownsRow w1.heap.size 41 1 v' (k + 1) (pre ++ [.slice (some ⟨w5.heap.size, 0, none⟩) 4 4]) → MatSt w1 (lvM (ls.take (k + 1))) v' w4) := fun w5 hx => by
        obtain ⟨pre, hown, hnext⟩ := (HS3.out.ext hx).next4 (f.x : Int) (f.y : Int) (f.m : Int) (b2n f.b : Nat)
        rw [← HNX.out] at hnext
        rw [HLK.out] at hown hnext
        exact ⟨pre, hown, hnext⟩
      have HLO : Hid (∀ (o1 o2 : Obj) (w5 : World), w3.Ext w5 → w1.heap.size ≤ ((w5.alloc o1).alloc o2).heap.size) := fun o1 o2 w5 hx => (((HS3.out.x.trans hx).alloc _).alloc _).size
      clear hd HNX HLK HS3 HVL
      go_region_held3 (fun w' => w'.cell? ⟨w2.heap.size, 0, none⟩ = some (.int .i64 f.x) ∧ w'.cell? ⟨w2.heap.size, 1, none⟩ = some (.int .i64 f.y) ∧ w'.cell? ⟨w2.heap.size, 2, none⟩ = some (.int .i64 f.m) ∧ w'.cell? ⟨w2.heap.size, 3, none⟩ = some (.bool f.b))
        (first | exact hk8 | (refine ⟨World.Ext.cell ?_ d0, World.Ext.cell ?_ d1, World.Ext.cell ?_ d2, World.Ext.cell ?_ d3⟩ <;> ((repeat (first | exact World.Ext.refl _ | exact ⟨_, rfl⟩ | assumption | refine World.Ext.over ?_ _ | refine World.Ext.drewN ?_ _ | refine World.Ext.drew ?_ | refine World.Ext.alloc ?_ _ | refine World.Ext.setCell ?_ ?_ _ | (simp; done))); done)))
        (first
          | (go_at_call 42; go_loud (refine (HON.out _ _).mono ?_; rintro e w5 ⟨rfl, hx5⟩; have E5 : w3.Ext w5 := ((World.Ext.refl w3).drew).trans hx5; obtain ⟨pre, hown, hnext⟩ := HNX2.out w5 E5; have HOWN := Lib.hid hown; have HNEXT := Lib.hid hnext; clear hx5 hown hnext))
          | (refine step_append_mine rfl _ _ 34 rfl w1.heap.size 41 j0 (.slice none 0 0) 1 24 Try.underlying34 hj hz0 hz1 hz2 rfl (by decide) vo k pre rfl (World.ownsRow.ext HOWN.out (by repeat (first | exact World.Ext.refl _ | exact ⟨_, rfl⟩ | assumption | refine World.Ext.over ?_ _ | refine World.Ext.drewN ?_ _ | refine World.Ext.drew ?_ | refine World.Ext.alloc ?_ _ | refine World.Ext.setCell ?_ (by simp) _))) ⟨w5.heap.size + 1, 0, none⟩ 1 1 [.slice (some ⟨w5.heap.size, 0, none⟩) 4 4] rfl rfl (cell_one_at (by simp)) (by simp [Value.oneCell']) HB1.out HB2.out (HLO.out _ _ _ E5) (fun v' w6 hown6 hgrow hat => ?_); have hk8 := HKS.out _ _ _ _ E5 hgrow; have HS6 := Lib.hid (HNEXT.out _ _ _ hgrow hown6); clear hown6 hgrow hat))
      clear d0 d1 d2 d3
      go_wp2
      go_roundw
      case rel => exact ⟨k + 1, by omega, by go_num, HS6⟩
      case measure => simp [intOf]; omega
    · have : k = ls.length := by omega
      subst this
      have hst := HS.out
      rw [List.take_length] at hst
      obtain ⟨A, C, hx, hm⟩ := hst
      obtain ⟨a2, c2, rfl, _⟩ := World.ownsRow.form hm.outer
      have HR : Hid (TabRet w (lvM ls) (.returned (.tuple #[.slice a2 (lvM ls).length c2, .bool true])) w2) := ⟨a2, c2, A, C, rfl, HX1.out.trans hx, (hm.mat (by decide)).mat⟩
      clear hx hm HS
      go_wp2
      go_ret2
      exact HR.out
end Go.Proofs.Ytkpgelhmeokemaa
