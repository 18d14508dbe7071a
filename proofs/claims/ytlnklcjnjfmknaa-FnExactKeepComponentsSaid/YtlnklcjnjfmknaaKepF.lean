/- KeepComponents, both sides. -/
import Derived.Test.YtlnklcjnjfmknaaAreF
namespace Go.Proofs.Ytlnklcjnjfmknaa
open Go Go.RowKit
/-- Components that meet a condition on their numbers. -/
def keptG (F : Int × Int → Nat) (K : Nat → Bool) (x y : Nat) : Bool := decide (0 < F ((x : Int), (y : Int))) && K (F ((x : Int), (y : Int)))
set_option maxRecDepth 5000 in
set_option maxHeartbeats 800000 in
theorem kept1_any (p7 p5 bm fk n : Nat) (caps : Array Value) (F : Int × Int → Nat) (K : Nat → Bool) (x y : Nat) (w : World) (hx : x < 1000) (hy : y < 1000) (he : Enters fk) (hF : ∀ q, F q ≤ n)
    (h7 : w.cell? ⟨p7, 0, none⟩ = some (.map (some bm))) (hM : MapS w Try.prog 80 bm (labM F)) (h5 : w.cell? ⟨p5, 0, none⟩ = some (.func (.func fk) #[] caps))
    (hk : ∀ k : Nat, 1 ≤ k → k ≤ n → Calls Try.prog fk (#[.int .i64 k] ++ caps) w fun e w' => e = .returned (.bool (K k)) ∧ w.Ext w') :
    Calls Try.prog 149 #[.int .i64 x, .int .i64 y, .pointer (some ⟨p7, 0, none⟩), .pointer (some ⟨p5, 0, none⟩)] w fun e w' => e = .returned (.bool (keptG F K x y)) ∧ w.Ext w' := by
  have hl := hM.lookI (x := (x : Int)) (y := (y : Int)) (by omega) (by omega)
  have hfn := hF ((x : Int), (y : Int))
  unfold keptG
  clear hM hF
  unfold Enters at he
  generalize F ((x : Int), (y : Int)) = v at *
  by_cases h0 : 0 < v
  · have HC := Lib.hid (hk v h0 hfn)
    have h0' : (0 : Int) < (v : Int) := by omega
    rw [decide_eq_true h0]
    simp only [Bool.true_and]
    generalize K v = t at *
    clear hk hfn
    go_enter Try.func149, Try.ntmps149
    go_wp2_with fail
    refine HC.out.mono ?_
    rintro e w1 ⟨rfl, hx1⟩
    go_wp2
    go_ret
    exact ⟨rfl, hx1⟩
  · have h0' : ¬ (0 : Int) < (v : Int) := by omega
    rw [decide_eq_false h0]
    simp only [Bool.false_and]
    clear hk hfn
    go_enter Try.func149, Try.ntmps149
    go_wp2
    go_ret
    exact ⟨rfl, .refl _⟩
theorem enters_kept1 : Enters 149 := enters_of Try.func149 (by kernel_rfl) (by kernel_rfl)
set_option maxRecDepth 5000 in
set_option maxHeartbeats 1600000 in
theorem kept_any (b ab W H : Nat) (l : List Bool) (eight : Bool) (F : Int × Int → Nat) (n fk : Nat) (caps : Array Value) (K : Nat → Bool) (w : World) (hW : W ≤ 64) (hH : H ≤ 64) (hI : Img w b ab W H l) (he : Enters fk)
    (hF : LabK (pxP W H l) (nbA eight) (spotsTo W l (H * W)) (spotsTo W l (H * W)).length F n)
    (hk : ∀ w', w.Ext w' → ∀ k : Nat, 1 ≤ k → k ≤ n → Calls Try.prog fk (#[.int .i64 k] ++ caps) w' fun e w'' => e = .returned (.bool (K k)) ∧ w'.Ext w'') :
    Calls Try.prog 113 #[.pointer (some ⟨b, 0, none⟩), .bool eight, .func (.func fk) #[] caps] w (ImgRet w W H (mkl W H (keptG F K))) := by
  obtain ⟨W0, hW0⟩ : ∃ W0, W0 = w.alloc (.cells #[.func (.func fk) #[] caps] 71) := ⟨_, rfl⟩
  have hx0 : w.Ext W0 := by rw [hW0]; repeat (first | exact World.Ext.refl _ | exact ⟨_, rfl⟩ | assumption | refine World.Ext.over ?_ _ | refine World.Ext.drewN ?_ _ | refine World.Ext.drew ?_ | refine World.Ext.alloc ?_ _ | refine World.Ext.setCell ?_ (by simp) _)
  have c5 : W0.cell? ⟨w.heap.size, 0, none⟩ = some (.func (.func fk) #[] caps) := by rw [hW0]; simp [go_sem]
  have HLB := Lib.hid (labels_any b ab W H l eight F n W0 hW hH (hI.ext hx0) hF)
  have HMD : Hid (∀ (w' : World) (p7 bm : Nat), W0.Ext w' → w'.cell? ⟨p7, 0, none⟩ = some (.map (some bm)) → MapS w' Try.prog 80 bm (labM F) →
      Calls Try.prog 92 #[.int .i64 W, .int .i64 H, .func (.func 149) #[] #[.pointer (some ⟨p7, 0, none⟩), .pointer (some ⟨w.heap.size, 0, none⟩)]] w' (ImgRet w' W H (mkl W H (keptG F K)))) := fun w' p7 bm hx hc hM =>
    made_any W H 149 #[.pointer (some ⟨p7, 0, none⟩), .pointer (some ⟨w.heap.size, 0, none⟩)] (keptG F K) w' hW hH enters_kept1 (fun w'' hx2 x y h1 h2 =>
      kept1_any p7 w.heap.size bm fk n caps F K x y w'' (by omega) (by omega) he hF.few.2 (hx2.cell hc) (hM.ext hx2) ((hx.trans hx2).cell c5) (hk w'' ((hx0.trans hx).trans hx2)))
  have c0 := (hI.ext hx0).c0
  have c1 := (hI.ext hx0).c1
  have HX0 := Lib.hid hx0
  clear hI hF hk he hx0 c5
  generalize mkl W H (keptG F K) = M at *
  go_enter Try.func113, Try.ntmps113
  go_wp2_with fail
  rw [← hW0]
  clear hW0
  refine HLB.out.mono ?_
  rintro e w1 ⟨bm, rfl, hx1, -, hM⟩
  obtain ⟨w2, hw2⟩ : ∃ w2, w2 = w1.alloc (.cells #[.map (some bm)] 118) := ⟨_, rfl⟩
  have hx2 : w1.Ext w2 := by rw [hw2]; repeat (first | exact World.Ext.refl _ | exact ⟨_, rfl⟩ | assumption | refine World.Ext.over ?_ _ | refine World.Ext.drewN ?_ _ | refine World.Ext.drew ?_ | refine World.Ext.alloc ?_ _ | refine World.Ext.setCell ?_ (by simp) _)
  have c7 : w2.cell? ⟨w1.heap.size, 0, none⟩ = some (.map (some bm)) := by rw [hw2]; simp [go_sem]
  have e0 := (hx1.trans hx2).cell c0
  have e1 := (hx1.trans hx2).cell c1
  have HX2 := Lib.hid (hx1.trans hx2)
  have HM2 := Lib.hid (hM.ext hx2)
  clear c0 c1 hx1 hx2 hM HLB
  go_wp2_with fail
  rw [← hw2]
  clear hw2
  refine wp_region_over_tail 9 (by kernel_rfl) (by kernel_rfl) ?_; simp only [List.take_succ_cons, List.take_zero, List.drop_succ_cons, List.drop_zero]; (repeat (go_big_quiet_step (fail))); refine wpQuiet_nil ?_; rintro _ ⟨x1, rfl⟩
  have HC := Lib.hid (HMD.out (w2.over x1) w1.heap.size bm (HX2.out.trans ⟨x1, rfl⟩) ((show w2.Ext (w2.over x1) from ⟨x1, rfl⟩).cell c7) (HM2.out.ext ⟨x1, rfl⟩))
  have HX3 : Hid (w.Ext (w2.over x1)) := HX0.out.trans (HX2.out.trans ⟨x1, rfl⟩)
  generalize w2.over x1 = w3 at *
  clear e0 e1 c7 HM2 HX2 HX0
  go_wp2_with fail
  refine HC.out.mono ?_
  rintro e w4 ⟨b4, ab4, rfl, hx4, hi4, hl4, hl5⟩
  have HR : Hid (ImgRet w W H M (.returned (.pointer (some ⟨b4, 0, none⟩))) w4) := ⟨b4, ab4, rfl, HX3.out.trans hx4, hi4, Nat.le_trans HX3.out.size hl4, Nat.le_trans HX3.out.size hl5⟩
  clear hx4 hi4 hl4 hl5
  go_wp2
  go_ret
  exact HR.out
/-- Components whose area is at least so much. -/
def areK (W H : Nat) (F : Int × Int → Nat) (n : Nat) (least : Int) (k : Nat) : Bool := decide (least ≤ (areL W H F n).getD (k - 1) 0)
def keepOk (ss : List ByteArray) (least : Int) : Bool := picOk ss && inB least 0 256
set_option maxRecDepth 5000 in
set_option maxHeartbeats 800000 in
theorem keep11_any (p5 p1 : Nat) (a : Option Addr) (c : Nat) (xs : List Int) (least : Int) (k : Nat) (w : World) (h1 : 1 ≤ k) (h2 : k ≤ xs.length) (hn : xs.length ≤ 4096) (h5 : w.cell? ⟨p5, 0, none⟩ = some (.slice a xs.length c)) (hr : RowI w a xs) (hl : w.cell? ⟨p1, 0, none⟩ = some (.int .i64 least)) :
    Calls Try.prog 114 #[.int .i64 k, .pointer (some ⟨p5, 0, none⟩), .pointer (some ⟨p1, 0, none⟩)] w fun e w' => e = .returned (.bool (decide (least ≤ xs.getD (k - 1) 0))) ∧ w.Ext w' := by
  obtain ⟨v, rfl⟩ : ∃ v, k = v + 1 := ⟨k - 1, by omega⟩
  obtain ⟨b, o, rfl, d0⟩ := hr v (by omega)
  simp only [Nat.add_sub_cancel]
  generalize xs.getD v 0 = m at *
  have f2 : ((v + 1 : Nat) : Int) - 1 = (v : Int) := by omega
  have f3 : ((v + 1 : Nat) : Int) ≤ 4096 := by omega
  have f6 : (1 : Int) ≤ ((v + 1 : Nat) : Int) := by omega
  have f4 : (v : Int) < (xs.length : Int) := by omega
  have f5 : (0 : Int) ≤ (v : Int) := by omega
  generalize ((v + 1 : Nat) : Int) = v1 at *
  clear hr
  go_enter Try.func114, Try.ntmps114
  go_wp2_with fail
  refine wp_region_over_lit (by kernel_rfl) (by kernel_rfl) ?_; (repeat (go_big_quiet_step (fail))); refine wpQuiet_nil ?_; rintro _ ⟨x1, rfl⟩
  go_wp2
  go_ret
  exact ⟨rfl, ⟨x1, rfl⟩⟩
theorem enters_keep11 : Enters 114 := enters_of Try.func114 (by kernel_rfl) (by kernel_rfl)
set_option maxRecDepth 5000 in
set_option maxHeartbeats 1600000 in
theorem keep1_any (p1 p2 b ab W H : Nat) (l : List Bool) (eight : Bool) (least : Int) (F : Int × Int → Nat) (n : Nat) (w : World) (hW : W ≤ 64) (hH : H ≤ 64) (hI : Img w b ab W H l) (h1 : w.cell? ⟨p1, 0, none⟩ = some (.int .i64 least)) (h2 : w.cell? ⟨p2, 0, none⟩ = some (.bool eight))
    (hF : LabK (pxP W H l) (nbA eight) (spotsTo W l (H * W)) (spotsTo W l (H * W)).length F n) :
    Calls Try.prog 111 #[.pointer (some ⟨b, 0, none⟩), .pointer (some ⟨p1, 0, none⟩), .pointer (some ⟨p2, 0, none⟩)] w (DoRet w (inB least 0 256) W H (mkl W H (keptG F (areK W H F n least)))) := by
  have HIN := Lib.hid (fun w' t ht => in_any least 0 256 w' t ht)
  have hn : n ≤ 4096 := Nat.le_trans (Nat.le_trans hF.few.1 (spotsTo_len _ _ _)) (Nat.mul_le_mul hH hW)
  cases hb : inB least 0 256
  · have HC := Lib.hid (HIN.out w _ hb)
    show Calls _ _ _ _ (fun e w' => e = .returned (.pointer none) ∧ w.Ext w')
    clear hI hF hb HIN
    go_enter Try.func111, Try.ntmps111
    go_wp2_with fail
    refine HC.out.mono ?_
    rintro e w1 ⟨rfl, hx1⟩
    have HX1 := Lib.hid hx1
    clear hx1
    go_wp2
    go_ret
    exact ⟨rfl, HX1.out⟩
  · have HC := Lib.hid (HIN.out w _ hb)
    have HAR : Hid (∀ w', w.Ext w' → Calls Try.prog 106 #[.pointer (some ⟨b, 0, none⟩), .bool eight] w' (IntsRet w' (areL W H F n))) := fun w' hx => areas_any b ab W H l eight F n w' hW hH (hI.ext hx) hF
    have hlen : (areL W H F n).length = n := cntL_len _ _ _
    have HKP : Hid (∀ (w' : World) (p5 : Nat) (a : Option Addr) (c : Nat), w.Ext w' → w'.cell? ⟨p5, 0, none⟩ = some (.slice a (areL W H F n).length c) → RowI w' a (areL W H F n) →
        Calls Try.prog 113 #[.pointer (some ⟨b, 0, none⟩), .bool eight, .func (.func 114) #[] #[.pointer (some ⟨p5, 0, none⟩), .pointer (some ⟨p1, 0, none⟩)]] w' (ImgRet w' W H (mkl W H (keptG F (areK W H F n least))))) := fun w' p5 a c hx hc hr =>
      kept_any b ab W H l eight F n 114 #[.pointer (some ⟨p5, 0, none⟩), .pointer (some ⟨p1, 0, none⟩)] (areK W H F n least) w' hW hH (hI.ext hx) enters_keep11 hF (fun w'' hx2 k k1 k2 => keep11_any p5 p1 a c (areL W H F n) least k w'' k1 (by rw [hlen]; exact k2) (by rw [hlen]; exact hn) (hx2.cell hc) (RowOf.ext hr hx2) ((hx.trans hx2).cell h1))
    show Calls _ _ _ _ (ImgRet w W H (mkl W H (keptG F (areK W H F n least))))
    clear hI hF hb HIN hlen
    generalize mkl W H (keptG F (areK W H F n least)) = M at *
    generalize areL W H F n = xs at *
    go_enter Try.func111, Try.ntmps111
    go_wp2_with fail
    refine HC.out.mono ?_
    rintro e w1 ⟨rfl, hx1⟩
    have HX1 := Lib.hid hx1
    have e2 := hx1.cell h2
    clear hx1
    go_wp2_with fail
    refine (HAR.out w1 HX1.out).mono ?_
    rintro e w2 ⟨a2, c2, rfl, hx2, ho2⟩
    obtain ⟨w3, hw3⟩ : ∃ w3, w3 = w2.alloc (.cells #[.slice a2 xs.length c2] 54) := ⟨_, rfl⟩
    have hx3 : w2.Ext w3 := by rw [hw3]; repeat (first | exact World.Ext.refl _ | exact ⟨_, rfl⟩ | assumption | refine World.Ext.over ?_ _ | refine World.Ext.drewN ?_ _ | refine World.Ext.drew ?_ | refine World.Ext.alloc ?_ _ | refine World.Ext.setCell ?_ (by simp) _)
    have e3 := hx2.cell e2
    have l3 := World.block_lt_of_cell? _ _ e3
    dsimp only at l3
    have HC3 := Lib.hid (HKP.out w3 w2.heap.size a2 c2 (HX1.out.trans (hx2.trans hx3)) (by rw [hw3]; simp [go_sem]) (RowOf.ext ho2.row hx3))
    have HX3 := Lib.hid (HX1.out.trans (hx2.trans hx3))
    clear hx2 hx3 ho2 e2
    go_wp2_with fail
    rw [← hw3]
    clear hw3
    refine HC3.out.mono ?_
    rintro e w4 ⟨b4, ab4, rfl, hx4, hi4, hl4, hl5⟩
    have HR : Hid (ImgRet w W H M (.returned (.pointer (some ⟨b4, 0, none⟩))) w4) := ⟨b4, ab4, rfl, HX3.out.trans hx4, hi4, Nat.le_trans HX3.out.size hl4, Nat.le_trans HX3.out.size hl5⟩
    clear hx4 hi4 hl4 hl5
    go_wp2
    go_ret
    exact HR.out
theorem enters_keep1 : Enters 111 := enters_of Try.func111 (by kernel_rfl) (by kernel_rfl)
set_option maxRecDepth 5000 in
set_option maxHeartbeats 1600000 in
theorem implKeep_any (a : Option Addr) (c : Nat) (ss : List ByteArray) (eight : Bool) (least : Int) (F : Int × Int → Nat) (n : Nat) (hF : LabP ss eight F n) (w : World) (hb : PicBnd ss) (hm : RowS w a ss) :
    Calls Try.prog 55 #[.agg #[.slice a ss.length c], .bool eight, .int .i64 least] w (PicRet2 w (optRows (keepOk ss least) (picRows (picW ss) ss.length (mkl (picW ss) ss.length (keptG F (areK (picW ss) ss.length F n least))))) (keepOk ss least)) := by
  obtain ⟨W0, hW0⟩ : ∃ W0, W0 = (((w.alloc (.cells #[.slice a ss.length c] 29)).alloc (.cells #[.bool eight] 4)).alloc (.cells #[.int .i64 least] 2)).alloc (.cells #[.slice none 0 0] 29) := ⟨_, rfl⟩
  have hx0 : w.Ext W0 := by rw [hW0]; repeat (first | exact World.Ext.refl _ | exact ⟨_, rfl⟩ | assumption | refine World.Ext.over ?_ _ | refine World.Ext.drewN ?_ _ | refine World.Ext.drew ?_ | refine World.Ext.alloc ?_ _ | refine World.Ext.setCell ?_ (by simp) _)
  have d0 : W0.cell? ⟨w.heap.size, 0, none⟩ = some (.slice a ss.length c) := by rw [hW0]; simp [go_sem]
  have d1 : W0.cell? ⟨w.heap.size + 1, 0, none⟩ = some (.bool eight) := by rw [hW0]; simp [go_sem]
  have d2 : W0.cell? ⟨w.heap.size + 1 + 1, 0, none⟩ = some (.int .i64 least) := by rw [hW0]; simp [go_sem]
  have hone : One W0 (w.heap.size + 1 + 1 + 1) 29 (.slice none 0 0) := by rw [hW0]; exact One.new _ _ _ _ (by simp)
  have HWI : Hid (Calls Try.prog 97 #[.agg #[.slice a ss.length c], .func (.func 111) #[] #[.pointer (some ⟨w.heap.size + 1 + 1, 0, none⟩), .pointer (some ⟨w.heap.size + 1, 0, none⟩)]] W0 (PicRet2 W0 (optRows (picOk ss && inB least 0 256) (picRows (picW ss) ss.length (mkl (picW ss) ss.length (keptG F (areK (picW ss) ss.length F n least))))) (picOk ss && inB least 0 256))) :=
    withImage_any a c 111 #[.pointer (some ⟨w.heap.size + 1 + 1, 0, none⟩), .pointer (some ⟨w.heap.size + 1, 0, none⟩)] ss (inB least 0 256) _ _ _ W0 hb.1 hb.2 (hm.ext hx0) enters_keep1 (fun h _ => by obtain ⟨v1, v2, v3, v4, -, -⟩ := picOk_spec h; omega)
      (fun w' b ab h hx hI => by
        obtain ⟨v1, v2, v3, v4, -, -⟩ := picOk_spec h
        exact keep1_any _ _ b ab _ _ _ eight least F n w' (by omega) (by omega) hI (hx.cell d2) (hx.cell d1) hF)
  have HX0 := Lib.hid hx0
  have HO := Lib.hid hone
  unfold keepOk
  clear hb hm hx0 hone hF d1 d2
  generalize optRows (picOk ss && inB least 0 256) (picRows (picW ss) ss.length (mkl (picW ss) ss.length (keptG F (areK (picW ss) ss.length F n least)))) = R at *
  generalize (picOk ss && inB least 0 256) = ok at *
  go_enter Try.func55, Try.ntmps55
  go_wp2_with fail
  rw [← hW0]
  refine HWI.out.mono ?_
  rintro e w1 ⟨a1, c1, rfl, hx1, ho1⟩
  have hl0 : w.heap.size + 1 + 1 + 1 < W0.heap.size := HO.out.lt
  obtain ⟨r1, r2, r3, HR⟩ := Res.store (.slice a1 R.length c1) (HX0.out.trans hx1) (by omega) (HO.out.ext hx1) hl0 ho1
  clear hx1 ho1 hW0
  go_wp2
  exact bodyPost_ret (v := .tuple #[.agg #[.slice a1 R.length c1], .bool ok]) (by simp [results, Try.results55, go_sem, r3]) rfl ⟨a1, c1, rfl, HR.out.1, HR.out.2⟩
theorem mkl_take {W H : Nat} (g : Nat → Nat → Bool) {k : Nat} (hk : k < H * W) : (mkl W H g).take (k + 1) = (mkl W H g).take k ++ [g (k % W) (k / W)] := by
  have h1 : k < (mkl W H g).length := by rw [mkl_len]; exact hk
  rw [take_next h1]
  congr 2
  unfold mkl
  rw [List.getD_eq_getElem?_getD, List.getElem?_map, List.getElem?_range hk]
  rfl
set_option maxRecDepth 5000 in
set_option maxHeartbeats 1600000 in
theorem specKeep_any (a : Option Addr) (c : Nat) (ss : List ByteArray) (eight : Bool) (least : Int) (F : Int × Int → Nat) (n : Nat) (hF : LabP ss eight F n) (w : World) (hb : PicBnd ss) (hm : RowS w a ss) :
    Calls Try.prog 54 #[.agg #[.slice a ss.length c], .bool eight, .int .i64 least] w (PicRet2 w (optRows (keepOk ss least) (picRows (picW ss) ss.length (mkl (picW ss) ss.length (keptG F (areK (picW ss) ss.length F n least))))) (keepOk ss least)) := by
  obtain ⟨ib, hib, hb0, hb1, hb2⟩ := info_parts Try.infoBoolR
  obtain ⟨W0, hW0⟩ : ∃ W0, W0 = (w.alloc (.cells #[.slice a ss.length c] 29)).alloc (.cells #[.slice none 0 0] 29) := ⟨_, rfl⟩
  have hx0 : w.Ext W0 := by rw [hW0]; repeat (first | exact World.Ext.refl _ | exact ⟨_, rfl⟩ | assumption | refine World.Ext.over ?_ _ | refine World.Ext.drewN ?_ _ | refine World.Ext.drew ?_ | refine World.Ext.alloc ?_ _ | refine World.Ext.setCell ?_ (by simp) _)
  have d0 : W0.cell? ⟨w.heap.size, 0, none⟩ = some (.slice a ss.length c) := by rw [hW0]; simp [go_sem]
  have hone : One W0 (w.heap.size + 1) 29 (.slice none 0 0) := by rw [hW0]; exact One.new _ _ _ _ (by simp)
  have HI : Hid (Calls Try.prog 78 #[.pointer (some ⟨w.heap.size, 0, none⟩)] W0 fun e w' => e = .returned (.bool (picOk ss)) ∧ W0.Ext w') := l01Is_any _ a c ss W0 hb.1 hb.2 d0 (hm.ext hx0) _ rfl
  have HIN := Lib.hid (fun w' t ht => l00In_any least 0 256 w' t ht)
  have HX0 := Lib.hid hx0
  have HO := Lib.hid hone
  unfold keepOk
  cases h : picOk ss
  · rw [h] at HI
    clear hb hm hx0 d0 hone h hF HIN
    show Calls _ _ _ _ (PicRet2 w [] false)
    go_enter Try.func54, Try.ntmps54
    go_wp2_with fail
    rw [← hW0]
    refine HI.out.mono ?_
    rintro e w1 ⟨rfl, hx1⟩
    obtain ⟨r1, r2, r3, HR⟩ := Res.store (f := Value.string) (d := ByteArray.empty) (a := none) (xs := []) (lo := w.heap.size + 2) (.slice none 0 0) (HX0.out.trans hx1) (by omega) (HO.out.ext hx1) (by omega) (OwnOf.nil _ _)
    clear hx1 hW0
    go_wp2
    exact bodyPost_ret (v := .tuple #[.agg #[.slice none 0 0], .bool false]) (by simp [results, Try.results54, go_sem, r3]) rfl ⟨none, 0, rfl, HR.out.1, OwnOf.nil _ _⟩
  · rw [h] at HI
    simp only [Bool.true_and]
    cases hl : inB least 0 256
    · have HC := Lib.hid (fun w' => HIN.out w' _ hl)
      clear hb hm hx0 d0 hone h hF HIN hl
      show Calls _ _ _ _ (PicRet2 w [] false)
      go_enter Try.func54, Try.ntmps54
      go_wp2_with fail
      rw [← hW0]
      refine HI.out.mono ?_
      rintro e w1 ⟨rfl, hx1⟩
      go_wp2_with fail
      refine (HC.out _).mono ?_
      rintro e w2 ⟨rfl, hx2⟩
      obtain ⟨r1, r2, r3, HR⟩ := Res.store (f := Value.string) (d := ByteArray.empty) (a := none) (xs := []) (lo := w.heap.size + 2) (.slice none 0 0) (HX0.out.trans (hx1.trans hx2)) (by omega) (HO.out.ext (hx1.trans hx2)) (by omega) (OwnOf.nil _ _)
      clear hx1 hx2 hW0
      go_wp2
      exact bodyPost_ret (v := .tuple #[.agg #[.slice none 0 0], .bool false]) (by simp [results, Try.results54, go_sem, r3]) rfl ⟨none, 0, rfl, HR.out.1, OwnOf.nil _ _⟩
    · have HC := Lib.hid (fun w' => HIN.out w' _ hl)
      obtain ⟨v1, v2, v3, v4, e1, -⟩ := picOk_spec h
      have hn := hF.few (by omega) (by omega)
      have HFN : Hid (∀ q, F q ≤ n) := (LabK.few hF).2
      have HLB := Lib.hid (fun w' (hx : W0.Ext w') => l05Labels_any _ a c ss eight F n w' e1 v3 (by omega) (by omega) (hx.cell d0) ((hm.ext hx0).ext hx) (LabK.congr1 (fun p q => (nb_same eight p q).symm) hF))
      have HAR : Hid (∀ (w' : World) (a' : Option Addr) (c' : Nat), RowI w' a' (numL (picW ss) ss.length F) → Calls Try.prog 105 #[.slice a' (picW ss * ss.length) c', .int .i64 n] w' (IntsRet w' (areL (picW ss) ss.length F n))) := fun w' a' c' hr => l05Areas_any a' c' _ _ n F w' (by omega) (by omega) hn (LabK.few hF).2 hr
      have HWS : Hid (∀ w', W0.Ext w' → Calls Try.prog 74 #[.pointer (some ⟨w.heap.size, 0, none⟩)] w' fun e w'' => e = .returned (.int .i64 (picW ss)) ∧ w'.Ext w'') := fun w' hx => l01Width_any _ a c ss w' e1.1 (by omega) (by omega) (hx.cell d0) (RowOf.ext (hm.ext hx0) hx)
      have hal : (areL (picW ss) ss.length F n).length = n := cntL_len _ _ _
      have HKG : Hid (∀ x y, keptG F (areK (picW ss) ss.length F n least) x y = (decide (0 < F ((x : Int), (y : Int))) && decide (least ≤ (areL (picW ss) ss.length F n).getD (F ((x : Int), (y : Int)) - 1) 0))) := fun x y => rfl
      clear hb hm hx0 d0 hone h hF HIN hl e1
      show Calls _ _ _ _ (PicRet2 w (picRows (picW ss) ss.length (mkl (picW ss) ss.length (keptG F (areK (picW ss) ss.length F n least)))) true)
      generalize keptG F (areK (picW ss) ss.length F n least) = G at *
      generalize areL (picW ss) ss.length F n = xs at *
      generalize picW ss = W at *
      generalize ss.length = H at *
      have hWH : W * H ≤ 256 := Nat.mul_le_mul v4 v2
      go_enter Try.func54, Try.ntmps54
      go_wp2_with fail
      rw [← hW0]
      refine HI.out.mono ?_
      rintro e w1 ⟨rfl, hx1⟩
      go_wp2_with fail
      refine (HC.out _).mono ?_
      rintro e w2 ⟨rfl, hx2⟩
      go_wp2_with fail
      refine (HLB.out _ (hx1.trans hx2)).mono ?_
      rintro e w3 ⟨a3, c3, rfl, hx3, ho3⟩
      have HX3 := Lib.hid (hx1.trans (hx2.trans hx3))
      have HR3 := Lib.hid ho3.row
      clear hx1 hx2 hx3 ho3 hW0
      go_wp2_with fail
      refine (HAR.out w3 a3 c3 HR3.out).mono ?_
      rintro e w4 ⟨a4, c4, rfl, hx4, ho4⟩
      have HX4 := Lib.hid (HX3.out.trans hx4)
      have HR4 := Lib.hid (RowOf.ext HR3.out hx4)
      have HA4 := Lib.hid ho4.row
      clear hx4 ho4 HX3 HR3
      have hml : (mkl W H G).length = W * H := by rw [mkl_len, Nat.mul_comm]
      have HST : Hid (BlSt w4 (.slice (some ⟨w4.heap.size, 0, none⟩) 0 0) ((mkl W H G).take 0) (w4.alloc (.cells #[] 4))) := BlSt.start
      have HMT : Hid (∀ k, k < W * H → (mkl W H G).take (k + 1) = (mkl W H G).take k ++ [G (k % W) (k / W)]) := fun k hk => mkl_take G (by rw [Nat.mul_comm]; exact hk)
      have HNA : Hid (∀ k, k < W * H → (numL W H F).getD k 0 = (pixN W F k : Int) ∧ k < (numL W H F).length) := fun k hk => by
        rw [numL_len]
        refine ⟨?_, by rw [Nat.mul_comm]; exact hk⟩
        unfold numL pixN
        rw [List.getD_eq_getElem?_getD, List.getElem?_map, List.getElem?_range (by rw [Nat.mul_comm]; exact hk)]
        rfl
      go_wp2
      go_loopw [11, 12, 32] (fun v _ m wr => ∃ k : Nat, k ≤ W * H ∧ m = .int .i64 k ∧ Hid (BlSt w4 v ((mkl W H G).take k) wr)) (fun _ _ m _ => W * H - (intOf m).toNat)
      case atStart => exact ⟨0, Nat.zero_le _, rfl, HST⟩
      case round =>
        obtain ⟨k, hk, rfl, HS⟩ := hrel
        clear HST
        obtain ⟨w5, rfl⟩ : ∃ w5 : World, w5 = wr := ⟨_, rfl⟩
        by_cases hlt : k < W * H
        · have hlt' : (k : Int) < ((W * H : Nat) : Int) := by omega
          have hk0 : (0 : Int) ≤ (k : Int) := by omega
          obtain ⟨na, nl⟩ := HNA.out k hlt
          obtain ⟨b3, o3, rfl, d0⟩ := HR4.out k nl
          rw [na] at d0
          replace d0 := HS.out.1.cell d0
          have hkg := HKG.out (k % W) (k / W)
          have hq := HMT.out k hlt
          rw [hkg] at hq
          have hfle := HFN.out (((k % W : Nat) : Int), ((k / W : Nat) : Int))
          change w5.cell? ⟨b3, o3 + k, none⟩ = some (.int .i64 (F (((k % W : Nat) : Int), ((k / W : Nat) : Int)) : Int)) at d0
          have hlen : ((mkl W H G).take k).length = k := by rw [List.length_take, hml]; omega
          have HB1 : Hid (((mkl W H G).take k).length + 1 ≤ maxLen) := by show _ ≤ _; rw [hlen]; unfold maxLen; omega
          have HB2 : Hid ((((mkl W H G).take k).length + 1) * 1 ≤ 140737488355328) := by show _ ≤ _; rw [hlen]; omega
          clear hkg na nl hlen
          generalize F (((k % W : Nat) : Int), ((k / W : Nat) : Int)) = v at *
          by_cases h0 : 0 < v
          · have h0' : (0 : Int) < (v : Int) := by omega
            obtain ⟨b4, o4, rfl, d1⟩ := HA4.out (v - 1) (by omega)
            replace d1 := HS.out.1.cell d1
            rw [decide_eq_true h0, Bool.true_and] at hq
            have f2 : (v : Int) - 1 = ((v - 1 : Nat) : Int) := by omega
            generalize xs.getD (v - 1) 0 = m at *
            generalize v - 1 = u at *
            have f4 : (u : Int) < (n : Int) := by omega
            have f5 : (0 : Int) ≤ (u : Int) := by omega
            have f6 : (v : Int) ≤ 4096 := by omega
            have HQ := Lib.hid hq
            generalize hbt : decide (least ≤ m) = bt at *
            have HNEXT : Hid (∀ (o : Obj) (v' : Value) (w1 : World), (w5.alloc o).grownBy w1 u11.ownBlock → w1.ownsRow w4.heap.size 4 1 v' (((mkl W H G).take k).length + 1) (((mkl W H G).take k).map Value.bool ++ [.bool bt]) → Hid (BlSt w4 v' ((mkl W H G).take (k + 1)) w1)) := fun o v' w1 hgrow hown' => BlSt.next HS.out HQ.out hgrow hown'
            have hown := HS.out.2
            unfold GrowOf at hown
            have HLE : ∀ o' : Obj, w4.heap.size ≤ (w5.alloc o').heap.size := fun o' => (HS.out.1.alloc o').size
            clear HS HQ hq h0 hfle hal
            generalize (mkl W H G).take k = pre at *
            go_wp2_with ((at_builtin; refine wpList_append_own _ rfl _ _ 92 rfl w4.heap.size 4 ib (.bool false) 1 1 Try.underlying92 hib hb0 hb1 hb2 rfl (by decide) _ _ _ rfl (hown.alloc _) ⟨w5.heap.size, 0, none⟩ 1 1 [.bool bt] rfl rfl (cell_one_new _ _ _) (by simp [Value.oneCell']) HB1.out HB2.out (HLE _) (fun v' w1 hown' hgrow _ => ?_)); have HS4 := HNEXT.out _ _ _ hgrow hown'; clear hgrow hown' hown)
            go_roundw
            case rel => exact ⟨k + 1, by omega, by go_num, HS4⟩
            case measure => simp [intOf]; omega
          · have h0' : ¬ (0 : Int) < (v : Int) := by omega
            rw [decide_eq_false h0, Bool.false_and] at hq
            have HQ := Lib.hid hq
            have HNEXT : Hid (∀ (o : Obj) (v' : Value) (w1 : World), (w5.alloc o).grownBy w1 u11.ownBlock → w1.ownsRow w4.heap.size 4 1 v' (((mkl W H G).take k).length + 1) (((mkl W H G).take k).map Value.bool ++ [.bool false]) → Hid (BlSt w4 v' ((mkl W H G).take (k + 1)) w1)) := fun o v' w1 hgrow hown' => BlSt.next HS.out HQ.out hgrow hown'
            have hown := HS.out.2
            unfold GrowOf at hown
            have HLE : ∀ o' : Obj, w4.heap.size ≤ (w5.alloc o').heap.size := fun o' => (HS.out.1.alloc o').size
            clear HS HQ hq h0 hfle hal
            generalize (mkl W H G).take k = pre at *
            go_wp2_with ((at_builtin; refine wpList_append_own _ rfl _ _ 92 rfl w4.heap.size 4 ib (.bool false) 1 1 Try.underlying92 hib hb0 hb1 hb2 rfl (by decide) _ _ _ rfl (hown.alloc _) ⟨w5.heap.size, 0, none⟩ 1 1 [.bool false] rfl rfl (cell_one_new _ _ _) (by simp [Value.oneCell']) HB1.out HB2.out (HLE _) (fun v' w1 hown' hgrow _ => ?_)); have HS4 := HNEXT.out _ _ _ hgrow hown'; clear hgrow hown' hown)
            go_roundw
            case rel => exact ⟨k + 1, by omega, by go_num, HS4⟩
            case measure => simp [intOf]; omega
        · have : k = W * H := by omega
          subst this
          have hS := HS.out
          rw [← hml, List.take_length] at hS
          obtain ⟨a5, c5, e5, -⟩ := hS.2.form
          rw [hml] at e5
          subst e5
          have HB5 := Lib.hid (GrowOf.own (n := W * H) (a := a5) (cap := c5) false hS.2).row
          have HX5 := Lib.hid (HX4.out.trans hS.1)
          have HRL := Lib.hid (picRows_len W H (mkl W H G))
          clear HS hS
          go_wp2_with fail
          refine (HWS.out w5 HX5.out).mono ?_
          rintro e w6 ⟨rfl, hx6⟩
          have hmk := l01Make_any a5 c5 W H (mkl W H G) w6 v3 (by omega) (by omega) hml (RowOf.ext HB5.out hx6)
          rw [hml] at hmk
          have HMK := Lib.hid hmk
          clear hmk
          have HX6 := Lib.hid (HX5.out.trans hx6)
          have hl6 : w.heap.size + 1 < w6.heap.size := (HO.out.ext HX6.out).lt
          clear hx6 HB5 HX5
          go_wp2_with fail
          refine HMK.out.mono ?_
          rintro e w7 ⟨a7, c7, rfl, hx7, ho7⟩
          obtain ⟨r1, r2, r3, HR⟩ := Res.store (.slice a7 H c7) (HX0.out.trans (HX6.out.trans hx7)) (by omega) (HO.out.ext (HX6.out.trans hx7)) hl6 ho7
          clear hx7 ho7
          go_wp2
          exact bodyPost_ret (v := .tuple #[.agg #[.slice a7 H c7], .bool true]) (by simp [results, Try.results54, go_sem, r3]) rfl ⟨a7, c7, by rw [HRL.out], HR.out.1, HR.out.2⟩
end Go.Proofs.Ytlnklcjnjfmknaa
