/- KeepComponents, both sides. -/
import Derived.Test.YthgkmaccbcpaeaaAreF
namespace Go.Proofs.Ythgkmaccbcpaeaa
open Go Go.RowKit
/-- Components that meet a condition on their numbers. -/
def keptG (F : Int × Int → Nat) (K : Nat → Bool) (x y : Nat) : Bool := decide (0 < F ((x : Int), (y : Int))) && K (F ((x : Int), (y : Int)))
set_option maxRecDepth 5000 in
set_option maxHeartbeats 800000 in
theorem kept1_any (p7 p5 bm fk n : Nat) (caps : Array Value) (F : Int × Int → Nat) (K : Nat → Bool) (x y : Nat) (w : World) (hx : x < 1000) (hy : y < 1000) (he : Enters fk) (hF : ∀ q, F q ≤ n)
    (h7 : w.cell? ⟨p7, 0, none⟩ = some (.map (some bm))) (hM : MapS w Try.prog 45 bm (labM F)) (h5 : w.cell? ⟨p5, 0, none⟩ = some (.func (.func fk) #[] caps))
    (hk : ∀ k : Nat, 1 ≤ k → k ≤ n → Calls Try.prog fk (#[.int .i64 k] ++ caps) w fun e w' => e = .returned (.bool (K k)) ∧ w.Ext w') :
    Calls Try.prog 196 #[.int .i64 x, .int .i64 y, .pointer (some ⟨p7, 0, none⟩), .pointer (some ⟨p5, 0, none⟩)] w fun e w' => e = .returned (.bool (keptG F K x y)) ∧ w.Ext w' := by
  have hl := hM.lookI (x := (x : Int)) (y := (y : Int)) (by omega) (by omega)
  have hfn := hF ((x : Int), (y : Int))
  unfold keptG
  clear hM hF
  unfold Enters at he
  generalize F ((x : Int), (y : Int)) = v at *
  by_cases h0 : 0 < v
  · have HC := Lib.hid (hk v h0 hfn)
    have h0' : (0 : Int) < (v : Int) := by omega
    rw [decide_eq_true h0]
    simp only [Bool.true_and]
    generalize K v = t at *
    clear hk hfn
    go_enter Try.func196, Try.ntmps196
    go_wp2_with fail
    refine HC.out.mono ?_
    rintro e w1 ⟨rfl, hx1⟩
    go_wp2
    go_ret
    exact ⟨rfl, hx1⟩
  · have h0' : ¬ (0 : Int) < (v : Int) := by omega
    rw [decide_eq_false h0]
    simp only [Bool.false_and]
    clear hk hfn
    go_enter Try.func196, Try.ntmps196
    go_wp2
    go_ret
    exact ⟨rfl, .refl _⟩
theorem enters_kept1 : Enters 196 := enters_of Try.func196 (by kernel_rfl) (by kernel_rfl)
set_option maxRecDepth 5000 in
set_option maxHeartbeats 1600000 in
theorem kept_any (b ab W H : Nat) (l : List Bool) (eight : Bool) (F : Int × Int → Nat) (n fk : Nat) (caps : Array Value) (K : Nat → Bool) (w : World) (hW : W ≤ 64) (hH : H ≤ 64) (hI : Img w b ab W H l) (he : Enters fk)
    (hF : LabK (pxP W H l) (nbA eight) (spotsTo W l (H * W)) (spotsTo W l (H * W)).length F n)
    (hk : ∀ w', w.Ext w' → ∀ k : Nat, 1 ≤ k → k ≤ n → Calls Try.prog fk (#[.int .i64 k] ++ caps) w' fun e w'' => e = .returned (.bool (K k)) ∧ w'.Ext w'') :
    Calls Try.prog 123 #[.pointer (some ⟨b, 0, none⟩), .bool eight, .func (.func fk) #[] caps] w (ImgRet w W H (mkl W H (keptG F K))) := by
  obtain ⟨W0, hW0⟩ : ∃ W0, W0 = w.alloc (.cells #[.func (.func fk) #[] caps] 106) := ⟨_, rfl⟩
  have hx0 : w.Ext W0 := by rw [hW0]; repeat (first | exact World.Ext.refl _ | exact ⟨_, rfl⟩ | assumption | refine World.Ext.over ?_ _ | refine World.Ext.drewN ?_ _ | refine World.Ext.drew ?_ | refine World.Ext.alloc ?_ _ | refine World.Ext.setCell ?_ (by simp) _)
  have c5 : W0.cell? ⟨w.heap.size, 0, none⟩ = some (.func (.func fk) #[] caps) := by rw [hW0]; simp [go_sem]
  have HLB := Lib.hid (labels_any b ab W H l eight F n W0 hW hH (hI.ext hx0) hF)
  have HMD : Hid (∀ (w' : World) (p7 bm : Nat), W0.Ext w' → w'.cell? ⟨p7, 0, none⟩ = some (.map (some bm)) → MapS w' Try.prog 45 bm (labM F) →
      Calls Try.prog 155 #[.int .i64 W, .int .i64 H, .func (.func 196) #[] #[.pointer (some ⟨p7, 0, none⟩), .pointer (some ⟨w.heap.size, 0, none⟩)]] w' (ImgRet w' W H (mkl W H (keptG F K)))) := fun w' p7 bm hx hc hM =>
    made_any W H 196 #[.pointer (some ⟨p7, 0, none⟩), .pointer (some ⟨w.heap.size, 0, none⟩)] (keptG F K) w' hW hH enters_kept1 (fun w'' hx2 x y h1 h2 =>
      kept1_any p7 w.heap.size bm fk n caps F K x y w'' (by omega) (by omega) he hF.few.2 (hx2.cell hc) (hM.ext hx2) ((hx.trans hx2).cell c5) (hk w'' ((hx0.trans hx).trans hx2)))
  have c0 := (hI.ext hx0).c0
  have c1 := (hI.ext hx0).c1
  have HX0 := Lib.hid hx0
  clear hI hF hk he hx0 c5
  generalize mkl W H (keptG F K) = M at *
  go_enter Try.func123, Try.ntmps123
  go_wp2_with fail
  rw [← hW0]
  clear hW0
  refine HLB.out.mono ?_
  rintro e w1 ⟨bm, rfl, hx1, -, hM⟩
  obtain ⟨w2, hw2⟩ : ∃ w2, w2 = w1.alloc (.cells #[.map (some bm)] 161) := ⟨_, rfl⟩
  have hx2 : w1.Ext w2 := by rw [hw2]; repeat (first | exact World.Ext.refl _ | exact ⟨_, rfl⟩ | assumption | refine World.Ext.over ?_ _ | refine World.Ext.drewN ?_ _ | refine World.Ext.drew ?_ | refine World.Ext.alloc ?_ _ | refine World.Ext.setCell ?_ (by simp) _)
  have c7 : w2.cell? ⟨w1.heap.size, 0, none⟩ = some (.map (some bm)) := by rw [hw2]; simp [go_sem]
  have e0 := (hx1.trans hx2).cell c0
  have e1 := (hx1.trans hx2).cell c1
  have HX2 := Lib.hid (hx1.trans hx2)
  have HM2 := Lib.hid (hM.ext hx2)
  clear c0 c1 hx1 hx2 hM HLB
  go_wp2_with fail
  rw [← hw2]
  clear hw2
  refine wp_region_over_tail 9 (by kernel_rfl) (by kernel_rfl) ?_; simp only [List.take_succ_cons, List.take_zero, List.drop_succ_cons, List.drop_zero]; (repeat (go_big_quiet_step (fail))); refine wpQuiet_nil ?_; rintro _ ⟨x1, rfl⟩
  have HC := Lib.hid (HMD.out (w2.over x1) w1.heap.size bm (HX2.out.trans ⟨x1, rfl⟩) ((show w2.Ext (w2.over x1) from ⟨x1, rfl⟩).cell c7) (HM2.out.ext ⟨x1, rfl⟩))
  have HX3 : Hid (w.Ext (w2.over x1)) := HX0.out.trans (HX2.out.trans ⟨x1, rfl⟩)
  generalize w2.over x1 = w3 at *
  clear e0 e1 c7 HM2 HX2 HX0
  go_wp2_with fail
  refine HC.out.mono ?_
  rintro e w4 ⟨b4, ab4, rfl, hx4, hi4, hl4, hl5⟩
  have HR : Hid (ImgRet w W H M (.returned (.pointer (some ⟨b4, 0, none⟩))) w4) := ⟨b4, ab4, rfl, HX3.out.trans hx4, hi4, Nat.le_trans HX3.out.size hl4, Nat.le_trans HX3.out.size hl5⟩
  clear hx4 hi4 hl4 hl5
  go_wp2
  go_ret
  exact HR.out
/-- Components whose area is at least so much. -/
def areK (W H : Nat) (F : Int × Int → Nat) (n : Nat) (least : Int) (k : Nat) : Bool := decide (least ≤ (areL W H F n).getD (k - 1) 0)
def keepOk (ss : List ByteArray) (least : Int) : Bool := picOk ss && inB least 0 256
set_option maxRecDepth 5000 in
set_option maxHeartbeats 800000 in
theorem keep11_any (p5 p1 : Nat) (a : Option Addr) (c : Nat) (xs : List Int) (least : Int) (k : Nat) (w : World) (h1 : 1 ≤ k) (h2 : k ≤ xs.length) (hn : xs.length ≤ 4096) (h5 : w.cell? ⟨p5, 0, none⟩ = some (.slice a xs.length c)) (hr : RowI w a xs) (hl : w.cell? ⟨p1, 0, none⟩ = some (.int .i64 least)) :
    Calls Try.prog 126 #[.int .i64 k, .pointer (some ⟨p5, 0, none⟩), .pointer (some ⟨p1, 0, none⟩)] w fun e w' => e = .returned (.bool (decide (least ≤ xs.getD (k - 1) 0))) ∧ w.Ext w' := by
  obtain ⟨v, rfl⟩ : ∃ v, k = v + 1 := ⟨k - 1, by omega⟩
  obtain ⟨b, o, rfl, d0⟩ := hr v (by omega)
  simp only [Nat.add_sub_cancel]
  generalize xs.getD v 0 = m at *
  have f2 : ((v + 1 : Nat) : Int) - 1 = (v : Int) := by omega
  have f3 : ((v + 1 : Nat) : Int) ≤ 4096 := by omega
  have f6 : (1 : Int) ≤ ((v + 1 : Nat) : Int) := by omega
  have f4 : (v : Int) < (xs.length : Int) := by omega
  have f5 : (0 : Int) ≤ (v : Int) := by omega
  generalize ((v + 1 : Nat) : Int) = v1 at *
  clear hr
  go_enter Try.func126, Try.ntmps126
  go_wp2_with fail
  refine wp_region_over_lit (by kernel_rfl) (by kernel_rfl) ?_; (repeat (go_big_quiet_step (fail))); refine wpQuiet_nil ?_; rintro _ ⟨x1, rfl⟩
  go_wp2
  go_ret
  exact ⟨rfl, ⟨x1, rfl⟩⟩
theorem enters_keep11 : Enters 126 := enters_of Try.func126 (by kernel_rfl) (by kernel_rfl)
set_option maxRecDepth 5000 in
set_option maxHeartbeats 1600000 in
theorem keep1_any (p1 p2 b ab W H : Nat) (l : List Bool) (eight : Bool) (least : Int) (F : Int × Int → Nat) (n : Nat) (w : World) (hW : W ≤ 64) (hH : H ≤ 64) (hI : Img w b ab W H l) (h1 : w.cell? ⟨p1, 0, none⟩ = some (.int .i64 least)) (h2 : w.cell? ⟨p2, 0, none⟩ = some (.bool eight))
    (hF : LabK (pxP W H l) (nbA eight) (spotsTo W l (H * W)) (spotsTo W l (H * W)).length F n) :
    Calls Try.prog 125 #[.pointer (some ⟨b, 0, none⟩), .pointer (some ⟨p1, 0, none⟩), .pointer (some ⟨p2, 0, none⟩)] w (DoRet w (inB least 0 256) W H (mkl W H (keptG F (areK W H F n least)))) := by
  have HIN := Lib.hid (fun w' t ht => in_any least 0 256 w' t ht)
  have hn : n ≤ 4096 := Nat.le_trans (Nat.le_trans hF.few.1 (spotsTo_len _ _ _)) (Nat.mul_le_mul hH hW)
  cases hb : inB least 0 256
  · have HC := Lib.hid (HIN.out w _ hb)
    show Calls _ _ _ _ (fun e w' => e = .returned (.pointer none) ∧ w.Ext w')
    clear hI hF hb HIN
    go_enter Try.func125, Try.ntmps125
    go_wp2_with fail
    refine HC.out.mono ?_
    rintro e w1 ⟨rfl, hx1⟩
    have HX1 := Lib.hid hx1
    clear hx1
    go_wp2
    go_ret
    exact ⟨rfl, HX1.out⟩
  · have HC := Lib.hid (HIN.out w _ hb)
    have HAR : Hid (∀ w', w.Ext w' → Calls Try.prog 118 #[.pointer (some ⟨b, 0, none⟩), .bool eight] w' (IntsRet w' (areL W H F n))) := fun w' hx => areas_any b ab W H l eight F n w' hW hH (hI.ext hx) hF
    have hlen : (areL W H F n).length = n := cntL_len _ _ _
    have HKP : Hid (∀ (w' : World) (p5 : Nat) (a : Option Addr) (c : Nat), w.Ext w' → w'.cell? ⟨p5, 0, none⟩ = some (.slice a (areL W H F n).length c) → RowI w' a (areL W H F n) →
        Calls Try.prog 123 #[.pointer (some ⟨b, 0, none⟩), .bool eight, .func (.func 126) #[] #[.pointer (some ⟨p5, 0, none⟩), .pointer (some ⟨p1, 0, none⟩)]] w' (ImgRet w' W H (mkl W H (keptG F (areK W H F n least))))) := fun w' p5 a c hx hc hr =>
      kept_any b ab W H l eight F n 126 #[.pointer (some ⟨p5, 0, none⟩), .pointer (some ⟨p1, 0, none⟩)] (areK W H F n least) w' hW hH (hI.ext hx) enters_keep11 hF (fun w'' hx2 k k1 k2 => keep11_any p5 p1 a c (areL W H F n) least k w'' k1 (by rw [hlen]; exact k2) (by rw [hlen]; exact hn) (hx2.cell hc) (RowOf.ext hr hx2) ((hx.trans hx2).cell h1))
    show Calls _ _ _ _ (ImgRet w W H (mkl W H (keptG F (areK W H F n least))))
    clear hI hF hb HIN hlen
    generalize mkl W H (keptG F (areK W H F n least)) = M at *
    generalize areL W H F n = xs at *
    go_enter Try.func125, Try.ntmps125
    go_wp2_with fail
    refine HC.out.mono ?_
    rintro e w1 ⟨rfl, hx1⟩
    have HX1 := Lib.hid hx1
    have e2 := hx1.cell h2
    clear hx1
    go_wp2_with fail
    refine (HAR.out w1 HX1.out).mono ?_
    rintro e w2 ⟨a2, c2, rfl, hx2, ho2⟩
    obtain ⟨w3, hw3⟩ : ∃ w3, w3 = w2.alloc (.cells #[.slice a2 xs.length c2] 41) := ⟨_, rfl⟩
    have hx3 : w2.Ext w3 := by rw [hw3]; repeat (first | exact World.Ext.refl _ | exact ⟨_, rfl⟩ | assumption | refine World.Ext.over ?_ _ | refine World.Ext.drewN ?_ _ | refine World.Ext.drew ?_ | refine World.Ext.alloc ?_ _ | refine World.Ext.setCell ?_ (by simp) _)
    have e3 := hx2.cell e2
    have l3 := World.block_lt_of_cell? _ _ e3
    dsimp only at l3
    have HC3 := Lib.hid (HKP.out w3 w2.heap.size a2 c2 (HX1.out.trans (hx2.trans hx3)) (by rw [hw3]; simp [go_sem]) (RowOf.ext ho2.row hx3))
    have HX3 := Lib.hid (HX1.out.trans (hx2.trans hx3))
    clear hx2 hx3 ho2 e2
    go_wp2_with fail
    rw [← hw3]
    clear hw3
    refine HC3.out.mono ?_
    rintro e w4 ⟨b4, ab4, rfl, hx4, hi4, hl4, hl5⟩
    have HR : Hid (ImgRet w W H M (.returned (.pointer (some ⟨b4, 0, none⟩))) w4) := ⟨b4, ab4, rfl, HX3.out.trans hx4, hi4, Nat.le_trans HX3.out.size hl4, Nat.le_trans HX3.out.size hl5⟩
    clear hx4 hi4 hl4 hl5
    go_wp2
    go_ret
    exact HR.out
theorem enters_keep1 : Enters 125 := enters_of Try.func125 (by kernel_rfl) (by kernel_rfl)
set_option maxRecDepth 5000 in
set_option maxHeartbeats 1600000 in
theorem implKeep_any (a : Option Addr) (c : Nat) (ss : List ByteArray) (eight : Bool) (least : Int) (F : Int × Int → Nat) (n : Nat) (hF : LabP ss eight F n) (w : World) (hb : PicBnd ss) (hm : RowS w a ss) :
    Calls Try.prog 47 #[.agg #[.slice a ss.length c], .bool eight, .int .i64 least] w (PicRet2 w (optRows (keepOk ss least) (picRows (picW ss) ss.length (mkl (picW ss) ss.length (keptG F (areK (picW ss) ss.length F n least))))) (keepOk ss least)) := by
  obtain ⟨W0, hW0⟩ : ∃ W0, W0 = (((w.alloc (.cells #[.slice a ss.length c] 26)).alloc (.cells #[.bool eight] 4)).alloc (.cells #[.int .i64 least] 2)).alloc (.cells #[.slice none 0 0] 26) := ⟨_, rfl⟩
  have hx0 : w.Ext W0 := by rw [hW0]; repeat (first | exact World.Ext.refl _ | exact ⟨_, rfl⟩ | assumption | refine World.Ext.over ?_ _ | refine World.Ext.drewN ?_ _ | refine World.Ext.drew ?_ | refine World.Ext.alloc ?_ _ | refine World.Ext.setCell ?_ (by simp) _)
  have d0 : W0.cell? ⟨w.heap.size, 0, none⟩ = some (.slice a ss.length c) := by rw [hW0]; simp [go_sem]
  have d1 : W0.cell? ⟨w.heap.size + 1, 0, none⟩ = some (.bool eight) := by rw [hW0]; simp [go_sem]
  have d2 : W0.cell? ⟨w.heap.size + 1 + 1, 0, none⟩ = some (.int .i64 least) := by rw [hW0]; simp [go_sem]
  have hone : One W0 (w.heap.size + 1 + 1 + 1) 26 (.slice none 0 0) := by rw [hW0]; exact One.new _ _ _ _ (by simp)
  have HWI : Hid (Calls Try.prog 119 #[.agg #[.slice a ss.length c], .func (.func 125) #[] #[.pointer (some ⟨w.heap.size + 1 + 1, 0, none⟩), .pointer (some ⟨w.heap.size + 1, 0, none⟩)]] W0 (PicRet2 W0 (optRows (picOk ss && inB least 0 256) (picRows (picW ss) ss.length (mkl (picW ss) ss.length (keptG F (areK (picW ss) ss.length F n least))))) (picOk ss && inB least 0 256))) :=
    withImage_any a c 125 #[.pointer (some ⟨w.heap.size + 1 + 1, 0, none⟩), .pointer (some ⟨w.heap.size + 1, 0, none⟩)] ss (inB least 0 256) _ _ _ W0 hb.1 hb.2 (hm.ext hx0) enters_keep1 (fun h _ => by obtain ⟨v1, v2, v3, v4, -, -⟩ := picOk_spec h; omega)
      (fun w' b ab h hx hI => by
        obtain ⟨v1, v2, v3, v4, -, -⟩ := picOk_spec h
        exact keep1_any _ _ b ab _ _ _ eight least F n w' (by omega) (by omega) hI (hx.cell d2) (hx.cell d1) hF)
  have HX0 := Lib.hid hx0
  have HO := Lib.hid hone
  unfold keepOk
  clear hb hm hx0 hone hF d1 d2
  generalize optRows (picOk ss && inB least 0 256) (picRows (picW ss) ss.length (mkl (picW ss) ss.length (keptG F (areK (picW ss) ss.length F n least)))) = R at *
  generalize (picOk ss && inB least 0 256) = ok at *
  go_enter Try.func47, Try.ntmps47
  go_wp2_with fail
  rw [← hW0]
  refine HWI.out.mono ?_
  rintro e w1 ⟨a1, c1, rfl, hx1, ho1⟩
  have hl0 : w.heap.size + 1 + 1 + 1 < W0.heap.size := HO.out.lt
  obtain ⟨r1, r2, r3, HR⟩ := Res.store (.slice a1 R.length c1) (HX0.out.trans hx1) (by omega) (HO.out.ext hx1) hl0 ho1
  clear hx1 ho1 hW0
  go_wp2
  exact bodyPost_ret (v := .tuple #[.agg #[.slice a1 R.length c1], .bool ok]) (by simp [results, Try.results47, go_sem, r3]) rfl ⟨a1, c1, rfl, HR.out.1, HR.out.2⟩
theorem mkl_take {W H : Nat} (g : Nat → Nat → Bool) {k : Nat} (hk : k < H * W) : (mkl W H g).take (k + 1) = (mkl W H g).take k ++ [g (k % W) (k / W)] := by
  have h1 : k < (mkl W H g).length := by rw [mkl_len]; exact hk
  rw [take_next h1]
  congr 2
  unfold mkl
  rw [List.getD_eq_getElem?_getD, List.getElem?_map, List.getElem?_range hk]
  rfl
end Go.Proofs.Ythgkmaccbcpaeaa
