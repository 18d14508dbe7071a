/- Quadtrees: the implementation's small functions. -/
import Derived.Test.YtlcofjicpbbdhaaTreeZ
namespace Go.Proofs.Ytlcofjicpbbdhaa
open Go Go.RowKit
theorem join_any (k : Int) (hk : inB k 0 3 = true) (b c : Bool) (w : World) : Calls Try.prog 128 #[.int .i64 k, .bool b, .bool c] w fun e w' => e = .returned (.bool (joinB k.toNat b c)) ∧ w.Ext w' := by
  obtain ⟨h0, h1⟩ := inB_true.1 hk
  clear hk
  rcases (show k = 0 ∨ k = 1 ∨ k = 2 ∨ k = 3 by omega) with rfl | rfl | rfl | rfl <;> cases b <;> cases c
  all_goals
    clear h0 h1
    go_enter Try.func128, Try.ntmps128
    go_wp2
    go_ret
    exact ⟨rfl, .refl _⟩
set_option maxHeartbeats 800000 in
theorem comb1_any (p2 p3 p4 b ab b' ab' m : Nat) (k : Int) (l l' : List Bool) (x y : Nat) (w : World) (hk : inB k 0 3 = true) (hm : m ≤ 64) (h2 : w.cell? ⟨p2, 0, none⟩ = some (.int .i64 k)) (h3 : w.cell? ⟨p3, 0, none⟩ = some (.pointer (some ⟨b, 0, none⟩))) (h4 : w.cell? ⟨p4, 0, none⟩ = some (.pointer (some ⟨b', 0, none⟩)))
    (hI : Img w b ab m m l) (hI' : Img w b' ab' m m l') (hx : x < m) (hy : y < m) :
    Calls Try.prog 175 #[.int .i64 x, .int .i64 y, .pointer (some ⟨p2, 0, none⟩), .pointer (some ⟨p3, 0, none⟩), .pointer (some ⟨p4, 0, none⟩)] w fun e w' => e = .returned (.bool (joinB k.toNat (l.getD (y * m + x) false) (l'.getD (y * m + x) false))) ∧ w.Ext w' := by
  have HG : Hid (∀ w', w.Ext w' → Calls Try.prog 97 #[.pointer (some ⟨b, 0, none⟩), .int .i64 x, .int .i64 y] w' fun e w'' => e = .returned (.bool (l.getD (y * m + x) false)) ∧ w'.Ext w'') := fun w' hx2 => get_any b ab m m l x y w' hm hm (hI.ext hx2) _ (pxl_at _ _ _ _ _ hx hy)
  have HG' : Hid (∀ w', w.Ext w' → Calls Try.prog 97 #[.pointer (some ⟨b', 0, none⟩), .int .i64 x, .int .i64 y] w' fun e w'' => e = .returned (.bool (l'.getD (y * m + x) false)) ∧ w'.Ext w'') := fun w' hx2 => get_any b' ab' m m l' x y w' hm hm (hI'.ext hx2) _ (pxl_at _ _ _ _ _ hx hy)
  have HJ : Hid (∀ c d w', Calls Try.prog 128 #[.int .i64 k, .bool c, .bool d] w' fun e w'' => e = .returned (.bool (joinB k.toNat c d)) ∧ w'.Ext w'') := fun c d w' => join_any k hk c d w'
  clear hI hI' hk
  generalize l.getD (y * m + x) false = c1 at *
  generalize l'.getD (y * m + x) false = c2 at *
  go_enter Try.func175, Try.ntmps175
  go_wp2_with fail
  refine wp_region_over_lit (by kernel_rfl) (by kernel_rfl) ?_; (repeat (go_big_quiet_step ((first | (go_at_call_of 97 (Value.pointer (some ⟨b, 0, none⟩)); exact Calls.over_of (HG.out _ ⟨_, rfl⟩)) | (go_at_call_of 97 (Value.pointer (some ⟨b', 0, none⟩)); exact Calls.over_of (HG'.out _ ⟨_, rfl⟩)) | (go_at_call 128; exact Calls.over_of (HJ.out _ _ _)))))); refine wpQuiet_nil ?_; rintro _ ⟨x1, rfl⟩
  go_wp2
  go_ret
  refine ⟨rfl, ?_⟩
  repeat (first | exact World.Ext.refl _ | exact ⟨_, rfl⟩ | assumption | refine World.Ext.over ?_ _ | refine World.Ext.drewN ?_ _ | refine World.Ext.drew ?_ | refine World.Ext.alloc ?_ _ | refine World.Ext.setCell ?_ (by simp) _)
def lF (m : Nat) (l : List Bool) (i j : Nat) : Bool := l.getD (j * m + i) false
set_option maxHeartbeats 800000 in
theorem turned0_any (p b ab m : Nat) (l : List Bool) (x y : Nat) (w : World) (hm : m ≤ 64) (hp : w.cell? ⟨p, 0, none⟩ = some (.pointer (some ⟨b, 0, none⟩))) (hI : Img w b ab m m l) (hx : x < m) (hy : y < m) :
    Calls Try.prog 226 #[.int .i64 x, .int .i64 y, .pointer (some ⟨p, 0, none⟩)] w fun e w' => e = .returned (.bool (trnF 0 m (lF m l) x y)) ∧ w.Ext w' := by
  have c0 := hI.c0
  have c1 := hI.c1
  have HG : Hid (∀ w', w.Ext w' → Calls Try.prog 97 #[.pointer (some ⟨b, 0, none⟩), .int .i64 ((m : Int) - 1 - x), .int .i64 (y : Int)] w' fun e w'' => e = .returned (.bool (trnF 0 m (lF m l) x y)) ∧ w'.Ext w'') := fun w' hx2 => by
    rw [show ((m : Int) - 1 - x) = ((m - 1 - x : Nat) : Int) by omega, show (y : Int) = ((y : Nat) : Int) by omega]
    exact get_any b ab m m l _ _ w' hm hm (hI.ext hx2) _ (pxl_at _ _ _ _ _ (by omega) (by omega))
  have wr1 : IntKind.i64.wrap ((m : Int) - 1) = (m : Int) - 1 := IntWalk.i64_in _ (by omega)
  have wr2 : IntKind.i64.wrap ((m : Int) - 1 - x) = (m : Int) - 1 - x := IntWalk.i64_in _ (by omega)
  have wr3 : IntKind.i64.wrap ((m : Int) - 1 - y) = (m : Int) - 1 - y := IntWalk.i64_in _ (by omega)
  clear hI
  generalize trnF 0 m (lF m l) x y = t at *
  go_enter Try.func226, Try.ntmps226
  go_wp2_with fail
  refine wp_region_over_lit (by kernel_rfl) (by kernel_rfl) ?_; (repeat (go_big_quiet_step ((go_at_call 97; exact Calls.over_of (HG.out _ ⟨_, rfl⟩))))); refine wpQuiet_nil ?_; rintro _ ⟨x1, rfl⟩
  go_wp2
  go_ret
  refine ⟨rfl, ?_⟩
  repeat (first | exact World.Ext.refl _ | exact ⟨_, rfl⟩ | assumption | refine World.Ext.over ?_ _ | refine World.Ext.drewN ?_ _ | refine World.Ext.drew ?_ | refine World.Ext.alloc ?_ _ | refine World.Ext.setCell ?_ (by simp) _)
theorem enters_turned0 : Enters 226 := enters_of Try.func226 (by kernel_rfl) (by kernel_rfl)
set_option maxHeartbeats 800000 in
theorem turned1_any (p b ab m : Nat) (l : List Bool) (x y : Nat) (w : World) (hm : m ≤ 64) (hp : w.cell? ⟨p, 0, none⟩ = some (.pointer (some ⟨b, 0, none⟩))) (hI : Img w b ab m m l) (hx : x < m) (hy : y < m) :
    Calls Try.prog 227 #[.int .i64 x, .int .i64 y, .pointer (some ⟨p, 0, none⟩)] w fun e w' => e = .returned (.bool (trnF 1 m (lF m l) x y)) ∧ w.Ext w' := by
  have c0 := hI.c0
  have c1 := hI.c1
  have HG : Hid (∀ w', w.Ext w' → Calls Try.prog 97 #[.pointer (some ⟨b, 0, none⟩), .int .i64 (x : Int), .int .i64 ((m : Int) - 1 - y)] w' fun e w'' => e = .returned (.bool (trnF 1 m (lF m l) x y)) ∧ w'.Ext w'') := fun w' hx2 => by
    rw [show (x : Int) = ((x : Nat) : Int) by omega, show ((m : Int) - 1 - y) = ((m - 1 - y : Nat) : Int) by omega]
    exact get_any b ab m m l _ _ w' hm hm (hI.ext hx2) _ (pxl_at _ _ _ _ _ (by omega) (by omega))
  have wr1 : IntKind.i64.wrap ((m : Int) - 1) = (m : Int) - 1 := IntWalk.i64_in _ (by omega)
  have wr2 : IntKind.i64.wrap ((m : Int) - 1 - x) = (m : Int) - 1 - x := IntWalk.i64_in _ (by omega)
  have wr3 : IntKind.i64.wrap ((m : Int) - 1 - y) = (m : Int) - 1 - y := IntWalk.i64_in _ (by omega)
  clear hI
  generalize trnF 1 m (lF m l) x y = t at *
  go_enter Try.func227, Try.ntmps227
  go_wp2_with fail
  refine wp_region_over_lit (by kernel_rfl) (by kernel_rfl) ?_; (repeat (go_big_quiet_step ((go_at_call 97; exact Calls.over_of (HG.out _ ⟨_, rfl⟩))))); refine wpQuiet_nil ?_; rintro _ ⟨x1, rfl⟩
  go_wp2
  go_ret
  refine ⟨rfl, ?_⟩
  repeat (first | exact World.Ext.refl _ | exact ⟨_, rfl⟩ | assumption | refine World.Ext.over ?_ _ | refine World.Ext.drewN ?_ _ | refine World.Ext.drew ?_ | refine World.Ext.alloc ?_ _ | refine World.Ext.setCell ?_ (by simp) _)
theorem enters_turned1 : Enters 227 := enters_of Try.func227 (by kernel_rfl) (by kernel_rfl)
set_option maxHeartbeats 800000 in
theorem turned2_any (p b ab m : Nat) (l : List Bool) (x y : Nat) (w : World) (hm : m ≤ 64) (hp : w.cell? ⟨p, 0, none⟩ = some (.pointer (some ⟨b, 0, none⟩))) (hI : Img w b ab m m l) (hx : x < m) (hy : y < m) :
    Calls Try.prog 228 #[.int .i64 x, .int .i64 y, .pointer (some ⟨p, 0, none⟩)] w fun e w' => e = .returned (.bool (trnF 2 m (lF m l) x y)) ∧ w.Ext w' := by
  have c0 := hI.c0
  have c1 := hI.c1
  have HG : Hid (∀ w', w.Ext w' → Calls Try.prog 97 #[.pointer (some ⟨b, 0, none⟩), .int .i64 (y : Int), .int .i64 (x : Int)] w' fun e w'' => e = .returned (.bool (trnF 2 m (lF m l) x y)) ∧ w'.Ext w'') := fun w' hx2 => by
    rw [show (y : Int) = ((y : Nat) : Int) by omega, show (x : Int) = ((x : Nat) : Int) by omega]
    exact get_any b ab m m l _ _ w' hm hm (hI.ext hx2) _ (pxl_at _ _ _ _ _ (by omega) (by omega))
  have wr1 : IntKind.i64.wrap ((m : Int) - 1) = (m : Int) - 1 := IntWalk.i64_in _ (by omega)
  have wr2 : IntKind.i64.wrap ((m : Int) - 1 - x) = (m : Int) - 1 - x := IntWalk.i64_in _ (by omega)
  have wr3 : IntKind.i64.wrap ((m : Int) - 1 - y) = (m : Int) - 1 - y := IntWalk.i64_in _ (by omega)
  clear hI
  generalize trnF 2 m (lF m l) x y = t at *
  go_enter Try.func228, Try.ntmps228
  go_wp2_with fail
  refine (HG.out _ (.refl _)).mono ?_
  rintro e w1 ⟨rfl, x1, rfl⟩
  go_wp2
  go_ret
  refine ⟨rfl, ?_⟩
  repeat (first | exact World.Ext.refl _ | exact ⟨_, rfl⟩ | assumption | refine World.Ext.over ?_ _ | refine World.Ext.drewN ?_ _ | refine World.Ext.drew ?_ | refine World.Ext.alloc ?_ _ | refine World.Ext.setCell ?_ (by simp) _)
theorem enters_turned2 : Enters 228 := enters_of Try.func228 (by kernel_rfl) (by kernel_rfl)
set_option maxHeartbeats 800000 in
theorem turned3_any (p b ab m : Nat) (l : List Bool) (x y : Nat) (w : World) (hm : m ≤ 64) (hp : w.cell? ⟨p, 0, none⟩ = some (.pointer (some ⟨b, 0, none⟩))) (hI : Img w b ab m m l) (hx : x < m) (hy : y < m) :
    Calls Try.prog 229 #[.int .i64 x, .int .i64 y, .pointer (some ⟨p, 0, none⟩)] w fun e w' => e = .returned (.bool (trnF 3 m (lF m l) x y)) ∧ w.Ext w' := by
  have c0 := hI.c0
  have c1 := hI.c1
  have HG : Hid (∀ w', w.Ext w' → Calls Try.prog 97 #[.pointer (some ⟨b, 0, none⟩), .int .i64 (y : Int), .int .i64 ((m : Int) - 1 - x)] w' fun e w'' => e = .returned (.bool (trnF 3 m (lF m l) x y)) ∧ w'.Ext w'') := fun w' hx2 => by
    rw [show (y : Int) = ((y : Nat) : Int) by omega, show ((m : Int) - 1 - x) = ((m - 1 - x : Nat) : Int) by omega]
    exact get_any b ab m m l _ _ w' hm hm (hI.ext hx2) _ (pxl_at _ _ _ _ _ (by omega) (by omega))
  have wr1 : IntKind.i64.wrap ((m : Int) - 1) = (m : Int) - 1 := IntWalk.i64_in _ (by omega)
  have wr2 : IntKind.i64.wrap ((m : Int) - 1 - x) = (m : Int) - 1 - x := IntWalk.i64_in _ (by omega)
  have wr3 : IntKind.i64.wrap ((m : Int) - 1 - y) = (m : Int) - 1 - y := IntWalk.i64_in _ (by omega)
  clear hI
  generalize trnF 3 m (lF m l) x y = t at *
  go_enter Try.func229, Try.ntmps229
  go_wp2_with fail
  refine wp_region_over_lit (by kernel_rfl) (by kernel_rfl) ?_; (repeat (go_big_quiet_step ((go_at_call 97; exact Calls.over_of (HG.out _ ⟨_, rfl⟩))))); refine wpQuiet_nil ?_; rintro _ ⟨x1, rfl⟩
  go_wp2
  go_ret
  refine ⟨rfl, ?_⟩
  repeat (first | exact World.Ext.refl _ | exact ⟨_, rfl⟩ | assumption | refine World.Ext.over ?_ _ | refine World.Ext.drewN ?_ _ | refine World.Ext.drew ?_ | refine World.Ext.alloc ?_ _ | refine World.Ext.setCell ?_ (by simp) _)
theorem enters_turned3 : Enters 229 := enters_of Try.func229 (by kernel_rfl) (by kernel_rfl)
def TurnedRet (w : World) (k : Int) (m : Nat) (l : List Bool) (e : Ending) (w' : World) : Prop :=
  if inB k 0 3 then ImgRet w m m (mkl m m (trnF k.toNat m (lF m l))) e w' else e = .returned (.pointer none) ∧ w.Ext w'
theorem TurnedRet.yes {w w' : World} {k : Int} {m : Nat} {l : List Bool} {e : Ending} (hk : inB k 0 3 = true) (h : ImgRet w m m (mkl m m (trnF k.toNat m (lF m l))) e w') : TurnedRet w k m l e w' := by unfold TurnedRet; rw [if_pos hk]; exact h
theorem TurnedRet.no {w w' : World} {k : Int} {m : Nat} {l : List Bool} {e : Ending} (hk : inB k 0 3 = false) (h : e = .returned (.pointer none) ∧ w.Ext w') : TurnedRet w k m l e w' := by unfold TurnedRet; rw [if_neg (by rw [hk]; decide)]; exact h
set_option maxHeartbeats 800000 in
theorem turnedK0_any (b ab m : Nat) (l : List Bool) (w : World) (hm : m ≤ 64) (hI : Img w b ab m m l) :
    Calls Try.prog 172 #[.pointer (some ⟨b, 0, none⟩), .int .i64 0] w (ImgRet w m m (mkl m m (trnF 0 m (lF m l)))) := by
  obtain ⟨W0, hW0⟩ : ∃ W0, W0 = w.alloc (.cells #[.pointer (some ⟨b, 0, none⟩)] 109) := ⟨_, rfl⟩
  have hx0 : w.Ext W0 := by rw [hW0]; repeat (first | exact World.Ext.refl _ | exact ⟨_, rfl⟩ | assumption | refine World.Ext.over ?_ _ | refine World.Ext.drewN ?_ _ | refine World.Ext.drew ?_ | refine World.Ext.alloc ?_ _ | refine World.Ext.setCell ?_ (by simp) _)
  have cp : W0.cell? ⟨w.heap.size, 0, none⟩ = some (.pointer (some ⟨b, 0, none⟩)) := by rw [hW0]; simp [go_sem]
  have c0 := (hI.ext hx0).c0
  have c1 := (hI.ext hx0).c1
  have HMD : Hid (∀ w', W0.Ext w' → Calls Try.prog 111 #[.int .i64 m, .int .i64 m, .func (.func 226) #[] #[.pointer (some ⟨w.heap.size, 0, none⟩)]] w' (ImgRet w' m m (mkl m m (trnF 0 m (lF m l))))) := fun w' hx =>
    made_any m m _ _ (trnF 0 m (lF m l)) w' hm hm enters_turned0 fun w'' hx2 x y h1 h2 => turned0_any w.heap.size b ab m l x y w'' hm ((hx.trans hx2).cell cp) (hI.ext (hx0.trans (hx.trans hx2))) h1 h2
  have HX0 := Lib.hid hx0
  clear hI hx0
  generalize mkl m m (trnF 0 m (lF m l)) = L at *
  go_enter Try.func172, Try.ntmps172
  go_wp2_with fail
  rw [← hW0]
  clear hW0
  refine wp_region_over_tail 9 (by kernel_rfl) (by kernel_rfl) ?_; simp only [List.take_succ_cons, List.take_zero, List.drop_succ_cons, List.drop_zero]; (repeat (go_big_quiet_step (fail))); refine wpQuiet_nil ?_; rintro _ ⟨x1, rfl⟩
  have HC := Lib.hid (HMD.out (W0.over x1) ⟨x1, rfl⟩)
  have HX3 : Hid (w.Ext (W0.over x1)) := HX0.out.trans ⟨x1, rfl⟩
  generalize W0.over x1 = w3 at *
  clear c0 c1 cp HMD HX0
  go_wp2_with fail
  refine HC.out.mono ?_
  rintro e w4 ⟨b4, ab4, rfl, hx4, hi4, hl4, hl5⟩
  have HR : Hid (ImgRet w m m L (.returned (.pointer (some ⟨b4, 0, none⟩))) w4) := ⟨b4, ab4, rfl, HX3.out.trans hx4, hi4, Nat.le_trans HX3.out.size hl4, Nat.le_trans HX3.out.size hl5⟩
  clear hx4 hi4 hl4 hl5
  go_wp2
  go_ret
  exact HR.out
set_option maxHeartbeats 800000 in
theorem turnedK1_any (b ab m : Nat) (l : List Bool) (w : World) (hm : m ≤ 64) (hI : Img w b ab m m l) :
    Calls Try.prog 172 #[.pointer (some ⟨b, 0, none⟩), .int .i64 1] w (ImgRet w m m (mkl m m (trnF 1 m (lF m l)))) := by
  obtain ⟨W0, hW0⟩ : ∃ W0, W0 = w.alloc (.cells #[.pointer (some ⟨b, 0, none⟩)] 109) := ⟨_, rfl⟩
  have hx0 : w.Ext W0 := by rw [hW0]; repeat (first | exact World.Ext.refl _ | exact ⟨_, rfl⟩ | assumption | refine World.Ext.over ?_ _ | refine World.Ext.drewN ?_ _ | refine World.Ext.drew ?_ | refine World.Ext.alloc ?_ _ | refine World.Ext.setCell ?_ (by simp) _)
  have cp : W0.cell? ⟨w.heap.size, 0, none⟩ = some (.pointer (some ⟨b, 0, none⟩)) := by rw [hW0]; simp [go_sem]
  have c0 := (hI.ext hx0).c0
  have c1 := (hI.ext hx0).c1
  have HMD : Hid (∀ w', W0.Ext w' → Calls Try.prog 111 #[.int .i64 m, .int .i64 m, .func (.func 227) #[] #[.pointer (some ⟨w.heap.size, 0, none⟩)]] w' (ImgRet w' m m (mkl m m (trnF 1 m (lF m l))))) := fun w' hx =>
    made_any m m _ _ (trnF 1 m (lF m l)) w' hm hm enters_turned1 fun w'' hx2 x y h1 h2 => turned1_any w.heap.size b ab m l x y w'' hm ((hx.trans hx2).cell cp) (hI.ext (hx0.trans (hx.trans hx2))) h1 h2
  have HX0 := Lib.hid hx0
  clear hI hx0
  generalize mkl m m (trnF 1 m (lF m l)) = L at *
  go_enter Try.func172, Try.ntmps172
  go_wp2_with fail
  rw [← hW0]
  clear hW0
  refine wp_region_over_tail 9 (by kernel_rfl) (by kernel_rfl) ?_; simp only [List.take_succ_cons, List.take_zero, List.drop_succ_cons, List.drop_zero]; (repeat (go_big_quiet_step (fail))); refine wpQuiet_nil ?_; rintro _ ⟨x1, rfl⟩
  have HC := Lib.hid (HMD.out (W0.over x1) ⟨x1, rfl⟩)
  have HX3 : Hid (w.Ext (W0.over x1)) := HX0.out.trans ⟨x1, rfl⟩
  generalize W0.over x1 = w3 at *
  clear c0 c1 cp HMD HX0
  go_wp2_with fail
  refine HC.out.mono ?_
  rintro e w4 ⟨b4, ab4, rfl, hx4, hi4, hl4, hl5⟩
  have HR : Hid (ImgRet w m m L (.returned (.pointer (some ⟨b4, 0, none⟩))) w4) := ⟨b4, ab4, rfl, HX3.out.trans hx4, hi4, Nat.le_trans HX3.out.size hl4, Nat.le_trans HX3.out.size hl5⟩
  clear hx4 hi4 hl4 hl5
  go_wp2
  go_ret
  exact HR.out
set_option maxHeartbeats 800000 in
theorem turnedK2_any (b ab m : Nat) (l : List Bool) (w : World) (hm : m ≤ 64) (hI : Img w b ab m m l) :
    Calls Try.prog 172 #[.pointer (some ⟨b, 0, none⟩), .int .i64 2] w (ImgRet w m m (mkl m m (trnF 2 m (lF m l)))) := by
  obtain ⟨W0, hW0⟩ : ∃ W0, W0 = w.alloc (.cells #[.pointer (some ⟨b, 0, none⟩)] 109) := ⟨_, rfl⟩
  have hx0 : w.Ext W0 := by rw [hW0]; repeat (first | exact World.Ext.refl _ | exact ⟨_, rfl⟩ | assumption | refine World.Ext.over ?_ _ | refine World.Ext.drewN ?_ _ | refine World.Ext.drew ?_ | refine World.Ext.alloc ?_ _ | refine World.Ext.setCell ?_ (by simp) _)
  have cp : W0.cell? ⟨w.heap.size, 0, none⟩ = some (.pointer (some ⟨b, 0, none⟩)) := by rw [hW0]; simp [go_sem]
  have c0 := (hI.ext hx0).c0
  have c1 := (hI.ext hx0).c1
  have HMD : Hid (∀ w', W0.Ext w' → Calls Try.prog 111 #[.int .i64 m, .int .i64 m, .func (.func 228) #[] #[.pointer (some ⟨w.heap.size, 0, none⟩)]] w' (ImgRet w' m m (mkl m m (trnF 2 m (lF m l))))) := fun w' hx =>
    made_any m m _ _ (trnF 2 m (lF m l)) w' hm hm enters_turned2 fun w'' hx2 x y h1 h2 => turned2_any w.heap.size b ab m l x y w'' hm ((hx.trans hx2).cell cp) (hI.ext (hx0.trans (hx.trans hx2))) h1 h2
  have HX0 := Lib.hid hx0
  clear hI hx0
  generalize mkl m m (trnF 2 m (lF m l)) = L at *
  go_enter Try.func172, Try.ntmps172
  go_wp2_with fail
  rw [← hW0]
  clear hW0
  refine wp_region_over_tail 9 (by kernel_rfl) (by kernel_rfl) ?_; simp only [List.take_succ_cons, List.take_zero, List.drop_succ_cons, List.drop_zero]; (repeat (go_big_quiet_step (fail))); refine wpQuiet_nil ?_; rintro _ ⟨x1, rfl⟩
  have HC := Lib.hid (HMD.out (W0.over x1) ⟨x1, rfl⟩)
  have HX3 : Hid (w.Ext (W0.over x1)) := HX0.out.trans ⟨x1, rfl⟩
  generalize W0.over x1 = w3 at *
  clear c0 c1 cp HMD HX0
  go_wp2_with fail
  refine HC.out.mono ?_
  rintro e w4 ⟨b4, ab4, rfl, hx4, hi4, hl4, hl5⟩
  have HR : Hid (ImgRet w m m L (.returned (.pointer (some ⟨b4, 0, none⟩))) w4) := ⟨b4, ab4, rfl, HX3.out.trans hx4, hi4, Nat.le_trans HX3.out.size hl4, Nat.le_trans HX3.out.size hl5⟩
  clear hx4 hi4 hl4 hl5
  go_wp2
  go_ret
  exact HR.out
set_option maxHeartbeats 800000 in
theorem turnedK3_any (b ab m : Nat) (l : List Bool) (w : World) (hm : m ≤ 64) (hI : Img w b ab m m l) :
    Calls Try.prog 172 #[.pointer (some ⟨b, 0, none⟩), .int .i64 3] w (ImgRet w m m (mkl m m (trnF 3 m (lF m l)))) := by
  obtain ⟨W0, hW0⟩ : ∃ W0, W0 = w.alloc (.cells #[.pointer (some ⟨b, 0, none⟩)] 109) := ⟨_, rfl⟩
  have hx0 : w.Ext W0 := by rw [hW0]; repeat (first | exact World.Ext.refl _ | exact ⟨_, rfl⟩ | assumption | refine World.Ext.over ?_ _ | refine World.Ext.drewN ?_ _ | refine World.Ext.drew ?_ | refine World.Ext.alloc ?_ _ | refine World.Ext.setCell ?_ (by simp) _)
  have cp : W0.cell? ⟨w.heap.size, 0, none⟩ = some (.pointer (some ⟨b, 0, none⟩)) := by rw [hW0]; simp [go_sem]
  have c0 := (hI.ext hx0).c0
  have c1 := (hI.ext hx0).c1
  have HMD : Hid (∀ w', W0.Ext w' → Calls Try.prog 111 #[.int .i64 m, .int .i64 m, .func (.func 229) #[] #[.pointer (some ⟨w.heap.size, 0, none⟩)]] w' (ImgRet w' m m (mkl m m (trnF 3 m (lF m l))))) := fun w' hx =>
    made_any m m _ _ (trnF 3 m (lF m l)) w' hm hm enters_turned3 fun w'' hx2 x y h1 h2 => turned3_any w.heap.size b ab m l x y w'' hm ((hx.trans hx2).cell cp) (hI.ext (hx0.trans (hx.trans hx2))) h1 h2
  have HX0 := Lib.hid hx0
  clear hI hx0
  generalize mkl m m (trnF 3 m (lF m l)) = L at *
  go_enter Try.func172, Try.ntmps172
  go_wp2_with fail
  rw [← hW0]
  clear hW0
  refine wp_region_over_tail 9 (by kernel_rfl) (by kernel_rfl) ?_; simp only [List.take_succ_cons, List.take_zero, List.drop_succ_cons, List.drop_zero]; (repeat (go_big_quiet_step (fail))); refine wpQuiet_nil ?_; rintro _ ⟨x1, rfl⟩
  have HC := Lib.hid (HMD.out (W0.over x1) ⟨x1, rfl⟩)
  have HX3 : Hid (w.Ext (W0.over x1)) := HX0.out.trans ⟨x1, rfl⟩
  generalize W0.over x1 = w3 at *
  clear c0 c1 cp HMD HX0
  go_wp2_with fail
  refine HC.out.mono ?_
  rintro e w4 ⟨b4, ab4, rfl, hx4, hi4, hl4, hl5⟩
  have HR : Hid (ImgRet w m m L (.returned (.pointer (some ⟨b4, 0, none⟩))) w4) := ⟨b4, ab4, rfl, HX3.out.trans hx4, hi4, Nat.le_trans HX3.out.size hl4, Nat.le_trans HX3.out.size hl5⟩
  clear hx4 hi4 hl4 hl5
  go_wp2
  go_ret
  exact HR.out
set_option maxHeartbeats 800000 in
theorem turned_any (b ab m : Nat) (l : List Bool) (k : Int) (w : World) (hm : m ≤ 64) (hI : Img w b ab m m l) :
    Calls Try.prog 172 #[.pointer (some ⟨b, 0, none⟩), .int .i64 k] w (TurnedRet w k m l) := by
  cases hk : inB k 0 3
  · have h0 : ¬ k = 0 ∧ ¬ k = 1 ∧ ¬ k = 2 ∧ ¬ k = 3 := by
      refine ⟨?_, ?_, ?_, ?_⟩ <;> (rintro rfl; exact absurd hk (by decide))
    obtain ⟨h0, h1, h2, h3⟩ := h0
    have HR : Hid (∀ w', w.Ext w' → TurnedRet w k m l (.returned (.pointer none)) w') := fun w' hx => TurnedRet.no hk ⟨rfl, hx⟩
    clear hI hk
    go_enter Try.func172, Try.ntmps172
    go_wp2
    go_ret
    refine HR.out _ ?_
    repeat (first | exact World.Ext.refl _ | exact ⟨_, rfl⟩ | assumption | refine World.Ext.over ?_ _ | refine World.Ext.drewN ?_ _ | refine World.Ext.drew ?_ | refine World.Ext.alloc ?_ _ | refine World.Ext.setCell ?_ (by simp) _)
  · obtain ⟨h0, h1⟩ := inB_true.1 hk
    refine Calls.mono ?_ fun e w' h => TurnedRet.yes hk h
    clear hk
    rcases (show k = 0 ∨ k = 1 ∨ k = 2 ∨ k = 3 by omega) with rfl | rfl | rfl | rfl
    · exact turnedK0_any b ab m l w hm hI
    · exact turnedK1_any b ab m l w hm hI
    · exact turnedK2_any b ab m l w hm hI
    · exact turnedK3_any b ab m l w hm hI
end Go.Proofs.Ytlcofjicpbbdhaa
