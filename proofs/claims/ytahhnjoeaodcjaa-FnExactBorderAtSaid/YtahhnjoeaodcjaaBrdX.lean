/- The reference's corners of a border that lies in a list. -/
import Derived.Test.YtahhnjoeaodcjaaBrdL
namespace Go.Proofs.Ytahhnjoeaodcjaa
open Go Go.RowKit
set_option maxRecDepth 5000 in
set_option maxHeartbeats 6400000 in
theorem l04Above_at (pb po g cap : Nat) (f : Int → Int → Bool) (e : Edg) (m : Nat → Nat → Bool) (w : World) (hbx : InBx f 16 16) (hok : EOk f e)
    (c0 : w.cell? ⟨pb, po, none⟩ = some (.int .i64 e.x)) (c1 : w.cell? ⟨pb, po + 1, none⟩ = some (.int .i64 e.y)) (c2 : w.cell? ⟨pb, po + 2, none⟩ = some (.string (wrd f e))) (hg : BlkOf Value.bool w g 4 (mkl 17 17 m)) (hne : pb ≠ g) :
    Calls Try.prog 132 #[.pointer (some ⟨pb, po, none⟩), .slice (some ⟨g, 0, none⟩) 289 cap] w fun e' w' => e' = .returned (.tuple #[]) ∧ MdSt w g (fun x y => m x y || inOrb f e ⟨(x : Int), (y : Int), 0⟩) w' := by
  have hper := per_of hbx (Nat.le_refl _) (Nat.le_refl _) hok
  have HBX : Hid (∀ i, 0 ≤ (itr f i e).x ∧ (itr f i e).x ≤ 16 ∧ 0 ≤ (itr f i e).y ∧ (itr f i e).y ≤ 16) := fun i => hbx.edge (itr_ok hok i)
  have HK4 : Hid (∀ i, (itr f i e).k < 4) := fun i => (itr_ok hok i).1
  have HSTEP := Lib.hid (fun i => itr_step (f := f) e i)
  have HLET : Hid (∀ i, i < per f e → ∃ hs : i < (wrd f e).size, (((wrd f e)[i]'hs).toNat : Nat) = letN (itr f i e).k) := fun i hi => wrd_at hi
  have HSZ : Hid ((wrd f e).size = per f e) := wrd_size f e
  have HON0 : Hid (∀ x y, (m x y || onTo f e 0 x y) = m x y) := fun x y => by simp [onTo]
  have HON : Hid (∀ i x y, (m x y || onTo f e (i + 1) x y) = ((m x y || onTo f e i x y) || decide ((itr f i e).x = x ∧ (itr f i e).y = y ∧ (itr f i e).k = 0))) := fun i x y => by
    rw [onTo_succ, Bool.or_assoc]
    congr 2
    rw [decide_eq_decide]
    constructor
    · intro h; rw [h]; exact ⟨rfl, rfl, rfl⟩
    · intro h; exact Edg.eq_of h.1 h.2.1 h.2.2
  have HONA : Hid (∀ x y, (m x y || onTo f e (per f e) x y) = (m x y || inOrb f e ⟨(x : Int), (y : Int), 0⟩)) := fun x y => rfl
  have hn : per f e ≤ 1200 := hper.2
  obtain ⟨M9, hM9⟩ : ∃ M9 : Nat → Nat → Bool, M9 = fun (x y : Nat) => (m x y || inOrb f e ⟨(x : Int), (y : Int), 0⟩) := ⟨_, rfl⟩
  rw [← hM9]
  have HM9 : Hid (∀ x y, (m x y || onTo f e (per f e) x y) = M9 x y) := fun x y => by rw [hM9]; exact HONA.out x y
  have HX0 : Hid ((itr f 0 e).x = e.x ∧ (itr f 0 e).y = e.y) := ⟨rfl, rfl⟩
  clear hper HONA hM9 hbx hok
  generalize per f e = n at *
  generalize wrd f e = word at *
  generalize hX : (fun i => (itr f i e).x) = X at *
  generalize hY : (fun i => (itr f i e).y) = Y at *
  generalize hKK : (fun i => (itr f i e).k) = K at *
  generalize hMM : (fun i x y => (m x y || onTo f e i x y)) = MM at *
  have eX : ∀ i, (itr f i e).x = X i := fun i => congrFun hX i
  have eY : ∀ i, (itr f i e).y = Y i := fun i => congrFun hY i
  have eK : ∀ i, (itr f i e).k = K i := fun i => congrFun hKK i
  have eM : ∀ i x y, (m x y || onTo f e i x y) = MM i x y := fun i x y => congrFun (congrFun (congrFun hMM i) x) y
  simp only [eX, eY, eK, eM] at HBX HK4 HSTEP HLET HON0 HON HM9 HX0
  clear hX hY hKK hMM eX eY eK eM
  generalize e.x = ex at *
  generalize e.y = ey at *
  obtain ⟨W0, hW0⟩ : ∃ W0, W0 = w.alloc (.cells #[.int .i64 ex, .int .i64 ey] 67) := ⟨_, rfl⟩
  have hx0 : w.Ext W0 := by rw [hW0]; repeat (first | exact World.Ext.refl _ | exact ⟨_, rfl⟩ | assumption | refine World.Ext.over ?_ _ | refine World.Ext.drewN ?_ _ | refine World.Ext.drew ?_ | refine World.Ext.alloc ?_ _ | refine World.Ext.setCell ?_ (by simp) _)
  have hlg := hg.lt
  have HST : Hid (MdSt w g (MM 0) W0 ∧ Two W0 w.heap.size 67 (.int .i64 (X 0)) (.int .i64 (Y 0))) := by
    refine ⟨⟨hx0.wrote _, ?_⟩, ?_⟩
    · rw [show MM 0 = m from by funext x y; exact HON0.out x y]
      exact hg.ext hx0
    · rw [HX0.out.1, HX0.out.2, hW0]
      exact Two.new _ _ _ _ _ rfl
  have HCB : Hid (∀ wr, Wrote (fun k => k = g) w wr → wr.cell? ⟨pb, po + 2, none⟩ = some (.string word)) := fun wr hx => hx.cell c2 hne
  have HWAY := Lib.hid (fun i w' (hi : i < n) => by have h := l04Way_any (letN (K i)) w'; rw [wayI_let (HK4.out i)] at h; exact h)
  have lb := World.block_lt_of_cell? _ _ c0
  go_enter Try.func132, Try.ntmps132
  go_upto_region 1 with fail
  rw [← hW0]
  clear hW0 c0 c1 c2 lb
  generalize hq : w.heap.size = q at *
  have HQ := Lib.hid hq
  clear hq
  go_wp2
  go_loopw [5, 6] (fun z _ wr => ∃ i : Nat, i ≤ n ∧ z = .int .i64 i ∧ Hid (MdSt w g (MM i) wr ∧ Two wr q 67 (.int .i64 (X i)) (.int .i64 (Y i)))) (fun z _ _ => n - (intOf z).toNat)
  case atStart => exact ⟨0, Nat.zero_le _, rfl, HST⟩
  case round =>
    obtain ⟨i, hi, rfl, HS⟩ := hrel
    clear HST
    obtain ⟨wo, rfl⟩ : ∃ wo : World, wo = wr := ⟨_, rfl⟩
    have hi0 : (0 : Int) ≤ (i : Int) := by omega
    have c2 := HCB.out wo HS.out.1.1
    have lb := World.block_lt_of_cell? _ _ c2
    have hsz : word.size = n := HSZ.out
    have c2 : wo.cell? ⟨pb, po + 2, none⟩ = some (.string word) := c2
    by_cases hin : i < n
    · obtain ⟨hs, hlet⟩ := HLET.out i hin
      have hin' : (i : Int) < (word.size : Int) := by omega
      have hin2 : (i : Int) < (n : Int) := by omega
      have hk4 := HK4.out i
      obtain ⟨bx1, bx2, bx3, bx4⟩ := HBX.out i
      obtain ⟨bn1, bn2, bn3, bn4⟩ := HBX.out (i + 1)
      obtain ⟨hX1, hY1, -⟩ := HSTEP.out i
      have HX1 := Lib.hid hX1
      have HY1 := Lib.hid hY1
      have HONi := Lib.hid (HON.out i)
      have HCX := Lib.hid (fun w' => l04X_any (K i) w' hk4)
      have HCY := Lib.hid (fun w' => l04Y_any (K i) w' hk4)
      have hdx : -1 ≤ dX (K i) ∧ dX (K i) ≤ 1 := by unfold dX; split <;> (try split) <;> omega
      have hdy : -1 ≤ dY (K i) ∧ dY (K i) ≤ 1 := by unfold dY; split <;> (try split) <;> omega
      have hqg : g < q := hlg
      clear hX1 hY1
      go_wp2_with fail
      refine (HWAY.out i wo hin).mono ?_
      rintro e1 w1 ⟨rfl, hx1⟩
      have HS1 : Hid (MdSt w g (MM i) w1 ∧ Two w1 q 67 (.int .i64 (X i)) (.int .i64 (Y i))) := ⟨HS.out.1.ext hx1, HS.out.2.ext hx1⟩
      clear hx1 HS c2 lb hs hlet hsz
      have key : ∀ w3 : World, (MdSt w g (MM (i + 1)) w3 ∧ Two w3 q 67 (.int .i64 (X i)) (.int .i64 (Y i))) → True := fun _ _ => trivial
      clear key
      by_cases hk0 : K i = 0
      · obtain ⟨x, hx⟩ : ∃ x : Nat, X i = (x : Int) := ⟨(X i).toNat, by omega⟩
        obtain ⟨y, hy⟩ : ∃ y : Nat, Y i = (y : Int) := ⟨(Y i).toNat, by omega⟩
        have f0 : (((K i : Nat) : Int) == 0) = true := by rw [hk0]; rfl
        have hx17 : x < 17 := by omega
        have hy17 : y < 17 := by omega
        obtain ⟨t1, t2⟩ := HS1.out.1.cell hx17 hy17
        have lg := World.block_lt_of_cell? _ _ t1
        have d0 := HS1.out.2.cell0
        have d1 := HS1.out.2.cell1
        rw [hx] at d0
        rw [hy] at d1
        have ld := World.block_lt_of_cell? _ _ d0
        obtain ⟨w3, hw3⟩ : ∃ w3, w3 = w1.setCell ⟨g, y * 17 + x, none⟩ (.bool true) := ⟨_, rfl⟩
        have HS3 : Hid (MdSt w g (MM (i + 1)) w3 ∧ Two w3 q 67 (.int .i64 (X i)) (.int .i64 (Y i))) := by
          rw [hw3]
          refine ⟨HS1.out.1.set hx17 hy17 ?_ ?_, HS1.out.2.keep (Below.heap_setCell _ _ _ _ (by dsimp only; omega))⟩
          · rw [HONi.out, hx, hy, hk0]; simp
          · intro a b _ _ hab
            rw [HONi.out, decide_eq_false, Bool.or_false]
            rintro ⟨h1, h2, -⟩
            rw [hx] at h1
            rw [hy] at h2
            omega
        clear hk0 hx hy HS1
        go_upto_region 7 with fail
        rw [← hw3]
        clear hw3 t1 t2 lg d0 d1 ld f0
        have d0 := HS3.out.2.cell0
        have ld := HS3.out.2.lt
        refine wp_region_over_tail 6 (by kernel_rfl) (by kernel_rfl) ?_; simp only [List.take_succ_cons, List.take_zero, List.drop_succ_cons, List.drop_zero]; (repeat (go_big_quiet_step ((go_at_call 144; exact Calls.over_of (HCX.out _))))); refine wpQuiet_nil ?_; rintro _ ⟨x1, rfl⟩
        have HS4 : Hid (MdSt w g (MM (i + 1)) (w3.over x1) ∧ Two (w3.over x1) q 67 (.int .i64 (X i)) (.int .i64 (Y i))) := ⟨HS3.out.1.ext ⟨x1, rfl⟩, HS3.out.2.ext ⟨x1, rfl⟩⟩
        clear HS3 d0 ld
        generalize w3.over x1 = w4 at *
        have d0 := HS4.out.2.cell0
        have f0 := HS4.out.2.free 0
        have ld := HS4.out.2.lt
        obtain ⟨w5, hw5⟩ : ∃ w5, w5 = w4.setCell ⟨q, 0, none⟩ (.int .i64 (X i + dX (K i))) := ⟨_, rfl⟩
        have HS5 : Hid (MdSt w g (MM (i + 1)) w5 ∧ Two w5 q 67 (.int .i64 (X i + dX (K i))) (.int .i64 (Y i))) := by rw [hw5]; exact ⟨HS4.out.1.box (by dsimp only; rw [← HQ.out]; omega) _ (by dsimp only; omega), two_put0 HS4.out.2 _⟩
        go_upto_region 8 with fail
        rw [← hw5]
        clear hw5 d0 f0 ld HS4
        have d1 := HS5.out.2.cell1
        have ld := HS5.out.2.lt
        refine wp_region_over_tail 6 (by kernel_rfl) (by kernel_rfl) ?_; simp only [List.take_succ_cons, List.take_zero, List.drop_succ_cons, List.drop_zero]; (repeat (go_big_quiet_step ((go_at_call 145; exact Calls.over_of (HCY.out _))))); refine wpQuiet_nil ?_; rintro _ ⟨x1, rfl⟩
        have HS6 : Hid (MdSt w g (MM (i + 1)) (w5.over x1) ∧ Two (w5.over x1) q 67 (.int .i64 (X i + dX (K i))) (.int .i64 (Y i))) := ⟨HS5.out.1.ext ⟨x1, rfl⟩, HS5.out.2.ext ⟨x1, rfl⟩⟩
        clear HS5 d1 ld
        generalize w5.over x1 = w6 at *
        have d1 := HS6.out.2.cell1
        have f1 := HS6.out.2.free 1
        have ld := HS6.out.2.lt
        have HS7 : Hid (MdSt w g (MM (i + 1)) (w6.setCell ⟨q, 1, none⟩ (.int .i64 (Y i + dY (K i)))) ∧ Two (w6.setCell ⟨q, 1, none⟩ (.int .i64 (Y i + dY (K i)))) q 67 (.int .i64 (X (i + 1))) (.int .i64 (Y (i + 1)))) := by rw [HX1.out, HY1.out]; exact ⟨HS6.out.1.box (by dsimp only; rw [← HQ.out]; omega) _ (by dsimp only; omega), two_put1 HS6.out.2 _⟩
        clear HS6
        go_wp2
        go_roundw
        case rel => exact ⟨i + 1, by omega, by go_num, HS7⟩
        case measure => simp [intOf]; omega
      · have f0 : (((K i : Nat) : Int) == 0) = false := by rw [beq_eq_false_iff_ne]; omega
        have HS3 : Hid (MdSt w g (MM (i + 1)) w1 ∧ Two w1 q 67 (.int .i64 (X i)) (.int .i64 (Y i))) := ⟨HS1.out.1.congr fun a b _ _ => by rw [HONi.out, decide_eq_false (fun h => hk0 h.2.2), Bool.or_false], HS1.out.2⟩
        go_upto_region 7 with fail
        clear HS1 f0 hk0
        generalize w1 = w3 at *
        have d0 := HS3.out.2.cell0
        have ld := HS3.out.2.lt
        refine wp_region_over_tail 6 (by kernel_rfl) (by kernel_rfl) ?_; simp only [List.take_succ_cons, List.take_zero, List.drop_succ_cons, List.drop_zero]; (repeat (go_big_quiet_step ((go_at_call 144; exact Calls.over_of (HCX.out _))))); refine wpQuiet_nil ?_; rintro _ ⟨x1, rfl⟩
        have HS4 : Hid (MdSt w g (MM (i + 1)) (w3.over x1) ∧ Two (w3.over x1) q 67 (.int .i64 (X i)) (.int .i64 (Y i))) := ⟨HS3.out.1.ext ⟨x1, rfl⟩, HS3.out.2.ext ⟨x1, rfl⟩⟩
        clear HS3 d0 ld
        generalize w3.over x1 = w4 at *
        have d0 := HS4.out.2.cell0
        have f0 := HS4.out.2.free 0
        have ld := HS4.out.2.lt
        obtain ⟨w5, hw5⟩ : ∃ w5, w5 = w4.setCell ⟨q, 0, none⟩ (.int .i64 (X i + dX (K i))) := ⟨_, rfl⟩
        have HS5 : Hid (MdSt w g (MM (i + 1)) w5 ∧ Two w5 q 67 (.int .i64 (X i + dX (K i))) (.int .i64 (Y i))) := by rw [hw5]; exact ⟨HS4.out.1.box (by dsimp only; rw [← HQ.out]; omega) _ (by dsimp only; omega), two_put0 HS4.out.2 _⟩
        go_upto_region 8 with fail
        rw [← hw5]
        clear hw5 d0 f0 ld HS4
        have d1 := HS5.out.2.cell1
        have ld := HS5.out.2.lt
        refine wp_region_over_tail 6 (by kernel_rfl) (by kernel_rfl) ?_; simp only [List.take_succ_cons, List.take_zero, List.drop_succ_cons, List.drop_zero]; (repeat (go_big_quiet_step ((go_at_call 145; exact Calls.over_of (HCY.out _))))); refine wpQuiet_nil ?_; rintro _ ⟨x1, rfl⟩
        have HS6 : Hid (MdSt w g (MM (i + 1)) (w5.over x1) ∧ Two (w5.over x1) q 67 (.int .i64 (X i + dX (K i))) (.int .i64 (Y i))) := ⟨HS5.out.1.ext ⟨x1, rfl⟩, HS5.out.2.ext ⟨x1, rfl⟩⟩
        clear HS5 d1 ld
        generalize w5.over x1 = w6 at *
        have d1 := HS6.out.2.cell1
        have f1 := HS6.out.2.free 1
        have ld := HS6.out.2.lt
        have HS7 : Hid (MdSt w g (MM (i + 1)) (w6.setCell ⟨q, 1, none⟩ (.int .i64 (Y i + dY (K i)))) ∧ Two (w6.setCell ⟨q, 1, none⟩ (.int .i64 (Y i + dY (K i)))) q 67 (.int .i64 (X (i + 1))) (.int .i64 (Y (i + 1)))) := by rw [HX1.out, HY1.out]; exact ⟨HS6.out.1.box (by dsimp only; rw [← HQ.out]; omega) _ (by dsimp only; omega), two_put1 HS6.out.2 _⟩
        clear HS6
        go_wp2
        go_roundw
        case rel => exact ⟨i + 1, by omega, by go_num, HS7⟩
        case measure => simp [intOf]; omega
    · have hin' : i = n := by omega
      have hnl : ¬ (i : Int) < (word.size : Int) := by omega
      have HS9 : Hid (MdSt w g M9 wo) := HS.out.1.congr fun x y _ _ => by rw [hin']; exact HM9.out x y
      clear HS hsz hin'
      go_wp2
      go_end0
      exact ⟨rfl, HS9.out⟩
end Go.Proofs.Ytahhnjoeaodcjaa
