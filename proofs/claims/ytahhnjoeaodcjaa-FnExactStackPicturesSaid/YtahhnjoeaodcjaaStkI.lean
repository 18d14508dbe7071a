/- StackPictures: the program's. -/
import Derived.Test.YtahhnjoeaodcjaaStkS
import Derived.Test.YtahhnjoeaodcjaaStkQ
namespace Go.Proofs.Ytahhnjoeaodcjaa
open Go Go.RowKit
theorem stkT_put {m : List (List ByteArray)} {n j k0 : Nat} (h : k0 < n) : (stkT m n j k0).set k0 ((stkT m n j k0).getD k0 0 + if (picL (m.getD j [])).getD k0 false then 1 else 0) = stkT m n j (k0 + 1) := by
  rw [stkT_at h, if_neg (by omega), ← stkT_set h]
  congr 1
  simp only [cntK]
  split <;> simp
theorem stkT_bnd {m : List (List ByteArray)} {n j k0 : Nat} (hj : j < 1000) (k : Nat) : 0 ≤ (stkT m n j k0).getD k 0 ∧ (stkT m n j k0).getD k 0 ≤ 1000 := by
  by_cases h : k < n
  · rw [stkT_at h]
    have := cntK_le m k (if k < k0 then j + 1 else j)
    split at this <;> split <;> omega
  · rw [getD_out (by rw [stkT_len]; omega)]
    omega
theorem grl_zero (W H N : Nat) (m : List (List ByteArray)) : grd W H (fun _ _ => 0) = grl W H (stkT m N 0 0) := by
  unfold grl
  congr 1
  funext x y
  unfold flG
  rw [stkT_zero]
  by_cases h : y * W + x < N
  · simp [List.getD_eq_getElem?_getD, h]
  · rw [getD_out (by simp; omega)]
set_option maxHeartbeats 400000 in
theorem stk1_any (x y : Int) (w : World) : Calls Try.prog 106 #[.int .i64 x, .int .i64 y] w fun e w' => e = .returned (.int .i64 0) ∧ w.Ext w' := by
  go_enter Try.func106, Try.ntmps106
  go_wp2
  go_ret
  refine ⟨rfl, ?_⟩
  repeat (first | exact World.Ext.refl _ | exact ⟨_, rfl⟩ | assumption | refine World.Ext.over ?_ _ | refine World.Ext.drewN ?_ _ | refine World.Ext.drew ?_ | refine World.Ext.alloc ?_ _ | refine World.Ext.setCell ?_ (by simp) _)
theorem enters_stk1 : Enters 106 := enters_of Try.func106 (by kernel_rfl) (by kernel_rfl)
theorem oneIfK_any (b : Bool) (w : World) : Calls Try.prog 96 #[.bool b] w fun e w' => e = .returned (.int .i64 (if b then 1 else 0)) ∧ w.Ext w' := by
  cases b
  · go_enter Try.func96, Try.ntmps96
    go_wp2
    go_ret
    exact ⟨rfl, .refl _⟩
  · go_enter Try.func96, Try.ntmps96
    go_wp2
    go_ret
    exact ⟨rfl, .refl _⟩
theorem enters_stk2 : Enters 108 := enters_of Try.func108 (by kernel_rfl) (by kernel_rfl)
set_option maxRecDepth 5000 in
set_option maxHeartbeats 3200000 in
theorem stk2_any (w1 : World) (p4 p7 b ab W H lo hi c : Nat) (L : List Bool) (a : Option Addr) (A : Nat → Option Addr) (C : Nat → Nat) (T : List Int) (x y : Nat) (wr : World) (hW : W ≤ 16) (hH : H ≤ 16) (hx : x < W) (hy : y < H)
    (h4 : One w1 p4 45 (.slice a H c)) (h7 : One w1 p7 116 (.pointer (some ⟨b, 0, none⟩))) (hI : Img w1 b ab W H L) (d4 : ¬ (lo ≤ p4 ∧ p4 < hi)) (d7 : ¬ (lo ≤ p7 ∧ p7 < hi)) (db : ¬ (lo ≤ b ∧ b < hi)) (dab : ¬ (lo ≤ ab ∧ ab < hi))
    (hT : T.length = H * W) (hTb : ∀ k, 0 ≤ T.getD k 0 ∧ T.getD k 0 ≤ 1000) (hw : Wrote (fun k => lo ≤ k ∧ k < hi) w1 wr) (ho : OwnMat lo hi wr a A C (grl W H T)) :
    Calls Try.prog 108 #[.int .i64 x, .int .i64 y, .pointer (some ⟨p4, 0, none⟩), .pointer (some ⟨p7, 0, none⟩)] wr fun e w' => e = .returned (.tuple #[]) ∧ Wrote (fun k => lo ≤ k ∧ k < hi) w1 w' ∧
      OwnMat lo hi w' a A C (grl W H (T.set (y * W + x) (T.getD (y * W + x) 0 + if L.getD (y * W + x) false then 1 else 0))) := by
  have c4 := (h4.keep (hw.block p4 h4.lt d4)).cell
  have c7 := (h7.keep (hw.block p7 h7.lt d7)).cell
  have hIr := hI.keep (hw.block b hI.lt db) (hw.block ab hI.px.lt dab)
  obtain ⟨t, ht⟩ : ∃ t, L.getD (y * W + x) false = t := ⟨_, rfl⟩
  have HG : Hid (∀ w', wr.Ext w' → Calls Try.prog 109 #[.pointer (some ⟨b, 0, none⟩), .int .i64 x, .int .i64 y] w' fun e w'' => e = .returned (.bool t) ∧ w'.Ext w'') := fun w' hx' =>
    get_any b ab W H L x y w' (by omega) (by omega) (hIr.ext hx') t (by rw [pxl_at _ _ _ _ _ hx hy, ht])
  rw [ht]
  have hylen : y < (grl W H T).length := by rw [grl_len]; exact hy
  have hxlen : x < ((grl W H T).getD y []).length := by rw [grl_row hy]; exact hx
  obtain ⟨b1, o1, rfl, -, -, k1, -⟩ := ho.outer y hylen
  obtain ⟨b2, o2, hA2, g1, g2, k2, f2⟩ := ho.rows y hylen x hxlen
  rw [grl_row hy, hA2] at k1
  rw [grl_at hx hy] at k2
  obtain ⟨z0, z1⟩ := hTb (y * W + x)
  have HNX : Hid (∀ x1, Wrote (fun k => lo ≤ k ∧ k < hi) w1 ((wr.over x1).setCell ⟨b2, o2 + x, none⟩ (.int .i64 (T.getD (y * W + x) 0 + if t then 1 else 0))) ∧ OwnMat lo hi ((wr.over x1).setCell ⟨b2, o2 + x, none⟩ (.int .i64 (T.getD (y * W + x) 0 + if t then 1 else 0))) (some ⟨b1, o1, none⟩) A C (grl W H (T.set (y * W + x) (T.getD (y * W + x) 0 + if t then 1 else 0)))) := fun x1 => by
    have hxx : wr.Ext (wr.over x1) := ⟨x1, rfl⟩
    refine ⟨(hw.trans (hxx.wrote _)).setCell (p := ⟨b2, o2 + x, none⟩) ⟨g1, g2⟩ _, ?_⟩
    rw [← grl_set hx hy hT]
    exact OwnMat.put (ho.ext hxx) hylen hxlen hA2 _
  have f2x : ∀ x1 : World, (wr.over x1).frozen? ⟨b2, o2 + x, none⟩ = false := fun x1 => by rw [World.Ext.frozen (w := wr) ⟨x1, rfl⟩ k2]; exact f2
  have l4 := World.block_lt_of_cell? _ _ c4
  have l7 := World.block_lt_of_cell? _ _ c7
  have l1 := World.block_lt_of_cell? _ _ k1
  have l2 := World.block_lt_of_cell? _ _ k2
  have hx0 : (0 : Int) ≤ (x : Int) := by omega
  have hy0 : (0 : Int) ≤ (y : Int) := by omega
  have hx' : (x : Int) < (W : Int) := by omega
  have hy' : (y : Int) < (H : Int) := by omega
  have HOI : Hid (∀ w' : World, Calls Try.prog 96 #[.bool t] w' fun e w'' => e = .returned (.int .i64 (if t then 1 else 0)) ∧ w'.Ext w'') := fun w' => oneIfK_any t w'
  clear hIr hI h4 h7 hw ho ht hTb hT
  generalize T.getD (y * W + x) 0 = z at *
  cases t
  all_goals
    simp only [Bool.false_eq_true, if_true, if_false, Int.add_zero] at HNX HOI ⊢
    go_enter Try.func108, Try.ntmps108
    go_wp2_with fail
    refine wp_region_over_tail 15 (by kernel_rfl) (by kernel_rfl) ?_
    simp only [List.take_succ_cons, List.take_zero, List.drop_succ_cons, List.drop_zero]
    (repeat (go_big_quiet_step ((go_at_call 109; exact Calls.over_of (HG.out _ ⟨_, rfl⟩)))))
    (go_big_quiet_step ((go_at_call 96; exact Calls.over_of (HOI.out _))))
    (repeat (go_big_quiet_step (fail)))
    refine wpQuiet_nil ?_
    rintro _ ⟨x1, rfl⟩
    have f3 := f2x x1
    have k3 := World.Ext.cell (w' := wr.over x1) ⟨x1, rfl⟩ k2
    have HN := Lib.hid (HNX.out x1)
    clear HNX f2x
    go_wp2
    go_end0
    exact ⟨rfl, HN.out⟩
theorem stkEach_any (w1 : World) (p4 p7 b ab W H lo hi c N k : Nat) (a : Option Addr) (A : Nat → Option Addr) (C : Nat → Nat) (m : List (List ByteArray)) (hN : H * W = N) (hk : k < 1000) (hW : W ≤ 16) (hH : H ≤ 16)
    (h4 : One w1 p4 45 (.slice a H c)) (h7 : One w1 p7 116 (.pointer (some ⟨b, 0, none⟩))) (hI : Img w1 b ab W H (picL (m.getD k []))) (d4 : ¬ (lo ≤ p4 ∧ p4 < hi)) (d7 : ¬ (lo ≤ p7 ∧ p7 < hi)) (db : ¬ (lo ≤ b ∧ b < hi)) (dab : ¬ (lo ≤ ab ∧ ab < hi))
    (ho : OwnMat lo hi w1 a A C (grl W H (stkT m N k 0))) :
    Calls Try.prog 107 #[.pointer (some ⟨b, 0, none⟩), .func (.func 108) #[] #[.pointer (some ⟨p4, 0, none⟩), .pointer (some ⟨p7, 0, none⟩)]] w1 fun e w' => e = .returned (.tuple #[]) ∧ Wrote (fun k => lo ≤ k ∧ k < hi) w1 w' ∧ OwnMat lo hi w' a A C (grl W H (stkT m N (k + 1) 0)) := by
  have h := each_any b 108 W H #[.pointer (some ⟨p4, 0, none⟩), .pointer (some ⟨p7, 0, none⟩)] (fun q w' => Wrote (fun k => lo ≤ k ∧ k < hi) w1 w' ∧ OwnMat lo hi w' a A C (grl W H (stkT m N k q))) w1 (by omega) (by omega) enters_stk2
    (fun q w' h => by
      have hIr := hI.keep (h.1.block b hI.lt db) (h.1.block ab hI.px.lt dab)
      exact ⟨hIr.c0, hIr.c1⟩)
    (fun x y w' hx hy h => by
      have hq : y * W + x < N := by
        have := Nat.mul_le_mul_right W (show y + 1 ≤ H by omega)
        rw [Nat.succ_mul] at this
        omega
      have h2 := stk2_any w1 p4 p7 b ab W H lo hi c (picL (m.getD k [])) a A C (stkT m N k (y * W + x)) x y w' hW hH hx hy h4 h7 hI d4 d7 db dab (by rw [stkT_len, hN]) (stkT_bnd hk) h.1 h.2
      rw [stkT_put hq] at h2
      exact h2.mono fun e w'' hh => ⟨hh.1, hh.2.1, hh.2.2⟩)
    ⟨.refl _ _, ho⟩
  rw [hN, stkT_next] at h
  exact h
/-- The table under way. -/
structure StkJ (w : World) (p4 : Nat) (m : List (List ByteArray)) (N W H k : Nat) (wr : World) : Prop where
  x : w.Ext wr
  one : One wr w.heap.size 45 (.slice none 0 0)
  lo : w.heap.size < p4
  tb : (k = 0 ∧ One wr p4 45 (.slice none 0 0)) ∨ (0 < k ∧ ∃ a c A C lo hi, One wr p4 45 (.slice a H c) ∧ p4 < lo ∧ hi ≤ wr.heap.size ∧ OwnMat lo hi wr a A C (grl W H (stkT m N k 0)))
theorem StkJ.ext {w wr w' : World} {p4 N W H k : Nat} {m : List (List ByteArray)} (h : StkJ w p4 m N W H k wr) (hx : wr.Ext w') : StkJ w p4 m N W H k w' := by
  refine ⟨h.x.trans hx, h.one.ext hx, h.lo, ?_⟩
  rcases h.tb with ⟨e, h1⟩ | ⟨e, a, c, A, C, lo, hi, h1, h2, h3, h4⟩
  · exact .inl ⟨e, h1.ext hx⟩
  · exact .inr ⟨e, a, c, A, C, lo, hi, h1.ext hx, h2, Nat.le_trans h3 hx.size, h4.ext hx⟩
/-- What the drawn region tells. -/
def StkC (W3 : World) (W H : Nat) (L : List Bool) (u7 u9 : Value) (wc : World) : Prop := ∃ p7 b ab, u7 = .pointer (some ⟨p7, 0, none⟩) ∧ u9 = .bool true ∧ W3.Ext wc ∧ One wc p7 116 (.pointer (some ⟨b, 0, none⟩)) ∧ Img wc b ab W H L ∧ W3.heap.size ≤ p7 ∧ W3.heap.size ≤ b ∧ W3.heap.size ≤ ab
theorem StkC.one {W3 w4 : World} {W H b ab : Nat} {L : List Bool} (hx : W3.drew.Ext w4) (hi : Img w4 b ab W H L) (h1 : W3.drew.heap.size ≤ b) (h2 : W3.drew.heap.size ≤ ab) :
    StkC W3 W H L (.pointer (some ⟨w4.heap.size, 0, none⟩)) (.bool true) (w4.alloc (.cells #[.pointer (some ⟨b, 0, none⟩)] 116)) := by
  have hd : W3.drew.heap.size = W3.heap.size := rfl
  have hxa : w4.Ext (w4.alloc (.cells #[.pointer (some ⟨b, 0, none⟩)] 116)) := by repeat (first | exact World.Ext.refl _ | exact ⟨_, rfl⟩ | assumption | refine World.Ext.over ?_ _ | refine World.Ext.drewN ?_ _ | refine World.Ext.drew ?_ | refine World.Ext.alloc ?_ _ | refine World.Ext.setCell ?_ (by simp) _)
  have hxd : W3.Ext W3.drew := by repeat (first | exact World.Ext.refl _ | exact ⟨_, rfl⟩ | assumption | refine World.Ext.over ?_ _ | refine World.Ext.drewN ?_ _ | refine World.Ext.drew ?_ | refine World.Ext.alloc ?_ _ | refine World.Ext.setCell ?_ (by simp) _)
  have hsz := hx.size
  refine ⟨w4.heap.size, b, ab, rfl, rfl, (hxd.trans hx).trans hxa, One.new w4 _ _ _ rfl, hi.ext hxa, by omega, by omega, by omega⟩
theorem StkC.two {W3 w4 : World} {W H b ab : Nat} {L : List Bool} {v0 : Value} (hx : (W3.drew.alloc (.cells #[v0] 116)).Ext w4) (hi : Img w4 b ab W H L) (h1 : (W3.drew.alloc (.cells #[v0] 116)).heap.size ≤ b) (h2 : (W3.drew.alloc (.cells #[v0] 116)).heap.size ≤ ab) :
    StkC W3 W H L (.pointer (some ⟨W3.drew.heap.size, 0, none⟩)) (.bool true) (w4.setCell ⟨W3.drew.heap.size, 0, none⟩ (.pointer (some ⟨b, 0, none⟩))) := by
  have hd : W3.drew.heap.size = W3.heap.size := rfl
  have hxa : W3.drew.Ext (W3.drew.alloc (.cells #[v0] 116)) := by repeat (first | exact World.Ext.refl _ | exact ⟨_, rfl⟩ | assumption | refine World.Ext.over ?_ _ | refine World.Ext.drewN ?_ _ | refine World.Ext.drew ?_ | refine World.Ext.alloc ?_ _ | refine World.Ext.setCell ?_ (by simp) _)
  have hxd : W3.Ext W3.drew := by repeat (first | exact World.Ext.refl _ | exact ⟨_, rfl⟩ | assumption | refine World.Ext.over ?_ _ | refine World.Ext.drewN ?_ _ | refine World.Ext.drew ?_ | refine World.Ext.alloc ?_ _ | refine World.Ext.setCell ?_ (by simp) _)
  have hsz := hx.size
  simp at h1 h2 hsz
  refine ⟨W3.drew.heap.size, b, ab, rfl, rfl, ((hxd.trans hxa).trans hx).setCell (p := ⟨W3.drew.heap.size, 0, none⟩) (by dsimp only; omega) _, ((One.new W3.drew _ _ _ rfl).ext hx).set _, hi.keep (Below.heap_setCell _ _ _ _ (by dsimp only; omega)) (Below.heap_setCell _ _ _ _ (by dsimp only; omega)), by omega, by omega, by omega⟩
theorem StkC.three {W3 w4 : World} {W H b ab : Nat} {L : List Bool} {v0 : Value} (hx : (W3.alloc (.cells #[v0] 116)).drew.Ext w4) (hi : Img w4 b ab W H L) (h1 : (W3.alloc (.cells #[v0] 116)).drew.heap.size ≤ b) (h2 : (W3.alloc (.cells #[v0] 116)).drew.heap.size ≤ ab) :
    StkC W3 W H L (.pointer (some ⟨W3.heap.size, 0, none⟩)) (.bool true) (w4.setCell ⟨W3.heap.size, 0, none⟩ (.pointer (some ⟨b, 0, none⟩))) := by
  have hs : (W3.alloc (.cells #[v0] 116)).drew.heap.size = W3.heap.size + 1 := by simp
  have hxa : W3.Ext (W3.alloc (.cells #[v0] 116)).drew := by repeat (first | exact World.Ext.refl _ | exact ⟨_, rfl⟩ | assumption | refine World.Ext.over ?_ _ | refine World.Ext.drewN ?_ _ | refine World.Ext.drew ?_ | refine World.Ext.alloc ?_ _ | refine World.Ext.setCell ?_ (by simp) _)
  have hxd : (W3.alloc (.cells #[v0] 116)).Ext w4 := World.Ext.trans (by repeat (first | exact World.Ext.refl _ | exact ⟨_, rfl⟩ | assumption | refine World.Ext.over ?_ _ | refine World.Ext.drewN ?_ _ | refine World.Ext.drew ?_ | refine World.Ext.alloc ?_ _ | refine World.Ext.setCell ?_ (by simp) _)) hx
  rw [hs] at h1 h2
  refine ⟨W3.heap.size, b, ab, rfl, rfl, (hxa.trans hx).setCell (p := ⟨W3.heap.size, 0, none⟩) (Nat.le_refl _) _, ((One.new W3 _ _ _ rfl).ext hxd).set _, hi.keep (Below.heap_setCell _ _ _ _ (by dsimp only; omega)) (Below.heap_setCell _ _ _ _ (by dsimp only; omega)), by omega, by omega, by omega⟩
/-- .. where it fails. -/
def StkF (W3 : World) (u9 : Value) (wc : World) : Prop := u9 = .bool false ∧ W3.Ext wc
theorem StkF.one {W3 w4 : World} {v : Value} (hx : W3.drew.Ext w4) : StkF W3 (.bool false) (w4.alloc (.cells #[v] 116)) := by
  have hxa : w4.Ext (w4.alloc (.cells #[v] 116)) := by repeat (first | exact World.Ext.refl _ | exact ⟨_, rfl⟩ | assumption | refine World.Ext.over ?_ _ | refine World.Ext.drewN ?_ _ | refine World.Ext.drew ?_ | refine World.Ext.alloc ?_ _ | refine World.Ext.setCell ?_ (by simp) _)
  have hxd : W3.Ext W3.drew := by repeat (first | exact World.Ext.refl _ | exact ⟨_, rfl⟩ | assumption | refine World.Ext.over ?_ _ | refine World.Ext.drewN ?_ _ | refine World.Ext.drew ?_ | refine World.Ext.alloc ?_ _ | refine World.Ext.setCell ?_ (by simp) _)
  exact ⟨rfl, (hxd.trans hx).trans hxa⟩
theorem StkF.two {W3 w4 : World} {v0 v : Value} (hx : (W3.drew.alloc (.cells #[v0] 116)).Ext w4) : StkF W3 (.bool false) (w4.setCell ⟨W3.drew.heap.size, 0, none⟩ v) := by
  have hd : W3.drew.heap.size = W3.heap.size := rfl
  have hxa : W3.drew.Ext (W3.drew.alloc (.cells #[v0] 116)) := by repeat (first | exact World.Ext.refl _ | exact ⟨_, rfl⟩ | assumption | refine World.Ext.over ?_ _ | refine World.Ext.drewN ?_ _ | refine World.Ext.drew ?_ | refine World.Ext.alloc ?_ _ | refine World.Ext.setCell ?_ (by simp) _)
  have hxd : W3.Ext W3.drew := by repeat (first | exact World.Ext.refl _ | exact ⟨_, rfl⟩ | assumption | refine World.Ext.over ?_ _ | refine World.Ext.drewN ?_ _ | refine World.Ext.drew ?_ | refine World.Ext.alloc ?_ _ | refine World.Ext.setCell ?_ (by simp) _)
  exact ⟨rfl, ((hxd.trans hxa).trans hx).setCell (p := ⟨W3.drew.heap.size, 0, none⟩) (by dsimp only; omega) _⟩
theorem StkF.three {W3 w4 : World} {v0 v : Value} (hx : (W3.alloc (.cells #[v0] 116)).drew.Ext w4) : StkF W3 (.bool false) (w4.setCell ⟨W3.heap.size, 0, none⟩ v) := by
  have hxa : W3.Ext (W3.alloc (.cells #[v0] 116)).drew := by repeat (first | exact World.Ext.refl _ | exact ⟨_, rfl⟩ | assumption | refine World.Ext.over ?_ _ | refine World.Ext.drewN ?_ _ | refine World.Ext.drew ?_ | refine World.Ext.alloc ?_ _ | refine World.Ext.setCell ?_ (by simp) _)
  exact ⟨rfl, (hxa.trans hx).setCell (p := ⟨W3.heap.size, 0, none⟩) (Nat.le_refl _) _⟩
end Go.Proofs.Ytahhnjoeaodcjaa
