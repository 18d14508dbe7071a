/- The lists of neighbours; black spots in reading order. -/
import Derived.Test.YthgkmaccbcpaeaaReach
namespace Go.Proofs.Ythgkmaccbcpaeaa
open Go.RowKit
theorem Try.infoSpotA : (Try.prog.info? 45).map (fun i => (i.zero, i.size, i.bytes)) = some (some (.agg #[.int .i64 0, .int .i64 0]), 2, 16) := by kernel_rfl
theorem GrowP.ret {w w' : World} {v : Value} {ps : List (Int × Int)} {T : TypeId} (hx : w.Ext w') (h : GrowP w.heap.size T w' v ps) : PairsRet w ps (.returned v) w' := by
  obtain ⟨a, c, rfl, _⟩ := h.form
  exact ⟨a, c, rfl, hx, h.own⟩
def okStep (eight : Bool) (dx dy : Int) : Bool := (!(dx == 0) || !(dy == 0)) && (eight || dx == 0 || dy == 0)
def sp3 (p : Int → Int → Bool) (k : Nat) : List (Int × Int) := ((List.range k).filter fun i => p (((i % 3 : Nat) : Int) - 1) (((i / 3 : Nat) : Int) - 1)).map fun i => (((i % 3 : Nat) : Int) - 1, ((i / 3 : Nat) : Int) - 1)
theorem sp3_len (p : Int → Int → Bool) (k : Nat) : (sp3 p k).length ≤ k := by
  unfold sp3
  rw [List.length_map]
  exact Nat.le_trans (List.length_filter_le _ _) (by simp)
theorem sp3_no {p : Int → Int → Bool} {i j : Nat} (hi : i < 3) (h : p ((i : Int) - 1) ((j : Int) - 1) = false) : sp3 p (j * 3 + i + 1) = sp3 p (j * 3 + i) := by
  unfold sp3
  have e1 : (j * 3 + i) % 3 = i := by omega
  have e2 : (j * 3 + i) / 3 = j := by omega
  rw [List.range_succ, List.filter_append, List.filter_cons_of_neg (by rw [e1, e2, h]; decide), List.filter_nil, List.append_nil]
theorem sp3_yes {p : Int → Int → Bool} {i j : Nat} (hi : i < 3) (h : p ((i : Int) - 1) ((j : Int) - 1) = true) : sp3 p (j * 3 + i + 1) = sp3 p (j * 3 + i) ++ [((i : Int) - 1, (j : Int) - 1)] := by
  unfold sp3
  have e1 : (j * 3 + i) % 3 = i := by omega
  have e2 : (j * 3 + i) / 3 = j := by omega
  rw [List.range_succ, List.filter_append, List.filter_cons_of_pos (by rw [e1, e2, h]), List.filter_nil, List.map_append, List.map_cons, List.map_nil, e1, e2]
def arTo (eight : Bool) (x y : Int) (k : Nat) : List (Int × Int) := (sp3 (okStep eight) k).map fun d => (x + d.1, y + d.2)
theorem arTo_all (eight : Bool) (x y : Int) : arTo eight x y 9 = nbA eight (x, y) := by
  have h : sp3 (okStep eight) 9 = arndL eight := by cases eight <;> rfl
  unfold arTo nbA
  rw [h]
theorem arTo_len (eight : Bool) (x y : Int) (k : Nat) : (arTo eight x y k).length ≤ k := by unfold arTo; rw [List.length_map]; exact sp3_len _ _
theorem arTo_no {eight : Bool} (x y : Int) {i j : Nat} (hi : i < 3) (h : okStep eight ((i : Int) - 1) ((j : Int) - 1) = false) : arTo eight x y (j * 3 + (i + 1)) = arTo eight x y (j * 3 + i) := by
  unfold arTo; rw [← Nat.add_assoc, sp3_no hi h]
theorem arTo_yes {eight : Bool} (x y : Int) {i j : Nat} (hi : i < 3) (h : okStep eight ((i : Int) - 1) ((j : Int) - 1) = true) : arTo eight x y (j * 3 + (i + 1)) = arTo eight x y (j * 3 + i) ++ [(x + ((i : Int) - 1), y + ((j : Int) - 1))] := by
  unfold arTo; rw [← Nat.add_assoc, sp3_yes hi h, List.map_append]; rfl
/-- A list of spots under way. -/
def ArSt (w : World) (v : Value) (ps : List (Int × Int)) (wr : World) : Prop := w.Ext wr ∧ GrowP w.heap.size 45 wr v ps
theorem ArSt.next {w w2 : World} {v : Value} {ps qs : List (Int × Int)} {q : Int × Int} (h : ArSt w v ps w2) (e : qs = ps ++ [q]) {o : Obj} {v' : Value} {w1 : World} (hgrow : (w2.alloc o).grownBy w1 v.ownBlock)
    (hown : w1.ownsRow w.heap.size 45 2 v' (ps.length + 1) ((flatP ps).map (Value.int .i64) ++ [.int .i64 q.1, .int .i64 q.2])) : ArSt w v' qs w1 :=
  ⟨World.ownsRow.pushExt h.2 h.1 hgrow, by rw [e]; exact GrowP.push hown⟩
theorem ArSt.ext {w w1 w2 : World} {v : Value} {ps : List (Int × Int)} (h : ArSt w v ps w1) (hx : w1.Ext w2) : ArSt w v ps w2 := ⟨h.1.trans hx, h.2.ext hx⟩
set_option maxRecDepth 5000 in
set_option maxHeartbeats 3200000 in
theorem around_any (x y : Int) (eight : Bool) (w : World) (hx : -1000 ≤ x ∧ x ≤ 1000) (hy : -1000 ≤ y ∧ y ≤ 1000) :
    Calls Try.prog 107 #[.int .i64 x, .int .i64 y, .bool eight] w (PairsRet w (nbA eight (x, y))) := by
  obtain ⟨i0, hi, hz0, hz1, hz2⟩ := info_parts Try.infoSpotA
  obtain ⟨hx0, hx1⟩ := hx
  obtain ⟨hy0, hy1⟩ := hy
  have HST : Hid (ArSt w (.slice (some ⟨w.heap.size, 0, none⟩) 0 0) (arTo eight x y 0) (w.alloc (.cells #[] 45))) := ⟨by repeat (first | exact World.Ext.refl _ | exact ⟨_, rfl⟩ | assumption | refine World.Ext.over ?_ _ | refine World.Ext.drewN ?_ _ | refine World.Ext.drew ?_ | refine World.Ext.alloc ?_ _ | refine World.Ext.setCell ?_ (by simp) _), GrowP.empty (e := 45) w (Nat.le_refl _)⟩
  have HALL := Lib.hid (arTo_all eight x y)
  have HLEN := Lib.hid (arTo_len eight x y)
  have HNO : Hid (∀ i j : Nat, i < 3 → okStep eight ((i : Int) - 1) ((j : Int) - 1) = false → arTo eight x y (j * 3 + (i + 1)) = arTo eight x y (j * 3 + i)) := fun i j => arTo_no x y
  have HYES : Hid (∀ i j : Nat, i < 3 → okStep eight ((i : Int) - 1) ((j : Int) - 1) = true → arTo eight x y (j * 3 + (i + 1)) = arTo eight x y (j * 3 + i) ++ [(x + ((i : Int) - 1), y + ((j : Int) - 1))]) := fun i j => arTo_yes x y
  generalize arTo eight x y = F at *
  generalize nbA eight (x, y) = res at *
  go_enter Try.func107, Try.ntmps107
  go_wp2
  go_loopw [7, 8, 9] (fun v m _ wr => ∃ j : Nat, j ≤ 3 ∧ m = .int .i64 ((j : Int) - 1) ∧ Hid (ArSt w v (F (j * 3)) wr)) (fun _ m _ _ => 3 - (intOf m + 1).toNat)
  case atStart => exact ⟨0, by omega, rfl, HST⟩
  case round =>
    obtain ⟨j, hj, rfl, HS⟩ := hrel
    clear HST
    by_cases hltj : j < 3
    · have hltj' : (j : Int) - 1 ≤ 1 := by omega
      go_wp2
      go_loopw [7, 9] (fun v m wr => ∃ i : Nat, i ≤ 3 ∧ m = .int .i64 ((i : Int) - 1) ∧ Hid (ArSt w v (F (j * 3 + i)) wr)) (fun _ m _ => 3 - (intOf m + 1).toNat)
      case atStart => exact ⟨0, by omega, rfl, HS⟩
      case round =>
        obtain ⟨i, hi', rfl, HS⟩ := hrel
        obtain ⟨w2, rfl⟩ : ∃ w2 : World, w2 = wr := ⟨_, rfl⟩
        by_cases hlti : i < 3
        · have hlti' : (i : Int) - 1 ≤ 1 := by omega
          have HB1 : Hid ((F (j * 3 + i)).length + 1 ≤ maxLen) := by show _ ≤ _; have h1 := HLEN.out (j * 3 + i); unfold maxLen; omega
          have HB2 : Hid (((F (j * 3 + i)).length + 1) * 16 ≤ 140737488355328) := by show _ ≤ _; have h1 := HLEN.out (j * 3 + i); omega
          have hown := HS.out.2
          unfold GrowP at hown
          have HLE : ∀ o' : Obj, w.heap.size ≤ (w2.alloc o').heap.size := fun o' => (HS.out.1.alloc o').size
          have HN := Lib.hid (HNO.out i j hlti)
          have HY := Lib.hid (HYES.out i j hlti)
          by_cases hi1 : i = 1 <;> by_cases hj1 : j = 1 <;> cases eight
          · have hne1 : ((i : Int) - 1 == 0) = true := by simp; omega
            have hne2 : ((j : Int) - 1 == 0) = true := by simp; omega
            have hok : okStep false ((i : Int) - 1) ((j : Int) - 1) = false := by unfold okStep; rw [hne1, hne2]; rfl
            have hne1q : ((i : Int) - 1 != 0) = false := by unfold bne; rw [hne1]; rfl
            have hne2q : ((j : Int) - 1 != 0) = false := by unfold bne; rw [hne2]; rfl
            clear hi1 hj1
            have HS : Hid (ArSt w u7 (F (j * 3 + (i + 1))) w2) := by
              rw [HN.out hok]
              exact HS
            clear HN HY hown hok
            go_wp2
            go_roundw
            case rel => exact ⟨i + 1, by omega, by congr 1; omega, HS⟩
            case measure => simp [intOf]; omega
          · have hne1 : ((i : Int) - 1 == 0) = true := by simp; omega
            have hne2 : ((j : Int) - 1 == 0) = true := by simp; omega
            have hok : okStep true ((i : Int) - 1) ((j : Int) - 1) = false := by unfold okStep; rw [hne1, hne2]; rfl
            have hne1q : ((i : Int) - 1 != 0) = false := by unfold bne; rw [hne1]; rfl
            have hne2q : ((j : Int) - 1 != 0) = false := by unfold bne; rw [hne2]; rfl
            clear hi1 hj1
            have HS : Hid (ArSt w u7 (F (j * 3 + (i + 1))) w2) := by
              rw [HN.out hok]
              exact HS
            clear HN HY hown hok
            go_wp2
            go_roundw
            case rel => exact ⟨i + 1, by omega, by congr 1; omega, HS⟩
            case measure => simp [intOf]; omega
          · have hne1 : ((i : Int) - 1 == 0) = true := by simp; omega
            have hne2 : ((j : Int) - 1 == 0) = false := by simp; omega
            have hok : okStep false ((i : Int) - 1) ((j : Int) - 1) = true := by unfold okStep; rw [hne1, hne2]; rfl
            have hne1q : ((i : Int) - 1 != 0) = false := by unfold bne; rw [hne1]; rfl
            have hne2q : ((j : Int) - 1 != 0) = true := by unfold bne; rw [hne2]; rfl
            clear hi1 hj1
            have HQ := Lib.hid (HY.out hok)
            have HNEXT : Hid (∀ (o : Obj) (v' : Value) (w1 : World), (w2.alloc o).grownBy w1 u7.ownBlock → w1.ownsRow w.heap.size 45 2 v' ((F (j * 3 + i)).length + 1) ((flatP (F (j * 3 + i))).map (Value.int .i64) ++ [.int .i64 (x + ((i : Int) - 1)), .int .i64 (y + ((j : Int) - 1))]) → Hid (ArSt w v' (F (j * 3 + (i + 1))) w1)) := fun o v' w1 hgrow hown' => ArSt.next HS.out HQ.out hgrow hown'
            clear HS HN HY hok HQ
            generalize F (j * 3 + i) = ps at *
            go_wp2_with (at_builtin; refine wpList_append_own _ rfl _ _ 42 rfl w.heap.size 45 i0 (.agg #[.int .i64 0, .int .i64 0]) 2 16 Try.underlying42 hi hz0 hz1 hz2 rfl (by decide) _ _ _ rfl (hown.alloc _) ⟨w2.heap.size, 0, none⟩ 1 1 [.int .i64 (x + ((i : Int) - 1)), .int .i64 (y + ((j : Int) - 1))] rfl rfl (cell_two_at (by simp)) (by simp [Value.oneCell']) HB1.out HB2.out (HLE _) (fun v' w1 hown' hgrow _ => ?_); have HS := HNEXT.out _ _ _ hgrow hown'; clear hgrow hown' hown)
            go_roundw
            case rel => exact ⟨i + 1, by omega, by congr 1; omega, HS⟩
            case measure => simp [intOf]; omega
          · have hne1 : ((i : Int) - 1 == 0) = true := by simp; omega
            have hne2 : ((j : Int) - 1 == 0) = false := by simp; omega
            have hok : okStep true ((i : Int) - 1) ((j : Int) - 1) = true := by unfold okStep; rw [hne1, hne2]; rfl
            have hne1q : ((i : Int) - 1 != 0) = false := by unfold bne; rw [hne1]; rfl
            have hne2q : ((j : Int) - 1 != 0) = true := by unfold bne; rw [hne2]; rfl
            clear hi1 hj1
            have HQ := Lib.hid (HY.out hok)
            have HNEXT : Hid (∀ (o : Obj) (v' : Value) (w1 : World), (w2.alloc o).grownBy w1 u7.ownBlock → w1.ownsRow w.heap.size 45 2 v' ((F (j * 3 + i)).length + 1) ((flatP (F (j * 3 + i))).map (Value.int .i64) ++ [.int .i64 (x + ((i : Int) - 1)), .int .i64 (y + ((j : Int) - 1))]) → Hid (ArSt w v' (F (j * 3 + (i + 1))) w1)) := fun o v' w1 hgrow hown' => ArSt.next HS.out HQ.out hgrow hown'
            clear HS HN HY hok HQ
            generalize F (j * 3 + i) = ps at *
            go_wp2_with (at_builtin; refine wpList_append_own _ rfl _ _ 42 rfl w.heap.size 45 i0 (.agg #[.int .i64 0, .int .i64 0]) 2 16 Try.underlying42 hi hz0 hz1 hz2 rfl (by decide) _ _ _ rfl (hown.alloc _) ⟨w2.heap.size, 0, none⟩ 1 1 [.int .i64 (x + ((i : Int) - 1)), .int .i64 (y + ((j : Int) - 1))] rfl rfl (cell_two_at (by simp)) (by simp [Value.oneCell']) HB1.out HB2.out (HLE _) (fun v' w1 hown' hgrow _ => ?_); have HS := HNEXT.out _ _ _ hgrow hown'; clear hgrow hown' hown)
            go_roundw
            case rel => exact ⟨i + 1, by omega, by congr 1; omega, HS⟩
            case measure => simp [intOf]; omega
          · have hne1 : ((i : Int) - 1 == 0) = false := by simp; omega
            have hne2 : ((j : Int) - 1 == 0) = true := by simp; omega
            have hok : okStep false ((i : Int) - 1) ((j : Int) - 1) = true := by unfold okStep; rw [hne1, hne2]; rfl
            have hne1q : ((i : Int) - 1 != 0) = true := by unfold bne; rw [hne1]; rfl
            have hne2q : ((j : Int) - 1 != 0) = false := by unfold bne; rw [hne2]; rfl
            clear hi1 hj1
            have HQ := Lib.hid (HY.out hok)
            have HNEXT : Hid (∀ (o : Obj) (v' : Value) (w1 : World), (w2.alloc o).grownBy w1 u7.ownBlock → w1.ownsRow w.heap.size 45 2 v' ((F (j * 3 + i)).length + 1) ((flatP (F (j * 3 + i))).map (Value.int .i64) ++ [.int .i64 (x + ((i : Int) - 1)), .int .i64 (y + ((j : Int) - 1))]) → Hid (ArSt w v' (F (j * 3 + (i + 1))) w1)) := fun o v' w1 hgrow hown' => ArSt.next HS.out HQ.out hgrow hown'
            clear HS HN HY hok HQ
            generalize F (j * 3 + i) = ps at *
            go_wp2_with (at_builtin; refine wpList_append_own _ rfl _ _ 42 rfl w.heap.size 45 i0 (.agg #[.int .i64 0, .int .i64 0]) 2 16 Try.underlying42 hi hz0 hz1 hz2 rfl (by decide) _ _ _ rfl (hown.alloc _) ⟨w2.heap.size, 0, none⟩ 1 1 [.int .i64 (x + ((i : Int) - 1)), .int .i64 (y + ((j : Int) - 1))] rfl rfl (cell_two_at (by simp)) (by simp [Value.oneCell']) HB1.out HB2.out (HLE _) (fun v' w1 hown' hgrow _ => ?_); have HS := HNEXT.out _ _ _ hgrow hown'; clear hgrow hown' hown)
            go_roundw
            case rel => exact ⟨i + 1, by omega, by congr 1; omega, HS⟩
            case measure => simp [intOf]; omega
          · have hne1 : ((i : Int) - 1 == 0) = false := by simp; omega
            have hne2 : ((j : Int) - 1 == 0) = true := by simp; omega
            have hok : okStep true ((i : Int) - 1) ((j : Int) - 1) = true := by unfold okStep; rw [hne1, hne2]; rfl
            have hne1q : ((i : Int) - 1 != 0) = true := by unfold bne; rw [hne1]; rfl
            have hne2q : ((j : Int) - 1 != 0) = false := by unfold bne; rw [hne2]; rfl
            clear hi1 hj1
            have HQ := Lib.hid (HY.out hok)
            have HNEXT : Hid (∀ (o : Obj) (v' : Value) (w1 : World), (w2.alloc o).grownBy w1 u7.ownBlock → w1.ownsRow w.heap.size 45 2 v' ((F (j * 3 + i)).length + 1) ((flatP (F (j * 3 + i))).map (Value.int .i64) ++ [.int .i64 (x + ((i : Int) - 1)), .int .i64 (y + ((j : Int) - 1))]) → Hid (ArSt w v' (F (j * 3 + (i + 1))) w1)) := fun o v' w1 hgrow hown' => ArSt.next HS.out HQ.out hgrow hown'
            clear HS HN HY hok HQ
            generalize F (j * 3 + i) = ps at *
            go_wp2_with (at_builtin; refine wpList_append_own _ rfl _ _ 42 rfl w.heap.size 45 i0 (.agg #[.int .i64 0, .int .i64 0]) 2 16 Try.underlying42 hi hz0 hz1 hz2 rfl (by decide) _ _ _ rfl (hown.alloc _) ⟨w2.heap.size, 0, none⟩ 1 1 [.int .i64 (x + ((i : Int) - 1)), .int .i64 (y + ((j : Int) - 1))] rfl rfl (cell_two_at (by simp)) (by simp [Value.oneCell']) HB1.out HB2.out (HLE _) (fun v' w1 hown' hgrow _ => ?_); have HS := HNEXT.out _ _ _ hgrow hown'; clear hgrow hown' hown)
            go_roundw
            case rel => exact ⟨i + 1, by omega, by congr 1; omega, HS⟩
            case measure => simp [intOf]; omega
          · have hne1 : ((i : Int) - 1 == 0) = false := by simp; omega
            have hne2 : ((j : Int) - 1 == 0) = false := by simp; omega
            have hok : okStep false ((i : Int) - 1) ((j : Int) - 1) = false := by unfold okStep; rw [hne1, hne2]; rfl
            have hne1q : ((i : Int) - 1 != 0) = true := by unfold bne; rw [hne1]; rfl
            have hne2q : ((j : Int) - 1 != 0) = true := by unfold bne; rw [hne2]; rfl
            clear hi1 hj1
            have HS : Hid (ArSt w u7 (F (j * 3 + (i + 1))) w2) := by
              rw [HN.out hok]
              exact HS
            clear HN HY hown hok
            go_wp2
            go_roundw
            case rel => exact ⟨i + 1, by omega, by congr 1; omega, HS⟩
            case measure => simp [intOf]; omega
          · have hne1 : ((i : Int) - 1 == 0) = false := by simp; omega
            have hne2 : ((j : Int) - 1 == 0) = false := by simp; omega
            have hok : okStep true ((i : Int) - 1) ((j : Int) - 1) = true := by unfold okStep; rw [hne1, hne2]; rfl
            have hne1q : ((i : Int) - 1 != 0) = true := by unfold bne; rw [hne1]; rfl
            have hne2q : ((j : Int) - 1 != 0) = true := by unfold bne; rw [hne2]; rfl
            clear hi1 hj1
            have HQ := Lib.hid (HY.out hok)
            have HNEXT : Hid (∀ (o : Obj) (v' : Value) (w1 : World), (w2.alloc o).grownBy w1 u7.ownBlock → w1.ownsRow w.heap.size 45 2 v' ((F (j * 3 + i)).length + 1) ((flatP (F (j * 3 + i))).map (Value.int .i64) ++ [.int .i64 (x + ((i : Int) - 1)), .int .i64 (y + ((j : Int) - 1))]) → Hid (ArSt w v' (F (j * 3 + (i + 1))) w1)) := fun o v' w1 hgrow hown' => ArSt.next HS.out HQ.out hgrow hown'
            clear HS HN HY hok HQ
            generalize F (j * 3 + i) = ps at *
            go_wp2_with (at_builtin; refine wpList_append_own _ rfl _ _ 42 rfl w.heap.size 45 i0 (.agg #[.int .i64 0, .int .i64 0]) 2 16 Try.underlying42 hi hz0 hz1 hz2 rfl (by decide) _ _ _ rfl (hown.alloc _) ⟨w2.heap.size, 0, none⟩ 1 1 [.int .i64 (x + ((i : Int) - 1)), .int .i64 (y + ((j : Int) - 1))] rfl rfl (cell_two_at (by simp)) (by simp [Value.oneCell']) HB1.out HB2.out (HLE _) (fun v' w1 hown' hgrow _ => ?_); have HS := HNEXT.out _ _ _ hgrow hown'; clear hgrow hown' hown)
            go_roundw
            case rel => exact ⟨i + 1, by omega, by congr 1; omega, HS⟩
            case measure => simp [intOf]; omega
        · have : i = 3 := by omega
          subst this
          go_wp2
          go_roundw
          case rel => exact ⟨j + 1, by omega, by congr 1; omega, by rw [Nat.succ_mul]; exact HS⟩
          case measure => simp [intOf]; omega
    · have : j = 3 := by omega
      subst this
      have HR : Hid (PairsRet w res (.returned u7) wr) := by
        have h := HS.out
        rw [HALL.out] at h
        exact GrowP.ret h.1 h.2
      go_wp2
      go_ret
      exact HR.out
end Go.Proofs.Ythgkmaccbcpaeaa
