/- The program's pictures made of an image; its black pixels; tables of numbers. -/
import Derived.Test.YtkpgelhmeokemaaGreatDoorPic
namespace Go.Proofs.YtkpgelhmeokemaaGreatDoor
open Go.RowKit
end Go.Proofs.YtkpgelhmeokemaaGreatDoor
namespace Go
open Go.RowKit
end Go
namespace Go.Proofs.YtkpgelhmeokemaaGreatDoor
open Go.RowKit
/-- A picture and whether there is one are returned, in new memory. -/
def PicRet2 (w : World) (R : List ByteArray) (ok : Bool) (e : Ending) (w' : World) : Prop :=
  ∃ a c, e = .returned (.tuple #[.agg #[.slice a R.length c], .bool ok]) ∧ w.Ext w' ∧ OwnOf Value.string ByteArray.empty w.heap.size w'.heap.size w' a R
def rowsIf (ss : List ByteArray) (ok : Bool) (g : Nat → Nat → Bool) : List ByteArray := if ok then picRows (picW ss) ss.length (mkl (picW ss) ss.length g) else []
/-- What a picture is made of: a new image, or none. -/
def DoRet (w : World) (good : Bool) (W H : Nat) (l : List Bool) (e : Ending) (w' : World) : Prop :=
  if good then ImgRet w W H l e w' else e = .returned (.pointer none) ∧ w.Ext w'
theorem DoRet.no {w w' : World} {W H : Nat} {l : List Bool} {e : Ending} (h : DoRet w false W H l e w') : e = .returned (.pointer none) ∧ w.Ext w' := h
theorem DoRet.yes {w w' : World} {W H : Nat} {l : List Bool} {e : Ending} (h : DoRet w true W H l e w') : ImgRet w W H l e w' := h
def optRows (ok : Bool) (R : List ByteArray) : List ByteArray := if ok then R else []
theorem optRows_and (a b : Bool) (R : List ByteArray) : optRows (a && (b && true)) R = optRows (b && a) R := by cases a <;> cases b <;> rfl
theorem rowsIf_opt (ss : List ByteArray) (ok : Bool) (g : Nat → Nat → Bool) : rowsIf ss ok g = optRows ok (picRows (picW ss) ss.length (mkl (picW ss) ss.length g)) := rfl
theorem optRows_le (ok : Bool) (W H : Nat) (l : List Bool) (h : H ≤ 1048576) : (optRows ok (picRows W H l)).length ≤ 1048576 := by
  cases ok
  · simp [optRows]
  · simp [optRows, picRows_len, h]
end Go.Proofs.YtkpgelhmeokemaaGreatDoor
namespace Go
open Go.RowKit
end Go
namespace Go.Proofs.YtkpgelhmeokemaaGreatDoor
open Go.RowKit
theorem Tryz.infoSpot : (Tryz.prog.info? 63).map (fun i => (i.zero, i.size, i.bytes)) = some (some (.agg #[.int .i64 0, .int .i64 0]), 2, 16) := by kernel_rfl
/-- The black ones of the first k pixels. -/
def spotsTo (W : Nat) (l : List Bool) (k : Nat) : List (Int × Int) := ((List.range k).filter fun i => l.getD i false).map fun i => (((i % W : Nat) : Int), ((i / W : Nat) : Int))
theorem spotsTo_no {W : Nat} {l : List Bool} {k : Nat} (h : l.getD k false = false) : spotsTo W l (k + 1) = spotsTo W l k := by
  unfold spotsTo
  rw [List.range_succ, List.filter_append, List.filter_cons_of_neg (by rw [h]; decide), List.filter_nil, List.append_nil]
theorem spotsTo_yes {W : Nat} {l : List Bool} {x y : Nat} (hx : x < W) (h : l.getD (y * W + x) false = true) : spotsTo W l (y * W + x + 1) = spotsTo W l (y * W + x) ++ [((x : Int), (y : Int))] := by
  unfold spotsTo
  have e1 : (y * W + x) % W = x := by rw [Nat.mul_comm, Nat.mul_add_mod, Nat.mod_eq_of_lt hx]
  have e2 : (y * W + x) / W = y := by rw [Nat.mul_comm, Nat.mul_add_div (by omega), Nat.div_eq_of_lt hx]; rfl
  rw [List.range_succ, List.filter_append, List.map_append, List.filter_cons_of_pos (by rw [h]), List.filter_nil, List.map_cons, e1, e2]
  rfl
theorem spotsTo_len (W : Nat) (l : List Bool) (k : Nat) : (spotsTo W l k).length ≤ k := by
  unfold spotsTo
  rw [List.length_map]
  exact Nat.le_trans (List.length_filter_le _ _) (by simp)
/-- Pairs are returned, in new memory. -/
def PairsRet (w : World) (ps : List (Int × Int)) (e : Ending) (w' : World) : Prop := ∃ a c, e = .returned (.slice a ps.length c) ∧ w.Ext w' ∧ OwnP w.heap.size w'.heap.size w' a ps
def InBox (n : Int) (p : Int × Int) : Prop := 0 ≤ p.1 ∧ p.1 ≤ n ∧ 0 ≤ p.2 ∧ p.2 ≤ n
def AllBox (n : Int) (ps : List (Int × Int)) : Prop := ∀ i, i < ps.length → InBox n (ps.getD i (0, 0))
theorem spotsTo_box (W H : Nat) (l : List Bool) (hW : W ≤ 41) (hH : H ≤ 41) : AllBox 40 (spotsTo W l (H * W)) := by
  intro i hi
  have hmem : (spotsTo W l (H * W)).getD i (0, 0) ∈ spotsTo W l (H * W) := by
    rw [List.getD_eq_getElem?_getD, List.getElem?_eq_getElem hi]
    exact List.getElem_mem hi
  generalize (spotsTo W l (H * W)).getD i (0, 0) = q at hmem
  unfold spotsTo at hmem
  rw [List.mem_map] at hmem
  obtain ⟨k, hk, rfl⟩ := hmem
  have hk' : k < H * W := by
    have := (List.mem_filter.1 hk).1
    simpa using this
  have hW0 : 0 < W := by
    rcases Nat.eq_zero_or_pos W with e | e
    · rw [e] at hk'; simp at hk'
    · exact e
  have h1 : k % W < W := Nat.mod_lt _ hW0
  have h2 : k / W < H := Nat.div_lt_of_lt_mul (by rw [Nat.mul_comm]; exact hk')
  generalize k % W = r at *
  generalize k / W = s at *
  refine ⟨?_, ?_, ?_, ?_⟩ <;> dsimp only <;> omega
theorem allBox_mem {n : Int} {ps : List (Int × Int)} (h : AllBox n ps) {q : Int × Int} (hq : q ∈ ps) : InBox n q := by
  obtain ⟨i, hi, rfl⟩ := List.getElem_of_mem hq
  have := h i hi
  rwa [List.getD_eq_getElem?_getD, List.getElem?_eq_getElem hi] at this
theorem mkl_congr {W H : Nat} {g h : Nat → Nat → Bool} (e : ∀ x y, x < W → y < H → g x y = h x y) : mkl W H g = mkl W H h := by
  unfold mkl
  refine List.map_congr_left fun k hk => ?_
  have hk' : k < H * W := by simpa using hk
  have hW0 : 0 < W := by
    rcases Nat.eq_zero_or_pos W with e | e
    · rw [e] at hk'; simp at hk'
    · exact e
  exact e _ _ (Nat.mod_lt _ hW0) (Nat.div_lt_of_lt_mul (by rw [Nat.mul_comm]; exact hk'))
end Go.Proofs.YtkpgelhmeokemaaGreatDoor
namespace Go.Proofs.YtkpgelhmeokemaaGreatDoor
open Go.RowKit
theorem Tryz.infoI64G : (Tryz.prog.info? 2).map (fun i => (i.zero, i.size, i.bytes)) = some (some (.int .i64 0), 1, 8) := by kernel_rfl
theorem Tryz.infoRowG : (Tryz.prog.info? 57).map (fun i => (i.zero, i.size, i.bytes)) = some (some (.slice none 0 0), 1, 24) := by kernel_rfl
/-- A table is returned, in new memory. -/
def MatRet (w : World) (m : List (List Int)) (e : Ending) (w' : World) : Prop := ∃ a c A C, e = .returned (.slice a m.length c) ∧ w.Ext w' ∧ GrowM w.heap.size 57 2 w' (.slice a m.length c) A C m
/-- The state at the head of the loop over the rows. -/
def GrdSt (w : World) (W : Nat) (g : Nat → Nat → Int) (v : Value) (y : Nat) (wr : World) : Prop := ∃ A C, w.Ext wr ∧ GrowM w.heap.size 57 2 wr v A C (grd W y g)
theorem GrdSt.ext {w : World} {W : Nat} {g : Nat → Nat → Int} {v : Value} {y : Nat} {wr w' : World} (h : GrdSt w W g v y wr) (hx : wr.Ext w') : GrdSt w W g v y w' :=
  let ⟨A, C, h1, h2⟩ := h; ⟨A, C, h1.trans hx, h2.ext hx⟩
theorem GrdSt.x {w : World} {W : Nat} {g : Nat → Nat → Int} {v : Value} {y : Nat} {wr : World} (h : GrdSt w W g v y wr) : w.Ext wr := let ⟨_, _, h1, _⟩ := h; h1
/-- .. and within a row, that began in the world w1. -/
def RowSt (w1 : World) (g : Nat → Nat → Int) (u : Value) (y x : Nat) (wr : World) : Prop := w1.Ext wr ∧ GrowOf (Value.int .i64) w1.heap.size 2 wr u (grdRow g y x)
theorem RowSt.ext {w1 : World} {g : Nat → Nat → Int} {u : Value} {y x : Nat} {wr w' : World} (h : RowSt w1 g u y x wr) (hx : wr.Ext w') : RowSt w1 g u y x w' := ⟨h.1.trans hx, h.2.ext hx⟩
theorem RowSt.start (w1 : World) (g : Nat → Nat → Int) (y : Nat) : RowSt w1 g (.slice (some ⟨w1.heap.size, 0, none⟩) 0 0) y 0 (w1.alloc (.cells #[] 2)) := ⟨by repeat (first | exact World.Ext.refl _ | exact ⟨_, rfl⟩ | assumption | refine World.Ext.over ?_ _ | refine World.Ext.drewN ?_ _ | refine World.Ext.drew ?_ | refine World.Ext.alloc ?_ _ | refine World.Ext.setCell ?_ (by simp) _), GrowOf.empty _ (Nat.le_refl _)⟩
theorem RowSt.next {w1 w3 : World} {g : Nat → Nat → Int} {u : Value} {y x : Nat} (h : RowSt w1 g u y x w3) {o : Obj} {v' : Value} {w4 : World} (hgrow : (w3.alloc o).grownBy w4 u.ownBlock) (hown : w4.ownsRow w1.heap.size 2 1 v' ((grdRow g y x).length + 1) ((grdRow g y x).map (Value.int .i64) ++ [.int .i64 (g x y)])) :
    RowSt w1 g v' y (x + 1) w4 := ⟨h.2.pushExt h.1 hgrow, by rw [grdRow_succ]; exact GrowOf.push hown⟩
theorem GrdSt.next {w w1 w3 w4 : World} {W : Nat} {g : Nat → Nat → Int} {v v' : Value} {y : Nat} {A : Nat → Option Addr} {C : Nat → Nat} {a : Option Addr} {c : Nat} {o : Obj} (hx0 : w.Ext w1) (hm : GrowM w.heap.size 57 2 w1 v A C (grd W y g)) (hr : RowSt w1 g (.slice a W c) y W w3)
    (hgrow : (w3.alloc o).grownBy w4 v.ownBlock) (hown : w4.ownsRow w.heap.size 57 1 v' ((grd W y g).length + 1) ((List.range (grd W y g).length).map (fun r => Value.slice (A r) ((grd W y g).getD r []).length (C r)) ++ [.slice a W c])) : GrdSt w W g v' (y + 1) w4 := by
  have e := grdRow_len g y W
  refine ⟨fun r => if r = (grd W y g).length then a else A r, fun r => if r = (grd W y g).length then c else C r, hm.pushExt hx0 hr.1 hgrow, ?_⟩
  rw [grd_succ]
  exact hm.push (by decide) hr.1 (by rw [e]; exact hr.2) hx0.size hgrow (by rw [e]; exact hown)
theorem RowSt.form {w1 w3 : World} {g : Nat → Nat → Int} {u : Value} {y x : Nat} (h : RowSt w1 g u y x w3) : ∃ a c, u = .slice a x c := by
  obtain ⟨a, c, e, _⟩ := h.2.form
  rw [grdRow_len] at e
  exact ⟨a, c, e⟩
theorem GrdSt.ret {w wr : World} {W H : Nat} {g : Nat → Nat → Int} {v : Value} (h : GrdSt w W g v H wr) : MatRet w (grd W H g) (.returned v) wr := by
  obtain ⟨A, C, hx, hm⟩ := h
  obtain ⟨a, c, rfl, _⟩ := World.ownsRow.form hm.outer
  exact ⟨a, c, A, C, rfl, hx, hm⟩
theorem GrdSt.start {w w1 : World} (hx : w.Ext w1) (W : Nat) (g : Nat → Nat → Int) : GrdSt w W g (.slice (some ⟨w1.heap.size, 0, none⟩) 0 0) 0 (w1.alloc (.cells #[] 57)) := ⟨_, _, hx.alloc _, GrowM.empty _ hx.size⟩
set_option maxRecDepth 5000 in
set_option maxHeartbeats 1600000 in
theorem grid_any (b ab f W H : Nat) (l : List Bool) (caps : Array Value) (g : Nat → Nat → Int) (w : World) (hW : W ≤ 64) (hH : H ≤ 64) (hI : Img w b ab W H l) (he : Enters f)
    (hf : ∀ w', w.Ext w' → ∀ x y : Nat, x < W → y < H → Calls Tryz.prog f (#[.int .i64 x, .int .i64 y] ++ caps) w' fun e w'' => e = .returned (.int .i64 (g x y)) ∧ w'.Ext w'') :
    Calls Tryz.prog 22 #[.pointer (some ⟨b, 0, none⟩), .func (.func f) #[] caps] w (MatRet w (grd W H g)) := by
  obtain ⟨i0, hi, hz0, hz1, hz2⟩ := info_parts Tryz.infoI64G
  obtain ⟨j0, hj, hy0, hy1, hy2⟩ := info_parts Tryz.infoRowG
  have HF := Lib.hid hf
  have HI := Lib.hid hI
  have h0 := hI.c0
  have h1 := hI.c1
  have lb := hI.lt
  unfold Enters at he
  have HST := Lib.hid (GrdSt.start (.refl w) W g)
  clear hf hI
  go_enter Tryz.func22, Tryz.ntmps22
  go_wp2
  clear h0 h1 lb
  go_loopw [5, 6, 7, 8, 14] (fun v _ _ _ i wr => ∃ y : Nat, y ≤ H ∧ i = .int .i64 y ∧ Hid (GrdSt w W g v y wr)) (fun _ _ _ _ i _ => H - (intOf i).toNat)
  case atStart => exact ⟨0, Nat.zero_le _, rfl, HST⟩
  case round =>
    obtain ⟨y, hy, rfl, HS⟩ := hrel
    clear HST
    obtain ⟨wo, rfl⟩ : ∃ wo : World, wo = wr := ⟨_, rfl⟩
    by_cases hlty : y < H
    · have hlty' : (y : Int) < (H : Int) := by omega
      have c0 := (HI.out.ext (HS.out.x)).c0
      have lb := World.block_lt_of_cell? _ _ c0
      have HR0 := Lib.hid (RowSt.start wo g y)
      go_wp2
      clear c0 lb
      go_loopw [7, 8, 22] (fun u _ i wr => ∃ x : Nat, x ≤ W ∧ i = .int .i64 x ∧ Hid (RowSt wo g u y x wr)) (fun _ _ i _ => W - (intOf i).toNat)
      case atStart => exact ⟨0, Nat.zero_le _, rfl, HR0⟩
      case round =>
        obtain ⟨x, hx, rfl, HR⟩ := hrel
        clear HR0
        by_cases hltx : x < W
        · have hltx' : (x : Int) < (W : Int) := by omega
          have HC := Lib.hid (HF.out _ (HS.out.x.trans HR.out.1) x y hltx hlty)
          go_wp2_with fail
          refine HC.out.mono ?_
          rintro e w3 ⟨rfl, hx3⟩
          have HR3 := Lib.hid (HR.out.ext hx3)
          have hown := HR3.out.2
          unfold GrowOf at hown
          have HNEXT : Hid (∀ (o : Obj) (v' : Value) (w4 : World), (w3.alloc o).grownBy w4 u7.ownBlock → w4.ownsRow wo.heap.size 2 1 v' ((grdRow g y x).length + 1) ((grdRow g y x).map (Value.int .i64) ++ [.int .i64 (g x y)]) → Hid (RowSt wo g v' y (x + 1) w4)) := fun o v' w4 hgrow hown' => RowSt.next HR3.out hgrow hown'
          have HB1 : Hid ((grdRow g y x).length + 1 ≤ maxLen) := by show _ ≤ _; rw [grdRow_len]; unfold maxLen; omega
          have HB2 : Hid (((grdRow g y x).length + 1) * 8 ≤ 140737488355328) := by show _ ≤ _; rw [grdRow_len]; omega
          have HLE : ∀ o' : Obj, wo.heap.size ≤ (w3.alloc o').heap.size := fun o' => (HR3.out.1.alloc o').size
          clear hx3 HR HC
          generalize grdRow g y x = row at *
          generalize g x y = z at *
          go_wp2_with ((at_builtin; refine wpList_append_own _ rfl _ _ 57 rfl wo.heap.size 2 i0 (.int .i64 0) 1 8 Tryz.underlying57 hi hz0 hz1 hz2 rfl (by decide) _ _ _ rfl (hown.alloc _) ⟨w3.heap.size, 0, none⟩ 1 1 [.int .i64 z] rfl rfl (cell_one_new _ _ _) (by simp [Value.oneCell']) HB1.out HB2.out (HLE _) (fun v' w1 hown' hgrow _ => ?_)); have HR4 := HNEXT.out _ _ _ hgrow hown'; clear hgrow hown' hown)
          go_roundw
          case rel => exact ⟨x + 1, by omega, by go_num, HR4⟩
          case measure => simp [intOf]; omega
        · have : x = W := by omega
          subst this
          obtain ⟨A, C, hxo, hm⟩ := HS.out
          have hown := World.ownsRow.ext hm.outer HR.out.1
          obtain ⟨a, c, rfl⟩ := HR.out.form
          have HNEXT : Hid (∀ (o : Obj) (v' : Value) (w4 : World), (wr.alloc o).grownBy w4 u5.ownBlock → w4.ownsRow w.heap.size 57 1 v' ((grd x y g).length + 1) ((List.range (grd x y g).length).map (fun r => Value.slice (A r) ((grd x y g).getD r []).length (C r)) ++ [.slice a x c]) → Hid (GrdSt w x g v' (y + 1) w4)) := fun o v' w4 hgrow hown' => GrdSt.next hxo hm HR.out hgrow hown'
          have HB1 : Hid ((grd x y g).length + 1 ≤ maxLen) := by show _ ≤ _; rw [grd_len]; unfold maxLen; omega
          have HB2 : Hid (((grd x y g).length + 1) * 24 ≤ 140737488355328) := by show _ ≤ _; rw [grd_len]; omega
          have HLE : ∀ o' : Obj, w.heap.size ≤ (wr.alloc o').heap.size := fun o' => ((hxo.trans HR.out.1).alloc o').size
          clear HR hxo hm HS
          generalize (List.range (grd x y g).length).map (fun r => Value.slice (A r) ((grd x y g).getD r []).length (C r)) = pre at *
          generalize (grd x y g).length = n at *
          go_wp2_with ((at_builtin; refine wpList_append_own _ rfl _ _ 24 rfl w.heap.size 57 j0 (.slice none 0 0) 1 24 Tryz.underlying24 hj hy0 hy1 hy2 rfl (by decide) _ _ _ rfl (hown.alloc _) ⟨wr.heap.size, 0, none⟩ 1 1 [.slice a x c] rfl rfl (cell_one_new _ _ _) (by simp [Value.oneCell']) HB1.out HB2.out (HLE _) (fun v' w1 hown' hgrow _ => ?_)); have HS4 := HNEXT.out _ _ _ hgrow hown'; clear hgrow hown' hown)
          go_roundw
          case rel => exact ⟨y + 1, by omega, by go_num, HS4⟩
          case measure => simp [intOf]; omega
    · have : y = H := by omega
      subst this
      have HR := Lib.hid HS.out.ret
      obtain ⟨A, C, _, hm⟩ := HS.out
      obtain ⟨a, c, rfl, _⟩ := World.ownsRow.form hm.outer
      clear hm HS
      go_wp2
      go_ret
      exact HR.out
end Go.Proofs.YtkpgelhmeokemaaGreatDoor
