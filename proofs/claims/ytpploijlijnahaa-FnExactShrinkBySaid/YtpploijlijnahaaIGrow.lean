/- The program's GrowBy. -/
import Derived.Test.YtpploijlijnahaaISpots
namespace Go.Proofs.Ytpploijlijnahaa
open Go.RowKit
def InBox (n : Int) (p : Int × Int) : Prop := 0 ≤ p.1 ∧ p.1 ≤ n ∧ 0 ≤ p.2 ∧ p.2 ≤ n
set_option maxHeartbeats 400000 in
theorem grow111_any (pk px py pb : Nat) (kind d x y : Int) (q : Int × Int) (w : World) (hk : w.cell? ⟨pk, 0, none⟩ = some (.int .i64 kind)) (hpx : w.cell? ⟨px, 0, none⟩ = some (.int .i64 x)) (hpy : w.cell? ⟨py, 0, none⟩ = some (.int .i64 y)) (hd : w.cell? ⟨pb, 0, none⟩ = some (.int .i64 d))
    (bx : 0 ≤ x ∧ x ≤ 40) (by' : 0 ≤ y ∧ y ≤ 40) (bq : InBox 40 q) :
    Calls Try.prog 146 #[spotV q, .pointer (some ⟨pk, 0, none⟩), .pointer (some ⟨px, 0, none⟩), .pointer (some ⟨py, 0, none⟩), .pointer (some ⟨pb, 0, none⟩)] w fun e w' => e = .returned (.bool (decide (farI kind q (x, y) ≤ d))) ∧ w.Ext w' := by
  have h1 := World.block_lt_of_cell? _ _ hk
  have h2 := World.block_lt_of_cell? _ _ hpx
  have h3 := World.block_lt_of_cell? _ _ hpy
  have h4 := World.block_lt_of_cell? _ _ hd
  obtain ⟨q1, q2, q3, q4⟩ := bq
  have HF := Lib.hid (fun w => far_any kind q (x, y) w (by omega) (by omega) (by dsimp only; omega) (by dsimp only; omega) _ rfl)
  generalize farI kind q (x, y) = z at HF ⊢
  obtain ⟨qx, qy⟩ := q
  unfold spotV at HF ⊢
  dsimp only at HF ⊢
  clear q1 q2 q3 q4 bx by'
  go_enter Try.func146, Try.ntmps146
  go_wp2_with fail
  refine wp_region_over_lit (by kernel_rfl) (by kernel_rfl) ?_; (repeat (go_big_quiet_step ((go_at_call 147; exact Calls.over_of (HF.out _))))); refine wpQuiet_nil ?_; rintro _ ⟨x1, rfl⟩
  go_wp2
  go_ret
  refine ⟨rfl, ?_⟩
  repeat (first | exact World.Ext.refl _ | exact ⟨_, rfl⟩ | assumption | refine World.Ext.over ?_ _ | refine World.Ext.drewN ?_ _ | refine World.Ext.drew ?_ | refine World.Ext.alloc ?_ _ | refine World.Ext.setCell ?_ (by simp) _)
theorem enters_grow111 : Enters 146 := enters_of Try.func146 (by kernel_rfl) (by kernel_rfl)
theorem enters_grow11 : Enters 144 := enters_of Try.func144 (by kernel_rfl) (by kernel_rfl)
theorem enters_grow1 : Enters 142 := enters_of Try.func142 (by kernel_rfl) (by kernel_rfl)
def AllBox (n : Int) (ps : List (Int × Int)) : Prop := ∀ i, i < ps.length → InBox n (ps.getD i (0, 0))
set_option maxHeartbeats 400000 in
theorem grow11_any (pl pk pb : Nat) (kind d x y : Int) (a : Option Addr) (c : Nat) (ps : List (Int × Int)) (w : World) (hn : ps.length ≤ 1048576) (hm : RowP w a ps) (hb : AllBox 40 ps)
    (hl : w.cell? ⟨pl, 0, none⟩ = some (.slice a ps.length c)) (hk : w.cell? ⟨pk, 0, none⟩ = some (.int .i64 kind)) (hd : w.cell? ⟨pb, 0, none⟩ = some (.int .i64 d)) (bx : 0 ≤ x ∧ x ≤ 40) (by' : 0 ≤ y ∧ y ≤ 40) :
    Calls Try.prog 144 #[.int .i64 x, .int .i64 y, .pointer (some ⟨pl, 0, none⟩), .pointer (some ⟨pk, 0, none⟩), .pointer (some ⟨pb, 0, none⟩)] w fun e w' => e = .returned (.bool (ps.any fun q => decide (farI kind q (x, y) ≤ d))) ∧ w.Ext w' := by
  have h3 := World.block_lt_of_cell? _ _ hl
  have hx0 : w.Ext ((w.alloc (.cells #[.int .i64 x] 2)).alloc (.cells #[.int .i64 y] 2)) := by repeat (first | exact World.Ext.refl _ | exact ⟨_, rfl⟩ | assumption | refine World.Ext.over ?_ _ | refine World.Ext.drewN ?_ _ | refine World.Ext.drew ?_ | refine World.Ext.alloc ?_ _ | refine World.Ext.setCell ?_ (by simp) _)
  have HA := Lib.hid (some_any a c 146 #[.pointer (some ⟨pk, 0, none⟩), .pointer (some ⟨w.heap.size, 0, none⟩), .pointer (some ⟨w.heap.size + 1, 0, none⟩), .pointer (some ⟨pb, 0, none⟩)] ps (fun q => decide (farI kind q (x, y) ≤ d)) _ hn (hm.ext hx0) enters_grow111 (fun w' hx i hi =>
    grow111_any _ _ _ _ kind d x y _ w' ((hx0.trans hx).cell hk) (hx.cell (by simp [go_sem])) (hx.cell (by simp [go_sem])) ((hx0.trans hx).cell hd) bx by' (hb i hi)))
  generalize (ps.any fun q => decide (farI kind q (x, y) ≤ d)) = t at HA ⊢
  have HX0 := Lib.hid hx0
  clear hx0 hn hm hb bx by' hk hd
  go_enter Try.func144, Try.ntmps144
  go_wp2_with fail
  refine HA.out.mono ?_
  rintro e w2 ⟨rfl, hx⟩
  go_wp2
  go_ret
  exact ⟨rfl, HX0.out.trans hx⟩
theorem spotsTo_box (W H : Nat) (l : List Bool) (hW : W ≤ 41) (hH : H ≤ 41) : AllBox 40 (spotsTo W l (H * W)) := by
  intro i hi
  have hmem : (spotsTo W l (H * W)).getD i (0, 0) ∈ spotsTo W l (H * W) := by
    rw [List.getD_eq_getElem?_getD, List.getElem?_eq_getElem hi]
    exact List.getElem_mem hi
  generalize (spotsTo W l (H * W)).getD i (0, 0) = q at hmem
  unfold spotsTo at hmem
  rw [List.mem_map] at hmem
  obtain ⟨k, hk, rfl⟩ := hmem
  have hk' : k < H * W := by
    have := (List.mem_filter.1 hk).1
    simpa using this
  have hW0 : 0 < W := by
    rcases Nat.eq_zero_or_pos W with e | e
    · rw [e] at hk'; simp at hk'
    · exact e
  have h1 : k % W < W := Nat.mod_lt _ hW0
  have h2 : k / W < H := Nat.div_lt_of_lt_mul (by rw [Nat.mul_comm]; exact hk')
  generalize k % W = r at *
  generalize k / W = s at *
  refine ⟨?_, ?_, ?_, ?_⟩ <;> dsimp only <;> omega
def growI (kind d : Int) (W H : Nat) (l : List Bool) (x y : Nat) : Bool := (spotsTo W l (H * W)).any fun q => decide (farI kind q (x, y) ≤ d)
set_option maxRecDepth 5000 in
set_option maxHeartbeats 800000 in
theorem grow1_any (pk pb b ab W H : Nat) (kind d : Int) (l : List Bool) (w : World) (hW : W ≤ 40) (hH : H ≤ 40) (hI : Img w b ab W H l) (hk : w.cell? ⟨pk, 0, none⟩ = some (.int .i64 kind)) (hd : w.cell? ⟨pb, 0, none⟩ = some (.int .i64 d)) :
    Calls Try.prog 142 #[.pointer (some ⟨b, 0, none⟩), .pointer (some ⟨pk, 0, none⟩), .pointer (some ⟨pb, 0, none⟩)] w (ImgRet w W H (mkl W H (growI kind d W H l))) := by
  have HSP := Lib.hid (spots_any b ab W H l w (by omega) (by omega) hI)
  have HMD : Hid (∀ w' a c pl, w.Ext w' → w'.cell? ⟨pl, 0, none⟩ = some (.slice a (spotsTo W l (H * W)).length c) → RowP w' a (spotsTo W l (H * W)) → Calls Try.prog 92 #[.int .i64 W, .int .i64 H, .func (.func 144) #[] #[.pointer (some ⟨pl, 0, none⟩), .pointer (some ⟨pk, 0, none⟩), .pointer (some ⟨pb, 0, none⟩)]] w' (ImgRet w' W H (mkl W H (growI kind d W H l)))) := fun w' a c pl hx hc hr =>
    made_any W H 144 _ _ w' (by omega) (by omega) enters_grow11 fun w2 hx2 x y h1 h2 =>
      grow11_any pl pk pb kind d x y a c _ w2 (Nat.le_trans (spotsTo_len _ _ _) (Nat.le_trans (Nat.mul_le_mul hH hW) (by decide))) (hr.ext hx2) (spotsTo_box W H l (by omega) (by omega)) (hx2.cell hc) ((hx.trans hx2).cell hk) ((hx.trans hx2).cell hd) (by omega) (by omega)
  have HI := Lib.hid hI
  clear hI hk hd
  generalize mkl W H (growI kind d W H l) = R at *
  generalize spotsTo W l (H * W) = ps at *
  go_enter Try.func142, Try.ntmps142
  go_wp2_with fail
  refine HSP.out.mono ?_
  rintro e w2 ⟨a, c, rfl, hx2, ho2⟩
  have hI2 := HI.out.ext hx2
  have c0 := hI2.c0
  have c1 := hI2.c1
  have lb := hI2.lt
  have hx3 : w2.Ext (w2.alloc (.cells #[.slice a ps.length c] 34)) := by repeat (first | exact World.Ext.refl _ | exact ⟨_, rfl⟩ | assumption | refine World.Ext.over ?_ _ | refine World.Ext.drewN ?_ _ | refine World.Ext.drew ?_ | refine World.Ext.alloc ?_ _ | refine World.Ext.setCell ?_ (by simp) _)
  have HM := Lib.hid (fun w' (hx : World.Ext _ w') => HMD.out w' a c w2.heap.size ((hx2.trans hx3).trans hx) (hx.cell (by simp [go_sem])) ((ho2.row.ext hx3).ext hx))
  have HX2 := Lib.hid (hx2.trans hx3)
  clear hx2 ho2 hI2 hx3 HSP HMD
  go_wp2_with fail
  refine wp_region_over_tail 9 (by kernel_rfl) (by kernel_rfl) ?_; simp only [List.take_succ_cons, List.take_zero, List.drop_succ_cons, List.drop_zero]; (repeat (go_big_quiet_step (fail))); refine wpQuiet_nil ?_; rintro _ ⟨x1, rfl⟩
  go_wp2_with fail
  refine (HM.out _ ⟨x1, rfl⟩).mono ?_
  rintro e w3 ⟨b2, ab2, rfl, hx3, hi3, hb3, hab3⟩
  have hz := HX2.out.size
  have HR := Lib.hid (And.intro ((HX2.out.over x1).trans hx3) hi3)
  have hb4 : w.heap.size ≤ b2 := by simp at hz hb3; omega
  have hab4 : w.heap.size ≤ ab2 := by simp at hz hab3; omega
  clear hx3 hi3 hb3 hab3 hz
  go_wp2
  go_ret
  exact ⟨b2, ab2, rfl, HR.out.1, HR.out.2, hb4, hab4⟩
end Go.Proofs.Ytpploijlijnahaa
