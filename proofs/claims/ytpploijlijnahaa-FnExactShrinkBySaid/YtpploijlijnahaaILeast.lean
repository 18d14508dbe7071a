/- The program's least distance. -/
import Derived.Test.YtpploijlijnahaaGrowF
namespace Go.Proofs.Ytpploijlijnahaa
open Go.RowKit
theorem least_step (ds : List Int) (h : ∀ d, d ∈ ds → 0 ≤ d) (k j : Nat) (hk : k < ds.length) (hj : j < ds.length) (he : ds.getD j 0 = leastD (ds.take (max 1 k))) :
    (ds.getD k 0 < ds.getD j 0 → ds.getD k 0 = leastD (ds.take (max 1 (k + 1)))) ∧ (ds.getD j 0 ≤ ds.getD k 0 → ds.getD j 0 = leastD (ds.take (max 1 (k + 1)))) := by
  have hmem : ∀ i, i < ds.length → 0 ≤ ds.getD i 0 := fun i hi => by
    rw [List.getD_eq_getElem?_getD, List.getElem?_eq_getElem hi]
    exact h _ (List.getElem_mem hi)
  by_cases k0 : k = 0
  · subst k0
    have e1 : ds.getD 0 0 = leastD (ds.take 1) := by
      cases ds with
      | nil => simp at hk
      | cons d ds => simp [leastD]
    rw [Nat.max_eq_left (by omega)] at he
    rw [Nat.max_eq_left (by omega), he, ← e1]
    exact ⟨fun _ => rfl, fun _ => rfl⟩
  · rw [Nat.max_eq_right (by omega)] at he
    rw [Nat.max_eq_right (by omega), List.take_succ_eq_append_getElem hk, leastD_snoc, ← he]
    have e2 : ds[k] = ds.getD k 0 := by rw [List.getD_eq_getElem?_getD, List.getElem?_eq_getElem hk]; rfl
    rw [e2]
    have := hmem j hj
    refine ⟨fun hlt => by rw [if_pos (.inr hlt)], fun hlt => by rw [if_neg (by omega)]⟩
def LeastRet (w : World) (d : Int) (e : Ending) (w' : World) : Prop := ∃ j : Nat, e = .returned (.tuple #[.int .i64 j, .int .i64 d]) ∧ w.Ext w'
def AllNear (ps : List (Int × Int)) : Prop := ∀ i, i < ps.length → -40 ≤ (ps.getD i (0, 0)).1 ∧ (ps.getD i (0, 0)).1 ≤ 40 ∧ -40 ≤ (ps.getD i (0, 0)).2 ∧ (ps.getD i (0, 0)).2 ≤ 40
theorem map_getD_far (kind : Int) (p : Int × Int) (ps : List (Int × Int)) (i : Nat) (hi : i < ps.length) : (ps.map (farI kind p)).getD i 0 = farI kind p (ps.getD i (0, 0)) := by
  simp [List.getD_eq_getElem?_getD, hi]
set_option maxRecDepth 5000 in
set_option maxHeartbeats 1600000 in
theorem least_any (kind fx fy : Int) (a : Option Addr) (c : Nat) (ps : List (Int × Int)) (w : World) (hpos : 0 < ps.length) (hn : ps.length ≤ 1048576) (hm : RowP w a ps) (hb : AllNear ps) (hfx : -40 ≤ fx ∧ fx ≤ 40) (hfy : -40 ≤ fy ∧ fy ≤ 40) :
    Calls Try.prog 187 #[.int .i64 kind, .agg #[.int .i64 fx, .int .i64 fy], .slice a ps.length c] w (LeastRet w (leastD (ps.map (farI kind (fx, fy))))) := by
  have hn2 : ps.length ≤ 4611686018427387904 := by omega
  have HF : Hid (∀ (i : Nat) (w' : World), i < ps.length → Calls Try.prog 147 #[.int .i64 kind, .agg #[.int .i64 fx, .int .i64 fy], .agg #[.int .i64 (ps.getD i (0, 0)).1, .int .i64 (ps.getD i (0, 0)).2]] w' fun e w'' => e = .returned (.int .i64 ((ps.map (farI kind (fx, fy))).getD i 0)) ∧ w'.Ext w'') := fun i w' hi => by
    obtain ⟨b1, b2, b3, b4⟩ := hb i hi
    rw [map_getD_far kind _ ps i hi]
    exact far_any kind (fx, fy) (ps.getD i (0, 0)) w' (by dsimp only; omega) (by dsimp only; omega) (by omega) (by omega) _ rfl
  have hnn : ∀ d, d ∈ ps.map (farI kind (fx, fy)) → 0 ≤ d := fun d hd => by
    obtain ⟨q, hq, rfl⟩ := List.mem_map.1 hd
    obtain ⟨i, hi, rfl⟩ := List.getElem_of_mem hq
    obtain ⟨b1, b2, b3, b4⟩ := hb i hi
    rw [List.getD_eq_getElem?_getD, List.getElem?_eq_getElem hi, Option.getD_some] at b1 b2 b3 b4
    exact (farI_bd kind (by dsimp only; omega) (by dsimp only; omega) (by omega) (by omega)).1
  have hdl : (ps.map (farI kind (fx, fy))).length = ps.length := by simp
  generalize ps.map (farI kind (fx, fy)) = ds at *
  have HSTEP : Hid (∀ k j : Nat, k < ps.length → j < ps.length → ds.getD j 0 = leastD (ds.take (max 1 k)) → (ds.getD k 0 < ds.getD j 0 → ds.getD k 0 = leastD (ds.take (max 1 (k + 1)))) ∧ (ds.getD j 0 ≤ ds.getD k 0 → ds.getD j 0 = leastD (ds.take (max 1 (k + 1))))) := fun k j hk hj he => least_step ds hnn k j (by omega) (by omega) he
  have H00 : Hid (ds.getD 0 0 = leastD (ds.take (max 1 0))) := by
    show _ = _
    cases ds with
    | nil => simp at hdl; omega
    | cons d ds => simp [leastD]
  have HEND : Hid (leastD (ds.take (max 1 ps.length)) = leastD ds) := by
    show _ = _
    rw [Nat.max_eq_right (by omega), ← hdl, List.take_length]
  have HM := Lib.hid hm
  have HX0 : Hid (w.Ext (w.alloc (.cells #[.int .i64 fx, .int .i64 fy] 52))) := by show World.Ext _ _; repeat (first | exact World.Ext.refl _ | exact ⟨_, rfl⟩ | assumption | refine World.Ext.over ?_ _ | refine World.Ext.drewN ?_ _ | refine World.Ext.drew ?_ | refine World.Ext.alloc ?_ _ | refine World.Ext.setCell ?_ (by simp) _)
  have d0 : (w.alloc (.cells #[.int .i64 fx, .int .i64 fy] 52)).cell? ⟨w.heap.size, 0, none⟩ = some (.int .i64 fx) := by simp [go_sem]
  have d1 : (w.alloc (.cells #[.int .i64 fx, .int .i64 fy] 52)).cell? ⟨w.heap.size, 1, none⟩ = some (.int .i64 fy) := by simp [go_sem]
  have HD := Lib.hid (And.intro d0 d1)
  clear hm hb hfx hfy hnn hdl hn d0 d1
  go_enter Try.func187, Try.ntmps187
  go_wp2
  generalize hW0 : w.alloc (.cells #[.int .i64 fx, .int .i64 fy] 52) = W0 at HX0 HD ⊢
  clear hW0
  obtain ⟨p4, hp4⟩ : ∃ p4, p4 = w.heap.size := ⟨_, rfl⟩
  rw [← hp4] at HD ⊢
  clear hp4
  go_loopw [8, 9, 10, 13] (fun bst _ _ i wr => ∃ k j : Nat, k ≤ ps.length ∧ i = .int .i64 k ∧ bst = .int .i64 j ∧ j < ps.length ∧ Hid (ds.getD j 0 = leastD (ds.take (max 1 k))) ∧ Hid (W0.Ext wr)) (fun _ _ _ i _ => ps.length - (intOf i).toNat)
  case atStart => exact ⟨0, 0, Nat.zero_le _, rfl, rfl, hpos, H00, .refl _⟩
  case round =>
    obtain ⟨k, j, hk, rfl, rfl, hj, HJ, HX⟩ := hrel
    clear H00
    obtain ⟨b, o, rfl, hc1, hc2⟩ := (HM.out.ext (HX0.out.trans HX.out)).at hj
    have hj0 : (0 : Int) ≤ (j : Int) := by omega
    have hj1 : (j : Int) < (ps.length : Int) := by omega
    have d0 := HX.out.cell HD.out.1
    have d1 := HX.out.cell HD.out.2
    have ld := World.block_lt_of_cell? _ _ d0
    have lb := World.block_lt_of_cell? _ _ hc1
    by_cases hlt : k < ps.length
    · obtain ⟨b', o', hbo, hd1, hd2⟩ := (HM.out.ext (HX0.out.trans HX.out)).at hlt
      cases hbo
      have hk0 : (0 : Int) ≤ (k : Int) := by omega
      have hk1 : (k : Int) < (ps.length : Int) := by omega
      have HFk := Lib.hid (fun w' => HF.out k w' hlt)
      have HFj := Lib.hid (fun w' => HF.out j w' hj)
      have HS := Lib.hid (HSTEP.out k j hlt hj HJ.out)
      generalize ps.getD k (0, 0) = q at hd1 hd2 HFk
      generalize ps.getD j (0, 0) = r at hc1 hc2 HFj
      obtain ⟨qx, qy⟩ := q
      obtain ⟨rx, ry⟩ := r
      dsimp only at hd1 hd2 hc1 hc2 HFk HFj
      by_cases hc : ds.getD k 0 < ds.getD j 0
      · have HE := Lib.hid (HS.out.1 hc)
        clear HS
        obtain ⟨dk, hdk⟩ : ∃ dk, dk = ds.getD k 0 := ⟨_, rfl⟩
        obtain ⟨dj, hdj⟩ : ∃ dj, dj = ds.getD j 0 := ⟨_, rfl⟩
        rw [← hdk] at HFk hc
        rw [← hdj] at HFj hc
        clear hdk hdj HJ
        go_wp2_with fail
        refine wp_region_over_lit (by kernel_rfl) (by kernel_rfl) ?_; (repeat (go_big_quiet_step ((first | (go_at_call_of 147 (Value.agg #[Value.int .i64 qx, Value.int .i64 qy]); exact Calls.over_of (HFk.out _)) | (go_at_call_of 147 (Value.agg #[Value.int .i64 rx, Value.int .i64 ry]); exact Calls.over_of (HFj.out _)))))); refine wpQuiet_nil ?_; rintro _ ⟨x1, rfl⟩
        go_wp2
        go_roundw
        case rel => exact ⟨k + 1, k, by omega, by go_num, rfl, hlt, HE, HX.out.trans (by repeat (first | exact World.Ext.refl _ | exact ⟨_, rfl⟩ | assumption | refine World.Ext.over ?_ _ | refine World.Ext.drewN ?_ _ | refine World.Ext.drew ?_ | refine World.Ext.alloc ?_ _ | refine World.Ext.setCell ?_ (by simp) _))⟩
        case measure => simp [intOf]; omega
      · have HE := Lib.hid (HS.out.2 (by omega))
        clear HS
        obtain ⟨dk, hdk⟩ : ∃ dk, dk = ds.getD k 0 := ⟨_, rfl⟩
        obtain ⟨dj, hdj⟩ : ∃ dj, dj = ds.getD j 0 := ⟨_, rfl⟩
        rw [← hdk] at HFk hc
        rw [← hdj] at HFj hc
        clear hdk hdj HJ
        go_wp2_with fail
        refine wp_region_over_lit (by kernel_rfl) (by kernel_rfl) ?_; (repeat (go_big_quiet_step ((first | (go_at_call_of 147 (Value.agg #[Value.int .i64 qx, Value.int .i64 qy]); exact Calls.over_of (HFk.out _)) | (go_at_call_of 147 (Value.agg #[Value.int .i64 rx, Value.int .i64 ry]); exact Calls.over_of (HFj.out _)))))); refine wpQuiet_nil ?_; rintro _ ⟨x1, rfl⟩
        go_wp2
        go_roundw
        case rel => exact ⟨k + 1, j, by omega, by go_num, rfl, hj, HE, HX.out.trans (by repeat (first | exact World.Ext.refl _ | exact ⟨_, rfl⟩ | assumption | refine World.Ext.over ?_ _ | refine World.Ext.drewN ?_ _ | refine World.Ext.drew ?_ | refine World.Ext.alloc ?_ _ | refine World.Ext.setCell ?_ (by simp) _))⟩
        case measure => simp [intOf]; omega
    · have : k = ps.length := by omega
      subst this
      have HFj := Lib.hid (fun w' => HF.out j w' hj)
      have HE : Hid (ds.getD j 0 = leastD ds) := HJ.out.trans HEND.out
      generalize ps.getD j (0, 0) = r at hc1 hc2 HFj
      obtain ⟨rx, ry⟩ := r
      dsimp only at hc1 hc2 HFj
      clear HJ HEND HSTEP
      rw [HE.out] at HFj
      go_wp2_with fail
      refine wp_region_over_lit (by kernel_rfl) (by kernel_rfl) ?_; (repeat (go_big_quiet_step ((go_at_call 147; exact Calls.over_of (HFj.out _))))); refine wpQuiet_nil ?_; rintro _ ⟨x1, rfl⟩
      go_wp2
      go_ret2
      exact ⟨j, rfl, (HX0.out.trans HX.out).trans (by repeat (first | exact World.Ext.refl _ | exact ⟨_, rfl⟩ | assumption | refine World.Ext.over ?_ _ | refine World.Ext.drewN ?_ _ | refine World.Ext.drew ?_ | refine World.Ext.alloc ?_ _ | refine World.Ext.setCell ?_ (by simp) _))⟩
end Go.Proofs.Ytpploijlijnahaa
