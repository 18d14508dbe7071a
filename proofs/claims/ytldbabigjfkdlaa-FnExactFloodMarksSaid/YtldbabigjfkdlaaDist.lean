/- Distances. -/
import Derived.Test.YtldbabigjfkdlaaWith
import Derived.Deep.RegionWith
namespace Go.Proofs.Ytldbabigjfkdlaa
open Go.RowKit
def mxI (a b : Int) : Int := if b < a then a else b
theorem mxI_abs {a : Int} (h : -100 ≤ a ∧ a ≤ 100) : 0 ≤ mxI a (-a) ∧ mxI a (-a) ≤ 100 := by unfold mxI; split <;> omega
theorem sq_bd {a : Int} (h0 : 0 ≤ a) (h1 : a ≤ 100) : 0 ≤ a * a ∧ a * a ≤ 10000 := ⟨Int.mul_nonneg h0 h0, by have := Int.mul_le_mul h1 h1 h0 (by omega : (0 : Int) ≤ 100); omega⟩
/-- The distance of a kind, of two spots that are dx and dy apart. -/
def farD (kind x y : Int) : Int := if kind = 0 then x + y else if kind = 1 then mxI x y else x * x + y * y
def farI (kind : Int) (p q : Int × Int) : Int := farD kind (mxI (p.1 - q.1) (q.1 - p.1)) (mxI (p.2 - q.2) (q.2 - p.2))
theorem mxI_diff {a b : Int} (h1 : -50 ≤ a ∧ a ≤ 50) (h2 : -50 ≤ b ∧ b ≤ 50) : 0 ≤ mxI (a - b) (b - a) ∧ mxI (a - b) (b - a) ≤ 100 := by unfold mxI; split <;> omega
theorem farI_bd (kind : Int) {p q : Int × Int} (h1 : -50 ≤ p.1 ∧ p.1 ≤ 50) (h2 : -50 ≤ p.2 ∧ p.2 ≤ 50) (h3 : -50 ≤ q.1 ∧ q.1 ≤ 50) (h4 : -50 ≤ q.2 ∧ q.2 ≤ 50) : 0 ≤ farI kind p q ∧ farI kind p q ≤ 20000 := by
  obtain ⟨a0, a1⟩ := mxI_diff h1 h3
  obtain ⟨b0, b1⟩ := mxI_diff h2 h4
  unfold farI farD
  generalize mxI (p.1 - q.1) (q.1 - p.1) = x at *
  generalize mxI (p.2 - q.2) (q.2 - p.2) = y at *
  have s1 := sq_bd a0 a1
  have s2 := sq_bd b0 b1
  split
  · omega
  · split
    · unfold mxI; split <;> omega
    · omega
theorem farI_comm (kind : Int) (p q : Int × Int) : farI kind p q = farI kind q p := by
  unfold farI
  have h : ∀ a b : Int, mxI a b = mxI b a := fun a b => by unfold mxI; split <;> split <;> omega
  rw [h (p.1 - q.1), h (p.2 - q.2)]
set_option maxHeartbeats 400000 in
theorem l00Max_any (a b : Int) (w : World) (t : Int) (ht : mxI a b = t) :
    Calls Try.prog 197 #[.int .i64 a, .int .i64 b] w fun e w' => e = .returned (.int .i64 t) ∧ w.Ext w' := by
  subst ht
  by_cases h : b < a
  all_goals
    go_enter Try.func197, Try.ntmps197
    go_wp2
    go_ret
    exact ⟨ret_int (by unfold mxI; split <;> omega), .refl _⟩
set_option maxHeartbeats 800000 in
theorem l06Far_any (kind ax ay bx by' : Int) (w : World) (h1 : -50 ≤ ax ∧ ax ≤ 50) (h2 : -50 ≤ ay ∧ ay ≤ 50) (h3 : -50 ≤ bx ∧ bx ≤ 50) (h4 : -50 ≤ by' ∧ by' ≤ 50) (t : Int) (ht : farI kind (ax, ay) (bx, by') = t) :
    Calls Try.prog 223 #[.int .i64 kind, .int .i64 ax, .int .i64 ay, .int .i64 bx, .int .i64 by'] w fun e w' => e = .returned (.int .i64 t) ∧ w.Ext w' := by
  subst ht
  obtain ⟨a0, a1⟩ := mxI_diff h1 h3
  obtain ⟨b0, b1⟩ := mxI_diff h2 h4
  unfold farI farD
  dsimp only
  obtain ⟨x, hx⟩ : ∃ x, mxI (ax - bx) (bx - ax) = x := ⟨_, rfl⟩
  obtain ⟨y, hy⟩ : ∃ y, mxI (ay - by') (by' - ay) = y := ⟨_, rfl⟩
  rw [hx] at a0 a1 ⊢
  rw [hy] at b0 b1 ⊢
  obtain ⟨s1, s2⟩ := sq_bd a0 a1
  obtain ⟨s3, s4⟩ := sq_bd b0 b1
  have HX := Lib.hid hx
  have HY := Lib.hid hy
  clear hx hy
  by_cases k0 : kind = 0
  · subst k0
    go_enter Try.func223, Try.ntmps223
    go_wp2_with fail
    refine (l00Max_any _ _ _ _ HX.out).mono ?_
    rintro e w1 ⟨rfl, x1⟩
    go_wp2_with fail
    refine (l00Max_any _ _ _ _ HY.out).mono ?_
    rintro e w2 ⟨rfl, x2⟩
    go_wp2
    go_ret
    exact ⟨rfl, x1.trans x2⟩
  · have k0' : (kind == 0) = false := by simpa using k0
    by_cases k1 : kind = 1
    · obtain ⟨m, hm⟩ : ∃ m, mxI x y = m := ⟨_, rfl⟩
      have HM := Lib.hid hm
      subst k1
      rw [if_neg (by decide), if_pos rfl, hm]
      clear k0 k0' hm
      go_enter Try.func223, Try.ntmps223
      go_wp2_with fail
      refine (l00Max_any _ _ _ _ HX.out).mono ?_
      rintro e w1 ⟨rfl, x1⟩
      go_wp2_with fail
      refine (l00Max_any _ _ _ _ HY.out).mono ?_
      rintro e w2 ⟨rfl, x2⟩
      go_wp2_with fail
      refine (l00Max_any _ _ _ _ HM.out).mono ?_
      rintro e w3 ⟨rfl, x3⟩
      go_wp2
      go_ret
      exact ⟨rfl, (x1.trans x2).trans x3⟩
    · have k1' : (kind == 1) = false := by simpa using k1
      rw [if_neg k0, if_neg k1]
      clear k0 k1
      go_enter Try.func223, Try.ntmps223
      go_wp2_with fail
      refine (l00Max_any _ _ _ _ HX.out).mono ?_
      rintro e w1 ⟨rfl, x1⟩
      go_wp2_with fail
      refine (l00Max_any _ _ _ _ HY.out).mono ?_
      rintro e w2 ⟨rfl, x2⟩
      go_wp2
      go_ret
      exact ⟨rfl, x1.trans x2⟩
set_option maxHeartbeats 400000 in
theorem size_any (a : Int) (w : World) (h : -100 ≤ a ∧ a ≤ 100) (t : Int) (ht : mxI a (-a) = t) :
    Calls Try.prog 218 #[.int .i64 a] w fun e w' => e = .returned (.int .i64 t) ∧ w.Ext w' := by
  obtain ⟨h1, h2⟩ := h
  have HT := Lib.hid ht
  clear ht
  go_enter Try.func218, Try.ntmps218
  go_wp2
  all_goals
    go_ret
    exact ⟨ret_int (by have h5 := HT.out; unfold mxI at h5; split at h5 <;> omega), .refl _⟩
set_option maxHeartbeats 1600000 in
theorem far_any (kind : Int) (p q : Int × Int) (w : World) (h1 : -50 ≤ p.1 ∧ p.1 ≤ 50) (h2 : -50 ≤ p.2 ∧ p.2 ≤ 50) (h3 : -50 ≤ q.1 ∧ q.1 ≤ 50) (h4 : -50 ≤ q.2 ∧ q.2 ≤ 50) (t : Int) (ht : farI kind p q = t) :
    Calls Try.prog 153 #[.int .i64 kind, spotV p, spotV q] w fun e w' => e = .returned (.int .i64 t) ∧ w.Ext w' := by
  subst ht
  obtain ⟨a0, a1⟩ := mxI_diff h1 h3
  obtain ⟨b0, b1⟩ := mxI_diff h2 h4
  unfold farI farD
  obtain ⟨px, py⟩ := p
  obtain ⟨qx, qy⟩ := q
  dsimp only at *
  unfold spotV
  dsimp only
  obtain ⟨h11, h12⟩ := h1
  obtain ⟨h21, h22⟩ := h2
  obtain ⟨h31, h32⟩ := h3
  obtain ⟨h41, h42⟩ := h4
  have HX : Hid (mxI (px - qx) (-(px - qx)) = mxI (px - qx) (qx - px)) := by show _ = _; rw [Int.neg_sub]
  have HY : Hid (mxI (py - qy) (-(py - qy)) = mxI (py - qy) (qy - py)) := by show _ = _; rw [Int.neg_sub]
  generalize mxI (px - qx) (qx - px) = x at *
  generalize mxI (py - qy) (qy - py) = y at *
  obtain ⟨s1, s2⟩ := sq_bd a0 a1
  obtain ⟨s3, s4⟩ := sq_bd b0 b1
  have hw1 : IntKind.i64.wrap (px - qx) = px - qx := IntWalk.i64_in _ (by omega)
  have hw2 : IntKind.i64.wrap (py - qy) = py - qy := IntWalk.i64_in _ (by omega)
  by_cases k0 : kind = 0
  · subst k0
    go_enter Try.func153, Try.ntmps153
    go_wp2_with fail
    refine wp_region_over_lit (by kernel_rfl) (by kernel_rfl) ?_; (repeat (go_big_quiet_step ((first | (go_at_call_of 218 (Value.int .i64 (px - qx)); exact Calls.over_of (size_any _ _ (by omega) _ HX.out)) | (go_at_call_of 218 (Value.int .i64 (py - qy)); exact Calls.over_of (size_any _ _ (by omega) _ HY.out)))))); refine wpQuiet_nil ?_; rintro _ ⟨x1, rfl⟩
    clear hw1 hw2
    go_wp2
    go_ret
    refine ⟨rfl, ?_⟩
    repeat (first | exact World.Ext.refl _ | exact ⟨_, rfl⟩ | assumption | refine World.Ext.over ?_ _ | refine World.Ext.drewN ?_ _ | refine World.Ext.drew ?_ | refine World.Ext.alloc ?_ _ | refine World.Ext.setCell ?_ (by simp) _)
  · have k0' : (kind == 0) = false := by simpa using k0
    by_cases k1 : kind = 1
    · subst k1
      rw [if_neg (by decide), if_pos rfl]
      have HT : Hid (mxI x y = mxI x y) := rfl
      clear k0 k0'
      go_enter Try.func153, Try.ntmps153
      go_wp2_with fail
      refine wp_region_over_lit (by kernel_rfl) (by kernel_rfl) ?_; (repeat (go_big_quiet_step ((first | (go_at_call_of 218 (Value.int .i64 (px - qx)); exact Calls.over_of (size_any _ _ (by omega) _ HX.out)) | (go_at_call_of 218 (Value.int .i64 (py - qy)); exact Calls.over_of (size_any _ _ (by omega) _ HY.out)))))); refine wpQuiet_nil ?_; rintro _ ⟨x1, rfl⟩
      clear hw1 hw2
      go_wp2
      all_goals
        go_ret
        refine ⟨ret_int (by unfold mxI; split <;> omega), ?_⟩
        repeat (first | exact World.Ext.refl _ | exact ⟨_, rfl⟩ | assumption | refine World.Ext.over ?_ _ | refine World.Ext.drewN ?_ _ | refine World.Ext.drew ?_ | refine World.Ext.alloc ?_ _ | refine World.Ext.setCell ?_ (by simp) _)
    · have k1' : (kind == 1) = false := by simpa using k1
      rw [if_neg k0, if_neg k1]
      clear k0 k1
      go_enter Try.func153, Try.ntmps153
      go_wp2_with fail
      refine wp_region_over_lit (by kernel_rfl) (by kernel_rfl) ?_; (repeat (go_big_quiet_step ((first | (go_at_call_of 218 (Value.int .i64 (px - qx)); exact Calls.over_of (size_any _ _ (by omega) _ HX.out)) | (go_at_call_of 218 (Value.int .i64 (py - qy)); exact Calls.over_of (size_any _ _ (by omega) _ HY.out)))))); refine wpQuiet_nil ?_; rintro _ ⟨x1, rfl⟩
      clear hw1 hw2
      go_wp2
      go_ret
      refine ⟨rfl, ?_⟩
      repeat (first | exact World.Ext.refl _ | exact ⟨_, rfl⟩ | assumption | refine World.Ext.over ?_ _ | refine World.Ext.drewN ?_ _ | refine World.Ext.drew ?_ | refine World.Ext.alloc ?_ _ | refine World.Ext.setCell ?_ (by simp) _)
end Go.Proofs.Ytldbabigjfkdlaa
namespace Go.Proofs.Ytldbabigjfkdlaa
open Go.RowKit
/-- The least number, the first one of equal ones; -1 of none. -/
def leastD (ds : List Int) : Int := ds.foldl (fun m d => if m < 0 ∨ d < m then d else m) (-1)
theorem leastD_snoc (ds : List Int) (d : Int) : leastD (ds ++ [d]) = if leastD ds < 0 ∨ d < leastD ds then d else leastD ds := by
  unfold leastD
  rw [List.foldl_append]
  rfl
theorem least_from : ∀ (ds : List Int) (m : Int), 0 ≤ m → (∀ d, d ∈ ds → 0 ≤ d) → (ds.foldl (fun m d => if m < 0 ∨ d < m then d else m) m = m ∨ ds.foldl (fun m d => if m < 0 ∨ d < m then d else m) m ∈ ds) ∧ ds.foldl (fun m d => if m < 0 ∨ d < m then d else m) m ≤ m ∧ (∀ d, d ∈ ds → ds.foldl (fun m d => if m < 0 ∨ d < m then d else m) m ≤ d) ∧ 0 ≤ ds.foldl (fun m d => if m < 0 ∨ d < m then d else m) m
  | [], m, hm, _ => ⟨.inl rfl, Int.le_refl _, (fun d hd => by cases hd), hm⟩
  | d :: ds, m, hm, h => by
    have hd := h d (by simp)
    rw [List.foldl_cons]
    by_cases hc : d < m
    · rw [if_pos (.inr hc)]
      obtain ⟨h1, h2, h3, h4⟩ := least_from ds d hd (fun x hx => h x (by simp [hx]))
      refine ⟨?_, by omega, fun x hx => ?_, h4⟩
      · rcases h1 with h1 | h1
        · right; rw [h1]; simp
        · right; simp [h1]
      · rcases List.mem_cons.1 hx with rfl | hx
        · exact h2
        · exact h3 x hx
    · rw [if_neg (by omega)]
      obtain ⟨h1, h2, h3, h4⟩ := least_from ds m hm (fun x hx => h x (by simp [hx]))
      refine ⟨?_, h2, fun x hx => ?_, h4⟩
      · rcases h1 with h1 | h1
        · exact .inl h1
        · right; simp [h1]
      · rcases List.mem_cons.1 hx with rfl | hx
        · omega
        · exact h3 x hx
theorem leastD_spec (ds : List Int) (h : ∀ d, d ∈ ds → 0 ≤ d) : (ds = [] ∧ leastD ds = -1) ∨ (leastD ds ∈ ds ∧ (∀ d, d ∈ ds → leastD ds ≤ d) ∧ 0 ≤ leastD ds) := by
  cases ds with
  | nil => exact .inl ⟨rfl, rfl⟩
  | cons d ds =>
    right
    have hd := h d (by simp)
    unfold leastD
    rw [List.foldl_cons, if_pos (.inl (by decide))]
    obtain ⟨h1, h2, h3, h4⟩ := least_from ds d hd (fun x hx => h x (by simp [hx]))
    refine ⟨?_, fun x hx => ?_, h4⟩
    · rcases h1 with h1 | h1
      · rw [h1]; simp
      · simp [h1]
    · rcases List.mem_cons.1 hx with rfl | hx
      · exact h2
      · exact h3 x hx
end Go.Proofs.Ytldbabigjfkdlaa
namespace Go
open Go.RowKit
end Go
namespace Go.Proofs.Ytldbabigjfkdlaa
open Go.RowKit
/-- How far the black ones of the first k pixels are. -/
def nearTo (kind : Int) (W : Nat) (l : List Bool) (p : Int × Int) (k : Nat) : Int := leastD ((spotsTo W l k).map (farI kind p))
theorem nearTo_no {kind : Int} {W : Nat} {l : List Bool} {p : Int × Int} {k : Nat} (h : l.getD k false = false) : nearTo kind W l p (k + 1) = nearTo kind W l p k := by unfold nearTo; rw [spotsTo_no h]
theorem nearTo_yes {kind : Int} {W : Nat} {l : List Bool} {p : Int × Int} {x y : Nat} (hx : x < W) (h : l.getD (y * W + x) false = true) :
    nearTo kind W l p (y * W + x + 1) = if nearTo kind W l p (y * W + x) < 0 ∨ farI kind p (x, y) < nearTo kind W l p (y * W + x) then farI kind p (x, y) else nearTo kind W l p (y * W + x) := by
  unfold nearTo; rw [spotsTo_yes hx h, List.map_append, List.map_cons, List.map_nil, leastD_snoc]
/-- A spot and a distance are returned. -/
def NearRet (w : World) (d : Int) (e : Ending) (w' : World) : Prop := ∃ bx by' : Int, e = .returned (.tuple #[.agg #[.int .i64 bx, .int .i64 by'], .int .i64 d]) ∧ w.Ext w'
def NearSt (w : World) (p8 p10 : Nat) (T : TypeId) (wr : World) : Prop := ∃ u v a b : Int, w.Ext wr ∧ Two wr p8 T (.int .i64 u) (.int .i64 v) ∧ Two wr p10 T (.int .i64 a) (.int .i64 b)
theorem NearSt.x {w : World} {p8 p10 : Nat} {T : TypeId} {wr : World} (h : NearSt w p8 p10 T wr) : w.Ext wr := let ⟨_, _, _, _, h1, _⟩ := h; h1
theorem NearSt.put {w : World} {p8 p10 : Nat} {T : TypeId} {wr : World} {u v a b : Int} (hx : w.Ext wr) (h1 : Two wr p8 T (.int .i64 u) (.int .i64 v)) (h2 : Two wr p10 T (.int .i64 a) (.int .i64 b)) (hn : p8 ≠ p10) (hl : w.heap.size ≤ p10) (c d : Int) :
    NearSt w p8 p10 T ((wr.setCell ⟨p10, 0, none⟩ (.int .i64 c)).setCell ⟨p10, 1, none⟩ (.int .i64 d)) :=
  ⟨u, v, c, d, (hx.setCell (p := ⟨p10, 0, none⟩) hl _).setCell (p := ⟨p10, 1, none⟩) hl _, (h1.other (a := ⟨p10, 0, none⟩) (Ne.symm hn) _).other (a := ⟨p10, 1, none⟩) (Ne.symm hn) _, h2.set _ _⟩
theorem NearSt.ext {w : World} {p8 p10 : Nat} {T : TypeId} {wr w' : World} (h : NearSt w p8 p10 T wr) (hx : wr.Ext w') : NearSt w p8 p10 T w' :=
  let ⟨u, v, a, b, h1, h2, h3⟩ := h; ⟨u, v, a, b, h1.trans hx, h2.ext hx, h3.ext hx⟩
end Go.Proofs.Ytldbabigjfkdlaa
namespace Go.Proofs.Ytldbabigjfkdlaa
open Go.RowKit
theorem least_step (ds : List Int) (h : ∀ d, d ∈ ds → 0 ≤ d) (k j : Nat) (hk : k < ds.length) (hj : j < ds.length) (he : ds.getD j 0 = leastD (ds.take (max 1 k))) :
    (ds.getD k 0 < ds.getD j 0 → ds.getD k 0 = leastD (ds.take (max 1 (k + 1)))) ∧ (ds.getD j 0 ≤ ds.getD k 0 → ds.getD j 0 = leastD (ds.take (max 1 (k + 1)))) := by
  have hmem : ∀ i, i < ds.length → 0 ≤ ds.getD i 0 := fun i hi => by
    rw [List.getD_eq_getElem?_getD, List.getElem?_eq_getElem hi]
    exact h _ (List.getElem_mem hi)
  by_cases k0 : k = 0
  · subst k0
    have e1 : ds.getD 0 0 = leastD (ds.take 1) := by
      cases ds with
      | nil => simp at hk
      | cons d ds => simp [leastD]
    rw [Nat.max_eq_left (by omega)] at he
    rw [Nat.max_eq_left (by omega), he, ← e1]
    exact ⟨fun _ => rfl, fun _ => rfl⟩
  · rw [Nat.max_eq_right (by omega)] at he
    rw [Nat.max_eq_right (by omega), List.take_succ_eq_append_getElem hk, leastD_snoc, ← he]
    have e2 : ds[k] = ds.getD k 0 := by rw [List.getD_eq_getElem?_getD, List.getElem?_eq_getElem hk]; rfl
    rw [e2]
    have := hmem j hj
    refine ⟨fun hlt => by rw [if_pos (.inr hlt)], fun hlt => by rw [if_neg (by omega)]⟩
def LeastRet (w : World) (d : Int) (e : Ending) (w' : World) : Prop := ∃ j : Nat, e = .returned (.tuple #[.int .i64 j, .int .i64 d]) ∧ w.Ext w'
def AllNear (ps : List (Int × Int)) : Prop := ∀ i, i < ps.length → -40 ≤ (ps.getD i (0, 0)).1 ∧ (ps.getD i (0, 0)).1 ≤ 40 ∧ -40 ≤ (ps.getD i (0, 0)).2 ∧ (ps.getD i (0, 0)).2 ≤ 40
theorem map_getD_far (kind : Int) (p : Int × Int) (ps : List (Int × Int)) (i : Nat) (hi : i < ps.length) : (ps.map (farI kind p)).getD i 0 = farI kind p (ps.getD i (0, 0)) := by
  simp [List.getD_eq_getElem?_getD, hi]
set_option maxRecDepth 5000 in
set_option maxHeartbeats 1600000 in
theorem least_any (kind fx fy : Int) (a : Option Addr) (c : Nat) (ps : List (Int × Int)) (w : World) (hpos : 0 < ps.length) (hn : ps.length ≤ 1048576) (hm : RowP w a ps) (hb : AllNear ps) (hfx : -40 ≤ fx ∧ fx ≤ 40) (hfy : -40 ≤ fy ∧ fy ≤ 40) :
    Calls Try.prog 215 #[.int .i64 kind, .agg #[.int .i64 fx, .int .i64 fy], .slice a ps.length c] w (LeastRet w (leastD (ps.map (farI kind (fx, fy))))) := by
  have hn2 : ps.length ≤ 4611686018427387904 := by omega
  have HF : Hid (∀ (i : Nat) (w' : World), i < ps.length → Calls Try.prog 153 #[.int .i64 kind, .agg #[.int .i64 fx, .int .i64 fy], .agg #[.int .i64 (ps.getD i (0, 0)).1, .int .i64 (ps.getD i (0, 0)).2]] w' fun e w'' => e = .returned (.int .i64 ((ps.map (farI kind (fx, fy))).getD i 0)) ∧ w'.Ext w'') := fun i w' hi => by
    obtain ⟨b1, b2, b3, b4⟩ := hb i hi
    rw [map_getD_far kind _ ps i hi]
    exact far_any kind (fx, fy) (ps.getD i (0, 0)) w' (by dsimp only; omega) (by dsimp only; omega) (by omega) (by omega) _ rfl
  have hnn : ∀ d, d ∈ ps.map (farI kind (fx, fy)) → 0 ≤ d := fun d hd => by
    obtain ⟨q, hq, rfl⟩ := List.mem_map.1 hd
    obtain ⟨i, hi, rfl⟩ := List.getElem_of_mem hq
    obtain ⟨b1, b2, b3, b4⟩ := hb i hi
    rw [List.getD_eq_getElem?_getD, List.getElem?_eq_getElem hi, Option.getD_some] at b1 b2 b3 b4
    exact (farI_bd kind (by dsimp only; omega) (by dsimp only; omega) (by omega) (by omega)).1
  have hdl : (ps.map (farI kind (fx, fy))).length = ps.length := by simp
  generalize ps.map (farI kind (fx, fy)) = ds at *
  have HSTEP : Hid (∀ k j : Nat, k < ps.length → j < ps.length → ds.getD j 0 = leastD (ds.take (max 1 k)) → (ds.getD k 0 < ds.getD j 0 → ds.getD k 0 = leastD (ds.take (max 1 (k + 1)))) ∧ (ds.getD j 0 ≤ ds.getD k 0 → ds.getD j 0 = leastD (ds.take (max 1 (k + 1))))) := fun k j hk hj he => least_step ds hnn k j (by omega) (by omega) he
  have H00 : Hid (ds.getD 0 0 = leastD (ds.take (max 1 0))) := by
    show _ = _
    cases ds with
    | nil => simp at hdl; omega
    | cons d ds => simp [leastD]
  have HEND : Hid (leastD (ds.take (max 1 ps.length)) = leastD ds) := by
    show _ = _
    rw [Nat.max_eq_right (by omega), ← hdl, List.take_length]
  have HM := Lib.hid hm
  have HX0 : Hid (w.Ext (w.alloc (.cells #[.int .i64 fx, .int .i64 fy] 67))) := by show World.Ext _ _; repeat (first | exact World.Ext.refl _ | exact ⟨_, rfl⟩ | assumption | refine World.Ext.over ?_ _ | refine World.Ext.drewN ?_ _ | refine World.Ext.drew ?_ | refine World.Ext.alloc ?_ _ | refine World.Ext.setCell ?_ (by simp) _)
  have d0 : (w.alloc (.cells #[.int .i64 fx, .int .i64 fy] 67)).cell? ⟨w.heap.size, 0, none⟩ = some (.int .i64 fx) := by simp [go_sem]
  have d1 : (w.alloc (.cells #[.int .i64 fx, .int .i64 fy] 67)).cell? ⟨w.heap.size, 1, none⟩ = some (.int .i64 fy) := by simp [go_sem]
  have HD := Lib.hid (And.intro d0 d1)
  clear hm hb hfx hfy hnn hdl hn d0 d1
  go_enter Try.func215, Try.ntmps215
  go_wp2
  generalize hW0 : w.alloc (.cells #[.int .i64 fx, .int .i64 fy] 67) = W0 at HX0 HD ⊢
  clear hW0
  obtain ⟨p4, hp4⟩ : ∃ p4, p4 = w.heap.size := ⟨_, rfl⟩
  rw [← hp4] at HD ⊢
  clear hp4
  go_loopw [8, 9, 10, 13] (fun bst _ _ i wr => ∃ k j : Nat, k ≤ ps.length ∧ i = .int .i64 k ∧ bst = .int .i64 j ∧ j < ps.length ∧ Hid (ds.getD j 0 = leastD (ds.take (max 1 k))) ∧ Hid (W0.Ext wr)) (fun _ _ _ i _ => ps.length - (intOf i).toNat)
  case atStart => exact ⟨0, 0, Nat.zero_le _, rfl, rfl, hpos, H00, .refl _⟩
  case round =>
    obtain ⟨k, j, hk, rfl, rfl, hj, HJ, HX⟩ := hrel
    clear H00
    obtain ⟨b, o, rfl, hc1, hc2⟩ := (HM.out.ext (HX0.out.trans HX.out)).at hj
    have hj0 : (0 : Int) ≤ (j : Int) := by omega
    have hj1 : (j : Int) < (ps.length : Int) := by omega
    have d0 := HX.out.cell HD.out.1
    have d1 := HX.out.cell HD.out.2
    have ld := World.block_lt_of_cell? _ _ d0
    have lb := World.block_lt_of_cell? _ _ hc1
    by_cases hlt : k < ps.length
    · obtain ⟨b', o', hbo, hd1, hd2⟩ := (HM.out.ext (HX0.out.trans HX.out)).at hlt
      cases hbo
      have hk0 : (0 : Int) ≤ (k : Int) := by omega
      have hk1 : (k : Int) < (ps.length : Int) := by omega
      have HFk := Lib.hid (fun w' => HF.out k w' hlt)
      have HFj := Lib.hid (fun w' => HF.out j w' hj)
      have HS := Lib.hid (HSTEP.out k j hlt hj HJ.out)
      generalize ps.getD k (0, 0) = q at hd1 hd2 HFk
      generalize ps.getD j (0, 0) = r at hc1 hc2 HFj
      obtain ⟨qx, qy⟩ := q
      obtain ⟨rx, ry⟩ := r
      dsimp only at hd1 hd2 hc1 hc2 HFk HFj
      by_cases hc : ds.getD k 0 < ds.getD j 0
      · have HE := Lib.hid (HS.out.1 hc)
        clear HS
        obtain ⟨dk, hdk⟩ : ∃ dk, dk = ds.getD k 0 := ⟨_, rfl⟩
        obtain ⟨dj, hdj⟩ : ∃ dj, dj = ds.getD j 0 := ⟨_, rfl⟩
        rw [← hdk] at HFk hc
        rw [← hdj] at HFj hc
        clear hdk hdj HJ
        go_wp2_with fail
        refine wp_region_over_lit (by kernel_rfl) (by kernel_rfl) ?_; (repeat (go_big_quiet_step ((first | (go_at_call_of 153 (Value.agg #[Value.int .i64 qx, Value.int .i64 qy]); exact Calls.over_of (HFk.out _)) | (go_at_call_of 153 (Value.agg #[Value.int .i64 rx, Value.int .i64 ry]); exact Calls.over_of (HFj.out _)))))); refine wpQuiet_nil ?_; rintro _ ⟨x1, rfl⟩
        go_wp2
        go_roundw
        case rel => exact ⟨k + 1, k, by omega, by go_num, rfl, hlt, HE, HX.out.trans (by repeat (first | exact World.Ext.refl _ | exact ⟨_, rfl⟩ | assumption | refine World.Ext.over ?_ _ | refine World.Ext.drewN ?_ _ | refine World.Ext.drew ?_ | refine World.Ext.alloc ?_ _ | refine World.Ext.setCell ?_ (by simp) _))⟩
        case measure => simp [intOf]; omega
      · have HE := Lib.hid (HS.out.2 (by omega))
        clear HS
        obtain ⟨dk, hdk⟩ : ∃ dk, dk = ds.getD k 0 := ⟨_, rfl⟩
        obtain ⟨dj, hdj⟩ : ∃ dj, dj = ds.getD j 0 := ⟨_, rfl⟩
        rw [← hdk] at HFk hc
        rw [← hdj] at HFj hc
        clear hdk hdj HJ
        go_wp2_with fail
        refine wp_region_over_lit (by kernel_rfl) (by kernel_rfl) ?_; (repeat (go_big_quiet_step ((first | (go_at_call_of 153 (Value.agg #[Value.int .i64 qx, Value.int .i64 qy]); exact Calls.over_of (HFk.out _)) | (go_at_call_of 153 (Value.agg #[Value.int .i64 rx, Value.int .i64 ry]); exact Calls.over_of (HFj.out _)))))); refine wpQuiet_nil ?_; rintro _ ⟨x1, rfl⟩
        go_wp2
        go_roundw
        case rel => exact ⟨k + 1, j, by omega, by go_num, rfl, hj, HE, HX.out.trans (by repeat (first | exact World.Ext.refl _ | exact ⟨_, rfl⟩ | assumption | refine World.Ext.over ?_ _ | refine World.Ext.drewN ?_ _ | refine World.Ext.drew ?_ | refine World.Ext.alloc ?_ _ | refine World.Ext.setCell ?_ (by simp) _))⟩
        case measure => simp [intOf]; omega
    · have : k = ps.length := by omega
      subst this
      have HFj := Lib.hid (fun w' => HF.out j w' hj)
      have HE : Hid (ds.getD j 0 = leastD ds) := HJ.out.trans HEND.out
      generalize ps.getD j (0, 0) = r at hc1 hc2 HFj
      obtain ⟨rx, ry⟩ := r
      dsimp only at hc1 hc2 HFj
      clear HJ HEND HSTEP
      rw [HE.out] at HFj
      go_wp2_with fail
      refine wp_region_over_lit (by kernel_rfl) (by kernel_rfl) ?_; (repeat (go_big_quiet_step ((go_at_call 153; exact Calls.over_of (HFj.out _))))); refine wpQuiet_nil ?_; rintro _ ⟨x1, rfl⟩
      go_wp2
      go_ret2
      exact ⟨j, rfl, (HX0.out.trans HX.out).trans (by repeat (first | exact World.Ext.refl _ | exact ⟨_, rfl⟩ | assumption | refine World.Ext.over ?_ _ | refine World.Ext.drewN ?_ _ | refine World.Ext.drew ?_ | refine World.Ext.alloc ?_ _ | refine World.Ext.setCell ?_ (by simp) _))⟩
end Go.Proofs.Ytldbabigjfkdlaa
namespace Go.Proofs.Ytldbabigjfkdlaa
open Go.RowKit
/-- Those of the first k places of rows of width V, that begin at (-1, -1), that meet a condition. -/
def spotsP (V : Nat) (p : Int → Int → Bool) (k : Nat) : List (Int × Int) := ((List.range k).filter fun i => p (((i % V : Nat) : Int) - 1) (((i / V : Nat) : Int) - 1)).map fun i => (((i % V : Nat) : Int) - 1, ((i / V : Nat) : Int) - 1)
theorem spotsP_no {V : Nat} {p : Int → Int → Bool} {i j : Nat} (hi : i < V) (h : p ((i : Int) - 1) ((j : Int) - 1) = false) : spotsP V p (j * V + i + 1) = spotsP V p (j * V + i) := by
  have e1 : (j * V + i) % V = i := by rw [Nat.mul_comm, Nat.mul_add_mod, Nat.mod_eq_of_lt hi]
  have e2 : (j * V + i) / V = j := by rw [Nat.mul_comm, Nat.mul_add_div (by omega), Nat.div_eq_of_lt hi]; rfl
  unfold spotsP
  rw [List.range_succ, List.filter_append, List.filter_cons_of_neg (by rw [e1, e2, h]; decide), List.filter_nil, List.append_nil]
theorem spotsP_yes {V : Nat} {p : Int → Int → Bool} {i j : Nat} (hi : i < V) (h : p ((i : Int) - 1) ((j : Int) - 1) = true) : spotsP V p (j * V + i + 1) = spotsP V p (j * V + i) ++ [((i : Int) - 1, (j : Int) - 1)] := by
  have e1 : (j * V + i) % V = i := by rw [Nat.mul_comm, Nat.mul_add_mod, Nat.mod_eq_of_lt hi]
  have e2 : (j * V + i) / V = j := by rw [Nat.mul_comm, Nat.mul_add_div (by omega), Nat.div_eq_of_lt hi]; rfl
  unfold spotsP
  rw [List.range_succ, List.filter_append, List.map_append, List.filter_cons_of_pos (by rw [e1, e2]; exact h), List.filter_nil, List.map_cons, e1, e2]
  rfl
theorem spotsP_len (V : Nat) (p : Int → Int → Bool) (k : Nat) : (spotsP V p k).length ≤ k := by
  unfold spotsP
  rw [List.length_map]
  exact Nat.le_trans (List.length_filter_le _ _) (by simp)
theorem spotsP_near (V U : Nat) (p : Int → Int → Bool) (hV : V ≤ 41) (hU : U ≤ 41) : ∀ q, q ∈ spotsP V p (U * V) → -1 ≤ q.1 ∧ q.1 ≤ 40 ∧ -1 ≤ q.2 ∧ q.2 ≤ 40 := by
  intro q hmem
  unfold spotsP at hmem
  rw [List.mem_map] at hmem
  obtain ⟨k, hk, rfl⟩ := hmem
  have hk' : k < U * V := by
    have := (List.mem_filter.1 hk).1
    simpa using this
  have hV0 : 0 < V := by
    rcases Nat.eq_zero_or_pos V with e | e
    · rw [e] at hk'; simp at hk'
    · exact e
  have h1 : k % V < V := Nat.mod_lt _ hV0
  have h2 : k / V < U := Nat.div_lt_of_lt_mul (by rw [Nat.mul_comm]; exact hk')
  generalize k % V = r at *
  generalize k / V = s at *
  refine ⟨?_, ?_, ?_, ?_⟩ <;> dsimp only <;> omega
theorem spotsP_head {V U : Nat} {p : Int → Int → Bool} (hV : 0 < V) (hU : 0 < U) (h : p (-1) (-1) = true) : 0 < (spotsP V p (U * V)).length := by
  have h0 : 0 < U * V := Nat.mul_pos hU hV
  have : ((-1 : Int), (-1 : Int)) ∈ spotsP V p (U * V) := by
    unfold spotsP
    rw [List.mem_map]
    refine ⟨0, ?_, by simp⟩
    rw [List.mem_filter]
    exact ⟨by simpa using h0, by simpa using h⟩
  exact List.length_pos_of_mem this
/-- How far those of the first k places are. -/
def depthTo (kind : Int) (V : Nat) (p : Int → Int → Bool) (q : Int × Int) (k : Nat) : Int := leastD ((spotsP V p k).map (farI kind q))
theorem depthTo_no {kind : Int} {V : Nat} {p : Int → Int → Bool} {q : Int × Int} {i j : Nat} (hi : i < V) (h : p ((i : Int) - 1) ((j : Int) - 1) = false) : depthTo kind V p q (j * V + i + 1) = depthTo kind V p q (j * V + i) := by unfold depthTo; rw [spotsP_no hi h]
theorem depthTo_yes {kind : Int} {V : Nat} {p : Int → Int → Bool} {q : Int × Int} {i j : Nat} (hi : i < V) (h : p ((i : Int) - 1) ((j : Int) - 1) = true) :
    depthTo kind V p q (j * V + i + 1) = if depthTo kind V p q (j * V + i) < 0 ∨ farI kind q ((i : Int) - 1, (j : Int) - 1) < depthTo kind V p q (j * V + i) then farI kind q ((i : Int) - 1, (j : Int) - 1) else depthTo kind V p q (j * V + i) := by
  unfold depthTo; rw [spotsP_yes hi h, List.map_append, List.map_cons, List.map_nil, leastD_snoc]
def whiteP (W H : Nat) (l : List Bool) (i j : Int) : Bool := !pxl W H l i j
def depI (kind : Int) (W H : Nat) (l : List Bool) (x y : Nat) : Int := depthTo kind (W + 2) (whiteP W H l) (x, y) ((H + 2) * (W + 2))
end Go.Proofs.Ytldbabigjfkdlaa
namespace Go.Proofs.Ytldbabigjfkdlaa
open Go.RowKit
set_option maxRecDepth 5000 in
set_option maxHeartbeats 3200000 in
theorem l06Depths_any (p : Nat) (kind : Int) (a : Option Addr) (c : Nat) (ss : List ByteArray) (w : World) (he : Even ss) (hW : picW ss ≤ 38) (hH : ss.length ≤ 38)
    (hp : w.cell? ⟨p, 0, none⟩ = some (.slice a ss.length c)) (hm : RowS w a ss) :
    Calls Try.prog 220 #[.pointer (some ⟨p, 0, none⟩), .int .i64 kind] w (MatRet w (grd (picW ss) ss.length (depI kind (picW ss) ss.length (picL ss)))) := by
  obtain ⟨i0, hi, hz0, hz1, hz2⟩ := info_parts Try.infoI64G
  obtain ⟨j0, hj, hy0, hy1, hy2⟩ := info_parts Try.infoRowG
  have HW0 := Lib.hid (l01Width_any p a c ss w he.1 (by omega) (by omega) hp hm)
  have HH0 : Hid (∀ w', w.Ext w' → Calls Try.prog 100 #[.pointer (some ⟨p, 0, none⟩)] w' fun e w'' => e = .returned (.int .i64 ss.length) ∧ w'.Ext w'') := fun w' hx => l01Height_any p a c ss.length w' (by omega) (hx.cell hp)
  have HBL : Hid (∀ w', w.Ext w' → ∀ i j : Nat, i < picW ss + 2 → j < ss.length + 2 → ∀ t, pxl (picW ss) ss.length (picL ss) ((i : Int) - 1) ((j : Int) - 1) = t → Calls Try.prog 130 #[.pointer (some ⟨p, 0, none⟩), .int .i64 ((i : Int) - 1), .int .i64 ((j : Int) - 1)] w' fun e w'' => e = .returned (.bool t) ∧ w'.Ext w'') := fun w' hx i j h1 h2 t ht =>
    l01Black_any p a c ss _ _ w' he (by omega) (by omega) (hx.cell hp) (RowOf.ext hm hx) _ ht
  have HFA : Hid (∀ (w' : World) (x y i j : Nat), x < picW ss → y < ss.length → i < picW ss + 2 → j < ss.length + 2 → Calls Try.prog 223 #[.int .i64 kind, .int .i64 x, .int .i64 y, .int .i64 ((i : Int) - 1), .int .i64 ((j : Int) - 1)] w' fun e w'' => e = .returned (.int .i64 (farI kind (x, y) ((i : Int) - 1, (j : Int) - 1))) ∧ w'.Ext w'') := fun w' x y i j h1 h2 h3 h4 => l06Far_any kind x y _ _ w' (by omega) (by omega) (by omega) (by omega) _ rfl
  clear hm he hp
  generalize picL ss = L at *
  generalize picW ss = W at *
  generalize ss.length = H at *
  obtain ⟨P, hP⟩ : ∃ P, P = whiteP W H L := ⟨_, rfl⟩
  have HP : Hid (∀ i j, P i j = !pxl W H L i j) := fun i j => by rw [hP]; rfl
  have HDI : Hid (∀ x y : Nat, depI kind W H L x y = depthTo kind (W + 2) P (x, y) ((H + 2) * (W + 2))) := fun x y => by unfold depI; rw [hP]
  clear hP
  generalize depI kind W H L = g at *
  go_enter Try.func220, Try.ntmps220
  go_wp2_with fail
  refine HW0.out.mono ?_
  rintro e w1 ⟨rfl, hx1⟩
  have HX1 := Lib.hid hx1
  go_wp2_with fail
  refine (HH0.out _ hx1).mono ?_
  rintro e w2 ⟨rfl, hx2⟩
  have HST := Lib.hid (GrdSt.start (hx1.trans hx2) W g)
  clear hx1 hx2 HW0 HH0
  go_wp2
  go_loopw [7, 8, 9, 10, 11, 12, 13, 14] (fun v i _ _ _ _ _ _ wr => ∃ y : Nat, y ≤ H ∧ i = .int .i64 y ∧ Hid (GrdSt w W g v y wr)) (fun _ i _ _ _ _ _ _ _ => H - (intOf i).toNat)
  case atStart => exact ⟨0, Nat.zero_le _, rfl, HST⟩
  case round =>
    obtain ⟨y, hy, rfl, HS⟩ := hrel
    clear HST
    obtain ⟨wo, rfl⟩ : ∃ wo : World, wo = wr := ⟨_, rfl⟩
    by_cases hlty : y < H
    · have hlty' : (y : Int) < (H : Int) := by omega
      have HR0 := Lib.hid (RowSt.start wo g y)
      go_wp2
      go_loopw [9, 10, 11, 12, 13, 14] (fun u i _ _ _ _ wr => ∃ x : Nat, x ≤ W ∧ i = .int .i64 x ∧ Hid (RowSt wo g u y x wr)) (fun _ i _ _ _ _ _ => W - (intOf i).toNat)
      case atStart => exact ⟨0, Nat.zero_le _, rfl, HR0⟩
      case round =>
        obtain ⟨x, hx, rfl, HR⟩ := hrel
        clear HR0
        obtain ⟨wp, rfl⟩ : ∃ wp : World, wp = wr := ⟨_, rfl⟩
        by_cases hltx : x < W
        · have hltx' : (x : Int) < (W : Int) := by omega
          go_wp2
          go_loopw [11, 12, 13, 14] (fun m j _ _ wr => ∃ k : Nat, k ≤ H + 2 ∧ j = .int .i64 ((k : Int) - 1) ∧ m = .int .i64 (depthTo kind (W + 2) P (x, y) (k * (W + 2))) ∧ Hid (wp.Ext wr)) (fun _ j _ _ _ => H + 2 - (intOf j + 1).toNat)
          case atStart => exact ⟨0, Nat.zero_le _, rfl, by rw [Nat.zero_mul]; rfl, .refl _⟩
          case round =>
            obtain ⟨j, hj, rfl, rfl, HX⟩ := hrel
            obtain ⟨wq, rfl⟩ : ∃ wq : World, wq = wr := ⟨_, rfl⟩
            by_cases hltj : j < H + 2
            · have hltj' : (j : Int) - 1 ≤ (H : Int) := by omega
              go_wp2
              go_loopw [11, 13, 14] (fun m i _ wr => ∃ k : Nat, k ≤ W + 2 ∧ i = .int .i64 ((k : Int) - 1) ∧ m = .int .i64 (depthTo kind (W + 2) P (x, y) (j * (W + 2) + k)) ∧ Hid (wp.Ext wr)) (fun _ i _ _ => W + 2 - (intOf i + 1).toNat)
              case atStart => exact ⟨0, Nat.zero_le _, rfl, rfl, HX⟩
              case round =>
                obtain ⟨i, hi', rfl, rfl, HX⟩ := hrel
                by_cases hlti : i < W + 2
                · have hlti' : (i : Int) - 1 ≤ (W : Int) := by omega
                  have HF := Lib.hid (fun w' => HFA.out w' x y i j hltx hlty hlti hltj)
                  have HXX := Lib.hid (HS.out.x.trans HR.out.1)
                  have HPB := HP.out ((i : Int) - 1) ((j : Int) - 1)
                  cases hb : pxl W H L ((i : Int) - 1) ((j : Int) - 1)
                  · have HC := Lib.hid (fun w' hx => HBL.out w' (HXX.out.trans hx) i j hlti hltj _ hb)
                    rw [hb, Bool.not_false] at HPB
                    have HN := Lib.hid (depthTo_yes (kind := kind) (q := (x, y)) hlti HPB)
                    clear hb HPB
                    generalize depthTo kind (W + 2) P (↑x, ↑y) (j * (W + 2) + i) = m at HN ⊢
                    generalize farI kind (↑x, ↑y) (↑i - 1, ↑j - 1) = d at HN HF
                    go_wp2_with fail
                    refine (HF.out _).mono ?_
                    rintro e w3 ⟨rfl, hx3⟩
                    have HX3 := Lib.hid (HX.out.trans hx3)
                    clear hx3
                    go_wp2_with fail
                    refine (HC.out _ HX3.out).mono ?_
                    rintro e w4 ⟨rfl, hx4⟩
                    have HX4 := Lib.hid (HX3.out.trans hx4)
                    clear hx4 HX3 HX HF HC
                    by_cases h1 : m < 0
                    · have HN2 : Hid (d = depthTo kind (W + 2) P (x, y) (j * (W + 2) + (i + 1))) := by show _ = _; rw [← Nat.add_assoc, HN.out, if_pos (.inl h1)]
                      clear HN
                      go_wp2
                      go_roundw
                      case rel => exact ⟨i + 1, by omega, by congr 1; omega, by rw [HN2.out], HX4⟩
                      case measure => simp [intOf]; omega
                    · have h1' : 0 ≤ m := by omega
                      by_cases h2 : d < m
                      · have HN2 : Hid (d = depthTo kind (W + 2) P (x, y) (j * (W + 2) + (i + 1))) := by show _ = _; rw [← Nat.add_assoc, HN.out, if_pos (.inr h2)]
                        clear HN
                        go_wp2
                        go_roundw
                        case rel => exact ⟨i + 1, by omega, by congr 1; omega, by rw [HN2.out], HX4⟩
                        case measure => simp [intOf]; omega
                      · have HN2 : Hid (m = depthTo kind (W + 2) P (x, y) (j * (W + 2) + (i + 1))) := by show _ = _; rw [← Nat.add_assoc, HN.out, if_neg (by omega)]
                        clear HN
                        go_wp2
                        go_roundw
                        case rel => exact ⟨i + 1, by omega, by congr 1; omega, by rw [HN2.out], HX4⟩
                        case measure => simp [intOf]; omega
                  · have HC := Lib.hid (fun w' hx => HBL.out w' (HXX.out.trans hx) i j hlti hltj _ hb)
                    rw [hb, Bool.not_true] at HPB
                    have HN : Hid (depthTo kind (W + 2) P (x, y) (j * (W + 2) + i) = depthTo kind (W + 2) P (x, y) (j * (W + 2) + (i + 1))) := (depthTo_no (kind := kind) (q := (x, y)) hlti HPB).symm
                    clear hb HPB
                    generalize depthTo kind (W + 2) P (↑x, ↑y) (j * (W + 2) + i) = m at HN ⊢
                    generalize farI kind (↑x, ↑y) (↑i - 1, ↑j - 1) = d at HF
                    go_wp2_with fail
                    refine (HF.out _).mono ?_
                    rintro e w3 ⟨rfl, hx3⟩
                    have HX3 := Lib.hid (HX.out.trans hx3)
                    clear hx3
                    go_wp2_with fail
                    refine (HC.out _ HX3.out).mono ?_
                    rintro e w4 ⟨rfl, hx4⟩
                    have HX4 := Lib.hid (HX3.out.trans hx4)
                    clear hx4 HX3 HX HF HC
                    go_wp2
                    go_roundw
                    case rel => exact ⟨i + 1, by omega, by congr 1; omega, by rw [HN.out], HX4⟩
                    case measure => simp [intOf]; omega
                · have : i = W + 2 := by omega
                  subst this
                  have hge : (W : Int) < ((W + 2 : Nat) : Int) - 1 := by omega
                  go_wp2
                  go_roundw
                  case rel => exact ⟨j + 1, by omega, by congr 1; omega, by rw [Nat.succ_mul], HX⟩
                  case measure => simp [intOf]; omega
            · have : j = H + 2 := by omega
              subst this
              have hge : (H : Int) < ((H + 2 : Nat) : Int) - 1 := by omega
              have HG : Hid (depthTo kind (W + 2) P (x, y) ((H + 2) * (W + 2)) = g x y) := (HDI.out x y).symm
              generalize depthTo kind (W + 2) P (↑x, ↑y) ((H + 2) * (W + 2)) = m at HG ⊢
              have HR3 := Lib.hid (HR.out.ext HX.out)
              have hown := HR3.out.2
              unfold GrowOf at hown
              have HNEXT : Hid (∀ (o : Obj) (v' : Value) (w4 : World), (wq.alloc o).grownBy w4 u9.ownBlock → w4.ownsRow wo.heap.size 2 1 v' ((grdRow g y x).length + 1) ((grdRow g y x).map (Value.int .i64) ++ [.int .i64 m]) → Hid (RowSt wo g v' y (x + 1) w4)) := fun o v' w4 hgrow hown' => RowSt.next HR3.out hgrow (by rw [← HG.out]; exact hown')
              have HB1 : Hid ((grdRow g y x).length + 1 ≤ maxLen) := by show _ ≤ _; rw [grdRow_len]; unfold maxLen; omega
              have HB2 : Hid (((grdRow g y x).length + 1) * 8 ≤ 140737488355328) := by show _ ≤ _; rw [grdRow_len]; omega
              have HLE : ∀ o' : Obj, wo.heap.size ≤ (wq.alloc o').heap.size := fun o' => (HR3.out.1.alloc o').size
              clear HR HX HG
              generalize grdRow g y x = row at *
              go_wp2_with ((at_builtin; refine wpList_append_own _ rfl _ _ 41 rfl wo.heap.size 2 i0 (.int .i64 0) 1 8 Try.underlying41 hi hz0 hz1 hz2 rfl (by decide) _ _ _ rfl (hown.alloc _) ⟨wq.heap.size, 0, none⟩ 1 1 [.int .i64 m] rfl rfl (cell_one_new _ _ _) (by simp [Value.oneCell']) HB1.out HB2.out (HLE _) (fun v' w1 hown' hgrow _ => ?_)); have HR4 := HNEXT.out _ _ _ hgrow hown'; clear hgrow hown' hown)
              go_roundw
              case rel => exact ⟨x + 1, by omega, by go_num, HR4⟩
              case measure => simp [intOf]; omega
        · have : x = W := by omega
          subst this
          obtain ⟨A, C, hxo, hm⟩ := HS.out
          have hown := World.ownsRow.ext hm.outer HR.out.1
          obtain ⟨a, c, rfl⟩ := HR.out.form
          have HNEXT : Hid (∀ (o : Obj) (v' : Value) (w4 : World), (wp.alloc o).grownBy w4 u7.ownBlock → w4.ownsRow w.heap.size 41 1 v' ((grd x y g).length + 1) ((List.range (grd x y g).length).map (fun r => Value.slice (A r) ((grd x y g).getD r []).length (C r)) ++ [.slice a x c]) → Hid (GrdSt w x g v' (y + 1) w4)) := fun o v' w4 hgrow hown' => GrdSt.next hxo hm HR.out hgrow hown'
          have HB1 : Hid ((grd x y g).length + 1 ≤ maxLen) := by show _ ≤ _; rw [grd_len]; unfold maxLen; omega
          have HB2 : Hid (((grd x y g).length + 1) * 24 ≤ 140737488355328) := by show _ ≤ _; rw [grd_len]; omega
          have HLE : ∀ o' : Obj, w.heap.size ≤ (wp.alloc o').heap.size := fun o' => ((hxo.trans HR.out.1).alloc o').size
          clear HR hxo hm HS
          generalize (List.range (grd x y g).length).map (fun r => Value.slice (A r) ((grd x y g).getD r []).length (C r)) = pre at *
          generalize (grd x y g).length = n at *
          go_wp2_with ((at_builtin; refine wpList_append_own _ rfl _ _ 34 rfl w.heap.size 41 j0 (.slice none 0 0) 1 24 Try.underlying34 hj hy0 hy1 hy2 rfl (by decide) _ _ _ rfl (hown.alloc _) ⟨wp.heap.size, 0, none⟩ 1 1 [.slice a x c] rfl rfl (cell_one_new _ _ _) (by simp [Value.oneCell']) HB1.out HB2.out (HLE _) (fun v' w1 hown' hgrow _ => ?_)); have HS4 := HNEXT.out _ _ _ hgrow hown'; clear hgrow hown' hown)
          go_roundw
          case rel => exact ⟨y + 1, by omega, by go_num, HS4⟩
          case measure => simp [intOf]; omega
    · have : y = H := by omega
      subst this
      have HR := Lib.hid HS.out.ret
      obtain ⟨A, C, _, hm⟩ := HS.out
      obtain ⟨a, c, rfl, _⟩ := World.ownsRow.form hm.outer
      clear hm HS
      go_wp2
      go_ret
      exact HR.out
end Go.Proofs.Ytldbabigjfkdlaa
namespace Go.Proofs.Ytldbabigjfkdlaa
open Go.RowKit
/-- A captured value and a captured slice of pairs that grows. -/
structure BoxSt (w : World) (p3 : Nat) (T3 : TypeId) (u3 : Value) (p5 : Nat) (ps : List (Int × Int)) (wr : World) : Prop where
  x : w.Ext wr
  one : One wr p3 T3 u3
  grow : ∃ v, One wr p5 161 v ∧ GrowP w.heap.size 67 wr v ps
theorem BoxSt.ext {w : World} {p3 : Nat} {T3 : TypeId} {u3 : Value} {p5 : Nat} {ps : List (Int × Int)} {wr w' : World} (h : BoxSt w p3 T3 u3 p5 ps wr) (hx : wr.Ext w') : BoxSt w p3 T3 u3 p5 ps w' :=
  ⟨h.x.trans hx, h.one.ext hx, let ⟨v, h1, h2⟩ := h.grow; ⟨v, h1.ext hx, h2.ext hx⟩⟩
theorem BoxSt.push {w : World} {p3 : Nat} {T3 : TypeId} {u3 : Value} {p5 : Nat} {ps : List (Int × Int)} {w2 : World} {v : Value} {q : Int × Int} (hx : w.Ext w2) (h1 : One w2 p3 T3 u3) (h3 : One w2 p5 161 v) (hg : GrowP w.heap.size 67 w2 v ps) (hT : 67 ≠ T3) (hp : w.heap.size ≤ p5) (hne : p3 ≠ p5)
    (o' : Obj) (v' : Value) (w1 : World) (hgrow : (w2.alloc o').grownBy w1 v.ownBlock) (hown' : w1.ownsRow w.heap.size 67 2 v' (ps.length + 1) ((flatP ps).map (Value.int .i64) ++ [.int .i64 q.1, .int .i64 q.2])) :
    w1.cell? ⟨p5, 0, none⟩ = some v ∧ w1.frozen? ⟨p5, 0, none⟩ = false ∧ Hid (BoxSt w p3 T3 u3 p5 (ps ++ [q]) (w1.setCell ⟨p5, 0, none⟩ v')) := by
  have a1 := (h1.ext ((World.Ext.refl _).alloc o')).grown hgrow (World.ownsRow.ne hg h1 hT)
  have a3 := (h3.ext ((World.Ext.refl _).alloc o')).grown hgrow (World.ownsRow.ne hg h3 (by decide))
  have ax := World.ownsRow.pushExt hg hx hgrow
  have ag : GrowP w.heap.size 67 w1 v' (ps ++ [q]) := GrowP.push hown'
  exact ⟨a3.cell, a3.free, ax.setCell (p := ⟨p5, 0, none⟩) hp v', a1.other (a := ⟨p5, 0, none⟩) (Ne.symm hne) v', v', a3.set v', ag.setCell (a := ⟨p5, 0, none⟩) (World.ownsRow.ne ag a3 (by decide)) v'⟩
theorem enters_depths1 : Enters 214 := enters_of Try.func214 (by kernel_rfl) (by kernel_rfl)
set_option maxHeartbeats 800000 in
theorem depths1_any (p3 p5 : Nat) (kind x y : Int) (a : Option Addr) (c : Nat) (ps : List (Int × Int)) (w : World) (hpos : 0 < ps.length) (hn : ps.length ≤ 1048576) (hm : RowP w a ps) (hb : AllNear ps) (hx : -40 ≤ x ∧ x ≤ 40) (hy : -40 ≤ y ∧ y ≤ 40)
    (h3 : w.cell? ⟨p3, 0, none⟩ = some (.int .i64 kind)) (h5 : w.cell? ⟨p5, 0, none⟩ = some (.slice a ps.length c)) :
    Calls Try.prog 214 #[.int .i64 x, .int .i64 y, .pointer (some ⟨p3, 0, none⟩), .pointer (some ⟨p5, 0, none⟩)] w fun e w' => e = .returned (.int .i64 (leastD (ps.map (farI kind (x, y))))) ∧ w.Ext w' := by
  have HL := Lib.hid (least_any kind x y a c ps w hpos hn hm hb hx hy)
  clear hpos hn hm hb hx hy
  generalize leastD (ps.map (farI kind (x, y))) = d at *
  go_enter Try.func214, Try.ntmps214
  go_wp2_with fail
  refine HL.out.mono ?_
  rintro e w2 ⟨j, rfl, hx2⟩
  go_wp2
  go_ret
  exact ⟨rfl, hx2⟩
set_option maxRecDepth 5000 in
set_option maxHeartbeats 3200000 in
theorem depths_any (b ab W H : Nat) (kind : Int) (l : List Bool) (w : World) (hW : W ≤ 38) (hH : H ≤ 38) (hI : Img w b ab W H l) :
    Calls Try.prog 143 #[.pointer (some ⟨b, 0, none⟩), .int .i64 kind] w (MatRet w (grd W H (depI kind W H l))) := by
  obtain ⟨i0, hi, hz0, hz1, hz2⟩ := info_parts Try.infoSpot
  obtain ⟨W0, hW0⟩ : ∃ W0, W0 = ((w.alloc (.cells #[.int .i64 kind] 2)).alloc (.cells #[] 67)).alloc (.cells #[.slice (some ⟨w.heap.size + 1, 0, none⟩) 0 0] 161) := ⟨_, rfl⟩
  have hx0 : w.Ext W0 := by rw [hW0]; repeat (first | exact World.Ext.refl _ | exact ⟨_, rfl⟩ | assumption | refine World.Ext.over ?_ _ | refine World.Ext.drewN ?_ _ | refine World.Ext.drew ?_ | refine World.Ext.alloc ?_ _ | refine World.Ext.setCell ?_ (by simp) _)
  have h1 : One W0 w.heap.size 2 (.int .i64 kind) := by
    rw [hW0]
    exact ((One.new w _ _ _ rfl).ext ((World.Ext.refl _).alloc _)).ext ((World.Ext.refl _).alloc _)
  have h3 : One W0 (w.heap.size + 1 + 1) 161 (.slice (some ⟨w.heap.size + 1, 0, none⟩) 0 0) := by
    rw [hW0]
    exact One.new _ _ _ _ (by simp)
  have hg : GrowP w.heap.size 67 W0 (.slice (some ⟨w.heap.size + 1, 0, none⟩) 0 0) [] := by
    rw [hW0]
    have h := (GrowP.empty (lo := w.heap.size) (e := 67) (w.alloc (.cells #[.int .i64 kind] 2)) (by simp)).ext ((World.Ext.refl _).alloc (.cells #[.slice (some ⟨w.heap.size + 1, 0, none⟩) 0 0] 161))
    simpa using h
  have HST : Hid (BoxSt w w.heap.size 2 (.int .i64 kind) (w.heap.size + 1 + 1) [] W0) := ⟨hx0, h1, _, h3, hg⟩
  have HI := Lib.hid hI
  have HWP : Hid (∀ i j, whiteP W H l i j = !pxl W H l i j) := fun i j => rfl
  have HNE : Hid (0 < (spotsP (W + 2) (whiteP W H l) ((H + 2) * (W + 2))).length) := spotsP_head (by omega) (by omega) (by unfold whiteP; rw [pxl_out (by rw [Bool.eq_false_iff, Ne, hasB_true]; omega)]; rfl)
  have HNR : Hid (AllNear (spotsP (W + 2) (whiteP W H l) ((H + 2) * (W + 2)))) := fun i hi => by
    have hmem : (spotsP (W + 2) (whiteP W H l) ((H + 2) * (W + 2))).getD i (0, 0) ∈ spotsP (W + 2) (whiteP W H l) ((H + 2) * (W + 2)) := by
      rw [List.getD_eq_getElem?_getD, List.getElem?_eq_getElem hi]
      exact List.getElem_mem hi
    have := spotsP_near (W + 2) (H + 2) (whiteP W H l) (by omega) (by omega) _ hmem
    omega
  have HDI : Hid (∀ x y : Nat, depI kind W H l x y = leastD ((spotsP (W + 2) (whiteP W H l) ((H + 2) * (W + 2))).map (farI kind (x, y)))) := fun x y => rfl
  have HLEN : Hid (∀ k, (spotsP (W + 2) (whiteP W H l) k).length ≤ k) := fun k => spotsP_len _ _ _
  have HK : Hid (∀ j i : Nat, j ≤ H + 2 → i ≤ W + 2 → j * (W + 2) + i ≤ 2000) := fun j i h1 h2 => by
    have : j * (W + 2) ≤ 40 * 40 := Nat.mul_le_mul (by omega) (by omega)
    omega
  generalize whiteP W H l = P at *
  generalize depI kind W H l = g at *
  clear hI hx0 h1 h3 hg
  have h0 := (HI.out.ext HST.out.x).c0
  go_enter Try.func143, Try.ntmps143
  go_wp2
  rw [← hW0]
  clear hW0 h0
  go_loopw [6, 7] (fun j _ wr => ∃ k : Nat, k ≤ H + 2 ∧ j = .int .i64 ((k : Int) - 1) ∧ Hid (BoxSt w w.heap.size 2 (.int .i64 kind) (w.heap.size + 1 + 1) (spotsP (W + 2) P (k * (W + 2))) wr)) (fun j _ _ => H + 2 - (intOf j + 1).toNat)
  case atStart => exact ⟨0, Nat.zero_le _, rfl, by rw [Nat.zero_mul]; exact HST⟩
  case round =>
    obtain ⟨j, hj, rfl, HS⟩ := hrel
    clear HST
    obtain ⟨wo, rfl⟩ : ∃ wo : World, wo = wr := ⟨_, rfl⟩
    have hI := HI.out.ext HS.out.x
    have c0 := hI.c0
    have c1 := hI.c1
    have lb := hI.lt
    clear hI
    by_cases hltj : j < H + 2
    · have hltj' : (j : Int) - 1 ≤ (H : Int) := by omega
      go_wp2
      clear c0 c1 lb
      go_loopw [7] (fun i wr => ∃ k : Nat, k ≤ W + 2 ∧ i = .int .i64 ((k : Int) - 1) ∧ Hid (BoxSt w w.heap.size 2 (.int .i64 kind) (w.heap.size + 1 + 1) (spotsP (W + 2) P (j * (W + 2) + k)) wr)) (fun i _ => W + 2 - (intOf i + 1).toNat)
      case atStart => exact ⟨0, Nat.zero_le _, rfl, HS⟩
      case round =>
        obtain ⟨i, hi', rfl, HS⟩ := hrel
        have hI := HI.out.ext HS.out.x
        have c0 := hI.c0
        have c1 := hI.c1
        have lb := hI.lt
        by_cases hlti : i < W + 2
        · have hlti' : (i : Int) - 1 ≤ (W : Int) := by omega
          have HPB := HWP.out ((i : Int) - 1) ((j : Int) - 1)
          cases hb : pxl W H l ((i : Int) - 1) ((j : Int) - 1)
          · have HC := Lib.hid (get_any b ab W H l ((i : Int) - 1) ((j : Int) - 1) wr (by omega) (by omega) hI _ hb)
            rw [hb, Bool.not_false] at HPB
            have HN := Lib.hid (spotsP_yes hlti HPB)
            have HB1 : Hid ((spotsP (W + 2) P (j * (W + 2) + i)).length + 1 ≤ maxLen) := by show _ ≤ _; have h1 := HLEN.out (j * (W + 2) + i); have h2 := HK.out j i (by omega) (by omega); unfold maxLen; omega
            have HB2 : Hid (((spotsP (W + 2) P (j * (W + 2) + i)).length + 1) * 16 ≤ 140737488355328) := by show _ ≤ _; have h1 := HLEN.out (j * (W + 2) + i); have h2 := HK.out j i (by omega) (by omega); omega
            clear hb HPB hI
            go_wp2_with fail
            refine HC.out.mono ?_
            rintro e w2 ⟨rfl, hx2⟩
            obtain ⟨ax, a1, v, a3, ag⟩ := HS.out.ext hx2
            have c3 := a3.cell
            have f3 := a3.free
            have l3 := a3.lt
            have HNEXT : Hid (∀ (o' : Obj) (v' : Value) (w1 : World), (w2.alloc o').grownBy w1 v.ownBlock → w1.ownsRow w.heap.size 67 2 v' ((spotsP (W + 2) P (j * (W + 2) + i)).length + 1) ((flatP (spotsP (W + 2) P (j * (W + 2) + i))).map (Value.int .i64) ++ [.int .i64 ((i : Int) - 1), .int .i64 ((j : Int) - 1)]) →
                w1.cell? ⟨w.heap.size + 1 + 1, 0, none⟩ = some v ∧ w1.frozen? ⟨w.heap.size + 1 + 1, 0, none⟩ = false ∧ Hid (BoxSt w w.heap.size 2 (.int .i64 kind) (w.heap.size + 1 + 1) (spotsP (W + 2) P (j * (W + 2) + (i + 1))) (w1.setCell ⟨w.heap.size + 1 + 1, 0, none⟩ v'))) := fun o' v' w1 hgrow hown' => by
              rw [← Nat.add_assoc, HN.out]
              exact BoxSt.push ax a1 a3 ag (by decide) (by omega) (by omega) o' v' w1 hgrow hown'
            have hown := ag
            unfold GrowP at hown
            have HLE : ∀ o' : Obj, w.heap.size ≤ (w2.alloc o').heap.size := fun o' => (ax.alloc o').size
            clear HS HC hx2 ax a1 a3 ag HN c0 c1 lb
            generalize spotsP (W + 2) P (j * (W + 2) + i) = ps at *
            go_wp2_with (at_builtin; refine wpList_append_own _ rfl _ _ 161 rfl w.heap.size 67 i0 (.agg #[.int .i64 0, .int .i64 0]) 2 16 Try.underlying161 hi hz0 hz1 hz2 rfl (by decide) _ _ _ rfl (hown.alloc _) ⟨w2.heap.size, 0, none⟩ 1 1 [.int .i64 ((i : Int) - 1), .int .i64 ((j : Int) - 1)] rfl rfl (cell_two_at (by simp)) (by simp [Value.oneCell']) HB1.out HB2.out (HLE _) (fun v' w1 hown' hgrow _ => ?_); obtain ⟨d3, e3, HS⟩ := HNEXT.out _ _ _ hgrow hown'; obtain ⟨a4, c4, rfl, _⟩ := World.ownsRow.form hown'; clear hgrow hown' hown c3 f3 l3)
            go_roundw
            case rel => exact ⟨i + 1, by omega, by congr 1; omega, HS⟩
            case measure => simp [intOf]; omega
          · have HC := Lib.hid (get_any b ab W H l ((i : Int) - 1) ((j : Int) - 1) wr (by omega) (by omega) hI _ hb)
            rw [hb, Bool.not_true] at HPB
            have HN := Lib.hid (spotsP_no hlti HPB)
            clear hb HPB hI
            go_wp2_with fail
            refine HC.out.mono ?_
            rintro e w2 ⟨rfl, hx2⟩
            have HS2 : Hid (BoxSt w w.heap.size 2 (.int .i64 kind) (w.heap.size + 1 + 1) (spotsP (W + 2) P (j * (W + 2) + (i + 1))) w2) := by
              show BoxSt _ _ _ _ _ _ _
              rw [← Nat.add_assoc, HN.out]
              exact HS.out.ext hx2
            clear HS HC hx2 HN c0 c1 lb
            go_wp2
            go_roundw
            case rel => exact ⟨i + 1, by omega, by congr 1; omega, HS2⟩
            case measure => simp [intOf]; omega
        · have : i = W + 2 := by omega
          subst this
          have hge : (W : Int) < ((W + 2 : Nat) : Int) - 1 := by omega
          clear hI
          go_wp2
          go_roundw
          case rel => exact ⟨j + 1, by omega, by congr 1; omega, by rw [Nat.succ_mul]; exact HS⟩
          case measure => simp [intOf]; omega
    · have : j = H + 2 := by omega
      subst this
      have hge : (H : Int) < ((H + 2 : Nat) : Int) - 1 := by omega
      obtain ⟨ax, a1, v, a3, ag⟩ := HS.out
      obtain ⟨a, c, rfl, _⟩ := ag.form
      have hr := ag.own.row
      have HG := Lib.hid (grid_any b ab 214 W H l #[.pointer (some ⟨w.heap.size, 0, none⟩), .pointer (some ⟨w.heap.size + 1 + 1, 0, none⟩)] g wo (by omega) (by omega) (HI.out.ext ax) enters_depths1 (fun w' hx x y h1 h2 => by
        rw [HDI.out]
        refine depths1_any _ _ kind x y a c _ w' HNE.out ?_ (hr.ext hx) HNR.out (by omega) (by omega) (hx.cell a1.cell) (hx.cell a3.cell)
        have h1 := HLEN.out ((H + 2) * (W + 2))
        have h2 := HK.out (H + 2) 0 (by omega) (by omega)
        omega))
      have HX := Lib.hid ax
      clear HS ax a1 a3 ag hr
      go_wp2_with fail
      refine HG.out.mono ?_
      rintro e w2 ⟨a2, c2, A2, C2, rfl, hx2, ho2⟩
      have hz := HX.out.size
      have HR : Hid (MatRet w (grd W H g) (.returned (.slice a2 (grd W H g).length c2)) w2) := ⟨a2, c2, A2, C2, rfl, HX.out.trans hx2, ho2.lower hz⟩
      clear hx2 ho2 hz
      go_wp2
      go_ret
      exact HR.out
end Go.Proofs.Ytldbabigjfkdlaa
namespace Go.Proofs.Ytldbabigjfkdlaa
open Go.RowKit
set_option maxHeartbeats 400000 in
theorem l06Kind_any (k : Int) (w : World) : Calls Try.prog 219 #[.int .i64 k] w fun e w' => e = .returned (.bool (inB k 0 2)) ∧ w.Ext w' := by
  have HC := Lib.hid (fun w => l00In_any k 0 2 w _ rfl)
  generalize inB k 0 2 = t at HC ⊢
  go_enter Try.func219, Try.ntmps219
  go_wp2_with fail
  refine (HC.out _).mono ?_
  rintro e w1 ⟨rfl, hx⟩
  go_wp2
  go_ret
  exact ⟨rfl, hx⟩
set_option maxHeartbeats 400000 in
theorem l06Ask_any (p : Nat) (a : Option Addr) (c : Nat) (ss : List ByteArray) (k : Int) (w : World) (hb : PicBnd ss) (hp : w.cell? ⟨p, 0, none⟩ = some (.slice a ss.length c)) (hm : RowS w a ss) :
    Calls Try.prog 155 #[.pointer (some ⟨p, 0, none⟩), .int .i64 k] w fun e w' => e = .returned (.bool (picOk ss && inB k 0 2)) ∧ w.Ext w' := by
  have HIS := Lib.hid (l01Is_any p a c ss w hb.1 hb.2 hp hm _ rfl)
  have HK := Lib.hid (l06Kind_any k)
  generalize picOk ss = t at HIS ⊢
  generalize inB k 0 2 = u at HK ⊢
  clear hb hp hm
  go_enter Try.func155, Try.ntmps155
  go_wp2_with fail
  refine HIS.out.mono ?_
  rintro e w1 ⟨rfl, hx⟩
  cases t
  · go_wp2
    go_ret
    exact ⟨rfl, hx⟩
  · go_wp2_with fail
    refine (HK.out _).mono ?_
    rintro e w2 ⟨rfl, hx2⟩
    go_wp2
    go_ret
    exact ⟨rfl, hx.trans hx2⟩
set_option maxHeartbeats 400000 in
theorem kindOk_any (k : Int) (w : World) (t : Bool) (ht : inB k 0 2 = t) : Calls Try.prog 141 #[.int .i64 k] w fun e w' => e = .returned (.bool t) ∧ w.Ext w' := by
  go_enter Try.func141, Try.ntmps141
  go_wp2_with fail
  refine (in_any _ _ _ _ _ ht).mono ?_
  rintro e w1 ⟨rfl, hx⟩
  go_wp2
  go_ret
  exact ⟨rfl, hx⟩
end Go.Proofs.Ytldbabigjfkdlaa
