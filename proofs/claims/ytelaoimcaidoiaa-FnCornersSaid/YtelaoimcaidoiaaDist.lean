/- Distances. -/
import Derived.Test.YtelaoimcaidoiaaWith
import Derived.Deep.RegionWith
namespace Go.Proofs.Ytelaoimcaidoiaa
open Go.RowKit
def mxI (a b : Int) : Int := if b < a then a else b
theorem mxI_abs {a : Int} (h : -100 ≤ a ∧ a ≤ 100) : 0 ≤ mxI a (-a) ∧ mxI a (-a) ≤ 100 := by unfold mxI; split <;> omega
theorem sq_bd {a : Int} (h0 : 0 ≤ a) (h1 : a ≤ 100) : 0 ≤ a * a ∧ a * a ≤ 10000 := ⟨Int.mul_nonneg h0 h0, by have := Int.mul_le_mul h1 h1 h0 (by omega : (0 : Int) ≤ 100); omega⟩
/-- The distance of a kind, of two spots that are dx and dy apart. -/
def farD (kind x y : Int) : Int := if kind = 0 then x + y else if kind = 1 then mxI x y else x * x + y * y
def farI (kind : Int) (p q : Int × Int) : Int := farD kind (mxI (p.1 - q.1) (q.1 - p.1)) (mxI (p.2 - q.2) (q.2 - p.2))
theorem mxI_diff {a b : Int} (h1 : -50 ≤ a ∧ a ≤ 50) (h2 : -50 ≤ b ∧ b ≤ 50) : 0 ≤ mxI (a - b) (b - a) ∧ mxI (a - b) (b - a) ≤ 100 := by unfold mxI; split <;> omega
theorem farI_bd (kind : Int) {p q : Int × Int} (h1 : -50 ≤ p.1 ∧ p.1 ≤ 50) (h2 : -50 ≤ p.2 ∧ p.2 ≤ 50) (h3 : -50 ≤ q.1 ∧ q.1 ≤ 50) (h4 : -50 ≤ q.2 ∧ q.2 ≤ 50) : 0 ≤ farI kind p q ∧ farI kind p q ≤ 20000 := by
  obtain ⟨a0, a1⟩ := mxI_diff h1 h3
  obtain ⟨b0, b1⟩ := mxI_diff h2 h4
  unfold farI farD
  generalize mxI (p.1 - q.1) (q.1 - p.1) = x at *
  generalize mxI (p.2 - q.2) (q.2 - p.2) = y at *
  have s1 := sq_bd a0 a1
  have s2 := sq_bd b0 b1
  split
  · omega
  · split
    · unfold mxI; split <;> omega
    · omega
theorem farI_comm (kind : Int) (p q : Int × Int) : farI kind p q = farI kind q p := by
  unfold farI
  have h : ∀ a b : Int, mxI a b = mxI b a := fun a b => by unfold mxI; split <;> split <;> omega
  rw [h (p.1 - q.1), h (p.2 - q.2)]
set_option maxHeartbeats 400000 in
theorem size_any (a : Int) (w : World) (h : -100 ≤ a ∧ a ≤ 100) (t : Int) (ht : mxI a (-a) = t) :
    Calls Try.prog 49 #[.int .i64 a] w fun e w' => e = .returned (.int .i64 t) ∧ w.Ext w' := by
  obtain ⟨h1, h2⟩ := h
  have HT := Lib.hid ht
  clear ht
  go_enter Try.func49, Try.ntmps49
  go_wp2
  all_goals
    go_ret
    exact ⟨ret_int (by have h5 := HT.out; unfold mxI at h5; split at h5 <;> omega), .refl _⟩
end Go.Proofs.Ytelaoimcaidoiaa
namespace Go.Proofs.Ytelaoimcaidoiaa
open Go.RowKit
/-- The least number, the first one of equal ones; -1 of none. -/
def leastD (ds : List Int) : Int := ds.foldl (fun m d => if m < 0 ∨ d < m then d else m) (-1)
theorem leastD_snoc (ds : List Int) (d : Int) : leastD (ds ++ [d]) = if leastD ds < 0 ∨ d < leastD ds then d else leastD ds := by
  unfold leastD
  rw [List.foldl_append]
  rfl
theorem least_from : ∀ (ds : List Int) (m : Int), 0 ≤ m → (∀ d, d ∈ ds → 0 ≤ d) → (ds.foldl (fun m d => if m < 0 ∨ d < m then d else m) m = m ∨ ds.foldl (fun m d => if m < 0 ∨ d < m then d else m) m ∈ ds) ∧ ds.foldl (fun m d => if m < 0 ∨ d < m then d else m) m ≤ m ∧ (∀ d, d ∈ ds → ds.foldl (fun m d => if m < 0 ∨ d < m then d else m) m ≤ d) ∧ 0 ≤ ds.foldl (fun m d => if m < 0 ∨ d < m then d else m) m
  | [], m, hm, _ => ⟨.inl rfl, Int.le_refl _, (fun d hd => by cases hd), hm⟩
  | d :: ds, m, hm, h => by
    have hd := h d (by simp)
    rw [List.foldl_cons]
    by_cases hc : d < m
    · rw [if_pos (.inr hc)]
      obtain ⟨h1, h2, h3, h4⟩ := least_from ds d hd (fun x hx => h x (by simp [hx]))
      refine ⟨?_, by omega, fun x hx => ?_, h4⟩
      · rcases h1 with h1 | h1
        · right; rw [h1]; simp
        · right; simp [h1]
      · rcases List.mem_cons.1 hx with rfl | hx
        · exact h2
        · exact h3 x hx
    · rw [if_neg (by omega)]
      obtain ⟨h1, h2, h3, h4⟩ := least_from ds m hm (fun x hx => h x (by simp [hx]))
      refine ⟨?_, h2, fun x hx => ?_, h4⟩
      · rcases h1 with h1 | h1
        · exact .inl h1
        · right; simp [h1]
      · rcases List.mem_cons.1 hx with rfl | hx
        · omega
        · exact h3 x hx
theorem leastD_spec (ds : List Int) (h : ∀ d, d ∈ ds → 0 ≤ d) : (ds = [] ∧ leastD ds = -1) ∨ (leastD ds ∈ ds ∧ (∀ d, d ∈ ds → leastD ds ≤ d) ∧ 0 ≤ leastD ds) := by
  cases ds with
  | nil => exact .inl ⟨rfl, rfl⟩
  | cons d ds =>
    right
    have hd := h d (by simp)
    unfold leastD
    rw [List.foldl_cons, if_pos (.inl (by decide))]
    obtain ⟨h1, h2, h3, h4⟩ := least_from ds d hd (fun x hx => h x (by simp [hx]))
    refine ⟨?_, fun x hx => ?_, h4⟩
    · rcases h1 with h1 | h1
      · rw [h1]; simp
      · simp [h1]
    · rcases List.mem_cons.1 hx with rfl | hx
      · exact h2
      · exact h3 x hx
end Go.Proofs.Ytelaoimcaidoiaa
namespace Go
open Go.RowKit
end Go
namespace Go.Proofs.Ytelaoimcaidoiaa
open Go.RowKit
/-- How far the black ones of the first k pixels are. -/
def nearTo (kind : Int) (W : Nat) (l : List Bool) (p : Int × Int) (k : Nat) : Int := leastD ((spotsTo W l k).map (farI kind p))
theorem nearTo_no {kind : Int} {W : Nat} {l : List Bool} {p : Int × Int} {k : Nat} (h : l.getD k false = false) : nearTo kind W l p (k + 1) = nearTo kind W l p k := by unfold nearTo; rw [spotsTo_no h]
theorem nearTo_yes {kind : Int} {W : Nat} {l : List Bool} {p : Int × Int} {x y : Nat} (hx : x < W) (h : l.getD (y * W + x) false = true) :
    nearTo kind W l p (y * W + x + 1) = if nearTo kind W l p (y * W + x) < 0 ∨ farI kind p (x, y) < nearTo kind W l p (y * W + x) then farI kind p (x, y) else nearTo kind W l p (y * W + x) := by
  unfold nearTo; rw [spotsTo_yes hx h, List.map_append, List.map_cons, List.map_nil, leastD_snoc]
/-- A spot and a distance are returned. -/
def NearRet (w : World) (d : Int) (e : Ending) (w' : World) : Prop := ∃ bx by' : Int, e = .returned (.tuple #[.agg #[.int .i64 bx, .int .i64 by'], .int .i64 d]) ∧ w.Ext w'
def NearSt (w : World) (p8 p10 : Nat) (T : TypeId) (wr : World) : Prop := ∃ u v a b : Int, w.Ext wr ∧ Two wr p8 T (.int .i64 u) (.int .i64 v) ∧ Two wr p10 T (.int .i64 a) (.int .i64 b)
theorem NearSt.x {w : World} {p8 p10 : Nat} {T : TypeId} {wr : World} (h : NearSt w p8 p10 T wr) : w.Ext wr := let ⟨_, _, _, _, h1, _⟩ := h; h1
theorem NearSt.put {w : World} {p8 p10 : Nat} {T : TypeId} {wr : World} {u v a b : Int} (hx : w.Ext wr) (h1 : Two wr p8 T (.int .i64 u) (.int .i64 v)) (h2 : Two wr p10 T (.int .i64 a) (.int .i64 b)) (hn : p8 ≠ p10) (hl : w.heap.size ≤ p10) (c d : Int) :
    NearSt w p8 p10 T ((wr.setCell ⟨p10, 0, none⟩ (.int .i64 c)).setCell ⟨p10, 1, none⟩ (.int .i64 d)) :=
  ⟨u, v, c, d, (hx.setCell (p := ⟨p10, 0, none⟩) hl _).setCell (p := ⟨p10, 1, none⟩) hl _, (h1.other (a := ⟨p10, 0, none⟩) (Ne.symm hn) _).other (a := ⟨p10, 1, none⟩) (Ne.symm hn) _, h2.set _ _⟩
theorem NearSt.ext {w : World} {p8 p10 : Nat} {T : TypeId} {wr w' : World} (h : NearSt w p8 p10 T wr) (hx : wr.Ext w') : NearSt w p8 p10 T w' :=
  let ⟨u, v, a, b, h1, h2, h3⟩ := h; ⟨u, v, a, b, h1.trans hx, h2.ext hx, h3.ext hx⟩
end Go.Proofs.Ytelaoimcaidoiaa
namespace Go.Proofs.Ytelaoimcaidoiaa
open Go.RowKit
theorem least_step (ds : List Int) (h : ∀ d, d ∈ ds → 0 ≤ d) (k j : Nat) (hk : k < ds.length) (hj : j < ds.length) (he : ds.getD j 0 = leastD (ds.take (max 1 k))) :
    (ds.getD k 0 < ds.getD j 0 → ds.getD k 0 = leastD (ds.take (max 1 (k + 1)))) ∧ (ds.getD j 0 ≤ ds.getD k 0 → ds.getD j 0 = leastD (ds.take (max 1 (k + 1)))) := by
  have hmem : ∀ i, i < ds.length → 0 ≤ ds.getD i 0 := fun i hi => by
    rw [List.getD_eq_getElem?_getD, List.getElem?_eq_getElem hi]
    exact h _ (List.getElem_mem hi)
  by_cases k0 : k = 0
  · subst k0
    have e1 : ds.getD 0 0 = leastD (ds.take 1) := by
      cases ds with
      | nil => simp at hk
      | cons d ds => simp [leastD]
    rw [Nat.max_eq_left (by omega)] at he
    rw [Nat.max_eq_left (by omega), he, ← e1]
    exact ⟨fun _ => rfl, fun _ => rfl⟩
  · rw [Nat.max_eq_right (by omega)] at he
    rw [Nat.max_eq_right (by omega), List.take_succ_eq_append_getElem hk, leastD_snoc, ← he]
    have e2 : ds[k] = ds.getD k 0 := by rw [List.getD_eq_getElem?_getD, List.getElem?_eq_getElem hk]; rfl
    rw [e2]
    have := hmem j hj
    refine ⟨fun hlt => by rw [if_pos (.inr hlt)], fun hlt => by rw [if_neg (by omega)]⟩
def LeastRet (w : World) (d : Int) (e : Ending) (w' : World) : Prop := ∃ j : Nat, e = .returned (.tuple #[.int .i64 j, .int .i64 d]) ∧ w.Ext w'
def AllNear (ps : List (Int × Int)) : Prop := ∀ i, i < ps.length → -40 ≤ (ps.getD i (0, 0)).1 ∧ (ps.getD i (0, 0)).1 ≤ 40 ∧ -40 ≤ (ps.getD i (0, 0)).2 ∧ (ps.getD i (0, 0)).2 ≤ 40
theorem map_getD_far (kind : Int) (p : Int × Int) (ps : List (Int × Int)) (i : Nat) (hi : i < ps.length) : (ps.map (farI kind p)).getD i 0 = farI kind p (ps.getD i (0, 0)) := by
  simp [List.getD_eq_getElem?_getD, hi]
end Go.Proofs.Ytelaoimcaidoiaa
namespace Go.Proofs.Ytelaoimcaidoiaa
open Go.RowKit
/-- Those of the first k places of rows of width V, that begin at (-1, -1), that meet a condition. -/
def spotsP (V : Nat) (p : Int → Int → Bool) (k : Nat) : List (Int × Int) := ((List.range k).filter fun i => p (((i % V : Nat) : Int) - 1) (((i / V : Nat) : Int) - 1)).map fun i => (((i % V : Nat) : Int) - 1, ((i / V : Nat) : Int) - 1)
theorem spotsP_no {V : Nat} {p : Int → Int → Bool} {i j : Nat} (hi : i < V) (h : p ((i : Int) - 1) ((j : Int) - 1) = false) : spotsP V p (j * V + i + 1) = spotsP V p (j * V + i) := by
  have e1 : (j * V + i) % V = i := by rw [Nat.mul_comm, Nat.mul_add_mod, Nat.mod_eq_of_lt hi]
  have e2 : (j * V + i) / V = j := by rw [Nat.mul_comm, Nat.mul_add_div (by omega), Nat.div_eq_of_lt hi]; rfl
  unfold spotsP
  rw [List.range_succ, List.filter_append, List.filter_cons_of_neg (by rw [e1, e2, h]; decide), List.filter_nil, List.append_nil]
theorem spotsP_yes {V : Nat} {p : Int → Int → Bool} {i j : Nat} (hi : i < V) (h : p ((i : Int) - 1) ((j : Int) - 1) = true) : spotsP V p (j * V + i + 1) = spotsP V p (j * V + i) ++ [((i : Int) - 1, (j : Int) - 1)] := by
  have e1 : (j * V + i) % V = i := by rw [Nat.mul_comm, Nat.mul_add_mod, Nat.mod_eq_of_lt hi]
  have e2 : (j * V + i) / V = j := by rw [Nat.mul_comm, Nat.mul_add_div (by omega), Nat.div_eq_of_lt hi]; rfl
  unfold spotsP
  rw [List.range_succ, List.filter_append, List.map_append, List.filter_cons_of_pos (by rw [e1, e2]; exact h), List.filter_nil, List.map_cons, e1, e2]
  rfl
theorem spotsP_len (V : Nat) (p : Int → Int → Bool) (k : Nat) : (spotsP V p k).length ≤ k := by
  unfold spotsP
  rw [List.length_map]
  exact Nat.le_trans (List.length_filter_le _ _) (by simp)
theorem spotsP_near (V U : Nat) (p : Int → Int → Bool) (hV : V ≤ 41) (hU : U ≤ 41) : ∀ q, q ∈ spotsP V p (U * V) → -1 ≤ q.1 ∧ q.1 ≤ 40 ∧ -1 ≤ q.2 ∧ q.2 ≤ 40 := by
  intro q hmem
  unfold spotsP at hmem
  rw [List.mem_map] at hmem
  obtain ⟨k, hk, rfl⟩ := hmem
  have hk' : k < U * V := by
    have := (List.mem_filter.1 hk).1
    simpa using this
  have hV0 : 0 < V := by
    rcases Nat.eq_zero_or_pos V with e | e
    · rw [e] at hk'; simp at hk'
    · exact e
  have h1 : k % V < V := Nat.mod_lt _ hV0
  have h2 : k / V < U := Nat.div_lt_of_lt_mul (by rw [Nat.mul_comm]; exact hk')
  generalize k % V = r at *
  generalize k / V = s at *
  refine ⟨?_, ?_, ?_, ?_⟩ <;> dsimp only <;> omega
theorem spotsP_head {V U : Nat} {p : Int → Int → Bool} (hV : 0 < V) (hU : 0 < U) (h : p (-1) (-1) = true) : 0 < (spotsP V p (U * V)).length := by
  have h0 : 0 < U * V := Nat.mul_pos hU hV
  have : ((-1 : Int), (-1 : Int)) ∈ spotsP V p (U * V) := by
    unfold spotsP
    rw [List.mem_map]
    refine ⟨0, ?_, by simp⟩
    rw [List.mem_filter]
    exact ⟨by simpa using h0, by simpa using h⟩
  exact List.length_pos_of_mem this
/-- How far those of the first k places are. -/
def depthTo (kind : Int) (V : Nat) (p : Int → Int → Bool) (q : Int × Int) (k : Nat) : Int := leastD ((spotsP V p k).map (farI kind q))
theorem depthTo_no {kind : Int} {V : Nat} {p : Int → Int → Bool} {q : Int × Int} {i j : Nat} (hi : i < V) (h : p ((i : Int) - 1) ((j : Int) - 1) = false) : depthTo kind V p q (j * V + i + 1) = depthTo kind V p q (j * V + i) := by unfold depthTo; rw [spotsP_no hi h]
theorem depthTo_yes {kind : Int} {V : Nat} {p : Int → Int → Bool} {q : Int × Int} {i j : Nat} (hi : i < V) (h : p ((i : Int) - 1) ((j : Int) - 1) = true) :
    depthTo kind V p q (j * V + i + 1) = if depthTo kind V p q (j * V + i) < 0 ∨ farI kind q ((i : Int) - 1, (j : Int) - 1) < depthTo kind V p q (j * V + i) then farI kind q ((i : Int) - 1, (j : Int) - 1) else depthTo kind V p q (j * V + i) := by
  unfold depthTo; rw [spotsP_yes hi h, List.map_append, List.map_cons, List.map_nil, leastD_snoc]
def whiteP (W H : Nat) (l : List Bool) (i j : Int) : Bool := !pxl W H l i j
def depI (kind : Int) (W H : Nat) (l : List Bool) (x y : Nat) : Int := depthTo kind (W + 2) (whiteP W H l) (x, y) ((H + 2) * (W + 2))
end Go.Proofs.Ytelaoimcaidoiaa
namespace Go.Proofs.Ytelaoimcaidoiaa
open Go.RowKit
end Go.Proofs.Ytelaoimcaidoiaa
namespace Go.Proofs.Ytelaoimcaidoiaa
open Go.RowKit
/-- A captured value and a captured slice of pairs that grows. -/
structure BoxSt (w : World) (p3 : Nat) (T3 : TypeId) (u3 : Value) (p5 : Nat) (ps : List (Int × Int)) (wr : World) : Prop where
  x : w.Ext wr
  one : One wr p3 T3 u3
  grow : ∃ v, One wr p5 37 v ∧ GrowP w.heap.size 33 wr v ps
theorem BoxSt.ext {w : World} {p3 : Nat} {T3 : TypeId} {u3 : Value} {p5 : Nat} {ps : List (Int × Int)} {wr w' : World} (h : BoxSt w p3 T3 u3 p5 ps wr) (hx : wr.Ext w') : BoxSt w p3 T3 u3 p5 ps w' :=
  ⟨h.x.trans hx, h.one.ext hx, let ⟨v, h1, h2⟩ := h.grow; ⟨v, h1.ext hx, h2.ext hx⟩⟩
theorem BoxSt.push {w : World} {p3 : Nat} {T3 : TypeId} {u3 : Value} {p5 : Nat} {ps : List (Int × Int)} {w2 : World} {v : Value} {q : Int × Int} (hx : w.Ext w2) (h1 : One w2 p3 T3 u3) (h3 : One w2 p5 37 v) (hg : GrowP w.heap.size 33 w2 v ps) (hT : 33 ≠ T3) (hp : w.heap.size ≤ p5) (hne : p3 ≠ p5)
    (o' : Obj) (v' : Value) (w1 : World) (hgrow : (w2.alloc o').grownBy w1 v.ownBlock) (hown' : w1.ownsRow w.heap.size 33 2 v' (ps.length + 1) ((flatP ps).map (Value.int .i64) ++ [.int .i64 q.1, .int .i64 q.2])) :
    w1.cell? ⟨p5, 0, none⟩ = some v ∧ w1.frozen? ⟨p5, 0, none⟩ = false ∧ Hid (BoxSt w p3 T3 u3 p5 (ps ++ [q]) (w1.setCell ⟨p5, 0, none⟩ v')) := by
  have a1 := (h1.ext ((World.Ext.refl _).alloc o')).grown hgrow (World.ownsRow.ne hg h1 hT)
  have a3 := (h3.ext ((World.Ext.refl _).alloc o')).grown hgrow (World.ownsRow.ne hg h3 (by decide))
  have ax := World.ownsRow.pushExt hg hx hgrow
  have ag : GrowP w.heap.size 33 w1 v' (ps ++ [q]) := GrowP.push hown'
  exact ⟨a3.cell, a3.free, ax.setCell (p := ⟨p5, 0, none⟩) hp v', a1.other (a := ⟨p5, 0, none⟩) (Ne.symm hne) v', v', a3.set v', ag.setCell (a := ⟨p5, 0, none⟩) (World.ownsRow.ne ag a3 (by decide)) v'⟩
end Go.Proofs.Ytelaoimcaidoiaa
namespace Go.Proofs.Ytelaoimcaidoiaa
open Go.RowKit
end Go.Proofs.Ytelaoimcaidoiaa
