/- Elements out of any offsets; sums and mirrors of elements. -/
import Derived.Test.YtkpgelhmeokemaaCmcF
import Derived.Test.YtkpgelhmeokemaaDecQ
import Derived.Maps.AppendAt
namespace Go.Proofs.Ytkpgelhmeokemaa
open Go Go.RowKit
set_option maxRecDepth 5000 in
set_option maxHeartbeats 800000 in
theorem elementG_any (base g cap : Nat) (ps : List (Int × Int)) (w : World) (hown : GrowP base 45 w (.slice (some ⟨g, 0, none⟩) ps.length cap) ps) (hn : ps.length ≤ 1048576) :
    Calls Try.prog 94 #[.slice (some ⟨g, 0, none⟩) ps.length cap] w fun e w' => e = .returned (.agg #[.slice (some ⟨g, 0, none⟩) (setL ps).length cap]) ∧ GrowP base 45 w' (.slice (some ⟨g, 0, none⟩) (setL ps).length cap) (setL ps) ∧ w.grownBy w' (some g) := by
  obtain ⟨W0, hW0⟩ : ∃ W0, W0 = w.alloc (.cells #[.slice none 0 0] 48) := ⟨_, rfl⟩
  have hx0 : w.Ext W0 := by rw [hW0]; repeat (first | exact World.Ext.refl _ | exact ⟨_, rfl⟩ | assumption | refine World.Ext.over ?_ _ | refine World.Ext.drewN ?_ _ | refine World.Ext.drew ?_ | refine World.Ext.alloc ?_ _ | refine World.Ext.setCell ?_ (by simp) _)
  have hone : One W0 w.heap.size 48 (.slice none 0 0) := by rw [hW0]; exact One.new _ _ _ _ rfl
  have hg : g < w.heap.size := (World.ownsRow.lt hown g rfl).2
  have HSO := Lib.hid (sortSpot_any base g cap ps W0 (hown.ext hx0) hn)
  have HX0 := Lib.hid hx0
  have HO := Lib.hid hone
  have HN := Lib.hid hn
  clear hown hx0 hone hn
  obtain ⟨n, hnn⟩ : ∃ n, n = ps.length := ⟨_, rfl⟩
  have HNN := Lib.hid hnn
  rw [← hnn] at HSO
  rw [← hnn]
  clear hnn
  obtain ⟨L, hL⟩ : ∃ L, L = setL ps := ⟨_, rfl⟩
  have HLL := Lib.hid hL
  rw [← hL]
  clear hL
  obtain ⟨m, hm⟩ : ∃ m, m = L.length := ⟨_, rfl⟩
  have HMM := Lib.hid hm
  rw [← hm]
  clear hm
  go_enter Try.func94, Try.ntmps94
  go_wp2_with fail
  rw [← hW0]
  clear hW0
  refine HSO.out.mono ?_
  rintro e w1 ⟨rfl, qs, hp, hs, ho, hgr⟩
  have hql : qs.length = n := by rw [HNN.out]; exact hp.length_eq
  have hset := cmL_set hp hs
  have HO1 : Hid (One w1 w.heap.size 48 (.slice none 0 0)) := HO.out.grown hgr (by intro e; cases e; omega)
  have HGR := Lib.hid (grownBy_pre HX0.out hgr)
  have hcm := compactG_any base g cap qs w1 (by rw [hql]; exact ho) (by rw [hql, HNN.out]; exact HN.out)
  rw [hset, hql, ← HLL.out] at hcm
  have HCM := Lib.hid hcm
  clear ho hgr hp hs HSO HO hset hcm hql
  go_wp2_with fail
  refine HCM.out.mono ?_
  rintro e w2 ⟨rfl, ho2, hgr2⟩
  rw [← HMM.out] at ho2
  rw [← HMM.out]
  have hone2 : One w2 w.heap.size 48 (.slice none 0 0) := HO1.out.grown hgr2 (by intro e; cases e; omega)
  have r1 := hone2.cell
  have r2 := hone2.free
  have r3 := (hone2.set (.slice (some ⟨g, 0, none⟩) m cap)).cell
  have hl2 := hone2.lt
  have HFIN : Hid (GrowP base 45 (w2.setCell ⟨w.heap.size, 0, none⟩ (.slice (some ⟨g, 0, none⟩) m cap)) (.slice (some ⟨g, 0, none⟩) m cap) L ∧ w.grownBy (w2.setCell ⟨w.heap.size, 0, none⟩ (.slice (some ⟨g, 0, none⟩) m cap)) (some g)) :=
    ⟨GrowP.setCell ho2 (by simp only [Value.ownBlock]; intro e; cases e; omega) _, grownBy_set (grownBy_trans HGR.out hgr2) (Nat.le_refl _) _⟩
  clear hone2 ho2 hgr2 HGR HO1 HCM
  go_wp2
  exact bodyPost_ret (v := .agg #[.slice (some ⟨g, 0, none⟩) m cap]) (by simp [results, Try.results94, go_sem, r3]) rfl ⟨rfl, HFIN.out⟩
set_option maxRecDepth 5000 in
set_option maxHeartbeats 800000 in
theorem toldG_any (base g cap : Nat) (ps : List (Int × Int)) (w : World) (hown : GrowP base 45 w (.slice (some ⟨g, 0, none⟩) ps.length cap) ps) (hn : ps.length ≤ 1048576) (hok : elemOk (setL ps) = true) :
    Calls Try.prog 53 #[.slice (some ⟨g, 0, none⟩) ps.length cap] w fun e w' => e = .returned (.tuple #[.agg #[.slice (some ⟨g, 0, none⟩) (setL ps).length cap], .bool true]) ∧ GrowP base 45 w' (.slice (some ⟨g, 0, none⟩) (setL ps).length cap) (setL ps) ∧ w.grownBy w' (some g) := by
  obtain ⟨W0, hW0⟩ : ∃ W0, W0 = w.alloc (.cells #[.slice none 0 0] 48) := ⟨_, rfl⟩
  have hx0 : w.Ext W0 := by rw [hW0]; repeat (first | exact World.Ext.refl _ | exact ⟨_, rfl⟩ | assumption | refine World.Ext.over ?_ _ | refine World.Ext.drewN ?_ _ | refine World.Ext.drew ?_ | refine World.Ext.alloc ?_ _ | refine World.Ext.setCell ?_ (by simp) _)
  have hone : One W0 w.heap.size 48 (.slice none 0 0) := by rw [hW0]; exact One.new _ _ _ _ rfl
  have hg : g < w.heap.size := (World.ownsRow.lt hown g rfl).2
  have HEO := Lib.hid (elementG_any base g cap ps W0 (hown.ext hx0) hn)
  have HX0 := Lib.hid hx0
  have HO := Lib.hid hone
  have HOK := Lib.hid hok
  have HN : Hid ((setL ps).length ≤ 1048576) := Nat.le_trans (setL_len ps) hn
  clear hown hx0 hone hn hok
  obtain ⟨n, hnn⟩ : ∃ n, n = ps.length := ⟨_, rfl⟩
  rw [← hnn] at HEO
  rw [← hnn]
  clear hnn
  generalize setL ps = L at *
  obtain ⟨m, hm⟩ : ∃ m, m = L.length := ⟨_, rfl⟩
  have HMM := Lib.hid hm
  rw [← hm] at HEO
  rw [← hm]
  clear hm
  go_enter Try.func53, Try.ntmps53
  go_wp2_with fail
  rw [← hW0]
  clear hW0
  refine HEO.out.mono ?_
  rintro e w1 ⟨rfl, ho, hgr⟩
  obtain ⟨w2, hw2⟩ : ∃ w2, w2 = w1.alloc (.cells #[.slice (some ⟨g, 0, none⟩) m cap] 48) := ⟨_, rfl⟩
  have hx2 : w1.Ext w2 := by rw [hw2]; repeat (first | exact World.Ext.refl _ | exact ⟨_, rfl⟩ | assumption | refine World.Ext.over ?_ _ | refine World.Ext.drewN ?_ _ | refine World.Ext.drew ?_ | refine World.Ext.alloc ?_ _ | refine World.Ext.setCell ?_ (by simp) _)
  have hc2 : w2.cell? ⟨w1.heap.size, 0, none⟩ = some (.slice (some ⟨g, 0, none⟩) m cap) := by rw [hw2]; simp [go_sem]
  have hrow : RowP w2 (some ⟨g, 0, none⟩) L := by
    have h := ho
    rw [HMM.out] at h
    exact RowOf.ext (GrowP.own h).row hx2
  have HVE := Lib.hid (validElement_any (some ⟨g, 0, none⟩) cap L w2 HN.out hrow _ HOK.out)
  rw [← HMM.out] at HVE
  have HO2 : Hid (One w2 w.heap.size 48 (.slice none 0 0)) := (HO.out.grown hgr (by intro e; cases e; omega)).ext hx2
  have HOW := Lib.hid (ho.ext hx2)
  have HGR := Lib.hid (grownBy_more (grownBy_pre HX0.out hgr) hx2)
  have HC2 := Lib.hid hc2
  have lc2 := World.block_lt_of_cell? _ _ hc2
  clear ho hgr hx2 hrow HEO HO HX0
  go_wp2_with fail
  rw [← hw2]
  clear hw2
  refine HVE.out.mono ?_
  rintro e w3 ⟨rfl, hx3⟩
  have hone3 := HO2.out.ext hx3
  have r1 := hone3.cell
  have r2 := hone3.free
  have r3 := (hone3.set (.slice (some ⟨g, 0, none⟩) m cap)).cell
  have hl3 := hone3.lt
  have hc3 := hx3.cell HC2.out
  have lc3 := World.block_lt_of_cell? _ _ hc3
  have HFIN : Hid (GrowP base 45 (w3.setCell ⟨w.heap.size, 0, none⟩ (.slice (some ⟨g, 0, none⟩) m cap)) (.slice (some ⟨g, 0, none⟩) m cap) L ∧ w.grownBy (w3.setCell ⟨w.heap.size, 0, none⟩ (.slice (some ⟨g, 0, none⟩) m cap)) (some g)) :=
    ⟨GrowP.setCell (HOW.out.ext hx3) (by simp only [Value.ownBlock]; intro e; cases e; omega) _, grownBy_set (grownBy_more HGR.out hx3) (Nat.le_refl _) _⟩
  clear hone3 hx3 HOW HGR HO2 HVE hc2 lc2
  go_wp2
  exact bodyPost_ret (v := .tuple #[.agg #[.slice (some ⟨g, 0, none⟩) m cap], .bool true]) (by simp [results, Try.results53, go_sem, r3]) rfl ⟨rfl, HFIN.out⟩
theorem Two.res {w W1 : World} {p : Nat} {T : TypeId} {u v : Value} (a b : Value) (hX : w.Ext W1) (hp : w.heap.size ≤ p) (h : Two W1 p T u v) :
    W1.cell? ⟨p, 0, none⟩ = some u ∧ W1.frozen? ⟨p, 0, none⟩ = false ∧ (W1.setCell ⟨p, 0, none⟩ a).cell? ⟨p, 1, none⟩ = some v ∧ (W1.setCell ⟨p, 0, none⟩ a).frozen? ⟨p, 1, none⟩ = false ∧
    ((W1.setCell ⟨p, 0, none⟩ a).setCell ⟨p, 1, none⟩ b).cell? ⟨p, 0, none⟩ = some a ∧ ((W1.setCell ⟨p, 0, none⟩ a).setCell ⟨p, 1, none⟩ b).cell? ⟨p, 1, none⟩ = some b ∧ Hid (w.Ext ((W1.setCell ⟨p, 0, none⟩ a).setCell ⟨p, 1, none⟩ b)) := by
  have h2 := h.set a b
  refine ⟨h.cell0, h.free 0, ?_, ?_, h2.cell0, h2.cell1, (hX.setCell (p := ⟨p, 0, none⟩) hp _).setCell (p := ⟨p, 1, none⟩) hp _⟩
  · unfold Two at h
    simp [World.setCell, World.cell?, Array.getElem?_modify, h]
  · unfold Two at h
    simp [World.setCell, World.frozen?, Array.getElem?_modify, h]
set_option maxRecDepth 5000 in
set_option maxHeartbeats 800000 in
theorem plus_any (a b c d : Int) (w : World) (h1 : -1000 ≤ a ∧ a ≤ 1000) (h2 : -1000 ≤ b ∧ b ≤ 1000) (h3 : -1000 ≤ c ∧ c ≤ 1000) (h4 : -1000 ≤ d ∧ d ≤ 1000) :
    Calls Try.prog 59 #[.agg #[.int .i64 a, .int .i64 b], .agg #[.int .i64 c, .int .i64 d]] w fun e w' => e = .returned (.agg #[.int .i64 (a + c), .int .i64 (b + d)]) ∧ w.Ext w' := by
  obtain ⟨W0, hW0⟩ : ∃ W0, W0 = ((w.alloc (.cells #[.int .i64 a, .int .i64 b] 45)).alloc (.cells #[.int .i64 c, .int .i64 d] 45)).alloc (.cells #[.int .i64 0, .int .i64 0] 45) := ⟨_, rfl⟩
  have hx0 : w.Ext W0 := by rw [hW0]; repeat (first | exact World.Ext.refl _ | exact ⟨_, rfl⟩ | assumption | refine World.Ext.over ?_ _ | refine World.Ext.drewN ?_ _ | refine World.Ext.drew ?_ | refine World.Ext.alloc ?_ _ | refine World.Ext.setCell ?_ (by simp) _)
  have HA : Hid (Two W0 w.heap.size 45 (.int .i64 a) (.int .i64 b)) := by rw [hW0]; exact (Two.new w _ _ _ _ rfl).ext (by repeat (first | exact World.Ext.refl _ | exact ⟨_, rfl⟩ | assumption | refine World.Ext.over ?_ _ | refine World.Ext.drewN ?_ _ | refine World.Ext.drew ?_ | refine World.Ext.alloc ?_ _ | refine World.Ext.setCell ?_ (by simp) _))
  have HC : Hid (Two W0 (w.heap.size + 1) 45 (.int .i64 c) (.int .i64 d)) := by rw [hW0]; exact (Two.new (w.alloc (.cells #[.int .i64 a, .int .i64 b] 45)) _ _ _ (w.heap.size + 1) (by simp)).ext (by repeat (first | exact World.Ext.refl _ | exact ⟨_, rfl⟩ | assumption | refine World.Ext.over ?_ _ | refine World.Ext.drewN ?_ _ | refine World.Ext.drew ?_ | refine World.Ext.alloc ?_ _ | refine World.Ext.setCell ?_ (by simp) _))
  have HB : Hid (Two W0 (w.heap.size + 1 + 1) 45 (.int .i64 0) (.int .i64 0)) := by rw [hW0]; exact Two.new _ _ _ _ _ (by simp)
  have c0 := HA.out.cell0
  have c1 := HA.out.cell1
  have d0 := HC.out.cell0
  have d1 := HC.out.cell1
  have l0 := HA.out.lt
  have l1 := HC.out.lt
  have l2 := HB.out.lt
  obtain ⟨s0, s1, s2, s3, s4, s5, HR⟩ := Two.res (.int .i64 (a + c)) (.int .i64 (b + d)) hx0 (by omega) HB.out
  clear hx0 HA HB HC
  go_enter Try.func59, Try.ntmps59
  go_upto_region 1 with fail
  rw [← hW0]
  clear hW0
  go_wp2
  exact bodyPost_ret (v := .agg #[.int .i64 (a + c), .int .i64 (b + d)]) (by simp [results, Try.results59, go_sem, s4, s5]) rfl ⟨rfl, HR.out⟩
/-- A list of spots of the call's own, under way. -/
structure SmSt (W0 : World) (L : List (Int × Int)) (v : Value) (wr : World) : Prop where
  x : W0.Ext wr
  own : GrowP W0.heap.size 45 wr v L
  sm : ∃ g n cap, v = .slice (some ⟨g, 0, none⟩) n cap
theorem SmSt.start {W0 w1 : World} (hx : W0.Ext w1) : SmSt W0 [] (.slice (some ⟨w1.heap.size, 0, none⟩) 0 0) (w1.alloc (.cells #[] 45)) := ⟨hx.alloc _, GrowP.empty w1 hx.size, _, _, _, rfl⟩
theorem SmSt.ext {W0 wr w' : World} {L : List (Int × Int)} {v : Value} (h : SmSt W0 L v wr) (hx : wr.Ext w') : SmSt W0 L v w' := ⟨h.x.trans hx, h.own.ext hx, h.sm⟩
theorem GrowP.some {lo : Nat} {e : TypeId} {w : World} {v : Value} {ps : List (Int × Int)} (h : GrowP lo e w v ps) (hp : 0 < ps.length) : ∃ g cap, v = .slice (some ⟨g, 0, none⟩) ps.length cap := by
  obtain ⟨g, cap, hv, -⟩ := GrowP.atI h hp
  exact ⟨g, cap, hv⟩
theorem SmSt.push {W0 w3 w4 : World} {L : List (Int × Int)} {v v' : Value} {o : Obj} {x y : Int} (h : SmSt W0 L v w3) (hgrow : (w3.alloc o).grownBy w4 v.ownBlock)
    (hown : w4.ownsRow W0.heap.size 45 2 v' (L.length + 1) ((flatP L).map (Value.int .i64) ++ [.int .i64 x, .int .i64 y])) : SmSt W0 (L ++ [(x, y)]) v' w4 := by
  have hg : GrowP W0.heap.size 45 w4 v' (L ++ [(x, y)]) := GrowP.push (p := (x, y)) hown
  obtain ⟨g, cap, hv⟩ := hg.some (by simp)
  exact ⟨World.ownsRow.pushExt h.own h.x hgrow, hg, g, _, cap, hv⟩
theorem SmSt.form {W0 wr : World} {L : List (Int × Int)} {v : Value} (h : SmSt W0 L v wr) : ∃ g cap, v = .slice (some ⟨g, 0, none⟩) L.length cap := by
  obtain ⟨g, n, cap, rfl⟩ := h.sm
  obtain ⟨a, c, hv, -⟩ := h.own.form
  simp only [Value.slice.injEq] at hv
  obtain ⟨-, rfl, -⟩ := hv
  exact ⟨g, cap, rfl⟩
theorem GrowP.mono {lo lo' : Nat} {e : TypeId} {w : World} {v : Value} {ps : List (Int × Int)} (h : GrowP lo e w v ps) (hl : lo' ≤ lo) : GrowP lo' e w v ps := by
  obtain ⟨h1, h2⟩ := h
  refine ⟨h1, ?_⟩
  rcases h2 with h2 | ⟨g, cap, cur, hv, hb, h3⟩
  · exact .inl h2
  · exact .inr ⟨g, cap, cur, hv, Nat.le_trans hl hb, h3⟩
/-- The same, and blocks that it leaves alone. -/
structure SmKp (W0 : World) (K : Nat → Obj → Prop) (L : List (Int × Int)) (v : Value) (wr : World) : Prop where
  st : SmSt W0 L v wr
  kp : ∀ p ob, K p ob → wr.heap[p]? = some ob ∧ v.ownBlock ≠ some p
theorem SmKp.ext {W0 wr w' : World} {K : Nat → Obj → Prop} {L : List (Int × Int)} {v : Value} (h : SmKp W0 K L v wr) (hx : wr.Ext w') : SmKp W0 K L v w' :=
  ⟨h.st.ext hx, fun p ob hk => by
    obtain ⟨h1, h2⟩ := h.kp p ob hk
    exact ⟨by rw [hx.block (Array.getElem?_eq_some_iff.1 h1).1]; exact h1, h2⟩⟩
theorem SmKp.push {W0 w3 w4 : World} {K : Nat → Obj → Prop} {L : List (Int × Int)} {v v' : Value} {o : Obj} {x y : Int} (h : SmKp W0 K L v w3) (hgrow : (w3.alloc o).grownBy w4 v.ownBlock)
    (hown : w4.ownsRow W0.heap.size 45 2 v' (L.length + 1) ((flatP L).map (Value.int .i64) ++ [.int .i64 x, .int .i64 y])) (hat : v'.ownBlock = v.ownBlock ∨ v'.ownBlock = some (w3.alloc o).heap.size) : SmKp W0 K (L ++ [(x, y)]) v' w4 :=
  ⟨h.st.push hgrow hown, fun p ob hk => by
    obtain ⟨h1, h2⟩ := h.kp p ob hk
    have hl := (Array.getElem?_eq_some_iff.1 h1).1
    have hx : w3.Ext (w3.alloc o) := (World.Ext.refl _).alloc _
    refine ⟨by rw [hgrow.block p (Nat.lt_of_lt_of_le hl hx.size) (Ne.symm h2), hx.block hl]; exact h1, ?_⟩
    rcases hat with e | e
    · rw [e]; exact h2
    · rw [e]
      have := hx.size
      simp only [ne_eq, Option.some.injEq]
      have hs : (w3.alloc o).heap.size = w3.heap.size + 1 := by simp
      omega⟩
theorem SmKp.two {W0 wr : World} {K : Nat → Obj → Prop} {L : List (Int × Int)} {v : Value} {p : Nat} {x y : Value} (h : SmKp W0 K L v wr) (hk : K p (.cells #[x, y] 45 (0, 0))) : wr.cell? ⟨p, 0, none⟩ = some x ∧ wr.cell? ⟨p, 1, none⟩ = some y :=
  have h2 : Two wr p 45 x y := (h.kp p _ hk).1
  ⟨h2.cell0, h2.cell1⟩
theorem Try.infoSpotG : (Try.prog.info? 45).map (fun i => (i.zero, i.size, i.bytes)) = some (some (.agg #[.int .i64 0, .int .i64 0]), 2, 16) := by kernel_rfl
/-- An element of the call's own is returned. -/
def ElOwn (w : World) (S : List (Int × Int)) (e : Ending) (w' : World) : Prop := ∃ g cap, e = .returned (.agg #[.slice (some ⟨g, 0, none⟩) S.length cap]) ∧ w.Ext w' ∧ GrowP w.heap.size 45 w' (.slice (some ⟨g, 0, none⟩) S.length cap) S
/-- An element, and that it is one, are returned. -/
def ElmRet (w : World) (S : List (Int × Int)) (e : Ending) (w' : World) : Prop := ∃ a c, e = .returned (.tuple #[.agg #[.slice a S.length c], .bool true]) ∧ w.Ext w' ∧ RowP w' a S
theorem SmSt.told {W0 w1 w2 : World} {L S : List (Int × Int)} {v : Value} {g cap m : Nat} (h : SmSt W0 L v w1) (hv : v = .slice (some ⟨g, 0, none⟩) L.length cap) (hgr : w1.grownBy w2 (some g)) (hown : GrowP W0.heap.size 45 w2 (.slice (some ⟨g, 0, none⟩) m cap) S) : SmSt W0 S (.slice (some ⟨g, 0, none⟩) m cap) w2 := by
  have hg := (World.ownsRow.lt (hv ▸ h.own) g rfl).1
  exact ⟨h.x.wroteNew (S := fun k => k = g) ⟨hgr.os, hgr.tape, hgr.output, hgr.size, fun k hk hs => hgr.block k hk (by simpa using hs)⟩ fun k hk hs => by omega, hown, _, _, _, rfl⟩
theorem SmSt.store {w W0 w2 : World} {S : List (Int × Int)} {g cap m p : Nat} {T : TypeId} {v0 : Value} (h : SmSt W0 S (.slice (some ⟨g, 0, none⟩) m cap) w2) (hx : w.Ext W0) (hp : w.heap.size ≤ p) (hone : One W0 p T v0) (hm : m = S.length) (u : Value) :
    w2.cell? ⟨p, 0, none⟩ = some v0 ∧ w2.frozen? ⟨p, 0, none⟩ = false ∧ (w2.setCell ⟨p, 0, none⟩ u).cell? ⟨p, 0, none⟩ = some u ∧ p < w2.heap.size ∧
    Hid (w.Ext (w2.setCell ⟨p, 0, none⟩ u) ∧ GrowP w.heap.size 45 (w2.setCell ⟨p, 0, none⟩ u) (.slice (some ⟨g, 0, none⟩) S.length cap) S) := by
  subst hm
  have h1 := hone.ext h.x
  have hg := (World.ownsRow.lt h.own g rfl).1
  have hpl := hone.lt
  exact ⟨h1.cell, h1.free, (h1.set u).cell, h1.lt, (hx.trans h.x).setCell (p := ⟨p, 0, none⟩) hp _, (GrowP.setCell h.own (by simp only [Value.ownBlock]; intro e; cases e; omega) _).mono hx.size⟩
set_option maxRecDepth 5000 in
set_option maxHeartbeats 1600000 in
theorem sums_any (a : Option Addr) (c : Nat) (xs : List (Int × Int)) (a2 : Option Addr) (c2 : Nat) (ys : List (Int × Int)) (w : World) (hnx : xs.length ≤ 50) (hny : ys.length ≤ 50)
    (hbx : ∀ q, q ∈ xs → offOk q = true) (hby : ∀ q, q ∈ ys → offOk q = true) (hm : RowP w a xs) (hm2 : RowP w a2 ys) :
    Calls Try.prog 54 #[.slice a xs.length c, .slice a2 ys.length c2] w (ElOwn w (sumL xs ys)) := by
  obtain ⟨iw, hiw, hz0, hz1, hz2⟩ := info_parts Try.infoSpotG
  obtain ⟨W0, hW0⟩ : ∃ W0, W0 = w.alloc (.cells #[.slice none 0 0] 48) := ⟨_, rfl⟩
  have hx0 : w.Ext W0 := by rw [hW0]; repeat (first | exact World.Ext.refl _ | exact ⟨_, rfl⟩ | assumption | refine World.Ext.over ?_ _ | refine World.Ext.drewN ?_ _ | refine World.Ext.drew ?_ | refine World.Ext.alloc ?_ _ | refine World.Ext.setCell ?_ (by simp) _)
  have hone : One W0 w.heap.size 48 (.slice none 0 0) := by rw [hW0]; exact One.new _ _ _ _ rfl
  have HX0 := Lib.hid hx0
  have HO := Lib.hid hone
  have HMX : Hid (∀ w', W0.Ext w' → RowP w' a xs) := fun w' h => (RowP.ext (RowP.ext hm hx0) h)
  have HMY : Hid (∀ w', W0.Ext w' → RowP w' a2 ys) := fun w' h => (RowP.ext (RowP.ext hm2 hx0) h)
  have HBX : Hid (∀ k, k < xs.length → -4 ≤ (xs.getD k (0, 0)).1 ∧ (xs.getD k (0, 0)).1 ≤ 4 ∧ -4 ≤ (xs.getD k (0, 0)).2 ∧ (xs.getD k (0, 0)).2 ≤ 4) := fun k hk => by have := offOk_iff.1 (hbx _ (getD_mem hk)); omega
  have HBY : Hid (∀ k, k < ys.length → -4 ≤ (ys.getD k (0, 0)).1 ∧ (ys.getD k (0, 0)).1 ≤ 4 ∧ -4 ≤ (ys.getD k (0, 0)).2 ∧ (ys.getD k (0, 0)).2 ≤ 4) := fun k hk => by have := offOk_iff.1 (hby _ (getD_mem hk)); omega
  have HTX := Lib.hid (fun i (hi : i < xs.length) => sumP_take (b := ys) hi)
  have HLX : Hid (∀ i, i ≤ xs.length → (sumP (xs.take i) ys).length ≤ 2500) := fun i hi => by
    rw [sumP_len, List.length_take]
    exact Nat.le_trans (Nat.mul_le_mul (show min i xs.length ≤ 50 by omega) hny) (Nat.le_refl _)
  have HEL : Hid (∀ (w' : World) (g cap : Nat), GrowP W0.heap.size 45 w' (.slice (some ⟨g, 0, none⟩) (sumP xs ys).length cap) (sumP xs ys) → Calls Try.prog 94 #[.slice (some ⟨g, 0, none⟩) (sumP xs ys).length cap] w' fun e w'' => e = .returned (.agg #[.slice (some ⟨g, 0, none⟩) (sumL xs ys).length cap]) ∧ GrowP W0.heap.size 45 w'' (.slice (some ⟨g, 0, none⟩) (sumL xs ys).length cap) (sumL xs ys) ∧ w'.grownBy w'' (some g)) := fun w' g cap h => elementG_any _ g cap _ w' h (by
    have := sumP_len ys xs
    have := Nat.mul_le_mul hnx hny
    omega)
  clear hx0 hone hm hm2 hbx hby
  generalize sumL xs ys = S at *
  go_enter Try.func54, Try.ntmps54
  go_upto_region 1 with fail
  rw [← hW0]
  clear hW0
  have HS0 : Hid (SmSt W0 (sumP (xs.take 0) ys) (.slice (some ⟨W0.heap.size, 0, none⟩) 0 0) (W0.alloc (.cells #[] 45))) := by rw [List.take_zero]; exact SmSt.start (.refl _)
  go_wp2
  go_loopw [5, 7, 9, 13] (fun v _ _ i wr => ∃ k : Nat, k ≤ xs.length ∧ i = .int .i64 k ∧ Hid (SmSt W0 (sumP (xs.take k) ys) v wr)) (fun _ _ _ i _ => xs.length - (intOf i).toNat)
  case atStart => exact ⟨0, Nat.zero_le _, rfl, HS0⟩
  case round =>
    clear HS0
    obtain ⟨k, hk, rfl, HS⟩ := hrel
    obtain ⟨wo, rfl⟩ : ∃ wo : World, wo = wr := ⟨_, rfl⟩
    have hk0 : (0 : Int) ≤ (k : Int) := by omega
    by_cases hlt : k < xs.length
    · have hlt' : (k : Int) < (xs.length : Int) := by omega
      obtain ⟨b1, o1, rfl, hc0, hc1⟩ := (HMX.out wo HS.out.x).at hlt
      have hbx := HBX.out k hlt
      have HTK := Lib.hid (HTX.out k hlt)
      have hLX := HLX.out k hk
      generalize xs.getD k (0, 0) = s at hc0 hc1 hbx HTK
      obtain ⟨x, y⟩ := s
      dsimp only at hc0 hc1 hbx HTK
      obtain ⟨w3, hw3⟩ : ∃ w3, w3 = wo.alloc (.cells #[.int .i64 x, .int .i64 y] 45) := ⟨_, rfl⟩
      have hx3 : wo.Ext w3 := by rw [hw3]; repeat (first | exact World.Ext.refl _ | exact ⟨_, rfl⟩ | assumption | refine World.Ext.over ?_ _ | refine World.Ext.drewN ?_ _ | refine World.Ext.drew ?_ | refine World.Ext.alloc ?_ _ | refine World.Ext.setCell ?_ (by simp) _)
      have e0 : w3.cell? ⟨wo.heap.size, 0, none⟩ = some (.int .i64 x) := by rw [hw3]; simp [go_sem]
      have e1 : w3.cell? ⟨wo.heap.size, 1, none⟩ = some (.int .i64 y) := by rw [hw3]; simp [go_sem]
      have htw : Two w3 wo.heap.size 45 (.int .i64 x) (.int .i64 y) := by rw [hw3]; exact Two.new _ _ _ _ _ rfl
      have hne7 : ∀ k, u5.ownBlock = some k → k < wo.heap.size := fun k hk => (World.ownsRow.lt HS.out.own k hk).2
      obtain ⟨K, hK⟩ : ∃ K : Nat → Obj → Prop, K = fun p ob => p = wo.heap.size ∧ ob = .cells #[.int .i64 x, .int .i64 y] 45 (0, 0) := ⟨_, rfl⟩
      have HKP : Hid (K wo.heap.size (.cells #[.int .i64 x, .int .i64 y] 45 (0, 0))) := by show K _ _; rw [hK]; exact ⟨rfl, rfl⟩
      have HS3 : Hid (SmKp W0 K (sumP (xs.take k) ys ++ (ys.take 0).map (fun q => (x + q.1, y + q.2))) u5 w3) := by
        rw [List.take_zero, List.map_nil, List.append_nil]
        refine ⟨HS.out.ext hx3, fun p ob hk => ?_⟩
        rw [hK] at hk
        obtain ⟨rfl, rfl⟩ := hk
        exact ⟨htw, fun e => Nat.lt_irrefl _ (hne7 _ e)⟩
      clear hx3 HS e0 e1 htw hne7 hK
      go_upto_region 5 with fail
      rw [← hw3]
      clear hw3 hc0 hc1
      generalize wo.heap.size = p7 at *
      generalize sumP (xs.take k) ys = L0 at *
      go_wp2
      go_loopw [5, 9, 19] (fun v _ i wr => ∃ j : Nat, j ≤ ys.length ∧ i = .int .i64 j ∧ Hid (SmKp W0 K (L0 ++ (ys.take j).map (fun q => (x + q.1, y + q.2))) v wr)) (fun _ _ i _ => ys.length - (intOf i).toNat)
      case atStart => exact ⟨0, by omega, rfl, HS3⟩
      case round =>
        clear HS3
        obtain ⟨j, hj, rfl, HS⟩ := hrel
        obtain ⟨wi, rfl⟩ : ∃ wi : World, wi = wr := ⟨_, rfl⟩
        have hj0 : (0 : Int) ≤ (j : Int) := by omega
        by_cases hltj : j < ys.length
        · have hltj' : (j : Int) < (ys.length : Int) := by omega
          obtain ⟨b5, o5, rfl, hd0, hd1⟩ := (HMY.out wi HS.out.st.x).at hltj
          have hby := HBY.out j hltj
          have HTJ : Hid ((ys.take (j + 1)).map (fun q => (x + q.1, y + q.2)) = (ys.take j).map (fun q => (x + q.1, y + q.2)) ++ [(x + (ys.getD j (0, 0)).1, y + (ys.getD j (0, 0)).2)]) := mapT_take _ (0, 0) hltj
          have hll : (L0 ++ (ys.take j).map (fun q => (x + q.1, y + q.2))).length ≤ 2550 := by rw [List.length_append, List.length_map, List.length_take]; omega
          generalize ys.getD j (0, 0) = q at *
          obtain ⟨u, v⟩ := q
          dsimp only at hd0 hd1 hby HTJ
          obtain ⟨w5, hw5⟩ : ∃ w5, w5 = wi.alloc (.cells #[.int .i64 u, .int .i64 v] 45) := ⟨_, rfl⟩
          have hx5 : wi.Ext w5 := by rw [hw5]; repeat (first | exact World.Ext.refl _ | exact ⟨_, rfl⟩ | assumption | refine World.Ext.over ?_ _ | refine World.Ext.drewN ?_ _ | refine World.Ext.drew ?_ | refine World.Ext.alloc ?_ _ | refine World.Ext.setCell ?_ (by simp) _)
          have f0 : w5.cell? ⟨wi.heap.size, 0, none⟩ = some (.int .i64 u) := by rw [hw5]; simp [go_sem]
          have f1 : w5.cell? ⟨wi.heap.size, 1, none⟩ = some (.int .i64 v) := by rw [hw5]; simp [go_sem]
          have HS5 := Lib.hid (HS.out.ext hx5)
          obtain ⟨e0, e1⟩ := HS5.out.two HKP.out
          have lf := World.block_lt_of_cell? _ _ f0
          have le := World.block_lt_of_cell? _ _ e0
          have HPL := Lib.hid (plus_any x y u v w5 (by omega) (by omega) (by omega) (by omega))
          clear hx5 HS
          go_upto_region 8 with fail
          rw [← hw5]
          clear hw5 hd0 hd1
          generalize wi.heap.size = p9 at *
          go_wp2_with fail
          refine HPL.out.mono ?_
          rintro e w6 ⟨rfl, hx6⟩
          have HS6 := Lib.hid (HS5.out.ext hx6)
          clear hx6 HPL HS5 f0 f1 e0 e1 lf le
          have HNX : Hid (∀ (o : Obj) (v' : Value) (w4 : World), (w6.alloc o).grownBy w4 u5.ownBlock → w4.ownsRow W0.heap.size 45 2 v' ((L0 ++ (ys.take j).map (fun q => (x + q.1, y + q.2))).length + 1) ((flatP (L0 ++ (ys.take j).map (fun q => (x + q.1, y + q.2)))).map (Value.int .i64) ++ [.int .i64 (x + u), .int .i64 (y + v)]) → (v'.ownBlock = u5.ownBlock ∨ v'.ownBlock = some (w6.alloc o).heap.size) → SmKp W0 K (L0 ++ (ys.take (j + 1)).map (fun q => (x + q.1, y + q.2))) v' w4) := fun o v' w4 hg ho hat => by rw [HTJ.out, ← List.append_assoc]; exact HS6.out.push hg ho hat
          generalize hLL : L0 ++ (ys.take j).map (fun q => (x + q.1, y + q.2)) = LL at *
          clear hLL
          have hown : w6.ownsRow W0.heap.size 45 2 u5 LL.length ((flatP LL).map (Value.int .i64)) := HS6.out.st.own
          have HLE : Hid (∀ o : Obj, W0.heap.size ≤ (w6.alloc o).heap.size) := fun o => (HS6.out.st.x.alloc o).size
          have HB1 : Hid (LL.length + 1 ≤ maxLen) := by show _ ≤ _; unfold maxLen; omega
          have HB2 : Hid ((LL.length + 1) * 16 ≤ 140737488355328) := by show _ ≤ _; omega
          clear HS6 HTJ
          go_wp2_with (at_builtin; refine wpList_append_own_at _ rfl _ _ 42 rfl W0.heap.size 45 iw (.agg #[.int .i64 0, .int .i64 0]) 2 16 Try.underlying42 hiw hz0 hz1 hz2 rfl (by decide) _ _ _ rfl (hown.alloc _) ⟨w6.heap.size, 0, none⟩ 1 1 [.int .i64 (x + u), .int .i64 (y + v)] rfl rfl (cell_two_new _ _ _ _) (by simp [Value.oneCell']) HB1.out HB2.out (HLE.out _) (fun v' w4 hown' hgrow _ hat => ?_); have HS9 := Lib.hid (HNX.out _ _ _ hgrow hown' hat); clear hgrow hown' hown hat)
          go_roundw
          case rel => exact ⟨j + 1, by omega, by go_num, HS9⟩
          case measure => simp [intOf]; omega
        · have hj4 : j = ys.length := by omega
          subst hj4
          have HS7 : Hid (SmSt W0 (sumP (xs.take (k + 1)) ys) u5 wi) := by rw [HTK.out]; have h := HS.out.st; rw [List.take_length] at h; exact h
          clear HS
          go_wp2
          go_roundw
          case rel => exact ⟨k + 1, by omega, by go_num, HS7⟩
          case measure => simp [intOf]; omega
    · have hkk : k = xs.length := by omega
      subst hkk
      rw [List.take_length] at HS
      obtain ⟨g, cap, rfl⟩ := HS.out.form
      have HC := Lib.hid (HEL.out wo g cap HS.out.own)
      obtain ⟨n, hn⟩ : ∃ n, n = (sumP xs ys).length := ⟨_, rfl⟩
      have HN := Lib.hid hn
      rw [← hn] at HC ⊢
      clear hn
      obtain ⟨m, hm⟩ : ∃ m, m = S.length := ⟨_, rfl⟩
      have HMM := Lib.hid hm
      rw [← hm] at HC
      clear hm HEL HTX HLX HBX HBY HMX HMY
      go_wp2_with fail
      refine HC.out.mono ?_
      rintro e w5 ⟨rfl, ho5, hgr5⟩
      obtain ⟨r1, r2, r3, r4, HR⟩ := (HS.out.told rfl hgr5 ho5).store HX0.out (Nat.le_refl _) HO.out HMM.out (.slice (some ⟨g, 0, none⟩) m cap)
      have HFIN : Hid (ElOwn w S (.returned (.agg #[.slice (some ⟨g, 0, none⟩) m cap])) (w5.setCell ⟨w.heap.size, 0, none⟩ (.slice (some ⟨g, 0, none⟩) m cap))) := ⟨g, cap, by rw [HMM.out], HR.out⟩
      clear ho5 hgr5 HS HC HR
      go_wp2
      exact bodyPost_ret (v := .agg #[.slice (some ⟨g, 0, none⟩) m cap]) (by simp [results, Try.results54, go_sem, r3]) rfl HFIN.out
end Go.Proofs.Ytkpgelhmeokemaa
