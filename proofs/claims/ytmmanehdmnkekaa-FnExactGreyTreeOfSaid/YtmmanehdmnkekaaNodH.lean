/- The program's tree of a grey picture: the node of a spot. -/
import Derived.Test.YtmmanehdmnkekaaNodG
namespace Go.Proofs.Ytmmanehdmnkekaa
open Go Go.RowKit
structure NdsAt (w : World) (W H : Nat) (l : List Int) (a : Option Addr) (qs : List NdV) : Prop where
  row : RowN w a qs
  key : qs.map (ndKey W) = nodeL W H l
  par : ∀ d, d ∈ qs → NdIs W H d ∧ PartAt w d.2.2.2 W H l d.1 (ndKey W d).2
theorem NdsAt.ext {w w' : World} {W H : Nat} {l : List Int} {a : Option Addr} {qs : List NdV} (h : NdsAt w W H l a qs) (hx : w.Ext w') : NdsAt w' W H l a qs :=
  ⟨h.row.ext hx, h.key, fun d hd => ⟨(h.par d hd).1, (h.par d hd).2.keep (hx.block (h.par d hd).2.lt)⟩⟩
theorem NdsAt.len {w : World} {W H : Nat} {l : List Int} {a : Option Addr} {qs : List NdV} (h : NdsAt w W H l a qs) : qs.length = (nodeL W H l).length := by rw [← h.key, List.length_map]
theorem NdsAt.get {w : World} {W H : Nat} {l : List Int} {a : Option Addr} {qs : List NdV} (h : NdsAt w W H l a qs) {i : Nat} (hi : i < qs.length) :
    ndKey W (qs.getD i nd0) = (nodeL W H l).getD i (0, 0) ∧ (qs.getD i nd0).1 = (((nodeL W H l).getD i (0, 0)).1 : Int) ∧ NdIs W H (qs.getD i nd0) ∧ PartAt w (qs.getD i nd0).2.2.2 W H l (qs.getD i nd0).1 ((nodeL W H l).getD i (0, 0)).2 := by
  have e : qs.getD i nd0 = qs[i] := by simp [List.getD_eq_getElem?_getD, hi]
  have hm : qs.getD i nd0 ∈ qs := by rw [e]; exact List.getElem_mem hi
  have hk : ndKey W (qs.getD i nd0) = (nodeL W H l).getD i (0, 0) := by
    rw [← h.key, e]
    simp [List.getD_eq_getElem?_getD, hi]
  obtain ⟨p1, p2⟩ := h.par _ hm
  refine ⟨hk, ?_, p1, ?_⟩
  · rw [← hk]; exact p1.1
  · rw [← hk]; exact p2
set_option maxRecDepth 5000 in
set_option maxHeartbeats 1600000 in
theorem gt1_any (p b1 bn W H : Nat) (l : List Int) (a : Option Addr) (c : Nat) (qs : List NdV) (j : Nat) (w : World) (hW1 : 1 ≤ W) (hW : W ≤ 64) (hH : H ≤ 64) (hj : j < H * W) (hgl : GrL W H l) (hg : GrAt w p W H l) (h1 : w.cell? ⟨b1, 0, none⟩ = some (.pointer (some ⟨p, 0, none⟩)))
    (hn : w.cell? ⟨bn, 0, none⟩ = some (.slice a qs.length c)) (hq : NdsAt w W H l a qs) (hl : qs.length ≤ 1000) :
    Calls Try.prog 176 #[.agg #[.int .i64 ((j % W : Nat) : Int), .int .i64 ((j / W : Nat) : Int)], .pointer (some ⟨bn, 0, none⟩), .pointer (some ⟨b1, 0, none⟩)] w fun e w' => e = .returned (.int .i64 (lastIn W H l (nodeL W H l) j)) ∧ w.Ext w' := by
  obtain ⟨W0, hW0⟩ : ∃ W0, W0 = w.alloc (.cells #[.int .i64 ((j % W : Nat) : Int), .int .i64 ((j / W : Nat) : Int)] 58) := ⟨_, rfl⟩
  have hx0 : w.Ext W0 := by rw [hW0]; repeat (first | exact World.Ext.refl _ | exact ⟨_, rfl⟩ | assumption | refine World.Ext.over ?_ _ | refine World.Ext.drewN ?_ _ | refine World.Ext.drew ?_ | refine World.Ext.alloc ?_ _ | refine World.Ext.setCell ?_ (by simp) _)
  have d0 : W0.cell? ⟨w.heap.size, 0, none⟩ = some (.int .i64 ((j % W : Nat) : Int)) := by rw [hW0]; simp [go_sem]
  have d1 : W0.cell? ⟨w.heap.size, 1, none⟩ = some (.int .i64 ((j / W : Nat) : Int)) := by rw [hW0]; simp [go_sem]
  have e1 := hx0.cell h1
  have en := hx0.cell hn
  obtain ⟨k, k1, k2, k3, k4, k5⟩ := node_of hgl hj
  have HI : Hid (Calls Try.prog 177 #[.slice a qs.length c, .func (.func 178) #[] #[.pointer (some ⟨b1, 0, none⟩), .pointer (some ⟨w.heap.size, 0, none⟩)]] W0 fun e w' => e = .returned (.int .i64 (k : Int)) ∧ W0.Ext w') := by
    refine indexN_any a c qs _ _ (fun i => decide ((((nodeL W H l).getD i (0, 0)).1 : Int) = l.getD j 0) && cnB W H l ((nodeL W H l).getD i (0, 0)).1 ((nodeL W H l).getD i (0, 0)).2 j) k W0 enters_gt11 hl (hq.row.ext hx0) (by rw [hq.len]; exact k1) ?_ ?_ ?_
    · show (decide _ && _) = true
      rw [Bool.and_eq_true, decide_eq_true_iff]
      exact ⟨k3, k4⟩
    · intro i hi
      rw [Bool.eq_false_iff]
      intro ht
      rw [Bool.and_eq_true, decide_eq_true_iff] at ht
      have := k5 i (by omega) ht.1 ht.2
      omega
    · intro w' hx' i hi
      obtain ⟨g1, g2, g3, g4⟩ := (hq.ext (hx0.trans hx')).get hi
      have hc := gt11_any p b1 w.heap.size W H l (qs.getD i nd0).1 (qs.getD i nd0).2.1 (qs.getD i nd0).2.2.1 (qs.getD i nd0).2.2.2 ((nodeL W H l).getD i (0, 0)).2 j w' hW1 hW hH hj (hg.ext (hx0.trans hx')) (hx'.cell e1) (hx'.cell d0) (hx'.cell d1) g4
      rw [g2] at hc
      unfold ndV
      rw [g2]
      exact hc
  rw [k2]
  have HX0 := Lib.hid hx0
  have ln := World.block_lt_of_cell? _ _ hn
  clear h1 hg hq hgl hx0 k1 k2 k3 k4 k5 hj d0 d1 hl
  generalize qs.length = n at *
  generalize j % W = x at *
  generalize j / W = y at *
  go_enter Try.func176, Try.ntmps176
  go_wp2_with fail
  rw [← hW0]
  clear hW0
  refine HI.out.mono ?_
  rintro e w2 ⟨rfl, hx2⟩
  have HX : Hid (w.Ext w2) := HX0.out.trans hx2
  clear e1 en hn HI hx2
  go_wp2
  go_ret
  exact ⟨rfl, HX.out⟩
theorem enters_gt1 : Enters 176 := enters_of Try.func176 (by kernel_rfl) (by kernel_rfl)
end Go.Proofs.Ytmmanehdmnkekaa
