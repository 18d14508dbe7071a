/- The program's nodes: their order, and their row sorted. -/
import Derived.Test.YtmmanehdmnkekaaSrtE
import Derived.Test.YtmmanehdmnkekaaRowK
import Derived.Deep.RegionHeld3
namespace Go.Proofs.Ytmmanehdmnkekaa
open Go Go.RowKit Go.Sort Go.Shelf
theorem grow_ext (w : World) (q : Nat) (os : Array Obj) : w.Ext (grow (w.drewN q) os) :=
  Wrote.ext (S := fun _ => False) ⟨rfl, rfl, rfl, by simp [World.drewN], fun k hk _ => heap_grow_old _ _ (by simpa [World.drewN] using hk)⟩ fun _ _ h => h
theorem grow_ext' {w w' W : World} {q : Nat} {os : Array Obj} (hw : w' = grow (w.drewN q) os) (h : W.Ext w) : W.Ext w' := by subst hw; exact h.trans (grow_ext _ _ _)
theorem grow_end (w : World) (os2 : Array Obj) (q : Nat) (os : Array Obj) (c : Obj) : (grow ((grow w os2).drew.drewN q) os).alloc c = grow (w.drewN (1 + q)) ((os2 ++ os) ++ #[c]) := by
  rw [alloc_eq_grow]
  show grow (grow (grow ((w.drewN 1).drewN q) os2) os) #[c] = _
  have e : (w.drewN 1).drewN q = w.drewN (1 + q) := by
    show ({ w with drawn := w.drawn + 1 + q } : World) = { w with drawn := w.drawn + (1 + q) }
    rw [Nat.add_assoc]
  rw [grow_grow, grow_grow, e, Array.append_assoc]
/-- A node: its level, its first spot, and the block of the map of its pixels. -/
abbrev NdV := Int × Int × Int × Nat
def encNd (d : NdV) : List Value := [.int .i64 d.1, .int .i64 d.2.1, .int .i64 d.2.2.1, .map (some d.2.2.2)]
def cmpNd (a b : NdV) : Int := if cmpJ a.1 b.1 = 0 then ordJ (a.2.1, a.2.2.1) (b.2.1, b.2.2.1) else cmpJ a.1 b.1
theorem cmpNd_neg (a b : NdV) : cmpNd a b < 0 ↔ a.1 < b.1 ∨ (a.1 = b.1 ∧ (a.2.2.1 < b.2.2.1 ∨ (a.2.2.1 = b.2.2.1 ∧ a.2.1 < b.2.1))) := by
  unfold cmpNd
  split
  · rename_i h
    rw [cmpJ_zero] at h
    rw [ordJ_neg]
    simp only
    omega
  · rename_i h
    rw [cmpJ_zero] at h
    rw [cmpJ_neg]
    omega
theorem cmpNd_swo : SWO (ltOf cmpNd) where
  irrefl x := by unfold ltOf; rw [decide_eq_false_iff_not, cmpNd_neg]; omega
  trans x y z h1 h2 := by unfold ltOf at *; rw [decide_eq_true_iff, cmpNd_neg] at *; omega
  ntrans x y z h1 h2 := by unfold ltOf at *; rw [decide_eq_false_iff_not, cmpNd_neg] at *; omega
set_option maxRecDepth 5000 in
set_option maxHeartbeats 1600000 in
theorem nodeOrder_grow (la xa ya : Int) (ma : Nat) (lb xb yb : Int) (mb : Nat) (w : World) (t : Int) (ht : cmpNd (la, xa, ya, ma) (lb, xb, yb, mb) = t) :
    Calls Try.prog 221 #[.agg #[.int .i64 la, .int .i64 xa, .int .i64 ya, .map (some ma)], .agg #[.int .i64 lb, .int .i64 xb, .int .i64 yb, .map (some mb)]] w fun e w' => e = .returned (.int .i64 t) ∧ ∃ q os', w' = grow (w.drewN q) os' := by
  obtain ⟨u, hu⟩ : ∃ u, cmpJ la lb = u := ⟨_, rfl⟩
  obtain ⟨v, hv⟩ : ∃ v, ordJ (xa, ya) (xb, yb) = v := ⟨_, rfl⟩
  have HT : Hid ((if u = 0 then v else u) = t) := by show _ = _; rw [← ht, ← hu, ← hv]; rfl
  have HU := Lib.hid hu
  have HV := Lib.hid hv
  clear hu hv ht
  obtain ⟨W0, hW0⟩ : ∃ W0, W0 = (w.alloc (.cells #[.int .i64 la, .int .i64 xa, .int .i64 ya, .map (some ma)] 196)).alloc (.cells #[.int .i64 lb, .int .i64 xb, .int .i64 yb, .map (some mb)] 196) := ⟨_, rfl⟩
  have d0 : W0.cell? ⟨w.heap.size, 0, none⟩ = some (.int .i64 la) := by rw [hW0]; simp [go_sem]
  have d1 : W0.cell? ⟨w.heap.size, 1, none⟩ = some (.int .i64 xa) := by rw [hW0]; simp [go_sem]
  have d2 : W0.cell? ⟨w.heap.size, 2, none⟩ = some (.int .i64 ya) := by rw [hW0]; simp [go_sem]
  have d3 : W0.cell? ⟨w.heap.size + 1, 0, none⟩ = some (.int .i64 lb) := by rw [hW0]; simp [go_sem]
  have d4 : W0.cell? ⟨w.heap.size + 1, 1, none⟩ = some (.int .i64 xb) := by rw [hW0]; simp [go_sem]
  have d5 : W0.cell? ⟨w.heap.size + 1, 2, none⟩ = some (.int .i64 yb) := by rw [hW0]; simp [go_sem]
  have HW : Hid (∀ q os c, (grow (W0.drew.drewN q) os).alloc c = grow (w.drewN (1 + q)) ((#[.cells #[.int .i64 la, .int .i64 xa, .int .i64 ya, .map (some ma)] 196, .cells #[.int .i64 lb, .int .i64 xb, .int .i64 yb, .map (some mb)] 196] ++ os) ++ #[c])) := fun q os c => by
    have e : W0 = grow w (#[.cells #[.int .i64 la, .int .i64 xa, .int .i64 ya, .map (some ma)] 196] ++ #[.cells #[.int .i64 lb, .int .i64 xb, .int .i64 yb, .map (some mb)] 196]) := by rw [hW0, alloc_eq_grow, alloc_eq_grow, grow_grow]
    rw [e]
    exact grow_end _ _ _ _ _
  have HSO : Hid (∀ w', Calls Try.prog 111 #[.agg #[.int .i64 xa, .int .i64 ya], .agg #[.int .i64 xb, .int .i64 yb]] w' fun e w'' => e = .returned (.int .i64 v) ∧ ∃ q os', w'' = grow (w'.drewN q) os') := fun w' => spotOrder_grow xa ya xb yb w' v HV.out
  go_enter Try.func221, Try.ntmps221
  go_wp2_with fail
  rw [← hW0]
  clear hW0
  go_region_held3 (fun w' => w'.cell? ⟨w.heap.size, 0, none⟩ = some (.int .i64 la) ∧ w'.cell? ⟨w.heap.size, 1, none⟩ = some (.int .i64 xa) ∧ w'.cell? ⟨w.heap.size, 2, none⟩ = some (.int .i64 ya) ∧ w'.cell? ⟨w.heap.size + 1, 0, none⟩ = some (.int .i64 lb) ∧ w'.cell? ⟨w.heap.size + 1, 1, none⟩ = some (.int .i64 xb) ∧ w'.cell? ⟨w.heap.size + 1, 2, none⟩ = some (.int .i64 yb))
    (first | (refine ⟨World.Ext.cell (E5.trans ?_) d0, World.Ext.cell (E5.trans ?_) d1, World.Ext.cell (E5.trans ?_) d2, World.Ext.cell (E5.trans ?_) d3, World.Ext.cell (E5.trans ?_) d4, World.Ext.cell (E5.trans ?_) d5⟩ <;> ((repeat (first | exact World.Ext.refl _ | exact ⟨_, rfl⟩ | assumption | refine World.Ext.over ?_ _ | refine World.Ext.drewN ?_ _ | refine World.Ext.drew ?_ | refine World.Ext.alloc ?_ _ | refine World.Ext.setCell ?_ ?_ _ | (simp; done))); done)) | (refine ⟨World.Ext.cell ?_ d0, World.Ext.cell ?_ d1, World.Ext.cell ?_ d2, World.Ext.cell ?_ d3, World.Ext.cell ?_ d4, World.Ext.cell ?_ d5⟩ <;> ((repeat (first | exact World.Ext.refl _ | exact ⟨_, rfl⟩ | assumption | refine World.Ext.over ?_ _ | refine World.Ext.drewN ?_ _ | refine World.Ext.drew ?_ | refine World.Ext.alloc ?_ _ | refine World.Ext.setCell ?_ ?_ _ | (simp; done))); done)))
    (first
      | (go_at_call 201; go_loud (refine (compare_eq la lb _ _ HU.out).mono ?_; rintro e w4 ⟨rfl, rfl⟩))
      | (go_at_call 111; go_loud (refine (HSO.out _).mono ?_; rintro e w5 ⟨rfl, q5, os5, hw5⟩; have E5 : W0.Ext w5 := grow_ext' hw5 (by repeat (first | exact World.Ext.refl _ | exact ⟨_, rfl⟩ | assumption | refine World.Ext.over ?_ _ | refine World.Ext.drewN ?_ _ | refine World.Ext.drew ?_ | refine World.Ext.alloc ?_ _ | refine World.Ext.setCell ?_ (by simp) _)); have HW5 := Lib.hid hw5; clear hw5))
      | (go_at_call 200; go_loud (refine (or2_eq _ u v _ (by simp [go_sem]) (by simp [go_sem]) _ HT.out).mono ?_; rintro e w6 ⟨rfl, rfl⟩)))
  all_goals (go_wp2; go_ret; exact ⟨rfl, _, _, (by rw [HW5.out]; exact HW.out _ _ _)⟩)
theorem nodeLays (blk off size : Nat) (w : World) : CmpLays Try.prog 221 #[] encNd 4 cmpNd blk off size w :=
  fun _ _ _ _ x y => nodeOrder_grow x.1 x.2.1 x.2.2.1 x.2.2.2 y.1 y.2.1 y.2.2.1 y.2.2.2 _ _ rfl
/-- A row of nodes of the call's own. -/
def GrowN (lo : Nat) (w : World) (v : Value) (ds : List NdV) : Prop := w.ownsRow lo 196 4 v ds.length (ds.flatMap encNd)
theorem sortNode_any (base g cap : Nat) (ds : List NdV) (w : World) (hown : GrowN base w (.slice (some ⟨g, 0, none⟩) ds.length cap) ds) (hn : ds.length ≤ 1048576) :
    Calls Try.prog 220 #[.slice (some ⟨g, 0, none⟩) ds.length cap, .func (.func 221) #[] #[]] w fun e w' => e = .returned (.tuple #[]) ∧
      ∃ qs : List NdV, qs.Perm ds ∧ qs.Pairwise (fun a b => ltOf cmpNd b a = false) ∧ GrowN base w' (.slice (some ⟨g, 0, none⟩) ds.length cap) qs ∧ w.grownBy w' (some g) := by
  have hown' : w.ownsRow base 196 4 (.slice (some ⟨g, 0, none⟩) ds.length cap) ds.length (ds.flatMap encNd) := hown
  have eg : ∀ args w, (callFunc 221 args).run Try.prog w = .ok (.enter 221 args) w := enters_of Try.func221 (by kernel_rfl) rfl
  have hfl := flatK_list encNd 4 (fun _ => rfl) ds.toArray
  rw [List.toList_toArray] at hfl
  have hH : HoldsK encNd 4 w g 0 ds.toArray := ownsRow_holds hown' _ hfl
  have hlt : g < w.heap.size := (hown'.lt g rfl).2
  have h := AnyQ.slices_SortFunc Try.sortNode 4 Try.isAgg196 Try.sizeOf196 encNd (fun _ => rfl) (fun x v hv => by simp [encNd] at hv; rcases hv with rfl | rfl | rfl | rfl <;> rfl) cmpNd cmpNd_swo 221 #[] g 0 cap ds.toArray w eg (nodeLays g 0 _ w) hH hlt (by simp; omega)
  rw [List.size_toArray] at h
  refine Calls.mono h ?_
  rintro e w' ⟨he, d', n, os, hp, hs, rfl⟩
  have hsz : d'.size = ds.length := by rw [hp.1, List.size_toArray]
  have hperm := perm_arr hp
  rw [List.toList_toArray] at hperm
  obtain ⟨h1, h2⟩ := ownsRow_sorted hown' n (flatK encNd 4 d') (by simp [hsz]) os
  rw [flatK_list encNd 4 (fun _ => rfl)] at h1
  refine ⟨he, d'.toList, hperm, sorted_arr (by rw [hsz]) hs, ?_, h2⟩
  unfold GrowN
  rw [show d'.toList.length = ds.length by rw [Array.length_toList, hsz]]
  exact h1
end Go.Proofs.Ytmmanehdmnkekaa
