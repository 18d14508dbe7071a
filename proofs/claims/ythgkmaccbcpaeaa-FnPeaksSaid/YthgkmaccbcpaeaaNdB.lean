/- The program's nodes: their order, and their row sorted. -/
import Derived.Test.YthgkmaccbcpaeaaSrA
import Derived.Test.YthgkmaccbcpaeaaRowK
import Derived.Deep.RegionHeld3
import Derived.Test.YthgkmaccbcpaeaaNdA
import Derived.Test.YthgkmaccbcpaeaaSprI
import Derived.Test.YthgkmaccbcpaeaaGreyK
import Derived.Test.YthgkmaccbcpaeaaLabI
import Derived.Deep.Onto
namespace Go.Proofs.Ythgkmaccbcpaeaa
open Go Go.RowKit Go.Sort Go.Shelf
theorem grow_ext (w : World) (q : Nat) (os : Array Obj) : w.Ext (grow (w.drewN q) os) :=
  Wrote.ext (S := fun _ => False) ⟨rfl, rfl, rfl, by simp [World.drewN], fun k hk _ => heap_grow_old _ _ (by simpa [World.drewN] using hk)⟩ fun _ _ h => h
theorem grow_ext' {w w' W : World} {q : Nat} {os : Array Obj} (hw : w' = grow (w.drewN q) os) (h : W.Ext w) : W.Ext w' := by subst hw; exact h.trans (grow_ext _ _ _)
theorem grow_end (w : World) (os2 : Array Obj) (q : Nat) (os : Array Obj) (c : Obj) : (grow ((grow w os2).drew.drewN q) os).alloc c = grow (w.drewN (1 + q)) ((os2 ++ os) ++ #[c]) := by
  rw [alloc_eq_grow]
  show grow (grow (grow ((w.drewN 1).drewN q) os2) os) #[c] = _
  have e : (w.drewN 1).drewN q = w.drewN (1 + q) := by
    show ({ w with drawn := w.drawn + 1 + q } : World) = { w with drawn := w.drawn + (1 + q) }
    rw [Nat.add_assoc]
  rw [grow_grow, grow_grow, e, Array.append_assoc]
/-- A node: its level, its first spot, and the block of the map of its pixels. -/
abbrev NdV := Int × Int × Int × Nat
def encNd (d : NdV) : List Value := [.int .i64 d.1, .int .i64 d.2.1, .int .i64 d.2.2.1, .map (some d.2.2.2)]
def cmpNd (a b : NdV) : Int := if cmpJ a.1 b.1 = 0 then ordJ (a.2.1, a.2.2.1) (b.2.1, b.2.2.1) else cmpJ a.1 b.1
theorem cmpNd_neg (a b : NdV) : cmpNd a b < 0 ↔ a.1 < b.1 ∨ (a.1 = b.1 ∧ (a.2.2.1 < b.2.2.1 ∨ (a.2.2.1 = b.2.2.1 ∧ a.2.1 < b.2.1))) := by
  unfold cmpNd
  split
  · rename_i h
    rw [cmpJ_zero] at h
    rw [ordJ_neg]
    simp only
    omega
  · rename_i h
    rw [cmpJ_zero] at h
    rw [cmpJ_neg]
    omega
theorem cmpNd_swo : SWO (ltOf cmpNd) where
  irrefl x := by unfold ltOf; rw [decide_eq_false_iff_not, cmpNd_neg]; omega
  trans x y z h1 h2 := by unfold ltOf at *; rw [decide_eq_true_iff, cmpNd_neg] at *; omega
  ntrans x y z h1 h2 := by unfold ltOf at *; rw [decide_eq_false_iff_not, cmpNd_neg] at *; omega
set_option maxRecDepth 5000 in
set_option maxHeartbeats 1600000 in
theorem nodeOrder_grow (la xa ya : Int) (ma : Nat) (lb xb yb : Int) (mb : Nat) (w : World) (t : Int) (ht : cmpNd (la, xa, ya, ma) (lb, xb, yb, mb) = t) :
    Calls Try.prog 236 #[.agg #[.int .i64 la, .int .i64 xa, .int .i64 ya, .map (some ma)], .agg #[.int .i64 lb, .int .i64 xb, .int .i64 yb, .map (some mb)]] w fun e w' => e = .returned (.int .i64 t) ∧ ∃ q os', w' = grow (w.drewN q) os' := by
  obtain ⟨u, hu⟩ : ∃ u, cmpJ la lb = u := ⟨_, rfl⟩
  obtain ⟨v, hv⟩ : ∃ v, ordJ (xa, ya) (xb, yb) = v := ⟨_, rfl⟩
  have HT : Hid ((if u = 0 then v else u) = t) := by show _ = _; rw [← ht, ← hu, ← hv]; rfl
  have HU := Lib.hid hu
  have HV := Lib.hid hv
  clear hu hv ht
  obtain ⟨W0, hW0⟩ : ∃ W0, W0 = (w.alloc (.cells #[.int .i64 la, .int .i64 xa, .int .i64 ya, .map (some ma)] 243)).alloc (.cells #[.int .i64 lb, .int .i64 xb, .int .i64 yb, .map (some mb)] 243) := ⟨_, rfl⟩
  have d0 : W0.cell? ⟨w.heap.size, 0, none⟩ = some (.int .i64 la) := by rw [hW0]; simp [go_sem]
  have d1 : W0.cell? ⟨w.heap.size, 1, none⟩ = some (.int .i64 xa) := by rw [hW0]; simp [go_sem]
  have d2 : W0.cell? ⟨w.heap.size, 2, none⟩ = some (.int .i64 ya) := by rw [hW0]; simp [go_sem]
  have d3 : W0.cell? ⟨w.heap.size + 1, 0, none⟩ = some (.int .i64 lb) := by rw [hW0]; simp [go_sem]
  have d4 : W0.cell? ⟨w.heap.size + 1, 1, none⟩ = some (.int .i64 xb) := by rw [hW0]; simp [go_sem]
  have d5 : W0.cell? ⟨w.heap.size + 1, 2, none⟩ = some (.int .i64 yb) := by rw [hW0]; simp [go_sem]
  have HW : Hid (∀ q os c, (grow (W0.drew.drewN q) os).alloc c = grow (w.drewN (1 + q)) ((#[.cells #[.int .i64 la, .int .i64 xa, .int .i64 ya, .map (some ma)] 243, .cells #[.int .i64 lb, .int .i64 xb, .int .i64 yb, .map (some mb)] 243] ++ os) ++ #[c])) := fun q os c => by
    have e : W0 = grow w (#[.cells #[.int .i64 la, .int .i64 xa, .int .i64 ya, .map (some ma)] 243] ++ #[.cells #[.int .i64 lb, .int .i64 xb, .int .i64 yb, .map (some mb)] 243]) := by rw [hW0, alloc_eq_grow, alloc_eq_grow, grow_grow]
    rw [e]
    exact grow_end _ _ _ _ _
  have HSO : Hid (∀ w', Calls Try.prog 93 #[.agg #[.int .i64 xa, .int .i64 ya], .agg #[.int .i64 xb, .int .i64 yb]] w' fun e w'' => e = .returned (.int .i64 v) ∧ ∃ q os', w'' = grow (w'.drewN q) os') := fun w' => spotOrder_grow xa ya xb yb w' v HV.out
  go_enter Try.func236, Try.ntmps236
  go_wp2_with fail
  rw [← hW0]
  clear hW0
  go_region_held3 (fun w' => w'.cell? ⟨w.heap.size, 0, none⟩ = some (.int .i64 la) ∧ w'.cell? ⟨w.heap.size, 1, none⟩ = some (.int .i64 xa) ∧ w'.cell? ⟨w.heap.size, 2, none⟩ = some (.int .i64 ya) ∧ w'.cell? ⟨w.heap.size + 1, 0, none⟩ = some (.int .i64 lb) ∧ w'.cell? ⟨w.heap.size + 1, 1, none⟩ = some (.int .i64 xb) ∧ w'.cell? ⟨w.heap.size + 1, 2, none⟩ = some (.int .i64 yb))
    (first | (refine ⟨World.Ext.cell (E5.trans ?_) d0, World.Ext.cell (E5.trans ?_) d1, World.Ext.cell (E5.trans ?_) d2, World.Ext.cell (E5.trans ?_) d3, World.Ext.cell (E5.trans ?_) d4, World.Ext.cell (E5.trans ?_) d5⟩ <;> ((repeat (first | exact World.Ext.refl _ | exact ⟨_, rfl⟩ | assumption | refine World.Ext.over ?_ _ | refine World.Ext.drewN ?_ _ | refine World.Ext.drew ?_ | refine World.Ext.alloc ?_ _ | refine World.Ext.setCell ?_ ?_ _ | (simp; done))); done)) | (refine ⟨World.Ext.cell ?_ d0, World.Ext.cell ?_ d1, World.Ext.cell ?_ d2, World.Ext.cell ?_ d3, World.Ext.cell ?_ d4, World.Ext.cell ?_ d5⟩ <;> ((repeat (first | exact World.Ext.refl _ | exact ⟨_, rfl⟩ | assumption | refine World.Ext.over ?_ _ | refine World.Ext.drewN ?_ _ | refine World.Ext.drew ?_ | refine World.Ext.alloc ?_ _ | refine World.Ext.setCell ?_ ?_ _ | (simp; done))); done)))
    (first
      | (go_at_call 165; go_loud (refine (compare_eq la lb _ _ HU.out).mono ?_; rintro e w4 ⟨rfl, rfl⟩))
      | (go_at_call 93; go_loud (refine (HSO.out _).mono ?_; rintro e w5 ⟨rfl, q5, os5, hw5⟩; have E5 : W0.Ext w5 := grow_ext' hw5 (by repeat (first | exact World.Ext.refl _ | exact ⟨_, rfl⟩ | assumption | refine World.Ext.over ?_ _ | refine World.Ext.drewN ?_ _ | refine World.Ext.drew ?_ | refine World.Ext.alloc ?_ _ | refine World.Ext.setCell ?_ (by simp) _)); have HW5 := Lib.hid hw5; clear hw5))
      | (go_at_call 164; go_loud (refine (or2_eq _ u v _ (by simp [go_sem]) (by simp [go_sem]) _ HT.out).mono ?_; rintro e w6 ⟨rfl, rfl⟩)))
  all_goals (go_wp2; go_ret; exact ⟨rfl, _, _, (by rw [HW5.out]; exact HW.out _ _ _)⟩)
theorem nodeLays (blk off size : Nat) (w : World) : CmpLays Try.prog 236 #[] encNd 4 cmpNd blk off size w :=
  fun _ _ _ _ x y => nodeOrder_grow x.1 x.2.1 x.2.2.1 x.2.2.2 y.1 y.2.1 y.2.2.1 y.2.2.2 _ _ rfl
/-- A row of nodes of the call's own. -/
def GrowN (lo : Nat) (w : World) (v : Value) (ds : List NdV) : Prop := w.ownsRow lo 243 4 v ds.length (ds.flatMap encNd)
theorem sortNode_any (base g cap : Nat) (ds : List NdV) (w : World) (hown : GrowN base w (.slice (some ⟨g, 0, none⟩) ds.length cap) ds) (hn : ds.length ≤ 1048576) :
    Calls Try.prog 235 #[.slice (some ⟨g, 0, none⟩) ds.length cap, .func (.func 236) #[] #[]] w fun e w' => e = .returned (.tuple #[]) ∧
      ∃ qs : List NdV, qs.Perm ds ∧ qs.Pairwise (fun a b => ltOf cmpNd b a = false) ∧ GrowN base w' (.slice (some ⟨g, 0, none⟩) ds.length cap) qs ∧ w.grownBy w' (some g) := by
  have hown' : w.ownsRow base 243 4 (.slice (some ⟨g, 0, none⟩) ds.length cap) ds.length (ds.flatMap encNd) := hown
  have eg : ∀ args w, (callFunc 236 args).run Try.prog w = .ok (.enter 236 args) w := enters_of Try.func236 (by kernel_rfl) rfl
  have hfl := flatK_list encNd 4 (fun _ => rfl) ds.toArray
  rw [List.toList_toArray] at hfl
  have hH : HoldsK encNd 4 w g 0 ds.toArray := ownsRow_holds hown' _ hfl
  have hlt : g < w.heap.size := (hown'.lt g rfl).2
  have h := AnyQ.slices_SortFunc Try.sortNode 4 Try.isAgg243 Try.sizeOf243 encNd (fun _ => rfl) (fun x v hv => by simp [encNd] at hv; rcases hv with rfl | rfl | rfl | rfl <;> rfl) cmpNd cmpNd_swo 236 #[] g 0 cap ds.toArray w eg (nodeLays g 0 _ w) hH hlt (by simp; omega)
  rw [List.size_toArray] at h
  refine Calls.mono h ?_
  rintro e w' ⟨he, d', n, os, hp, hs, rfl⟩
  have hsz : d'.size = ds.length := by rw [hp.1, List.size_toArray]
  have hperm := perm_arr hp
  rw [List.toList_toArray] at hperm
  obtain ⟨h1, h2⟩ := ownsRow_sorted hown' n (flatK encNd 4 d') (by simp [hsz]) os
  rw [flatK_list encNd 4 (fun _ => rfl)] at h1
  refine ⟨he, d'.toList, hperm, sorted_arr (by rw [hsz]) hs, ?_, h2⟩
  unfold GrowN
  rw [show d'.toList.length = ds.length by rw [Array.length_toList, hsz]]
  exact h1
end Go.Proofs.Ythgkmaccbcpaeaa

/- Plain: what the program's nodes are under way, and sorted. -/
namespace Go.Proofs.Ythgkmaccbcpaeaa
open Go Go.RowKit
section
variable {W H : Nat} {l : List Int}
theorem spN_inj {j k : Nat} (h : spN W j = spN W k) : j = k := by
  unfold spN at h
  simp only [Prod.mk.injEq] at h
  have h1 := Nat.div_add_mod j W
  have h2 := Nat.div_add_mod k W
  rw [← h1, ← h2, Int.ofNat_inj.1 h.1, Int.ofNat_inj.1 h.2]
theorem spN_ord {j k : Nat} (hW : 0 < W) : ordJ (spN W j) (spN W k) < 0 ↔ j < k := by
  rw [ordJ_neg]
  unfold spN
  simp only
  have h1 := Nat.div_add_mod j W
  have h2 := Nat.div_add_mod k W
  have m1 := Nat.mod_lt j hW
  have m2 := Nat.mod_lt k hW
  constructor
  · rintro (h | ⟨h, h'⟩)
    · have h3 : j / W + 1 ≤ k / W := by omega
      have h4 := Nat.mul_le_mul_left W h3
      rw [Nat.mul_succ] at h4
      omega
    · have h3 : j / W = k / W := by omega
      rw [h3] at h1
      omega
  · intro h
    have h3 : j / W ≤ k / W := Nat.div_le_div_right (Nat.le_of_lt h)
    rcases Nat.lt_or_ge (j / W) (k / W) with h4 | h4
    · left; omega
    · right
      have e : j / W = k / W := by omega
      rw [e] at h1 ⊢
      exact ⟨rfl, by omega⟩
/-- Which spots are done behind the first k. -/
noncomputable def dnP (W H : Nat) (l : List Int) (k : Nat) (p : Int × Int) : Bool := hasB W H p.1 p.2 && doneB W H l k (p.2 * W + p.1).toNat
theorem spN_idx {j : Nat} : ((spN W j).2 * (W : Int) + (spN W j).1).toNat = j := by
  unfold spN
  simp only
  rw [← Int.natCast_mul, ← Int.natCast_add, Int.toNat_natCast, Nat.mul_comm]
  exact Nat.div_add_mod _ _
theorem spN_has {j : Nat} (hj : j < H * W) : hasB W H (spN W j).1 (spN W j).2 = true := by
  have hW : 0 < W := Nat.pos_of_ne_zero fun e => by rw [e] at hj; simp at hj
  rw [hasB_true]
  exact ⟨Int.natCast_nonneg _, Int.ofNat_lt.2 (Nat.mod_lt _ hW), Int.natCast_nonneg _, Int.ofNat_lt.2 (by rw [Nat.div_lt_iff_lt_mul hW]; exact hj)⟩
theorem dnP_at {k j : Nat} (hj : j < H * W) : dnP W H l k (spN W j) = doneB W H l k j := by unfold dnP; rw [spN_has hj, spN_idx, Bool.true_and]
theorem dnP_zero (p : Int × Int) : dnP W H l 0 p = false := by unfold dnP; rw [doneB_zero, Bool.and_false]
theorem hasB_sp {p : Int × Int} (h : hasB W H p.1 p.2 = true) : ∃ j, j < H * W ∧ p = spN W j := lvR_box (W := W) (H := H) (l := []) (t := nbV W [] p.1 p.2) (by unfold lvR; rw [h]; simp)
theorem dnP_skip {k : Nat} (h : doneB W H l k k = true) (p : Int × Int) : dnP W H l (k + 1) p = dnP W H l k p := by unfold dnP; rw [doneB_skip h]
/-- Under way: those done before, and those of the part that are seen and have its level. -/
noncomputable def dnL (W H : Nat) (l : List Int) (k : Nat) (ds : List (Int × Int)) (left : Int × Int → Bool) (p : Int × Int) : Bool := dnP W H l k p || (decide (p ∈ ds) && (!left p && decide (nbV W l p.1 p.2 = l.getD k 0)))
theorem dnL_start {k : Nat} {ds : List (Int × Int)} {left : Int × Int → Bool} (h : ∀ q, q ∈ ds → left q = true) (p : Int × Int) : dnP W H l k p = dnL W H l k ds left p := by
  unfold dnL
  by_cases hp : p ∈ ds
  · rw [h p hp]; simp
  · rw [decide_eq_false hp]; simp
theorem dnL_step {k : Nat} {ds : List (Int × Int)} {left : Int × Int → Bool} {q : Int × Int} (hq : q ∈ ds) (hl : nbV W l q.1 q.2 = l.getD k 0) (p : Int × Int) : (if p = q then true else dnL W H l k ds left p) = dnL W H l k ds (fun r => left r && !(r == q)) p := by
  unfold dnL
  by_cases e : p = q
  · subst e
    rw [if_pos rfl, decide_eq_true hq, decide_eq_true hl]
    simp
  · rw [if_neg e]
    have : (p == q) = false := by simpa using e
    dsimp only
    rw [this]
    simp
theorem dnL_same {k : Nat} {ds : List (Int × Int)} {left : Int × Int → Bool} {q : Int × Int} (hl : nbV W l q.1 q.2 ≠ l.getD k 0) (p : Int × Int) : dnL W H l k ds left p = dnL W H l k ds (fun r => left r && !(r == q)) p := by
  unfold dnL
  by_cases e : p = q
  · subst e
    rw [decide_eq_false hl]
    simp
  · have : (p == q) = false := by simpa using e
    dsimp only
    rw [this]
    simp
theorem dnL_done {k : Nat} (_ : k < H * W) {ds : List (Int × Int)} {left : Int × Int → Bool} (h0 : ∀ p, left p = false) (hds : ∀ p, p ∈ ds ↔ Rch (lvR W H l (l.getD k 0)) (nbA false) [spN W k] p) (p : Int × Int) : dnL W H l k ds left p = dnP W H l (k + 1) p := by
  unfold dnL
  rw [h0 p, Bool.not_false, Bool.true_and]
  cases hb : hasB W H p.1 p.2
  · have hn : ¬ p ∈ ds := fun h => by
      have h1 := ((hds p).1 h).right
      unfold lvR at h1
      rw [hb] at h1
      cases h1
    rw [decide_eq_false hn]
    unfold dnP
    rw [hb]
    rfl
  · obtain ⟨j, hj, rfl⟩ := hasB_sp hb
    rw [dnP_at hj, dnP_at hj, doneB_more]
    have e : decide (spN W j ∈ ds) = cnB W H l (l.getD k 0) k j := by
      rw [Bool.eq_iff_iff, decide_eq_true_iff, cnB_iff]
      exact hds _
    have e2 : nbV W l (spN W j).1 (spN W j).2 = l.getD j 0 := by
      unfold nbV
      rw [spN_idx]
    rw [e, e2, Bool.and_comm (cnB W H l (l.getD k 0) k j)]
/-- The first spot so far. -/
def MinL (W H : Nat) (ds : List (Int × Int)) (left : Int × Int → Bool) (k m : Nat) : Prop :=
  (m = k ∨ (spN W m ∈ ds ∧ left (spN W m) = false)) ∧ m ≤ k ∧ ∀ j, j < H * W → spN W j ∈ ds → left (spN W j) = false → m ≤ j
theorem MinL.start {ds : List (Int × Int)} {left : Int × Int → Bool} {k : Nat} (h : ∀ q, q ∈ ds → left q = true) : MinL W H ds left k k := ⟨.inl rfl, Nat.le_refl _, fun j _ h1 h2 => by rw [h _ h1] at h2; cases h2⟩
theorem MinL.less {ds : List (Int × Int)} {left : Int × Int → Bool} {k m j : Nat} (h : MinL W H ds left k m) (hj : spN W j ∈ ds) (hjm : j < m) : MinL W H ds (fun r => left r && !(r == spN W j)) k j := by
  refine ⟨.inr ⟨hj, by simp⟩, by have := h.2.1; omega, fun i hi h1 h2 => ?_⟩
  simp only [Bool.and_eq_false_iff, Bool.not_eq_false', beq_iff_eq] at h2
  rcases h2 with h2 | h2
  · have := h.2.2 i hi h1 h2; omega
  · rw [spN_inj h2]; exact Nat.le_refl _
theorem MinL.more {ds : List (Int × Int)} {left : Int × Int → Bool} {k m j : Nat} (h : MinL W H ds left k m) (hjm : m ≤ j) : MinL W H ds (fun r => left r && !(r == spN W j)) k m := by
  refine ⟨h.1.imp id fun h1 => ⟨h1.1, by dsimp only; rw [h1.2]; rfl⟩, h.2.1, fun i hi h1 h2 => ?_⟩
  simp only [Bool.and_eq_false_iff, Bool.not_eq_false', beq_iff_eq] at h2
  rcases h2 with h2 | h2
  · exact h.2.2 i hi h1 h2
  · rw [spN_inj h2]; exact hjm
theorem MinL.done {ds : List (Int × Int)} {left : Int × Int → Bool} {k m : Nat} (h : MinL W H ds left k m) (hk : k < H * W) (h0 : ∀ p, left p = false) (hds : ∀ p, p ∈ ds ↔ Rch (lvR W H l (l.getD k 0)) (nbA false) [spN W k] p) : mnN W H l (l.getD k 0) k = m := by
  refine mnN_eq hk (Int.le_refl _) ?_ fun i hi hc => ?_
  · rcases h.1 with e | ⟨h1, -⟩
    · rw [e]; exact Cn.refl hk (Int.le_refl _)
    · exact (hds _).1 h1
  · have := h.2.2 i (by have := h.2.1; omega) ((hds _).2 hc) (h0 _)
    omega
/-- What a node is known by. -/
def ndKey (W : Nat) (d : NdV) : Nat × Nat := (d.1.toNat, (d.2.2.1 * W + d.2.1).toNat)
/-- A node's level and first spot. -/
def NdIs (W H : Nat) (d : NdV) : Prop := d.1 = ((ndKey W d).1 : Int) ∧ (d.2.1, d.2.2.1) = spN W (ndKey W d).2 ∧ (ndKey W d).2 < H * W
theorem ndKey_mk {t : Int} {q b : Nat} (_ : 0 ≤ t) : ndKey W (t, (spN W q).1, (spN W q).2, b) = (t.toNat, q) := by
  unfold ndKey
  simp only
  rw [spN_idx]
theorem NdIs.mk' {t : Int} {q b : Nat} (ht : 0 ≤ t) (hq : q < H * W) : NdIs W H (t, (spN W q).1, (spN W q).2, b) := by
  unfold NdIs
  rw [ndKey_mk ht]
  exact ⟨by simp only; omega, rfl, hq⟩
/-- Sorted nodes are the nodes in order. -/
theorem nodes_sorted (hg : GrL W H l) {ds qs : List NdV} (hds : ds.map (ndKey W) = foundTo W H l (H * W)) (hI : ∀ d, d ∈ ds → NdIs W H d) (hp : qs.Perm ds) (hs : qs.Pairwise fun a b => ltOf cmpNd b a = false) : qs.map (ndKey W) = nodeL W H l := by
  have hm : (qs.map (ndKey W)).Perm (foundTo W H l (H * W)) := by rw [← hds]; exact hp.map _
  have hnd := hm.nodup_iff.2 (found_nodup hg)
  refine sorted_same _ _ ?_ (ndTo_sorted 100) fun d => ?_
  · rw [List.pairwise_map]
    rw [List.nodup_iff_pairwise_ne, List.pairwise_map] at hnd
    refine List.Pairwise.imp_of_mem (fun {a b} ha hb h => ?_) (List.Pairwise.and hs hnd)
    obtain ⟨h1, h2⟩ := h
    have ia := hI a (hp.mem_iff.1 ha)
    have ib := hI b (hp.mem_iff.1 hb)
    unfold ltOf at h1
    rw [decide_eq_false_iff_not, cmpNd_neg] at h1
    obtain ⟨a1, a2, a3⟩ := ia
    obtain ⟨b1, b2, b3⟩ := ib
    have hW : 0 < W := Nat.pos_of_ne_zero fun e => by rw [e] at a3; simp at a3
    have ho := spN_ord (W := W) (j := (ndKey W b).2) (k := (ndKey W a).2) hW
    rw [← a2, ← b2, ordJ_neg] at ho
    simp only at ho
    unfold ndLt
    rcases Nat.lt_trichotomy (ndKey W a).1 (ndKey W b).1 with h3 | h3 | h3
    · exact .inl h3
    · refine .inr ⟨h3, ?_⟩
      rcases Nat.lt_trichotomy (ndKey W a).2 (ndKey W b).2 with h4 | h4 | h4
      · exact h4
      · exact absurd (Prod.ext h3 h4) h2
      · exact absurd (.inr ⟨by omega, ho.2 h4⟩) h1
    · exact absurd (.inl (by omega)) h1
  · rw [hm.mem_iff, found_mem hg]
    first | done | rfl
end
end Go.Proofs.Ythgkmaccbcpaeaa

/- The program's nodes. -/
namespace Go.Proofs.Ythgkmaccbcpaeaa
open Go Go.RowKit
/-- A grey picture in memory. -/
structure GrAt (w : World) (p : Nat) (W H : Nat) (l : List Int) : Prop where
  ex : ∃ a c A C m, w.cell? ⟨p, 0, none⟩ = some (.slice a m.length c) ∧ MatAt w a A C m ∧ m.length = H ∧ (∀ r, r < m.length → (m.getD r []).length = W) ∧ m.flatten = l
theorem GrAt.ext {w w' : World} {p W H : Nat} {l : List Int} (h : GrAt w p W H l) (hx : w.Ext w') : GrAt w' p W H l :=
  let ⟨a, c, A, C, m, h1, h2, h3⟩ := h.ex
  ⟨a, c, A, C, m, hx.cell h1, h2.ext hx, h3⟩
theorem GrAt.at {w : World} {p W H : Nat} {l : List Int} (h : GrAt w p W H l) (hW : W ≤ 64) (hH : H ≤ 64) {x y : Nat} (hx : x < W) (hy : y < H) :
    Calls Try.prog 149 #[.pointer (some ⟨p, 0, none⟩), .agg #[.int .i64 x, .int .i64 y]] w fun e w' => e = .returned (.int .i64 (l.getD (y * W + x) 0)) ∧ w.Ext w' := by
  obtain ⟨a, c, A, C, m, h1, h2, h3, h4, h5⟩ := h.ex
  have hr := h4 y (by omega)
  have e := flat_at W m y x h4 (by omega) hx
  rw [h5] at e
  rw [e]
  exact gAt_any p a c A C m x y w (by omega) (by omega) (by omega) (by omega) h1 h2
theorem GrAt.has {w : World} {p W H : Nat} {l : List Int} (h : GrAt w p W H l) (hH0 : 0 < H) (hW : W ≤ 64) (hH : H ≤ 64) (x y : Int) :
    Calls Try.prog 207 #[.pointer (some ⟨p, 0, none⟩), .agg #[.int .i64 x, .int .i64 y]] w fun e w' => e = .returned (.bool (hasB W H x y)) ∧ w.Ext w' := by
  obtain ⟨a, c, A, C, m, h1, h2, h3, h4, h5⟩ := h.ex
  have hr := h4 0 (by omega)
  have h := gHas_any p a c A C m x y w (by omega) (by omega) (by omega) h1 h2
  rw [h3, hr] at h
  exact h
theorem GrAt.spots {w : World} {p W H : Nat} {l : List Int} (h : GrAt w p W H l) (hW : W ≤ 64) (hH : H ≤ 64) :
    Calls Try.prog 152 #[.pointer (some ⟨p, 0, none⟩)] w (PairsRet w (gridP W H)) := by
  obtain ⟨a, c, A, C, m, h1, h2, h3, h4, h5⟩ := h.ex
  have h := gSpots_any p a c A C m W w h4 (by omega) hW h1 h2
  rw [h3] at h
  exact h
set_option maxRecDepth 5000 in
set_option maxHeartbeats 1600000 in
theorem nodes1_any (p b1 b7 W H : Nat) (l : List Int) (t x y : Int) (w : World) (hH0 : 0 < H) (hW : W ≤ 64) (hH : H ≤ 64) (hg : GrAt w p W H l) (h1 : w.cell? ⟨b1, 0, none⟩ = some (.pointer (some ⟨p, 0, none⟩))) (h7 : w.cell? ⟨b7, 0, none⟩ = some (.int .i64 t)) :
    Calls Try.prog 234 #[.agg #[.int .i64 x, .int .i64 y], .pointer (some ⟨b1, 0, none⟩), .pointer (some ⟨b7, 0, none⟩)] w fun e w' => e = .returned (.bool (lvR W H l t (x, y))) ∧ w.Ext w' := by
  obtain ⟨W0, hW0⟩ : ∃ W0, W0 = w.alloc (.cells #[.int .i64 x, .int .i64 y] 45) := ⟨_, rfl⟩
  have hx0 : w.Ext W0 := by rw [hW0]; repeat (first | exact World.Ext.refl _ | exact ⟨_, rfl⟩ | assumption | refine World.Ext.over ?_ _ | refine World.Ext.drewN ?_ _ | refine World.Ext.drew ?_ | refine World.Ext.alloc ?_ _ | refine World.Ext.setCell ?_ (by simp) _)
  have d0 : W0.cell? ⟨w.heap.size, 0, none⟩ = some (.int .i64 x) := by rw [hW0]; simp [go_sem]
  have d1 : W0.cell? ⟨w.heap.size, 1, none⟩ = some (.int .i64 y) := by rw [hW0]; simp [go_sem]
  have e1 := hx0.cell h1
  have e7 := hx0.cell h7
  have HX0 := Lib.hid hx0
  have HH := Lib.hid (fun x1 => (hg.ext (hx0.trans ⟨x1, rfl⟩ : w.Ext (W0.over x1))).has hH0 hW hH x y)
  have l1 := World.block_lt_of_cell? _ _ e1
  have l7 := World.block_lt_of_cell? _ _ e7
  have l0 := World.block_lt_of_cell? _ _ d0
  have HL : Hid (lvR W H l t (x, y) = (hasB W H x y && decide (t ≤ nbV W l x y))) := rfl
  cases hh : hasB W H x y
  · have hf : lvR W H l t (x, y) = false := by rw [HL.out, hh]; rfl
    rw [hf]
    rw [hh] at HH
    clear hg h1 h7 hx0 hf HL hh
    go_enter Try.func234, Try.ntmps234
    go_wp2_with fail
    rw [← hW0]
    clear hW0
    refine wp_region_over_lit (by kernel_rfl) (by kernel_rfl) ?_; (repeat (go_big_quiet_step ((go_at_call 207; exact Calls.over_of (HH.out _))))); refine wpQuiet_nil ?_; rintro _ ⟨x1, rfl⟩
    have HX : Hid (w.Ext (W0.over x1)) := HX0.out.trans ⟨x1, rfl⟩
    clear d0 d1 e1 e7
    go_wp2
    go_ret
    exact ⟨rfl, HX.out⟩
  · obtain ⟨q1, q2, q3, q4⟩ := hasB_true.1 hh
    obtain ⟨X, rfl⟩ : ∃ X : Nat, x = X := ⟨x.toNat, by omega⟩
    obtain ⟨Y, rfl⟩ : ∃ Y : Nat, y = Y := ⟨y.toNat, by omega⟩
    have HA := Lib.hid (fun x1 => (hg.ext (hx0.trans ⟨x1, rfl⟩ : w.Ext (W0.over x1))).at hW hH (x := X) (y := Y) (by omega) (by omega))
    have e : nbV W l X Y = l.getD (Y * W + X) 0 := by
      unfold nbV
      rw [← Int.natCast_mul, ← Int.natCast_add, Int.toNat_natCast]
    have hf : lvR W H l t ((X : Int), (Y : Int)) = decide (t ≤ l.getD (Y * W + X) 0) := by rw [HL.out, hh, e, Bool.true_and]
    rw [hf]
    rw [hh] at HH
    clear hg h1 h7 hx0 hf HL hh e q1 q2 q3 q4
    generalize l.getD (Y * W + X) 0 = z at *
    go_enter Try.func234, Try.ntmps234
    go_wp2_with fail
    rw [← hW0]
    clear hW0
    refine wp_region_over_lit (by kernel_rfl) (by kernel_rfl) ?_; (repeat (go_big_quiet_step ((first | (go_at_call 207; exact Calls.over_of (HH.out _)) | (go_at_call 149; exact Calls.over_of (HA.out _)))))); refine wpQuiet_nil ?_; rintro _ ⟨x1, rfl⟩
    have HX : Hid (w.Ext (W0.over x1)) := HX0.out.trans ⟨x1, rfl⟩
    clear d0 d1 e1 e7
    go_wp2
    go_ret
    exact ⟨by simp, HX.out⟩
theorem enters_nodes1 : Enters 234 := enters_of Try.func234 (by kernel_rfl) (by kernel_rfl)
theorem spotOrder_ext (xa ya xb yb : Int) (w : World) : Calls Try.prog 93 #[.agg #[.int .i64 xa, .int .i64 ya], .agg #[.int .i64 xb, .int .i64 yb]] w fun e w' => e = .returned (.int .i64 (ordJ (xa, ya) (xb, yb))) ∧ w.Ext w' :=
  (spotOrder_grow xa ya xb yb w _ rfl).mono fun _ _ ⟨he, _, _, hw⟩ => ⟨he, grow_ext' hw (.refl _)⟩
/-- A node in a box. -/
def Nbx (w : World) (b : Nat) (t x y : Int) (m : Nat) : Prop := w.heap[b]? = some (.cells #[.int .i64 t, .int .i64 x, .int .i64 y, .map (some m)] 243 (0, 0))
section
variable {w w' : World} {b m : Nat} {t x y : Int}
theorem Nbx.lt (h : Nbx w b t x y m) : b < w.heap.size := (Array.getElem?_eq_some_iff.1 h).1
theorem Nbx.keep (h : Nbx w b t x y m) (hk : w'.heap[b]? = w.heap[b]?) : Nbx w' b t x y m := by unfold Nbx at *; rw [hk, h]
theorem Nbx.ext (h : Nbx w b t x y m) (hx : w.Ext w') : Nbx w' b t x y m := h.keep (hx.block h.lt)
theorem Nbx.cells (h : Nbx w b t x y m) : w.cell? ⟨b, 0, none⟩ = some (.int .i64 t) ∧ w.cell? ⟨b, 1, none⟩ = some (.int .i64 x) ∧ w.cell? ⟨b, 2, none⟩ = some (.int .i64 y) ∧ w.cell? ⟨b, 3, none⟩ = some (.map (some m)) := by unfold Nbx at h; simp [World.cell?, h]
theorem Nbx.free (h : Nbx w b t x y m) (i : Nat) : w.frozen? ⟨b, i, none⟩ = false := by unfold Nbx at h; simp [World.frozen?, h]
theorem Nbx.new (w : World) (t x y : Int) (m : Nat) (hb : b = w.heap.size) : Nbx (w.alloc (.cells #[.int .i64 t, .int .i64 x, .int .i64 y, .map (some m)] 243)) b t x y m := by
  subst hb
  unfold Nbx
  show (w.heap.push _)[w.heap.size]? = _
  simp
theorem Nbx.put (h : Nbx w b t x y m) (u v : Int) : Nbx ((w.setCell ⟨b, 1, none⟩ (.int .i64 u)).setCell ⟨b, 2, none⟩ (.int .i64 v)) b t u v m := by
  unfold Nbx at *
  simp [World.setCell, Array.getElem?_modify, h]
end
def dnG (D : Int × Int → Bool) (p : Int × Int) : Option Value := if D p = true then some (.bool true) else none
theorem dnG_val {D : Int × Int → Bool} (p : Int × Int) : (dnG D p).getD (.bool false) = .bool (D p) := by
  unfold dnG
  cases D p <;> rfl
theorem MapS.lookD {w : World} {bm : Nat} {D : Int × Int → Bool} (h : MapS w Try.prog 45 bm (dnG D)) {x y : Int} (hx : -1000 ≤ x ∧ x ≤ 1000) (hy : -1000 ≤ y ∧ y ≤ 1000) :
    (Instr.lookup 229 (.map (some bm)) (.agg #[.int .i64 x, .int .i64 y]) false).run Try.prog w = .ok (.bool (D (x, y))) w := by
  have := h.look Try.spotKey boolMap (zeroBool w) (p := (x, y)) (spotKeyOf (spotWf hx hy))
  rw [dnG_val] at this
  exact this
/-- What is reached from a node's first spot, as a map. -/
def PartAt (w : World) (b W H : Nat) (l : List Int) (t : Int) (q : Nat) : Prop := ∃ es, MapS w Try.prog 45 b (mapG es) ∧ es.Nodup ∧ ∀ p, p ∈ es ↔ Rch (lvR W H l t) (nbA false) [spN W q] p
theorem PartAt.keep {w w' : World} {b W H q : Nat} {l : List Int} {t : Int} (h : PartAt w b W H l t q) (hk : w'.heap[b]? = w.heap[b]?) : PartAt w' b W H l t q := let ⟨es, h1, h2⟩ := h; ⟨es, h1.keep hk, h2⟩
theorem PartAt.lt {w : World} {b W H q : Nat} {l : List Int} {t : Int} (h : PartAt w b W H l t q) : b < w.heap.size := let ⟨_, h1, _⟩ := h; h1.lt
structure NdSt (wA : World) (bmD : Nat) (a14 : Option Addr) (W H : Nat) (l : List Int) (v : Value) (D : Int × Int → Bool) (ds : List NdV) (wr : World) : Prop where
  x : wA.Ext wr
  row : RowP wr a14 (gridP W H)
  rb : ∀ b o, a14 = some ⟨b, o, none⟩ → wA.heap.size ≤ b ∧ b < wr.heap.size ∧ b ≠ bmD ∧ v.ownBlock ≠ some b
  map : MapS wr Try.prog 45 bmD (dnG D)
  lo : wA.heap.size ≤ bmD
  out : GrowN wA.heap.size wr v ds
  par : ∀ d, d ∈ ds → NdIs W H d ∧ wA.heap.size ≤ d.2.2.2 ∧ d.2.2.2 ≠ bmD ∧ PartAt wr d.2.2.2 W H l d.1 (ndKey W d).2
section
variable {wA : World} {bmD : Nat} {a14 : Option Addr} {W H : Nat} {l : List Int} {v : Value} {D D' : Int × Int → Bool} {ds : List NdV} {wr w' : World}
theorem NdSt.keep {S : Nat → Prop} (h : NdSt wA bmD a14 W H l v D ds wr) (hw : Wrote S wr w') (h1 : ∀ k, S k → wA.heap.size ≤ k) (h2 : ∀ b o, a14 = some ⟨b, o, none⟩ → ¬ S b) (h3 : ∀ k, v.ownBlock = some k → ¬ S k) (h4 : ∀ d, d ∈ ds → ¬ S d.2.2.2) (hm : MapS w' Try.prog 45 bmD (dnG D')) : NdSt wA bmD a14 W H l v D' ds w' where
  x := h.x.wroteNew hw fun k hk hs => by have := h1 k hs; omega
  row := h.row.keep fun b o e => hw.block b (h.rb b o e).2.1 (h2 b o e)
  rb := fun b o e => let ⟨a1, a2, a3⟩ := h.rb b o e; ⟨a1, Nat.lt_of_lt_of_le a2 hw.size, a3⟩
  map := hm
  lo := h.lo
  out := World.ownsRow.keep h.out fun k hk => hw.block k (World.ownsRow.lt h.out k hk).2 (h3 k hk)
  par := fun d hd => let ⟨a1, a2, a3, a4⟩ := h.par d hd; ⟨a1, a2, a3, a4.keep (hw.block _ a4.lt (h4 d hd))⟩
theorem NdSt.ext (h : NdSt wA bmD a14 W H l v D ds wr) (hx : wr.Ext w') : NdSt wA bmD a14 W H l v D ds w' :=
  h.keep (hx.wrote fun _ => False) (fun _ h => h.elim) (fun _ _ _ h => h) (fun _ _ h => h) (fun _ _ h => h) (h.map.ext hx)
theorem NdSt.push {wa w1 : World} {v' : Value} {d : NdV} (h : NdSt wA bmD a14 W H l v D ds wr) (hx : wr.Ext wa) (hg : wa.grownBy w1 v.ownBlock) (ho : w1.ownsRow wA.heap.size 243 4 v' (ds.length + 1) (ds.flatMap encNd ++ encNd d)) (hat : v'.ownBlock = v.ownBlock ∨ v'.ownBlock = some wa.heap.size)
    (h1 : NdIs W H d) (h2 : wA.heap.size ≤ d.2.2.2) (h3 : d.2.2.2 ≠ bmD) (h4 : PartAt wr d.2.2.2 W H l d.1 (ndKey W d).2) : NdSt wA bmD a14 W H l v' D (ds ++ [d]) w1 := by
  have ha := h.ext hx
  have hsz := hx.size
  have hrow : ∀ {w : World} {b : Nat} {g : Int × Int → Option Value}, MapS w Try.prog 45 b g → GrowN wA.heap.size w v ds → some b ≠ v.ownBlock := fun {w b g} hm hr => hm.neRow hr
  refine ⟨?_, ?_, fun b o e => ?_, ?_, h.lo, ?_, fun d' hd' => ?_⟩
  · exact ha.x.grown hg fun k hk => (World.ownsRow.lt ha.out k hk).1
  · exact ha.row.keep fun b o e => hg.block b (ha.rb b o e).2.1 fun e' => (ha.rb b o e).2.2.2 e'.symm
  · obtain ⟨a1, a2, a3, a4⟩ := h.rb b o e
    refine ⟨a1, by have := hg.size; omega, a3, ?_⟩
    rcases hat with hat | hat
    · rw [hat]; exact a4
    · rw [hat]; intro e'; cases e'; omega
  · exact ha.map.grown hg (hrow ha.map ha.out)
  · unfold GrowN
    rw [List.length_append, List.length_singleton, List.flatMap_append]
    simpa using ho
  · rw [List.mem_append, List.mem_singleton] at hd'
    rcases hd' with hd' | rfl
    · obtain ⟨a1, a2, a3, a4⟩ := ha.par d' hd'
      obtain ⟨es, q1, q2⟩ := a4
      exact ⟨a1, a2, a3, es, q1.grown hg (hrow q1 ha.out), q2⟩
    · obtain ⟨es, q1, q2⟩ := h4
      have q3 := q1.ext hx
      exact ⟨h1, h2, h3, es, q3.grown hg (hrow q3 ha.out), q2⟩
end
structure RgSt (w7 : World) (bmD r b9 bm2 W H : Nat) (l : List Int) (k : Nat) (es : List (Int × Int)) (left : Int × Int → Bool) (cnt m : Nat) (wr : World) : Prop where
  wrote : Wrote (fun q => q = bmD ∨ q = r ∨ q = b9 ∨ w7.heap.size ≤ q) w7 wr
  map : MapS wr Try.prog 45 bmD (dnG (dnL W H l k es left))
  rg : RangeS wr Try.prog 45 bm2 r (mapG es) left cnt
  box : Nbx wr b9 (l.getD k 0) (spN W m).1 (spN W m).2 bm2
  mn : MinL W H es left k m
theorem RgSt.ext {w7 wr w' : World} {bmD r b9 bm2 W H k cnt m : Nat} {l : List Int} {es : List (Int × Int)} {left : Int × Int → Bool} (h : RgSt w7 bmD r b9 bm2 W H l k es left cnt m wr) (hx : wr.Ext w') : RgSt w7 bmD r b9 bm2 W H l k es left cnt m w' :=
  ⟨h.wrote.trans (hx.wrote _), h.map.ext hx, h.rg.ext hx, h.box.ext hx, h.mn⟩
end Go.Proofs.Ythgkmaccbcpaeaa

/- The program's nodes: the walk. -/
namespace Go.Proofs.Ythgkmaccbcpaeaa
open Go Go.RowKit
theorem Try.infoNode : (Try.prog.info? 243).map (fun i => (i.zero, i.size, i.bytes)) = some (some (.agg #[.int .i64 0, .int .i64 0, .int .i64 0, .map none]), 4, 32) := by kernel_rfl
theorem dnG_step {W H : Nat} {l : List Int} {k : Nat} {ds : List (Int × Int)} {left : Int × Int → Bool} {q : Int × Int} (hq : q ∈ ds) (hl : nbV W l q.1 q.2 = l.getD k 0) (p : Int × Int) : (if p = q then some (Value.bool true) else dnG (dnL W H l k ds left) p) = dnG (dnL W H l k ds (fun r => left r && !(r == q))) p := by
  have h1 := dnL_step (H := H) (l := l) (k := k) (left := left) hq hl p
  by_cases e : p = q
  · rw [if_pos e] at h1 ⊢
    unfold dnG
    rw [← h1]
    rfl
  · rw [if_neg e] at h1 ⊢
    unfold dnG
    rw [h1]
theorem dnG_same {W H : Nat} {l : List Int} {k : Nat} {ds : List (Int × Int)} {left : Int × Int → Bool} {q : Int × Int} (hl : nbV W l q.1 q.2 ≠ l.getD k 0) (p : Int × Int) : dnG (dnL W H l k ds left) p = dnG (dnL W H l k ds (fun r => left r && !(r == q))) p := by
  have h1 := dnL_same (H := H) (l := l) (k := k) (ds := ds) (left := left) hl p
  unfold dnG
  rw [h1]
def NodesRet (w : World) (W H : Nat) (l : List Int) (e : Ending) (w' : World) : Prop :=
  ∃ v qs, e = .returned v ∧ w.Ext w' ∧ GrowN w.heap.size w' v qs ∧ qs.map (ndKey W) = nodeL W H l ∧ ∀ d, d ∈ qs → NdIs W H d ∧ w.heap.size ≤ d.2.2.2 ∧ PartAt w' d.2.2.2 W H l d.1 (ndKey W d).2
theorem cell_four_new (w : World) (a b c d : Value) (e : TypeId) : ∀ (j : Nat) (y : Value), [a, b, c, d][j]? = some y → (w.alloc (.cells #[a, b, c, d] e)).cell? ((⟨w.heap.size, 0, none⟩ : Addr).add j) = some y := by
  intro j y hj
  rw [Addr.add_mk]
  match j, hj with
  | 0, hj => simp at hj; subst hj; simp [go_sem]
  | 1, hj => simp at hj; subst hj; simp [go_sem]
  | 2, hj => simp at hj; subst hj; simp [go_sem]
  | 3, hj => simp at hj; subst hj; simp [go_sem]
  | j + 4, hj => simp at hj
set_option maxRecDepth 5000 in
set_option maxHeartbeats 6400000 in
theorem nodes_any (p W H : Nat) (l : List Int) (w : World) (hW1 : 1 ≤ W) (hH1 : 1 ≤ H) (hW : W ≤ 16) (hH : H ≤ 16) (hg : GrAt w p W H l) (hgl : GrL W H l) :
    Calls Try.prog 211 #[.pointer (some ⟨p, 0, none⟩)] w (NodesRet w W H l) := by
  obtain ⟨iw, hiw, hz0, hz1, hz2⟩ := info_parts Try.infoNode
  obtain ⟨W0, hW0⟩ : ∃ W0, W0 = w.alloc (.cells #[.pointer (some ⟨p, 0, none⟩)] 239) := ⟨_, rfl⟩
  obtain ⟨W2, hW2⟩ : ∃ W2, W2 = (W0.alloc (.cells #[] 243)).alloc (.map #[] 0) := ⟨_, rfl⟩
  have hx0 : w.Ext W0 := by rw [hW0]; repeat (first | exact World.Ext.refl _ | exact ⟨_, rfl⟩ | assumption | refine World.Ext.over ?_ _ | refine World.Ext.drewN ?_ _ | refine World.Ext.drew ?_ | refine World.Ext.alloc ?_ _ | refine World.Ext.setCell ?_ (by simp) _)
  have hx2 : W0.Ext W2 := by rw [hW2]; repeat (first | exact World.Ext.refl _ | exact ⟨_, rfl⟩ | assumption | refine World.Ext.over ?_ _ | refine World.Ext.drewN ?_ _ | refine World.Ext.drew ?_ | refine World.Ext.alloc ?_ _ | refine World.Ext.setCell ?_ (by simp) _)
  have hsz0 : W0.heap.size = w.heap.size + 1 := by rw [hW0]; simp
  have hsz2 : W2.heap.size = w.heap.size + 3 := by rw [hW2, hW0]; simp
  have d1 : W2.cell? ⟨w.heap.size, 0, none⟩ = some (.pointer (some ⟨p, 0, none⟩)) := hx2.cell (by rw [hW0]; simp [go_sem])
  have hM2 : MapS W2 Try.prog 45 (w.heap.size + 1 + 1) (dnG (dnP W H l 0)) := by
    rw [hW2]
    exact (MapS.new _ Try.prog 45 (w.heap.size + 1 + 1) (by simp [hsz0])).congr fun q => by unfold dnG; rw [dnP_zero]; rfl
  have hG2 : GrowN W0.heap.size W2 (.slice (some ⟨w.heap.size + 1, 0, none⟩) 0 0) [] := by
    rw [hW2, ← hsz0]
    exact World.ownsRow.ext (World.ownsRow_made W0 #[] 0 (Nat.le_refl _) (Nat.zero_le _) rfl) (by repeat (first | exact World.Ext.refl _ | exact ⟨_, rfl⟩ | assumption | refine World.Ext.over ?_ _ | refine World.Ext.drewN ?_ _ | refine World.Ext.drew ?_ | refine World.Ext.alloc ?_ _ | refine World.Ext.setCell ?_ (by simp) _))
  have HG := Lib.hid (fun w' (hx : w.Ext w') => hg.ext hx)
  have HSP := Lib.hid ((hg.ext (hx0.trans hx2)).spots (by omega) (by omega))
  have HAT : Hid (∀ w' x y, w.Ext w' → x < W → y < H → Calls Try.prog 149 #[.pointer (some ⟨p, 0, none⟩), .agg #[.int .i64 (x : Nat), .int .i64 (y : Nat)]] w' fun e w'' => e = .returned (.int .i64 (l.getD (y * W + x) 0)) ∧ w'.Ext w'') := fun w' x y hx h1 h2 => (hg.ext hx).at (by omega) (by omega) h1 h2
  have hn : H * W ≤ 256 := Nat.mul_le_mul hH hW
  have HSPR : Hid (∀ (w' : World) (b7 : Nat) (sa : Option Addr) (k : Nat), k < H * W → w.Ext w' → w'.cell? ⟨w.heap.size, 0, none⟩ = some (.pointer (some ⟨p, 0, none⟩)) → w'.cell? ⟨b7, 0, none⟩ = some (.int .i64 (l.getD k 0)) → RowP w' sa [spN W k] →
      Calls Try.prog 192 #[.slice sa 1 1, .bool false, .func (.func 234) #[] #[.pointer (some ⟨w.heap.size, 0, none⟩), .pointer (some ⟨b7, 0, none⟩)]] w' (MapRet w' (lvR W H l (l.getD k 0)) (nbA false) [spN W k])) := fun w' b7 sa k hk hx hc1 hc7 hr => by
    have hbx : ∀ q, lvR W H l (l.getD k 0) q = true → 0 ≤ q.1 ∧ q.1 < W ∧ 0 ≤ q.2 ∧ q.2 < H := fun q hq => by
      unfold lvR at hq
      rw [Bool.and_eq_true, hasB_true] at hq
      exact hq.1
    have hsk := hasB_true.1 (spN_has (W := W) (H := H) hk)
    exact spread_any sa 1 [spN W k] false _ _ _ (boxL 0 0 W H) w' enters_nodes1 hr (by simp) (fun q hq => by simp at hq; subst hq; omega) (fun q hq => by have := hbx q hq; exact boxL_mem (by omega) (by omega) (by omega) (by omega)) (by rw [boxL_len]; omega)
      (fun q hq => by have := hbx q hq; omega) (fun w'' hx' x y _ _ => nodes1_any p _ b7 W H l _ x y w'' (by omega) (by omega) (by omega) (hg.ext (hx.trans hx')) (hx'.cell hc1) (hx'.cell hc7))
  have HGL := Lib.hid hgl
  have HX0 := Lib.hid hx0
  have HX2 := Lib.hid hx2
  have HM2 := Lib.hid hM2
  have HG2 := Lib.hid hG2
  have HD0 : Hid (W0.cell? ⟨w.heap.size, 0, none⟩ = some (.pointer (some ⟨p, 0, none⟩))) := by rw [hW0]; show _ = _; simp [go_sem]
  have hmm := @run_makeMap Try.prog
  have l1 := World.block_lt_of_cell? _ _ d1
  have HBL : Hid ((boxL 0 0 W H).length < maxLen) := by show _ < _; rw [boxL_len]; unfold maxLen; omega
  have HBM : Hid (∀ q : Int × Int, hasB W H q.1 q.2 = true → q ∈ boxL 0 0 W H) := fun q hq => by
    rw [hasB_true] at hq
    exact boxL_mem (by omega) (by omega) (by omega) (by omega)
  rw [hW0] at hW2
  clear hg hgl hx0 hx2 hM2 hG2
  go_enter Try.func211, Try.ntmps211
  go_wp2_with fail
  rw [← hW2]
  clear hmm hW0 hW2
  refine HSP.out.mono ?_
  rintro e w3 ⟨a14, c14, rfl, hx3, ho3⟩
  obtain ⟨n, hnn⟩ : ∃ n, n = H * W := ⟨_, rfl⟩
  rw [gridP_len, ← hnn]
  have HS3 : Hid (NdSt W0 (w.heap.size + 1 + 1) a14 W H l (.slice (some ⟨w.heap.size + 1, 0, none⟩) 0 0) (dnP W H l 0) [] w3) := {
    x := HX2.out.trans hx3
    row := ho3.row
    rb := fun b o e => by
      obtain ⟨b2, o2, e1, q1, q2, -⟩ := ho3 0 (by rw [flatP_len, gridP_len, ← hnn]; have := Nat.mul_pos (show 0 < H by omega) (show 0 < W by omega); omega)
      rw [e] at e1
      simp only [Option.some.injEq, Addr.mk.injEq, and_true] at e1
      obtain ⟨rfl, -⟩ := e1
      refine ⟨by omega, q2, by omega, ?_⟩
      simp only [Value.ownBlock, ne_eq, Option.some.injEq]
      omega
    map := HM2.out.ext hx3
    lo := by omega
    out := World.ownsRow.ext HG2.out hx3
    par := fun d hd => by cases hd }
  have HNN := Lib.hid hnn
  have hn0 : 0 < n := by rw [hnn]; exact Nat.mul_pos (by omega) (by omega)
  clear hx3 ho3 HSP HM2 HG2 hnn
  rw [← HNN.out] at hn
  have HF0 : Hid (([] : List NdV).map (ndKey W) = foundTo W H l 0) := rfl
  go_wp2
  go_loopw [3, 16] (fun v i wr => ∃ (k : Nat) (ds : List NdV), k ≤ n ∧ i = .int .i64 k ∧ Hid (ds.map (ndKey W) = foundTo W H l k) ∧ Hid (NdSt W0 (w.heap.size + 1 + 1) a14 W H l v (dnP W H l k) ds wr)) (fun _ i _ => n - (intOf i).toNat)
  case atStart => exact ⟨0, [], Nat.zero_le _, rfl, HF0, HS3⟩
  case round =>
    clear HS3 HF0
    obtain ⟨k, ds, hk, rfl, HF, HS⟩ := hrel
    obtain ⟨wo, rfl⟩ : ∃ wo : World, wo = wr := ⟨_, rfl⟩
    have HXW : Hid (w.Ext wo) := HX0.out.trans HS.out.x
    have hc1 := HS.out.x.cell HD0.out
    by_cases hltk : k < n
    · have hltk' : (k : Int) < (n : Int) := by omega
      have hk0 : (0 : Int) ≤ (k : Int) := by omega
      have hkn : k < H * W := by rw [← HNN.out]; exact hltk
      have hkW : k % W < W := Nat.mod_lt _ (by omega)
      have hkH : k / W < H := by rw [Nat.div_lt_iff_lt_mul (by omega)]; exact hkn
      obtain ⟨b0, o0, rfl, c0, c1⟩ := RowP.at HS.out.row (show k < (gridP W H).length by rw [gridP_len]; exact hkn)
      rw [gridP_at hkn] at c0 c1
      have HKE : Hid (k / W * W + k % W = k) := by show _ = _; rw [Nat.mul_comm]; exact Nat.div_add_mod _ _
      have HSK : Hid (spN W k = (((k % W : Nat) : Int), ((k / W : Nat) : Int))) := rfl
      have HDK : Hid (dnP W H l k (((k % W : Nat) : Int), ((k / W : Nat) : Int)) = doneB W H l k k) := dnP_at hkn
      have hATK : Hid (∀ w', w.Ext w' → Calls Try.prog 149 #[.pointer (some ⟨p, 0, none⟩), .agg #[.int .i64 ((k % W : Nat) : Int), .int .i64 ((k / W : Nat) : Int)]] w' fun e w'' => e = .returned (.int .i64 (l.getD k 0)) ∧ w'.Ext w'') := fun w' hx => by
        have h := HAT.out w' (k % W) (k / W) hx hkW hkH
        rw [HKE.out] at h
        exact h
      have HSC := Lib.hid (fun w' b7 sa => HSPR.out w' b7 sa k hkn)
      rw [HSK.out] at HSC
      have hxm : ((k % W : Nat) : Int) ≤ 64 := by omega
      have hym : ((k / W : Nat) : Int) ≤ 64 := by omega
      have HKN := Lib.hid hkn
      clear hkW hkH hkn HKE
      generalize k % W = x at *
      generalize k / W = y at *
      obtain ⟨w4, hw4⟩ : ∃ w4, w4 = wo.alloc (.cells #[.int .i64 x, .int .i64 y] 45) := ⟨_, rfl⟩
      have hx4 : wo.Ext w4 := by rw [hw4]; repeat (first | exact World.Ext.refl _ | exact ⟨_, rfl⟩ | assumption | refine World.Ext.over ?_ _ | refine World.Ext.drewN ?_ _ | refine World.Ext.drew ?_ | refine World.Ext.alloc ?_ _ | refine World.Ext.setCell ?_ (by simp) _)
      have s0 : w4.cell? ⟨wo.heap.size, 0, none⟩ = some (.int .i64 x) := by rw [hw4]; simp [go_sem]
      have s1 : w4.cell? ⟨wo.heap.size, 1, none⟩ = some (.int .i64 y) := by rw [hw4]; simp [go_sem]
      have HS4 := Lib.hid (HS.out.ext hx4)
      have hlook := HS4.out.map.lookD (x := x) (y := y) (by omega) (by omega)
      rw [HDK.out] at hlook
      have hc14 := hx4.cell hc1
      have HX4 := Lib.hid (HXW.out.trans hx4)
      have ls := World.block_lt_of_cell? _ _ s0
      have lc := World.block_lt_of_cell? _ _ hc14
      have hsz4 : wo.heap.size < w4.heap.size := by rw [hw4]; simp
      clear hx4 hc1 HDK HS HXW
      cases hdn : doneB W H l k k
      · rw [hdn] at hlook
        have HFM := Lib.hid (found_more hdn)
        have HMD : Hid (∀ m, mnN W H l (l.getD k 0) k = m → foundTo W H l (k + 1) = foundTo W H l k ++ [((l.getD k 0).toNat, m)]) := fun m hm => by rw [HFM.out, hm]
        have hl0_ := (HGL.out k HKN.out).1
        obtain ⟨lev, hlev⟩ : ∃ lev, l.getD k 0 = lev := ⟨_, rfl⟩
        have HLEV := Lib.hid hlev
        rw [hlev] at hATK HSC
        have HATK := hATK
        clear hlev hATK HFM
        go_upto_region 5 with fail
        rw [← hw4]
        clear hw4 c0 c1 hdn
        go_wp2_with fail
        refine (HATK.out w4 HX4.out).mono ?_
        rintro e w5 ⟨rfl, hx5⟩
        obtain ⟨w7, hw7⟩ : ∃ w7, w7 = (w5.alloc (.cells #[.int .i64 lev] 2)).alloc (.cells #[.int .i64 x, .int .i64 y] 45) := ⟨_, rfl⟩
        have hx7 : w5.Ext w7 := by rw [hw7]; repeat (first | exact World.Ext.refl _ | exact ⟨_, rfl⟩ | assumption | refine World.Ext.over ?_ _ | refine World.Ext.drewN ?_ _ | refine World.Ext.drew ?_ | refine World.Ext.alloc ?_ _ | refine World.Ext.setCell ?_ (by simp) _)
        have q7 : w7.cell? ⟨w5.heap.size, 0, none⟩ = some (.int .i64 lev) := by rw [hw7]; simp [go_sem]
        have hrow : RowP w7 (some ⟨w5.heap.size + 1, 0, none⟩) [((x : Int), (y : Int))] := by
          intro i hi
          have hi2 : i < 2 := hi
          refine ⟨w5.heap.size + 1, 0, rfl, ?_⟩
          rw [hw7]
          match i, hi2 with
          | 0, _ => simp [go_sem, flatP]
          | 1, _ => simp [go_sem, flatP]
        have X47 : w4.Ext w7 := hx5.trans hx7
        have HC := Lib.hid (HSC.out w7 w5.heap.size _ (HX4.out.trans X47) (X47.cell hc14) q7 hrow)
        have s0' := hx5.cell s0
        have s1' := hx5.cell s1
        have ls5 := World.block_lt_of_cell? _ _ s0'
        have hszs := hx5.size
        have H47 := Lib.hid X47
        have HQ7 := Lib.hid q7
        have HS0 := Lib.hid (And.intro s0 s1)
        have HC1 := Lib.hid hc14
        have hsz7 : w7.heap.size = w5.heap.size + 2 := by rw [hw7]; simp
        clear hx7 hx5 q7 hrow HSC X47 s0 s1 hc14 ls lc hlook
        go_wp2_with fail
        rw [← hw7]
        clear hw7 s0' s1' ls5
        refine HC.out.mono ?_
        rintro e w8 ⟨bm2, es, rfl, hx8, hlo8, hM8, hnd8, hes8⟩
        have hbm2 : bm2 < w8.heap.size := hM8.lt
        have r7 := hx8.cell HQ7.out
        have r0 := (H47.out.trans hx8).cell HS0.out.1
        have r1 := (H47.out.trans hx8).cell HS0.out.2
        have lr7 := World.block_lt_of_cell? _ _ r7
        have lr0 := World.block_lt_of_cell? _ _ r0
        have H48 := Lib.hid (H47.out.trans hx8)
        obtain ⟨w10, hw10⟩ : ∃ w10, w10 = w8.alloc (.cells #[.int .i64 lev, .int .i64 x, .int .i64 y, .map (some bm2)] 243) := ⟨_, rfl⟩
        have hx10 : w8.Ext w10 := by rw [hw10]; repeat (first | exact World.Ext.refl _ | exact ⟨_, rfl⟩ | assumption | refine World.Ext.over ?_ _ | refine World.Ext.drewN ?_ _ | refine World.Ext.drew ?_ | refine World.Ext.alloc ?_ _ | refine World.Ext.setCell ?_ (by simp) _)
        have hsz10 : w10.heap.size = w8.heap.size + 1 := by rw [hw10]; simp
        have HB10 : Hid (Nbx w10 w8.heap.size lev x y bm2) := by rw [hw10]; exact Nbx.new _ _ _ _ _ rfl
        have HM10 := Lib.hid (hM8.ext hx10)
        have HES : Hid (∀ p, p ∈ es ↔ Rch (lvR W H l (l.getD k 0)) (nbA false) [spN W k] p) := by rw [HLEV.out, HSK.out]; exact hes8
        have HND := Lib.hid hnd8
        have H410 := Lib.hid (H48.out.trans hx10)
        have H710 := Lib.hid (hx8.trans hx10)
        have h5b : w5.heap.size < w8.heap.size := by have := hx8.size; omega
        have hs48 := H48.out.size
        clear hx8 hM8 hnd8 hes8 hx10 HC H47 H48
        go_upto_region 9 with fail
        rw [← hw10]
        clear hw10 r7 r0 r1 lr7 lr0
        go_wp2_with (at_range; refine wpList_range_S _ rfl _ 229 rfl 45 4 boolMap bm2 (mapG es) rfl HM10.out (fun w11 cnt hrg hg11 hsz11 => ?_))
        have hx11 : w10.Ext w11 := World.Ext.made hg11
        have H411 := Lib.hid (H410.out.trans hx11)
        have HS11 := Lib.hid (HS4.out.ext H411.out)
        have hes0 : ∀ q, q ∈ es → (mapG es q).isSome = true := fun q hq => by obtain ⟨v, hv⟩ := (mapG_in q).2 hq; rw [hv]; rfl
        have HR11 : Hid (RgSt w11 (w.heap.size + 1 + 1) w10.heap.size w8.heap.size bm2 W H l k es (fun p => (mapG es p).isSome) cnt k w11) := {
          wrote := Wrote.refl _ _
          map := HS11.out.map.congr fun q => by unfold dnG; rw [dnL_start hes0]
          rg := hrg
          box := by rw [HLEV.out, HSK.out]; exact HB10.out.ext hx11
          mn := MinL.start hes0 }
        have hs11 := hx11.size
        have hmlt := HS4.out.map.lt
        have hA4 := HS4.out.x.size
        have hmd : w.heap.size + 1 + 1 ≠ bm2 := by omega
        have HDB : Hid (∀ d, d ∈ ds → d.2.2.2 < w4.heap.size) := fun d hd => (HS4.out.par d hd).2.2.2.lt
        have HVB : Hid (∀ q, u3.ownBlock = some q → q < w4.heap.size) := fun q hq => (World.ownsRow.lt HS4.out.out q hq).2
        have HRB : Hid (b0 < w4.heap.size ∧ b0 ≠ w.heap.size + 1 + 1) := by obtain ⟨-, a2, a3, -⟩ := HS4.out.rb b0 o0 rfl; exact ⟨a2, a3⟩
        have hdl : ds.length ≤ 256 := by have h := congrArg List.length HF.out; rw [List.length_map] at h; have := found_len (W := W) (H := H) (l := l) (k := k); omega
        have H711 := Lib.hid (H710.out.trans hx11)
        clear hrg hg11 hx11 HM10 HB10 H410 hes0 H710
        obtain ⟨b9, hb9⟩ : ∃ b9, b9 = w8.heap.size := ⟨_, rfl⟩
        obtain ⟨r, hr⟩ : ∃ r, r = w10.heap.size := ⟨_, rfl⟩
        rw [← hb9, ← hr] at HR11
        have hbm9 : bm2 ≠ b9 := by omega
        have hbr : bm2 ≠ r := by omega
        have hb9r : b9 ≠ r := by omega
        have hd9 : w.heap.size + 1 + 1 ≠ b9 := by omega
        have hdr : w.heap.size + 1 + 1 ≠ r := by omega
        have hb94 : w4.heap.size ≤ b9 := by omega
        have h45 : w4.heap.size ≤ w5.heap.size := by omega
        have h59 : w5.heap.size < b9 := by omega
        have h5r : w5.heap.size < r := by omega
        have h511 : w5.heap.size < w11.heap.size := by omega
        have hr4 : w4.heap.size ≤ r := by omega
        have hb211 : bm2 < w11.heap.size := by omega
        have hb2A : W0.heap.size ≤ bm2 := by omega
        have h9A : W0.heap.size ≤ b9 := by omega
        have hrA : W0.heap.size ≤ r := by omega
        have h11A : W0.heap.size ≤ w11.heap.size := by omega
        rw [← hb9, ← hr]
        clear hb9 hr hlo8 hbm2 hs11 hs48 hszs hsz7 hsz10 hsz11
        go_wp2
        go_frame
        go_loopw [10] (fun _ wr => ∃ (left : Int × Int → Bool) (cnt m : Nat), Hid (RgSt w11 (w.heap.size + 1 + 1) r b9 bm2 W H l k es left cnt m wr)) (fun _ wr => wr.rangeLeft bm2 r)
        case atStart => exact ⟨_, _, _, HR11⟩
        case round =>
          clear HR11
          obtain ⟨left, cnt, m, HRS⟩ := hrel
          obtain ⟨wp, rfl⟩ : ∃ wp : World, wp = wr := ⟨_, rfl⟩
          go_wp2_with (at_next; refine wpList_next_S _ rfl _ rfl 45 bm2 r (mapG es) left cnt rfl HRS.out.rg ?_ ?_)
          · intro hl0
            have hl0' : ∀ p, left p = false := fun ⟨a, b⟩ => hl0 a b
            have hm := HRS.out.mn.done HKN.out hl0' HES.out
            obtain ⟨q1, q2, -⟩ := mnN_spec (W := W) (H := H) (l := l) HKN.out (Int.le_refl (l.getD k 0))
            rw [hm] at q1 q2
            have hmn : m < H * W := Nat.lt_of_le_of_lt q1 HKN.out
            have HFD := Lib.hid (HMD.out m hm)
            have HSP := Lib.hid (HS11.out.keep (D' := dnP W H l (k + 1)) HRS.out.wrote (fun q hs => by rcases hs with h | h | h | h <;> omega)
              (fun b o e hs => by
                simp only [Option.some.injEq, Addr.mk.injEq, and_true] at e
                obtain ⟨rfl, -⟩ := e
                have h1 := HRB.out
                have h411s := H411.out.size
                rcases hs with h | h | h | h <;> omega)
              (fun q e hs => by
                have h1 := HVB.out q e
                have h2 := MapS.neRow HS11.out.map HS11.out.out
                have h411s := H411.out.size
                rcases hs with h | h | h | h
                · subst h; exact h2 e.symm
                · omega
                · omega
                · omega)
              (fun d hd hs => by
                have h1 := HDB.out d hd
                have h2 := (HS11.out.par d hd).2.2.1
                have h411s := H411.out.size
                rcases hs with h | h | h | h
                · exact h2 h
                · omega
                · omega
                · omega)
              (HRS.out.map.congr fun q => by unfold dnG; rw [dnL_done HKN.out hl0' HES.out]))
            have HPT : Hid (PartAt wp bm2 W H l lev m) := by
              refine ⟨es, HRS.out.rg.map, HND.out, fun p => (HES.out p).trans ?_⟩
              rw [← HLEV.out]
              exact ⟨fun h => rchTrans q2.symm h, fun h => rchTrans q2 h⟩
            have HBX := HRS.out.box
            rw [HLEV.out] at HBX
            obtain ⟨b90, b91, b92, b93⟩ := HBX.cells
            have lb9 := World.block_lt_of_cell? _ _ b90
            have hown : wp.ownsRow W0.heap.size 243 4 u3 ds.length (ds.flatMap encNd) := HSP.out.out
            have hlo := HSP.out.x.size
            have HLE : Hid (∀ o : Obj, W0.heap.size ≤ (wp.alloc o).heap.size) := fun o => by simp; omega
            have HB1 : Hid (ds.length + 1 ≤ maxLen) := by show _ ≤ _; unfold maxLen; omega
            have HB2 : Hid ((ds.length + 1) * 32 ≤ 140737488355328) := by show _ ≤ _; omega
            have hlev0 : 0 ≤ lev := by rw [← HLEV.out]; exact hl0_
            have HNX : Hid (∀ (o : Obj) (v' : Value) (w1 : World), (wp.alloc o).grownBy w1 u3.ownBlock → w1.ownsRow W0.heap.size 243 4 v' (ds.length + 1) (ds.flatMap encNd ++ [.int .i64 lev, .int .i64 (spN W m).1, .int .i64 (spN W m).2, .map (some bm2)]) → (v'.ownBlock = u3.ownBlock ∨ v'.ownBlock = some (wp.alloc o).heap.size) → NdSt W0 (w.heap.size + 1 + 1) (some ⟨b0, o0, none⟩) W H l v' (dnP W H l (k + 1)) (ds ++ [(lev, (spN W m).1, (spN W m).2, bm2)]) w1) := fun o v' w1 hg ho hat =>
              HSP.out.push (d := (lev, (spN W m).1, (spN W m).2, bm2)) (World.Ext.alloc (.refl _) o) hg ho hat (NdIs.mk' hlev0 hmn) hb2A (fun e => hmd e.symm) (by rw [ndKey_mk hlev0]; exact HPT.out)
            have HFN : Hid ((ds ++ [(lev, (spN W m).1, (spN W m).2, bm2)]).map (ndKey W) = foundTo W H l (k + 1)) := by
              show _ = _
              rw [HFD.out, List.map_append, HF.out, HLEV.out]
              simp only [List.map_cons, List.map_nil, ndKey_mk hlev0]
            clear HBX hl0 hl0' hm q1 q2 HSP HPT HFD hlo
            go_wp2_with (at_builtin; refine wpList_append_own_at _ rfl _ _ 240 rfl W0.heap.size 243 iw (.agg #[.int .i64 0, .int .i64 0, .int .i64 0, .map none]) 4 32 Try.underlying240 hiw hz0 hz1 hz2 rfl (by decide) _ _ _ rfl (hown.alloc _) ⟨wp.heap.size, 0, none⟩ 1 1 [.int .i64 lev, .int .i64 (spN W m).1, .int .i64 (spN W m).2, .map (some bm2)] rfl rfl (cell_four_new _ _ _ _ _ _) (by simp [Value.oneCell']) HB1.out HB2.out (HLE.out _) (fun v' w1 hown' hgrow _ hat => ?_); have HS9 := Lib.hid (HNX.out _ _ _ hgrow hown' hat); clear hgrow hown' hown hat)
            go_roundw
            case rel => exact ⟨k + 1, _, by omega, by go_num, HFN, HS9⟩
            case measure => simp [intOf]; omega
          · intro x2 y2 v2 w12 cnt2 hlx hat hrg2 hlt2 hg12 hsz12 hen
            have hin := (mapG_in (x2, y2)).1 ⟨v2, hat⟩
            have hlv := ((HES.out _).1 hin).right
            obtain ⟨j, hj, hxj⟩ := lvR_box hlv
            have HXJ := Lib.hid hxj
            have HORD : Hid (ordJ (x2, y2) ((spN W m).1, (spN W m).2) < 0 ↔ j < m) := by
              show _ ↔ _
              rw [hxj]
              exact spN_ord (by omega)
            have HLESS : Hid (j < m → MinL W H es (fun q => left q && !(q == spN W j)) k j) := fun h => HRS.out.mn.less (by rw [← hxj]; exact hin) h
            have HMORE : Hid (m ≤ j → MinL W H es (fun q => left q && !(q == spN W j)) k m) := fun h => HRS.out.mn.more h
            have hjW : j % W < W := Nat.mod_lt _ (by omega)
            have hjH : j / W < H := by rw [Nat.div_lt_iff_lt_mul (by omega)]; exact hj
            have hx2j : x2 = ((j % W : Nat) : Int) := congrArg Prod.fst hxj
            have hy2j : y2 = ((j / W : Nat) : Int) := congrArg Prod.snd hxj
            have hjE : j / W * W + j % W = j := by rw [Nat.mul_comm]; exact Nat.div_add_mod _ _
            have HAJ : Hid (∀ w', w.Ext w' → Calls Try.prog 149 #[.pointer (some ⟨p, 0, none⟩), .agg #[.int .i64 x2, .int .i64 y2]] w' fun e w'' => e = .returned (.int .i64 (l.getD j 0)) ∧ w'.Ext w'') := fun w' hx => by
              have h := HAT.out w' (j % W) (j / W) hx hjW hjH
              rw [hjE, ← hx2j, ← hy2j] at h
              exact h
            have hv2 : nbV W l x2 y2 = l.getD j 0 := by
              unfold nbV
              have := spN_idx (W := W) (j := j)
              rw [← hxj] at this
              rw [this]
            have hxb : 0 ≤ x2 ∧ x2 ≤ 64 ∧ 0 ≤ y2 ∧ y2 ≤ 64 := by
              rw [hx2j, hy2j]
              exact ⟨Int.natCast_nonneg _, Int.le_trans (Int.ofNat_le.2 (Nat.le_trans (Nat.le_of_lt hjW) hW)) (by decide), Int.natCast_nonneg _, Int.le_trans (Int.ofNat_le.2 (Nat.le_trans (Nat.le_of_lt hjH) hH)) (by decide)⟩
            obtain ⟨hx20, hx21, hy20, hy21⟩ := hxb
            have HSTEP : Hid (l.getD j 0 = lev → ∀ q, (if q = (x2, y2) then some (Value.bool true) else dnG (dnL W H l k es left) q) = dnG (dnL W H l k es (fun q => left q && !(q == (x2, y2)))) q) := fun h q => dnG_step hin (show nbV W l x2 y2 = l.getD k 0 by rw [hv2, HLEV.out]; exact h) q
            have HSAME : Hid (l.getD j 0 ≠ lev → ∀ q, dnG (dnL W H l k es left) q = dnG (dnL W H l k es (fun q => left q && !(q == (x2, y2)))) q) := fun h q => dnG_same (show nbV W l x2 y2 ≠ l.getD k 0 by rw [hv2, HLEV.out]; exact h) q
            have HLL : Hid (∀ q v, dnG (dnL W H l k es left) q = some v → q ∈ boxL 0 0 W H) := fun q v h => by
              refine HBM.out q ?_
              unfold dnG at h
              cases hd : dnL W H l k es left q
              · rw [hd] at h; cases h
              · unfold dnL at hd
                rw [Bool.or_eq_true, Bool.and_eq_true, decide_eq_true_iff] at hd
                rcases hd with hd | hd
                · unfold dnP at hd
                  rw [Bool.and_eq_true] at hd
                  exact hd.1
                · have h2 := ((HES.out q).1 hd.1).right
                  unfold lvR at h2
                  rw [Bool.and_eq_true] at h2
                  exact h2.1
            have HKEY := Lib.hid (spotKeyOf (p := (x2, y2)) (spotWf (by omega) (by omega)))
            have HW12 : Hid (Wrote (fun q => q = w.heap.size + 1 + 1 ∨ q = r ∨ q = b9 ∨ w11.heap.size ≤ q) w11 w12) := HRS.out.wrote.trans ⟨hg12.os, hg12.tape, hg12.output, hg12.size, fun i hi hs => hg12.block i hi fun e => hs (by cases e; exact .inr (.inl rfl))⟩
            have HM12 := Lib.hid (HRS.out.map.grown hg12 (by simp only [ne_eq, Option.some.injEq]; exact hdr))
            have HBB : Hid (Nbx w12 b9 lev (spN W m).1 (spN W m).2 bm2) := by
              have h := HRS.out.box
              rw [HLEV.out] at h
              exact h.keep (hg12.block _ h.lt (by simp only [ne_eq, Option.some.injEq]; exact hb9r))
            have HRG := Lib.hid hrg2
            have HLT := Lib.hid hlt2
            have hsz12' : w11.heap.size ≤ w12.heap.size := HW12.out.size
            obtain ⟨w13, hw13⟩ : ∃ w13, w13 = w12.alloc (.cells #[.int .i64 x2, .int .i64 y2] 45) := ⟨_, rfl⟩
            have hx13 : w12.Ext w13 := by rw [hw13]; repeat (first | exact World.Ext.refl _ | exact ⟨_, rfl⟩ | assumption | refine World.Ext.over ?_ _ | refine World.Ext.drewN ?_ _ | refine World.Ext.drew ?_ | refine World.Ext.alloc ?_ _ | refine World.Ext.setCell ?_ (by simp) _)
            have t0 : w13.cell? ⟨w12.heap.size, 0, none⟩ = some (.int .i64 x2) := by rw [hw13]; simp [go_sem]
            have t1 : w13.cell? ⟨w12.heap.size, 1, none⟩ = some (.int .i64 y2) := by rw [hw13]; simp [go_sem]
            have HX13 := Lib.hid hx13
            have HWE : Hid (w.Ext w12) := (HX4.out.trans H411.out).wroteNew HW12.out fun q hq hs => by rcases hs with h | h | h | h <;> omega
            have e1 := hx13.cell (HW12.out.cell (H411.out.cell HC1.out) (by simp only; omega))
            have e7 := hx13.cell (HW12.out.cell (H711.out.cell HQ7.out) (by simp only; omega))
            have le1 := World.block_lt_of_cell? _ _ e1
            have le7 := World.block_lt_of_cell? _ _ e7
            have lt0 := World.block_lt_of_cell? _ _ t0
            have h411s := H411.out.size
            have hd12 : w12.heap.size ≠ w.heap.size + 1 + 1 := by omega
            have HM13 := Lib.hid (HM12.out.ext hx13)
            have HB13 := Lib.hid (HBB.out.ext hx13)
            have HR13 := Lib.hid (HRG.out.ext hx13)
            have HW13 := Lib.hid (HW12.out.trans (hx13.wrote _))
            clear hin hlv hj hxj hjW hjH hx2j hy2j hjE hv2 hrg2 hlt2 hat hlx hg12 hsz12 hx13 HM12 HBB HRG HW12 hx20 hx21 hy20 hy21
            generalize l.getD j 0 = z at *
            go_upto_region 12 with fail
            rw [← hw13]
            clear hw13 hen
            refine wp_region_over_lit (by kernel_rfl) (by kernel_rfl) ?_; (repeat (go_big_quiet_step ((go_at_call 149; exact Calls.over_of (HAJ.out _ (HWE.out.trans (HX13.out.trans ⟨_, rfl⟩))))))); refine wpQuiet_nil ?_; rintro _ ⟨x1, rfl⟩
            have hxo : w13.Ext (w13.over x1) := ⟨x1, rfl⟩
            have p0 := hxo.cell t0
            have p1 := hxo.cell t1
            have HM14 := Lib.hid (HM13.out.ext hxo)
            have HB14 := Lib.hid (HB13.out.ext hxo)
            have HR14 := Lib.hid (HR13.out.ext hxo)
            have HW14 := Lib.hid (HW13.out.trans (hxo.wrote _))
            clear hxo t0 t1 lt0 e1 e7 le1 le7 HM13 HB13 HR13 HW13 HX13 HWE HAJ
            generalize w13.over x1 = w14 at *
            have lp := World.block_lt_of_cell? _ _ p0
            by_cases hz : z = lev
            · have HST := Lib.hid (HSTEP.out hz)
              have HUP : Hid (∀ w15, MapS w15 Try.prog 45 (w.heap.size + 1 + 1) (fun q => if q = (x2, y2) then some (Value.bool true) else dnG (dnL W H l k es left) q) → w14.grownBy w15 (some (w.heap.size + 1 + 1)) →
                  Hid (Wrote (fun q => q = w.heap.size + 1 + 1 ∨ q = r ∨ q = b9 ∨ w11.heap.size ≤ q) w11 w15) ∧ Hid (MapS w15 Try.prog 45 (w.heap.size + 1 + 1) (dnG (dnL W H l k es (fun q => left q && !(q == (x2, y2)))))) ∧ Hid (RangeS w15 Try.prog 45 bm2 r (mapG es) (fun q => left q && !(q == (x2, y2))) cnt2) ∧ Hid (Nbx w15 b9 lev (spN W m).1 (spN W m).2 bm2) ∧ w15.cell? ⟨w12.heap.size, 0, none⟩ = some (.int .i64 x2) ∧ w15.cell? ⟨w12.heap.size, 1, none⟩ = some (.int .i64 y2)) := fun w15 hm hg =>
                ⟨HW14.out.trans ⟨hg.os, hg.tape, hg.output, hg.size, fun i hi hs => hg.block i hi fun e => hs (by cases e; exact .inl rfl)⟩, hm.congr HST.out, HR14.out.grown hg (by simp only [ne_eq, Option.some.injEq]; omega) (by simp only [ne_eq, Option.some.injEq]; omega), HB14.out.keep (hg.block _ HB14.out.lt (by simp only [ne_eq, Option.some.injEq]; omega)),
                  hg.cell p0 (by simp only [ne_eq, Option.some.injEq]; exact hd12), hg.cell p1 (by simp only [ne_eq, Option.some.injEq]; exact hd12)⟩
              subst hz
              clear HSTEP HSAME HST
              go_wp2_with (at_mapUpdate; refine wpList_mapUpdate_S _ rfl _ _ _ 229 rfl 45 4 Try.spotKey boolMap (w.heap.size + 1 + 1) (dnG (dnL W H l k es left)) rfl HM14.out (boxL 0 0 W H) HLL.out HBL.out (x2, y2) _ (.bool true) rfl rfl HKEY.out (fun w15 hm15 hg15 => ?_); clear p0 p1 lp; obtain ⟨HWX, HMX, HRX, HBX, p0, p1⟩ := HUP.out w15 hm15 hg15; obtain ⟨b90, b91, b92, b93⟩ := HBX.out.cells; have lb9 := World.block_lt_of_cell? _ _ b90; have lp := World.block_lt_of_cell? _ _ p0; clear hm15 hg15 HUP HM14 HB14 HR14 HW14)
              refine (spotOrder_ext x2 y2 (spN W m).1 (spN W m).2 _).mono ?_
              rintro e wz ⟨rfl, hxz⟩
              have hpz := And.intro (hxz.cell p0) (hxz.cell p1)
              have HZ1 := Lib.hid (HWX.out.trans (hxz.wrote _))
              have HZ2 := Lib.hid (HMX.out.ext hxz)
              have HZ3 := Lib.hid (HRX.out.ext hxz)
              have HZ4 := Lib.hid (HBX.out.ext hxz)
              clear p0 p1 lp
              obtain ⟨p0, p1⟩ := hpz
              clear hxz HWX HMX HRX HBX b90 b91 b92 b93 lb9
              have lp := World.block_lt_of_cell? _ _ p0
              by_cases hjm : j < m
              · have HOL := Lib.hid (HORD.out.2 hjm)
                have hol := HOL.out
                have HMN := Lib.hid (HLESS.out hjm)
                obtain ⟨b90, b91, b92, b93⟩ := HZ4.out.cells
                have lb9 := World.block_lt_of_cell? _ _ b91
                have fb1 := HZ4.out.free 1
                have fb2 := HZ4.out.free 2
                have HFIN : Hid (RgSt w11 (w.heap.size + 1 + 1) r b9 bm2 W H l k es (fun q => left q && !(q == (x2, y2))) cnt2 j ((wz.setCell ⟨b9, 1, none⟩ (.int .i64 x2)).setCell ⟨b9, 2, none⟩ (.int .i64 y2))) := {
                  wrote := (HZ1.out.setCell (p := ⟨b9, 1, none⟩) (.inr (.inr (.inl rfl))) _).setCell (p := ⟨b9, 2, none⟩) (.inr (.inr (.inl rfl))) _
                  map := (HZ2.out.keep (by rw [Below.heap_setCell _ _ _ _ (by simp only; omega), Below.heap_setCell _ _ _ _ (by simp only; omega)]))
                  rg := (HZ3.out.setCell (a := ⟨b9, 1, none⟩) (by simp only; omega) (by simp only; omega) _).setCell (a := ⟨b9, 2, none⟩) (by simp only; omega) (by simp only; omega) _
                  box := by
                    have h := HZ4.out.put x2 y2
                    have e : spN W j = (x2, y2) := HXJ.out.symm
                    rw [e]
                    rw [← HLEV.out] at h
                    exact h
                  mn := by have e := HXJ.out; rw [e]; exact HMN.out }
                clear HZ1 HZ2 HZ3 HZ4 HMN HORD HLESS HMORE HOL
                generalize ordJ (x2, y2) ((spN W m).1, (spN W m).2) = od at *
                go_wp2
                go_roundw
                case rel => first | exact ⟨_, cnt2, j, HFIN⟩ | exact ⟨_, ⟨cnt2, j, HFIN⟩⟩
                case measure => rw [HFIN.out.rg.left_eq, HRS.out.rg.left_eq]; exact HLT.out
              · have HOL : Hid (¬ ordJ (x2, y2) ((spN W m).1, (spN W m).2) < 0) := fun h => hjm (HORD.out.1 h)
                have hol := HOL.out
                have HMN := Lib.hid (HMORE.out (by omega))
                have HFIN : Hid (RgSt w11 (w.heap.size + 1 + 1) r b9 bm2 W H l k es (fun q => left q && !(q == (x2, y2))) cnt2 m wz) := {
                  wrote := HZ1.out
                  map := HZ2.out
                  rg := HZ3.out
                  box := by have h := HZ4.out; rw [← HLEV.out] at h; exact h
                  mn := by have e := HXJ.out; rw [e]; exact HMN.out }
                clear HZ1 HZ2 HZ3 HZ4 HMN HORD HLESS HMORE HOL
                generalize ordJ (x2, y2) ((spN W m).1, (spN W m).2) = od at *
                go_wp2
                go_roundw
                case rel => first | exact ⟨_, cnt2, m, HFIN⟩ | exact ⟨_, ⟨cnt2, m, HFIN⟩⟩
                case measure => rw [HFIN.out.rg.left_eq, HRS.out.rg.left_eq]; exact HLT.out
            · have HMX := Lib.hid (HM14.out.congr (HSAME.out hz))
              have HWX := HW14
              have HRX := HR14
              have HBX := HB14
              obtain ⟨b90, b91, b92, b93⟩ := HBX.out.cells
              have lb9 := World.block_lt_of_cell? _ _ b90
              have hzb : (z == lev) = false := by simpa using hz
              clear HSTEP HSAME HM14 HW14 HR14 HB14 hz
              go_wp2_with fail
              refine (spotOrder_ext x2 y2 (spN W m).1 (spN W m).2 _).mono ?_
              rintro e wz ⟨rfl, hxz⟩
              have hpz := And.intro (hxz.cell p0) (hxz.cell p1)
              have HZ1 := Lib.hid (HWX.out.trans (hxz.wrote _))
              have HZ2 := Lib.hid (HMX.out.ext hxz)
              have HZ3 := Lib.hid (HRX.out.ext hxz)
              have HZ4 := Lib.hid (HBX.out.ext hxz)
              clear p0 p1 lp
              obtain ⟨p0, p1⟩ := hpz
              clear hxz HWX HMX HRX HBX b90 b91 b92 b93 lb9
              have lp := World.block_lt_of_cell? _ _ p0
              by_cases hjm : j < m
              · have HOL := Lib.hid (HORD.out.2 hjm)
                have hol := HOL.out
                have HMN := Lib.hid (HLESS.out hjm)
                obtain ⟨b90, b91, b92, b93⟩ := HZ4.out.cells
                have lb9 := World.block_lt_of_cell? _ _ b91
                have fb1 := HZ4.out.free 1
                have fb2 := HZ4.out.free 2
                have HFIN : Hid (RgSt w11 (w.heap.size + 1 + 1) r b9 bm2 W H l k es (fun q => left q && !(q == (x2, y2))) cnt2 j ((wz.setCell ⟨b9, 1, none⟩ (.int .i64 x2)).setCell ⟨b9, 2, none⟩ (.int .i64 y2))) := {
                  wrote := (HZ1.out.setCell (p := ⟨b9, 1, none⟩) (.inr (.inr (.inl rfl))) _).setCell (p := ⟨b9, 2, none⟩) (.inr (.inr (.inl rfl))) _
                  map := (HZ2.out.keep (by rw [Below.heap_setCell _ _ _ _ (by simp only; omega), Below.heap_setCell _ _ _ _ (by simp only; omega)]))
                  rg := (HZ3.out.setCell (a := ⟨b9, 1, none⟩) (by simp only; omega) (by simp only; omega) _).setCell (a := ⟨b9, 2, none⟩) (by simp only; omega) (by simp only; omega) _
                  box := by
                    have h := HZ4.out.put x2 y2
                    have e : spN W j = (x2, y2) := HXJ.out.symm
                    rw [e]
                    rw [← HLEV.out] at h
                    exact h
                  mn := by have e := HXJ.out; rw [e]; exact HMN.out }
                clear HZ1 HZ2 HZ3 HZ4 HMN HORD HLESS HMORE HOL
                generalize ordJ (x2, y2) ((spN W m).1, (spN W m).2) = od at *
                go_wp2
                go_roundw
                case rel => first | exact ⟨_, cnt2, j, HFIN⟩ | exact ⟨_, ⟨cnt2, j, HFIN⟩⟩
                case measure => rw [HFIN.out.rg.left_eq, HRS.out.rg.left_eq]; exact HLT.out
              · have HOL : Hid (¬ ordJ (x2, y2) ((spN W m).1, (spN W m).2) < 0) := fun h => hjm (HORD.out.1 h)
                have hol := HOL.out
                have HMN := Lib.hid (HMORE.out (by omega))
                have HFIN : Hid (RgSt w11 (w.heap.size + 1 + 1) r b9 bm2 W H l k es (fun q => left q && !(q == (x2, y2))) cnt2 m wz) := {
                  wrote := HZ1.out
                  map := HZ2.out
                  rg := HZ3.out
                  box := by have h := HZ4.out; rw [← HLEV.out] at h; exact h
                  mn := by have e := HXJ.out; rw [e]; exact HMN.out }
                clear HZ1 HZ2 HZ3 HZ4 HMN HORD HLESS HMORE HOL
                generalize ordJ (x2, y2) ((spN W m).1, (spN W m).2) = od at *
                go_wp2
                go_roundw
                case rel => first | exact ⟨_, cnt2, m, HFIN⟩ | exact ⟨_, ⟨cnt2, m, HFIN⟩⟩
                case measure => rw [HFIN.out.rg.left_eq, HRS.out.rg.left_eq]; exact HLT.out
      · rw [hdn] at hlook
        have HSN : Hid (NdSt W0 (w.heap.size + 1 + 1) (some ⟨b0, o0, none⟩) W H l u3 (dnP W H l (k + 1)) ds w4) := by
          have e : dnP W H l (k + 1) = dnP W H l k := funext fun q => dnP_skip hdn q
          rw [e]
          exact HS4.out
        have HFN : Hid (ds.map (ndKey W) = foundTo W H l (k + 1)) := by show _ = _; rw [found_skip hdn]; exact HF.out
        clear HF HS4 HSC hATK hdn
        go_upto_region 5 with fail
        rw [← hw4]
        clear hw4 c0 c1
        go_wp2
        go_roundw
        case rel => exact ⟨k + 1, ds, by omega, by go_num, HFN, HSN⟩
        case measure => simp [intOf]; omega
    · have hke : k = n := by omega
      subst hke
      rw [HNN.out] at HF
      have hdl : ds.length = (foundTo W H l (H * W)).length := by rw [← HF.out, List.length_map]
      have hpos : 0 < ds.length := by
        obtain ⟨j, hj, -⟩ := node_of (p := 0) HGL.out (by rw [← HNN.out]; exact hn0)
        have hm := (found_mem HGL.out).2 (getD_memN hj)
        rw [hdl]
        exact List.length_pos_of_mem hm
      have hle : ds.length ≤ 256 := by
        rw [hdl]
        exact Nat.le_trans found_len (by rw [← HNN.out]; exact hn)
      obtain ⟨g, cap, rfl⟩ : ∃ g cap, u3 = .slice (some ⟨g, 0, none⟩) ds.length cap := by
        rcases HS.out.out.2 with ⟨e, e2⟩ | ⟨g, cap, cur, e, -⟩
        · omega
        · exact ⟨g, cap, e⟩
      have HSO := Lib.hid (sortNode_any W0.heap.size g cap ds wo HS.out.out (by omega))
      have hgA := (World.ownsRow.lt HS.out.out g rfl).1
      have HPA := Lib.hid HS.out.par
      have HXO := Lib.hid HS.out.x
      have HOU := Lib.hid HS.out.out
      clear hdl hpos hle HS
      generalize ds.length = N at *
      go_wp2_with fail
      refine HSO.out.mono ?_
      rintro e w9 ⟨rfl, qs, hp, hs, ho, hgr⟩
      have HR : Hid (NodesRet w W H l (.returned (.slice (some ⟨g, 0, none⟩) N cap)) w9) := by
        refine ⟨_, qs, rfl, HX0.out.trans (HXO.out.grown hgr fun q hq => by cases hq; exact hgA), World.ownsRow.mono (show w9.ownsRow W0.heap.size 243 4 _ qs.length (qs.flatMap encNd) from ho) (show w.heap.size ≤ W0.heap.size by omega), nodes_sorted HGL.out HF.out (fun d hd => (HPA.out d hd).1) hp hs, fun d hd => ?_⟩
        obtain ⟨a1, a2, -, a4⟩ := HPA.out d (hp.mem_iff.1 hd)
        refine ⟨a1, by omega, ?_⟩
        obtain ⟨es, q1, q2⟩ := a4
        exact ⟨es, q1.grown hgr (MapS.neRow q1 HOU.out), q2⟩
      clear hp hs ho hgr HSO HOU HPA HXO
      go_wp2
      go_ret
      exact HR.out
end Go.Proofs.Ythgkmaccbcpaeaa

/- The program's tree of a grey picture: the closures over its nodes. -/
namespace Go.Proofs.Ythgkmaccbcpaeaa
open Go Go.RowKit
theorem mapG_lookD {w : World} {b : Nat} {es : List (Int × Int)} (h : MapS w Try.prog 45 b (mapG es)) {x y : Int} (hx : -1000 ≤ x ∧ x ≤ 1000) (hy : -1000 ≤ y ∧ y ≤ 1000) :
    (Instr.lookup 229 (.map (some b)) (.agg #[.int .i64 x, .int .i64 y]) false).run Try.prog w = .ok (.bool (decide ((x, y) ∈ es))) w := by
  have := h.look Try.spotKey boolMap (zeroBool w) (p := (x, y)) (spotKeyOf (spotWf hx hy))
  rw [mapG_val] at this
  exact this
theorem PartAt.look {w : World} {b W H q j : Nat} {l : List Int} {t : Int} (h : PartAt w b W H l t q) (hj : j < H * W) (hW : W ≤ 64) (hH : H ≤ 64) :
    (Instr.lookup 229 (.map (some b)) (.agg #[.int .i64 ((j % W : Nat) : Int), .int .i64 ((j / W : Nat) : Int)]) false).run Try.prog w = .ok (.bool (cnB W H l t q j)) w := by
  obtain ⟨es, h1, -, h2⟩ := h
  have hb := hasB_true.1 (spN_has (W := W) (H := H) hj)
  unfold spN at hb
  simp only at hb
  have h3 := mapG_lookD h1 (x := ((j % W : Nat) : Int)) (y := ((j / W : Nat) : Int)) (by omega) (by omega)
  have e : decide ((((j % W : Nat) : Int), ((j / W : Nat) : Int)) ∈ es) = cnB W H l t q j := by
    rw [Bool.eq_iff_iff, decide_eq_true_iff, cnB_iff]
    exact h2 _
  rw [e] at h3
  exact h3
set_option maxRecDepth 5000 in
set_option maxHeartbeats 1600000 in
theorem gt11_any (p b1 bs W H : Nat) (l : List Int) (t fx fy : Int) (bm q j : Nat) (w : World) (hW1 : 1 ≤ W) (hW : W ≤ 64) (hH : H ≤ 64) (hj : j < H * W) (hg : GrAt w p W H l) (h1 : w.cell? ⟨b1, 0, none⟩ = some (.pointer (some ⟨p, 0, none⟩)))
    (hs0 : w.cell? ⟨bs, 0, none⟩ = some (.int .i64 ((j % W : Nat) : Int))) (hs1 : w.cell? ⟨bs, 1, none⟩ = some (.int .i64 ((j / W : Nat) : Int))) (hp : PartAt w bm W H l t q) :
    Calls Try.prog 214 #[.agg #[.int .i64 t, .int .i64 fx, .int .i64 fy, .map (some bm)], .pointer (some ⟨b1, 0, none⟩), .pointer (some ⟨bs, 0, none⟩)] w fun e w' => e = .returned (.bool (decide (t = l.getD j 0) && cnB W H l t q j)) ∧ w.Ext w' := by
  obtain ⟨W0, hW0⟩ : ∃ W0, W0 = w.alloc (.cells #[.int .i64 t, .int .i64 fx, .int .i64 fy, .map (some bm)] 243) := ⟨_, rfl⟩
  have hx0 : w.Ext W0 := by rw [hW0]; repeat (first | exact World.Ext.refl _ | exact ⟨_, rfl⟩ | assumption | refine World.Ext.over ?_ _ | refine World.Ext.drewN ?_ _ | refine World.Ext.drew ?_ | refine World.Ext.alloc ?_ _ | refine World.Ext.setCell ?_ (by simp) _)
  have d0 : W0.cell? ⟨w.heap.size, 0, none⟩ = some (.int .i64 t) := by rw [hW0]; simp [go_sem]
  have d3 : W0.cell? ⟨w.heap.size, 3, none⟩ = some (.map (some bm)) := by rw [hW0]; simp [go_sem]
  have e1 := hx0.cell h1
  have f0 := hx0.cell hs0
  have f1 := hx0.cell hs1
  have hjW : j % W < W := Nat.mod_lt _ (by omega)
  have hjH : j / W < H := by rw [Nat.div_lt_iff_lt_mul (by omega)]; exact hj
  have hjE : j / W * W + j % W = j := by rw [Nat.mul_comm]; exact Nat.div_add_mod _ _
  have HAT : Hid (∀ x1, Calls Try.prog 149 #[.pointer (some ⟨p, 0, none⟩), .agg #[.int .i64 ((j % W : Nat) : Int), .int .i64 ((j / W : Nat) : Int)]] (W0.over x1) fun e w'' => e = .returned (.int .i64 (l.getD j 0)) ∧ (W0.over x1).Ext w'') := fun x1 => by
    have h := (hg.ext (hx0.trans ⟨x1, rfl⟩ : w.Ext (W0.over x1))).at hW hH hjW hjH
    rw [hjE] at h
    exact h
  have hlook := fun x1 : World => (PartAt.keep hp ((hx0.trans ⟨x1, rfl⟩ : w.Ext (W0.over x1)).block hp.lt)).look hj hW hH
  have HX0 := Lib.hid hx0
  have ld := World.block_lt_of_cell? _ _ d0
  have le := World.block_lt_of_cell? _ _ e1
  have lf := World.block_lt_of_cell? _ _ f0
  clear h1 hs0 hs1 hp hg hx0 hjW hjH hjE hj
  generalize cnB W H l t q j = cb at *
  generalize l.getD j 0 = z at *
  generalize j % W = x at *
  generalize j / W = y at *
  by_cases ht : t = z
  · subst ht
    rw [decide_eq_true rfl, Bool.true_and]
    go_enter Try.func214, Try.ntmps214
    go_wp2_with fail
    rw [← hW0]
    clear hW0
    refine wp_region_over_lit (by kernel_rfl) (by kernel_rfl) ?_; (repeat (go_big_quiet_step ((go_at_call 149; exact Calls.over_of (HAT.out _))))); refine wpQuiet_nil ?_; rintro _ ⟨x1, rfl⟩
    have HX : Hid (w.Ext (W0.over x1)) := HX0.out.trans ⟨x1, rfl⟩
    clear d0 d3 e1 f0 f1 hlook
    go_wp2
    go_ret
    exact ⟨by simp, HX.out⟩
  · have htb : (t == z) = false := by simpa using ht
    rw [decide_eq_false ht, Bool.false_and]
    go_enter Try.func214, Try.ntmps214
    go_wp2_with fail
    rw [← hW0]
    clear hW0
    refine wp_region_over_lit (by kernel_rfl) (by kernel_rfl) ?_; (repeat (go_big_quiet_step ((go_at_call 149; exact Calls.over_of (HAT.out _))))); refine wpQuiet_nil ?_; rintro _ ⟨x1, rfl⟩
    have HX : Hid (w.Ext (W0.over x1)) := HX0.out.trans ⟨x1, rfl⟩
    clear d0 d3 e1 f0 f1 hlook
    go_wp2
    go_ret
    exact ⟨by simp, HX.out⟩
theorem enters_gt11 : Enters 214 := enters_of Try.func214 (by kernel_rfl) (by kernel_rfl)
def nd0 : NdV := (0, 0, 0, 0)
def RowN (w : World) (a : Option Addr) (qs : List NdV) : Prop := ∀ i, i < qs.length → ∃ b o, a = some ⟨b, o, none⟩ ∧ w.cell? ⟨b, o + i * 4, none⟩ = some (.int .i64 (qs.getD i nd0).1) ∧ w.cell? ⟨b, o + i * 4 + 1, none⟩ = some (.int .i64 (qs.getD i nd0).2.1) ∧ w.cell? ⟨b, o + i * 4 + 2, none⟩ = some (.int .i64 (qs.getD i nd0).2.2.1) ∧ w.cell? ⟨b, o + i * 4 + 3, none⟩ = some (.map (some (qs.getD i nd0).2.2.2))
theorem RowN.ext {w w' : World} {a : Option Addr} {qs : List NdV} (h : RowN w a qs) (hx : w.Ext w') : RowN w' a qs := fun i hi => let ⟨b, o, h1, h2, h3, h4, h5⟩ := h i hi; ⟨b, o, h1, hx.cell h2, hx.cell h3, hx.cell h4, hx.cell h5⟩
theorem flatN_at : ∀ (qs : List NdV) (i : Nat), i < qs.length → (qs.flatMap encNd)[i * 4]? = some (.int .i64 (qs.getD i nd0).1) ∧ (qs.flatMap encNd)[i * 4 + 1]? = some (.int .i64 (qs.getD i nd0).2.1) ∧ (qs.flatMap encNd)[i * 4 + 2]? = some (.int .i64 (qs.getD i nd0).2.2.1) ∧ (qs.flatMap encNd)[i * 4 + 3]? = some (.map (some (qs.getD i nd0).2.2.2))
  | [], i, h => by simp at h
  | q :: qs, 0, _ => by simp [encNd]
  | q :: qs, i + 1, h => by
    have ih := flatN_at qs i (by simpa using h)
    rw [List.flatMap_cons]
    have e : (encNd q).length = 4 := rfl
    refine ⟨?_, ?_, ?_, ?_⟩
    · rw [List.getElem?_append_right (by omega), e, show (i + 1) * 4 - 4 = i * 4 by omega]; exact ih.1
    · rw [List.getElem?_append_right (by omega), e, show (i + 1) * 4 + 1 - 4 = i * 4 + 1 by omega]; exact ih.2.1
    · rw [List.getElem?_append_right (by omega), e, show (i + 1) * 4 + 2 - 4 = i * 4 + 2 by omega]; exact ih.2.2.1
    · rw [List.getElem?_append_right (by omega), e, show (i + 1) * 4 + 3 - 4 = i * 4 + 3 by omega]; exact ih.2.2.2
theorem GrowN.row {lo : Nat} {w : World} {a : Option Addr} {m cap : Nat} {qs : List NdV} (h : GrowN lo w (.slice a m cap) qs) : RowN w a qs := by
  intro i hi
  have h' : w.ownsRow lo 243 4 (.slice a m cap) qs.length (qs.flatMap encNd) := h
  rcases h'.2 with ⟨e, e2⟩ | ⟨g, cap', cur, e, -⟩
  · omega
  · simp only [Value.slice.injEq] at e
    obtain ⟨rfl, rfl, rfl⟩ := e
    obtain ⟨q1, q2, q3, q4⟩ := flatN_at qs i hi
    refine ⟨g, 0, rfl, ?_, ?_, ?_, ?_⟩
    · rw [Nat.zero_add, h'.cellAt _ (by omega)]; exact q1
    · rw [Nat.zero_add, h'.cellAt _ (by omega)]; exact q2
    · rw [Nat.zero_add, h'.cellAt _ (by omega)]; exact q3
    · rw [Nat.zero_add, h'.cellAt _ (by omega)]; exact q4
def ndV (d : NdV) : Value := .agg #[.int .i64 d.1, .int .i64 d.2.1, .int .i64 d.2.2.1, .map (some d.2.2.2)]
set_option maxRecDepth 5000 in
set_option maxHeartbeats 1600000 in
theorem indexN_any (a : Option Addr) (c : Nat) (qs : List NdV) (f : Nat) (caps : Array Value) (P : Nat → Bool) (k : Nat) (w : World) (he : Enters f) (hn : qs.length ≤ 1000) (hr : RowN w a qs) (hk : k < qs.length) (h1 : P k = true) (h0 : ∀ j, j < k → P j = false)
    (hf : ∀ w', w.Ext w' → ∀ i, i < qs.length → Calls Try.prog f (#[ndV (qs.getD i nd0)] ++ caps) w' fun e w'' => e = .returned (.bool (P i)) ∧ w'.Ext w'') :
    Calls Try.prog 213 #[.slice a qs.length c, .func (.func f) #[] caps] w fun e w' => e = .returned (.int .i64 (k : Int)) ∧ w.Ext w' := by
  have HR := Lib.hid hr
  have HF := Lib.hid hf
  have HE := Lib.hid he
  have H1 := Lib.hid h1
  have H0 := Lib.hid h0
  clear hr hf he h1 h0
  obtain ⟨n, hnn⟩ : ∃ n, n = qs.length := ⟨_, rfl⟩
  have HNN := Lib.hid hnn
  rw [← hnn] at hn hk
  rw [← hnn]
  clear hnn
  go_enter Try.func213, Try.ntmps213
  go_wp2
  go_loopw [8] (fun i wr => ∃ j : Nat, j ≤ k ∧ i = .int .i64 j ∧ Hid (w.Ext wr)) (fun i _ => n - (intOf i).toNat)
  case atStart => exact ⟨0, Nat.zero_le _, rfl, .refl _⟩
  case round =>
    obtain ⟨j, hj, rfl, HX⟩ := hrel
    obtain ⟨wo, rfl⟩ : ∃ wo : World, wo = wr := ⟨_, rfl⟩
    have hjn : (j : Int) < (n : Int) := by omega
    have hj0 : (0 : Int) ≤ (j : Int) := by omega
    obtain ⟨b, o, rfl, c0, c1, c2, c3⟩ := HR.out.ext HX.out j (by rw [← HNN.out]; omega)
    have HC := Lib.hid (HF.out wo HX.out j (by rw [← HNN.out]; omega))
    have he := HE.out
    unfold Enters at he
    unfold ndV at HC
    generalize qs.getD j nd0 = d at *
    obtain ⟨d1, d2, d3, d4⟩ := d
    dsimp only at c0 c1 c2 c3 HC
    go_wp2_with fail
    refine HC.out.mono ?_
    rintro e w2 ⟨rfl, hx2⟩
    have HX2 := Lib.hid (HX.out.trans hx2)
    clear hx2 HC HX c0 c1 c2 c3
    by_cases hjk : j = k
    · subst hjk
      rw [H1.out]
      go_wp2
      go_ret
      exact ⟨rfl, HX2.out⟩
    · have hz := H0.out j (by omega)
      rw [hz]
      clear hz
      go_wp2
      go_roundw
      case rel => exact ⟨j + 1, by omega, by go_num, HX2⟩
      case measure => simp [intOf]; omega
end Go.Proofs.Ythgkmaccbcpaeaa

/- The program's tree of a grey picture: the node of a spot. -/
namespace Go.Proofs.Ythgkmaccbcpaeaa
open Go Go.RowKit
structure NdsAt (w : World) (W H : Nat) (l : List Int) (a : Option Addr) (qs : List NdV) : Prop where
  row : RowN w a qs
  key : qs.map (ndKey W) = nodeL W H l
  par : ∀ d, d ∈ qs → NdIs W H d ∧ PartAt w d.2.2.2 W H l d.1 (ndKey W d).2
theorem NdsAt.ext {w w' : World} {W H : Nat} {l : List Int} {a : Option Addr} {qs : List NdV} (h : NdsAt w W H l a qs) (hx : w.Ext w') : NdsAt w' W H l a qs :=
  ⟨h.row.ext hx, h.key, fun d hd => ⟨(h.par d hd).1, (h.par d hd).2.keep (hx.block (h.par d hd).2.lt)⟩⟩
theorem NdsAt.len {w : World} {W H : Nat} {l : List Int} {a : Option Addr} {qs : List NdV} (h : NdsAt w W H l a qs) : qs.length = (nodeL W H l).length := by rw [← h.key, List.length_map]
theorem NdsAt.get {w : World} {W H : Nat} {l : List Int} {a : Option Addr} {qs : List NdV} (h : NdsAt w W H l a qs) {i : Nat} (hi : i < qs.length) :
    ndKey W (qs.getD i nd0) = (nodeL W H l).getD i (0, 0) ∧ (qs.getD i nd0).1 = (((nodeL W H l).getD i (0, 0)).1 : Int) ∧ NdIs W H (qs.getD i nd0) ∧ PartAt w (qs.getD i nd0).2.2.2 W H l (qs.getD i nd0).1 ((nodeL W H l).getD i (0, 0)).2 := by
  have e : qs.getD i nd0 = qs[i] := by simp [List.getD_eq_getElem?_getD, hi]
  have hm : qs.getD i nd0 ∈ qs := by rw [e]; exact List.getElem_mem hi
  have hk : ndKey W (qs.getD i nd0) = (nodeL W H l).getD i (0, 0) := by
    rw [← h.key, e]
    simp [List.getD_eq_getElem?_getD, hi]
  obtain ⟨p1, p2⟩ := h.par _ hm
  refine ⟨hk, ?_, p1, ?_⟩
  · rw [← hk]; exact p1.1
  · rw [← hk]; exact p2
set_option maxRecDepth 5000 in
set_option maxHeartbeats 1600000 in
theorem gt1_any (p b1 bn W H : Nat) (l : List Int) (a : Option Addr) (c : Nat) (qs : List NdV) (j : Nat) (w : World) (hW1 : 1 ≤ W) (hW : W ≤ 64) (hH : H ≤ 64) (hj : j < H * W) (hgl : GrL W H l) (hg : GrAt w p W H l) (h1 : w.cell? ⟨b1, 0, none⟩ = some (.pointer (some ⟨p, 0, none⟩)))
    (hn : w.cell? ⟨bn, 0, none⟩ = some (.slice a qs.length c)) (hq : NdsAt w W H l a qs) (hl : qs.length ≤ 1000) :
    Calls Try.prog 212 #[.agg #[.int .i64 ((j % W : Nat) : Int), .int .i64 ((j / W : Nat) : Int)], .pointer (some ⟨bn, 0, none⟩), .pointer (some ⟨b1, 0, none⟩)] w fun e w' => e = .returned (.int .i64 (lastIn W H l (nodeL W H l) j)) ∧ w.Ext w' := by
  obtain ⟨W0, hW0⟩ : ∃ W0, W0 = w.alloc (.cells #[.int .i64 ((j % W : Nat) : Int), .int .i64 ((j / W : Nat) : Int)] 45) := ⟨_, rfl⟩
  have hx0 : w.Ext W0 := by rw [hW0]; repeat (first | exact World.Ext.refl _ | exact ⟨_, rfl⟩ | assumption | refine World.Ext.over ?_ _ | refine World.Ext.drewN ?_ _ | refine World.Ext.drew ?_ | refine World.Ext.alloc ?_ _ | refine World.Ext.setCell ?_ (by simp) _)
  have d0 : W0.cell? ⟨w.heap.size, 0, none⟩ = some (.int .i64 ((j % W : Nat) : Int)) := by rw [hW0]; simp [go_sem]
  have d1 : W0.cell? ⟨w.heap.size, 1, none⟩ = some (.int .i64 ((j / W : Nat) : Int)) := by rw [hW0]; simp [go_sem]
  have e1 := hx0.cell h1
  have en := hx0.cell hn
  obtain ⟨k, k1, k2, k3, k4, k5⟩ := node_of hgl hj
  have HI : Hid (Calls Try.prog 213 #[.slice a qs.length c, .func (.func 214) #[] #[.pointer (some ⟨b1, 0, none⟩), .pointer (some ⟨w.heap.size, 0, none⟩)]] W0 fun e w' => e = .returned (.int .i64 (k : Int)) ∧ W0.Ext w') := by
    refine indexN_any a c qs _ _ (fun i => decide ((((nodeL W H l).getD i (0, 0)).1 : Int) = l.getD j 0) && cnB W H l ((nodeL W H l).getD i (0, 0)).1 ((nodeL W H l).getD i (0, 0)).2 j) k W0 enters_gt11 hl (hq.row.ext hx0) (by rw [hq.len]; exact k1) ?_ ?_ ?_
    · show (decide _ && _) = true
      rw [Bool.and_eq_true, decide_eq_true_iff]
      exact ⟨k3, k4⟩
    · intro i hi
      rw [Bool.eq_false_iff]
      intro ht
      rw [Bool.and_eq_true, decide_eq_true_iff] at ht
      have := k5 i (by omega) ht.1 ht.2
      omega
    · intro w' hx' i hi
      obtain ⟨g1, g2, g3, g4⟩ := (hq.ext (hx0.trans hx')).get hi
      have hc := gt11_any p b1 w.heap.size W H l (qs.getD i nd0).1 (qs.getD i nd0).2.1 (qs.getD i nd0).2.2.1 (qs.getD i nd0).2.2.2 ((nodeL W H l).getD i (0, 0)).2 j w' hW1 hW hH hj (hg.ext (hx0.trans hx')) (hx'.cell e1) (hx'.cell d0) (hx'.cell d1) g4
      rw [g2] at hc
      unfold ndV
      rw [g2]
      exact hc
  rw [k2]
  have HX0 := Lib.hid hx0
  have ln := World.block_lt_of_cell? _ _ hn
  clear h1 hg hq hgl hx0 k1 k2 k3 k4 k5 hj d0 d1 hl
  generalize qs.length = n at *
  generalize j % W = x at *
  generalize j / W = y at *
  go_enter Try.func212, Try.ntmps212
  go_wp2_with fail
  rw [← hW0]
  clear hW0
  refine HI.out.mono ?_
  rintro e w2 ⟨rfl, hx2⟩
  have HX : Hid (w.Ext w2) := HX0.out.trans hx2
  clear e1 en hn HI hx2
  go_wp2
  go_ret
  exact ⟨rfl, HX.out⟩
theorem enters_gt1 : Enters 212 := enters_of Try.func212 (by kernel_rfl) (by kernel_rfl)
end Go.Proofs.Ythgkmaccbcpaeaa

/- The program's tree of a grey picture: the state of its loop. -/
namespace Go.Proofs.Ythgkmaccbcpaeaa
open Go Go.RowKit
structure TrSt (wA : World) (sv u1 u2 u3 v1 v2 v3 : Value) (L P R : List Int) (wr : World) : Prop where
  x : wA.Ext wr
  box : wr.heap[wA.heap.size]? = some (.cells #[u1, u2, u3, .slice none 0 0] 200 (0, 0))
  nb : wr.heap[wA.heap.size + 1]? = some (.cells #[sv] 240 (0, 0))
  o1 : GrI (wA.heap.size + 2) wr v1 L
  o2 : GrI (wA.heap.size + 2) wr v2 P
  o3 : GrI (wA.heap.size + 2) wr v3 R
  d12 : ApV v1 v2
  d13 : ApV v1 v3
  d23 : ApV v2 v3
section
variable {wA wr wa w1 w' : World} {sv u1 u2 u3 v1 v2 v3 v' : Value} {L P R : List Int} {z : Int}
theorem TrSt.ext (h : TrSt wA sv u1 u2 u3 v1 v2 v3 L P R wr) (hx : wr.Ext w') : TrSt wA sv u1 u2 u3 v1 v2 v3 L P R w' :=
  ⟨h.x.trans hx, by rw [hx.block (Array.getElem?_eq_some_iff.1 h.box).1]; exact h.box, by rw [hx.block (Array.getElem?_eq_some_iff.1 h.nb).1]; exact h.nb, h.o1.ext hx, h.o2.ext hx, h.o3.ext hx, h.d12, h.d13, h.d23⟩
theorem TrSt.push1 (h : TrSt wA sv u1 u2 u3 v1 v2 v3 L P R wr) (hx : wr.Ext wa) (hg : wa.grownBy w1 v1.ownBlock) (ho : w1.ownsRow (wA.heap.size + 2) 2 1 v' (L.length + 1) (L.map iv ++ [iv z])) (hat : v'.ownBlock = v1.ownBlock ∨ v'.ownBlock = some wa.heap.size) :
    TrSt wA sv u1 u2 u3 v' v2 v3 (L ++ [z]) P R w1 := by
  have ha := h.ext hx
  refine ⟨ha.x.grown hg fun k hk => by have := (GrI.lt ha.o1 hk).1; omega, ?_, ?_, GrowOf.push ho, World.ownsRow.kept ha.o2 hg (GrI.ne ha.o2 ha.d12.symm), World.ownsRow.kept ha.o3 hg (GrI.ne ha.o3 ha.d13.symm), apV_at ha.d12 (fun k hk => (GrI.lt ha.o2 hk).2) hat, apV_at ha.d13 (fun k hk => (GrI.lt ha.o3 hk).2) hat, ha.d23⟩
  · rw [hg.block _ (Array.getElem?_eq_some_iff.1 ha.box).1 fun e => by have := (GrI.lt ha.o1 e.symm).1; omega]; exact ha.box
  · rw [hg.block _ (Array.getElem?_eq_some_iff.1 ha.nb).1 fun e => by have := (GrI.lt ha.o1 e.symm).1; omega]; exact ha.nb
theorem TrSt.push2 (h : TrSt wA sv u1 u2 u3 v1 v2 v3 L P R wr) (hx : wr.Ext wa) (hg : wa.grownBy w1 v2.ownBlock) (ho : w1.ownsRow (wA.heap.size + 2) 2 1 v' (P.length + 1) (P.map iv ++ [iv z])) (hat : v'.ownBlock = v2.ownBlock ∨ v'.ownBlock = some wa.heap.size) :
    TrSt wA sv u1 u2 u3 v1 v' v3 L (P ++ [z]) R w1 := by
  have ha := h.ext hx
  refine ⟨ha.x.grown hg fun k hk => by have := (GrI.lt ha.o2 hk).1; omega, ?_, ?_, World.ownsRow.kept ha.o1 hg (GrI.ne ha.o1 ha.d12), GrowOf.push ho, World.ownsRow.kept ha.o3 hg (GrI.ne ha.o3 ha.d23.symm), (apV_at ha.d12.symm (fun k hk => (GrI.lt ha.o1 hk).2) hat).symm, ha.d13, apV_at ha.d23 (fun k hk => (GrI.lt ha.o3 hk).2) hat⟩
  · rw [hg.block _ (Array.getElem?_eq_some_iff.1 ha.box).1 fun e => by have := (GrI.lt ha.o2 e.symm).1; omega]; exact ha.box
  · rw [hg.block _ (Array.getElem?_eq_some_iff.1 ha.nb).1 fun e => by have := (GrI.lt ha.o2 e.symm).1; omega]; exact ha.nb
theorem TrSt.push3 (h : TrSt wA sv u1 u2 u3 v1 v2 v3 L P R wr) (hx : wr.Ext wa) (hg : wa.grownBy w1 v3.ownBlock) (ho : w1.ownsRow (wA.heap.size + 2) 2 1 v' (R.length + 1) (R.map iv ++ [iv z])) (hat : v'.ownBlock = v3.ownBlock ∨ v'.ownBlock = some wa.heap.size) :
    TrSt wA sv u1 u2 u3 v1 v2 v' L P (R ++ [z]) w1 := by
  have ha := h.ext hx
  refine ⟨ha.x.grown hg fun k hk => by have := (GrI.lt ha.o3 hk).1; omega, ?_, ?_, World.ownsRow.kept ha.o1 hg (GrI.ne ha.o1 ha.d13), World.ownsRow.kept ha.o2 hg (GrI.ne ha.o2 ha.d23), GrowOf.push ho, ha.d12, (apV_at ha.d13.symm (fun k hk => (GrI.lt ha.o1 hk).2) hat).symm, (apV_at ha.d23.symm (fun k hk => (GrI.lt ha.o2 hk).2) hat).symm⟩
  · rw [hg.block _ (Array.getElem?_eq_some_iff.1 ha.box).1 fun e => by have := (GrI.lt ha.o3 e.symm).1; omega]; exact ha.box
  · rw [hg.block _ (Array.getElem?_eq_some_iff.1 ha.nb).1 fun e => by have := (GrI.lt ha.o3 e.symm).1; omega]; exact ha.nb
theorem TrSt.cells (h : TrSt wA sv u1 u2 u3 v1 v2 v3 L P R wr) : wr.cell? ⟨wA.heap.size, 0, none⟩ = some u1 ∧ wr.cell? ⟨wA.heap.size, 1, none⟩ = some u2 ∧ wr.cell? ⟨wA.heap.size, 2, none⟩ = some u3 ∧ wr.cell? ⟨wA.heap.size, 3, none⟩ = some (.slice none 0 0) ∧ wr.cell? ⟨wA.heap.size + 1, 0, none⟩ = some sv := by
  have h1 := h.box
  have h2 := h.nb
  refine ⟨?_, ?_, ?_, ?_, ?_⟩ <;> simp [World.cell?, h1, h2]
theorem TrSt.free (h : TrSt wA sv u1 u2 u3 v1 v2 v3 L P R wr) (i : Nat) : wr.frozen? ⟨wA.heap.size, i, none⟩ = false := by
  have h1 := h.box
  simp [World.frozen?, h1]
theorem TrSt.putAt (h : TrSt wA sv u1 u2 u3 v1 v2 v3 L P R wr) {i : Nat} {y y1 y2 y3 : Value} (_ : i < 3) (he : (#[u1, u2, u3, .slice none 0 0] : Array Value).setIfInBounds i y = #[y1, y2, y3, .slice none 0 0]) :
    TrSt wA sv y1 y2 y3 v1 v2 v3 L P R (wr.setCell ⟨wA.heap.size, i, none⟩ y) := by
  have hb := h.box
  have hk : ∀ k, k ≠ wA.heap.size → (wr.setCell ⟨wA.heap.size, i, none⟩ y).heap[k]? = wr.heap[k]? := fun k hk => Below.heap_setCell _ _ _ _ hk
  refine ⟨h.x.setCell (p := ⟨wA.heap.size, i, none⟩) (Nat.le_refl _) y, ?_, by rw [hk _ (by omega)]; exact h.nb, World.ownsRow.keep h.o1 fun k hk1 => hk k (by have := (GrI.lt h.o1 hk1).1; omega), World.ownsRow.keep h.o2 fun k hk1 => hk k (by have := (GrI.lt h.o2 hk1).1; omega), World.ownsRow.keep h.o3 fun k hk1 => hk k (by have := (GrI.lt h.o3 hk1).1; omega), h.d12, h.d13, h.d23⟩
  simp [World.setCell, Array.getElem?_modify, hb, he]
theorem TrSt.put1 (h : TrSt wA sv u1 u2 u3 v1 v2 v3 L P R wr) (y : Value) : TrSt wA sv y u2 u3 v1 v2 v3 L P R (wr.setCell ⟨wA.heap.size, 0, none⟩ y) := h.putAt (by decide) (by simp)
theorem TrSt.put2 (h : TrSt wA sv u1 u2 u3 v1 v2 v3 L P R wr) (y : Value) : TrSt wA sv u1 y u3 v1 v2 v3 L P R (wr.setCell ⟨wA.heap.size, 1, none⟩ y) := h.putAt (by decide) (by simp)
theorem TrSt.put3 (h : TrSt wA sv u1 u2 u3 v1 v2 v3 L P R wr) (y : Value) : TrSt wA sv u1 u2 y v1 v2 v3 L P R (wr.setCell ⟨wA.heap.size, 2, none⟩ y) := h.putAt (by decide) (by simp)
end
end Go.Proofs.Ythgkmaccbcpaeaa
