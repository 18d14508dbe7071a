/- The kit's Reverse, laid at this seat (printed by the kit's lay-plain; wip/tools/lay.sh). -/
import Derived.Shelf.SlicesQ.Reverse
import Derived.Test.YtelaoimcaidoiaaProg
import Derived.Test.YtelaoimcaidoiaaSrA
import Derived.Test.YtelaoimcaidoiaaCmcF
import Derived.Test.YtelaoimcaidoiaaHulA
import Derived.Test.YtelaoimcaidoiaaCnA
import Derived.Deep.DeepCutAuto
import Derived.Deep.CutBlock
import Derived.Deep.AppendSrc
namespace Go.Proofs
open Go.Shelf
def Try.revSpot_ren : Go.Shelf.Ren := ⟨fun | 35 => 30 | n => n, fun | 22 => 37 | 23 => 33 | 3 => 3 | 4 => 4 | 0 => 0 | n => n, fun | n => n⟩
theorem Try.revSpot : Go.Proofs.SlLaysE0.n35 Try.prog Try.revSpot_ren := {
  mixed := by kernel_rfl
  f35 := ⟨Try.f30.name, by decide, Try.func30.trans (congrArg some (by kernel_rfl))⟩
  t0 := Try.underlying0
  a0 := Try.isAgg0
  z0 := Try.sizeOf0
  v0 := Try.zeroValue0
  t3 := Try.underlying3
  a3 := Try.isAgg3
  z3 := Try.sizeOf3
  v3 := Try.zeroValue3
  t4 := Try.underlying4
  a4 := Try.isAgg4
  z4 := Try.sizeOf4
  v4 := Try.zeroValue4
  t22 := Try.underlying37
  a22 := Try.isAgg37
  z22 := Try.sizeOf37
  v22 := Try.zeroValue37 }
end Go.Proofs

/- The hull's order of spots: a row of the call's own is sorted by it. -/
namespace Go.Proofs.Ytelaoimcaidoiaa
open Go Go.RowKit Go.Sort Go.Shelf
def ordH (p q : Int × Int) : Int := if cmpJ p.1 q.1 = 0 then cmpJ p.2 q.2 else cmpJ p.1 q.1
theorem ordH_neg (p q : Int × Int) : ordH p q < 0 ↔ p.1 < q.1 ∨ (p.1 = q.1 ∧ p.2 < q.2) := by
  unfold ordH
  split
  · rename_i h
    rw [cmpJ_zero] at h
    rw [cmpJ_neg]
    omega
  · rename_i h
    rw [cmpJ_zero] at h
    rw [cmpJ_neg]
    omega
theorem ordH_swo : SWO (ltOf ordH) where
  irrefl x := by unfold ltOf; rw [decide_eq_false_iff_not, ordH_neg]; omega
  trans x y z h1 h2 := by unfold ltOf at *; rw [decide_eq_true_iff, ordH_neg] at *; omega
  ntrans x y z h1 h2 := by unfold ltOf at *; rw [decide_eq_false_iff_not, ordH_neg] at *; omega
/-- Sorted and without repetitions: just the spots, from left to right. -/
theorem cmH {ps qs : List (Int × Int)} (hp : qs.Perm ps) (hs : qs.Pairwise fun a b => ltOf ordH b a = false) : (cmL qs qs.length).Pairwise lxl ∧ ∀ q, q ∈ cmL qs qs.length ↔ q ∈ ps := by
  constructor
  · refine cmL_pair (R := lxl) (hs.imp fun {a b} h => ?_) (fun a b h1 h2 => ?_) (fun a b c h1 h2 => ?_) (Nat.le_refl _)
    · unfold ltOf at h
      rw [decide_eq_false_iff_not, ordH_neg] at h
      exact h
    · have hne : ¬ (a.1 = b.1 ∧ a.2 = b.2) := fun e => h2 (Prod.ext e.1 e.2)
      unfold lxl at *
      omega
    · unfold lxl at *
      omega
  · intro d
    rw [cmL_mem, ← hp.mem_iff]
    constructor
    · rintro ⟨i, hi, rfl⟩
      rw [List.getD_eq_getElem?_getD, List.getElem?_eq_getElem hi]
      exact List.getElem_mem _
    · intro h
      obtain ⟨i, hi, e⟩ := List.getElem_of_mem h
      exact ⟨i, hi, by rw [List.getD_eq_getElem?_getD, List.getElem?_eq_getElem hi]; exact e⟩
set_option maxRecDepth 5000 in
set_option maxHeartbeats 800000 in
theorem hullOrder_grow (xa ya xb yb : Int) (w : World) (t : Int) (ht : ordH (xa, ya) (xb, yb) = t) :
    Calls Try.prog 25 #[.agg #[.int .i64 xa, .int .i64 ya], .agg #[.int .i64 xb, .int .i64 yb]] w fun e w' => e = .returned (.int .i64 t) ∧ ∃ q os', w' = grow (w.drewN q) os' := by
  obtain ⟨u, hu⟩ : ∃ u, cmpJ xa xb = u := ⟨_, rfl⟩
  obtain ⟨v, hv⟩ : ∃ v, cmpJ ya yb = v := ⟨_, rfl⟩
  have HT : Hid ((if u = 0 then v else u) = t) := by show _ = _; rw [← ht, ← hu, ← hv]; rfl
  have HU := Lib.hid hu
  have HV := Lib.hid hv
  clear hu hv ht
  obtain ⟨W0, hW0⟩ : ∃ W0, W0 = (w.alloc (.cells #[.int .i64 xa, .int .i64 ya] 33)).alloc (.cells #[.int .i64 xb, .int .i64 yb] 33) := ⟨_, rfl⟩
  have d0 : W0.drew.cell? ⟨w.heap.size, 0, none⟩ = some (.int .i64 xa) := by rw [hW0]; simp [go_sem]
  have d1 : W0.drew.cell? ⟨w.heap.size, 1, none⟩ = some (.int .i64 ya) := by rw [hW0]; simp [go_sem]
  have d2 : W0.drew.cell? ⟨w.heap.size + 1, 0, none⟩ = some (.int .i64 xb) := by rw [hW0]; simp [go_sem]
  have d3 : W0.drew.cell? ⟨w.heap.size + 1, 1, none⟩ = some (.int .i64 yb) := by rw [hW0]; simp [go_sem]
  have HW : Hid (∀ c, W0.drew.alloc c = grow (w.drewN 1) (#[.cells #[.int .i64 xa, .int .i64 ya] 33, .cells #[.int .i64 xb, .int .i64 yb] 33] ++ #[c])) := fun c => by
    rw [hW0, alloc_eq_grow, alloc_eq_grow, alloc_eq_grow, grow_grow, drew_grow, grow_grow]
    rfl
  go_enter Try.func25, Try.ntmps25
  go_wp2_with fail
  rw [← hW0]
  refine wp_region_still_tail 10 (by kernel_rfl) (by kernel_rfl) ?_
  change wpStill _ _ W0.drew (fun a' => wpList _ _ _ _ a' W0.drew) _ _
  clear hW0
  generalize W0.drew = W1 at *
  simp only [List.take_succ_cons, List.take_zero, List.drop_succ_cons, List.drop_zero]
  (repeat still_step)
  still_call (compare_eq xa xb _ _ HU.out)
  (repeat still_step)
  still_call (compare_eq ya yb _ _ HV.out)
  (repeat still_step)
  refine wpStill_nil ?_
  clear d0 d1 d2 d3
  go_wp2_with fail
  refine (or2_eq _ u v _ (by simp [go_sem]) (by simp [go_sem]) _ HT.out).mono ?_
  rintro e w2 ⟨rfl, rfl⟩
  go_wp2
  go_ret
  exact ⟨rfl, 1, _, HW.out _⟩
theorem hullLays (blk off size : Nat) (w : World) : CmpLays Try.prog 25 #[] encSp 2 ordH blk off size w :=
  fun _ _ _ _ x y => hullOrder_grow x.1 x.2 y.1 y.2 _ _ rfl
theorem sortHull_any (base g cap : Nat) (ps : List (Int × Int)) (w : World) (hown : GrowP base 33 w (.slice (some ⟨g, 0, none⟩) ps.length cap) ps) (hn : ps.length ≤ 1048576) :
    Calls Try.prog 24 #[.slice (some ⟨g, 0, none⟩) ps.length cap, .func (.func 25) #[] #[]] w fun e w' => e = .returned (.tuple #[]) ∧
      ∃ qs : List (Int × Int), qs.Perm ps ∧ qs.Pairwise (fun a b => ltOf ordH b a = false) ∧ GrowP base 33 w' (.slice (some ⟨g, 0, none⟩) ps.length cap) qs ∧ w.grownBy w' (some g) := by
  have hown' : w.ownsRow base 33 2 (.slice (some ⟨g, 0, none⟩) ps.length cap) ps.length ((flatP ps).map (Value.int .i64)) := hown
  have eg : ∀ args w, (callFunc 25 args).run Try.prog w = .ok (.enter 25 args) w := enters_of Try.func25 (by kernel_rfl) rfl
  have hfl := flatK_list encSp 2 (fun _ => rfl) ps.toArray
  rw [List.toList_toArray, flatMap_encSp] at hfl
  have hH : HoldsK encSp 2 w g 0 ps.toArray := ownsRow_holds hown' _ hfl
  have hlt : g < w.heap.size := (hown'.lt g rfl).2
  have h := AnyQ.slices_SortFunc Try.sortSpot 2 Try.isAgg33 Try.sizeOf33 encSp (fun _ => rfl) (fun x v hv => by simp [encSp] at hv; rcases hv with rfl | rfl <;> rfl) ordH ordH_swo 25 #[] g 0 cap ps.toArray w eg (hullLays g 0 _ w) hH hlt (by simp; omega)
  rw [List.size_toArray] at h
  refine Calls.mono h ?_
  rintro e w' ⟨he, d', n, os, hp, hs, rfl⟩
  have hsz : d'.size = ps.length := by rw [hp.1, List.size_toArray]
  have hperm := perm_arr hp
  rw [List.toList_toArray] at hperm
  obtain ⟨h1, h2⟩ := ownsRow_sorted hown' n (flatK encSp 2 d') (by simp [hsz]) os
  rw [flatK_list encSp 2 (fun _ => rfl), flatMap_encSp] at h1
  refine ⟨he, d'.toList, hperm, sorted_arr (by rw [hsz]) hs, ?_, h2⟩
  unfold GrowP
  rw [show d'.toList.length = ps.length by rw [Array.length_toList, hsz]]
  exact h1
end Go.Proofs.Ytelaoimcaidoiaa

/- To which side three spots bend; the chain of a hull's side. -/
namespace Go.Proofs.Ytelaoimcaidoiaa
open Go Go.RowKit
theorem mulB {a b : Int} (ha : -16 ≤ a ∧ a ≤ 16) (hb : -16 ≤ b ∧ b ≤ 16) : -256 ≤ a * b ∧ a * b ≤ 256 := by
  have h1 := Int.mul_nonneg (show 0 ≤ 16 - a by omega) (show 0 ≤ 16 + b by omega)
  have h2 := Int.mul_nonneg (show 0 ≤ 16 + a by omega) (show 0 ≤ 16 - b by omega)
  have h3 := Int.mul_nonneg (show 0 ≤ 16 - a by omega) (show 0 ≤ 16 - b by omega)
  have h4 := Int.mul_nonneg (show 0 ≤ 16 + a by omega) (show 0 ≤ 16 + b by omega)
  have e1 : (16 - a) * (16 + b) = 256 + 16 * b - 16 * a - a * b := by grind
  have e2 : (16 + a) * (16 - b) = 256 - 16 * b + 16 * a - a * b := by grind
  have e3 : (16 - a) * (16 - b) = 256 - 16 * b - 16 * a + a * b := by grind
  have e4 : (16 + a) * (16 + b) = 256 + 16 * b + 16 * a + a * b := by grind
  rw [e1] at h1
  rw [e2] at h2
  rw [e3] at h3
  rw [e4] at h4
  omega
def Sm (q : Int × Int) : Prop := 0 ≤ q.1 ∧ q.1 ≤ 16 ∧ 0 ≤ q.2 ∧ q.2 ≤ 16
set_option maxHeartbeats 1600000 in
theorem bend_any (ax ay bx by_ cx cy : Int) (w : World) (ha : Sm (ax, ay)) (hb : Sm (bx, by_)) (hc : Sm (cx, cy)) :
    Calls Try.prog 54 #[.agg #[.int .i64 ax, .int .i64 ay], .agg #[.int .i64 bx, .int .i64 by_], .agg #[.int .i64 cx, .int .i64 cy]] w fun e w' => e = .returned (.int .i64 (bndJ (ax, ay) (bx, by_) (cx, cy))) ∧ w.Ext w' := by
  have HV : Hid ((bx - ax) * (cy - by_) - (by_ - ay) * (cx - bx) = bndJ (ax, ay) (bx, by_) (cx, cy)) := rfl
  unfold Sm at ha hb hc
  dsimp only at ha hb hc
  have m1 := mulB (a := bx - ax) (b := cy - by_) (by omega) (by omega)
  have m2 := mulB (a := by_ - ay) (b := cx - bx) (by omega) (by omega)
  have wr1 : IntKind.i64.wrap (bx - ax) = bx - ax := IntWalk.i64_in _ (by omega)
  have wr2 : IntKind.i64.wrap (cy - by_) = cy - by_ := IntWalk.i64_in _ (by omega)
  have wr3 : IntKind.i64.wrap (by_ - ay) = by_ - ay := IntWalk.i64_in _ (by omega)
  have wr4 : IntKind.i64.wrap (cx - bx) = cx - bx := IntWalk.i64_in _ (by omega)
  have wr5 : IntKind.i64.wrap ((bx - ax) * (cy - by_)) = (bx - ax) * (cy - by_) := IntWalk.i64_in _ (by omega)
  have wr6 : IntKind.i64.wrap ((by_ - ay) * (cx - bx)) = (by_ - ay) * (cx - bx) := IntWalk.i64_in _ (by omega)
  have wr7 : IntKind.i64.wrap ((bx - ax) * (cy - by_) - (by_ - ay) * (cx - bx)) = (bx - ax) * (cy - by_) - (by_ - ay) * (cx - bx) := IntWalk.i64_in _ (by omega)
  generalize bndJ (ax, ay) (bx, by_) (cx, cy) = t at *
  clear m1 m2 ha hb hc
  go_enter Try.func54, Try.ntmps54
  go_wp2
  go_ret
  exact ⟨ret_int HV.out, by repeat (first | exact World.Ext.refl _ | exact ⟨_, rfl⟩ | assumption | refine World.Ext.over ?_ _ | refine World.Ext.drewN ?_ _ | refine World.Ext.drew ?_ | refine World.Ext.alloc ?_ _ | refine World.Ext.setCell ?_ (by simp) _)⟩
set_option maxHeartbeats 1600000 in
theorem cross_any (ax ay bx by_ cx cy : Int) (w : World) (ha : Sm (ax, ay)) (hb : Sm (bx, by_)) (hc : Sm (cx, cy)) :
    Calls Try.prog 12 #[.agg #[.int .i64 ax, .int .i64 ay], .agg #[.int .i64 bx, .int .i64 by_], .agg #[.int .i64 cx, .int .i64 cy]] w fun e w' => e = .returned (.int .i64 (crx (ax, ay) (bx, by_) (cx, cy))) ∧ w.Ext w' := by
  have HV : Hid ((bx - ax) * (cy - ay) - (by_ - ay) * (cx - ax) = crx (ax, ay) (bx, by_) (cx, cy)) := rfl
  unfold Sm at ha hb hc
  dsimp only at ha hb hc
  have m1 := mulB (a := bx - ax) (b := cy - ay) (by omega) (by omega)
  have m2 := mulB (a := by_ - ay) (b := cx - ax) (by omega) (by omega)
  have wr1 : IntKind.i64.wrap (bx - ax) = bx - ax := IntWalk.i64_in _ (by omega)
  have wr2 : IntKind.i64.wrap (cy - ay) = cy - ay := IntWalk.i64_in _ (by omega)
  have wr3 : IntKind.i64.wrap (by_ - ay) = by_ - ay := IntWalk.i64_in _ (by omega)
  have wr4 : IntKind.i64.wrap (cx - ax) = cx - ax := IntWalk.i64_in _ (by omega)
  have wr5 : IntKind.i64.wrap ((bx - ax) * (cy - ay)) = (bx - ax) * (cy - ay) := IntWalk.i64_in _ (by omega)
  have wr6 : IntKind.i64.wrap ((by_ - ay) * (cx - ax)) = (by_ - ay) * (cx - ax) := IntWalk.i64_in _ (by omega)
  have wr7 : IntKind.i64.wrap ((bx - ax) * (cy - ay) - (by_ - ay) * (cx - ax)) = (bx - ax) * (cy - ay) - (by_ - ay) * (cx - ax) := IntWalk.i64_in _ (by omega)
  generalize crx (ax, ay) (bx, by_) (cx, cy) = t at *
  clear m1 m2 ha hb hc
  go_enter Try.func12, Try.ntmps12
  go_wp2
  go_ret
  exact ⟨ret_int HV.out, by repeat (first | exact World.Ext.refl _ | exact ⟨_, rfl⟩ | assumption | refine World.Ext.over ?_ _ | refine World.Ext.drewN ?_ _ | refine World.Ext.drew ?_ | refine World.Ext.alloc ?_ _ | refine World.Ext.setCell ?_ (by simp) _)⟩
end Go.Proofs.Ytelaoimcaidoiaa

/- The chain of a hull's side: the program's. -/
namespace Go.Proofs.Ytelaoimcaidoiaa
open Go Go.RowKit
theorem growP_short {lo g n cap : Nat} {e : TypeId} {w : World} {xs : List (Int × Int)} (h : GrowP lo e w (.slice (some ⟨g, 0, none⟩) n cap) xs) {i : Nat} (hi : i ≤ xs.length) : GrowP lo e w (.slice (some ⟨g, 0, none⟩) i cap) (xs.take i) := by
  obtain ⟨h1, h2⟩ := h
  have hfl := flatP_len xs
  rcases h2 with ⟨h0, _⟩ | ⟨g', cap', cur, hv, hl, hb, hc, hm, hs, ht⟩
  · cases h0
  · simp only [Value.slice.injEq, Option.some.injEq, Addr.mk.injEq, and_true] at hv
    obtain ⟨rfl, -, rfl⟩ := hv
    have hlt : (xs.take i).length = i := by rw [List.length_take]; omega
    refine ⟨by simp [flatP_take, hfl]; omega, .inr ⟨g, cap, cur, by rw [hlt], hl, hb, by rw [hlt]; omega, hm, hs, ?_⟩⟩
    rw [hlt, flatP_take, List.map_take, ← ht, List.take_take, Nat.min_eq_left (Nat.mul_le_mul_right _ hi)]
theorem SmSt.short {W0 wr : World} {g n cap i : Nat} {L : List (Int × Int)} (h : SmSt W0 L (.slice (some ⟨g, 0, none⟩) n cap) wr) (hi : i ≤ L.length) : SmSt W0 (L.take i) (.slice (some ⟨g, 0, none⟩) i cap) wr := ⟨h.x, growP_short h.own hi, g, i, cap, rfl⟩
def lenW : Value → Nat
  | .slice _ n _ => n
  | _ => 0
theorem chS_take {ps : List (Int × Int)} {k : Nat} (hk : k < ps.length) : chS (ps.take (k + 1)) = ps.getD k (0, 0) :: popS (ps.getD k (0, 0)) (chS (ps.take k)) := by
  unfold chS
  rw [List.take_succ_eq_append_getElem hk, List.foldl_append, List.getD_eq_getElem?_getD, List.getElem?_eq_getElem hk]
  rfl
theorem popS_len (s : Int × Int) : ∀ r, (popS s r).length ≤ r.length
  | [] => Nat.le_refl _
  | [_] => Nat.le_refl _
  | b :: a :: r => by
    unfold popS
    split
    · have := popS_len s (a :: r)
      simp only [List.length_cons] at *
      omega
    · exact Nat.le_refl _
theorem chS_len (ps : List (Int × Int)) : ∀ k, k ≤ ps.length → (chS (ps.take k)).length ≤ k
  | 0, _ => by simp [chS]
  | k + 1, hk => by
    have ih := chS_len ps k (by omega)
    rw [chS_take (by omega), List.length_cons]
    have := popS_len (ps.getD k (0, 0)) (chS (ps.take k))
    omega
theorem popS_sub {s q : Int × Int} : ∀ {r : List (Int × Int)}, q ∈ popS s r → q ∈ r
  | [], h => h
  | [_], h => h
  | b :: a :: r, h => by
    unfold popS at h
    split at h
    · exact List.mem_cons_of_mem _ (popS_sub h)
    · exact h
theorem chS_sub {ps : List (Int × Int)} {q : Int × Int} : ∀ {k : Nat}, k ≤ ps.length → q ∈ chS (ps.take k) → q ∈ ps
  | 0, _, h => by simp [chS] at h
  | k + 1, hk, h => by
    rw [chS_take (by omega)] at h
    rcases List.mem_cons.1 h with rfl | h
    · rw [List.getD_eq_getElem?_getD, List.getElem?_eq_getElem (by omega)]
      exact List.getElem_mem _
    · exact chS_sub (by omega) (popS_sub h)
theorem rev_last {b a : Int × Int} {r : List (Int × Int)} : (b :: a :: r).reverse.getD (r.length + 1) (0, 0) = b ∧ (b :: a :: r).reverse.getD r.length (0, 0) = a ∧ (b :: a :: r).reverse.take (r.length + 1) = (a :: r).reverse := by
  refine ⟨?_, ?_, ?_⟩
  · rw [getD_rev (by simp only [List.length_cons]; omega)]
    simp
  · rw [getD_rev (by simp only [List.length_cons]; omega)]
    simp only [List.length_cons]
    rw [show r.length + 1 + 1 - 1 - r.length = 1 by omega]
    rfl
  · rw [List.reverse_cons]
    exact List.take_left' (by simp)
set_option maxRecDepth 20000 in
set_option maxHeartbeats 3200000 in
theorem chain_any (a : Option Addr) (c : Nat) (ps : List (Int × Int)) (w : World) (h1 : 1 ≤ ps.length) (hn : ps.length ≤ 1200) (hs : ∀ q, q ∈ ps → Sm q) (hm : RowP w a ps) :
    Calls Try.prog 29 #[.slice a ps.length c] w (SpsRet w (chS ps).reverse.dropLast) := by
  obtain ⟨iw, hiw, hz0, hz1, hz2⟩ := info_parts Try.infoSpotG
  have HM := Lib.hid hm
  have HSM := Lib.hid hs
  obtain ⟨n, hn'⟩ : ∃ n, ps.length = n := ⟨_, rfl⟩
  have HN := Lib.hid hn'
  have HCT : Hid (∀ k, k < n → chS (ps.take (k + 1)) = ps.getD k (0, 0) :: popS (ps.getD k (0, 0)) (chS (ps.take k))) := fun k hk => chS_take (by omega)
  have HCL : Hid (∀ k, k ≤ n → (chS (ps.take k)).length ≤ k) := fun k hk => chS_len ps k (by omega)
  have HSB : Hid (∀ k q, k ≤ n → q ∈ chS (ps.take k) → Sm q) := fun k q hk hq => hs q (chS_sub (by omega) hq)
  have HCE : Hid (chS (ps.take n) = chS ps) := by
    show _ = _
    rw [← hn', List.take_length]
  have HS0 : Hid (SmSt w (chS (ps.take 0)).reverse (.slice (some ⟨w.heap.size, 0, none⟩) 0 0) (w.alloc (.cells #[] 33))) := SmSt.start (.refl _)
  rw [hn'] at hn h1 ⊢
  clear hs hm hn'
  have hn0 : (0 : Int) < (n : Int) := by omega
  obtain ⟨RS, hRS⟩ : ∃ RS, RS = (chS ps).reverse.dropLast := ⟨_, rfl⟩
  rw [← hRS]
  have HRS := Lib.hid hRS
  clear hRS
  go_enter Try.func29, Try.ntmps29
  go_wp2
  go_loopw [3, 5, 9] (fun v _ z wr => ∃ k : Nat, k ≤ n ∧ z = .int .i64 k ∧ Hid (SmSt w (chS (ps.take k)).reverse v wr)) (fun _ _ z _ => n - (intOf z).toNat)
  case atStart => exact ⟨0, Nat.zero_le _, rfl, HS0⟩
  case round =>
    clear HS0
    obtain ⟨k, hk, rfl, HS⟩ := hrel
    obtain ⟨wo, rfl⟩ : ∃ wo : World, wo = wr := ⟨_, rfl⟩
    have hk0 : (0 : Int) ≤ (k : Int) := by omega
    by_cases hkn : k < n
    · have hkn' : (k : Int) < (n : Int) := by omega
      obtain ⟨b1, o1, rfl, d0, d1⟩ := (RowP.ext HM.out HS.out.x).at (i := k) (by rw [HN.out]; exact hkn)
      have hsm : Sm (ps.getD k (0, 0)) := HSM.out _ (by rw [List.getD_eq_getElem?_getD, List.getElem?_eq_getElem (by rw [HN.out]; exact hkn)]; exact List.getElem_mem _)
      have HCK := Lib.hid (HCT.out k hkn)
      have HLK := Lib.hid (HCL.out k hk)
      have HBK := Lib.hid (fun q => HSB.out k q hk)
      obtain ⟨st, hst⟩ : ∃ st, st = chS (ps.take k) := ⟨_, rfl⟩
      rw [← hst] at HCK HLK HBK HS
      clear hst
      obtain ⟨q, hq⟩ : ∃ q, ps.getD k (0, 0) = q := ⟨_, rfl⟩
      rw [hq] at d0 d1 HCK hsm
      clear hq
      obtain ⟨sx, sy⟩ := q
      dsimp only at d0 d1
      obtain ⟨w5, hw5⟩ : ∃ w5, w5 = wo.alloc (.cells #[.int .i64 sx, .int .i64 sy] 33) := ⟨_, rfl⟩
      have hx5 : wo.Ext w5 := by rw [hw5]; repeat (first | exact World.Ext.refl _ | exact ⟨_, rfl⟩ | assumption | refine World.Ext.over ?_ _ | refine World.Ext.drewN ?_ _ | refine World.Ext.drew ?_ | refine World.Ext.alloc ?_ _ | refine World.Ext.setCell ?_ (by simp) _)
      have HTW : Hid (Two w5 wo.heap.size 33 (.int .i64 sx) (.int .i64 sy)) := by rw [hw5]; exact Two.new _ _ _ _ _ rfl
      have HS5 := Lib.hid (HS.out.ext hx5)
      have HSS := Lib.hid hsm
      have ld := World.block_lt_of_cell? _ _ d0
      clear hx5 HS hsm
      go_upto_block 2 with fail
      rw [← hw5]
      clear hw5 d0 d1 ld
      generalize wo.heap.size = q5 at *
      go_cut [3] (fun v wc => Hid (SmSt w (popS (sx, sy) st).reverse v wc) ∧ Hid (w5.Ext wc))
      case first =>
        go_wp2
        go_loopw [3] (fun v wr => ∃ r : List (Int × Int), Hid (popS (sx, sy) r = popS (sx, sy) st) ∧ Hid (SmSt w r.reverse v wr) ∧ Hid (w5.Ext wr) ∧ Hid (∀ q, q ∈ r → Sm q) ∧ Hid (r.length ≤ 1200)) (fun v _ => lenW v)
        case atStart => exact ⟨st, rfl, HS5, .refl _, HBK, by have := HLK.out; show _ ≤ _; omega⟩
        case round =>
          clear HS5 HBK HLK
          obtain ⟨r, HPO, HS, HX, HB, HL⟩ := hrel
          obtain ⟨wp, rfl⟩ : ∃ wp : World, wp = wr := ⟨_, rfl⟩
          have g0 := (HTW.out.ext HX.out).cell0
          have g1 := (HTW.out.ext HX.out).cell1
          have lg := World.block_lt_of_cell? _ _ g0
          obtain ⟨g, cap, rfl⟩ := HS.out.form
          match r, HPO, HS, HB, HL with
          | [], HPO, HS, HB, HL =>
            have HSE : Hid (SmSt w (popS (sx, sy) st).reverse (.slice (some ⟨g, 0, none⟩) 0 cap) wp) := by rw [← HPO.out]; exact HS
            clear HPO HS HB HL
            show Code.wp _ _ _ _ _
            simp only [List.reverse_nil, List.length_nil]
            clear g0 g1 lg
            go_upto_region 5 with fail
            refine wp_region_over_lit (by kernel_rfl) (by kernel_rfl) ?_; (repeat (go_big_quiet_step (fail))); refine wpQuiet_nil ?_; rintro _ ⟨x1, rfl⟩
            have HSF := Lib.hid (HSE.out.ext (⟨x1, rfl⟩ : wp.Ext (wp.over x1)))
            have HXF := Lib.hid (HX.out.trans (⟨x1, rfl⟩ : wp.Ext (wp.over x1)))
            go_wp2_with fail
            go_meet
            exact ⟨HSF, HXF⟩
          | [b], HPO, HS, HB, HL =>
            have HSE : Hid (SmSt w (popS (sx, sy) st).reverse (.slice (some ⟨g, 0, none⟩) 1 cap) wp) := by rw [← HPO.out]; exact HS
            clear HPO HS HB HL
            show Code.wp _ _ _ _ _
            simp only [List.reverse_singleton, List.length_singleton]
            clear g0 g1 lg
            go_upto_region 5 with fail
            refine wp_region_over_lit (by kernel_rfl) (by kernel_rfl) ?_; (repeat (go_big_quiet_step (fail))); refine wpQuiet_nil ?_; rintro _ ⟨x1, rfl⟩
            have HSF := Lib.hid (HSE.out.ext (⟨x1, rfl⟩ : wp.Ext (wp.over x1)))
            have HXF := Lib.hid (HX.out.trans (⟨x1, rfl⟩ : wp.Ext (wp.over x1)))
            go_wp2_with fail
            go_meet
            exact ⟨HSF, HXF⟩
          | (bx, by_) :: (ax, ay) :: r', HPO, HS, HB, HL =>
            obtain ⟨l1, l2, l3⟩ := rev_last (b := (bx, by_)) (a := (ax, ay)) (r := r')
            have hlen : ((bx, by_) :: (ax, ay) :: r').reverse.length = r'.length + 2 := by simp
            have hL := HL.out
            rw [List.length_cons, List.length_cons] at hL
            have hrow := (GrowP.own HS.out.own).row
            obtain ⟨b2, o2, e2, a0, a1⟩ := hrow.at (i := r'.length) (by rw [hlen]; omega)
            cases e2
            obtain ⟨b3, o3, e3, c0, c1⟩ := hrow.at (i := r'.length + 1) (by rw [hlen]; omega)
            cases e3
            rw [l2] at a0 a1
            rw [l1] at c0 c1
            dsimp only at a0 a1 c0 c1
            rw [Nat.zero_add] at a0 a1 c0 c1
            have HA := Lib.hid (HB.out _ (List.mem_cons_of_mem _ (List.mem_cons_self ..)))
            have HB1 := Lib.hid (HB.out _ (List.mem_cons_self ..))
            have HBD := Lib.hid (fun w' => bend_any ax ay bx by_ sx sy w' HA.out HB1.out HSS.out)
            have HSL : Hid (SmSt w ((ax, ay) :: r').reverse (.slice (some ⟨g, 0, none⟩) (r'.length + 1) cap) wp) := by
              have h := HS.out.short (i := r'.length + 1) (by rw [hlen]; omega)
              rw [l3] at h
              exact h
            have HBN : Hid (∀ q, q ∈ (ax, ay) :: r' → Sm q) := fun q hq => HB.out q (List.mem_cons_of_mem _ hq)
            have HPY : Hid (bndJ (ax, ay) (bx, by_) (sx, sy) ≤ 0 → popS (sx, sy) ((ax, ay) :: r') = popS (sx, sy) st) := fun h => by
              rw [← HPO.out]
              conv => rhs; unfold popS
              rw [if_pos h]
            have HPN : Hid (¬ bndJ (ax, ay) (bx, by_) (sx, sy) ≤ 0 → SmSt w (popS (sx, sy) st).reverse (.slice (some ⟨g, 0, none⟩) (r'.length + 2) cap) wp) := fun h => by
              rw [← HPO.out]
              unfold popS
              rw [if_neg h]
              have h2 := HS.out
              rw [hlen] at h2
              exact h2
            obtain ⟨a', cap', e5, hcap⟩ := HS.out.own.form
            simp only [Value.slice.injEq] at e5
            obtain ⟨-, -, rfl⟩ := e5
            rw [hlen] at hcap ⊢
            have hL2 : r'.length + 1 ≤ 1200 := by omega
            have HLN : Hid (((ax, ay) :: r').length ≤ 1200) := by show _ ≤ _; rw [List.length_cons]; exact hL2
            generalize bndJ (ax, ay) (bx, by_) (sx, sy) = t at *
            generalize hm' : r'.length = m at *
            have hgt : (1 : Int) < (m : Int) + 2 := by omega
            have la := World.block_lt_of_cell? _ _ a0
            clear l1 l2 l3 hlen hL hrow HS HB HL HPO HA HB1 hm'
            go_upto_region 5 with fail
            refine wp_region_over_lit (by kernel_rfl) (by kernel_rfl) ?_; (repeat (go_big_quiet_step ((go_at_call 54; exact Calls.over_of (HBD.out _))))); refine wpQuiet_nil ?_; rintro _ ⟨x1, rfl⟩
            have hxx : wp.Ext (wp.over x1) := ⟨x1, rfl⟩
            have HXF := Lib.hid (HX.out.trans hxx)
            by_cases htn : t ≤ 0
            · have htd : decide (t ≤ 0) = true := decide_eq_true htn
              have HSF := Lib.hid (HSL.out.ext hxx)
              have HPF := Lib.hid (HPY.out htn)
              have hsl : ∀ u : World, (Instr.sliceAt 37 (.slice (some ⟨g, 0, none⟩) (m + 2) cap) none (some (.int .i64 ((m : Int) + 1))) none).run Try.prog u = .ok (.slice (some ⟨g, 0, none⟩) (m + 1) cap) u := fun u => slice_highP g (m + 2) cap (m + 1) u (by omega) hcap
              clear hxx a0 a1 c0 c1 g0 g1 lg la HSL HPY HPN HBD
              go_wp2_with fail
              go_roundw
              case rel => exact ⟨(ax, ay) :: r', HPF, HSF, HXF, HBN, HLN⟩
              case measure => simp [lenW]
            · have htd : decide (t ≤ 0) = false := decide_eq_false htn
              have HSF := Lib.hid ((HPN.out htn).ext hxx)
              clear hxx a0 a1 c0 c1 g0 g1 lg la HSL HPY HPN HBD
              go_wp2_with fail
              go_meet
              exact ⟨HSF, HXF⟩
      case rest =>
        obtain ⟨wp, rfl⟩ : ∃ z : World, z = wc := ⟨_, rfl⟩
        obtain ⟨HS, HX⟩ := hcut
        have g0 := (HTW.out.ext HX.out).cell0
        have g1 := (HTW.out.ext HX.out).cell1
        have lg := World.block_lt_of_cell? _ _ g0
        have hlk := HLK.out
        obtain ⟨PL, hPL⟩ : ∃ PL, PL = (popS (sx, sy) st).reverse := ⟨_, rfl⟩
        have hpl : PL.length ≤ 1200 := by
          rw [hPL, List.length_reverse]
          have := popS_len (sx, sy) st
          omega
        have HCK2 : Hid ((chS (ps.take (k + 1))).reverse = PL ++ [(sx, sy)]) := by
          show _ = _
          rw [HCK.out, List.reverse_cons, ← hPL]
        rw [← hPL] at HS
        clear hPL HCK HLK HBK hlk HS5
        have hown : wp.ownsRow w.heap.size 33 2 u3 PL.length ((flatP PL).map (Value.int .i64)) := HS.out.own
        have HB1 : Hid (PL.length + 1 ≤ maxLen) := by show _ ≤ _; unfold maxLen; omega
        have HB2 : Hid ((PL.length + 1) * 16 ≤ 140737488355328) := by show _ ≤ _; omega
        have HLE : Hid (∀ o : Obj, w.heap.size ≤ (wp.alloc o).heap.size) := fun o => (HS.out.x.alloc o).size
        have HNX : Hid (∀ (o : Obj) (v' : Value) (w9 : World), (wp.alloc o).grownBy w9 u3.ownBlock → w9.ownsRow w.heap.size 33 2 v' (PL.length + 1) ((flatP PL).map (Value.int .i64) ++ [.int .i64 sx, .int .i64 sy]) → Hid (SmSt w (chS (ps.take (k + 1))).reverse v' w9)) := fun o v' w9 hg ho => by
          rw [HCK2.out]
          exact HS.out.push hg ho
        clear HS HX
        go_wp2_with (at_builtin; refine wpList_append_own_at _ rfl _ _ 37 rfl w.heap.size 33 iw (.agg #[.int .i64 0, .int .i64 0]) 2 16 Try.underlying37 hiw hz0 hz1 hz2 rfl (by decide) _ _ _ rfl (hown.alloc _) ⟨wp.heap.size, 0, none⟩ 1 1 [.int .i64 sx, .int .i64 sy] rfl rfl (cell_two_new _ _ _ _) (by simp [Value.oneCell']) HB1.out HB2.out (HLE.out _) (fun v' w4 hown' hgrow _ hat => ?_); have HS9 := HNX.out _ _ _ hgrow hown'; clear hgrow hown' hown hat)
        go_roundw
        case rel => exact ⟨k + 1, by omega, by go_num, HS9⟩
        case measure => simp [intOf]; omega
    · have hke : k = n := by omega
      subst hke
      have hkn' : ¬ (k : Int) < (k : Int) := by omega
      rw [HCE.out] at HS
      obtain ⟨CR, hCR⟩ : ∃ CR, CR = (chS ps).reverse := ⟨_, rfl⟩
      have hcl : 1 ≤ CR.length ∧ CR.length ≤ k := by
        have h := HCL.out k (Nat.le_refl _)
        rw [HCE.out] at h
        rw [hCR, List.length_reverse]
        refine ⟨?_, h⟩
        have e := HCT.out (k - 1) (by omega)
        rw [show k - 1 + 1 = k by omega, HCE.out] at e
        rw [e]
        simp
      rw [← hCR] at HS
      have HCR := Lib.hid hCR
      clear hCR HCE HCT HCL HSB
      obtain ⟨g, cap, rfl⟩ := HS.out.form
      obtain ⟨a', cap', e5, hcap⟩ := HS.out.own.form
      simp only [Value.slice.injEq] at e5
      obtain ⟨-, -, rfl⟩ := e5
      obtain ⟨m, hm⟩ : ∃ m, CR.length = m + 1 := ⟨CR.length - 1, by omega⟩
      have hdl : CR.dropLast = CR.take m := by rw [List.dropLast_eq_take, hm, Nat.add_sub_cancel]
      have hdn : (CR.take m).length = m := by rw [List.length_take]; omega
      have HRT : Hid (SpsRet w CR.dropLast (.returned (.slice (some ⟨g, 0, none⟩) m cap)) wo) := by
        have h := HS.out.short (i := m) (by omega)
        rw [hdl]
        refine ⟨g, cap, by rw [hdn], ?_⟩
        rw [hdn]
        exact h
      rw [hm] at hcap ⊢
      have hsl : ∀ u : World, (Instr.sliceAt 37 (.slice (some ⟨g, 0, none⟩) (m + 1) cap) none (some (.int .i64 (m : Int))) none).run Try.prog u = .ok (.slice (some ⟨g, 0, none⟩) m cap) u := fun u => slice_highP g (m + 1) cap m u (by omega) hcap
      have hm2 : m ≤ 1200 := by omega
      clear HS hdl hdn hm hcl
      go_wp2_with fail
      go_ret
      have h := HRT.out
      rw [HCR.out, ← HRS.out] at h
      exact h
end Go.Proofs.Ytelaoimcaidoiaa

/- slices.Grow of nothing: room of the call's own. -/
namespace Go.Proofs.Ytelaoimcaidoiaa
open Go Go.RowKit
theorem append_make (n : Nat) (h1 : 1 ≤ n) (hn : n ≤ 100000) (w : World) :
    ∃ cur cap, (∀ ty, (Builtin.append_ #[37, 3] ty #[.slice none 0 0, .int .i64 (n : Int)]).run Try.prog w = .ok (.slice (some ⟨w.heap.size, 0, none⟩) n cap) (w.drew.alloc (.cells cur 33))) ∧ n ≤ cap ∧ cap ≤ maxLen ∧ cur.size = cap * 2 := by
  obtain ⟨i0, hi, hz, hs, hb⟩ := info_parts Try.infoSpotG
  have hge := grownCap_ge w n 0 33
  have hle := grownCap_le_maxLen w n 0 33 (by unfold maxLen; omega)
  refine ⟨Builtin.zeroCells (Value.agg #[.int .i64 0, .int .i64 0]).cells n ++ Builtin.zeroCells (Value.agg #[.int .i64 0, .int .i64 0]).cells (grownCap w n 0 33 - n), grownCap w n 0 33, fun ty => ?_, hge, hle, ?_⟩
  · have ht : Try.prog.underlying 37 = some (.slice 33) := Try.underlying37
    have hk : Try.prog.underlying 3 = some (.int .i64) := Try.underlying3
    have hw : IntKind.i64.wrap (n : Int) = n := IntWalk.i64_in _ (by omega)
    have e1 : ¬ ((n : Int) < 0) := by omega
    have e2 : ¬ ((281474976710656 : Int) < (n : Int) * 16) := by omega
    have e3 : ¬ (n = 0) := by omega
    have e4 : ¬ ((9223372036854775807 : Int) < (n : Int)) := by omega
    have e5 : ¬ (281474976710656 < Builtin.nextslicecap n 0 * 16) := by
      unfold Builtin.nextslicecap
      split <;> omega
    simp [Builtin.append_, run_underlying ht, run_underlying hk, sizeOf, typeInfo, zeroValue, hi, hz, hs, hb, hw, e1, e2, e3, e4, e5, asInt, asIntOf, Question.forced, newRow, grownCap, Builtin.firstCells]
    intro h
    omega
  · rw [Array.size_append, size_zeroCells, size_zeroCells]
    show n * 2 + (grownCap w n 0 33 - n) * 2 = _
    omega
theorem wpList_append_make {ops : Array Oper} {rest : List Oper} {o : Oper} {a : Act} {Q : Exit → Act → World → Prop} {w : World} (n : Nat) (h1 : 1 ≤ n) (hn : n ≤ 100000) (hgd : o.guard = none) (s x : Operand)
    (ho : o.op = .call { callee := .builtin .append, args := #[s, x], argTypes := #[37, 3] }) (hs : a.eval s = .slice none 0 0) (hx : a.eval x = .int .i64 (n : Int))
    (h : ∀ cur cap, n ≤ cap → cap ≤ maxLen → cur.size = cap * 2 → wpList Try.prog ops Q rest (a.put o.dst (.slice (some ⟨w.heap.size, 0, none⟩) n cap)) (w.drew.alloc (.cells cur 33))) :
    wpList Try.prog ops Q (o :: rest) a w := by
  refine wpList_plain hgd fun K hK => ?_
  obtain ⟨cur, cap, hr, h2, h3, h4⟩ := append_make n h1 hn w
  have hr' := hr o.type
  unfold Oper.wp execOp
  simp only [ho, resolve, invoke, builtin, Sem.run_bind, Sem.run_pure, Result.andThen_ok, List.map_toArray, List.map_cons, List.map_nil, hs, hx, hr']
  exact hK _ _ (h cur cap h2 h3 h4)
theorem made_st (n : Nat) {w : World} {cur : Array Value} {cap : Nat} (hcap : n ≤ cap) (hmax : cap ≤ maxLen) (hsz : cur.size = cap * 2) (h1 : 1 ≤ n) :
    (∀ u : World, (Instr.sliceAt 37 (.slice (some ⟨w.heap.size, 0, none⟩) n cap) none (some (.int .i64 0)) none).run Try.prog u = .ok (.slice (some ⟨w.heap.size, 0, none⟩) 0 cap) u) ∧
    Hid (SmSt w [] (.slice (some ⟨w.heap.size, 0, none⟩) 0 cap) (w.drew.alloc (.cells cur 33))) :=
  ⟨fun u => slice_highP w.heap.size n cap 0 u (by omega) hcap, by repeat (first | exact World.Ext.refl _ | exact ⟨_, rfl⟩ | assumption | refine World.Ext.over ?_ _ | refine World.Ext.drewN ?_ _ | refine World.Ext.drew ?_ | refine World.Ext.alloc ?_ _ | refine World.Ext.setCell ?_ (by simp) _), ⟨rfl, .inr ⟨w.heap.size, cap, cur, rfl, Nat.le_refl _, heap_alloc_new w.drew _, Nat.zero_le _, hmax, hsz, by simp [flatP]⟩⟩, _, _, _, rfl⟩
set_option maxRecDepth 5000 in
set_option maxHeartbeats 1600000 in
theorem growNil_any (n : Nat) (h1 : 1 ≤ n) (hn : n ≤ 100000) (w : World) :
    Calls Try.prog 55 #[.slice none 0 0, .int .i64 (n : Int)] w fun e w' => ∃ g cap, e = .returned (.slice (some ⟨g, 0, none⟩) 0 cap) ∧ SmSt w [] (.slice (some ⟨g, 0, none⟩) 0 cap) w' := by
  have hn0 : (0 : Int) < (n : Int) := by omega
  go_enter Try.func55, Try.ntmps55
  go_wp2_with (at_builtin; refine wpList_append_make n h1 hn rfl _ _ rfl rfl rfl (fun cur cap hcap hmax hsz => ?_); obtain ⟨hsl, HR⟩ := made_st (w := w) n hcap hmax hsz h1; clear hcap hmax hsz)
  go_ret
  exact ⟨_, _, rfl, HR.out⟩
end Go.Proofs.Ytelaoimcaidoiaa

/- slices.Concat of two rows of spots. -/
namespace Go.Proofs.Ytelaoimcaidoiaa
open Go Go.RowKit
theorem row_news {w : World} {b o : Nat} {xs : List (Int × Int)} (h : RowP w (some ⟨b, o, none⟩) xs) : ∀ j u, ((flatP xs).map (Value.int .i64))[j]? = some u → w.cell? ((⟨b, o, none⟩ : Addr).add j) = some u := by
  intro j u hu
  have hj : j < (flatP xs).length := by
    have := (List.getElem?_eq_some_iff.1 hu).1
    rwa [List.length_map] at this
  obtain ⟨b', o', e, hc⟩ := h j hj
  cases e
  rw [List.getElem?_map, List.getElem?_eq_getElem hj] at hu
  cases hu
  rw [List.getD_eq_getElem?_getD, List.getElem?_eq_getElem hj] at hc
  rw [show ((⟨b, o, none⟩ : Addr).add j) = ⟨b, o + j, none⟩ by simp [Addr.add]]
  exact hc
theorem SmSt.more {W0 w3 w4 : World} {L xs : List (Int × Int)} {v v' : Value} (h : SmSt W0 L v w3) (hgrow : w3.grownBy w4 v.ownBlock)
    (hown : w4.ownsRow W0.heap.size 33 2 v' (L.length + xs.length) ((flatP L).map (Value.int .i64) ++ (flatP xs).map (Value.int .i64))) (hat : v'.ownBlock = v.ownBlock ∨ v'.ownBlock = some w3.heap.size) : SmSt W0 (L ++ xs) v' w4 := by
  have hg : GrowP W0.heap.size 33 w4 v' (L ++ xs) := by
    unfold GrowP
    rw [List.length_append, flatP_append, List.map_append]
    exact hown
  have hlo : ∀ k, v.ownBlock = some k → W0.heap.size ≤ k := fun k hk => (h.own.lt k hk).1
  refine ⟨h.x.grown hgrow hlo, hg, ?_⟩
  obtain ⟨g, n, cap, hv⟩ := h.sm
  obtain ⟨a', cap', hv', -⟩ := hg.form
  subst hv'
  cases a' with
  | none =>
    rw [hv] at hat
    rcases hat with e | e <;> cases e
  | some ad =>
    have h2 := hg.2
    rcases h2 with ⟨e, -⟩ | ⟨g2, cap2, cur, e, -⟩
    · cases e
    · simp only [Value.slice.injEq, Option.some.injEq] at e
      obtain ⟨rfl, -, -⟩ := e
      exact ⟨g2, _, _, rfl⟩
set_option maxRecDepth 20000 in
set_option maxHeartbeats 3200000 in
theorem concat_any (b g1 o1 c1 g2 o2 c2 : Nat) (xs ys : List (Int × Int)) (w : World) (k0 : w.cell? ⟨b, 0, none⟩ = some (.slice (some ⟨g1, o1, none⟩) xs.length c1)) (k1 : w.cell? ⟨b, 1, none⟩ = some (.slice (some ⟨g2, o2, none⟩) ys.length c2))
    (h1 : RowP w (some ⟨g1, o1, none⟩) xs) (h2 : RowP w (some ⟨g2, o2, none⟩) ys) (hl1 : 1 ≤ xs.length + ys.length) (hl2 : xs.length + ys.length ≤ 3000) :
    Calls Try.prog 32 #[.slice (some ⟨b, 0, none⟩) 2 2] w (SpsRet w (xs ++ ys)) := by
  obtain ⟨iw, hiw, hz0, hz1, hz2⟩ := info_parts Try.infoSpotG
  obtain ⟨LK, hLK⟩ : ∃ LK : Nat → List (Int × Int), LK = fun k => if k = 0 then [] else if k = 1 then xs else xs ++ ys := ⟨_, rfl⟩
  have HK : Hid (∀ k, k < 2 → ∃ g o L c, (∀ w', w.Ext w' → w'.cell? ⟨b, k, none⟩ = some (.slice (some ⟨g, o, none⟩) L.length c) ∧ RowP w' (some ⟨g, o, none⟩) L) ∧ LK (k + 1) = LK k ++ L ∧ (LK k).length + L.length ≤ 3000) := fun k hk => by
    have hk2 : k = 0 ∨ k = 1 := by omega
    rcases hk2 with rfl | rfl
    · exact ⟨g1, o1, xs, c1, fun w' hx => ⟨hx.cell k0, RowP.ext h1 hx⟩, by rw [hLK]; rfl, by rw [hLK]; simp; omega⟩
    · exact ⟨g2, o2, ys, c2, fun w' hx => ⟨hx.cell k1, RowP.ext h2 hx⟩, by rw [hLK]; rfl, by rw [hLK]; simp; omega⟩
  have H0 : Hid (LK 0 = []) := by show _ = _; rw [hLK]; rfl
  have H2 : Hid (LK 2 = xs ++ ys) := by show _ = _; rw [hLK]; rfl
  have HL2 : Hid (1 ≤ (LK 2).length ∧ (LK 2).length ≤ 3000) := by
    rw [hLK]
    show 1 ≤ (xs ++ ys).length ∧ (xs ++ ys).length ≤ 3000
    rw [List.length_append]
    exact ⟨hl1, hl2⟩
  clear hLK k0 k1 h1 h2 hl1 hl2
  rw [← H2.out]
  clear H2
  go_enter Try.func32, Try.ntmps32
  go_wp2
  go_loopw [3, 5, 11] (fun s _ z wr => ∃ k : Nat, k ≤ 2 ∧ z = .int .i64 k ∧ s = .int .i64 ((LK k).length : Nat) ∧ Hid (w.Ext wr)) (fun _ _ z _ => 2 - (intOf z).toNat)
  case atStart => exact ⟨0, Nat.zero_le _, rfl, by rw [H0.out]; rfl, .refl _⟩
  case round =>
    obtain ⟨k, hk, rfl, rfl, HX⟩ := hrel
    obtain ⟨wo, rfl⟩ : ∃ wo : World, wo = wr := ⟨_, rfl⟩
    have hk0 : (0 : Int) ≤ (k : Int) := by omega
    by_cases hlt : k < 2
    · have hlt' : (k : Int) < 2 := by omega
      obtain ⟨g, o, L, c, hc, hn, hb⟩ := HK.out k hlt
      obtain ⟨d0, -⟩ := hc wo HX.out
      have ld := World.block_lt_of_cell? _ _ d0
      have HE : Hid ((LK (k + 1)).length = (LK k).length + L.length) := by show _ = _; rw [hn, List.length_append]
      clear hc hn
      generalize L.length = m at *
      generalize (LK k).length = s at *
      have hs3 : ¬ ((s : Int) + (m : Int) < 0) := by omega
      go_wp2
      go_roundw
      case rel => exact ⟨k + 1, by omega, by go_num, by rw [HE.out]; go_num, HX⟩
      case measure => simp [intOf]; omega
    · have hke : k = 2 := by omega
      subst hke
      have hlt' : ¬ (2 : Int) < 2 := by omega
      have HGR : Hid (Calls Try.prog 55 #[.slice none 0 0, .int .i64 (((LK 2).length : Nat) : Int)] wo fun e w' => ∃ g cap, e = .returned (.slice (some ⟨g, 0, none⟩) 0 cap) ∧ SmSt wo [] (.slice (some ⟨g, 0, none⟩) 0 cap) w') := growNil_any _ HL2.out.1 (by have := HL2.out.2; omega) wo
      clear hlt
      go_wp2_with fail
      refine HGR.out.mono ?_
      rintro e w1 ⟨g6, cap6, rfl, hs6⟩
      have HS1 : Hid (SmSt w (LK 0) (.slice (some ⟨g6, 0, none⟩) 0 cap6) w1) := by
        rw [H0.out]
        exact ⟨HX.out.trans hs6.x, hs6.own.mono HX.out.size, hs6.sm⟩
      clear hs6 HGR HX hk hk0 hlt' H0
      go_wp2
      go_loopw [6, 8, 27] (fun v _ z wr => ∃ k : Nat, k ≤ 2 ∧ z = .int .i64 k ∧ Hid (SmSt w (LK k) v wr)) (fun _ _ z _ => 2 - (intOf z).toNat)
      case atStart => exact ⟨0, Nat.zero_le _, rfl, HS1⟩
      case round =>
        clear HS1
        obtain ⟨k, hk, rfl, HS⟩ := hrel
        obtain ⟨wp, rfl⟩ : ∃ wp : World, wp = wr := ⟨_, rfl⟩
        have hk0 : (0 : Int) ≤ (k : Int) := by omega
        by_cases hlt : k < 2
        · have hlt' : (k : Int) < 2 := by omega
          obtain ⟨g, o, L, c, hc, hn, hb⟩ := HK.out k hlt
          obtain ⟨d0, hr⟩ := hc wp HS.out.x
          have ld := World.block_lt_of_cell? _ _ d0
          have HR := Lib.hid hr
          have HFL := Lib.hid (flatP_len L)
          have hown : wp.ownsRow w.heap.size 33 2 u6 (LK k).length ((flatP (LK k)).map (Value.int .i64)) := HS.out.own
          have HB1 : Hid ((LK k).length + L.length ≤ maxLen) := by show _ ≤ _; unfold maxLen; omega
          have HB2 : Hid (((LK k).length + L.length) * 16 ≤ 140737488355328) := by show _ ≤ _; omega
          have HLE := Lib.hid HS.out.x.size
          have HNX : Hid (∀ (v' : Value) (w9 : World), wp.grownBy w9 u6.ownBlock → w9.ownsRow w.heap.size 33 2 v' ((LK k).length + L.length) ((flatP (LK k)).map (Value.int .i64) ++ (flatP L).map (Value.int .i64)) → (v'.ownBlock = u6.ownBlock ∨ v'.ownBlock = some wp.heap.size) → Hid (SmSt w (LK (k + 1)) v' w9)) := fun v' w9 hg ho hat => by
            rw [hn]
            exact HS.out.more hg ho hat
          clear hc hr HS hn hb
          go_wp2_with (at_builtin; refine wpList_append_own_at _ rfl _ _ 37 rfl w.heap.size 33 iw (.agg #[.int .i64 0, .int .i64 0]) 2 16 Try.underlying37 hiw hz0 hz1 hz2 rfl (by decide) _ _ _ rfl hown ⟨g, o, none⟩ L.length c ((flatP L).map (Value.int .i64)) rfl (by rw [List.length_map, HFL.out, Nat.mul_comm]) (row_news HR.out) (by simp [Value.oneCell']) HB1.out HB2.out HLE.out (fun v' w4 hown' hgrow _ hat => ?_); have HS9 := HNX.out _ _ hgrow hown' hat; clear hgrow hown' hown hat)
          go_roundw
          case rel => exact ⟨k + 1, by omega, by go_num, HS9⟩
          case measure => simp [intOf]; omega
        · have hke : k = 2 := by omega
          subst hke
          have hlt' : ¬ (2 : Int) < 2 := by omega
          obtain ⟨g, cap, rfl⟩ := HS.out.form
          have HRT : Hid (SpsRet w (LK 2) (.returned (.slice (some ⟨g, 0, none⟩) (LK 2).length cap)) wp) := ⟨g, cap, rfl, HS.out⟩
          clear HS
          go_wp2
          go_ret
          exact HRT.out
end Go.Proofs.Ytelaoimcaidoiaa

/- A row of spots of the call's own, turned around in place. -/
namespace Go.Proofs.Ytelaoimcaidoiaa
open Go Go.RowKit Go.Sort Go.Shelf
theorem reverse_any (base g cap : Nat) (ps : List (Int × Int)) (w : World) (hown : GrowP base 33 w (.slice (some ⟨g, 0, none⟩) ps.length cap) ps) (hn : ps.length ≤ 1048576) :
    Calls Try.prog 30 #[.slice (some ⟨g, 0, none⟩) ps.length cap] w fun e w' => e = .returned (.tuple #[]) ∧ GrowP base 33 w' (.slice (some ⟨g, 0, none⟩) ps.length cap) ps.reverse ∧ w.grownBy w' (some g) := by
  have hown' : w.ownsRow base 33 2 (.slice (some ⟨g, 0, none⟩) ps.length cap) ps.length ((flatP ps).map (Value.int .i64)) := hown
  have hfl := flatK_list encSp 2 (fun _ => rfl) ps.toArray
  rw [List.toList_toArray, flatMap_encSp] at hfl
  have hH : HoldsK encSp 2 w g 0 ps.toArray := ownsRow_holds hown' _ hfl
  have h := AnyQ.slices_Reverse Try.revSpot 2 Try.isAgg33 Try.sizeOf33 encSp (fun _ => rfl) (fun x v hv => by simp [encSp] at hv; rcases hv with rfl | rfl <;> rfl) g 0 cap ps.toArray w hH (by simp; omega)
  rw [List.size_toArray] at h
  refine Calls.mono h ?_
  rintro e w' ⟨he, n, rfl⟩
  obtain ⟨h1, h2⟩ := ownsRow_sorted hown' n (flatK encSp 2 ps.toArray.reverse) (by simp) #[]
  have hg : ∀ u : World, grow u #[] = u := fun u => by simp [grow]
  rw [hg] at h1 h2
  rw [flatK_list encSp 2 (fun _ => rfl), flatMap_encSp] at h1
  refine ⟨he, ?_, h2⟩
  unfold GrowP
  rw [List.length_reverse]
  have e2 : ps.toArray.reverse.toList = ps.reverse := by simp
  rw [e2] at h1
  exact h1
end Go.Proofs.Ytelaoimcaidoiaa

/- The hull of a border: the program's. -/
namespace Go.Proofs.Ytelaoimcaidoiaa
open Go Go.RowKit Go.Sort
theorem growP_other {lo g5 g n c : Nat} {e : TypeId} {w w' : World} {xs : List (Int × Int)} (h : GrowP lo e w (.slice (some ⟨g5, 0, none⟩) n c) xs) (hg : w.grownBy w' (some g)) (hne : g5 ≠ g) : GrowP lo e w' (.slice (some ⟨g5, 0, none⟩) n c) xs := by
  obtain ⟨h1, h2⟩ := h
  refine ⟨h1, ?_⟩
  rcases h2 with ⟨h0, _⟩ | ⟨g', cap', cur, hv, hl, hb, hc, hm, hs, ht⟩
  · cases h0
  · simp only [Value.slice.injEq, Option.some.injEq, Addr.mk.injEq, and_true] at hv
    obtain ⟨rfl, hn, rfl⟩ := hv
    refine .inr ⟨g5, c, cur, by rw [hn], hl, ?_, hc, hm, hs, ht⟩
    rw [hg.block g5 (Array.getElem?_eq_some_iff.1 hb).1 (fun e => hne (Option.some.inj e))]
    exact hb
theorem ext_gr (w : World) (q : Nat) (os : Array Obj) : w.Ext (grow (w.drewN q) os) := ⟨{ w with heap := os, drawn := (w.drewN q).drawn }, rfl⟩
/-- What the law asks of a hull. -/
structure HulOk (CL h : List (Int × Int)) : Prop where
  four : 4 ≤ h.length
  few : h.length ≤ 1200
  bend : ∀ i, i < h.length → 0 < crx (h.getD i (0, 0)) (h.getD ((i + 1) % h.length) (0, 0)) (h.getD ((i + 2) % h.length) (0, 0))
  on : ∀ i, i < h.length → ∀ q, q ∈ CL → 0 ≤ crx (h.getD i (0, 0)) (h.getD ((i + 1) % h.length) (0, 0)) q
  sub : ∀ q, q ∈ h → q ∈ CL
  fst : ∀ i, i < h.length → rdB (h.getD i (0, 0)) (h.getD 0 (0, 0)) = false
theorem hulL_len {ps : List (Int × Int)} : (hulL ps).length ≤ ps.length + ps.length := by
  unfold hulL
  have h1 := chS_len ps ps.length (Nat.le_refl _)
  have h2 := chS_len ps.reverse ps.reverse.length (Nat.le_refl _)
  rw [List.take_length] at h1 h2
  rw [List.length_reverse] at h2
  simp only [List.length_append, List.length_dropLast, List.length_reverse]
  omega
theorem hulOk_of {CL ps : List (Int × Int)} (hs : ps.Pairwise lxl) (hm : ∀ q, q ∈ ps ↔ q ∈ CL) (h1 : 1 ≤ ps.length) (h6 : ps.length ≤ 600)
    (hx : ∀ p, p ∈ CL → (∃ q, q ∈ CL ∧ q.1 = p.1 ∧ q.2 ≠ p.2) ∧ (∃ q, q ∈ CL ∧ q.2 = p.2 ∧ q.1 ≠ p.1)) :
    4 ≤ (hulL ps).length ∧ HulOk CL (rotL (fstN (hulL ps) (hulL ps).length) (hulL ps)) := by
  obtain ⟨H, hf⟩ := hull_all hs h1 fun p hp => by
    obtain ⟨⟨a, a1, a2⟩, ⟨b, b1, b2⟩⟩ := hx p ((hm p).1 hp)
    exact ⟨⟨a, (hm a).2 a1, a2⟩, ⟨b, (hm b).2 b1, b2⟩⟩
  have H4 := (hull_cor hs h1 fun p hp => by
    obtain ⟨⟨a, a1, a2⟩, ⟨b, b1, b2⟩⟩ := hx p ((hm p).1 hp)
    exact ⟨⟨a, (hm a).2 a1, a2⟩, ⟨b, (hm b).2 b1, b2⟩⟩).four
  have hlt := fstN_lt (hulL ps) (hulL ps).length (by unfold hulL; omega)
  have hl := rotL_len (Nat.le_of_lt hlt)
  have hle := hulL_len (ps := ps)
  refine ⟨H4, ⟨H.four, by rw [hl]; omega, H.bend, fun i hi q hq => H.on i hi q ((hm q).2 hq), fun q hq => (hm q).1 (H.sub q hq), fun i hi => hf i (by rw [hl] at hi; exact hi)⟩⟩
theorem flatP_dr : ∀ (ps : List (Int × Int)) (k : Nat), flatP (ps.drop k) = (flatP ps).drop (k * 2)
  | [], _ => by simp [flatP]
  | _ :: _, 0 => by simp
  | p :: ps, k + 1 => by
    have ih := flatP_dr ps k
    rw [show (k + 1) * 2 = k * 2 + 1 + 1 by omega]
    simp [flatP, ih]
theorem row_drop {w : World} {g f : Nat} {h : List (Int × Int)} (hm : RowP w (some ⟨g, 0, none⟩) h) : RowP w (some ⟨g, f * 2, none⟩) (h.drop f) := fun i hi => by
  rw [flatP_dr] at hi ⊢
  rw [List.length_drop] at hi
  obtain ⟨b, o, e, hc⟩ := hm (f * 2 + i) (by omega)
  cases e
  refine ⟨g, f * 2, rfl, ?_⟩
  rw [Nat.zero_add] at hc
  rw [hc, List.getD_eq_getElem?_getD, List.getD_eq_getElem?_getD, List.getElem?_drop]
theorem row_take {w : World} {g f : Nat} {h : List (Int × Int)} (hm : RowP w (some ⟨g, 0, none⟩) h) : RowP w (some ⟨g, 0, none⟩) (h.take f) := fun i hi => by
  rw [flatP_take] at hi ⊢
  rw [List.length_take] at hi
  obtain ⟨b, o, e, hc⟩ := hm i (by omega)
  cases e
  refine ⟨g, 0, rfl, ?_⟩
  rw [hc, List.getD_eq_getElem?_getD, List.getD_eq_getElem?_getD, List.getElem?_take, if_pos (by omega)]
theorem rdB_ord (p q : Int × Int) : decide (ordJ p q < 0) = rdB p q := by
  unfold rdB
  exact decide_eq_decide.2 (ordJ_neg p q)
def HulRet (w : World) (CL : List (Int × Int)) (e : Ending) (w' : World) : Prop := ∃ h g cap, HulOk CL h ∧ e = .returned (.tuple #[.slice (some ⟨g, 0, none⟩) h.length cap, .bool true]) ∧ w.Ext w' ∧ RowP w' (some ⟨g, 0, none⟩) h
set_option maxRecDepth 20000 in
set_option maxHeartbeats 6400000 in
theorem hullOf_any (f : Int → Int → Bool) (e : Edg) (w : World) (hbx : InBx f 16 16) (hok : EOk f e) (h4 : 4 ≤ per f e) (h6 : per f e ≤ 600) (h0 : isC (cK fun i => itr f i e) (per f e) 0 = true) :
    Calls Try.prog 11 #[.agg #[.int .i64 e.x, .int .i64 e.y, .string (wrd f e)]] w (HulRet w (corL (fun i => itr f i e) (per f e) (per f e))) := by
  obtain ⟨iw, hiw, hz0, hz1, hz2⟩ := info_parts Try.infoSpotG
  have hper := (per_of hbx (Nat.le_refl _) (Nat.le_refl _) hok).1
  have hW : Way (fun i => itr f i e) (per f e) := (Ring.of hok hper).way
  have hBX := fun i => hbx.edge (itr_ok hok i)
  have hle : (corL (fun i => itr f i e) (per f e) (per f e)).length ≤ 600 := Nat.le_trans (corL_few _ _ _) h6
  have hcl0 : 0 < (corL (fun i => itr f i e) (per f e) (per f e)).length := by rw [corL_len]; exact (corN_zero hW h0).2
  have HSM : Hid (∀ q, q ∈ corL (fun i => itr f i e) (per f e) (per f e) → Sm q) := fun q hq => by
    unfold corL at hq
    obtain ⟨i, -, rfl⟩ := List.mem_map.1 hq
    exact hBX i
  have HXX : Hid (∀ p, p ∈ corL (fun i => itr f i e) (per f e) (per f e) → (∃ q, q ∈ corL (fun i => itr f i e) (per f e) (per f e) ∧ q.1 = p.1 ∧ q.2 ≠ p.2) ∧ (∃ q, q ∈ corL (fun i => itr f i e) (per f e) (per f e) ∧ q.2 = p.2 ∧ q.1 ≠ p.1)) := fun p hp => by
    obtain ⟨j, hj, e1⟩ := List.getElem_of_mem hp
    have hj' : j < (corI (cK fun i => itr f i e) (per f e) (per f e)).length := by rw [← corL_len]; exact hj
    have q := cor_cross hW h0 hj'
    rw [← corL_at hj'] at q
    rw [List.getD_eq_getElem?_getD, List.getElem?_eq_getElem hj] at q
    rw [← e1]
    exact q
  obtain ⟨W0, hW0⟩ : ∃ W0, W0 = w.alloc (.cells #[.int .i64 e.x, .int .i64 e.y, .string (wrd f e)] 35) := ⟨_, rfl⟩
  have hx0 : w.Ext W0 := by rw [hW0]; repeat (first | exact World.Ext.refl _ | exact ⟨_, rfl⟩ | assumption | refine World.Ext.over ?_ _ | refine World.Ext.drewN ?_ _ | refine World.Ext.drew ?_ | refine World.Ext.alloc ?_ _ | refine World.Ext.setCell ?_ (by simp) _)
  have HC0 : Hid (∀ w', W0.Ext w' → w'.cell? ⟨w.heap.size, 0, none⟩ = some (.int .i64 e.x) ∧ w'.cell? ⟨w.heap.size, 1, none⟩ = some (.int .i64 e.y) ∧ w'.cell? ⟨w.heap.size, 2, none⟩ = some (.string (wrd f e))) := fun w' hx => by
    refine ⟨hx.cell ?_, hx.cell ?_, hx.cell ?_⟩ <;> (rw [hW0]; simp [go_sem])
  have HIB := Lib.hid (isBord_any f e W0 hbx hok h4 h6)
  have HCO := Lib.hid (fun w' => cornersOf_any f e w' hbx hok h6)
  have HX0 := Lib.hid hx0
  clear hx0 hbx hok h4 h6 h0 hper hW hBX
  generalize wrd f e = word at *
  generalize corL (fun i => itr f i e) (per f e) (per f e) = CL at *
  obtain ⟨c0, c1, c2⟩ := HC0.out W0 (.refl _)
  have l0 := World.block_lt_of_cell? _ _ c0
  go_enter Try.func11, Try.ntmps11
  go_upto_region 1 with fail
  rw [← hW0]
  clear hW0
  go_wp2_with fail
  refine HIB.out.mono ?_
  rintro e9 w1 ⟨rfl, hx1⟩
  clear c0 c1 c2 l0
  obtain ⟨c0, c1, c2⟩ := HC0.out w1 hx1
  have l0 := World.block_lt_of_cell? _ _ c0
  have HX1 := Lib.hid (HX0.out.trans hx1)
  clear hx1 HX0
  go_wp2_with fail
  refine (HCO.out w1).mono ?_
  rintro e9 w2 ⟨g, cap, rfl, hs2⟩
  have HX2 := Lib.hid (HX1.out.trans hs2.x)
  have HG2 : Hid (GrowP w.heap.size 33 w2 (.slice (some ⟨g, 0, none⟩) CL.length cap) CL) := hs2.own.mono HX1.out.size
  clear hs2 c0 c1 c2 l0 HCO HC0 HIB HX1
  have HSO := Lib.hid (sortHull_any w.heap.size g cap CL w2 HG2.out (by omega))
  go_wp2_with fail
  refine HSO.out.mono ?_
  rintro e9 w3 ⟨rfl, qs, hperm, hsort, hg3, hgr3⟩
  have hql : qs.length = CL.length := hperm.length_eq
  have hglo : w.heap.size ≤ g := (HG2.out.lt g rfl).1
  have hlo : ∀ k, (some g : Option Nat) = some k → w.heap.size ≤ k := fun k hk => by cases hk; exact hglo
  have HX3 := Lib.hid (HX2.out.grown hgr3 hlo)
  have HCM : Hid (Calls Try.prog 28 #[.slice (some ⟨g, 0, none⟩) CL.length cap] w3 (CmRet w.heap.size w3 g cap (cmL qs qs.length))) := by
    have q := compactG_any w.heap.size g cap qs w3 (by rw [hql]; exact hg3) (by omega)
    rw [hql] at q
    rw [hql]
    exact q
  obtain ⟨hs, hm⟩ := cmH hperm hsort
  obtain ⟨ps, hps⟩ : ∃ ps, ps = cmL qs qs.length := ⟨_, rfl⟩
  have hpn : ps.length ≤ 600 := by rw [hps]; have := cmL_len qs qs.length; omega
  rw [← hps] at HCM hs hm
  have hp1 : 1 ≤ ps.length := by
    obtain ⟨q, hq⟩ := List.exists_mem_of_length_pos hcl0
    exact List.length_pos_of_mem ((hm q).2 hq)
  have HSP : Hid (∀ q, q ∈ ps → Sm q) := fun q hq => HSM.out q ((hm q).1 hq)
  have HOK := Lib.hid (hulOk_of hs hm hp1 hpn HXX.out)
  have HLO := Lib.hid hlo
  clear hperm hsort hg3 hgr3 hql hlo hs hm hps HSM HXX HG2 HX2 HSO hcl0 hle hglo
  go_wp2_with fail
  refine HCM.out.mono ?_
  rintro e9 w4 ⟨rfl, hg4, hgr4⟩
  have HX4 := Lib.hid (HX3.out.grown hgr4 HLO.out)
  have HG4 := Lib.hid hg4
  have HCH := Lib.hid (chain_any (some ⟨g, 0, none⟩) cap ps w4 hp1 (by omega) HSP.out (GrowP.own hg4).row)
  obtain ⟨UL, hUL⟩ : ∃ UL, UL = (chS ps).reverse.dropLast := ⟨_, rfl⟩
  obtain ⟨VL, hVL⟩ : ∃ VL, VL = (chS ps.reverse).reverse.dropLast := ⟨_, rfl⟩
  have HUV : Hid (UL ++ VL = hulL ps) := by show _ = _; rw [hUL, hVL]; rfl
  have huv : UL.length + VL.length ≤ 1200 := by
    have h1 := hulL_len (ps := ps)
    rw [← HUV.out, List.length_append] at h1
    omega
  rw [← hUL] at HCH
  have HVL := Lib.hid hVL
  clear hUL hVL
  clear hg4 hgr4 HCM HX3
  go_wp2_with fail
  refine HCH.out.mono ?_
  rintro e9 w5 ⟨g5, cap5, rfl, hs5⟩
  have HX5 := Lib.hid (HX4.out.trans hs5.x)
  have HG5 := Lib.hid (HG4.out.ext hs5.x)
  have hne : g5 ≠ g := by
    have h1 := (hs5.own.lt g5 rfl).1
    have h2 := (HG4.out.lt g rfl).2
    omega
  have HU5 : Hid (GrowP w.heap.size 33 w5 (.slice (some ⟨g5, 0, none⟩) UL.length cap5) UL) := hs5.own.mono HX4.out.size
  clear hs5 HCH HG4 HX4
  have HRV := Lib.hid (reverse_any w.heap.size g cap ps w5 HG5.out (by omega))
  go_wp2_with fail
  refine HRV.out.mono ?_
  rintro e9 w6 ⟨rfl, hg6, hgr6⟩
  have HX6 := Lib.hid (HX5.out.grown hgr6 HLO.out)
  have HU6 := Lib.hid (growP_other HU5.out hgr6 hne)
  have hrl : ps.reverse.length = ps.length := List.length_reverse
  have HCH : Hid (Calls Try.prog 29 #[.slice (some ⟨g, 0, none⟩) ps.length cap] w6 (SpsRet w6 VL)) := by
    have q := chain_any (some ⟨g, 0, none⟩) cap ps.reverse w6 (by omega) (by omega) (fun q hq => HSP.out q (List.mem_reverse.1 hq)) (GrowP.own hg6).row
    rw [hrl, ← HVL.out] at q
    exact q
  clear hg6 hgr6 hrl HRV HU5 HX5 HG5 hne
  go_wp2_with fail
  refine HCH.out.mono ?_
  rintro e9 w7 ⟨g7, cap7, rfl, hs7⟩
  have HX7 := Lib.hid (HX6.out.trans hs7.x)
  have HU7 := Lib.hid (HU6.out.ext hs7.x)
  have HS7 : Hid (SmSt w UL (.slice (some ⟨g5, 0, none⟩) UL.length cap5) w7) := ⟨HX7.out, HU7.out, _, _, _, rfl⟩
  have HV7 := Lib.hid (GrowP.own hs7.own).row
  have HFL := Lib.hid (flatP_len VL)
  clear hs7 HU6 HX6 HCH HU7
  have hown : w7.ownsRow w.heap.size 33 2 (.slice (some ⟨g5, 0, none⟩) UL.length cap5) UL.length ((flatP UL).map (Value.int .i64)) := HS7.out.own
  have HB1 : Hid (UL.length + VL.length ≤ maxLen) := by show _ ≤ _; unfold maxLen; omega
  have HB2 : Hid ((UL.length + VL.length) * 16 ≤ 140737488355328) := by show _ ≤ _; omega
  have HLE := Lib.hid HX7.out.size
  have HNX : Hid (∀ (v' : Value) (w9 : World), w7.grownBy w9 (Value.ownBlock (.slice (some ⟨g5, 0, none⟩) UL.length cap5)) → w9.ownsRow w.heap.size 33 2 v' (UL.length + VL.length) ((flatP UL).map (Value.int .i64) ++ (flatP VL).map (Value.int .i64)) → (v'.ownBlock = Value.ownBlock (.slice (some ⟨g5, 0, none⟩) UL.length cap5) ∨ v'.ownBlock = some w7.heap.size) → Hid (SmSt w (hulL ps) v' w9)) := fun v' w9 hg ho hat => by
    rw [← HUV.out]
    exact HS7.out.more hg ho hat
  clear HX7
  obtain ⟨h4', hok⟩ := HOK.out
  have HOH := Lib.hid hok
  have HFN : Hid (∀ k, fstN (hulL ps) (k + 1) = if rdB ((hulL ps).getD k (0, 0)) ((hulL ps).getD (fstN (hulL ps) k) (0, 0)) = true then k else fstN (hulL ps) k) := fun k => rfl
  have HFL2 := Lib.hid (fstN_lt (hulL ps))
  have HF0 : Hid (fstN (hulL ps) 0 = 0) := rfl
  have hle6 : (hulL ps).length ≤ 1200 := by rw [← HUV.out, List.length_append]; exact huv
  have HROT : Hid (rotL (fstN (hulL ps) (hulL ps).length) (hulL ps) = (hulL ps).drop (fstN (hulL ps) (hulL ps).length) ++ (hulL ps).take (fstN (hulL ps) (hulL ps).length)) := rfl
  clear HOK hok HUV HVL HSP HS7
  generalize hulL ps = h at *
  generalize fstN h = FN at *
  go_upto_region 10 with (at_builtin; refine wpList_append_own_at _ rfl _ _ 37 rfl w.heap.size 33 iw (.agg #[.int .i64 0, .int .i64 0]) 2 16 Try.underlying37 hiw hz0 hz1 hz2 rfl (by decide) _ _ _ rfl hown ⟨g7, 0, none⟩ VL.length cap7 ((flatP VL).map (Value.int .i64)) rfl (by rw [List.length_map, HFL.out, Nat.mul_comm]) (row_news HV7.out) (by simp [Value.oneCell']) HB1.out HB2.out HLE.out (fun v' w8 hown' hgrow _ hat => ?_); have HS8 := HNX.out _ _ hgrow hown' hat; clear hgrow hown' hown hat)
  clear HNX HV7 HFL HB1 HB2 HLE
  obtain ⟨g8, cap8, rfl⟩ := HS8.out.form
  obtain ⟨a', cap', e5, hcap8⟩ := HS8.out.own.form
  simp only [Value.slice.injEq] at e5
  obtain ⟨-, -, rfl⟩ := e5
  have HR8 := Lib.hid (GrowP.own HS8.out.own).row
  have HX8 := Lib.hid HS8.out.x
  clear HS8
  obtain ⟨m, hm⟩ : ∃ m, h.length = m := ⟨_, rfl⟩
  have HM := Lib.hid hm
  rw [hm] at h4' hle6 hcap8 HROT HOH ⊢
  clear hm
  go_wp2
  go_loopw [7, 8, 9, 29] (fun fv _ _ z wr => ∃ k : Nat, k ≤ m ∧ z = .int .i64 k ∧ fv = .int .i64 (FN k : Nat) ∧ Hid (w8.Ext wr)) (fun _ _ _ z _ => m - (intOf z).toNat)
  case atStart => exact ⟨0, Nat.zero_le _, rfl, by rw [HF0.out]; rfl, .refl _⟩
  case round =>
    obtain ⟨k, hk, rfl, rfl, HX⟩ := hrel
    obtain ⟨wo, rfl⟩ : ∃ wo : World, wo = wr := ⟨_, rfl⟩
    have hk0 : (0 : Int) ≤ (k : Int) := by omega
    by_cases hkm : k < m
    · have hkm' : (k : Int) < (m : Int) := by omega
      have hfk : FN k < m := by
        rcases Nat.eq_zero_or_pos k with h0 | h0
        · rw [h0, HF0.out]; omega
        · have := HFL2.out k h0; omega
      have hrow := RowP.ext HR8.out HX.out
      obtain ⟨b1, o1, e1, d0, d1⟩ := hrow.at (i := k) (by rw [HM.out]; exact hkm)
      cases e1
      obtain ⟨b2, o2, e2, f0, f1⟩ := hrow.at (i := FN k) (by rw [HM.out]; exact hfk)
      cases e2
      rw [Nat.zero_add] at d0 d1 f0 f1
      have HF := Lib.hid (HFN.out k)
      have hfi : (FN k : Int) < (m : Int) := by omega
      obtain ⟨p, hp⟩ : ∃ p, h.getD k (0, 0) = p := ⟨_, rfl⟩
      obtain ⟨q, hq⟩ : ∃ q, h.getD (FN k) (0, 0) = q := ⟨_, rfl⟩
      rw [hp, hq] at HF
      rw [hp] at d0 d1
      rw [hq] at f0 f1
      clear hp hq hrow
      obtain ⟨px, py⟩ := p
      obtain ⟨qx, qy⟩ := q
      dsimp only at d0 d1 f0 f1
      have HSP : Hid (∀ w', Calls Try.prog 31 #[.agg #[.int .i64 px, .int .i64 py], .agg #[.int .i64 qx, .int .i64 qy]] w' fun e w'' => e = .returned (.int .i64 (ordJ (px, py) (qx, qy))) ∧ w'.Ext w'') := fun w' =>
        (spotOrder_grow px py qx qy w' _ rfl).mono fun e w'' h => ⟨h.1, by obtain ⟨-, q9, os9, rfl⟩ := h; exact ext_gr _ _ _⟩
      have HRD := Lib.hid (rdB_ord (px, py) (qx, qy))
      generalize ordJ (px, py) (qx, qy) = t at *
      generalize rdB (px, py) (qx, qy) = rb at *
      generalize hfn : FN k = fn at *
      clear hfn
      obtain ⟨w9, hw9⟩ : ∃ w9, w9 = wo.alloc (.cells #[.int .i64 px, .int .i64 py] 33) := ⟨_, rfl⟩
      have hx9 : wo.Ext w9 := by rw [hw9]; repeat (first | exact World.Ext.refl _ | exact ⟨_, rfl⟩ | assumption | refine World.Ext.over ?_ _ | refine World.Ext.drewN ?_ _ | refine World.Ext.drew ?_ | refine World.Ext.alloc ?_ _ | refine World.Ext.setCell ?_ (by simp) _)
      have g0 : w9.cell? ⟨wo.heap.size, 0, none⟩ = some (.int .i64 px) := by rw [hw9]; simp [go_sem]
      have g1 : w9.cell? ⟨wo.heap.size, 1, none⟩ = some (.int .i64 py) := by rw [hw9]; simp [go_sem]
      have lg := World.block_lt_of_cell? _ _ g0
      have ld := World.block_lt_of_cell? _ _ d0
      have F0 := Lib.hid (hx9.cell f0)
      have F1 := Lib.hid (hx9.cell f1)
      have HX9 := Lib.hid (HX.out.trans hx9)
      clear hx9 HX f0 f1
      go_upto_region 13 with fail
      rw [← hw9]
      clear hw9 d0 d1 ld
      have f0 := F0.out
      have f1 := F1.out
      have lf := World.block_lt_of_cell? _ _ f0
      refine wp_region_over_lit (by kernel_rfl) (by kernel_rfl) ?_; (repeat (go_big_quiet_step ((go_at_call 31; exact Calls.over_of (HSP.out _))))); refine wpQuiet_nil ?_; rintro _ ⟨x1, rfl⟩
      have HXA := Lib.hid (HX9.out.trans (⟨x1, rfl⟩ : w9.Ext (w9.over x1)))
      clear f0 f1 lf g0 g1 lg F0 F1 HX9 HSP
      cases rb
      · have htd : decide (t < 0) = false := HRD.out
        have htn : ¬ t < 0 := of_decide_eq_false htd
        have HF2 : Hid (FN (k + 1) = fn) := by show _ = _; rw [HF.out]; rfl
        clear HF HRD
        go_wp2_with fail
        go_roundw
        case rel => exact ⟨k + 1, by omega, by go_num, by rw [HF2.out], HXA⟩
        case measure => simp [intOf]; omega
      · have htd : decide (t < 0) = true := HRD.out
        have htn : t < 0 := of_decide_eq_true htd
        have HF2 : Hid (FN (k + 1) = k) := by show _ = _; rw [HF.out]; rfl
        clear HF HRD
        go_wp2_with fail
        go_roundw
        case rel => exact ⟨k + 1, by omega, by go_num, by rw [HF2.out], HXA⟩
        case measure => simp [intOf]; omega
    · have hke : k = m := by omega
      subst hke
      have hkm' : ¬ (k : Int) < (k : Int) := by omega
      have hfk : FN k < k := HFL2.out k (by omega)
      have HROW := Lib.hid (RowP.ext HR8.out HX.out)
      have hfi : (FN k : Int) < (k : Int) := by omega
      clear HFL2 HF0 HFN
      generalize hfn : FN k = fn at *
      clear hfn
      have hsl1 : ∀ u : World, (Instr.sliceAt 37 (.slice (some ⟨g8, 0, none⟩) k cap8) (some (.int .i64 (fn : Int))) none none).run Try.prog u = .ok (.slice (some ⟨g8, fn * 2, none⟩) (k - fn) (cap8 - fn)) u := fun u => slice_lowP g8 k cap8 fn u hfk hcap8
      have hsl2 : ∀ u : World, (Instr.sliceAt 37 (.slice (some ⟨g8, 0, none⟩) k cap8) none (some (.int .i64 (fn : Int))) none).run Try.prog u = .ok (.slice (some ⟨g8, 0, none⟩) fn cap8) u := fun u => slice_highP g8 k cap8 fn u hfk hcap8
      go_upto_region 16 with fail
      refine wp_region_over_tail 6 (by kernel_rfl) (by kernel_rfl) ?_; simp only [List.take_succ_cons, List.take_zero, List.drop_succ_cons, List.drop_zero]; (repeat (go_big_quiet_step (fail))); refine wpQuiet_nil ?_; rintro _ ⟨x1, rfl⟩
      have hx9 : wo.Ext (wo.over x1) := ⟨x1, rfl⟩
      have HRW := Lib.hid (RowP.ext HROW.out hx9)
      have HX9 := Lib.hid (HX8.out.trans (HX.out.trans hx9))
      clear hsl1 hsl2 hx9 HX HROW HR8 HX8
      generalize wo.over x1 = w9 at *
      have hld : (h.drop fn).length = k - fn := by rw [List.length_drop, HM.out]
      have hlt : (h.take fn).length = fn := by rw [List.length_take, HM.out]; omega
      obtain ⟨wa, hwa⟩ : ∃ wa, wa = w9.alloc (.cells #[.slice (some ⟨g8, fn * 2, none⟩) (k - fn) (cap8 - fn), .slice (some ⟨g8, 0, none⟩) fn cap8] 37) := ⟨_, rfl⟩
      have hxa : w9.Ext wa := by rw [hwa]; repeat (first | exact World.Ext.refl _ | exact ⟨_, rfl⟩ | assumption | refine World.Ext.over ?_ _ | refine World.Ext.drewN ?_ _ | refine World.Ext.drew ?_ | refine World.Ext.alloc ?_ _ | refine World.Ext.setCell ?_ (by simp) _)
      have HCC : Hid (Calls Try.prog 32 #[.slice (some ⟨w9.heap.size, 0, none⟩) 2 2] wa (SpsRet wa (h.drop fn ++ h.take fn))) :=
        concat_any w9.heap.size g8 (fn * 2) (cap8 - fn) g8 0 cap8 (h.drop fn) (h.take fn) wa (by rw [hld, hwa]; simp [go_sem]) (by rw [hlt, hwa]; simp [go_sem]) (row_drop (RowP.ext HRW.out hxa)) (row_take (RowP.ext HRW.out hxa)) (by omega) (by omega)
      have HXA := Lib.hid (HX9.out.trans hxa)
      clear hld hlt hxa HRW HX9
      go_wp2_with fail
      rw [← hwa]
      clear hwa
      rw [← HROT.out] at HCC
      refine HCC.out.mono ?_
      rintro e9 wb ⟨gb, capb, rfl, hsb⟩
      have HRT : Hid (HulRet w CL (.returned (.tuple #[.slice (some ⟨gb, 0, none⟩) (rotL fn h).length capb, .bool true])) wb) := ⟨_, gb, capb, HOH.out, rfl, HXA.out.trans hsb.x, (GrowP.own hsb.own).row⟩
      clear hsb HOH
      generalize (rotL fn h).length = rl at *
      go_wp2
      go_ret2
      exact HRT.out
end Go.Proofs.Ytelaoimcaidoiaa
