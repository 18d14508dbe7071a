/- Orders to sort by: what they hand back, and just what they lay. -/
import Derived.Test.YtelaoimcaidoiaaKit
import Derived.StillTailTactics
import Derived.Sort.Grow
import Derived.Shelf.SlSortCmp.WholeK
import Derived.Test.YtelaoimcaidoiaaLayS
namespace Go.Proofs.Ytelaoimcaidoiaa
open Go Go.RowKit Go.Sort
def cmpJ (x y : Int) : Int := if x < y then -1 else if y < x then 1 else 0
def ordJ (p q : Int × Int) : Int := if cmpJ p.2 q.2 = 0 then cmpJ p.1 q.1 else cmpJ p.2 q.2
set_option maxHeartbeats 400000 in
theorem isNaN_eq (x : Int) (w : World) : Calls Try.prog 53 #[.int .i64 x] w fun e w' => e = .returned (.bool false) ∧ w' = w := by
  go_enter Try.func53, Try.ntmps53
  go_wp2
  go_ret
  exact ⟨by simp, rfl⟩
set_option maxHeartbeats 800000 in
theorem compare_eq (x y : Int) (w : World) (t : Int) (ht : cmpJ x y = t) : Calls Try.prog 27 #[.int .i64 x, .int .i64 y] w fun e w' => e = .returned (.int .i64 t) ∧ w' = w := by
  subst ht
  unfold cmpJ
  by_cases h1 : x < y
  · rw [if_pos h1]
    go_enter Try.func27, Try.ntmps27
    go_wp2_with (go_at_call 53; refine (isNaN_eq _ _).mono ?_; rintro e w' ⟨rfl, rfl⟩)
    go_ret
    exact ⟨rfl, rfl⟩
  · rw [if_neg h1]
    by_cases h2 : y < x
    · rw [if_pos h2]
      go_enter Try.func27, Try.ntmps27
      go_wp2_with (go_at_call 53; refine (isNaN_eq _ _).mono ?_; rintro e w' ⟨rfl, rfl⟩)
      go_ret
      exact ⟨rfl, rfl⟩
    · rw [if_neg h2]
      go_enter Try.func27, Try.ntmps27
      go_wp2_with (go_at_call 53; refine (isNaN_eq _ _).mono ?_; rintro e w' ⟨rfl, rfl⟩)
      go_ret
      exact ⟨rfl, rfl⟩
set_option maxRecDepth 5000 in
set_option maxHeartbeats 800000 in
theorem or2_eq (b : Nat) (x y : Int) (w : World) (h0 : w.cell? ⟨b, 0, none⟩ = some (.int .i64 x)) (h1 : w.cell? ⟨b, 1, none⟩ = some (.int .i64 y)) (t : Int) (ht : (if x = 0 then y else x) = t) :
    Calls Try.prog 26 #[.slice (some ⟨b, 0, none⟩) 2 2] w fun e w' => e = .returned (.int .i64 t) ∧ w' = w := by
  have HT := Lib.hid ht
  clear ht
  go_enter Try.func26, Try.ntmps26
  go_wp2
  go_loopw [5, 8] (fun _ i wr => ∃ k : Nat, k ≤ 2 ∧ i = .int .i64 k ∧ Hid (1 ≤ k → x = 0) ∧ Hid (2 ≤ k → y = 0) ∧ Hid (wr = w)) (fun _ i _ => 2 - (intOf i).toNat)
  case atStart => exact ⟨0, by omega, rfl, fun h => by omega, fun h => by omega, rfl⟩
  case round =>
    obtain ⟨k, hk, rfl, HA, HB, HX⟩ := hrel
    have hw := HX.out
    subst hw
    by_cases e0 : k = 0
    · subst e0
      by_cases hx : x = 0
      · have hne : (x != 0) = false := by simp; exact hx
        have HX0 := Lib.hid hx
        clear hx
        go_wp2
        go_roundw
        case rel => exact ⟨1, by omega, by go_num, fun _ => HX0.out, fun h => by omega, by first | exact HX | exact True.intro⟩
        case measure => simp [intOf]
      · have hne : (x != 0) = true := by simp; exact hx
        have HV : Hid (x = t) := by show _ = _; rw [← HT.out, if_neg hx]
        clear hx
        go_wp2
        go_ret
        exact ⟨ret_int HV.out, rfl⟩
    · by_cases e1 : k = 1
      · subst e1
        have HXZ : Hid (x = 0) := HA.out (by omega)
        have hyv : Hid (t = y) := by show _ = _; rw [← HT.out, if_pos HXZ.out]
        by_cases hy : y = 0
        · have hne : (y != 0) = false := by simp; exact hy
          have HY0 := Lib.hid hy
          clear hy
          go_wp2
          go_roundw
          case rel => exact ⟨2, by omega, by go_num, fun _ => HXZ.out, fun _ => HY0.out, by first | exact HX | exact True.intro⟩
          case measure => simp [intOf]
        · have hne : (y != 0) = true := by simp; exact hy
          clear hy
          go_wp2
          go_ret
          exact ⟨ret_int hyv.out.symm, rfl⟩
      · have e2 : k = 2 := by omega
        subst e2
        have HV : Hid ((0 : Int) = t) := by
          show _ = _
          rw [← HT.out, if_pos (HA.out (by omega)), HB.out (by omega)]
        go_wp2
        go_ret
        exact ⟨ret_int HV.out, rfl⟩
set_option maxRecDepth 5000 in
set_option maxHeartbeats 800000 in
theorem spotOrder_grow (xa ya xb yb : Int) (w : World) (t : Int) (ht : ordJ (xa, ya) (xb, yb) = t) :
    Calls Try.prog 31 #[.agg #[.int .i64 xa, .int .i64 ya], .agg #[.int .i64 xb, .int .i64 yb]] w fun e w' => e = .returned (.int .i64 t) ∧ ∃ q os', w' = grow (w.drewN q) os' := by
  obtain ⟨u, hu⟩ : ∃ u, cmpJ ya yb = u := ⟨_, rfl⟩
  obtain ⟨v, hv⟩ : ∃ v, cmpJ xa xb = v := ⟨_, rfl⟩
  have HT : Hid ((if u = 0 then v else u) = t) := by show _ = _; rw [← ht, ← hu, ← hv]; rfl
  have HU := Lib.hid hu
  have HV := Lib.hid hv
  clear hu hv ht
  obtain ⟨W0, hW0⟩ : ∃ W0, W0 = (w.alloc (.cells #[.int .i64 xa, .int .i64 ya] 33)).alloc (.cells #[.int .i64 xb, .int .i64 yb] 33) := ⟨_, rfl⟩
  have d0 : W0.drew.cell? ⟨w.heap.size, 0, none⟩ = some (.int .i64 xa) := by rw [hW0]; simp [go_sem]
  have d1 : W0.drew.cell? ⟨w.heap.size, 1, none⟩ = some (.int .i64 ya) := by rw [hW0]; simp [go_sem]
  have d2 : W0.drew.cell? ⟨w.heap.size + 1, 0, none⟩ = some (.int .i64 xb) := by rw [hW0]; simp [go_sem]
  have d3 : W0.drew.cell? ⟨w.heap.size + 1, 1, none⟩ = some (.int .i64 yb) := by rw [hW0]; simp [go_sem]
  have HW : Hid (∀ c, W0.drew.alloc c = grow (w.drewN 1) (#[.cells #[.int .i64 xa, .int .i64 ya] 33, .cells #[.int .i64 xb, .int .i64 yb] 33] ++ #[c])) := fun c => by
    rw [hW0, alloc_eq_grow, alloc_eq_grow, alloc_eq_grow, grow_grow, drew_grow, grow_grow]
    rfl
  go_enter Try.func31, Try.ntmps31
  go_wp2_with fail
  rw [← hW0]
  refine wp_region_still_tail 10 (by kernel_rfl) (by kernel_rfl) ?_
  change wpStill _ _ W0.drew (fun a' => wpList _ _ _ _ a' W0.drew) _ _
  clear hW0
  generalize W0.drew = W1 at *
  simp only [List.take_succ_cons, List.take_zero, List.drop_succ_cons, List.drop_zero]
  (repeat still_step)
  still_call (compare_eq ya yb _ _ HU.out)
  (repeat still_step)
  still_call (compare_eq xa xb _ _ HV.out)
  (repeat still_step)
  refine wpStill_nil ?_
  clear d0 d1 d2 d3
  go_wp2_with fail
  refine (or2_eq _ u v _ (by simp [go_sem]) (by simp [go_sem]) _ HT.out).mono ?_
  rintro e w2 ⟨rfl, rfl⟩
  go_wp2
  go_ret
  exact ⟨rfl, 1, _, HW.out _⟩
end Go.Proofs.Ytelaoimcaidoiaa

/- A row of the call's own, sorted by the kit's sort. -/
namespace Go.Proofs.Ytelaoimcaidoiaa
open Go Go.RowKit Go.Sort Go.Shelf
theorem flat_getBang {α : Type} [Inhabited α] (enc : α → List Value) (k : Nat) (hk : ∀ x, (enc x).length = k) : ∀ (xs : List α) (t : Nat), t < xs.length * k → (xs.flatMap enc)[t]! = (enc xs[t / k]!)[t % k]!
  | [], t, h => by simp at h
  | x :: xs, t, h => by
    have k0 : 0 < k := by rcases Nat.eq_zero_or_pos k with h0 | h0; · subst h0; simp at h
                          · exact h0
    rw [List.flatMap_cons]
    by_cases ht : t < k
    · rw [Nat.div_eq_of_lt ht, Nat.mod_eq_of_lt ht]
      have h1 : t < (enc x).length := by rw [hk]; exact ht
      rw [getElem!_pos _ _ (by rw [List.length_append]; omega), getElem!_pos _ _ (by simpa [hk] using ht), List.getElem_append_left h1]
      rfl
    · have e1 : t / k = (t - k) / k + 1 := Nat.div_eq_sub_div k0 (by omega)
      have e2 : t % k = (t - k) % k := Nat.mod_eq_sub_mod (by omega)
      have hl : t - k < xs.length * k := by rw [List.length_cons, Nat.succ_mul] at h; omega
      rw [e1, e2]
      have ih := flat_getBang enc k hk xs (t - k) hl
      have hfl : ∀ ys : List α, (ys.flatMap enc).length = ys.length * k := fun ys => by
        induction ys with
        | nil => simp
        | cons y ys ih => rw [List.flatMap_cons, List.length_append, ih, hk, List.length_cons, Nat.succ_mul]; omega
      rw [getElem!_pos _ _ (by rw [List.length_append, hk, hfl]; omega), List.getElem_append_right (by rw [hk]; omega)]
      rw [getElem!_pos _ _ (by rw [hfl]; exact hl)] at ih
      simp only [hk]
      rw [ih]
      rfl
theorem flatK_list {α : Type} [Inhabited α] (enc : α → List Value) (k : Nat) (hk : ∀ x, (enc x).length = k) (d : Array α) : (flatK enc k d).toList = d.toList.flatMap enc := by
  have hfl : ∀ ys : List α, (ys.flatMap enc).length = ys.length * k := fun ys => by
    induction ys with
    | nil => simp
    | cons y ys ih => rw [List.flatMap_cons, List.length_append, ih, hk, List.length_cons, Nat.succ_mul]; omega
  refine List.ext_getElem (by rw [hfl]; simp) fun t h1 h2 => ?_
  have ht : t < d.size * k := by simpa using h1
  have a := get_flatK enc k d t ht
  have b := flat_getBang enc k hk d.toList t (by simpa using ht)
  rw [getElem!_pos (flatK enc k d) t (by simpa using ht)] at a
  rw [getElem!_pos (d.toList.flatMap enc) t h2] at b
  rw [b, Array.getElem_toList, a, getElem!_pos d (t / k) (Nat.div_lt_of_lt_mul (by rw [Nat.mul_comm]; exact ht)), getElem!_pos d.toList (t / k) (by rw [Array.length_toList]; exact Nat.div_lt_of_lt_mul (by rw [Nat.mul_comm]; exact ht)), Array.getElem_toList]
theorem ownsRow_sorted {w : World} {base g n cap k : Nat} {e : TypeId} {xs : List Value} (h : w.ownsRow base e k (.slice (some ⟨g, 0, none⟩) n cap) n xs) (m : Nat) (F : Array Value) (hF : F.size = n * k) (os : Array Obj) :
    (grow (putRow id (Go.Sort.ahead w m) g 0 F) os).ownsRow base e k (.slice (some ⟨g, 0, none⟩) n cap) n F.toList ∧ w.grownBy (grow (putRow id (Go.Sort.ahead w m) g 0 F) os) (some g) := by
  obtain ⟨h1, h2⟩ := h
  rcases h2 with ⟨h0, _⟩ | ⟨g', cap', cur, hv, hl, hb, hc, hm, hs, ht⟩
  · cases h0
  · simp only [Value.slice.injEq, Option.some.injEq, Addr.mk.injEq, and_true, true_and] at hv
    obtain ⟨rfl, rfl⟩ := hv
    have hg := (Array.getElem?_eq_some_iff.1 hb).1
    have hle : n * k ≤ cur.size := by rw [hs]; exact Nat.mul_le_mul_right _ hc
    refine ⟨⟨by simp [hF], .inr ⟨g, cap, putCells id 0 F cur, rfl, hl, ?_, hc, hm, ?_, ?_⟩⟩, ⟨rfl, rfl, rfl, ?_, ?_⟩⟩
    · rw [heap_grow_old _ _ (by simpa [putRow, mapBlock, Go.Sort.ahead] using hg)]
      show (w.heap.modify g _)[g]? = _
      rw [Array.getElem?_modify, if_pos rfl, hb]
      rfl
    · rw [← hs]; simp [putCells]
    · refine List.ext_getElem (by simp [putCells, hF]; omega) fun t h3 h4 => ?_
      have h5 : t < n * k := by rw [Array.length_toList, hF] at h4; exact h4
      rw [List.getElem_take, Array.getElem_toList, Array.getElem_toList]
      simp only [putCells, Array.getElem_mapIdx]
      rw [if_pos ⟨Nat.zero_le _, by omega⟩]
      rw [Nat.sub_zero, getElem!_pos F t (by omega)]
      rfl
    · simp [putRow, mapBlock, Go.Sort.ahead]
    · intro j hj hne
      rw [heap_grow_old _ _ (by simpa [putRow, mapBlock, Go.Sort.ahead] using hj)]
      show (w.heap.modify g _)[j]? = _
      rw [Array.getElem?_modify, if_neg (fun e => hne (by rw [e]))]
theorem ownsRow_holds {w : World} {base g n cap k : Nat} {e : TypeId} {xs : List Value} (h : w.ownsRow base e k (.slice (some ⟨g, 0, none⟩) n cap) n xs) (F : Array Value) (hF : F.toList = xs) : Holds id w g 0 F := by
  intro j hj
  have hl := h.1
  have hj' : j < xs.length := by rw [← hF]; simpa using hj
  rw [Nat.zero_add, h.cellAt j (by omega), h.frozenAt]
  refine ⟨?_, rfl⟩
  rw [List.getElem?_eq_getElem hj', getElem!_pos F j hj]
  subst hF
  simp
theorem cmpJ_neg (x y : Int) : cmpJ x y < 0 ↔ x < y := by unfold cmpJ; split <;> (try split) <;> omega
theorem cmpJ_zero (x y : Int) : cmpJ x y = 0 ↔ x = y := by unfold cmpJ; split <;> (try split) <;> omega
theorem ordJ_neg (p q : Int × Int) : ordJ p q < 0 ↔ p.2 < q.2 ∨ (p.2 = q.2 ∧ p.1 < q.1) := by
  unfold ordJ
  split
  · rename_i h
    rw [cmpJ_zero] at h
    rw [cmpJ_neg]
    omega
  · rename_i h
    rw [cmpJ_zero] at h
    rw [cmpJ_neg]
    omega
theorem ordJ_swo : SWO (ltOf ordJ) where
  irrefl x := by unfold ltOf; rw [decide_eq_false_iff_not, ordJ_neg]; omega
  trans x y z h1 h2 := by unfold ltOf at *; rw [decide_eq_true_iff, ordJ_neg] at *; omega
  ntrans x y z h1 h2 := by unfold ltOf at *; rw [decide_eq_false_iff_not, ordJ_neg] at *; omega
def encSp (p : Int × Int) : List Value := [.int .i64 p.1, .int .i64 p.2]
theorem flatMap_encSp (ps : List (Int × Int)) : ps.flatMap encSp = (flatP ps).map (Value.int .i64) := by
  induction ps with
  | nil => rfl
  | cons p ps ih =>
    rw [List.flatMap_cons, ih]
    rfl
theorem perm_arr {α : Type} [Inhabited α] {d d' : Array α} (h : PermIn 0 d.size d d') : d'.toList.Perm d.toList := by
  obtain ⟨h1, -, h3⟩ := h
  have e : ∀ (a : Array α) (n : Nat), n = a.size → a.extract 0 n = a := fun a n h => by subst h; simp
  rw [e d _ rfl, e d' _ h1.symm] at h3
  exact h3
theorem sorted_arr {α : Type} [Inhabited α] {lt : α → α → Bool} {d : Array α} {n : Nat} (hn : n = d.size) (h : SortedIn lt 0 n d) : d.toList.Pairwise fun a b => lt b a = false := by
  rw [List.pairwise_iff_getElem]
  intro i j hi hj hij
  have := h i j (Nat.zero_le _) hij (by rw [hn]; simpa using hj)
  rw [getElem!_pos d i (by simpa using hi), getElem!_pos d j (by simpa using hj)] at this
  rw [Array.getElem_toList, Array.getElem_toList]
  exact this
theorem spotLays (blk off size : Nat) (w : World) : CmpLays Try.prog 31 #[] encSp 2 ordJ blk off size w :=
  fun _ _ _ _ x y => spotOrder_grow x.1 x.2 y.1 y.2 _ _ rfl
theorem sortSpot_any (base g cap : Nat) (ps : List (Int × Int)) (w : World) (hown : GrowP base 33 w (.slice (some ⟨g, 0, none⟩) ps.length cap) ps) (hn : ps.length ≤ 1048576) :
    Calls Try.prog 24 #[.slice (some ⟨g, 0, none⟩) ps.length cap, .func (.func 31) #[] #[]] w fun e w' => e = .returned (.tuple #[]) ∧
      ∃ qs : List (Int × Int), qs.Perm ps ∧ qs.Pairwise (fun a b => ltOf ordJ b a = false) ∧ GrowP base 33 w' (.slice (some ⟨g, 0, none⟩) ps.length cap) qs ∧ w.grownBy w' (some g) := by
  have hown' : w.ownsRow base 33 2 (.slice (some ⟨g, 0, none⟩) ps.length cap) ps.length ((flatP ps).map (Value.int .i64)) := hown
  have eg : ∀ args w, (callFunc 31 args).run Try.prog w = .ok (.enter 31 args) w := enters_of Try.func31 (by kernel_rfl) rfl
  have hfl := flatK_list encSp 2 (fun _ => rfl) ps.toArray
  rw [List.toList_toArray, flatMap_encSp] at hfl
  have hH : HoldsK encSp 2 w g 0 ps.toArray := ownsRow_holds hown' _ hfl
  have hlt : g < w.heap.size := (hown'.lt g rfl).2
  have h := AnyQ.slices_SortFunc Try.sortSpot 2 Try.isAgg33 Try.sizeOf33 encSp (fun _ => rfl) (fun x v hv => by simp [encSp] at hv; rcases hv with rfl | rfl <;> rfl) ordJ ordJ_swo 31 #[] g 0 cap ps.toArray w eg (spotLays g 0 _ w) hH hlt (by simp; omega)
  rw [List.size_toArray] at h
  refine Calls.mono h ?_
  rintro e w' ⟨he, d', n, os, hp, hs, rfl⟩
  have hsz : d'.size = ps.length := by rw [hp.1, List.size_toArray]
  have hperm := perm_arr hp
  rw [List.toList_toArray] at hperm
  obtain ⟨h1, h2⟩ := ownsRow_sorted hown' n (flatK encSp 2 d') (by simp [hsz]) os
  rw [flatK_list encSp 2 (fun _ => rfl), flatMap_encSp] at h1
  refine ⟨he, d'.toList, hperm, sorted_arr (by rw [hsz]) hs, ?_, h2⟩
  unfold GrowP
  rw [show d'.toList.length = ps.length by rw [Array.length_toList, hsz]]
  exact h1
end Go.Proofs.Ytelaoimcaidoiaa
