/- A drawn region is cut where its tail begins. -/
import Derived.StillTail
import Derived.Deep.RegionHeld3
import Derived.Deep.Onto
import Derived.Test.YtelaoimcaidoiaaDoorKit
namespace Go
section
variable {P : Program} {md : Region.Mode}
/-- The post of the head: the tail in the text's order. -/
def HeadQ (P : Program) (ops : Array Oper) (Q : Exit → Act → World → Prop) (l : List Oper) : Exit → Act → World → Prop
  | .normal, a, w => wpList P ops Q l a w
  | e, a, w => Q e a w
theorem Oper.upon_head {ops : Array Oper} {o : Oper} {a : Act} {K : Act → World → Prop} {Q : Exit → Act → World → Prop} {l : List Oper} {r : Result Next} (h : o.upon P a K (HeadQ P ops Q l) r) : o.upon P a K Q r := by
  cases r with
  | ok n w' =>
    cases n <;> simp only [Oper.upon] at h ⊢ <;> exact h
  | halt x w' => cases x <;> simp only [Oper.upon] at h ⊢ <;> exact h
/-- Who waits, waits for an earlier one. -/
def Region.fwdB (md : Region.Mode) (ops : Array Oper) (n : Nat) : Bool :=
  (List.range n).all fun i => ((ops[i]?).map fun o => o.guard.isNone && o.after.all fun e => !Region.binds md e || decide (e.on < i)).getD false
theorem fwdB_at {ops : Array Oper} {n i : Nat} (h : Region.fwdB md ops n = true) (hi : i < n) : ∃ o, ops[i]? = some o ∧ o.guard = none ∧ ∀ e ∈ o.after, Region.binds md e = true → e.on < i := by
  have h1 := List.all_eq_true.1 h i (List.mem_range.2 hi)
  cases ho : ops[i]? with
  | none => rw [ho] at h1; simp at h1
  | some o =>
    rw [ho] at h1
    simp only [Option.map_some, Option.getD_some, Bool.and_eq_true, Option.isNone_iff_eq_none] at h1
    refine ⟨o, rfl, h1.1, fun e he hb => ?_⟩
    have h2 := Array.all_eq_true_iff_forall_mem.1 h1.2 e he
    simpa [hb] using h2
theorem wpAny_more {ops : Array Oper} {Q : Exit → Act → World → Prop} : ∀ (f : Nat) (listed : Array Bool) (a : Act) (w : World), wpAny P md ops Q f listed a w → wpAny P md ops Q (f + 1) listed a w
  | 0, _, _, _, h => ⟨fun _ => h.2, by rw [h.1]; simp⟩
  | f + 1, _, _, _, h => ⟨h.1, fun i hi => wpOp_mono (fun a' w' h' => wpAny_more f _ a' w' h') (h.2 i hi)⟩
theorem wpAny_mores {ops : Array Oper} {Q : Exit → Act → World → Prop} {g : Nat} {listed : Array Bool} {a : Act} {w : World} (h : wpAny P md ops Q g listed a w) : ∀ f, wpAny P md ops Q (f + g) listed a w
  | 0 => by rw [Nat.zero_add]; exact h
  | f + 1 => by rw [show f + 1 + g = (f + g) + 1 by omega]; exact wpAny_more _ _ _ _ (wpAny_mores h f)
/-- What may come up of the head alone. -/
theorem ready_head {l : List Oper} {n : Nat} {listed listed' : Array Bool} (inv : HeadInv md l.toArray n listed) (hsz : listed'.size = n) (hag : ∀ j, j < n → listed'[j]? = listed[j]?) {j : Nat} (hj : j < n) :
    j ∈ Region.ready md (l.take n).toArray listed' ↔ j ∈ Region.ready md l.toArray listed := by
  have hd : ∀ (i : Nat) (d : Bool), i < n → listed'.getD i d = listed.getD i d := fun i d hi => by
    rw [Array.getD_eq_getD_getElem?, Array.getD_eq_getD_getElem?, hag i hi]
  have hd2 : ∀ i, listed'.getD i false = listed.getD i false := fun i => by
    by_cases hi : i < n
    · exact hd i false hi
    · rw [Array.getD_eq_getD_getElem?, Array.getElem?_eq_none (by omega)]
      by_cases hi2 : i < l.toArray.size
      · exact (getD_both (inv.tail i (by omega) hi2)).symm
      · rw [Array.getD_eq_getD_getElem?, Array.getElem?_eq_none (by rw [inv.size]; omega)]
  have ho : (l.take n).toArray[j]? = l.toArray[j]? := by simp [hj]
  rw [mem_ready, mem_ready, ho, hd j true hj]
  constructor
  · rintro ⟨h1, o, h2, h3⟩
    exact ⟨h1, o, h2, fun e he hb => by rw [← hd2]; exact h3 e he hb⟩
  · rintro ⟨h1, o, h2, h3⟩
    exact ⟨h1, o, h2, fun e he hb => by rw [hd2]; exact h3 e he hb⟩
/-- While one of the head has not come up, one of it may come up. -/
theorem head_ready {ops : Array Oper} {n : Nat} {listed : Array Bool} (hf : Region.fwdB md ops n = true) (inv : HeadInv md ops n listed) (hn : n < ops.size) : ∀ (j : Nat), j < n → listed.getD j false = false → ∃ i, i < n ∧ i ∈ Region.ready md ops listed := by
  intro j
  induction j using Nat.strongRecOn with
  | _ j ih =>
    intro hj hun
    obtain ⟨o, ho, -, hfw⟩ := fwdB_at hf hj
    by_cases hall : ∀ e ∈ o.after, Region.binds md e = true → listed.getD e.on false = true
    · exact ⟨j, hj, mem_ready.2 ⟨getD_in (by rw [inv.size]; omega) hun, o, ho, hall⟩⟩
    · simp only [Classical.not_forall, Bool.not_eq_true] at hall
      obtain ⟨e, he, hb, hl⟩ := hall
      exact ih e.on (hfw e he hb) (Nat.lt_trans (hfw e he hb) hj) hl
theorem wpOp_head {l t : List Oper} {n i : Nat} {o : Oper} {Q : Exit → Act → World → Prop} {K : Act → World → Prop} {a : Act} {w : World} (hi : i < n) (ho : l.toArray[i]? = some o) (hg : o.guard = none)
    (h : wpOp P (l.take n).toArray (HeadQ P l.toArray Q t) i K a w) : wpOp P l.toArray Q i K a w := by
  have ho' : (l.take n).toArray[i]? = some o := by rw [← ho]; simp [hi]
  have hw : ∀ y, Region.wanted o y = true := fun y => by simp [Region.wanted, hg]
  unfold wpOp at h ⊢
  rw [ho'] at h
  rw [ho]
  simp only [hw, if_true] at h ⊢
  rcases h with h | ⟨h1, h2⟩
  · exact .inl (Oper.upon_head h)
  · exact .inr ⟨h1, h2⟩
def fullL (n m : Nat) : Array Bool := Array.replicate n true ++ Array.replicate m false
theorem full_of {ops : Array Oper} {n : Nat} {listed : Array Bool} (inv : HeadInv md ops n listed) (hn : n ≤ ops.size) (h : ∀ j, j < n → listed.getD j false = true) : listed = fullL n (ops.size - n) := by
  refine Array.ext (by simp [fullL, inv.size]; omega) fun j h1 h2 => ?_
  have e1 : listed[j] = listed.getD j false := by simp [h1]
  have e2 : listed[j] = listed.getD j true := by simp [h1]
  by_cases hj : j < n
  · rw [e1, h j hj]
    simp [fullL, hj]
  · rw [e2, inv.tail j (by omega) (by rw [← inv.size]; exact h1)]
    simp [fullL, Array.getElem_append, hj]
theorem wpAny_cut {l : List Oper} {n : Nat} {Q : Exit → Act → World → Prop} (hs : Region.sinkB md l.toArray n = true) (hc : Region.chainB md l.toArray n = true) (hf : Region.fwdB md l.toArray n = true) (hn : n < l.length) (hseq : Region.seqB md l.toArray (l.drop n).length n (fullL n (l.toArray.size - n)) = true) :
    ∀ (f : Nat) (listed listed' : Array Bool) (a : Act) (w : World), HeadInv md l.toArray n listed → listed'.size = n → (∀ j, j < n → listed'[j]? = listed[j]?) → wpAny P md (l.take n).toArray (HeadQ P l.toArray Q (l.drop n)) f listed' a w → wpAny P md l.toArray Q (f + (l.drop n).length) listed a w := by
  have done : ∀ (f : Nat) (listed : Array Bool) (a : Act) (w : World), HeadInv md l.toArray n listed → (∀ j, j < n → listed.getD j false = true) → wpList P l.toArray Q (l.drop n) a w → wpAny P md l.toArray Q (f + (l.drop n).length) listed a w := fun f listed a w inv hall h => by
    rw [full_of inv (by simp; omega) hall]
    exact wpAny_mores (wpAny_of_seq (l.drop n) n _ a w (fun j => by simp [List.getElem?_drop]) hseq h) f
  have none_ready : ∀ (listed listed' : Array Bool), HeadInv md l.toArray n listed → listed'.size = n → (∀ j, j < n → listed'[j]? = listed[j]?) → Region.ready md (l.take n).toArray listed' = [] → ∀ j, j < n → listed.getD j false = true := fun listed listed' inv hsz hag h0 j hj => by
    cases hl : listed.getD j false with
    | true => rfl
    | false =>
      obtain ⟨i, hi, hr⟩ := head_ready hf inv (by simpa using hn) j hj hl
      have := (ready_head inv hsz hag hi).2 hr
      rw [h0] at this
      cases this
  intro f
  induction f with
  | zero =>
    intro listed listed' a w inv hsz hag h
    exact done 0 listed a w inv (none_ready listed listed' inv hsz hag h.1) h.2
  | succ f ih =>
    intro listed listed' a w inv hsz hag h
    by_cases h0 : Region.ready md (l.take n).toArray listed' = []
    · exact done (f + 1) listed a w inv (none_ready listed listed' inv hsz hag h0) (h.1 h0)
    · obtain ⟨k, hk⟩ := List.exists_mem_of_ne_nil _ h0
      have hkn : k < n := by
        have h1 := (mem_ready.1 hk).1
        refine Nat.lt_of_not_le fun h2 => ?_
        rw [Array.getD_eq_getD_getElem?, Array.getElem?_eq_none (by omega)] at h1
        cases h1
      have hkr := (ready_head inv hsz hag hkn).1 hk
      have hun := (mem_ready.1 hkr).1
      rw [show f + 1 + (l.drop n).length = (f + (l.drop n).length) + 1 by omega]
      refine ⟨fun h1 => (by rw [h1] at hkr; cases hkr), fun i hi => ?_⟩
      have hin : i < n := Nat.lt_of_not_le fun h2 => tail_waits hs hc (by simpa using hn) inv (n - k) k rfl hkn hun i h2 hi
      obtain ⟨o, ho, hg, -⟩ := fwdB_at hf hin
      have h3 := h.2 i ((ready_head inv hsz hag hin).2 hi)
      refine wpOp_head hin ho hg (wpOp_mono (fun a' w' h4 => ih _ _ a' w' (inv.set hi hin) (by simp [hsz]) (fun j hj => ?_) h4) h3)
      rw [Array.getElem?_setIfInBounds, Array.getElem?_setIfInBounds, hag j hj, hsz, inv.size]
      have : i < l.length := by omega
      simp [hin, this]
theorem wp_region_cut {id : Nat} {l : List Oper} (n : Nat) {Q : Exit → Act → World → Prop} {a : Act} {w : World} (hm : P.follows .mixedOrders = true) (hs : Region.sinkB .any l.toArray n = true) (hc : Region.chainB .any l.toArray n = true) (hf : Region.fwdB .any l.toArray n = true) (hn : n < l.length) (hseq : Region.seqB .any l.toArray (l.drop n).length n (fullL n (l.toArray.size - n)) = true)
    (h : wpAny P .any (l.take n).toArray (HeadQ P l.toArray Q (l.drop n)) (l.take n).toArray.size (Array.replicate (l.take n).toArray.size false) a { w with drawn := w.drawn + 1 }) : (Code.region id l.toArray true).wp P Q a w := by
  refine wp_region_any hm ?_
  have hsz : (l.take n).toArray.size = n := by simp; omega
  rw [hsz] at h
  have inv0 : HeadInv .any l.toArray n (Array.replicate l.toArray.size false) :=
    ⟨by simp, fun j oj _ hl => (by rw [getD_replicate_false] at hl; cases hl), fun t _ ht => getD_in (by simpa using ht) (getD_replicate_false _ _)⟩
  have := wpAny_cut hs hc hf hn hseq n _ _ a _ inv0 (by simp) (fun j hj => by
    have hj2 : j < l.length := by omega
    simp [hj, hj2]) h
  rwa [show n + (l.drop n).length = l.toArray.size by simp; omega] at this
end
end Go
