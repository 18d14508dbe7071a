/- A drawn region is cut where its tail begins. -/
import Derived.StillTail
import Derived.Test.YtmmanehdmnkekaaNdA
import Derived.Test.YtmmanehdmnkekaaThrG
import Derived.Test.YtmmanehdmnkekaaLGt
import Derived.Test.YtmmanehdmnkekaaLabS
import Derived.Test.YtmmanehdmnkekaaCmpF
import Derived.Test.YtmmanehdmnkekaaListS
import Derived.Test.YtmmanehdmnkekaaAreF
import Derived.Test.YtmmanehdmnkekaaRowK
import Derived.Deep.RegionHeld3
import Derived.Deep.Onto
import Derived.Test.YtmmanehdmnkekaaNdB
namespace Go
section
variable {P : Program} {md : Region.Mode}
/-- The post of the head: the tail in the text's order. -/
def HeadQ (P : Program) (ops : Array Oper) (Q : Exit → Act → World → Prop) (l : List Oper) : Exit → Act → World → Prop
  | .normal, a, w => wpList P ops Q l a w
  | e, a, w => Q e a w
theorem Oper.upon_head {ops : Array Oper} {o : Oper} {a : Act} {K : Act → World → Prop} {Q : Exit → Act → World → Prop} {l : List Oper} {r : Result Next} (h : o.upon P a K (HeadQ P ops Q l) r) : o.upon P a K Q r := by
  cases r with
  | ok n w' =>
    cases n <;> simp only [Oper.upon] at h ⊢ <;> exact h
  | halt x w' => cases x <;> simp only [Oper.upon] at h ⊢ <;> exact h
/-- Who waits, waits for an earlier one. -/
def Region.fwdB (md : Region.Mode) (ops : Array Oper) (n : Nat) : Bool :=
  (List.range n).all fun i => ((ops[i]?).map fun o => o.guard.isNone && o.after.all fun e => !Region.binds md e || decide (e.on < i)).getD false
theorem fwdB_at {ops : Array Oper} {n i : Nat} (h : Region.fwdB md ops n = true) (hi : i < n) : ∃ o, ops[i]? = some o ∧ o.guard = none ∧ ∀ e ∈ o.after, Region.binds md e = true → e.on < i := by
  have h1 := List.all_eq_true.1 h i (List.mem_range.2 hi)
  cases ho : ops[i]? with
  | none => rw [ho] at h1; simp at h1
  | some o =>
    rw [ho] at h1
    simp only [Option.map_some, Option.getD_some, Bool.and_eq_true, Option.isNone_iff_eq_none] at h1
    refine ⟨o, rfl, h1.1, fun e he hb => ?_⟩
    have h2 := Array.all_eq_true_iff_forall_mem.1 h1.2 e he
    simpa [hb] using h2
theorem wpAny_more {ops : Array Oper} {Q : Exit → Act → World → Prop} : ∀ (f : Nat) (listed : Array Bool) (a : Act) (w : World), wpAny P md ops Q f listed a w → wpAny P md ops Q (f + 1) listed a w
  | 0, _, _, _, h => ⟨fun _ => h.2, by rw [h.1]; simp⟩
  | f + 1, _, _, _, h => ⟨h.1, fun i hi => wpOp_mono (fun a' w' h' => wpAny_more f _ a' w' h') (h.2 i hi)⟩
theorem wpAny_mores {ops : Array Oper} {Q : Exit → Act → World → Prop} {g : Nat} {listed : Array Bool} {a : Act} {w : World} (h : wpAny P md ops Q g listed a w) : ∀ f, wpAny P md ops Q (f + g) listed a w
  | 0 => by rw [Nat.zero_add]; exact h
  | f + 1 => by rw [show f + 1 + g = (f + g) + 1 by omega]; exact wpAny_more _ _ _ _ (wpAny_mores h f)
/-- What may come up of the head alone. -/
theorem ready_head {l : List Oper} {n : Nat} {listed listed' : Array Bool} (inv : HeadInv md l.toArray n listed) (hsz : listed'.size = n) (hag : ∀ j, j < n → listed'[j]? = listed[j]?) {j : Nat} (hj : j < n) :
    j ∈ Region.ready md (l.take n).toArray listed' ↔ j ∈ Region.ready md l.toArray listed := by
  have hd : ∀ (i : Nat) (d : Bool), i < n → listed'.getD i d = listed.getD i d := fun i d hi => by
    rw [Array.getD_eq_getD_getElem?, Array.getD_eq_getD_getElem?, hag i hi]
  have hd2 : ∀ i, listed'.getD i false = listed.getD i false := fun i => by
    by_cases hi : i < n
    · exact hd i false hi
    · rw [Array.getD_eq_getD_getElem?, Array.getElem?_eq_none (by omega)]
      by_cases hi2 : i < l.toArray.size
      · exact (getD_both (inv.tail i (by omega) hi2)).symm
      · rw [Array.getD_eq_getD_getElem?, Array.getElem?_eq_none (by rw [inv.size]; omega)]
  have ho : (l.take n).toArray[j]? = l.toArray[j]? := by simp [hj]
  rw [mem_ready, mem_ready, ho, hd j true hj]
  constructor
  · rintro ⟨h1, o, h2, h3⟩
    exact ⟨h1, o, h2, fun e he hb => by rw [← hd2]; exact h3 e he hb⟩
  · rintro ⟨h1, o, h2, h3⟩
    exact ⟨h1, o, h2, fun e he hb => by rw [hd2]; exact h3 e he hb⟩
/-- While one of the head has not come up, one of it may come up. -/
theorem head_ready {ops : Array Oper} {n : Nat} {listed : Array Bool} (hf : Region.fwdB md ops n = true) (inv : HeadInv md ops n listed) (hn : n < ops.size) : ∀ (j : Nat), j < n → listed.getD j false = false → ∃ i, i < n ∧ i ∈ Region.ready md ops listed := by
  intro j
  induction j using Nat.strongRecOn with
  | _ j ih =>
    intro hj hun
    obtain ⟨o, ho, -, hfw⟩ := fwdB_at hf hj
    by_cases hall : ∀ e ∈ o.after, Region.binds md e = true → listed.getD e.on false = true
    · exact ⟨j, hj, mem_ready.2 ⟨getD_in (by rw [inv.size]; omega) hun, o, ho, hall⟩⟩
    · simp only [Classical.not_forall, Bool.not_eq_true] at hall
      obtain ⟨e, he, hb, hl⟩ := hall
      exact ih e.on (hfw e he hb) (Nat.lt_trans (hfw e he hb) hj) hl
theorem wpOp_head {l t : List Oper} {n i : Nat} {o : Oper} {Q : Exit → Act → World → Prop} {K : Act → World → Prop} {a : Act} {w : World} (hi : i < n) (ho : l.toArray[i]? = some o) (hg : o.guard = none)
    (h : wpOp P (l.take n).toArray (HeadQ P l.toArray Q t) i K a w) : wpOp P l.toArray Q i K a w := by
  have ho' : (l.take n).toArray[i]? = some o := by rw [← ho]; simp [hi]
  have hw : ∀ y, Region.wanted o y = true := fun y => by simp [Region.wanted, hg]
  unfold wpOp at h ⊢
  rw [ho'] at h
  rw [ho]
  simp only [hw, if_true] at h ⊢
  rcases h with h | ⟨h1, h2⟩
  · exact .inl (Oper.upon_head h)
  · exact .inr ⟨h1, h2⟩
def fullL (n m : Nat) : Array Bool := Array.replicate n true ++ Array.replicate m false
theorem full_of {ops : Array Oper} {n : Nat} {listed : Array Bool} (inv : HeadInv md ops n listed) (hn : n ≤ ops.size) (h : ∀ j, j < n → listed.getD j false = true) : listed = fullL n (ops.size - n) := by
  refine Array.ext (by simp [fullL, inv.size]; omega) fun j h1 h2 => ?_
  have e1 : listed[j] = listed.getD j false := by simp [h1]
  have e2 : listed[j] = listed.getD j true := by simp [h1]
  by_cases hj : j < n
  · rw [e1, h j hj]
    simp [fullL, hj]
  · rw [e2, inv.tail j (by omega) (by rw [← inv.size]; exact h1)]
    simp [fullL, Array.getElem_append, hj]
theorem wpAny_cut {l : List Oper} {n : Nat} {Q : Exit → Act → World → Prop} (hs : Region.sinkB md l.toArray n = true) (hc : Region.chainB md l.toArray n = true) (hf : Region.fwdB md l.toArray n = true) (hn : n < l.length) (hseq : Region.seqB md l.toArray (l.drop n).length n (fullL n (l.toArray.size - n)) = true) :
    ∀ (f : Nat) (listed listed' : Array Bool) (a : Act) (w : World), HeadInv md l.toArray n listed → listed'.size = n → (∀ j, j < n → listed'[j]? = listed[j]?) → wpAny P md (l.take n).toArray (HeadQ P l.toArray Q (l.drop n)) f listed' a w → wpAny P md l.toArray Q (f + (l.drop n).length) listed a w := by
  have done : ∀ (f : Nat) (listed : Array Bool) (a : Act) (w : World), HeadInv md l.toArray n listed → (∀ j, j < n → listed.getD j false = true) → wpList P l.toArray Q (l.drop n) a w → wpAny P md l.toArray Q (f + (l.drop n).length) listed a w := fun f listed a w inv hall h => by
    rw [full_of inv (by simp; omega) hall]
    exact wpAny_mores (wpAny_of_seq (l.drop n) n _ a w (fun j => by simp [List.getElem?_drop]) hseq h) f
  have none_ready : ∀ (listed listed' : Array Bool), HeadInv md l.toArray n listed → listed'.size = n → (∀ j, j < n → listed'[j]? = listed[j]?) → Region.ready md (l.take n).toArray listed' = [] → ∀ j, j < n → listed.getD j false = true := fun listed listed' inv hsz hag h0 j hj => by
    cases hl : listed.getD j false with
    | true => rfl
    | false =>
      obtain ⟨i, hi, hr⟩ := head_ready hf inv (by simpa using hn) j hj hl
      have := (ready_head inv hsz hag hi).2 hr
      rw [h0] at this
      cases this
  intro f
  induction f with
  | zero =>
    intro listed listed' a w inv hsz hag h
    exact done 0 listed a w inv (none_ready listed listed' inv hsz hag h.1) h.2
  | succ f ih =>
    intro listed listed' a w inv hsz hag h
    by_cases h0 : Region.ready md (l.take n).toArray listed' = []
    · exact done (f + 1) listed a w inv (none_ready listed listed' inv hsz hag h0) (h.1 h0)
    · obtain ⟨k, hk⟩ := List.exists_mem_of_ne_nil _ h0
      have hkn : k < n := by
        have h1 := (mem_ready.1 hk).1
        refine Nat.lt_of_not_le fun h2 => ?_
        rw [Array.getD_eq_getD_getElem?, Array.getElem?_eq_none (by omega)] at h1
        cases h1
      have hkr := (ready_head inv hsz hag hkn).1 hk
      have hun := (mem_ready.1 hkr).1
      rw [show f + 1 + (l.drop n).length = (f + (l.drop n).length) + 1 by omega]
      refine ⟨fun h1 => (by rw [h1] at hkr; cases hkr), fun i hi => ?_⟩
      have hin : i < n := Nat.lt_of_not_le fun h2 => tail_waits hs hc (by simpa using hn) inv (n - k) k rfl hkn hun i h2 hi
      obtain ⟨o, ho, hg, -⟩ := fwdB_at hf hin
      have h3 := h.2 i ((ready_head inv hsz hag hin).2 hi)
      refine wpOp_head hin ho hg (wpOp_mono (fun a' w' h4 => ih _ _ a' w' (inv.set hi hin) (by simp [hsz]) (fun j hj => ?_) h4) h3)
      rw [Array.getElem?_setIfInBounds, Array.getElem?_setIfInBounds, hag j hj, hsz, inv.size]
      have : i < l.length := by omega
      simp [hin, this]
theorem wp_region_cut {id : Nat} {l : List Oper} (n : Nat) {Q : Exit → Act → World → Prop} {a : Act} {w : World} (hm : P.follows .mixedOrders = true) (hs : Region.sinkB .any l.toArray n = true) (hc : Region.chainB .any l.toArray n = true) (hf : Region.fwdB .any l.toArray n = true) (hn : n < l.length) (hseq : Region.seqB .any l.toArray (l.drop n).length n (fullL n (l.toArray.size - n)) = true)
    (h : wpAny P .any (l.take n).toArray (HeadQ P l.toArray Q (l.drop n)) (l.take n).toArray.size (Array.replicate (l.take n).toArray.size false) a { w with drawn := w.drawn + 1 }) : (Code.region id l.toArray true).wp P Q a w := by
  refine wp_region_any hm ?_
  have hsz : (l.take n).toArray.size = n := by simp; omega
  rw [hsz] at h
  have inv0 : HeadInv .any l.toArray n (Array.replicate l.toArray.size false) :=
    ⟨by simp, fun j oj _ hl => (by rw [getD_replicate_false] at hl; cases hl), fun t _ ht => getD_in (by simpa using ht) (getD_replicate_false _ _)⟩
  have := wpAny_cut hs hc hf hn hseq n _ _ a _ inv0 (by simp) (fun j hj => by
    have hj2 : j < l.length := by omega
    simp [hj, hj2]) h
  rwa [show n + (l.drop n).length = l.toArray.size by simp; omega] at this
end
end Go

/- The reference's tree of a grey picture: its state. -/
namespace Go.Proofs.Ytmmanehdmnkekaa
open Go Go.RowKit
section
variable {W H : Nat} {l : List Int} {t : Int}
theorem thrL_at {k : Nat} (hk : k < l.length) : (thrL t l).getD k false = decide (t ≤ l.getD k 0) := by
  unfold thrL
  rw [List.getD_eq_getElem?_getD, List.getElem?_map, List.getElem?_eq_getElem hk, List.getD_eq_getElem?_getD, List.getElem?_eq_getElem hk]
  rfl
theorem pxP_thr (hl : l.length = H * W) : pxP W H (thrL t l) = lvR W H l t := by
  funext p
  show (hasB W H p.1 p.2 && (thrL t l).getD (p.2 * W + p.1).toNat false) = (hasB W H p.1 p.2 && decide (t ≤ l.getD (p.2 * W + p.1).toNat 0))
  cases hb : hasB W H p.1 p.2
  · rfl
  · obtain ⟨h1, h2, h3, h4⟩ := hasB_true.1 hb
    have := (place_lt h1 h2 h3 h4).2
    rw [thrL_at (by rw [hl, Nat.mul_comm]; omega)]
theorem spots_thr (hl : l.length = H * W) : spotsTo W (thrL t l) (H * W) = (blkL W H l t).map (spN W) := by
  unfold spotsTo blkL
  have e : (List.range (H * W)).filter (fun i => (thrL t l).getD i false) = (List.range (H * W)).filter fun q => decide (t ≤ l.getD q 0) := List.filter_congr fun q hq => by
    rw [List.mem_range] at hq
    exact thrL_at (by omega)
  rw [e]
  rfl
theorem lab_thr (hl : l.length = H * W) {F : Int × Int → Nat} {n : Nat} (h : LabK (pxP W H (thrL t l)) (nbA false) (spotsTo W (thrL t l) (H * W)) (spotsTo W (thrL t l) (H * W)).length F n) :
    n = (fstL W H l t).length ∧ ∀ j, j < H * W → ∀ m, m < n → (F (spN W j) = m + 1 ↔ Cn W H l t ((fstL W H l t).getD m 0) j) := by
  rw [pxP_thr hl, spots_thr hl, List.length_map] at h
  exact lab_parts h
end
noncomputable def gtR (W H : Nat) (l : List Int) : GT := (levT (nodeL W H l), parT W H l (nodeL W H l), areT W H l (nodeL W H l), grl W H (nodT W H l (nodeL W H l)))
def TreeRet (w : World) (R : GT) (e : Ending) (w' : World) : Prop :=
  ∃ a1 a2 a3 a4 c1 c2 c3 c4 A C, e = .returned (gtV a1 a2 a3 a4 c1 c2 c3 c4 R) ∧ w.Ext w' ∧ OwnG w.heap.size w'.heap.size w' a1 a2 a3 a4 A C R
theorem apO_of {a b : Option Addr} {n m c d : Nat} (h : ApV (.slice a n c) (.slice b m d)) : apO a b := fun k o e o' e' => by
  subst e e'
  exact h k rfl rfl
theorem grI_made {w : World} {base g n : Nat} (h : w.ownsRow base 2 1 (.slice (some ⟨g, 0, none⟩) n n) n (madeCells (Value.int .i64 0).cells (n * 1)).toList) : GrI base w (.slice (some ⟨g, 0, none⟩) n n) (List.replicate n 0) := by
  have e : (madeCells (Value.int .i64 0).cells (n * 1)).toList = (List.replicate n (0 : Int)).map iv := by
    have e1 : (Value.int .i64 0).cells = #[Value.int .i64 0] := rfl
    rw [e1]
    apply List.ext_getElem
    · simp [size_madeCells]
    · intro i h1 h2
      simp [madeCells, Nat.mod_one, iv]
  show w.ownsRow base 2 1 _ (List.replicate n (0 : Int)).length ((List.replicate n (0 : Int)).map iv)
  rw [List.length_replicate, ← e]
  exact h
/-- Filled with -1 as far as i. -/
def negL (n i : Nat) : List Int := (List.range n).map fun j => if j < i then -1 else 0
theorem negL_len (n i : Nat) : (negL n i).length = n := by simp [negL]
theorem negL_zero (n : Nat) : negL n 0 = List.replicate n 0 := by
  unfold negL
  rw [List.eq_replicate_iff]
  exact ⟨by simp, fun b hb => by rw [List.mem_map] at hb; obtain ⟨j, -, rfl⟩ := hb; rfl⟩
theorem negL_set {n i : Nat} (_ : i < n) : (negL n i).set i (-1) = negL n (i + 1) := by
  apply List.ext_getElem?
  intro j
  rw [List.getElem?_set, negL_len]
  by_cases hj : j < n
  · unfold negL
    rw [List.getElem?_map, List.getElem?_map, List.getElem?_range hj]
    simp only [Option.map_some]
    by_cases e : i = j
    · subst e
      rw [if_pos rfl, if_pos hj, if_pos (by omega)]
    · rw [if_neg e]
      by_cases hc : j < i
      · rw [if_pos hc, if_pos (by omega)]
      · rw [if_neg hc, if_neg (by omega)]
  · rw [List.getElem?_eq_none (by rw [negL_len]; omega), List.getElem?_eq_none (by rw [negL_len]; omega)]
    by_cases e : i = j
    · omega
    · rw [if_neg e]
theorem negL_all (n : Nat) : negL n n = List.replicate n (-1) := by
  unfold negL
  rw [List.eq_replicate_iff]
  exact ⟨by simp, fun b hb => by rw [List.mem_map] at hb; obtain ⟨j, hj, rfl⟩ := hb; rw [List.mem_range] at hj; rw [if_pos hj]⟩
structure TrSp (wA : World) (u1 u2 u3 v1 v2 v3 : Value) (L P R : List Int) (wr : World) : Prop where
  x : wA.Ext wr
  box : wr.heap[wA.heap.size]? = some (.cells #[u1, u2, u3, .slice none 0 0] 30 (0, 0))
  o1 : GrI (wA.heap.size + 1) wr v1 L
  o2 : GrI (wA.heap.size + 1) wr v2 P
  o3 : GrI (wA.heap.size + 1) wr v3 R
  d12 : ApV v1 v2
  d13 : ApV v1 v3
  d23 : ApV v2 v3
section
variable {wA wr wa w1 w' : World} {u1 u2 u3 v1 v2 v3 v' : Value} {L P R : List Int} {z : Int}
theorem TrSp.ext (h : TrSp wA u1 u2 u3 v1 v2 v3 L P R wr) (hx : wr.Ext w') : TrSp wA u1 u2 u3 v1 v2 v3 L P R w' :=
  ⟨h.x.trans hx, by rw [hx.block (Array.getElem?_eq_some_iff.1 h.box).1]; exact h.box, h.o1.ext hx, h.o2.ext hx, h.o3.ext hx, h.d12, h.d13, h.d23⟩
theorem TrSp.push1 (h : TrSp wA u1 u2 u3 v1 v2 v3 L P R wr) (hx : wr.Ext wa) (hg : wa.grownBy w1 v1.ownBlock) (ho : w1.ownsRow (wA.heap.size + 1) 2 1 v' (L.length + 1) (L.map iv ++ [iv z])) (hat : v'.ownBlock = v1.ownBlock ∨ v'.ownBlock = some wa.heap.size) :
    TrSp wA u1 u2 u3 v' v2 v3 (L ++ [z]) P R w1 := by
  have ha := h.ext hx
  refine ⟨ha.x.grown hg fun k hk => by have := (GrI.lt ha.o1 hk).1; omega, ?_, GrowOf.push ho, World.ownsRow.kept ha.o2 hg (GrI.ne ha.o2 ha.d12.symm), World.ownsRow.kept ha.o3 hg (GrI.ne ha.o3 ha.d13.symm), apV_at ha.d12 (fun k hk => (GrI.lt ha.o2 hk).2) hat, apV_at ha.d13 (fun k hk => (GrI.lt ha.o3 hk).2) hat, ha.d23⟩
  · rw [hg.block _ (Array.getElem?_eq_some_iff.1 ha.box).1 fun e => by have := (GrI.lt ha.o1 e.symm).1; omega]; exact ha.box
theorem TrSp.push2 (h : TrSp wA u1 u2 u3 v1 v2 v3 L P R wr) (hx : wr.Ext wa) (hg : wa.grownBy w1 v2.ownBlock) (ho : w1.ownsRow (wA.heap.size + 1) 2 1 v' (P.length + 1) (P.map iv ++ [iv z])) (hat : v'.ownBlock = v2.ownBlock ∨ v'.ownBlock = some wa.heap.size) :
    TrSp wA u1 u2 u3 v1 v' v3 L (P ++ [z]) R w1 := by
  have ha := h.ext hx
  refine ⟨ha.x.grown hg fun k hk => by have := (GrI.lt ha.o2 hk).1; omega, ?_, World.ownsRow.kept ha.o1 hg (GrI.ne ha.o1 ha.d12), GrowOf.push ho, World.ownsRow.kept ha.o3 hg (GrI.ne ha.o3 ha.d23.symm), (apV_at ha.d12.symm (fun k hk => (GrI.lt ha.o1 hk).2) hat).symm, ha.d13, apV_at ha.d23 (fun k hk => (GrI.lt ha.o3 hk).2) hat⟩
  · rw [hg.block _ (Array.getElem?_eq_some_iff.1 ha.box).1 fun e => by have := (GrI.lt ha.o2 e.symm).1; omega]; exact ha.box
theorem TrSp.push3 (h : TrSp wA u1 u2 u3 v1 v2 v3 L P R wr) (hx : wr.Ext wa) (hg : wa.grownBy w1 v3.ownBlock) (ho : w1.ownsRow (wA.heap.size + 1) 2 1 v' (R.length + 1) (R.map iv ++ [iv z])) (hat : v'.ownBlock = v3.ownBlock ∨ v'.ownBlock = some wa.heap.size) :
    TrSp wA u1 u2 u3 v1 v2 v' L P (R ++ [z]) w1 := by
  have ha := h.ext hx
  refine ⟨ha.x.grown hg fun k hk => by have := (GrI.lt ha.o3 hk).1; omega, ?_, World.ownsRow.kept ha.o1 hg (GrI.ne ha.o1 ha.d13), World.ownsRow.kept ha.o2 hg (GrI.ne ha.o2 ha.d23), GrowOf.push ho, ha.d12, (apV_at ha.d13.symm (fun k hk => (GrI.lt ha.o1 hk).2) hat).symm, (apV_at ha.d23.symm (fun k hk => (GrI.lt ha.o2 hk).2) hat).symm⟩
  · rw [hg.block _ (Array.getElem?_eq_some_iff.1 ha.box).1 fun e => by have := (GrI.lt ha.o3 e.symm).1; omega]; exact ha.box
theorem TrSp.cells (h : TrSp wA u1 u2 u3 v1 v2 v3 L P R wr) : wr.cell? ⟨wA.heap.size, 0, none⟩ = some u1 ∧ wr.cell? ⟨wA.heap.size, 1, none⟩ = some u2 ∧ wr.cell? ⟨wA.heap.size, 2, none⟩ = some u3 ∧ wr.cell? ⟨wA.heap.size, 3, none⟩ = some (.slice none 0 0) := by
  have h1 := h.box
  refine ⟨?_, ?_, ?_, ?_⟩ <;> simp [World.cell?, h1]
theorem TrSp.free (h : TrSp wA u1 u2 u3 v1 v2 v3 L P R wr) (i : Nat) : wr.frozen? ⟨wA.heap.size, i, none⟩ = false := by
  have h1 := h.box
  simp [World.frozen?, h1]
theorem TrSp.putAt (h : TrSp wA u1 u2 u3 v1 v2 v3 L P R wr) {i : Nat} {y y1 y2 y3 : Value} (_ : i < 3) (he : (#[u1, u2, u3, .slice none 0 0] : Array Value).setIfInBounds i y = #[y1, y2, y3, .slice none 0 0]) :
    TrSp wA y1 y2 y3 v1 v2 v3 L P R (wr.setCell ⟨wA.heap.size, i, none⟩ y) := by
  have hb := h.box
  have hk : ∀ k, k ≠ wA.heap.size → (wr.setCell ⟨wA.heap.size, i, none⟩ y).heap[k]? = wr.heap[k]? := fun k hk => Below.heap_setCell _ _ _ _ hk
  refine ⟨h.x.setCell (p := ⟨wA.heap.size, i, none⟩) (Nat.le_refl _) y, ?_, World.ownsRow.keep h.o1 fun k hk1 => hk k (by have := (GrI.lt h.o1 hk1).1; omega), World.ownsRow.keep h.o2 fun k hk1 => hk k (by have := (GrI.lt h.o2 hk1).1; omega), World.ownsRow.keep h.o3 fun k hk1 => hk k (by have := (GrI.lt h.o3 hk1).1; omega), h.d12, h.d13, h.d23⟩
  simp [World.setCell, Array.getElem?_modify, hb, he]
theorem TrSp.put1 (h : TrSp wA u1 u2 u3 v1 v2 v3 L P R wr) (y : Value) : TrSp wA y u2 u3 v1 v2 v3 L P R (wr.setCell ⟨wA.heap.size, 0, none⟩ y) := h.putAt (by decide) (by simp)
theorem TrSp.put2 (h : TrSp wA u1 u2 u3 v1 v2 v3 L P R wr) (y : Value) : TrSp wA u1 y u3 v1 v2 v3 L P R (wr.setCell ⟨wA.heap.size, 1, none⟩ y) := h.putAt (by decide) (by simp)
theorem TrSp.put3 (h : TrSp wA u1 u2 u3 v1 v2 v3 L P R wr) (y : Value) : TrSp wA u1 u2 y v1 v2 v3 L P R (wr.setCell ⟨wA.heap.size, 2, none⟩ y) := h.putAt (by decide) (by simp)
theorem TrSp.other (h : TrSp wA u1 u2 u3 v1 v2 v3 L P R wr) {a : Addr} (h0 : wA.heap.size + 1 ≤ a.block) (h1 : v1.ownBlock ≠ some a.block) (h2 : v2.ownBlock ≠ some a.block) (h3 : v3.ownBlock ≠ some a.block) (y : Value) : TrSp wA u1 u2 u3 v1 v2 v3 L P R (wr.setCell a y) := by
  have hk : ∀ k, k ≠ a.block → (wr.setCell a y).heap[k]? = wr.heap[k]? := fun k hk => Below.heap_setCell _ _ _ _ hk
  exact ⟨h.x.setCell (p := a) (by omega) y, by rw [hk _ (by omega)]; exact h.box, World.ownsRow.keep h.o1 fun k hk1 => hk k (fun e => h1 (by rw [hk1, e])), World.ownsRow.keep h.o2 fun k hk1 => hk k (fun e => h2 (by rw [hk1, e])), World.ownsRow.keep h.o3 fun k hk1 => hk k (fun e => h3 (by rw [hk1, e])), h.d12, h.d13, h.d23⟩
end
/-- Within a level: the nodes of the spots are written in a row of their own; what was there before stays. -/
def FxB (wA : World) (vx s1 s2 s3 : Value) (b : Nat) : Prop := b ≠ wA.heap.size ∧ vx.ownBlock ≠ some b ∧ s1.ownBlock ≠ some b ∧ s2.ownBlock ≠ some b ∧ s3.ownBlock ≠ some b
structure KSt (wA wB : World) (vx s1 s2 s3 u1 u2 u3 v1 v2 v3 : Value) (L P R NX : List Int) (wr : World) : Prop where
  tr : TrSp wA u1 u2 u3 v1 v2 v3 L P R wr
  nx : GrI (wA.heap.size + 1) wr vx NX
  a1 : ApV vx v1
  a2 : ApV vx v2
  a3 : ApV vx v3
  sz : wB.heap.size ≤ wr.heap.size
  kp : ∀ b, b < wB.heap.size → FxB wA vx s1 s2 s3 b → wr.heap[b]? = wB.heap[b]?
  n1 : ∀ b, v1.ownBlock = some b → s1.ownBlock = some b ∨ wB.heap.size ≤ b
  n2 : ∀ b, v2.ownBlock = some b → s2.ownBlock = some b ∨ wB.heap.size ≤ b
  n3 : ∀ b, v3.ownBlock = some b → s3.ownBlock = some b ∨ wB.heap.size ≤ b
section
variable {wA wB wr wa w1 w' : World} {vx s1 s2 s3 u1 u2 u3 v1 v2 v3 v' : Value} {L P R NX : List Int} {z : Int}
theorem KSt.ext (h : KSt wA wB vx s1 s2 s3 u1 u2 u3 v1 v2 v3 L P R NX wr) (hx : wr.Ext w') : KSt wA wB vx s1 s2 s3 u1 u2 u3 v1 v2 v3 L P R NX w' :=
  ⟨h.tr.ext hx, h.nx.ext hx, h.a1, h.a2, h.a3, Nat.le_trans h.sz hx.size, fun b hb hf => by rw [hx.block (Nat.lt_of_lt_of_le hb h.sz)]; exact h.kp b hb hf, h.n1, h.n2, h.n3⟩
theorem new_in {v' v s : Value} {n k : Nat} (h : ∀ b, v.ownBlock = some b → s.ownBlock = some b ∨ k ≤ b) (hn : k ≤ n) (hat : v'.ownBlock = v.ownBlock ∨ v'.ownBlock = some n) : ∀ b, v'.ownBlock = some b → s.ownBlock = some b ∨ k ≤ b := fun b hb => by
  rcases hat with e | e
  · exact h b (by rw [← e]; exact hb)
  · rw [e] at hb; cases hb; exact .inr hn
theorem KSt.push1 (h : KSt wA wB vx s1 s2 s3 u1 u2 u3 v1 v2 v3 L P R NX wr) (hx : wr.Ext wa) (hg : wa.grownBy w1 v1.ownBlock) (ho : w1.ownsRow (wA.heap.size + 1) 2 1 v' (L.length + 1) (L.map iv ++ [iv z])) (hat : v'.ownBlock = v1.ownBlock ∨ v'.ownBlock = some wa.heap.size) :
    KSt wA wB vx s1 s2 s3 u1 u2 u3 v' v2 v3 (L ++ [z]) P R NX w1 := by
  have ha := h.ext hx
  refine ⟨h.tr.push1 hx hg ho hat, World.ownsRow.kept ha.nx hg (GrI.ne ha.nx ha.a1), (apV_at ha.a1.symm (fun k hk => (GrI.lt ha.nx hk).2) hat).symm, ha.a2, ha.a3, Nat.le_trans ha.sz hg.size, fun b hb hf => ?_, new_in h.n1 ha.sz hat, h.n2, h.n3⟩
  rw [hg.block b (Nat.lt_of_lt_of_le hb ha.sz) fun e => ?_]
  · exact ha.kp b hb hf
  · rcases h.n1 b e.symm with e' | e'
    · exact hf.2.2.1 e'
    · omega
theorem KSt.push2 (h : KSt wA wB vx s1 s2 s3 u1 u2 u3 v1 v2 v3 L P R NX wr) (hx : wr.Ext wa) (hg : wa.grownBy w1 v2.ownBlock) (ho : w1.ownsRow (wA.heap.size + 1) 2 1 v' (P.length + 1) (P.map iv ++ [iv z])) (hat : v'.ownBlock = v2.ownBlock ∨ v'.ownBlock = some wa.heap.size) :
    KSt wA wB vx s1 s2 s3 u1 u2 u3 v1 v' v3 L (P ++ [z]) R NX w1 := by
  have ha := h.ext hx
  refine ⟨h.tr.push2 hx hg ho hat, World.ownsRow.kept ha.nx hg (GrI.ne ha.nx ha.a2), ha.a1, (apV_at ha.a2.symm (fun k hk => (GrI.lt ha.nx hk).2) hat).symm, ha.a3, Nat.le_trans ha.sz hg.size, fun b hb hf => ?_, h.n1, new_in h.n2 ha.sz hat, h.n3⟩
  rw [hg.block b (Nat.lt_of_lt_of_le hb ha.sz) fun e => ?_]
  · exact ha.kp b hb hf
  · rcases h.n2 b e.symm with e' | e'
    · exact hf.2.2.2.1 e'
    · omega
theorem KSt.push3 (h : KSt wA wB vx s1 s2 s3 u1 u2 u3 v1 v2 v3 L P R NX wr) (hx : wr.Ext wa) (hg : wa.grownBy w1 v3.ownBlock) (ho : w1.ownsRow (wA.heap.size + 1) 2 1 v' (R.length + 1) (R.map iv ++ [iv z])) (hat : v'.ownBlock = v3.ownBlock ∨ v'.ownBlock = some wa.heap.size) :
    KSt wA wB vx s1 s2 s3 u1 u2 u3 v1 v2 v' L P (R ++ [z]) NX w1 := by
  have ha := h.ext hx
  refine ⟨h.tr.push3 hx hg ho hat, World.ownsRow.kept ha.nx hg (GrI.ne ha.nx ha.a3), ha.a1, ha.a2, (apV_at ha.a3.symm (fun k hk => (GrI.lt ha.nx hk).2) hat).symm, Nat.le_trans ha.sz hg.size, fun b hb hf => ?_, h.n1, h.n2, new_in h.n3 ha.sz hat⟩
  rw [hg.block b (Nat.lt_of_lt_of_le hb ha.sz) fun e => ?_]
  · exact ha.kp b hb hf
  · rcases h.n3 b e.symm with e' | e'
    · exact hf.2.2.2.2 e'
    · omega
theorem KSt.put1 (h : KSt wA wB vx s1 s2 s3 u1 u2 u3 v1 v2 v3 L P R NX wr) (z0 : Value) : KSt wA wB vx s1 s2 s3 z0 u2 u3 v1 v2 v3 L P R NX (wr.setCell ⟨wA.heap.size, 0, none⟩ z0) :=
  ⟨h.tr.put1 z0, h.nx.setCell (fun e => by have := (GrI.lt h.nx e.symm).1; dsimp only at this; omega) _, h.a1, h.a2, h.a3, by rw [World.size_setCell]; exact h.sz, fun b hb hf => by rw [Below.heap_setCell _ _ _ _ hf.1]; exact h.kp b hb hf, h.n1, h.n2, h.n3⟩
theorem KSt.put2 (h : KSt wA wB vx s1 s2 s3 u1 u2 u3 v1 v2 v3 L P R NX wr) (z0 : Value) : KSt wA wB vx s1 s2 s3 u1 z0 u3 v1 v2 v3 L P R NX (wr.setCell ⟨wA.heap.size, 1, none⟩ z0) :=
  ⟨h.tr.put2 z0, h.nx.setCell (fun e => by have := (GrI.lt h.nx e.symm).1; dsimp only at this; omega) _, h.a1, h.a2, h.a3, by rw [World.size_setCell]; exact h.sz, fun b hb hf => by rw [Below.heap_setCell _ _ _ _ hf.1]; exact h.kp b hb hf, h.n1, h.n2, h.n3⟩
theorem KSt.put3 (h : KSt wA wB vx s1 s2 s3 u1 u2 u3 v1 v2 v3 L P R NX wr) (z0 : Value) : KSt wA wB vx s1 s2 s3 u1 u2 z0 v1 v2 v3 L P R NX (wr.setCell ⟨wA.heap.size, 2, none⟩ z0) :=
  ⟨h.tr.put3 z0, h.nx.setCell (fun e => by have := (GrI.lt h.nx e.symm).1; dsimp only at this; omega) _, h.a1, h.a2, h.a3, by rw [World.size_setCell]; exact h.sz, fun b hb hf => by rw [Below.heap_setCell _ _ _ _ hf.1]; exact h.kp b hb hf, h.n1, h.n2, h.n3⟩
theorem KSt.at (h : KSt wA wB vx s1 s2 s3 u1 u2 u3 v1 v2 v3 L P R NX wr) {g n cap : Nat} (hv : vx = .slice (some ⟨g, 0, none⟩) n cap) {i : Nat} (hi : i < NX.length) :
    wr.cell? ⟨g, i, none⟩ = some (.int .i64 (NX.getD i 0)) ∧ wr.frozen? ⟨g, i, none⟩ = false ∧ ∀ y, KSt wA wB vx s1 s2 s3 u1 u2 u3 v1 v2 v3 L P R (NX.set i y) (wr.setCell ⟨g, i, none⟩ (.int .i64 y)) := by
  obtain ⟨g', cap', hv', hlo, hc, hf, hset⟩ := GrowOf.atI 0 h.nx hi
  rw [hv] at hv'
  simp only [Value.slice.injEq, Option.some.injEq, Addr.mk.injEq] at hv'
  obtain ⟨⟨rfl, -, -⟩, -, -⟩ := hv'
  have hob : vx.ownBlock = some g := by rw [hv]; rfl
  refine ⟨hc, hf, fun y => ⟨h.tr.other (a := ⟨g, i, none⟩) hlo (h.a1 g hob) (h.a2 g hob) (h.a3 g hob) _, hset y, h.a1, h.a2, h.a3, by rw [World.size_setCell]; exact h.sz, fun b hb hf => ?_, h.n1, h.n2, h.n3⟩⟩
  rw [Below.heap_setCell _ _ _ _ (fun e => hf.2.1 (by rw [hob, e]))]
  exact h.kp b hb hf
theorem KSt.row (h : KSt wA wB vx s1 s2 s3 u1 u2 u3 v1 v2 v3 L P R NX wr) {a : Option Addr} {xs : List Int} (hr : RowI wB a xs) (hf : ∀ b o, a = some ⟨b, o, none⟩ → FxB wA vx s1 s2 s3 b) : RowI wr a xs := fun i hi => by
  obtain ⟨b, o, e, hc⟩ := hr i hi
  refine ⟨b, o, e, ?_⟩
  have hl := World.block_lt_of_cell? _ _ hc
  have := h.kp b hl (hf b o e)
  unfold World.cell? at hc ⊢
  rw [this]
  exact hc
theorem KSt.start (h : TrSp wA v1 v2 v3 v1 v2 v3 L P R wr) (hn : GrI (wA.heap.size + 1) wr vx NX) (a1 : ApV vx v1) (a2 : ApV vx v2) (a3 : ApV vx v3) : KSt wA wr vx v1 v2 v3 v1 v2 v3 v1 v2 v3 L P R NX wr :=
  ⟨h, hn, a1, a2, a3, Nat.le_refl _, fun _ _ _ => rfl, fun _ h => .inl h, fun _ h => .inl h, fun _ h => .inl h⟩
end
end Go.Proofs.Ytmmanehdmnkekaa

/- The reference's tree of a grey picture: the walk. -/
namespace Go.Proofs.Ytmmanehdmnkekaa
open Go Go.RowKit
theorem grL_table {m : List (List Int)} (hok : tableOk m 99 = true) : GrL (m.getD 0 []).length m.length m.flatten := by
  obtain ⟨h1, h2, h3, h4, h5, h6⟩ := tableOk_spec hok
  intro k hk
  have hy : k / (m.getD 0 []).length < m.length := by rw [Nat.div_lt_iff_lt_mul (by omega)]; exact hk
  have hx : k % (m.getD 0 []).length < (m.getD 0 []).length := Nat.mod_lt _ (by omega)
  have h := flat_at (m.getD 0 []).length m _ _ h5 hy hx
  rw [Nat.mul_comm, Nat.div_add_mod] at h
  rw [h]
  exact h6 _ _ hy (by rw [h5 _ hy]; exact hx)
set_option maxHeartbeats 400000 in
theorem l00Has_any (a : Option Addr) (c : Nat) (l : List Int) (t : Int) (w : World) (hn : l.length ≤ 65536) (hr : RowI w a l) :
    Calls Try.prog 229 #[.slice a l.length c, .int .i64 t] w fun e w' => e = .returned (.bool (decide (t ∈ l))) ∧ w.Ext w' := by
  have HR := Lib.hid hr
  have HME : Hid (∀ k, k < l.length → l.getD k 0 = t → decide (t ∈ l) = true) := fun k hk e => by
    rw [decide_eq_true_iff, ← e, List.getD_eq_getElem?_getD, List.getElem?_eq_getElem hk]
    exact List.getElem_mem hk
  have HNO : Hid ((∀ k, k < l.length → l.getD k 0 ≠ t) → decide (t ∈ l) = false) := fun h => by
    rw [decide_eq_false_iff_not]
    intro hm
    obtain ⟨k, hk, e⟩ := List.mem_iff_getElem.1 hm
    exact h k hk (by rw [List.getD_eq_getElem?_getD, List.getElem?_eq_getElem hk]; exact e)
  clear hr
  generalize decide (t ∈ l) = res at *
  go_enter Try.func229, Try.ntmps229
  go_wp2
  go_loop [5] (fun i => ∃ k : Nat, k ≤ l.length ∧ i = .int .i64 k ∧ Hid (∀ j, j < k → l.getD j 0 ≠ t)) (fun i => l.length - (intOf i).toNat)
  case atStart => exact ⟨0, Nat.zero_le _, rfl, fun j hj => by omega⟩
  case round =>
    obtain ⟨k, hk, rfl, HK⟩ := hrel
    by_cases hlt : k < l.length
    · obtain ⟨b, o, rfl, hc⟩ := HR.out k hlt
      have hlt' : (k : Int) < (l.length : Int) := by omega
      have hk0 : (0 : Int) ≤ (k : Int) := by omega
      by_cases e : l.getD k 0 = t
      · have HT := Lib.hid (HME.out k hlt e)
        have he : (l.getD k 0 == t) = true := by simpa using e
        clear e
        generalize l.getD k 0 = z at *
        go_wp2
        go_ret
        rw [HT.out]
        exact ⟨rfl, .refl _⟩
      · have HK2 : Hid (∀ j, j < k + 1 → l.getD j 0 ≠ t) := fun j hj => by
          by_cases ej : j = k
          · rw [ej]; exact e
          · exact HK.out j (by omega)
        have he : (l.getD k 0 == t) = false := by simpa using e
        clear e HK
        generalize l.getD k 0 = z at *
        go_wp2
        go_round
        case rel => exact ⟨k + 1, by omega, by go_num, HK2⟩
        case measure => simp [intOf]; omega
    · have : k = l.length := by omega
      subst this
      have HT := Lib.hid (HNO.out HK.out)
      go_wp2
      go_ret
      rw [HT.out]
      exact ⟨rfl, .refl _⟩
theorem grI_at {lo g n cap i : Nat} {w : World} {xs : List Int} (h : GrI lo w (.slice (some ⟨g, 0, none⟩) n cap) xs) (hi : i < xs.length) :
    lo ≤ g ∧ w.cell? ⟨g, i, none⟩ = some (.int .i64 (xs.getD i 0)) ∧ w.frozen? ⟨g, i, none⟩ = false ∧ ∀ x, GrI lo (w.setCell ⟨g, i, none⟩ (.int .i64 x)) (.slice (some ⟨g, 0, none⟩) n cap) (xs.set i x) := by
  obtain ⟨g', cap', hv, hlo, hc, hf, hset⟩ := GrowOf.atI 0 h hi
  simp only [Value.slice.injEq, Option.some.injEq, Addr.mk.injEq] at hv
  obtain ⟨⟨rfl, -, -⟩, -, -⟩ := hv
  exact ⟨hlo, hc, hf, fun x => hset x⟩
theorem grI_getD {lo : Nat} {w : World} {v : Value} {xs : List Int} (h : GrI lo w v xs) (hp : 0 < xs.length) : ∃ g cap, v = .slice (some ⟨g, 0, none⟩) xs.length cap ∧ lo ≤ g ∧ g < w.heap.size ∧ xs.length ≤ cap := by
  obtain ⟨g, cap, e, h1, h2, -⟩ := GrowOf.some h hp
  obtain ⟨a, c, e', h3⟩ := GrowOf.form h
  rw [e] at e'
  cases e'
  exact ⟨g, cap, e, h1, h2, h3⟩
set_option maxRecDepth 5000 in
set_option maxHeartbeats 6400000 in
theorem l07Tree_any (p : Nat) (a : Option Addr) (c : Nat) (A : Nat → Option Addr) (C : Nat → Nat) (m : List (List Int)) (w : World) (hok : tableOk m 99 = true) (hp : w.cell? ⟨p, 0, none⟩ = some (.slice a m.length c)) (hm : MatAt w a A C m) :
    Calls Try.prog 163 #[.pointer (some ⟨p, 0, none⟩)] w (TreeRet w (gtR (m.getD 0 []).length m.length m.flatten)) := by
  obtain ⟨i0, hi, hz0, hz1, hz2⟩ := info_parts Try.infoI64
  obtain ⟨h1, h2, h3, h4, h5, h6⟩ := tableOk_spec hok
  have hfl := flat_len _ m h5
  have hgl := grL_table hok
  have hnn : m.length * (m.getD 0 []).length ≤ 256 := Nat.mul_le_mul h2 h4
  have hpos : 0 < m.length * (m.getD 0 []).length := Nat.mul_pos h1 h3
  obtain ⟨W0, hW0⟩ : ∃ W0, W0 = w.alloc (.cells #[.slice none 0 0, .slice none 0 0, .slice none 0 0, .slice none 0 0] 30) := ⟨_, rfl⟩
  have hx0 : w.Ext W0 := by rw [hW0]; repeat (first | exact World.Ext.refl _ | exact ⟨_, rfl⟩ | assumption | refine World.Ext.over ?_ _ | refine World.Ext.drewN ?_ _ | refine World.Ext.drew ?_ | refine World.Ext.alloc ?_ _ | refine World.Ext.setCell ?_ (by simp) _)
  have QR : Hid (Qua W0 w.heap.size 30 (.slice none 0 0) (.slice none 0 0) (.slice none 0 0) (.slice none 0 0)) := by rw [hW0]; exact Qua.new _ _ _ _ _ _ _ rfl
  have HSZ : Hid (W0.heap.size = w.heap.size + 1) := by show _ = _; rw [hW0]; simp
  have HLI := Lib.hid (fun w' (hx : w.Ext w') => l07List_any a c A C m w' (by omega) (fun r hr => by rw [h5 r hr]; omega) (by rw [hfl, Nat.mul_comm]; omega) (hm.ext hx))
  have HTH := Lib.hid (fun w' (t : Int) (hx : w.Ext w') => l07Threshold_any p a c A C m t w' hok (hx.cell hp) (hm.ext hx))
  have HLW := Lib.hid (fun w' (hx : w.Ext w') => l07Width_any p a c A C m w' h1 (hx.cell hp) (hm.ext hx))
  have HPW : Hid (∀ t : Int, picW (picRows (m.getD 0 []).length m.length (thrL t m.flatten)) = (m.getD 0 []).length ∧ picL (picRows (m.getD 0 []).length m.length (thrL t m.flatten)) = thrL t m.flatten) := fun t => ⟨picW_rows h1 (by unfold thrL; rw [List.length_map, hfl]), picL_rows (by unfold thrL; rw [List.length_map, hfl])⟩
  have HLB : Hid (∀ (w' : World) (pb : Nat) (pa : Option Addr) (pc : Nat) (t : Int) (F : Int × Int → Nat) (NN : Nat), w'.cell? ⟨pb, 0, none⟩ = some (.slice pa m.length pc) → RowS w' pa (picRows (m.getD 0 []).length m.length (thrL t m.flatten)) →
      LabK (pxP (m.getD 0 []).length m.length (thrL t m.flatten)) (nbS false) (spotsTo (m.getD 0 []).length (thrL t m.flatten) (m.length * (m.getD 0 []).length)) (spotsTo (m.getD 0 []).length (thrL t m.flatten) (m.length * (m.getD 0 []).length)).length F NN →
      Calls Try.prog 231 #[.pointer (some ⟨pb, 0, none⟩), .bool false] w' (LabSRet w' (m.getD 0 []).length m.length F NN)) := fun w' pb pa pc t F NN hc hr hF => by
    obtain ⟨e1, e2⟩ := HPW.out t
    have e3 : (picRows (m.getD 0 []).length m.length (thrL t m.flatten)).length = m.length := picRows_len _ _ _
    have e4 : Even (picRows (m.getD 0 []).length m.length (thrL t m.flatten)) := even_rows h1 (by unfold thrL; rw [List.length_map, hfl])
    generalize picRows (m.getD 0 []).length m.length (thrL t m.flatten) = ss at *
    have hF' : LabK (pxP (picW ss) ss.length (picL ss)) (nbS false) (spotsTo (picW ss) (picL ss) (ss.length * picW ss)) (spotsTo (picW ss) (picL ss) (ss.length * picW ss)).length F NN := by rw [e1, e2, e3]; exact hF
    have h := l05Labels_any pb pa pc ss false F NN w' e4 (by rw [e1]; exact h3) (by rw [e1]; omega) (by rw [e3]; omega) (by rw [e3]; exact hc) hr hF'
    rw [e1, e3] at h
    exact h
  have HX0 := Lib.hid hx0
  have HGL := Lib.hid hgl
  have HFL : Hid (m.flatten.length = m.length * (m.getD 0 []).length) := by show _ = _; rw [hfl, Nat.mul_comm]
  have HH1 := Lib.hid (And.intro h1 (And.intro h2 (And.intro h3 h4)))
  clear hok hm hx0 hgl hfl h1 h2 h3 h4 h5 h6
  obtain ⟨n, hn⟩ : ∃ n, n = m.length * (m.getD 0 []).length := ⟨_, rfl⟩
  have HN := Lib.hid hn
  rw [← hn] at hnn hpos
  generalize m.flatten = l at *
  generalize (m.getD 0 []).length = W at *
  generalize m.length = H at *
  rw [HFL.out, ← hn] at HLI
  have hln : l.length = n := by rw [HFL.out, hn]
  clear hn
  have hpl := World.block_lt_of_cell? _ _ hp
  dsimp only at hpl
  have C1 : Hid (i0.bytes * n ≤ 281474976710656) := by show _ ≤ _; rw [hz2]; omega
  have C2 : Hid (n ≤ maxLen) := by show _ ≤ _; unfold maxLen; omega
  have HLN := Lib.hid hln
  clear hln
  go_enter Try.func163, Try.ntmps163
  go_wp2_with fail
  rw [← hW0]
  clear hW0
  refine (HLI.out W0 HX0.out).mono ?_
  rintro e wA ⟨a1, c1, rfl, hx1, ho1, -⟩
  have HXA := Lib.hid (HX0.out.trans hx1)
  have HRL := Lib.hid (show RowI wA a1 l from ho1.row)
  have QR1 := Lib.hid (QR.out.ext hx1)
  have HP := Lib.hid hp
  have hsA : w.heap.size + 1 ≤ wA.heap.size := by have h1 := hx1.size; have h2 := HSZ.out; omega
  have HSA := Lib.hid hsA
  have hbA : ∀ b o, a1 = some ⟨b, o, none⟩ → b < wA.heap.size := fun b o e => by
    obtain ⟨b', o', e', -, h2, -⟩ := ho1 0 (by rw [HLN.out]; exact hpos)
    rw [e] at e'
    cases e'
    exact h2
  have HBA := Lib.hid hbA
  clear hx1 ho1 hp hpl QR HLI hsA hbA
  have HHAS : Hid (∀ w', wA.Ext w' → ∀ t : Int, Calls Try.prog 229 #[.slice a1 n c1, .int .i64 t] w' fun e w'' => e = .returned (.bool (decide (t ∈ l))) ∧ w'.Ext w'') := fun w' hx t => by
    have h := l00Has_any a1 c1 l t w' (by rw [HLN.out]; omega) (RowI.ext HRL.out hx)
    rw [HLN.out] at h
    exact h
  go_wp2_with (at_make; refine wpList_make_full _ rfl _ _ 28 rfl (wA.heap.size + 1) 2 i0 (.int .i64 0) 1 Try.underlying28 hi hz0 hz1 .i64 .i64 _ _ n rfl rfl rfl rfl C1.out C2.out (by simp) (fun w3 hown hgrow => ?_))
  have hx3 : (wA.alloc (.cells #[.slice none 0 0, .slice none 0 0, .slice none 0 0, .slice none 0 0] 30)).Ext w3 := World.Ext.made hgrow
  have hG3 := grI_made hown
  rw [← negL_zero] at hG3
  have hT3 : TrSp wA (.slice none 0 0) (.slice none 0 0) (.slice none 0 0) (.slice none 0 0) (.slice none 0 0) (.slice none 0 0) [] [] [] w3 := by
    refine ⟨World.Ext.trans (by repeat (first | exact World.Ext.refl _ | exact ⟨_, rfl⟩ | assumption | refine World.Ext.over ?_ _ | refine World.Ext.drewN ?_ _ | refine World.Ext.drew ?_ | refine World.Ext.alloc ?_ _ | refine World.Ext.setCell ?_ (by simp) _)) hx3, ?_, GrowOf.nilStart _ _ _, GrowOf.nilStart _ _ _, GrowOf.nilStart _ _ _, fun k h => ?_, fun k h => ?_, fun k h => ?_⟩
    · exact (Qua.new wA _ _ _ _ _ wA.heap.size rfl).ext hx3
    · cases h
    · cases h
    · cases h
  simp only [World.size_alloc] at hG3
  have HG3 := Lib.hid hG3
  have HT3 := Lib.hid hT3
  clear hown hgrow hx3 hG3 hT3
  go_wp2_with fail
  go_loopw [6, 29] (fun _ i wr => ∃ k : Nat, k ≤ n ∧ i = .int .i64 k ∧ Hid (GrI (wA.heap.size + 1) wr (.slice (some ⟨wA.heap.size + 1, 0, none⟩) n n) (negL n k)) ∧ Hid (TrSp wA (.slice none 0 0) (.slice none 0 0) (.slice none 0 0) (.slice none 0 0) (.slice none 0 0) (.slice none 0 0) [] [] [] wr)) (fun _ i _ => n - (intOf i).toNat)
  case atStart => exact ⟨0, Nat.zero_le _, rfl, HG3, HT3⟩
  case round =>
    obtain ⟨k, hk, rfl, HG, HT⟩ := hrel
    clear HG3 HT3
    obtain ⟨wo, rfl⟩ : ∃ wo : World, wo = wr := ⟨_, rfl⟩
    by_cases hlt : k < n
    · have hlt' : (k : Int) < (n : Int) := by omega
      have hk0 : (0 : Int) ≤ (k : Int) := by omega
      obtain ⟨-, c0, cf, hset⟩ := grI_at HG.out (i := k) (by rw [negL_len]; exact hlt)
      have HG2 := Lib.hid (hset (-1))
      rw [negL_set hlt] at HG2
      have HT2 := Lib.hid (HT.out.other (a := ⟨wA.heap.size + 1, k, none⟩) (Nat.le_refl _) (fun e => by cases e) (fun e => by cases e) (fun e => by cases e) (.int .i64 (-1)))
      have lc := World.block_lt_of_cell? _ _ c0
      clear hset HG HT
      generalize (negL n k).getD k 0 = z0 at c0
      go_wp2
      go_roundw
      case rel => exact ⟨k + 1, by omega, by go_num, HG2, HT2⟩
      case measure => simp [intOf]; omega
    · have hkn : k = n := by omega
      have HI0 : Hid (GrI (wA.heap.size + 1) wo (.slice (some ⟨wA.heap.size + 1, 0, none⟩) n n) (nodT W H l (ndTo W H l 0))) := by
        have h := HG.out
        rw [hkn, negL_all, HN.out, ← nodT_nil (W := W) (H := H) (l := l), ← HN.out] at h
        exact h
      have HAP0 : Hid (ApV (.slice (some ⟨wA.heap.size + 1, 0, none⟩) n n) (.slice none 0 0)) := fun k _ h2 => by cases h2
      clear HG hkn
      go_wp2_with fail
      go_loopw [5, 7] (fun v5 i wr => ∃ (t : Nat) (v1 v2 v3 : Value), t ≤ 100 ∧ i = .int .i64 t ∧ Hid (TrSp wA v1 v2 v3 v1 v2 v3 (levT (ndTo W H l t)) (parT W H l (ndTo W H l t)) (areT W H l (ndTo W H l t)) wr) ∧ Hid (GrI (wA.heap.size + 1) wr v5 (nodT W H l (ndTo W H l t))) ∧ Hid (ApV v5 v1 ∧ ApV v5 v2 ∧ ApV v5 v3)) (fun _ i _ => 100 - (intOf i).toNat)
      case atStart => exact ⟨0, _, _, _, Nat.zero_le _, rfl, HT, HI0, HAP0.out, HAP0.out, HAP0.out⟩
      case round =>
        obtain ⟨t, v1, v2, v3, ht, rfl, HT1, HI, HAP⟩ := hrel
        clear HT HI0 HAP0
        obtain ⟨wl, rfl⟩ : ∃ wl : World, wl = wr := ⟨_, rfl⟩
        obtain ⟨g5, c5, rfl, hg51, hg52, hc5⟩ := grI_getD HI.out (by rw [nodT_len, ← HN.out]; exact hpos)
        rw [nodT_len, ← HN.out] at hc5
        rw [nodT_len, ← HN.out] at HI HAP
        rw [nodT_len, ← HN.out]
        by_cases htt : t < 100
        · have htt' : (t : Int) ≤ 99 := by omega
          go_wp2_with fail
          refine (HHAS.out wl HT1.out.x t).mono ?_
          rintro e w1 ⟨rfl, hx1⟩
          have HT2 := Lib.hid (HT1.out.ext hx1)
          have HI2 := Lib.hid (HI.out.ext hx1)
          have hsz1 := hx1.size
          clear HT1 HI hx1
          cases hmem : decide ((t : Int) ∈ l)
          · have HLV : Hid (ndTo W H l (t + 1) = ndTo W H l t) := by
              show _ = _
              rw [ndTo_succ, lvN_none (fun s hs e => ?_), List.append_nil]
              rw [decide_eq_false_iff_not] at hmem
              apply hmem
              have hsl : s < l.length := by rw [HFL.out]; exact hs
              rw [← e, List.getD_eq_getElem?_getD, List.getElem?_eq_getElem hsl]
              exact List.getElem_mem hsl
            clear hmem
            go_wp2
            go_roundw
            case rel => exact ⟨t + 1, v1, v2, v3, by omega, by go_num, by rw [HLV.out]; exact HT2, by rw [HLV.out]; exact HI2, HAP⟩
            case measure => simp [intOf]; omega
          · clear hmem
            obtain ⟨F, NN, hF⟩ := LabK.ex (pxP W H (thrL t l)) (nbS false) (spotsTo W (thrL t l) (H * W)) (spotsTo W (thrL t l) (H * W)).length
            have HF := Lib.hid hF
            have HPT := Lib.hid (lab_thr HFL.out (hF.congr1 (nb_same false)))
            have hNN : NN ≤ 256 := by
              have h1 := HPT.out.1
              have h2 : (fstL W H l t).length ≤ H * W := by
                unfold fstL
                exact Nat.le_trans (List.length_filter_le _ _) (Nat.le_of_eq List.length_range)
              rw [← HN.out] at h2
              omega
            clear hF
            go_wp2_with fail
            refine (HTH.out w1 t (HXA.out.trans HT2.out.x)).mono ?_
            rintro e w2 ⟨a8, c8, rfl, hx2, ho8⟩
            have HC8 : Hid (Calls Try.prog 231 #[.pointer (some ⟨w2.heap.size, 0, none⟩), .bool false] (w2.alloc (.cells #[.slice a8 H c8] 38)) (LabSRet (w2.alloc (.cells #[.slice a8 H c8] 38)) W H F NN)) :=
              HLB.out _ w2.heap.size a8 c8 t F NN (by simp [go_sem]) (RowOf.ext ho8.row (by repeat (first | exact World.Ext.refl _ | exact ⟨_, rfl⟩ | assumption | refine World.Ext.over ?_ _ | refine World.Ext.drewN ?_ _ | refine World.Ext.drew ?_ | refine World.Ext.alloc ?_ _ | refine World.Ext.setCell ?_ (by simp) _))) HF.out
            have HT3 := Lib.hid (HT2.out.ext (hx2.trans (show w2.Ext (w2.alloc (.cells #[.slice a8 H c8] 38)) by repeat (first | exact World.Ext.refl _ | exact ⟨_, rfl⟩ | assumption | refine World.Ext.over ?_ _ | refine World.Ext.drewN ?_ _ | refine World.Ext.drew ?_ | refine World.Ext.alloc ?_ _ | refine World.Ext.setCell ?_ (by simp) _))))
            have HI3 := Lib.hid (HI2.out.ext (hx2.trans (show w2.Ext (w2.alloc (.cells #[.slice a8 H c8] 38)) by repeat (first | exact World.Ext.refl _ | exact ⟨_, rfl⟩ | assumption | refine World.Ext.over ?_ _ | refine World.Ext.drewN ?_ _ | refine World.Ext.drew ?_ | refine World.Ext.alloc ?_ _ | refine World.Ext.setCell ?_ (by simp) _))))
            have HVL : Hid ((∀ q, v1.ownBlock = some q → wA.heap.size + 1 ≤ q ∧ q < w2.heap.size) ∧ (∀ q, v2.ownBlock = some q → wA.heap.size + 1 ≤ q ∧ q < w2.heap.size) ∧ (∀ q, v3.ownBlock = some q → wA.heap.size + 1 ≤ q ∧ q < w2.heap.size)) :=
              ⟨fun q h => GrI.lt (HT2.out.ext hx2).o1 h, fun q h => GrI.lt (HT2.out.ext hx2).o2 h, fun q h => GrI.lt (HT2.out.ext hx2).o3 h⟩
            have hsz2 := hx2.size
            clear HT2 HI2 hx2 ho8
            go_wp2_with fail
            refine HC8.out.mono ?_
            rintro e w9 ⟨a9, c9, rfl, hx9, ho9⟩
            rw [Nat.mul_comm W H, ← HN.out]
            have HT4 := Lib.hid (HT3.out.ext hx9)
            have HI4 := Lib.hid (HI3.out.ext hx9)
            have HO9 := Lib.hid ho9
            have HC9 : Hid (Calls Try.prog 232 #[.slice (some ⟨g5, 0, none⟩) n c5] w9 fun e w' => ∃ v, e = .returned v ∧ w9.Ext w' ∧ GrowOf (Value.int .i64) w9.heap.size 2 w' v (nodT W H l (ndTo W H l t))) := by
              have h := l00Own_any g5 0 c5 (nodT W H l (ndTo W H l t)) w9 (by rw [nodT_len, ← HN.out]; omega) (GrowOf.own 0 HI4.out).row
              rw [nodT_len, ← HN.out] at h
              exact h
            have hsz9 : w2.heap.size + 1 ≤ w9.heap.size := by have := hx9.size; simp at this; omega
            have hO9 : ∀ b o, a9 = some ⟨b, o, none⟩ → w2.heap.size + 1 ≤ b ∧ b < w9.heap.size := fun b o e => by
              obtain ⟨b', o', e', h1, h2, -⟩ := HO9.out 0 (by rw [numL_len, ← HN.out]; exact hpos)
              rw [e] at e'
              cases e'
              simp at h1
              exact ⟨h1, h2⟩
            have HO9B := Lib.hid hO9
            clear HT3 HI3 hx9 ho9 HC8 hO9
            go_wp2_with fail
            refine HC9.out.mono ?_
            rintro e w11 ⟨v11, rfl, hx11, hg11⟩
            obtain ⟨g11, c11, rfl, hg111, hg112, hc11⟩ := grI_getD (show GrI w9.heap.size w11 v11 _ from hg11) (by rw [nodT_len, ← HN.out]; exact hpos)
            rw [nodT_len, ← HN.out] at hg11 hc11
            rw [nodT_len, ← HN.out]
            have HS0 : Hid (KSt wA w11 (.slice (some ⟨g11, 0, none⟩) n c11) v1 v2 v3 v1 v2 v3 v1 v2 v3 (levT (ndK W H l t 0)) (parT W H l (ndK W H l t 0)) (areT W H l (ndK W H l t 0)) (nodT W H l (ndK W H l t 0)) w11) := by
              rw [ndK_zero]
              have hsA := HT4.out.x.size
              have hb9 : wA.heap.size + 1 ≤ w9.heap.size := Nat.lt_of_lt_of_le (Array.getElem?_eq_some_iff.1 HT4.out.box).1 (Nat.le_refl _)
              refine KSt.start (HT4.out.ext hx11) (World.ownsRow.mono hg11 hb9) (fun q h1 h2 => ?_) (fun q h1 h2 => ?_) (fun q h1 h2 => ?_)
              all_goals cases h1
              · have := (GrI.lt HT4.out.o1 h2).2; dsimp only at this; omega
              · have := (GrI.lt HT4.out.o2 h2).2; dsimp only at this; omega
              · have := (GrI.lt HT4.out.o3 h2).2; dsimp only at this; omega
            have HROWS : Hid (∀ (u1 u2 u3 x1 x2 x3 : Value) (L P R NX : List Int) (wr : World), KSt wA w11 (.slice (some ⟨g11, 0, none⟩) n c11) v1 v2 v3 u1 u2 u3 x1 x2 x3 L P R NX wr → RowI wr a9 (numL W H F) ∧ RowI wr a1 l ∧ RowI wr (some ⟨g5, 0, none⟩) (nodT W H l (ndTo W H l t))) := fun u1 u2 u3 x1 x2 x3 L P R NX wr h => by
              have hb9 : wA.heap.size < w9.heap.size := (Array.getElem?_eq_some_iff.1 HT4.out.box).1
              obtain ⟨l1, l2, l3⟩ := HVL.out
              have hA2 := HT4.out.x.size
              have hl2 : wA.heap.size < w2.heap.size := by omega
              refine ⟨h.row (RowI.ext (show RowI w9 a9 _ from HO9.out.row) hx11) fun b o e => ?_, RowI.ext HRL.out h.tr.x, h.row (RowI.ext (show RowI w9 (some ⟨g5, 0, none⟩) _ from (GrowOf.own 0 HI4.out).row) hx11) fun b o e => ?_⟩
              · obtain ⟨h1, h2⟩ := HO9B.out b o e
                refine ⟨by omega, fun e2 => ?_, fun e2 => ?_, fun e2 => ?_, fun e2 => ?_⟩
                · cases e2; dsimp only at *; omega
                · have := l1 _ e2; omega
                · have := l2 _ e2; omega
                · have := l3 _ e2; omega
              · cases e
                refine ⟨by omega, fun e2 => ?_, fun e2 => HAP.out.1 _ rfl e2, fun e2 => HAP.out.2.1 _ rfl e2, fun e2 => HAP.out.2.2 _ rfl e2⟩
                cases e2; dsimp only at *; omega
            have HSZW : Hid (wl.heap.size ≤ w11.heap.size) := by have := hx11.size; show _ ≤ _; omega
            clear HT4 HI4 HO9 hx11 hg11 HC9 HVL HO9B hg111 hg112
            go_wp2_with fail
            go_loopw [12] (fun i wr => ∃ (k kk : Nat) (x1 x2 x3 : Value), kk = k + 1 ∧ kk ≤ NN + 1 ∧ i = .int .i64 kk ∧ Hid (KSt wA w11 (.slice (some ⟨g11, 0, none⟩) n c11) v1 v2 v3 x1 x2 x3 x1 x2 x3 (levT (ndK W H l t k)) (parT W H l (ndK W H l t k)) (areT W H l (ndK W H l t k)) (nodT W H l (ndK W H l t k)) wr)) (fun i _ => NN + 1 - (intOf i).toNat)
            case atStart => exact ⟨0, 1, _, _, _, rfl, by omega, rfl, HS0⟩
            case round =>
              obtain ⟨k, kk, x1, x2, x3, hkk, hkn, rfl, HS⟩ := hrel
              clear HS0
              obtain ⟨wk, rfl⟩ : ∃ wk : World, wk = wr := ⟨_, rfl⟩
              have HKK := Lib.hid hkk
              clear hkk
              by_cases hle : kk ≤ NN
              · have hle' : (kk : Int) ≤ (NN : Int) := by omega
                obtain ⟨hr9, hr1, hr5⟩ := HROWS.out _ _ _ _ _ _ _ _ _ _ _ HS.out
                have HR9 := Lib.hid hr9
                have HR1 := Lib.hid hr1
                have HR5 := Lib.hid hr5
                clear hr9 hr1 hr5
                obtain ⟨c, hc⟩ : ∃ c : Nat → Bool, c = cnB W H l t ((fstL W H l t).getD k 0) := ⟨_, rfl⟩
                have HLB2 : Hid (∀ i, i < n → (numL W H F).getD i 0 = (F (spN W i) : Int) ∧ (((F (spN W i) : Nat) : Int) == (kk : Int)) = c i) := fun i hi => by
                  have hih : i < H * W := by rw [← HN.out]; exact hi
                  have hkl : k < NN := by have := HKK.out; omega
                  have hp := HPT.out.2 i hih k hkl
                  refine ⟨?_, ?_⟩
                  · unfold numL
                    rw [List.getD_eq_getElem?_getD, List.getElem?_map, List.getElem?_range hih]
                    rfl
                  · rw [hc, HKK.out, Bool.eq_iff_iff, beq_iff_eq, cnB_iff, ← hp]
                    omega
                obtain ⟨ob, hob⟩ : ∃ ob : Nat → Bool, ∀ j, ob j = (List.range j).any fun s => c s && decide (l.getD s 0 = (t : Int)) := ⟨_, fun _ => rfl⟩
                have HOB0 : Hid (ob 0 = false) := by show _ = _; rw [hob]; rfl
                have HOBS : Hid (∀ j, ob (j + 1) = (ob j || (c j && decide (l.getD j 0 = (t : Int))))) := fun j => by rw [hob, hob, anyI_succ]
                have HOBN : Hid (ob n = ownB W H l t ((fstL W H l t).getD k 0)) := by
                  show _ = _
                  rw [hob, hc, HN.out]
                  rfl
                have HC := Lib.hid hc
                clear hc hob
                go_wp2_with fail
                go_loop [13, 14, 15, 16, 60] (fun f ar ow _ i => ∃ j : Nat, j ≤ n ∧ i = .int .i64 j ∧ f = .int .i64 (fiW c j) ∧ ar = .int .i64 ((cntI c j : Nat) : Int) ∧ ow = .bool (ob j)) (fun _ _ _ _ i => n - (intOf i).toNat)
                case atStart => exact ⟨0, Nat.zero_le _, rfl, rfl, rfl, by rw [HOB0.out]⟩
                case round =>
                  obtain ⟨j, hj, rfl, rfl, rfl, rfl⟩ := hrel
                  by_cases hltj : j < n
                  · have hltj' : (j : Int) < (n : Int) := by omega
                    have hj0 : (0 : Int) ≤ (j : Int) := by omega
                    obtain ⟨b9, o9, rfl, d9⟩ := HR9.out j (by rw [numL_len, ← HN.out]; exact hltj)
                    obtain ⟨e1, e2⟩ := HLB2.out j hltj
                    rw [e1] at d9
                    obtain ⟨b1, o1, rfl, d1⟩ := HR1.out j (by rw [HLN.out]; exact hltj)
                    have hcl : cntI c j ≤ j := cntI_le j
                    have HS1 := HOBS.out j
                    clear e1
                    generalize F (spN W j) = fv at *
                    cases hcj : c j
                    · rw [hcj] at e2 HS1
                      have HF1 := Lib.hid (fiW_no hcj)
                      have HF2 := Lib.hid (cntI_no hcj)
                      have HF3 : Hid (ob (j + 1) = ob j) := by show _ = _; rw [HS1, Bool.false_and, Bool.or_false]
                      have e3 : (((fv : Nat) : Int) != (kk : Int)) = true := by rw [bne, e2]; rfl
                      clear HS1 hcj
                      generalize fiW c j = fz at *
                      generalize cntI c j = cz at *
                      generalize ob j = oz at *
                      go_wp2
                      go_round
                      case rel => exact ⟨j + 1, by omega, by go_num, by rw [HF1.out], by rw [HF2.out], by rw [HF3.out]⟩
                      case measure => simp [intOf]; omega
                    · rw [hcj] at e2 HS1
                      have HF2 := Lib.hid (cntI_yes hcj)
                      have e3 : (((fv : Nat) : Int) != (kk : Int)) = false := by rw [bne, e2]; rfl
                      have HF1n : Hid (fiW c j < 0 → fiW c (j + 1) = (j : Int)) := fun h => fiW_neg hcj h
                      have HF1p : Hid (¬ fiW c j < 0 → fiW c (j + 1) = fiW c j) := fun h => fiW_pos h
                      rw [Bool.true_and] at HS1
                      have HS2 := Lib.hid HS1
                      clear HS1 hcj
                      have HF4 : Hid (fiW c (j + 1) = if fiW c j < 0 then (j : Int) else fiW c j) := by
                        show _ = _
                        split
                        · rename_i h; exact HF1n.out h
                        · rename_i h; exact HF1p.out h
                      clear HF1n HF1p
                      generalize fiW c j = fz at *
                      generalize cntI c j = cz at *
                      generalize ob j = oz at *
                      have hdt : (l.getD j 0 == (t : Int)) = decide (l.getD j 0 = (t : Int)) := by rw [Bool.eq_iff_iff, beq_iff_eq, decide_eq_true_iff]
                      generalize decide (l.getD j 0 = (t : Int)) = dz at *
                      generalize l.getD j 0 = lz at *
                      by_cases hfz : fz < 0
                      all_goals
                        have HF5 := HF4
                        first | rw [if_pos hfz] at HF5 | rw [if_neg hfz] at HF5
                        clear HF4
                        cases oz
                        · cases dz
                          all_goals
                            have HF3 := HS2
                            simp only [Bool.or_false, Bool.or_true] at HF3
                            clear HS2
                            go_wp2
                            go_round
                            case rel => exact ⟨j + 1, by omega, by go_num, by rw [HF5.out], by rw [HF2.out]; go_num, by rw [HF3.out]⟩
                            case measure => simp [intOf]; omega
                        · have HF3 := HS2
                          simp only [Bool.true_or] at HF3
                          clear HS2
                          go_wp2
                          go_round
                          case rel => exact ⟨j + 1, by omega, by go_num, by rw [HF5.out], by rw [HF2.out]; go_num, by rw [HF3.out]⟩
                          case measure => simp [intOf]; omega
                  · have hjn : j = n := by omega
                    rw [hjn]
                    clear hjn hltj hj
                    rw [HOBN.out]
                    have hkl : k < (fstL W H l t).length := by have := HKK.out; rw [← HPT.out.1]; omega
                    cases how : ownB W H l t ((fstL W H l t).getD k 0)
                    · have HK2 := Lib.hid (ndK_no hkl how)
                      have HKK2 : Hid (kk + 1 = k + 1 + 1) := by show _ = _; rw [HKK.out]
                      clear how hkl
                      go_wp2
                      go_roundw
                      case rel => exact ⟨k + 1, kk + 1, x1, x2, x3, HKK2.out, by omega, by go_num, by rw [HK2.out]; exact HS⟩
                      case measure => simp [intOf]; omega
                    · have HK2 := Lib.hid (ndK_yes hkl how)
                      have HKK2 : Hid (kk + 1 = k + 1 + 1) := by show _ = _; rw [HKK.out]
                      have hln : (ndK W H l t k).length ≤ 256 := Nat.le_trans (ndK_len HGL.out htt) (by rw [← HN.out]; exact hnn)
                      obtain ⟨q, hq1, hq2, hq3⟩ : ∃ q, q = (fstL W H l t).getD k 0 ∧ q < n ∧ fiW c n = (q : Int) := by
                        obtain ⟨s1, s2, s3⟩ := fst_spec hkl
                        refine ⟨_, rfl, by rw [HN.out]; exact s1, ?_⟩
                        exact fiW_at (by rw [HC.out]; exact s2) (fun j hj => by rw [HC.out]; exact s3 j hj) n (by rw [HN.out]; exact s1)
                      have HQ3 : Hid (cntI c n = arN W H l (t, q)) := by show _ = _; rw [HC.out, HN.out, ← hq1]; rfl
                      have HPR : Hid (parN W H l (t, q) = lastIn W H l (ndTo W H l t) q) := rfl
                      rw [← hq1] at HK2
                      have HCQ : Hid (c = cnB W H l t q) := by show _ = _; rw [HC.out, hq1]
                      rw [hq3]
                      have hcn : cntI c n ≤ n := cntI_le n
                      rw [HQ3.out] at hcn
                      rw [HQ3.out]
                      clear how hkl hq1 hq3
                      obtain ⟨p1, q1, e, -⟩ := World.ownsRow.form HS.out.tr.o1
                      rw [levT_len] at e
                      subst e
                      obtain ⟨nds, hnds⟩ : ∃ nds, nds = ndK W H l t k := ⟨_, rfl⟩
                      rw [← hnds] at hln HS HK2
                      have HND := Lib.hid hnds
                      clear hnds
                      have HM0 : Hid (KSt wA w11 (.slice (some ⟨g11, 0, none⟩) n c11) v1 v2 v3 (.slice p1 nds.length q1) x2 x3 (.slice p1 nds.length q1) x2 x3 (levT nds) (parT W H l nds) (areT W H l nds) (mixT W H l nds c nds.length 0) wk) := by rw [mixT_zero]; exact HS
                      clear HS
                      go_wp2_with fail
                      go_loopw [17, 88] (fun _ i wr => ∃ j : Nat, j ≤ n ∧ i = .int .i64 j ∧ Hid (KSt wA w11 (.slice (some ⟨g11, 0, none⟩) n c11) v1 v2 v3 (.slice p1 nds.length q1) x2 x3 (.slice p1 nds.length q1) x2 x3 (levT nds) (parT W H l nds) (areT W H l nds) (mixT W H l nds c nds.length j) wr)) (fun _ i _ => n - (intOf i).toNat)
                      case atStart => exact ⟨0, Nat.zero_le _, rfl, HM0⟩
                      case round =>
                        obtain ⟨j, hj, rfl, HS⟩ := hrel
                        clear HM0
                        obtain ⟨wm, rfl⟩ : ∃ wm : World, wm = wr := ⟨_, rfl⟩
                        by_cases hltj : j < n
                        · have hltj' : (j : Int) < (n : Int) := by omega
                          have hj0 : (0 : Int) ≤ (j : Int) := by omega
                          obtain ⟨b9, o9, rfl, d9⟩ := (HROWS.out _ _ _ _ _ _ _ _ _ _ _ HS.out).1 j (by rw [numL_len, ← HN.out]; exact hltj)
                          obtain ⟨e1, e2⟩ := HLB2.out j hltj
                          rw [e1] at d9
                          clear e1
                          generalize F (spN W j) = fv at *
                          cases hcj : c j
                          · rw [hcj] at e2
                            have HS2 : Hid (KSt wA w11 (.slice (some ⟨g11, 0, none⟩) n c11) v1 v2 v3 (.slice p1 nds.length q1) x2 x3 (.slice p1 nds.length q1) x2 x3 (levT nds) (parT W H l nds) (areT W H l nds) (mixT W H l nds c nds.length (j + 1)) wm) := by rw [mixT_no hcj]; exact HS
                            clear HS hcj
                            go_wp2
                            go_roundw
                            case rel => exact ⟨j + 1, by omega, by go_num, HS2⟩
                            case measure => simp [intOf]; omega
                          · rw [hcj] at e2
                            obtain ⟨g0, -, -, -⟩ := HS.out.tr.cells
                            obtain ⟨d11, f11, hset⟩ := HS.out.at rfl (i := j) (by rw [mixT_len, ← HN.out]; exact hltj)
                            have HS2 := Lib.hid (hset ((nds.length : Nat) : Int))
                            rw [← mixT_yes hcj] at HS2
                            have l11 := World.block_lt_of_cell? _ _ d11
                            have hj11 : (j : Int) ≤ (c11 : Int) := by omega
                            clear HS hcj hset
                            generalize (mixT W H l nds c nds.length j).getD j 0 = mz at d11
                            go_wp2
                            go_roundw
                            case rel => exact ⟨j + 1, by omega, by go_num, HS2⟩
                            case measure => simp [intOf]; omega
                        · have hjn : j = n := by omega
                          have HS2 : Hid (KSt wA w11 (.slice (some ⟨g11, 0, none⟩) n c11) v1 v2 v3 (.slice p1 nds.length q1) x2 x3 (.slice p1 nds.length q1) x2 x3 (levT nds) (parT W H l nds) (areT W H l nds) (nodT W H l (nds ++ [(t, q)])) wm) := by
                            have h := HS.out
                            rw [hjn, HCQ.out, HN.out] at h
                            have e := mixT_all (W := W) (H := H) (l := l) (nds := nds) (d := (t, q))
                            simp only at e
                            rw [e, ← HN.out] at h
                            exact h
                          have hnl : ¬ (j : Int) < (n : Int) := by omega
                          clear HS hjn hltj hj
                          obtain ⟨g0, -, -, -⟩ := HS2.out.tr.cells
                          have f0 := HS2.out.tr.free 0
                          have l0 := World.block_lt_of_cell? _ _ g0
                          dsimp only at l0
                          have HB1 : Hid (nds.length + 1 ≤ maxLen) := by show _ ≤ _; unfold maxLen; omega
                          have HB2 : Hid ((nds.length + 1) * 8 ≤ 140737488355328) := by show _ ≤ _; omega
                          have HZ : Hid (∀ (w' : World) (o : Obj), wm.Ext w' → wA.heap.size + 1 ≤ (w'.alloc o).heap.size) := fun w' o hx => by have := hx.size; simp; omega
                          have HO1 : Hid (wm.ownsRow (wA.heap.size + 1) 2 1 (.slice p1 nds.length q1) nds.length ((levT nds).map iv)) := by
                            have h : wm.ownsRow (wA.heap.size + 1) 2 1 (.slice p1 nds.length q1) (levT nds).length ((levT nds).map iv) := HS2.out.tr.o1
                            rw [levT_len] at h
                            exact h
                          go_wp2_with (at_builtin; go_loud (refine wpList_append_own_at _ rfl _ _ 28 rfl (wA.heap.size + 1) 2 i0 (.int .i64 0) 1 8 Try.underlying28 hi hz0 hz1 hz2 rfl (by decide) _ _ _ rfl (HO1.out.alloc _) ⟨wm.heap.size, 0, none⟩ 1 1 [.int .i64 (t : Int)] rfl rfl (cell_one_new _ _ _) (by simp [Value.oneCell']) HB1.out HB2.out (HZ.out _ _ (.refl _)) (fun y1 w7 hown7 hgrow7 _ hat7 => ?_)); have h7 := HS2.out.push1 (by repeat (first | exact World.Ext.refl _ | exact ⟨_, rfl⟩ | assumption | refine World.Ext.over ?_ _ | refine World.Ext.drewN ?_ _ | refine World.Ext.drew ?_ | refine World.Ext.alloc ?_ _ | refine World.Ext.setCell ?_ (by simp) _)) hgrow7 (by rw [levT_len]; exact hown7) hat7; obtain ⟨p4, q4, e, -⟩ := World.ownsRow.form h7.tr.o1; rw [List.length_append, levT_len, List.length_singleton] at e; subst e; obtain ⟨g7, -, -, -⟩ := h7.tr.cells; have lg7 := World.block_lt_of_cell? _ _ g7; have fr7 := h7.tr.free 0; have HS3 := Lib.hid (h7.put1 (.slice p4 (nds.length + 1) q4)); clear h7 hown7 hgrow7 hat7 g0 f0 l0)
                          obtain ⟨wq, hwq⟩ : ∃ wq, wq = w7.setCell ⟨wA.heap.size, 0, none⟩ (.slice p4 (nds.length + 1) q4) := ⟨_, rfl⟩
                          rw [← hwq] at HS3
                          go_upto_region 39 with fail
                          rw [← hwq]
                          clear hwq g7 lg7 fr7 HO1 HZ
                          obtain ⟨p5, q5, e, -⟩ := World.ownsRow.form HS3.out.tr.o2
                          rw [parT_len] at e
                          subst e
                          obtain ⟨-, g1, -, -⟩ := HS3.out.tr.cells
                          have f1 := HS3.out.tr.free 1
                          obtain ⟨b5, o5, e5, d5⟩ := (HROWS.out _ _ _ _ _ _ _ _ _ _ _ HS3.out).2.2 q (by rw [nodT_len, ← HN.out]; exact hq2)
                          cases e5
                          rw [nodT_at (by rw [← HN.out]; exact hq2), ← HPR.out] at d5
                          rw [Nat.zero_add] at d5
                          have hqi : (q : Int) < (n : Int) := by omega
                          have hq0 : (0 : Int) ≤ (q : Int) := by omega
                          have lq := (Array.getElem?_eq_some_iff.1 HS3.out.tr.box).1
                          have HZ : Hid (∀ w' : World, wq.Ext w' → wA.heap.size + 1 ≤ w'.heap.size) := fun w' hx => Nat.le_trans lq hx.size
                          have HO2 : Hid (wq.ownsRow (wA.heap.size + 1) 2 1 (.slice p5 nds.length q5) nds.length ((parT W H l nds).map iv)) := by
                            have h : wq.ownsRow (wA.heap.size + 1) 2 1 (.slice p5 nds.length q5) (parT W H l nds).length ((parT W H l nds).map iv) := HS3.out.tr.o2
                            rw [parT_len] at h
                            exact h
                          go_cut [117] (fun u117 WX => ∃ y2, u117 = y2 ∧ Hid (KSt wA w11 (.slice (some ⟨g11, 0, none⟩) n c11) v1 v2 v3 (.slice p4 (nds.length + 1) q4) y2 x3 (.slice p4 (nds.length + 1) q4) y2 x3 (levT nds ++ [(t : Int)]) (parT W H l nds ++ [parN W H l (t, q)]) (areT W H l nds) (nodT W H l (nds ++ [(t, q)])) WX))
                          case first =>
                            refine wp_region_cut 8 (by kernel_rfl) (by kernel_rfl) (by kernel_rfl) (by kernel_rfl) (by simp) (by kernel_rfl) ?_
                            simp only [List.take_succ_cons, List.take_zero, List.drop_succ_cons, List.drop_zero]
                            change wpAny _ _ _ _ _ _ _ (World.drew _)
                            refine wpAny_of_held (S := fun w' => w'.cell? ⟨wA.heap.size, 1, none⟩ = some (.slice p5 nds.length q5) ∧ w'.cell? ⟨g5, q, none⟩ = some (.int .i64 (parN W H l (t, q)))) _ _ _ _ ?_
                            have hHeld : (wq.drew.cell? ⟨wA.heap.size, 1, none⟩ = some (.slice p5 nds.length q5) ∧ wq.drew.cell? ⟨g5, q, none⟩ = some (.int .i64 (parN W H l (t, q)))) := ⟨g1, d5⟩
                            (refine' wpAnyH_take (i := 0) (oi := { dst := some 110, op := Op.fieldAddr 30 (Operand.tmp 4) 1, type := 0, pos := "l07_grey.go:135", after := #[], guard := none }) (v := _) rfl (by kernel_rfl) (by kernel_rfl) (by kernel_rfl) (fun _ _ _ h => h) (Or.inl ⟨by rfl, ?hy0t⟩) (by assumption) ?rest0t; (case hy0t => (intro w hSw; (try dsimp only at hSw); go_simp; (try with_reducible rfl))); (try simp only [Act.put, List.setIfInBounds_toArray, List.set_cons_succ, List.set_cons_zero]))
                            (refine' wpAnyH_take (i := 1) (oi := { dst := some 111, op := Op.load 28 (Operand.tmp 110), type := 28, pos := "l07_grey.go:135", after := #[{ on := 0, ground := Ground.data }], guard := none }) (v := _) rfl (by kernel_rfl) (by kernel_rfl) (by kernel_rfl) (fun _ _ _ h => h) (Or.inl ⟨by rfl, ?hy1t⟩) (by assumption) ?rest1t; (case hy1t => (intro w hSw; (try dsimp only at hSw); go_simp; (try with_reducible rfl))); (try simp only [Act.put, List.setIfInBounds_toArray, List.set_cons_succ, List.set_cons_zero]))
                            (refine' wpAnyH_take (i := 2) (oi := { dst := some 112, op := Op.move (Operand.tmp 5), type := 28, pos := "l07_grey.go:135", after := #[], guard := none }) (v := _) rfl (by kernel_rfl) (by kernel_rfl) (by kernel_rfl) (fun _ _ _ h => h) (Or.inl ⟨by rfl, ?hy2t⟩) (by assumption) ?rest2t; (case hy2t => (intro w hSw; (try dsimp only at hSw); go_simp; (try with_reducible rfl))); (try simp only [Act.put, List.setIfInBounds_toArray, List.set_cons_succ, List.set_cons_zero]))
                            (refine' wpAnyH_take (i := 3) (oi := { dst := some 113, op := Op.move (Operand.tmp 13), type := 2, pos := "l07_grey.go:135", after := #[], guard := none }) (v := _) rfl (by kernel_rfl) (by kernel_rfl) (by kernel_rfl) (fun _ _ _ h => h) (Or.inl ⟨by rfl, ?hy3t⟩) (by assumption) ?rest3t; (case hy3t => (intro w hSw; (try dsimp only at hSw); go_simp; (try with_reducible rfl))); (try simp only [Act.put, List.setIfInBounds_toArray, List.set_cons_succ, List.set_cons_zero]))
                            (refine' wpAnyH_take (i := 4) (oi := { dst := some 114, op := Op.indexAddr 28 (Operand.tmp 112) (Operand.tmp 113), type := 0, pos := "l07_grey.go:135", after := #[{ on := 2, ground := Ground.data }, { on := 3, ground := Ground.data }], guard := none }) (v := _) rfl (by kernel_rfl) (by kernel_rfl) (by kernel_rfl) (fun _ _ _ h => h) (Or.inl ⟨by rfl, ?hy4t⟩) (by assumption) ?rest4t; (case hy4t => (intro w hSw; (try dsimp only at hSw); go_simp; (try with_reducible rfl))); (try simp only [Act.put, List.setIfInBounds_toArray, List.set_cons_succ, List.set_cons_zero]))
                            (refine' wpAnyH_take (i := 5) (oi := { dst := some 115, op := Op.load 2 (Operand.tmp 114), type := 2, pos := "l07_grey.go:135", after := #[{ on := 4, ground := Ground.data }], guard := none }) (v := _) rfl (by kernel_rfl) (by kernel_rfl) (by kernel_rfl) (fun _ _ _ h => h) (Or.inl ⟨by rfl, ?hy5t⟩) (by assumption) ?rest5t; (case hy5t => (intro w hSw; (try dsimp only at hSw); go_simp; (try with_reducible rfl))); (try simp only [Act.put, List.setIfInBounds_toArray, List.set_cons_succ, List.set_cons_zero]))
                            clear hHeld
                            refine wpAnyH_ready (rs := [6]) (by kernel_rfl) (by simp) ?_
                            refine AllReadyH.cons (o := { dst := some 116, op := Op.buildSlice 28 1 #[(0, Operand.tmp 115)], type := 28, pos := "l07_grey.go:135", after := #[{ on := 5, ground := Ground.data }], guard := none }) rfl (fun K hK => ?_) ?_
                            · go_simp
                              refine hK.out _ _ ⟨World.Ext.cell (by repeat (first | exact World.Ext.refl _ | exact ⟨_, rfl⟩ | assumption | refine World.Ext.over ?_ _ | refine World.Ext.drewN ?_ _ | refine World.Ext.drew ?_ | refine World.Ext.alloc ?_ _ | refine World.Ext.setCell ?_ (by simp) _)) g1, World.Ext.cell (by repeat (first | exact World.Ext.refl _ | exact ⟨_, rfl⟩ | assumption | refine World.Ext.over ?_ _ | refine World.Ext.drewN ?_ _ | refine World.Ext.drew ?_ | refine World.Ext.alloc ?_ _ | refine World.Ext.setCell ?_ (by simp) _)) d5⟩ (fun hHeld => ?_)
                              clear hK K hHeld
                              (try simp only [Act.put, List.setIfInBounds_toArray, List.set_cons_succ, List.set_cons_zero])
                              refine wpAnyH_ready (rs := [7]) (by kernel_rfl) (by simp) ?_
                              refine AllReadyH.cons (o := { dst := some 117, op := Op.call { callee := Callee.builtin Builtin.append, args := #[Operand.tmp 111, Operand.tmp 116], argTypes := #[28, 28] }, type := 28, pos := "l07_grey.go:135", after := #[{ on := 1, ground := Ground.data }, { on := 6, ground := Ground.data }], guard := none }) rfl (fun K hK => ?_) ?_
                              · refine step_append_mine rfl _ _ 28 rfl (wA.heap.size + 1) 2 i0 (.int .i64 0) 1 8 Try.underlying28 hi hz0 hz1 hz2 rfl (by decide) (.slice p5 nds.length q5) nds.length _ rfl (World.ownsRow.ext HO2.out (by repeat (first | exact World.Ext.refl _ | exact ⟨_, rfl⟩ | assumption | refine World.Ext.over ?_ _ | refine World.Ext.drewN ?_ _ | refine World.Ext.drew ?_ | refine World.Ext.alloc ?_ _ | refine World.Ext.setCell ?_ (by simp) _))) _ 1 1 [.int .i64 (parN W H l (t, q))] rfl rfl (by first | (refine cell_one_at ?_ <;> (simp; done)) | (intro q u hu; refine World.Ext.cell ?_ (cell_one_at (e := 2) rfl q u hu) <;> ((repeat (first | exact World.Ext.refl _ | exact ⟨_, rfl⟩ | assumption | refine World.Ext.over ?_ _ | refine World.Ext.drewN ?_ _ | refine World.Ext.drew ?_ | refine World.Ext.alloc ?_ _ | refine World.Ext.setCell ?_ ?_ _ | (simp; done))); done))) (by simp [Value.oneCell']) HB1.out HB2.out (HZ.out _ (by repeat (first | exact World.Ext.refl _ | exact ⟨_, rfl⟩ | assumption | refine World.Ext.over ?_ _ | refine World.Ext.drewN ?_ _ | refine World.Ext.drew ?_ | refine World.Ext.alloc ?_ _ | refine World.Ext.setCell ?_ (by simp) _))) (fun y2 w8 hown8 hgrow8 hat8 => ?_)
                                have h8 := HS3.out.push2 (by repeat (first | exact World.Ext.refl _ | exact ⟨_, rfl⟩ | assumption | refine World.Ext.over ?_ _ | refine World.Ext.drewN ?_ _ | refine World.Ext.drew ?_ | refine World.Ext.alloc ?_ _ | refine World.Ext.setCell ?_ (by simp) _)) hgrow8 (by rw [parT_len]; exact hown8) hat8
                                obtain ⟨p6, q6, e, -⟩ := World.ownsRow.form h8.tr.o2
                                rw [List.length_append, parT_len, List.length_singleton] at e
                                subst e
                                obtain ⟨-, g8, -, -⟩ := h8.tr.cells
                                have f8 := h8.tr.free 1
                                have l8 := World.block_lt_of_cell? _ _ g8
                                have d8 := (HROWS.out _ _ _ _ _ _ _ _ _ _ _ h8).2.2 q (by rw [nodT_len, ← HN.out]; exact hq2)
                                obtain ⟨b6, o6, e6, d8⟩ := d8
                                cases e6
                                rw [nodT_at (by rw [← HN.out]; exact hq2), ← HPR.out] at d8
                                rw [Nat.zero_add] at d8
                                have HS4 := Lib.hid (h8.put2 (.slice p6 (nds.length + 1) q6))
                                clear h8 hown8 hgrow8 hat8
                                refine hK.out _ _ ⟨g8, d8⟩ (fun hHeld => ?_)
                                clear hK K hHeld
                                (try simp only [Act.put, List.setIfInBounds_toArray, List.set_cons_succ, List.set_cons_zero])
                                refine wpAnyH_done (by kernel_rfl) ?_ _
                                show wpList _ _ _ _ _ _
                                go_wp2_with fail
                                go_meet
                                exact ⟨_, rfl, HS4⟩
                              · exact AllReadyH.nil
                            · exact AllReadyH.nil
                          case rest =>
                            obtain ⟨wc2, rfl⟩ : ∃ z : World, z = wc := ⟨_, rfl⟩
                            obtain ⟨y2, rfl, HS4⟩ := hcut
                            clear g1 f1 d5 lq HZ HO2
                            obtain ⟨-, -, g2, -⟩ := HS4.out.tr.cells
                            have f2 := HS4.out.tr.free 2
                            have l2 := World.block_lt_of_cell? _ _ g2
                            dsimp only at l2
                            obtain ⟨p7, q7, e, -⟩ := World.ownsRow.form HS4.out.tr.o3
                            rw [areT_len] at e
                            subst e
                            have HO3 : Hid (wc2.ownsRow (wA.heap.size + 1) 2 1 (.slice p7 nds.length q7) nds.length ((areT W H l nds).map iv)) := by
                              have h : wc2.ownsRow (wA.heap.size + 1) 2 1 (.slice p7 nds.length q7) (areT W H l nds).length ((areT W H l nds).map iv) := HS4.out.tr.o3
                              rw [areT_len] at h
                              exact h
                            have HZ : Hid (∀ o : Obj, wA.heap.size + 1 ≤ (wc2.alloc o).heap.size) := fun o => by simp; omega
                            go_wp2_with (at_builtin; refine wpList_append_own_at _ rfl _ _ 28 rfl (wA.heap.size + 1) 2 i0 (.int .i64 0) 1 8 Try.underlying28 hi hz0 hz1 hz2 rfl (by decide) _ _ _ rfl (HO3.out.alloc _) ⟨wc2.heap.size, 0, none⟩ 1 1 [.int .i64 (arN W H l (t, q) : Int)] rfl rfl (cell_one_new _ _ _) (by simp [Value.oneCell']) HB1.out HB2.out (HZ.out _) (fun y3 w9 hown9 hgrow9 _ hat9 => ?_); have h9 := HS4.out.push3 (by repeat (first | exact World.Ext.refl _ | exact ⟨_, rfl⟩ | assumption | refine World.Ext.over ?_ _ | refine World.Ext.drewN ?_ _ | refine World.Ext.drew ?_ | refine World.Ext.alloc ?_ _ | refine World.Ext.setCell ?_ (by simp) _)) hgrow9 (by rw [areT_len]; exact hown9) hat9; obtain ⟨p8, q8, e, -⟩ := World.ownsRow.form h9.tr.o3; rw [List.length_append, areT_len, List.length_singleton] at e; subst e; obtain ⟨-, -, g9, -⟩ := h9.tr.cells; have lg9 := World.block_lt_of_cell? _ _ g9; have fr9 := h9.tr.free 2; have HS5 := Lib.hid (h9.put3 (.slice p8 (nds.length + 1) q8)); clear h9 hown9 hgrow9 hat9 g2 f2 l2)
                            go_roundw
                            case rel =>
                              have HS6 := HS5
                              rw [show levT nds ++ [(t : Int)] = levT (ndK W H l t (k + 1)) by rw [HK2.out, levT_snoc], show parT W H l nds ++ [parN W H l (t, q)] = parT W H l (ndK W H l t (k + 1)) by rw [HK2.out, parT_snoc], show areT W H l nds ++ [(arN W H l (t, q) : Int)] = areT W H l (ndK W H l t (k + 1)) by rw [HK2.out, areT_snoc], ← HK2.out] at HS6
                              exact ⟨k + 1, kk + 1, _, _, _, HKK2.out, by omega, by go_num, HS6⟩
                            case measure => simp [intOf]; omega
              · have hke : k = (fstL W H l t).length := by have := HKK.out; rw [← HPT.out.1]; omega
                have HT5 : Hid (TrSp wA x1 x2 x3 x1 x2 x3 (levT (ndTo W H l (t + 1))) (parT W H l (ndTo W H l (t + 1))) (areT W H l (ndTo W H l (t + 1))) wk) := by
                  have h := HS.out.tr
                  rw [hke, ndK_all] at h
                  exact h
                have HI5 : Hid (GrI (wA.heap.size + 1) wk (.slice (some ⟨g11, 0, none⟩) n c11) (nodT W H l (ndTo W H l (t + 1)))) := by
                  have h := HS.out.nx
                  rw [hke, ndK_all] at h
                  exact h
                have HAP5 : Hid (ApV (.slice (some ⟨g11, 0, none⟩) n c11) x1 ∧ ApV (.slice (some ⟨g11, 0, none⟩) n c11) x2 ∧ ApV (.slice (some ⟨g11, 0, none⟩) n c11) x3) := ⟨HS.out.a1, HS.out.a2, HS.out.a3⟩
                have hnle : ¬ (kk : Int) ≤ (NN : Int) := by omega
                clear HS hke
                go_wp2
                go_roundw
                case rel => exact ⟨t + 1, x1, x2, x3, by omega, by go_num, HT5, HI5, HAP5⟩
                case measure => simp [intOf]; omega
        · have ht100 : t = 100 := by omega
          have hnt : ¬ (t : Int) ≤ 99 := by omega
          have HTn : Hid (TrSp wA v1 v2 v3 v1 v2 v3 (levT (nodeL W H l)) (parT W H l (nodeL W H l)) (areT W H l (nodeL W H l)) wl) := by
            have h := HT1.out
            rw [ht100] at h
            exact h
          have HIn : Hid (GrI (wA.heap.size + 1) wl (.slice (some ⟨g5, 0, none⟩) n c5) (nodT W H l (nodeL W H l))) := by
            have h := HI.out
            rw [ht100] at h
            exact h
          clear HT1 HI ht100
          obtain ⟨a2, k1, e, -⟩ := World.ownsRow.form HTn.out.o1
          rw [levT_len] at e
          subst e
          obtain ⟨a3, k2, e, -⟩ := World.ownsRow.form HTn.out.o2
          rw [parT_len] at e
          subst e
          obtain ⟨a4, k3, e, -⟩ := World.ownsRow.form HTn.out.o3
          rw [areT_len] at e
          subst e
          have HXo : Hid (w.Ext wl) := HXA.out.trans HTn.out.x
          obtain ⟨N, hNd⟩ : ∃ N, N = (nodeL W H l).length := ⟨_, rfl⟩
          have HNd := Lib.hid hNd
          rw [← hNd] at HTn
          have HLW2 := Lib.hid (HLW.out wl HXo.out)
          have HRW : Hid (∀ w', wl.Ext w' → Calls Try.prog 165 #[.int .i64 W, .slice (some ⟨g5, 0, none⟩) n c5] w' (MatRet w' (grl W H (nodT W H l (nodeL W H l))))) := fun w' hx => by
            obtain ⟨q1, q2, q3, q4⟩ := HH1.out
            have h := l07Rows_any g5 0 c5 W H (nodT W H l (nodeL W H l)) w' q3 (by omega) (by omega) nodT_len (by rw [nodT_len, ← HN.out]; exact hc5) (RowI.ext (show RowI wl (some ⟨g5, 0, none⟩) _ from (GrowOf.own 0 HIn.out).row) hx)
            rw [nodT_len, ← HN.out] at h
            exact h
          have QB : Hid (Qua wl wA.heap.size 30 (.slice a2 N k1) (.slice a3 N k2) (.slice a4 N k3) (.slice none 0 0)) := HTn.out.box
          have QR2 : Hid (Qua wl w.heap.size 30 (.slice none 0 0) (.slice none 0 0) (.slice none 0 0) (.slice none 0 0)) := QR1.out.ext HTn.out.x
          have hwA := HSA.out
          clear hNd
          go_wp2_with fail
          refine HLW2.out.mono ?_
          rintro e w7 ⟨rfl, hx7⟩
          go_wp2_with fail
          refine (HRW.out w7 hx7).mono ?_
          rintro e w8 ⟨a9, c9, A9, C9, rfl, hx8', hm8'⟩
          have hx8 := hx7.trans hx8'
          have hm8 := (hm8'.mat (by decide)).mono (lo' := wl.heap.size) hx7.size (Nat.le_refl _)
          clear hx7 hx8' hm8'
          rw [grl_len]
          have q8 := QB.out.ext hx8
          have r8 := QR2.out.ext hx8
          have q83 := q8.cell3
          have q8f := q8.free 3
          have q9 := q8.set3 (.slice a9 H c9)
          have r9 := r8.other (a := ⟨wA.heap.size, 3, none⟩) (by dsimp only; omega) (.slice a9 H c9)
          have q90 := q9.cell0
          have q91 := q9.cell1
          have q92 := q9.cell2
          have q93 := q9.cell3
          have r90 := r9.cell0
          have r91 := r9.cell1
          have r92 := r9.cell2
          have r93 := r9.cell3
          have rf0 := r9.free 0
          have rf1 := r9.free 1
          have rf2 := r9.free 2
          have rf3 := r9.free 3
          have r10 := r9.put (.slice a2 N k1) (.slice a3 N k2) (.slice a4 N k3) (.slice a9 H c9)
          have s0 := r10.cell0
          have s1 := r10.cell1
          have s2 := r10.cell2
          have s3 := r10.cell3
          have HE : Hid (TreeRet w (gtR W H l) (.returned (.agg #[.slice a2 N k1, .slice a3 N k2, .slice a4 N k3, .slice a9 H c9])) (((((w8.setCell ⟨wA.heap.size, 3, none⟩ (.slice a9 H c9)).setCell ⟨w.heap.size, 0, none⟩ (.slice a2 N k1)).setCell ⟨w.heap.size, 1, none⟩ (.slice a3 N k2)).setCell ⟨w.heap.size, 2, none⟩ (.slice a4 N k3)).setCell ⟨w.heap.size, 3, none⟩ (.slice a9 H c9))) := by
            have hW : Wrote (fun b => b = wA.heap.size ∨ b = w.heap.size) w8 (((((w8.setCell ⟨wA.heap.size, 3, none⟩ (.slice a9 H c9)).setCell ⟨w.heap.size, 0, none⟩ (.slice a2 N k1)).setCell ⟨w.heap.size, 1, none⟩ (.slice a3 N k2)).setCell ⟨w.heap.size, 2, none⟩ (.slice a4 N k3)).setCell ⟨w.heap.size, 3, none⟩ (.slice a9 H c9)) :=
              (((((Wrote.refl _ w8).setCell (p := ⟨wA.heap.size, 3, none⟩) (.inl rfl) _).setCell (p := ⟨w.heap.size, 0, none⟩) (.inr rfl) _).setCell (p := ⟨w.heap.size, 1, none⟩) (.inr rfl) _).setCell (p := ⟨w.heap.size, 2, none⟩) (.inr rfl) _).setCell (p := ⟨w.heap.size, 3, none⟩) (.inr rfl) _
            have hsz := hW.size
            have n1 := HNd.out
            have hol := Nat.le_trans hx8.size hsz
            have hwo := QB.out.lt
            have own : ∀ {a : Option Addr} {k : Nat} {xs : List Int}, GrI (wA.heap.size + 1) wl (.slice a N k) xs → OwnOf (Value.int .i64) 0 w.heap.size wl.heap.size _ a xs := fun h => (OwnOf.wrote ((GrowOf.own 0 h).ext hx8) hW fun k h1 h2 h3 => by omega).mono (by omega) (Nat.le_refl _)
            refine ⟨a2, a3, a4, a9, k1, k2, k3, c9, A9, C9, ?_, HXo.out.wroteNew ((hx8.wrote _).trans hW) (fun k hk hs => by omega), apO_of HTn.out.d12, apO_of HTn.out.d13, apO_of HTn.out.d23, wl.heap.size, by omega, hol, ?_, ?_, ?_, ?_⟩
            · unfold gtV gtR
              dsimp only
              rw [levT_len, parT_len, areT_len, ← n1, grl_len]
            · exact own HTn.out.o1
            · exact own HTn.out.o2
            · exact own HTn.out.o3
            · exact (hm8.wrote hW fun k h1 h2 h3 => by omega).mono (Nat.le_refl _) hsz
          clear q8 r8 q9 r9 r10 hx8 hm8 QB QR2 HRW
          go_wp2
          exact bodyPost_ret (v := .agg #[.slice a2 N k1, .slice a3 N k2, .slice a4 N k3, .slice a9 H c9]) (by simp [results, Try.results163, go_sem, s0, s1, s2, s3]) rfl HE.out
end Go.Proofs.Ytmmanehdmnkekaa

/- The program's tree of a grey picture: the walk. -/
namespace Go.Proofs.Ytmmanehdmnkekaa
open Go Go.RowKit
theorem wpList_len_mapS {P : Program} {w : World} {ops : Array Oper} {rest : List Oper} {o : Oper} {a : Act} {Q : Exit → Act → World → Prop} (hg : o.guard = none) (m : Operand) (t : TypeId) (hop : o.op = Op.call { callee := Callee.builtin Builtin.len, args := #[m], argTypes := #[t] })
    (k e : TypeId) (ht : P.underlying t = some (.map k e)) (b n : Nat) (es : Array MapEntry) (clock : Nat) (hm : a.eval m = .map (some b)) (hb : w.heap[b]? = some (.map es clock)) (hn : es.size = n)
    (hK : wpList P ops Q rest (a.put o.dst (.int .i64 n)) w) : wpList P ops Q (o :: rest) a w := by
  refine wpList_plain hg fun K' hK' => ?_
  subst hn
  have hr : (Builtin.len_ #[t] o.type #[.map (some b)]).run P w = .ok (.int .i64 es.size) w := by
    simp [Builtin.len_, run_underlying ht, run_getObj_map w b es clock hb, goInt]
  unfold Oper.wp
  simp [execOp, hop, resolve, invoke, builtin, hm, hr, Result.andThen]
  exact hK' _ _ hK
theorem take_nextT {xs : List Int} {k : Nat} (h : k < xs.length) : xs.take (k + 1) = xs.take k ++ [xs.getD k 0] := by
  rw [List.take_succ_eq_append_getElem h, List.getD_eq_getElem?_getD, List.getElem?_eq_getElem h]
  rfl
theorem Nbx.other {w w1 : World} {b m : Nat} {t x y : Int} {r : Option Nat} (h : Nbx w b t x y m) (hg : w.grownBy w1 r) (hr : r ≠ some b) : Nbx w1 b t x y m := h.keep (hg.block b h.lt (Ne.symm hr))
theorem PartAt.len {w : World} {b W H q : Nat} {l : List Int} {t : Int} (h : PartAt w b W H l t q) : ∃ es clock, w.heap[b]? = some (.map es clock) ∧ es.size = ((List.range (H * W)).filter (cnB W H l t q)).length := by
  obtain ⟨ds, h1, h2, h3⟩ := h
  have hc := h1.count ds h2 fun p => by
    unfold mapG
    by_cases hp : p ∈ ds
    · simp [hp]
    · simp [hp]
  obtain ⟨es, clock, hb, -⟩ := h1
  refine ⟨es, clock, hb, ?_⟩
  unfold mapLen at hc
  rw [hb] at hc
  simp only at hc
  rw [hc]
  have hp : (((List.range (H * W)).filter (cnB W H l t q)).map (spN W)).Perm ds := by
    refine (List.perm_ext_iff_of_nodup ?_ h2).2 fun p => ?_
    · rw [List.nodup_iff_pairwise_ne, List.pairwise_map]
      exact List.Pairwise.imp (fun {a b} hab e => by have := spN_inj e; omega) (List.Pairwise.filter _ List.pairwise_lt_range)
    · rw [List.mem_map, h3]
      constructor
      · rintro ⟨j, hj, rfl⟩
        rw [List.mem_filter] at hj
        exact cnB_iff.1 hj.2
      · intro hr
        obtain ⟨j, hj, rfl⟩ := lvR_box hr.right
        exact ⟨j, by rw [List.mem_filter, List.mem_range]; exact ⟨hj, cnB_iff.2 hr⟩, rfl⟩
  rw [← hp.length_eq, List.length_map]
/-- The state with a node's box. -/
structure TrN (wA : World) (sv u1 u2 u3 v1 v2 v3 : Value) (L P R : List Int) (b6 : Nat) (t x y : Int) (bm : Nat) (wr : World) : Prop where
  st : TrSt wA sv u1 u2 u3 v1 v2 v3 L P R wr
  nbx : Nbx wr b6 t x y bm
  lo : wA.heap.size + 2 ≤ b6
  n1 : v1.ownBlock ≠ some b6
  n2 : v2.ownBlock ≠ some b6
  n3 : v3.ownBlock ≠ some b6
section
variable {wA wr wa w1 w' : World} {sv u1 u2 u3 v1 v2 v3 v' : Value} {L P R : List Int} {z : Int} {b6 bm : Nat} {t x y : Int}
theorem TrN.ext (h : TrN wA sv u1 u2 u3 v1 v2 v3 L P R b6 t x y bm wr) (hx : wr.Ext w') : TrN wA sv u1 u2 u3 v1 v2 v3 L P R b6 t x y bm w' := ⟨h.st.ext hx, h.nbx.ext hx, h.lo, h.n1, h.n2, h.n3⟩
theorem ownB_new {v' v : Value} {b6 n : Nat} (h : v.ownBlock ≠ some b6) (hn : b6 < n) (hat : v'.ownBlock = v.ownBlock ∨ v'.ownBlock = some n) : v'.ownBlock ≠ some b6 := by
  rcases hat with e | e
  · rw [e]; exact h
  · rw [e]; intro e'; cases e'; omega
theorem TrN.push1 (h : TrN wA sv u1 u2 u3 v1 v2 v3 L P R b6 t x y bm wr) (hx : wr.Ext wa) (hg : wa.grownBy w1 v1.ownBlock) (ho : w1.ownsRow (wA.heap.size + 2) 2 1 v' (L.length + 1) (L.map iv ++ [iv z])) (hat : v'.ownBlock = v1.ownBlock ∨ v'.ownBlock = some wa.heap.size) :
    TrN wA sv u1 u2 u3 v' v2 v3 (L ++ [z]) P R b6 t x y bm w1 := ⟨h.st.push1 hx hg ho hat, (h.nbx.ext hx).other hg h.n1, h.lo, ownB_new h.n1 (h.nbx.ext hx).lt hat, h.n2, h.n3⟩
theorem TrN.push2 (h : TrN wA sv u1 u2 u3 v1 v2 v3 L P R b6 t x y bm wr) (hx : wr.Ext wa) (hg : wa.grownBy w1 v2.ownBlock) (ho : w1.ownsRow (wA.heap.size + 2) 2 1 v' (P.length + 1) (P.map iv ++ [iv z])) (hat : v'.ownBlock = v2.ownBlock ∨ v'.ownBlock = some wa.heap.size) :
    TrN wA sv u1 u2 u3 v1 v' v3 L (P ++ [z]) R b6 t x y bm w1 := ⟨h.st.push2 hx hg ho hat, (h.nbx.ext hx).other hg h.n2, h.lo, h.n1, ownB_new h.n2 (h.nbx.ext hx).lt hat, h.n3⟩
theorem TrN.push3 (h : TrN wA sv u1 u2 u3 v1 v2 v3 L P R b6 t x y bm wr) (hx : wr.Ext wa) (hg : wa.grownBy w1 v3.ownBlock) (ho : w1.ownsRow (wA.heap.size + 2) 2 1 v' (R.length + 1) (R.map iv ++ [iv z])) (hat : v'.ownBlock = v3.ownBlock ∨ v'.ownBlock = some wa.heap.size) :
    TrN wA sv u1 u2 u3 v1 v2 v' L P (R ++ [z]) b6 t x y bm w1 := ⟨h.st.push3 hx hg ho hat, (h.nbx.ext hx).other hg h.n3, h.lo, h.n1, h.n2, ownB_new h.n3 (h.nbx.ext hx).lt hat⟩
theorem TrN.put1 (h : TrN wA sv u1 u2 u3 v1 v2 v3 L P R b6 t x y bm wr) (z : Value) : TrN wA sv z u2 u3 v1 v2 v3 L P R b6 t x y bm (wr.setCell ⟨wA.heap.size, 0, none⟩ z) := ⟨h.st.put1 z, h.nbx.keep (Below.heap_setCell _ _ _ _ (by have := h.lo; dsimp only; omega)), h.lo, h.n1, h.n2, h.n3⟩
theorem TrN.put2 (h : TrN wA sv u1 u2 u3 v1 v2 v3 L P R b6 t x y bm wr) (z : Value) : TrN wA sv u1 z u3 v1 v2 v3 L P R b6 t x y bm (wr.setCell ⟨wA.heap.size, 1, none⟩ z) := ⟨h.st.put2 z, h.nbx.keep (Below.heap_setCell _ _ _ _ (by have := h.lo; dsimp only; omega)), h.lo, h.n1, h.n2, h.n3⟩
theorem TrN.put3 (h : TrN wA sv u1 u2 u3 v1 v2 v3 L P R b6 t x y bm wr) (z : Value) : TrN wA sv u1 u2 z v1 v2 v3 L P R b6 t x y bm (wr.setCell ⟨wA.heap.size, 2, none⟩ z) := ⟨h.st.put3 z, h.nbx.keep (Below.heap_setCell _ _ _ _ (by have := h.lo; dsimp only; omega)), h.lo, h.n1, h.n2, h.n3⟩
theorem TrN.start (h : TrSt wA sv u1 u2 u3 v1 v2 v3 L P R wr) (t x y : Int) (bm : Nat) : TrN wA sv u1 u2 u3 v1 v2 v3 L P R wr.heap.size t x y bm (wr.alloc (.cells #[.int .i64 t, .int .i64 x, .int .i64 y, .map (some bm)] 196)) :=
  ⟨h.ext (by repeat (first | exact World.Ext.refl _ | exact ⟨_, rfl⟩ | assumption | refine World.Ext.over ?_ _ | refine World.Ext.drewN ?_ _ | refine World.Ext.drew ?_ | refine World.Ext.alloc ?_ _ | refine World.Ext.setCell ?_ (by simp) _)), Nbx.new _ _ _ _ _ rfl, (Array.getElem?_eq_some_iff.1 h.nb).1, fun e => by have := (GrI.lt h.o1 e).2; omega, fun e => by have := (GrI.lt h.o2 e).2; omega, fun e => by have := (GrI.lt h.o3 e).2; omega⟩
end
theorem field_grey (a : Option Addr) (n c : Nat) (w : World) : (Instr.field 26 (.agg #[.slice a n c]) 0).run Try.prog w = .ok (.slice a n c) w := by kernel_rfl
theorem GrAt.remadeF {w : World} {p W H : Nat} {l : List Int} (h : GrAt w p W H l) (hH0 : 0 < H) (hW : W ≤ 64) (hH : H ≤ 64) (f : Nat) (caps : Array Value) (NT : List Int) (he : Enters f)
    (hf : ∀ w', w.Ext w' → ∀ j, j < H * W → Calls Try.prog f (#[] ++ #[.agg #[.int .i64 ((j % W : Nat) : Int), .int .i64 ((j / W : Nat) : Int)]] ++ caps) w' fun e w'' => e = .returned (.int .i64 (NT.getD j 0)) ∧ w'.Ext w'') :
    Calls Try.prog 78 #[.pointer (some ⟨p, 0, none⟩), .func (.func f) #[] caps] w (GreyRet w (grl W H NT)) := by
  obtain ⟨a, c, A, C, m, h1, h2, h3, h4, -⟩ := h.ex
  have hr := h4 0 (by omega)
  have hh := remadeF_any p 0 a c A C m f caps (flG W NT) w (by omega) (by omega) (by omega) he h1 h2 fun w' hx x y hx1 hy1 => by
    rw [hr] at hx1
    have hb := Nat.mul_le_mul_right W (show y + 1 ≤ H by omega)
    rw [Nat.succ_mul] at hb
    have hc := hf w' hx (y * W + x) (by omega)
    have em : (y * W + x) % W = x := by rw [Nat.mul_comm, Nat.mul_add_mod, Nat.mod_eq_of_lt hx1]
    have ed : (y * W + x) / W = y := by rw [Nat.mul_comm, Nat.mul_add_div (by omega), Nat.div_eq_of_lt hx1]; rfl
    rw [em, ed] at hc
    exact hc
  rw [hr, h3] at hh
  exact hh
set_option maxRecDepth 5000 in
set_option maxHeartbeats 6400000 in
theorem greyTree_any (p W H : Nat) (l : List Int) (w : World) (hW1 : 1 ≤ W) (hH1 : 1 ≤ H) (hW : W ≤ 16) (hH : H ≤ 16) (hg : GrAt w p W H l) (hgl : GrL W H l) :
    Calls Try.prog 76 #[.pointer (some ⟨p, 0, none⟩)] w (TreeRet w (gtR W H l)) := by
  obtain ⟨i0, hi, hz0, hz1, hz2⟩ := info_parts Try.infoI64
  obtain ⟨W0, hW0⟩ : ∃ W0, W0 = (w.alloc (.cells #[.pointer (some ⟨p, 0, none⟩)] 210)).alloc (.cells #[.slice none 0 0, .slice none 0 0, .slice none 0 0, .slice none 0 0] 30) := ⟨_, rfl⟩
  have hx0 : w.Ext W0 := by rw [hW0]; repeat (first | exact World.Ext.refl _ | exact ⟨_, rfl⟩ | assumption | refine World.Ext.over ?_ _ | refine World.Ext.drewN ?_ _ | refine World.Ext.drew ?_ | refine World.Ext.alloc ?_ _ | refine World.Ext.setCell ?_ (by simp) _)
  have HN := Lib.hid (nodes_any p W H l W0 hW1 hH1 hW hH (hg.ext hx0) hgl)
  have hnn : H * W ≤ 256 := Nat.mul_le_mul hH hW
  have hn : (nodeL W H l).length ≤ 256 := Nat.le_trans (nodeL_len hgl) hnn
  have hpos : 0 < (nodeL W H l).length := nodeL_pos hgl (p := 0) (Nat.mul_pos hH1 hW1)
  have HG := Lib.hid hg
  have HGL := Lib.hid hgl
  have HX0 := Lib.hid hx0
  have d0 : W0.cell? ⟨w.heap.size, 0, none⟩ = some (.pointer (some ⟨p, 0, none⟩)) := by rw [hW0]; simp [go_sem]
  have QR : Hid (Qua W0 (w.heap.size + 1) 30 (.slice none 0 0) (.slice none 0 0) (.slice none 0 0) (.slice none 0 0)) := by rw [hW0]; exact Qua.new _ _ _ _ _ _ _ (by simp)
  have HSZ : Hid (W0.heap.size = w.heap.size + 2) := by show _ = _; rw [hW0]; simp
  clear hg hgl hx0
  go_enter Try.func76, Try.ntmps76
  go_wp2_with fail
  rw [← hW0]
  clear hW0
  refine HN.out.mono ?_
  rintro e wA ⟨v, qs, rfl, hx1, ho1, hk1, hp1⟩
  obtain ⟨a, cap, rfl, hcap⟩ := World.ownsRow.form ho1
  have hql : qs.length = (nodeL W H l).length := by rw [← hk1, List.length_map]
  have HQ : Hid (NdsAt wA W H l a qs) := ⟨GrowN.row ho1, hk1, fun d hd => ⟨(hp1 d hd).1, (hp1 d hd).2.2⟩⟩
  obtain ⟨b0, o0, rfl, -⟩ := HQ.out.row 0 (by omega)
  have e0 := hx1.cell d0
  have HX1 := Lib.hid hx1
  clear ho1 hp1 hk1 d0 HN hx1
  have HQL := Lib.hid hql
  obtain ⟨n, hnq⟩ : ∃ n, n = qs.length := ⟨_, rfl⟩
  rw [← hnq] at hql hcap
  have HNQ := Lib.hid hnq
  rw [← hnq]
  rw [← hql] at hn hpos
  clear hql hnq
  have HT0 : Hid (TrSt wA (.slice (some ⟨b0, o0, none⟩) n cap) (.slice none 0 0) (.slice none 0 0) (.slice none 0 0) (.slice none 0 0) (.slice none 0 0) (.slice none 0 0) [] [] [] ((wA.alloc (.cells #[.slice none 0 0, .slice none 0 0, .slice none 0 0, .slice none 0 0] 30)).alloc (.cells #[.slice (some ⟨b0, o0, none⟩) n cap] 192))) := by
    refine ⟨by repeat (first | exact World.Ext.refl _ | exact ⟨_, rfl⟩ | assumption | refine World.Ext.over ?_ _ | refine World.Ext.drewN ?_ _ | refine World.Ext.drew ?_ | refine World.Ext.alloc ?_ _ | refine World.Ext.setCell ?_ (by simp) _), ?_, ?_, GrowOf.nilStart _ _ _, GrowOf.nilStart _ _ _, GrowOf.nilStart _ _ _, fun k h => ?_, fun k h => ?_, fun k h => ?_⟩
    · exact Qua.keep (Qua.new wA _ _ _ _ _ wA.heap.size rfl) (World.Ext.block (by repeat (first | exact World.Ext.refl _ | exact ⟨_, rfl⟩ | assumption | refine World.Ext.over ?_ _ | refine World.Ext.drewN ?_ _ | refine World.Ext.drew ?_ | refine World.Ext.alloc ?_ _ | refine World.Ext.setCell ?_ (by simp) _)) (by simp))
    · show ((wA.heap.push _).push _)[wA.heap.size + 1]? = _
      rw [show wA.heap.size + 1 = (wA.heap.push (.cells #[.slice none 0 0, .slice none 0 0, .slice none 0 0, .slice none 0 0] 30)).size by simp]
      exact Array.getElem?_push_size
    · cases h
    · cases h
    · cases h
  have HLK : Hid (∀ (w' : World) (j k : Nat), wA.Ext w' → j < n → k < n → (Instr.lookup 194 (.map (some (qs.getD j nd0).2.2.2)) (.agg #[.int .i64 (qs.getD k nd0).2.1, .int .i64 (qs.getD k nd0).2.2.1]) false).run Try.prog w' = .ok (.bool (cnB W H l (qs.getD j nd0).1 ((nodeL W H l).getD j (0, 0)).2 ((nodeL W H l).getD k (0, 0)).2)) w') := fun w' j k hx hj hk => by
    obtain ⟨-, -, -, g4⟩ := (HQ.out.ext hx).get (i := j) (by rw [← HNQ.out]; exact hj)
    obtain ⟨k1, -, k3, -⟩ := HQ.out.get (i := k) (by rw [← HNQ.out]; exact hk)
    obtain ⟨-, q2, q3⟩ := k3
    rw [k1] at q2 q3
    unfold spN at q2
    simp only [Prod.mk.injEq] at q2
    rw [q2.1, q2.2]
    exact g4.look q3 (by omega) (by omega)
  have HLN : Hid (∀ (w' : World) (k : Nat), wA.Ext w' → k < n → ∃ es clock, w'.heap[(qs.getD k nd0).2.2.2]? = some (.map es clock) ∧ es.size = arN W H l ((nodeL W H l).getD k (0, 0))) := fun w' k hx hk => by
    obtain ⟨-, g2, -, g4⟩ := (HQ.out.ext hx).get (i := k) (by rw [← HNQ.out]; exact hk)
    rw [g2] at g4
    exact g4.len
  obtain ⟨LL, hLL⟩ : ∃ L, L = levT (nodeL W H l) := ⟨_, rfl⟩
  obtain ⟨PP, hPP⟩ : ∃ L, L = parT W H l (nodeL W H l) := ⟨_, rfl⟩
  obtain ⟨AA, hAA⟩ : ∃ L, L = areT W H l (nodeL W H l) := ⟨_, rfl⟩
  have hlen : LL.length = n ∧ PP.length = n ∧ AA.length = n := by rw [hLL, hPP, hAA, levT_len, parT_len, areT_len, HNQ.out, HQL.out]; exact ⟨rfl, rfl, rfl⟩
  have HLEN := Lib.hid hlen
  obtain ⟨lev, hlev⟩ : ∃ lev : Nat → Int, ∀ k, lev k = (qs.getD k nd0).1 := ⟨_, fun _ => rfl⟩
  obtain ⟨cP, hcP⟩ : ∃ cP : Nat → Nat → Bool, ∀ k j, cP k j = (decide (lev j < lev k) && cnB W H l (qs.getD j nd0).1 ((nodeL W H l).getD j (0, 0)).2 ((nodeL W H l).getD k (0, 0)).2) := ⟨_, fun _ _ => rfl⟩
  have HCP := Lib.hid hcP
  have HLV := Lib.hid hlev
  have HNXT : Hid (∀ k, k < n → LL.take (k + 1) = LL.take k ++ [lev k] ∧ PP.take (k + 1) = PP.take k ++ [lastW (cP k) k] ∧ AA.take (k + 1) = AA.take k ++ [(arN W H l ((nodeL W H l).getD k (0, 0)) : Int)]) := fun k hk => by
    obtain ⟨k1, k2, -, -⟩ := HQ.out.get (i := k) (by rw [← HNQ.out]; exact hk)
    have hkl : k < (nodeL W H l).length := by rw [← HQL.out, ← HNQ.out]; exact hk
    have el : LL.getD k 0 = lev k := by
      rw [hLL, hlev, k2]
      unfold levT
      rw [List.getD_eq_getElem?_getD, List.getElem?_map, List.getD_eq_getElem?_getD, List.getElem?_eq_getElem hkl]
      rfl
    have ep : PP.getD k 0 = lastW (cP k) k := by
      have e1 : PP.getD k 0 = parN W H l ((nodeL W H l).getD k (0, 0)) := by
        rw [hPP]
        unfold parT
        rw [List.getD_eq_getElem?_getD, List.getElem?_map, List.getD_eq_getElem?_getD, List.getElem?_eq_getElem hkl]
        rfl
      rw [e1, ← parN_prog hkl]
      refine lastW_congr fun j hj => ?_
      obtain ⟨-, j2, -, -⟩ := HQ.out.get (i := j) (by rw [← HNQ.out]; omega)
      rw [hcP, hlev, hlev, j2, k2]
      congr 1
      rw [Bool.eq_iff_iff, decide_eq_true_iff, decide_eq_true_iff]
      omega
    have ea : AA.getD k 0 = (arN W H l ((nodeL W H l).getD k (0, 0)) : Int) := by
      rw [hAA]
      unfold areT
      rw [List.getD_eq_getElem?_getD, List.getElem?_map, List.getD_eq_getElem?_getD, List.getElem?_eq_getElem hkl]
      rfl
    rw [take_nextT (xs := LL) (by omega), take_nextT (xs := PP) (by omega), take_nextT (xs := AA) (by omega), el, ep, ea]
    exact ⟨rfl, rfl, rfl⟩
  have HLPA := Lib.hid (And.intro hLL (And.intro hPP hAA))
  clear hlen hlev hcP hLL hPP hAA
  go_wp2_with fail
  go_loopw [15] (fun i wr => ∃ (k : Nat) (v1 v2 v3 : Value), k ≤ n ∧ i = .int .i64 k ∧ Hid (TrSt wA (.slice (some ⟨b0, o0, none⟩) n cap) v1 v2 v3 v1 v2 v3 (LL.take k) (PP.take k) (AA.take k) wr)) (fun i _ => n - (intOf i).toNat)
  case atStart => exact ⟨0, _, _, _, Nat.zero_le _, rfl, HT0⟩
  case round =>
    obtain ⟨k, v1, v2, v3, hk, rfl, HT⟩ := hrel
    clear HT0
    obtain ⟨wo, rfl⟩ : ∃ wo : World, wo = wr := ⟨_, rfl⟩
    by_cases hlt : k < n
    · have hlt' : (k : Int) < (n : Int) := by omega
      have hk0 : (0 : Int) ≤ (k : Int) := by omega
      have hkc : (k : Int) ≤ (cap : Int) := by omega
      obtain ⟨b, o, e, c0, c1, c2, c3⟩ := (HQ.out.row.ext HT.out.x) k (by rw [← HNQ.out]; exact hlt)
      cases e
      obtain ⟨-, -, -, -, ccs⟩ := HT.out.cells
      have lcs := World.block_lt_of_cell? _ _ ccs
      dsimp only at lcs
      have HLK2 : Hid (∀ (w' : World) (j : Nat), wA.Ext w' → j < n → (Instr.lookup 194 (.map (some (qs.getD j nd0).2.2.2)) (.agg #[.int .i64 (qs.getD k nd0).2.1, .int .i64 (qs.getD k nd0).2.2.1]) false).run Try.prog w' = .ok (.bool (cnB W H l (qs.getD j nd0).1 ((nodeL W H l).getD j (0, 0)).2 ((nodeL W H l).getD k (0, 0)).2)) w') := fun w' j hx hj => HLK.out w' j k hx hj hlt
      have HLN2 := Lib.hid (fun w' hx => HLN.out w' k hx hlt)
      have HNX2 := Lib.hid (HNXT.out k hlt)
      have hlevk := HLV.out k
      rw [← hlevk] at c0
      have HLVK := Lib.hid hlevk
      clear hlevk
      generalize (qs.getD k nd0).2.1 = xk at *
      generalize (qs.getD k nd0).2.2.1 = yk at *
      generalize (qs.getD k nd0).2.2.2 = mk at *
      have HN6 := Lib.hid (TrN.start HT.out (lev k) xk yk mk)
      have hb6 : wo.heap.size < (wo.alloc (.cells #[.int .i64 (lev k), .int .i64 xk, .int .i64 yk, .map (some mk)] 196)).heap.size := by simp
      clear HT
      go_wp2_with fail
      go_loopw [7, 24] (fun q i wr => ∃ j : Nat, j ≤ k ∧ i = .int .i64 j ∧ q = .int .i64 (lastW (cP k) j) ∧ Hid (TrN wA (.slice (some ⟨b0, o0, none⟩) n cap) v1 v2 v3 v1 v2 v3 (LL.take k) (PP.take k) (AA.take k) wo.heap.size (lev k) xk yk mk wr)) (fun _ i _ => k - (intOf i).toNat)
      case atStart => exact ⟨0, Nat.zero_le _, rfl, rfl, HN6⟩
      case round =>
        clear c0 c1 c2 c3 ccs lcs hb6 HN6
        obtain ⟨j, hj, rfl, rfl, HT⟩ := hrel
        obtain ⟨wi, rfl⟩ : ∃ wi : World, wi = wr := ⟨_, rfl⟩
        by_cases hltj : j < k
        · have hltj' : (j : Int) < (k : Int) := by omega
          have hj0 : (0 : Int) ≤ (j : Int) := by omega
          obtain ⟨b, o, e, c0, c1, c2, c3⟩ := (HQ.out.row.ext HT.out.st.x) j (by rw [← HNQ.out]; omega)
          cases e
          obtain ⟨f0, f1, f2, f3⟩ := HT.out.nbx.cells
          have lf := HT.out.nbx.lt
          have hlk := HLK2.out (wi.alloc (.cells #[.int .i64 (lev j), .int .i64 (qs.getD j nd0).2.1, .int .i64 (qs.getD j nd0).2.2.1, .map (some (qs.getD j nd0).2.2.2)] 196)) j (HT.out.st.x.trans (by repeat (first | exact World.Ext.refl _ | exact ⟨_, rfl⟩ | assumption | refine World.Ext.over ?_ _ | refine World.Ext.drewN ?_ _ | refine World.Ext.drew ?_ | refine World.Ext.alloc ?_ _ | refine World.Ext.setCell ?_ (by simp) _))) (by omega)
          have hcp := HCP.out k j
          rw [← HLV.out j] at c0 hlk hcp
          have HS : Hid (lastW (cP k) (j + 1) = if cP k j = true then (j : Int) else lastW (cP k) j) := rfl
          have HT2 := Lib.hid (HT.out.ext (w' := wi.alloc (.cells #[.int .i64 (lev j), .int .i64 (qs.getD j nd0).2.1, .int .i64 (qs.getD j nd0).2.2.1, .map (some (qs.getD j nd0).2.2.2)] 196)) (by repeat (first | exact World.Ext.refl _ | exact ⟨_, rfl⟩ | assumption | refine World.Ext.over ?_ _ | refine World.Ext.drewN ?_ _ | refine World.Ext.drew ?_ | refine World.Ext.alloc ?_ _ | refine World.Ext.setCell ?_ (by simp) _)))
          clear HT
          generalize (qs.getD j nd0).2.1 = xj at *
          generalize (qs.getD j nd0).2.2.1 = yj at *
          generalize (qs.getD j nd0).2.2.2 = mj at *
          generalize cnB W H l (lev j) ((nodeL W H l).getD j (0, 0)).2 ((nodeL W H l).getD k (0, 0)).2 = cb at *
          generalize lastW (cP k) j = lw at *
          by_cases hlv : lev j < lev k
          · rw [decide_eq_true hlv, Bool.true_and] at hcp
            rw [hcp] at HS
            clear hcp
            generalize lev j = tj at *
            generalize lev k = tk at *
            cases cb
            · have HS2 : Hid (lastW (cP k) (j + 1) = lw) := by rw [if_neg (by simp)] at HS; exact HS
              clear HS
              go_wp2
              go_roundw
              case rel => exact ⟨j + 1, by omega, by go_num, by rw [HS2.out], HT2⟩
              case measure => simp [intOf]; omega
            · have HS2 : Hid (lastW (cP k) (j + 1) = (j : Int)) := by rw [if_pos rfl] at HS; exact HS
              clear HS
              go_wp2
              go_roundw
              case rel => exact ⟨j + 1, by omega, by go_num, by rw [HS2.out], HT2⟩
              case measure => simp [intOf]; omega
          · rw [decide_eq_false hlv, Bool.false_and] at hcp
            rw [hcp] at HS
            clear hcp
            generalize lev j = tj at *
            generalize lev k = tk at *
            have hd : decide (tj < tk) = false := decide_eq_false hlv
            have HS2 : Hid (lastW (cP k) (j + 1) = lw) := by rw [if_neg (by simp)] at HS; exact HS
            clear HS
            go_wp2
            go_roundw
            case rel => exact ⟨j + 1, by omega, by go_num, by rw [HS2.out], HT2⟩
            case measure => simp [intOf]; omega
        · have hjk : j = k := by omega
          subst hjk
          obtain ⟨f0, f1, f2, f3⟩ := HT.out.nbx.cells
          have lf := HT.out.nbx.lt
          obtain ⟨g0, g1, g2, -, -⟩ := HT.out.st.cells
          have hjl : (LL.take j).length = j ∧ (PP.take j).length = j ∧ (AA.take j).length = j := by
            obtain ⟨q1, q2, q3⟩ := HLEN.out
            rw [List.length_take, List.length_take, List.length_take]
            omega
          obtain ⟨a1, k1, e, -⟩ := World.ownsRow.form HT.out.st.o1
          rw [hjl.1] at e
          subst e
          obtain ⟨a2, k2, e, -⟩ := World.ownsRow.form HT.out.st.o2
          rw [hjl.2.1] at e
          subst e
          obtain ⟨a3, k3, e, -⟩ := World.ownsRow.form HT.out.st.o3
          rw [hjl.2.2] at e
          subst e
          have HO1 : Hid (wi.ownsRow (wA.heap.size + 2) 2 1 (.slice a1 j k1) j ((LL.take j).map iv)) := by
            have h : wi.ownsRow (wA.heap.size + 2) 2 1 (.slice a1 j k1) (LL.take j).length ((LL.take j).map iv) := HT.out.st.o1
            rw [hjl.1] at h
            exact h
          have HA1 : Hid (∀ (wa w1 : World) (v' : Value), wi.Ext wa → wa.grownBy w1 (Value.slice a1 j k1).ownBlock → w1.ownsRow (wA.heap.size + 2) 2 1 v' (j + 1) ((LL.take j).map iv ++ [.int .i64 (lev j)]) → (v'.ownBlock = (Value.slice a1 j k1).ownBlock ∨ v'.ownBlock = some wa.heap.size) →
              TrN wA (.slice (some ⟨b0, o0, none⟩) n cap) (.slice a1 j k1) (.slice a2 j k2) (.slice a3 j k3) v' (.slice a2 j k2) (.slice a3 j k3) (LL.take (j + 1)) (PP.take j) (AA.take j) wo.heap.size (lev j) xk yk mk w1 ∧ (∀ (q i : Nat) (z : Value), wi.heap.size ≤ q → wa.cell? ⟨q, i, none⟩ = some z → w1.cell? ⟨q, i, none⟩ = some z) ∧ w1.ownsRow (wA.heap.size + 2) 2 1 (.slice a2 j k2) j ((PP.take j).map iv)) := fun wa w1 v' hx hg ho hat => by
            have h := HT.out.push1 hx hg (by rw [hjl.1]; exact ho) hat
            rw [(HNX2.out).1]
            refine ⟨h, fun q i z hq hz => hg.cell hz fun e => ?_, ?_⟩
            · have := (GrI.lt HT.out.st.o1 e.symm).2
              dsimp only at this
              omega
            · have h2 : w1.ownsRow (wA.heap.size + 2) 2 1 (.slice a2 j k2) (PP.take j).length ((PP.take j).map iv) := h.st.o2
              rw [hjl.2.1] at h2
              exact h2
          have HA2 : Hid (∀ (w5 wa w1 : World) (v5 v' : Value), TrN wA (.slice (some ⟨b0, o0, none⟩) n cap) (.slice a1 j k1) (.slice a2 j k2) (.slice a3 j k3) v5 (.slice a2 j k2) (.slice a3 j k3) (LL.take (j + 1)) (PP.take j) (AA.take j) wo.heap.size (lev j) xk yk mk w5 → w5.Ext wa → wa.grownBy w1 (Value.slice a2 j k2).ownBlock → w1.ownsRow (wA.heap.size + 2) 2 1 v' (j + 1) ((PP.take j).map iv ++ [.int .i64 (lastW (cP j) j)]) → (v'.ownBlock = (Value.slice a2 j k2).ownBlock ∨ v'.ownBlock = some wa.heap.size) →
              TrN wA (.slice (some ⟨b0, o0, none⟩) n cap) (.slice a1 j k1) (.slice a2 j k2) (.slice a3 j k3) v5 v' (.slice a3 j k3) (LL.take (j + 1)) (PP.take (j + 1)) (AA.take j) wo.heap.size (lev j) xk yk mk w1) := fun w5 wa w1 v5 v' h hx hg ho hat => by
            have h := h.push2 hx hg (by rw [hjl.2.1]; exact ho) hat
            rw [(HNX2.out).2.1]
            exact h
          have hlo : wA.heap.size + 2 ≤ wi.heap.size := Nat.le_trans HT.out.lo (Nat.le_of_lt lf)
          have HLO : Hid (∀ w' : World, wi.Ext w' → wA.heap.size + 2 ≤ w'.heap.size) := fun w' hx => Nat.le_trans hlo hx.size
          have HB1 : Hid (j + 1 ≤ maxLen) := by show _ ≤ _; unfold maxLen; omega
          have HB2 : Hid ((j + 1) * 8 ≤ 140737488355328) := by show _ ≤ _; omega
          have HTJ := Lib.hid hjl
          have HTK : Hid ((LL.take (j + 1)).length = j + 1 ∧ (PP.take (j + 1)).length = j + 1 ∧ (AA.take (j + 1)).length = j + 1) := by
            obtain ⟨q1, q2, q3⟩ := HLEN.out
            show _ ∧ _ ∧ _
            rw [List.length_take, List.length_take, List.length_take]
            omega
          clear hjl hlo g2 HT
          go_upto_region 12 with fail
          go_cut [48] (fun u48 WX => ∃ v' v6, u48 = v' ∧ Hid (TrN wA (.slice (some ⟨b0, o0, none⟩) n cap) v' v6 (.slice a3 j k3) v' v6 (.slice a3 j k3) (LL.take (j + 1)) (PP.take (j + 1)) (AA.take j) wo.heap.size (lev j) xk yk mk WX))
          case first =>
            refine wp_region_cut 12 (by kernel_rfl) (by kernel_rfl) (by kernel_rfl) (by kernel_rfl) (by simp) (by kernel_rfl) ?_
            simp only [List.take_succ_cons, List.take_zero, List.drop_succ_cons, List.drop_zero]
            change wpAny _ _ _ _ _ _ _ (World.drew _)
            refine wpAny_of_held (S := fun w' => w'.cell? ⟨wA.heap.size, 0, none⟩ = some (.slice a1 j k1) ∧ w'.cell? ⟨wA.heap.size, 1, none⟩ = some (.slice a2 j k2) ∧ w'.cell? ⟨wo.heap.size, 0, none⟩ = some (.int .i64 (lev j))) _ _ _ _ ?_
            have hHeld : (wi.drew.cell? ⟨wA.heap.size, 0, none⟩ = some (.slice a1 j k1) ∧ wi.drew.cell? ⟨wA.heap.size, 1, none⟩ = some (.slice a2 j k2) ∧ wi.drew.cell? ⟨wo.heap.size, 0, none⟩ = some (.int .i64 (lev j))) := ⟨g0, g1, f0⟩
            (refine' wpAnyH_take (i := 0) (oi := { dst := some 43, op := Op.fieldAddr 30 (Operand.tmp 3) 0, type := 0, pos := "l07_grey.go:145", after := #[], guard := none }) (v := _) rfl (by kernel_rfl) (by kernel_rfl) (by kernel_rfl) (fun _ _ _ h => h) (Or.inl ⟨by rfl, ?hy0t⟩) (by assumption) ?rest0t; (case hy0t => (intro w hSw; (try dsimp only at hSw); go_simp; (try with_reducible rfl))); (try simp only [Act.put, List.setIfInBounds_toArray, List.set_cons_succ, List.set_cons_zero]))
            (refine' wpAnyH_take (i := 1) (oi := { dst := some 44, op := Op.load 28 (Operand.tmp 43), type := 28, pos := "l07_grey.go:145", after := #[{ on := 0, ground := Ground.data }], guard := none }) (v := _) rfl (by kernel_rfl) (by kernel_rfl) (by kernel_rfl) (fun _ _ _ h => h) (Or.inl ⟨by rfl, ?hy1t⟩) (by assumption) ?rest1t; (case hy1t => (intro w hSw; (try dsimp only at hSw); go_simp; (try with_reducible rfl))); (try simp only [Act.put, List.setIfInBounds_toArray, List.set_cons_succ, List.set_cons_zero]))
            (refine' wpAnyH_take (i := 2) (oi := { dst := some 45, op := Op.fieldAddr 196 (Operand.tmp 6) 0, type := 0, pos := "l07_grey.go:145", after := #[], guard := none }) (v := _) rfl (by kernel_rfl) (by kernel_rfl) (by kernel_rfl) (fun _ _ _ h => h) (Or.inl ⟨by rfl, ?hy2t⟩) (by assumption) ?rest2t; (case hy2t => (intro w hSw; (try dsimp only at hSw); go_simp; (try with_reducible rfl))); (try simp only [Act.put, List.setIfInBounds_toArray, List.set_cons_succ, List.set_cons_zero]))
            (refine' wpAnyH_take (i := 3) (oi := { dst := some 46, op := Op.load 2 (Operand.tmp 45), type := 2, pos := "l07_grey.go:145", after := #[{ on := 2, ground := Ground.data }], guard := none }) (v := _) rfl (by kernel_rfl) (by kernel_rfl) (by kernel_rfl) (fun _ _ _ h => h) (Or.inl ⟨by rfl, ?hy3t⟩) (by assumption) ?rest3t; (case hy3t => (intro w hSw; (try dsimp only at hSw); go_simp; (try with_reducible rfl))); (try simp only [Act.put, List.setIfInBounds_toArray, List.set_cons_succ, List.set_cons_zero]))
            (refine' wpAnyH_take (i := 6) (oi := { dst := some 49, op := Op.fieldAddr 30 (Operand.tmp 3) 1, type := 0, pos := "l07_grey.go:145", after := #[], guard := none }) (v := _) rfl (by kernel_rfl) (by kernel_rfl) (by kernel_rfl) (fun _ _ _ h => h) (Or.inl ⟨by rfl, ?hy6t⟩) (by assumption) ?rest6t; (case hy6t => (intro w hSw; (try dsimp only at hSw); go_simp; (try with_reducible rfl))); (try simp only [Act.put, List.setIfInBounds_toArray, List.set_cons_succ, List.set_cons_zero]))
            (refine' wpAnyH_take (i := 7) (oi := { dst := some 50, op := Op.load 28 (Operand.tmp 49), type := 28, pos := "l07_grey.go:145", after := #[{ on := 6, ground := Ground.data }], guard := none }) (v := _) rfl (by kernel_rfl) (by kernel_rfl) (by kernel_rfl) (fun _ _ _ h => h) (Or.inl ⟨by rfl, ?hy7t⟩) (by assumption) ?rest7t; (case hy7t => (intro w hSw; (try dsimp only at hSw); go_simp; (try with_reducible rfl))); (try simp only [Act.put, List.setIfInBounds_toArray, List.set_cons_succ, List.set_cons_zero]))
            (refine' wpAnyH_take (i := 8) (oi := { dst := some 51, op := Op.move (Operand.tmp 7), type := 2, pos := "l07_grey.go:145", after := #[], guard := none }) (v := _) rfl (by kernel_rfl) (by kernel_rfl) (by kernel_rfl) (fun _ _ _ h => h) (Or.inl ⟨by rfl, ?hy8t⟩) (by assumption) ?rest8t; (case hy8t => (intro w hSw; (try dsimp only at hSw); go_simp; (try with_reducible rfl))); (try simp only [Act.put, List.setIfInBounds_toArray, List.set_cons_succ, List.set_cons_zero]))
            clear hHeld
            refine wpAnyH_ready (rs := [4, 9]) (by kernel_rfl) (by simp) ?_
            refine AllReadyH.cons (o := { dst := some 47, op := Op.buildSlice 28 1 #[(0, Operand.tmp 46)], type := 28, pos := "l07_grey.go:145", after := #[{ on := 3, ground := Ground.data }], guard := none }) rfl (fun K hK => ?_) ?_
            · go_simp
              refine hK.out _ _ ⟨World.Ext.cell (by repeat (first | exact World.Ext.refl _ | exact ⟨_, rfl⟩ | assumption | refine World.Ext.over ?_ _ | refine World.Ext.drewN ?_ _ | refine World.Ext.drew ?_ | refine World.Ext.alloc ?_ _ | refine World.Ext.setCell ?_ (by simp) _)) g0, World.Ext.cell (by repeat (first | exact World.Ext.refl _ | exact ⟨_, rfl⟩ | assumption | refine World.Ext.over ?_ _ | refine World.Ext.drewN ?_ _ | refine World.Ext.drew ?_ | refine World.Ext.alloc ?_ _ | refine World.Ext.setCell ?_ (by simp) _)) g1, World.Ext.cell (by repeat (first | exact World.Ext.refl _ | exact ⟨_, rfl⟩ | assumption | refine World.Ext.over ?_ _ | refine World.Ext.drewN ?_ _ | refine World.Ext.drew ?_ | refine World.Ext.alloc ?_ _ | refine World.Ext.setCell ?_ (by simp) _)) f0⟩ (fun hHeld => ?_)
              clear hK K hHeld
              (try simp only [Act.put, List.setIfInBounds_toArray, List.set_cons_succ, List.set_cons_zero])
              refine wpAnyH_ready (rs := [5, 9]) (by kernel_rfl) (by simp) ?_
              refine AllReadyH.cons (o := { dst := some 48, op := Op.call { callee := Callee.builtin Builtin.append, args := #[Operand.tmp 44, Operand.tmp 47], argTypes := #[28, 28] }, type := 28, pos := "l07_grey.go:145", after := #[{ on := 1, ground := Ground.data }, { on := 4, ground := Ground.data }], guard := none }) rfl (fun K hK => ?_) ?_
              · refine step_append_mine rfl _ _ 28 rfl (wA.heap.size + 2) 2 i0 (.int .i64 0) 1 8 Try.underlying28 hi hz0 hz1 hz2 rfl (by decide) (.slice a1 j k1) j _ rfl (World.ownsRow.ext HO1.out (by repeat (first | exact World.Ext.refl _ | exact ⟨_, rfl⟩ | assumption | refine World.Ext.over ?_ _ | refine World.Ext.drewN ?_ _ | refine World.Ext.drew ?_ | refine World.Ext.alloc ?_ _ | refine World.Ext.setCell ?_ (by simp) _))) _ 1 1 [.int .i64 (lev j)] rfl rfl (by first | (refine cell_one_at ?_ <;> (simp; done)) | (intro q u hu; refine World.Ext.cell ?_ (cell_one_at (e := 2) rfl q u hu) <;> ((repeat (first | exact World.Ext.refl _ | exact ⟨_, rfl⟩ | assumption | refine World.Ext.over ?_ _ | refine World.Ext.drewN ?_ _ | refine World.Ext.drew ?_ | refine World.Ext.alloc ?_ _ | refine World.Ext.setCell ?_ ?_ _ | (simp; done))); done))) (by simp [Value.oneCell']) HB1.out HB2.out (HLO.out _ (by repeat (first | exact World.Ext.refl _ | exact ⟨_, rfl⟩ | assumption | refine World.Ext.over ?_ _ | refine World.Ext.drewN ?_ _ | refine World.Ext.drew ?_ | refine World.Ext.alloc ?_ _ | refine World.Ext.setCell ?_ (by simp) _))) (fun v' w5 hown5 hgrow hat => ?_)
                obtain ⟨ht5, hc5, ho5⟩ := HA1.out _ _ _ (by repeat (first | exact World.Ext.refl _ | exact ⟨_, rfl⟩ | assumption | refine World.Ext.over ?_ _ | refine World.Ext.drewN ?_ _ | refine World.Ext.drew ?_ | refine World.Ext.alloc ?_ _ | refine World.Ext.setCell ?_ (by simp) _)) hgrow hown5 hat
                obtain ⟨g0, g1, -, -, -⟩ := ht5.st.cells
                obtain ⟨f0, -, -, -⟩ := ht5.nbx.cells
                have HT5 := Lib.hid ht5
                have HC5 := Lib.hid hc5
                have HO2 := Lib.hid ho5
                have HLO5 : Hid (∀ w' : World, w5.Ext w' → wA.heap.size + 2 ≤ w'.heap.size) := fun w' hx => Nat.le_trans (Nat.le_trans HT5.out.lo (Nat.le_of_lt HT5.out.nbx.lt)) hx.size
                clear ht5 hc5 ho5 hgrow hown5 hat
                refine hK.out _ _ ⟨g0, g1, f0⟩ (fun hHeld => ?_)
                clear hK K
                (try simp only [Act.put, List.setIfInBounds_toArray, List.set_cons_succ, List.set_cons_zero])
                (refine' wpAnyH_take (i := 11) (oi := { dst := some 54, op := Op.fieldAddr 30 (Operand.tmp 3) 0, type := 0, pos := "l07_grey.go:145", after := #[{ on := 0, ground := Ground.phase }, { on := 1, ground := Ground.phase }, { on := 2, ground := Ground.phase }, { on := 3, ground := Ground.phase }, { on := 4, ground := Ground.phase }, { on := 5, ground := Ground.phase }, { on := 6, ground := Ground.phase }, { on := 7, ground := Ground.phase }, { on := 8, ground := Ground.textOnly Departure.lateStores }, { on := 9, ground := Ground.textOnly Departure.lateStores }, { on := 10, ground := Ground.textOnly Departure.lateStoresUnsure }], guard := none }) (v := _) rfl (by kernel_rfl) (by kernel_rfl) (by kernel_rfl) (fun _ _ _ h => h) (Or.inl ⟨by rfl, ?hy11q1⟩) (by assumption) ?rest11q1; (case hy11q1 => (intro w hSw; (try dsimp only at hSw); go_simp; (try with_reducible rfl))); (try simp only [Act.put, List.setIfInBounds_toArray, List.set_cons_succ, List.set_cons_zero]))
                clear hHeld
                refine wpAnyH_ready (rs := [9]) (by kernel_rfl) (by simp) ?_
                refine AllReadyH.cons (o := { dst := some 52, op := Op.buildSlice 28 1 #[(0, Operand.tmp 51)], type := 28, pos := "l07_grey.go:145", after := #[{ on := 8, ground := Ground.data }], guard := none }) rfl (fun K hK => ?_) ?_
                · go_simp
                  refine hK.out _ _ ⟨World.Ext.cell (by repeat (first | exact World.Ext.refl _ | exact ⟨_, rfl⟩ | assumption | refine World.Ext.over ?_ _ | refine World.Ext.drewN ?_ _ | refine World.Ext.drew ?_ | refine World.Ext.alloc ?_ _ | refine World.Ext.setCell ?_ (by simp) _)) g0, World.Ext.cell (by repeat (first | exact World.Ext.refl _ | exact ⟨_, rfl⟩ | assumption | refine World.Ext.over ?_ _ | refine World.Ext.drewN ?_ _ | refine World.Ext.drew ?_ | refine World.Ext.alloc ?_ _ | refine World.Ext.setCell ?_ (by simp) _)) g1, World.Ext.cell (by repeat (first | exact World.Ext.refl _ | exact ⟨_, rfl⟩ | assumption | refine World.Ext.over ?_ _ | refine World.Ext.drewN ?_ _ | refine World.Ext.drew ?_ | refine World.Ext.alloc ?_ _ | refine World.Ext.setCell ?_ (by simp) _)) f0⟩ (fun hHeld => ?_)
                  clear hK K hHeld
                  (try simp only [Act.put, List.setIfInBounds_toArray, List.set_cons_succ, List.set_cons_zero])
                  refine wpAnyH_ready (rs := [10]) (by kernel_rfl) (by simp) ?_
                  refine AllReadyH.cons (o := { dst := some 53, op := Op.call { callee := Callee.builtin Builtin.append, args := #[Operand.tmp 50, Operand.tmp 52], argTypes := #[28, 28] }, type := 28, pos := "l07_grey.go:145", after := #[{ on := 7, ground := Ground.data }, { on := 9, ground := Ground.data }, { on := 5, ground := Ground.chain }], guard := none }) rfl (fun K hK => ?_) ?_
                  · refine step_append_mine rfl _ _ 28 rfl (wA.heap.size + 2) 2 i0 (.int .i64 0) 1 8 Try.underlying28 hi hz0 hz1 hz2 rfl (by decide) (.slice a2 j k2) j _ rfl (World.ownsRow.ext HO2.out (by repeat (first | exact World.Ext.refl _ | exact ⟨_, rfl⟩ | assumption | refine World.Ext.over ?_ _ | refine World.Ext.drewN ?_ _ | refine World.Ext.drew ?_ | refine World.Ext.alloc ?_ _ | refine World.Ext.setCell ?_ (by simp) _))) _ 1 1 [.int .i64 (lastW (cP j) j)] rfl rfl (by first | (refine cell_one_at ?_ <;> (simp; done)) | (intro q u hu; rw [Addr.add_mk]; refine HC5.out _ _ _ ?_ ?_; (first | omega | (simp; omega)); rw [← Addr.add_mk]; first | (refine cell_one_at ?_ q u hu <;> (simp; done)) | (refine World.Ext.cell ?_ (cell_one_at (e := 2) rfl q u hu) <;> ((repeat (first | exact World.Ext.refl _ | exact ⟨_, rfl⟩ | assumption | refine World.Ext.over ?_ _ | refine World.Ext.drewN ?_ _ | refine World.Ext.drew ?_ | refine World.Ext.alloc ?_ _ | refine World.Ext.setCell ?_ ?_ _ | (simp; done))); done)))) (by simp [Value.oneCell']) HB1.out HB2.out (HLO5.out _ (by repeat (first | exact World.Ext.refl _ | exact ⟨_, rfl⟩ | assumption | refine World.Ext.over ?_ _ | refine World.Ext.drewN ?_ _ | refine World.Ext.drew ?_ | refine World.Ext.alloc ?_ _ | refine World.Ext.setCell ?_ (by simp) _))) (fun v6 w6 hown6 hgrow6 hat6 => ?_)
                    have ht6 := HA2.out _ _ _ _ _ HT5.out (by repeat (first | exact World.Ext.refl _ | exact ⟨_, rfl⟩ | assumption | refine World.Ext.over ?_ _ | refine World.Ext.drewN ?_ _ | refine World.Ext.drew ?_ | refine World.Ext.alloc ?_ _ | refine World.Ext.setCell ?_ (by simp) _)) hgrow6 hown6 hat6
                    obtain ⟨a4, k4, e, -⟩ := World.ownsRow.form ht6.st.o1
                    rw [HTK.out.1] at e
                    subst e
                    obtain ⟨a5, k5, e, -⟩ := World.ownsRow.form ht6.st.o2
                    rw [HTK.out.2.1] at e
                    subst e
                    obtain ⟨g0, g1, -, -, -⟩ := ht6.st.cells
                    obtain ⟨f0, -, -, -⟩ := ht6.nbx.cells
                    have fr := fun i => ht6.st.free i
                    have lg := World.block_lt_of_cell? _ _ g0
                    have g1' : (w6.setCell ⟨wA.heap.size, 0, none⟩ (.slice a4 (j + 1) k4)).cell? ⟨wA.heap.size, 1, none⟩ = some (.slice a2 j k2) := (ht6.put1 (.slice a4 (j + 1) k4)).st.cells.2.1
                    have fr' : (w6.setCell ⟨wA.heap.size, 0, none⟩ (.slice a4 (j + 1) k4)).frozen? ⟨wA.heap.size, 1, none⟩ = false := (ht6.put1 (.slice a4 (j + 1) k4)).st.free 1
                    have f0_ := fr 0
                    have HT6 := Lib.hid ((ht6.put1 (.slice a4 (j + 1) k4)).put2 (.slice a5 (j + 1) k5))
                    clear ht6 hgrow6 hown6 hat6 fr
                    refine hK.out _ _ ⟨g0, g1, f0⟩ (fun hHeld => ?_)
                    clear hK K hHeld
                    (try simp only [Act.put, List.setIfInBounds_toArray, List.set_cons_succ, List.set_cons_zero])
                    refine wpAnyH_done (by kernel_rfl) ?_ _
                    show wpList _ _ _ _ _ _
                    go_wp2_with fail
                    go_meet
                    exact ⟨_, _, rfl, HT6⟩
                  · exact AllReadyH.nil
                · exact AllReadyH.nil
              refine AllReadyH.cons (o := { dst := some 52, op := Op.buildSlice 28 1 #[(0, Operand.tmp 51)], type := 28, pos := "l07_grey.go:145", after := #[{ on := 8, ground := Ground.data }], guard := none }) rfl (fun K hK => ?_) ?_
              · go_simp
                refine hK.out _ _ ⟨World.Ext.cell (by repeat (first | exact World.Ext.refl _ | exact ⟨_, rfl⟩ | assumption | refine World.Ext.over ?_ _ | refine World.Ext.drewN ?_ _ | refine World.Ext.drew ?_ | refine World.Ext.alloc ?_ _ | refine World.Ext.setCell ?_ (by simp) _)) g0, World.Ext.cell (by repeat (first | exact World.Ext.refl _ | exact ⟨_, rfl⟩ | assumption | refine World.Ext.over ?_ _ | refine World.Ext.drewN ?_ _ | refine World.Ext.drew ?_ | refine World.Ext.alloc ?_ _ | refine World.Ext.setCell ?_ (by simp) _)) g1, World.Ext.cell (by repeat (first | exact World.Ext.refl _ | exact ⟨_, rfl⟩ | assumption | refine World.Ext.over ?_ _ | refine World.Ext.drewN ?_ _ | refine World.Ext.drew ?_ | refine World.Ext.alloc ?_ _ | refine World.Ext.setCell ?_ (by simp) _)) f0⟩ (fun hHeld => ?_)
                clear hK K hHeld
                (try simp only [Act.put, List.setIfInBounds_toArray, List.set_cons_succ, List.set_cons_zero])
                refine wpAnyH_ready (rs := [5]) (by kernel_rfl) (by simp) ?_
                refine AllReadyH.cons (o := { dst := some 48, op := Op.call { callee := Callee.builtin Builtin.append, args := #[Operand.tmp 44, Operand.tmp 47], argTypes := #[28, 28] }, type := 28, pos := "l07_grey.go:145", after := #[{ on := 1, ground := Ground.data }, { on := 4, ground := Ground.data }], guard := none }) rfl (fun K hK => ?_) ?_
                · refine step_append_mine rfl _ _ 28 rfl (wA.heap.size + 2) 2 i0 (.int .i64 0) 1 8 Try.underlying28 hi hz0 hz1 hz2 rfl (by decide) (.slice a1 j k1) j _ rfl (World.ownsRow.ext HO1.out (by repeat (first | exact World.Ext.refl _ | exact ⟨_, rfl⟩ | assumption | refine World.Ext.over ?_ _ | refine World.Ext.drewN ?_ _ | refine World.Ext.drew ?_ | refine World.Ext.alloc ?_ _ | refine World.Ext.setCell ?_ (by simp) _))) _ 1 1 [.int .i64 (lev j)] rfl rfl (by first | (refine cell_one_at ?_ <;> (simp; done)) | (intro q u hu; refine World.Ext.cell ?_ (cell_one_at (e := 2) rfl q u hu) <;> ((repeat (first | exact World.Ext.refl _ | exact ⟨_, rfl⟩ | assumption | refine World.Ext.over ?_ _ | refine World.Ext.drewN ?_ _ | refine World.Ext.drew ?_ | refine World.Ext.alloc ?_ _ | refine World.Ext.setCell ?_ ?_ _ | (simp; done))); done))) (by simp [Value.oneCell']) HB1.out HB2.out (HLO.out _ (by repeat (first | exact World.Ext.refl _ | exact ⟨_, rfl⟩ | assumption | refine World.Ext.over ?_ _ | refine World.Ext.drewN ?_ _ | refine World.Ext.drew ?_ | refine World.Ext.alloc ?_ _ | refine World.Ext.setCell ?_ (by simp) _))) (fun v' w5 hown5 hgrow hat => ?_)
                  obtain ⟨ht5, hc5, ho5⟩ := HA1.out _ _ _ (by repeat (first | exact World.Ext.refl _ | exact ⟨_, rfl⟩ | assumption | refine World.Ext.over ?_ _ | refine World.Ext.drewN ?_ _ | refine World.Ext.drew ?_ | refine World.Ext.alloc ?_ _ | refine World.Ext.setCell ?_ (by simp) _)) hgrow hown5 hat
                  obtain ⟨g0, g1, -, -, -⟩ := ht5.st.cells
                  obtain ⟨f0, -, -, -⟩ := ht5.nbx.cells
                  have HT5 := Lib.hid ht5
                  have HC5 := Lib.hid hc5
                  have HO2 := Lib.hid ho5
                  have HLO5 : Hid (∀ w' : World, w5.Ext w' → wA.heap.size + 2 ≤ w'.heap.size) := fun w' hx => Nat.le_trans (Nat.le_trans HT5.out.lo (Nat.le_of_lt HT5.out.nbx.lt)) hx.size
                  clear ht5 hc5 ho5 hgrow hown5 hat
                  refine hK.out _ _ ⟨g0, g1, f0⟩ (fun hHeld => ?_)
                  clear hK K
                  (try simp only [Act.put, List.setIfInBounds_toArray, List.set_cons_succ, List.set_cons_zero])
                  (refine' wpAnyH_take (i := 11) (oi := { dst := some 54, op := Op.fieldAddr 30 (Operand.tmp 3) 0, type := 0, pos := "l07_grey.go:145", after := #[{ on := 0, ground := Ground.phase }, { on := 1, ground := Ground.phase }, { on := 2, ground := Ground.phase }, { on := 3, ground := Ground.phase }, { on := 4, ground := Ground.phase }, { on := 5, ground := Ground.phase }, { on := 6, ground := Ground.phase }, { on := 7, ground := Ground.phase }, { on := 8, ground := Ground.textOnly Departure.lateStores }, { on := 9, ground := Ground.textOnly Departure.lateStores }, { on := 10, ground := Ground.textOnly Departure.lateStoresUnsure }], guard := none }) (v := _) rfl (by kernel_rfl) (by kernel_rfl) (by kernel_rfl) (fun _ _ _ h => h) (Or.inl ⟨by rfl, ?hy11q2⟩) (by assumption) ?rest11q2; (case hy11q2 => (intro w hSw; (try dsimp only at hSw); go_simp; (try with_reducible rfl))); (try simp only [Act.put, List.setIfInBounds_toArray, List.set_cons_succ, List.set_cons_zero]))
                  clear hHeld
                  refine wpAnyH_ready (rs := [10]) (by kernel_rfl) (by simp) ?_
                  refine AllReadyH.cons (o := { dst := some 53, op := Op.call { callee := Callee.builtin Builtin.append, args := #[Operand.tmp 50, Operand.tmp 52], argTypes := #[28, 28] }, type := 28, pos := "l07_grey.go:145", after := #[{ on := 7, ground := Ground.data }, { on := 9, ground := Ground.data }, { on := 5, ground := Ground.chain }], guard := none }) rfl (fun K hK => ?_) ?_
                  · refine step_append_mine rfl _ _ 28 rfl (wA.heap.size + 2) 2 i0 (.int .i64 0) 1 8 Try.underlying28 hi hz0 hz1 hz2 rfl (by decide) (.slice a2 j k2) j _ rfl (World.ownsRow.ext HO2.out (by repeat (first | exact World.Ext.refl _ | exact ⟨_, rfl⟩ | assumption | refine World.Ext.over ?_ _ | refine World.Ext.drewN ?_ _ | refine World.Ext.drew ?_ | refine World.Ext.alloc ?_ _ | refine World.Ext.setCell ?_ (by simp) _))) _ 1 1 [.int .i64 (lastW (cP j) j)] rfl rfl (by first | (refine cell_one_at ?_ <;> (simp; done)) | (intro q u hu; rw [Addr.add_mk]; refine HC5.out _ _ _ ?_ ?_; (first | omega | (simp; omega)); rw [← Addr.add_mk]; first | (refine cell_one_at ?_ q u hu <;> (simp; done)) | (refine World.Ext.cell ?_ (cell_one_at (e := 2) rfl q u hu) <;> ((repeat (first | exact World.Ext.refl _ | exact ⟨_, rfl⟩ | assumption | refine World.Ext.over ?_ _ | refine World.Ext.drewN ?_ _ | refine World.Ext.drew ?_ | refine World.Ext.alloc ?_ _ | refine World.Ext.setCell ?_ ?_ _ | (simp; done))); done)))) (by simp [Value.oneCell']) HB1.out HB2.out (HLO5.out _ (by repeat (first | exact World.Ext.refl _ | exact ⟨_, rfl⟩ | assumption | refine World.Ext.over ?_ _ | refine World.Ext.drewN ?_ _ | refine World.Ext.drew ?_ | refine World.Ext.alloc ?_ _ | refine World.Ext.setCell ?_ (by simp) _))) (fun v6 w6 hown6 hgrow6 hat6 => ?_)
                    have ht6 := HA2.out _ _ _ _ _ HT5.out (by repeat (first | exact World.Ext.refl _ | exact ⟨_, rfl⟩ | assumption | refine World.Ext.over ?_ _ | refine World.Ext.drewN ?_ _ | refine World.Ext.drew ?_ | refine World.Ext.alloc ?_ _ | refine World.Ext.setCell ?_ (by simp) _)) hgrow6 hown6 hat6
                    obtain ⟨a4, k4, e, -⟩ := World.ownsRow.form ht6.st.o1
                    rw [HTK.out.1] at e
                    subst e
                    obtain ⟨a5, k5, e, -⟩ := World.ownsRow.form ht6.st.o2
                    rw [HTK.out.2.1] at e
                    subst e
                    obtain ⟨g0, g1, -, -, -⟩ := ht6.st.cells
                    obtain ⟨f0, -, -, -⟩ := ht6.nbx.cells
                    have fr := fun i => ht6.st.free i
                    have lg := World.block_lt_of_cell? _ _ g0
                    have g1' : (w6.setCell ⟨wA.heap.size, 0, none⟩ (.slice a4 (j + 1) k4)).cell? ⟨wA.heap.size, 1, none⟩ = some (.slice a2 j k2) := (ht6.put1 (.slice a4 (j + 1) k4)).st.cells.2.1
                    have fr' : (w6.setCell ⟨wA.heap.size, 0, none⟩ (.slice a4 (j + 1) k4)).frozen? ⟨wA.heap.size, 1, none⟩ = false := (ht6.put1 (.slice a4 (j + 1) k4)).st.free 1
                    have f0_ := fr 0
                    have HT6 := Lib.hid ((ht6.put1 (.slice a4 (j + 1) k4)).put2 (.slice a5 (j + 1) k5))
                    clear ht6 hgrow6 hown6 hat6 fr
                    refine hK.out _ _ ⟨g0, g1, f0⟩ (fun hHeld => ?_)
                    clear hK K hHeld
                    (try simp only [Act.put, List.setIfInBounds_toArray, List.set_cons_succ, List.set_cons_zero])
                    refine wpAnyH_done (by kernel_rfl) ?_ _
                    show wpList _ _ _ _ _ _
                    go_wp2_with fail
                    go_meet
                    exact ⟨_, _, rfl, HT6⟩
                  · exact AllReadyH.nil
                · exact AllReadyH.nil
              · exact AllReadyH.nil
            refine AllReadyH.cons (o := { dst := some 52, op := Op.buildSlice 28 1 #[(0, Operand.tmp 51)], type := 28, pos := "l07_grey.go:145", after := #[{ on := 8, ground := Ground.data }], guard := none }) rfl (fun K hK => ?_) ?_
            · go_simp
              refine hK.out _ _ ⟨World.Ext.cell (by repeat (first | exact World.Ext.refl _ | exact ⟨_, rfl⟩ | assumption | refine World.Ext.over ?_ _ | refine World.Ext.drewN ?_ _ | refine World.Ext.drew ?_ | refine World.Ext.alloc ?_ _ | refine World.Ext.setCell ?_ (by simp) _)) g0, World.Ext.cell (by repeat (first | exact World.Ext.refl _ | exact ⟨_, rfl⟩ | assumption | refine World.Ext.over ?_ _ | refine World.Ext.drewN ?_ _ | refine World.Ext.drew ?_ | refine World.Ext.alloc ?_ _ | refine World.Ext.setCell ?_ (by simp) _)) g1, World.Ext.cell (by repeat (first | exact World.Ext.refl _ | exact ⟨_, rfl⟩ | assumption | refine World.Ext.over ?_ _ | refine World.Ext.drewN ?_ _ | refine World.Ext.drew ?_ | refine World.Ext.alloc ?_ _ | refine World.Ext.setCell ?_ (by simp) _)) f0⟩ (fun hHeld => ?_)
              clear hK K hHeld
              (try simp only [Act.put, List.setIfInBounds_toArray, List.set_cons_succ, List.set_cons_zero])
              refine wpAnyH_ready (rs := [4]) (by kernel_rfl) (by simp) ?_
              refine AllReadyH.cons (o := { dst := some 47, op := Op.buildSlice 28 1 #[(0, Operand.tmp 46)], type := 28, pos := "l07_grey.go:145", after := #[{ on := 3, ground := Ground.data }], guard := none }) rfl (fun K hK => ?_) ?_
              · go_simp
                refine hK.out _ _ ⟨World.Ext.cell (by repeat (first | exact World.Ext.refl _ | exact ⟨_, rfl⟩ | assumption | refine World.Ext.over ?_ _ | refine World.Ext.drewN ?_ _ | refine World.Ext.drew ?_ | refine World.Ext.alloc ?_ _ | refine World.Ext.setCell ?_ (by simp) _)) g0, World.Ext.cell (by repeat (first | exact World.Ext.refl _ | exact ⟨_, rfl⟩ | assumption | refine World.Ext.over ?_ _ | refine World.Ext.drewN ?_ _ | refine World.Ext.drew ?_ | refine World.Ext.alloc ?_ _ | refine World.Ext.setCell ?_ (by simp) _)) g1, World.Ext.cell (by repeat (first | exact World.Ext.refl _ | exact ⟨_, rfl⟩ | assumption | refine World.Ext.over ?_ _ | refine World.Ext.drewN ?_ _ | refine World.Ext.drew ?_ | refine World.Ext.alloc ?_ _ | refine World.Ext.setCell ?_ (by simp) _)) f0⟩ (fun hHeld => ?_)
                clear hK K hHeld
                (try simp only [Act.put, List.setIfInBounds_toArray, List.set_cons_succ, List.set_cons_zero])
                refine wpAnyH_ready (rs := [5]) (by kernel_rfl) (by simp) ?_
                refine AllReadyH.cons (o := { dst := some 48, op := Op.call { callee := Callee.builtin Builtin.append, args := #[Operand.tmp 44, Operand.tmp 47], argTypes := #[28, 28] }, type := 28, pos := "l07_grey.go:145", after := #[{ on := 1, ground := Ground.data }, { on := 4, ground := Ground.data }], guard := none }) rfl (fun K hK => ?_) ?_
                · refine step_append_mine rfl _ _ 28 rfl (wA.heap.size + 2) 2 i0 (.int .i64 0) 1 8 Try.underlying28 hi hz0 hz1 hz2 rfl (by decide) (.slice a1 j k1) j _ rfl (World.ownsRow.ext HO1.out (by repeat (first | exact World.Ext.refl _ | exact ⟨_, rfl⟩ | assumption | refine World.Ext.over ?_ _ | refine World.Ext.drewN ?_ _ | refine World.Ext.drew ?_ | refine World.Ext.alloc ?_ _ | refine World.Ext.setCell ?_ (by simp) _))) _ 1 1 [.int .i64 (lev j)] rfl rfl (by first | (refine cell_one_at ?_ <;> (simp; done)) | (intro q u hu; refine World.Ext.cell ?_ (cell_one_at (e := 2) rfl q u hu) <;> ((repeat (first | exact World.Ext.refl _ | exact ⟨_, rfl⟩ | assumption | refine World.Ext.over ?_ _ | refine World.Ext.drewN ?_ _ | refine World.Ext.drew ?_ | refine World.Ext.alloc ?_ _ | refine World.Ext.setCell ?_ ?_ _ | (simp; done))); done))) (by simp [Value.oneCell']) HB1.out HB2.out (HLO.out _ (by repeat (first | exact World.Ext.refl _ | exact ⟨_, rfl⟩ | assumption | refine World.Ext.over ?_ _ | refine World.Ext.drewN ?_ _ | refine World.Ext.drew ?_ | refine World.Ext.alloc ?_ _ | refine World.Ext.setCell ?_ (by simp) _))) (fun v' w5 hown5 hgrow hat => ?_)
                  obtain ⟨ht5, hc5, ho5⟩ := HA1.out _ _ _ (by repeat (first | exact World.Ext.refl _ | exact ⟨_, rfl⟩ | assumption | refine World.Ext.over ?_ _ | refine World.Ext.drewN ?_ _ | refine World.Ext.drew ?_ | refine World.Ext.alloc ?_ _ | refine World.Ext.setCell ?_ (by simp) _)) hgrow hown5 hat
                  obtain ⟨g0, g1, -, -, -⟩ := ht5.st.cells
                  obtain ⟨f0, -, -, -⟩ := ht5.nbx.cells
                  have HT5 := Lib.hid ht5
                  have HC5 := Lib.hid hc5
                  have HO2 := Lib.hid ho5
                  have HLO5 : Hid (∀ w' : World, w5.Ext w' → wA.heap.size + 2 ≤ w'.heap.size) := fun w' hx => Nat.le_trans (Nat.le_trans HT5.out.lo (Nat.le_of_lt HT5.out.nbx.lt)) hx.size
                  clear ht5 hc5 ho5 hgrow hown5 hat
                  refine hK.out _ _ ⟨g0, g1, f0⟩ (fun hHeld => ?_)
                  clear hK K
                  (try simp only [Act.put, List.setIfInBounds_toArray, List.set_cons_succ, List.set_cons_zero])
                  (refine' wpAnyH_take (i := 11) (oi := { dst := some 54, op := Op.fieldAddr 30 (Operand.tmp 3) 0, type := 0, pos := "l07_grey.go:145", after := #[{ on := 0, ground := Ground.phase }, { on := 1, ground := Ground.phase }, { on := 2, ground := Ground.phase }, { on := 3, ground := Ground.phase }, { on := 4, ground := Ground.phase }, { on := 5, ground := Ground.phase }, { on := 6, ground := Ground.phase }, { on := 7, ground := Ground.phase }, { on := 8, ground := Ground.textOnly Departure.lateStores }, { on := 9, ground := Ground.textOnly Departure.lateStores }, { on := 10, ground := Ground.textOnly Departure.lateStoresUnsure }], guard := none }) (v := _) rfl (by kernel_rfl) (by kernel_rfl) (by kernel_rfl) (fun _ _ _ h => h) (Or.inl ⟨by rfl, ?hy11q3⟩) (by assumption) ?rest11q3; (case hy11q3 => (intro w hSw; (try dsimp only at hSw); go_simp; (try with_reducible rfl))); (try simp only [Act.put, List.setIfInBounds_toArray, List.set_cons_succ, List.set_cons_zero]))
                  clear hHeld
                  refine wpAnyH_ready (rs := [10]) (by kernel_rfl) (by simp) ?_
                  refine AllReadyH.cons (o := { dst := some 53, op := Op.call { callee := Callee.builtin Builtin.append, args := #[Operand.tmp 50, Operand.tmp 52], argTypes := #[28, 28] }, type := 28, pos := "l07_grey.go:145", after := #[{ on := 7, ground := Ground.data }, { on := 9, ground := Ground.data }, { on := 5, ground := Ground.chain }], guard := none }) rfl (fun K hK => ?_) ?_
                  · refine step_append_mine rfl _ _ 28 rfl (wA.heap.size + 2) 2 i0 (.int .i64 0) 1 8 Try.underlying28 hi hz0 hz1 hz2 rfl (by decide) (.slice a2 j k2) j _ rfl (World.ownsRow.ext HO2.out (by repeat (first | exact World.Ext.refl _ | exact ⟨_, rfl⟩ | assumption | refine World.Ext.over ?_ _ | refine World.Ext.drewN ?_ _ | refine World.Ext.drew ?_ | refine World.Ext.alloc ?_ _ | refine World.Ext.setCell ?_ (by simp) _))) _ 1 1 [.int .i64 (lastW (cP j) j)] rfl rfl (by first | (refine cell_one_at ?_ <;> (simp; done)) | (intro q u hu; rw [Addr.add_mk]; refine HC5.out _ _ _ ?_ ?_; (first | omega | (simp; omega)); rw [← Addr.add_mk]; first | (refine cell_one_at ?_ q u hu <;> (simp; done)) | (refine World.Ext.cell ?_ (cell_one_at (e := 2) rfl q u hu) <;> ((repeat (first | exact World.Ext.refl _ | exact ⟨_, rfl⟩ | assumption | refine World.Ext.over ?_ _ | refine World.Ext.drewN ?_ _ | refine World.Ext.drew ?_ | refine World.Ext.alloc ?_ _ | refine World.Ext.setCell ?_ ?_ _ | (simp; done))); done)))) (by simp [Value.oneCell']) HB1.out HB2.out (HLO5.out _ (by repeat (first | exact World.Ext.refl _ | exact ⟨_, rfl⟩ | assumption | refine World.Ext.over ?_ _ | refine World.Ext.drewN ?_ _ | refine World.Ext.drew ?_ | refine World.Ext.alloc ?_ _ | refine World.Ext.setCell ?_ (by simp) _))) (fun v6 w6 hown6 hgrow6 hat6 => ?_)
                    have ht6 := HA2.out _ _ _ _ _ HT5.out (by repeat (first | exact World.Ext.refl _ | exact ⟨_, rfl⟩ | assumption | refine World.Ext.over ?_ _ | refine World.Ext.drewN ?_ _ | refine World.Ext.drew ?_ | refine World.Ext.alloc ?_ _ | refine World.Ext.setCell ?_ (by simp) _)) hgrow6 hown6 hat6
                    obtain ⟨a4, k4, e, -⟩ := World.ownsRow.form ht6.st.o1
                    rw [HTK.out.1] at e
                    subst e
                    obtain ⟨a5, k5, e, -⟩ := World.ownsRow.form ht6.st.o2
                    rw [HTK.out.2.1] at e
                    subst e
                    obtain ⟨g0, g1, -, -, -⟩ := ht6.st.cells
                    obtain ⟨f0, -, -, -⟩ := ht6.nbx.cells
                    have fr := fun i => ht6.st.free i
                    have lg := World.block_lt_of_cell? _ _ g0
                    have g1' : (w6.setCell ⟨wA.heap.size, 0, none⟩ (.slice a4 (j + 1) k4)).cell? ⟨wA.heap.size, 1, none⟩ = some (.slice a2 j k2) := (ht6.put1 (.slice a4 (j + 1) k4)).st.cells.2.1
                    have fr' : (w6.setCell ⟨wA.heap.size, 0, none⟩ (.slice a4 (j + 1) k4)).frozen? ⟨wA.heap.size, 1, none⟩ = false := (ht6.put1 (.slice a4 (j + 1) k4)).st.free 1
                    have f0_ := fr 0
                    have HT6 := Lib.hid ((ht6.put1 (.slice a4 (j + 1) k4)).put2 (.slice a5 (j + 1) k5))
                    clear ht6 hgrow6 hown6 hat6 fr
                    refine hK.out _ _ ⟨g0, g1, f0⟩ (fun hHeld => ?_)
                    clear hK K hHeld
                    (try simp only [Act.put, List.setIfInBounds_toArray, List.set_cons_succ, List.set_cons_zero])
                    refine wpAnyH_done (by kernel_rfl) ?_ _
                    show wpList _ _ _ _ _ _
                    go_wp2_with fail
                    go_meet
                    exact ⟨_, _, rfl, HT6⟩
                  · exact AllReadyH.nil
                · exact AllReadyH.nil
              · exact AllReadyH.nil
            · exact AllReadyH.nil
          case rest =>
            obtain ⟨wc2, rfl⟩ : ∃ z : World, z = wc := ⟨_, rfl⟩
            obtain ⟨v1', v2', rfl, HT⟩ := hcut
            clear g0 g1 f0 f1 f2 f3 lf HO1 HA1 HA2 HLO
            obtain ⟨f0, f1, f2, f3⟩ := HT.out.nbx.cells
            have lf := HT.out.nbx.lt
            obtain ⟨-, -, g2, -, -⟩ := HT.out.st.cells
            have lg := World.block_lt_of_cell? _ _ g2
            have fr := HT.out.st.free 2
            have HO3 : Hid (wc2.ownsRow (wA.heap.size + 2) 2 1 (.slice a3 j k3) j ((AA.take j).map iv)) := by
              have h : wc2.ownsRow (wA.heap.size + 2) 2 1 (.slice a3 j k3) (AA.take j).length ((AA.take j).map iv) := HT.out.st.o3
              rw [HTJ.out.2.2] at h
              exact h
            obtain ⟨es, clock, hes, hsz⟩ := HLN2.out wc2 HT.out.st.x
            have HSZ2 := Lib.hid hsz
            clear hsz
            have hlo : wA.heap.size + 2 ≤ wc2.heap.size := Nat.le_trans HT.out.lo (Nat.le_of_lt lf)
            have HZ : Hid (wA.heap.size + 2 ≤ (wc2.alloc (.cells #[.int .i64 (arN W H l ((nodeL W H l).getD j (0, 0)) : Int)] 2)).heap.size) := by show _ ≤ _; simp; omega
            clear hlo
            go_wp2_with (first | (at_len; refine wpList_len_mapS rfl _ _ rfl _ _ Try.underlying194 mk _ es clock rfl hes HSZ2.out ?_) | (at_builtin; refine wpList_append_own_at _ rfl _ _ 28 rfl (wA.heap.size + 2) 2 i0 (.int .i64 0) 1 8 Try.underlying28 hi hz0 hz1 hz2 rfl (by decide) _ _ _ rfl (HO3.out.alloc _) ⟨wc2.heap.size, 0, none⟩ 1 1 [.int .i64 (arN W H l ((nodeL W H l).getD j (0, 0)) : Int)] rfl rfl (cell_one_new _ _ _) (by simp [Value.oneCell']) HB1.out HB2.out HZ.out (fun v7 w7 hown7 hgrow7 _ hat7 => ?_); have h7 := HT.out.push3 (by repeat (first | exact World.Ext.refl _ | exact ⟨_, rfl⟩ | assumption | refine World.Ext.over ?_ _ | refine World.Ext.drewN ?_ _ | refine World.Ext.drew ?_ | refine World.Ext.alloc ?_ _ | refine World.Ext.setCell ?_ (by simp) _)) hgrow7 (by rw [HTJ.out.2.2]; exact hown7) hat7; rw [← (HNX2.out).2.2] at h7; obtain ⟨a6, k6, e, -⟩ := World.ownsRow.form h7.st.o3; rw [HTK.out.2.2] at e; subst e; obtain ⟨-, -, g7, -, -⟩ := h7.st.cells; have lg7 := World.block_lt_of_cell? _ _ g7; have fr7 := h7.st.free 2; have HT8 := Lib.hid (h7.put3 (.slice a6 (j + 1) k6)).st; clear h7 hown7 hgrow7 hat7 f0 f1 f2 f3 lf g2 lg fr hes))
            go_roundw
            case rel => exact ⟨j + 1, _, _, _, by omega, by go_num, HT8⟩
            case measure => simp [intOf]; omega
    · have hkn : k = n := by omega
      have HTn : Hid (TrSt wA (.slice (some ⟨b0, o0, none⟩) n cap) v1 v2 v3 v1 v2 v3 LL PP AA wo) := by
        have h := HT.out
        rw [hkn, List.take_of_length_le (by rw [HLEN.out.1]; exact Nat.le_refl _), List.take_of_length_le (by rw [HLEN.out.2.1]; exact Nat.le_refl _), List.take_of_length_le (by rw [HLEN.out.2.2]; exact Nat.le_refl _)] at h
        exact h
      clear HT
      obtain ⟨a1, k1, e, -⟩ := World.ownsRow.form HTn.out.o1
      rw [HLEN.out.1] at e
      subst e
      obtain ⟨a2, k2, e, -⟩ := World.ownsRow.form HTn.out.o2
      rw [HLEN.out.2.1] at e
      subst e
      obtain ⟨a3, k3, e, -⟩ := World.ownsRow.form HTn.out.o3
      rw [HLEN.out.2.2] at e
      subst e
      have f1 := HTn.out.x.cell e0
      have lf1 := World.block_lt_of_cell? _ _ f1
      obtain ⟨-, -, -, -, ccs⟩ := HTn.out.cells
      have HXo : Hid (w.Ext wo) := HX0.out.trans (HX1.out.trans HTn.out.x)
      have HRM : Hid (Calls Try.prog 78 #[.pointer (some ⟨p, 0, none⟩), .func (.func 176) #[] #[.pointer (some ⟨wA.heap.size + 1, 0, none⟩), .pointer (some ⟨w.heap.size, 0, none⟩)]] wo (GreyRet wo (grl W H (nodT W H l (nodeL W H l))))) :=
        (HG.out.ext HXo.out).remadeF (by omega) (by omega) (by omega) _ _ _ enters_gt1 fun w' hx j hj => by
          have h := gt1_any p w.heap.size (wA.heap.size + 1) W H l (some ⟨b0, o0, none⟩) cap qs j w' hW1 (by omega) (by omega) hj HGL.out ((HG.out.ext HXo.out).ext hx) (hx.cell f1) (hx.cell (by rw [← HNQ.out]; exact ccs)) (HQ.out.ext (HTn.out.x.trans hx)) (by rw [← HNQ.out]; omega)
          rw [nodT_at hj]
          exact h
      have QB : Hid (Qua wo wA.heap.size 30 (.slice a1 n k1) (.slice a2 n k2) (.slice a3 n k3) (.slice none 0 0)) := HTn.out.box
      have QR2 : Hid (Qua wo (w.heap.size + 1) 30 (.slice none 0 0) (.slice none 0 0) (.slice none 0 0) (.slice none 0 0)) := QR.out.ext (HX1.out.trans HTn.out.x)
      have hwA : w.heap.size + 2 ≤ wA.heap.size := by have h1 := HX1.out.size; have h2 := HSZ.out; omega
      clear ccs
      go_wp2_with fail
      refine HRM.out.mono ?_
      rintro e w8 ⟨a9, c9, A9, C9, rfl, hx8, hm8⟩
      rw [grl_len]
      have q8 := QB.out.ext hx8
      have r8 := QR2.out.ext hx8
      have q83 := q8.cell3
      have q8f := q8.free 3
      have q9 := q8.set3 (.slice a9 H c9)
      have r9 := r8.other (a := ⟨wA.heap.size, 3, none⟩) (by dsimp only; omega) (.slice a9 H c9)
      have q90 := q9.cell0
      have q91 := q9.cell1
      have q92 := q9.cell2
      have q93 := q9.cell3
      have r90 := r9.cell0
      have r91 := r9.cell1
      have r92 := r9.cell2
      have r93 := r9.cell3
      have rf0 := r9.free 0
      have rf1 := r9.free 1
      have rf2 := r9.free 2
      have rf3 := r9.free 3
      have r10 := r9.put (.slice a1 n k1) (.slice a2 n k2) (.slice a3 n k3) (.slice a9 H c9)
      have s0 := r10.cell0
      have s1 := r10.cell1
      have s2 := r10.cell2
      have s3 := r10.cell3
      have HE : Hid (TreeRet w (gtR W H l) (.returned (.agg #[.slice a1 n k1, .slice a2 n k2, .slice a3 n k3, .slice a9 H c9])) (((((w8.setCell ⟨wA.heap.size, 3, none⟩ (.slice a9 H c9)).setCell ⟨w.heap.size + 1, 0, none⟩ (.slice a1 n k1)).setCell ⟨w.heap.size + 1, 1, none⟩ (.slice a2 n k2)).setCell ⟨w.heap.size + 1, 2, none⟩ (.slice a3 n k3)).setCell ⟨w.heap.size + 1, 3, none⟩ (.slice a9 H c9))) := by
        have hW : Wrote (fun b => b = wA.heap.size ∨ b = w.heap.size + 1) w8 (((((w8.setCell ⟨wA.heap.size, 3, none⟩ (.slice a9 H c9)).setCell ⟨w.heap.size + 1, 0, none⟩ (.slice a1 n k1)).setCell ⟨w.heap.size + 1, 1, none⟩ (.slice a2 n k2)).setCell ⟨w.heap.size + 1, 2, none⟩ (.slice a3 n k3)).setCell ⟨w.heap.size + 1, 3, none⟩ (.slice a9 H c9)) :=
          (((((Wrote.refl _ w8).setCell (p := ⟨wA.heap.size, 3, none⟩) (.inl rfl) _).setCell (p := ⟨w.heap.size + 1, 0, none⟩) (.inr rfl) _).setCell (p := ⟨w.heap.size + 1, 1, none⟩) (.inr rfl) _).setCell (p := ⟨w.heap.size + 1, 2, none⟩) (.inr rfl) _).setCell (p := ⟨w.heap.size + 1, 3, none⟩) (.inr rfl) _
        have hsz := hW.size
        obtain ⟨e1, e2, e3⟩ := HLPA.out
        obtain ⟨n1, n2, n3⟩ := HLEN.out
        have hol := Nat.le_trans hx8.size hsz
        have hwo := QB.out.lt
        have own : ∀ {a : Option Addr} {k : Nat} {xs : List Int}, GrI (wA.heap.size + 2) wo (.slice a n k) xs → OwnOf (Value.int .i64) 0 w.heap.size wo.heap.size _ a xs := fun h => (OwnOf.wrote ((GrowOf.own 0 h).ext hx8) hW fun k h1 h2 h3 => by omega).mono (by omega) (Nat.le_refl _)
        refine ⟨a1, a2, a3, a9, k1, k2, k3, c9, A9, C9, ?_, HXo.out.wroteNew ((hx8.wrote _).trans hW) (fun k hk hs => by omega), apO_of HTn.out.d12, apO_of HTn.out.d13, apO_of HTn.out.d23, wo.heap.size, by omega, hol, ?_, ?_, ?_, ?_⟩
        · unfold gtV gtR
          dsimp only
          rw [← e1, ← e2, ← e3, n1, n2, n3, grl_len]
        · unfold gtR
          dsimp only
          rw [← e1]
          exact own HTn.out.o1
        · unfold gtR
          dsimp only
          rw [← e2]
          exact own HTn.out.o2
        · unfold gtR
          dsimp only
          rw [← e3]
          exact own HTn.out.o3
        · exact (hm8.wrote hW fun k h1 h2 h3 => by omega).mono (Nat.le_refl _) hsz
      clear q8 r8 q9 r9 r10 hx8 hm8 f1 lf1 QB QR2 HRM
      have hfld := field_grey a9 H c9 w8
      go_wp2
      exact bodyPost_ret (v := .agg #[.slice a1 n k1, .slice a2 n k2, .slice a3 n k3, .slice a9 H c9]) (by simp [results, Try.results76, go_sem, s0, s1, s2, s3]) rfl HE.out
end Go.Proofs.Ytmmanehdmnkekaa
