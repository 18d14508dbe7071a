/- A drawn region is cut where its tail begins. -/
import Derived.StillTail
import Derived.Test.YthgkmaccbcpaeaaNdA
import Derived.Test.YthgkmaccbcpaeaaThrG
import Derived.Test.YthgkmaccbcpaeaaLGt
import Derived.Test.YthgkmaccbcpaeaaLabS
import Derived.Test.YthgkmaccbcpaeaaCmpF
import Derived.Test.YthgkmaccbcpaeaaListS
import Derived.Test.YthgkmaccbcpaeaaAreF
import Derived.Test.YthgkmaccbcpaeaaRowK
import Derived.Deep.RegionHeld3
import Derived.Deep.Onto
import Derived.Test.YthgkmaccbcpaeaaNdB
namespace Go
section
variable {P : Program} {md : Region.Mode}
/-- The post of the head: the tail in the text's order. -/
def HeadQ (P : Program) (ops : Array Oper) (Q : Exit → Act → World → Prop) (l : List Oper) : Exit → Act → World → Prop
  | .normal, a, w => wpList P ops Q l a w
  | e, a, w => Q e a w
theorem Oper.upon_head {ops : Array Oper} {o : Oper} {a : Act} {K : Act → World → Prop} {Q : Exit → Act → World → Prop} {l : List Oper} {r : Result Next} (h : o.upon P a K (HeadQ P ops Q l) r) : o.upon P a K Q r := by
  cases r with
  | ok n w' =>
    cases n <;> simp only [Oper.upon] at h ⊢ <;> exact h
  | halt x w' => cases x <;> simp only [Oper.upon] at h ⊢ <;> exact h
/-- Who waits, waits for an earlier one. -/
def Region.fwdB (md : Region.Mode) (ops : Array Oper) (n : Nat) : Bool :=
  (List.range n).all fun i => ((ops[i]?).map fun o => o.guard.isNone && o.after.all fun e => !Region.binds md e || decide (e.on < i)).getD false
theorem fwdB_at {ops : Array Oper} {n i : Nat} (h : Region.fwdB md ops n = true) (hi : i < n) : ∃ o, ops[i]? = some o ∧ o.guard = none ∧ ∀ e ∈ o.after, Region.binds md e = true → e.on < i := by
  have h1 := List.all_eq_true.1 h i (List.mem_range.2 hi)
  cases ho : ops[i]? with
  | none => rw [ho] at h1; simp at h1
  | some o =>
    rw [ho] at h1
    simp only [Option.map_some, Option.getD_some, Bool.and_eq_true, Option.isNone_iff_eq_none] at h1
    refine ⟨o, rfl, h1.1, fun e he hb => ?_⟩
    have h2 := Array.all_eq_true_iff_forall_mem.1 h1.2 e he
    simpa [hb] using h2
theorem wpAny_more {ops : Array Oper} {Q : Exit → Act → World → Prop} : ∀ (f : Nat) (listed : Array Bool) (a : Act) (w : World), wpAny P md ops Q f listed a w → wpAny P md ops Q (f + 1) listed a w
  | 0, _, _, _, h => ⟨fun _ => h.2, by rw [h.1]; simp⟩
  | f + 1, _, _, _, h => ⟨h.1, fun i hi => wpOp_mono (fun a' w' h' => wpAny_more f _ a' w' h') (h.2 i hi)⟩
theorem wpAny_mores {ops : Array Oper} {Q : Exit → Act → World → Prop} {g : Nat} {listed : Array Bool} {a : Act} {w : World} (h : wpAny P md ops Q g listed a w) : ∀ f, wpAny P md ops Q (f + g) listed a w
  | 0 => by rw [Nat.zero_add]; exact h
  | f + 1 => by rw [show f + 1 + g = (f + g) + 1 by omega]; exact wpAny_more _ _ _ _ (wpAny_mores h f)
/-- What may come up of the head alone. -/
theorem ready_head {l : List Oper} {n : Nat} {listed listed' : Array Bool} (inv : HeadInv md l.toArray n listed) (hsz : listed'.size = n) (hag : ∀ j, j < n → listed'[j]? = listed[j]?) {j : Nat} (hj : j < n) :
    j ∈ Region.ready md (l.take n).toArray listed' ↔ j ∈ Region.ready md l.toArray listed := by
  have hd : ∀ (i : Nat) (d : Bool), i < n → listed'.getD i d = listed.getD i d := fun i d hi => by
    rw [Array.getD_eq_getD_getElem?, Array.getD_eq_getD_getElem?, hag i hi]
  have hd2 : ∀ i, listed'.getD i false = listed.getD i false := fun i => by
    by_cases hi : i < n
    · exact hd i false hi
    · rw [Array.getD_eq_getD_getElem?, Array.getElem?_eq_none (by omega)]
      by_cases hi2 : i < l.toArray.size
      · exact (getD_both (inv.tail i (by omega) hi2)).symm
      · rw [Array.getD_eq_getD_getElem?, Array.getElem?_eq_none (by rw [inv.size]; omega)]
  have ho : (l.take n).toArray[j]? = l.toArray[j]? := by simp [hj]
  rw [mem_ready, mem_ready, ho, hd j true hj]
  constructor
  · rintro ⟨h1, o, h2, h3⟩
    exact ⟨h1, o, h2, fun e he hb => by rw [← hd2]; exact h3 e he hb⟩
  · rintro ⟨h1, o, h2, h3⟩
    exact ⟨h1, o, h2, fun e he hb => by rw [hd2]; exact h3 e he hb⟩
/-- While one of the head has not come up, one of it may come up. -/
theorem head_ready {ops : Array Oper} {n : Nat} {listed : Array Bool} (hf : Region.fwdB md ops n = true) (inv : HeadInv md ops n listed) (hn : n < ops.size) : ∀ (j : Nat), j < n → listed.getD j false = false → ∃ i, i < n ∧ i ∈ Region.ready md ops listed := by
  intro j
  induction j using Nat.strongRecOn with
  | _ j ih =>
    intro hj hun
    obtain ⟨o, ho, -, hfw⟩ := fwdB_at hf hj
    by_cases hall : ∀ e ∈ o.after, Region.binds md e = true → listed.getD e.on false = true
    · exact ⟨j, hj, mem_ready.2 ⟨getD_in (by rw [inv.size]; omega) hun, o, ho, hall⟩⟩
    · simp only [Classical.not_forall, Bool.not_eq_true] at hall
      obtain ⟨e, he, hb, hl⟩ := hall
      exact ih e.on (hfw e he hb) (Nat.lt_trans (hfw e he hb) hj) hl
theorem wpOp_head {l t : List Oper} {n i : Nat} {o : Oper} {Q : Exit → Act → World → Prop} {K : Act → World → Prop} {a : Act} {w : World} (hi : i < n) (ho : l.toArray[i]? = some o) (hg : o.guard = none)
    (h : wpOp P (l.take n).toArray (HeadQ P l.toArray Q t) i K a w) : wpOp P l.toArray Q i K a w := by
  have ho' : (l.take n).toArray[i]? = some o := by rw [← ho]; simp [hi]
  have hw : ∀ y, Region.wanted o y = true := fun y => by simp [Region.wanted, hg]
  unfold wpOp at h ⊢
  rw [ho'] at h
  rw [ho]
  simp only [hw, if_true] at h ⊢
  rcases h with h | ⟨h1, h2⟩
  · exact .inl (Oper.upon_head h)
  · exact .inr ⟨h1, h2⟩
def fullL (n m : Nat) : Array Bool := Array.replicate n true ++ Array.replicate m false
theorem full_of {ops : Array Oper} {n : Nat} {listed : Array Bool} (inv : HeadInv md ops n listed) (hn : n ≤ ops.size) (h : ∀ j, j < n → listed.getD j false = true) : listed = fullL n (ops.size - n) := by
  refine Array.ext (by simp [fullL, inv.size]; omega) fun j h1 h2 => ?_
  have e1 : listed[j] = listed.getD j false := by simp [h1]
  have e2 : listed[j] = listed.getD j true := by simp [h1]
  by_cases hj : j < n
  · rw [e1, h j hj]
    simp [fullL, hj]
  · rw [e2, inv.tail j (by omega) (by rw [← inv.size]; exact h1)]
    simp [fullL, Array.getElem_append, hj]
theorem wpAny_cut {l : List Oper} {n : Nat} {Q : Exit → Act → World → Prop} (hs : Region.sinkB md l.toArray n = true) (hc : Region.chainB md l.toArray n = true) (hf : Region.fwdB md l.toArray n = true) (hn : n < l.length) (hseq : Region.seqB md l.toArray (l.drop n).length n (fullL n (l.toArray.size - n)) = true) :
    ∀ (f : Nat) (listed listed' : Array Bool) (a : Act) (w : World), HeadInv md l.toArray n listed → listed'.size = n → (∀ j, j < n → listed'[j]? = listed[j]?) → wpAny P md (l.take n).toArray (HeadQ P l.toArray Q (l.drop n)) f listed' a w → wpAny P md l.toArray Q (f + (l.drop n).length) listed a w := by
  have done : ∀ (f : Nat) (listed : Array Bool) (a : Act) (w : World), HeadInv md l.toArray n listed → (∀ j, j < n → listed.getD j false = true) → wpList P l.toArray Q (l.drop n) a w → wpAny P md l.toArray Q (f + (l.drop n).length) listed a w := fun f listed a w inv hall h => by
    rw [full_of inv (by simp; omega) hall]
    exact wpAny_mores (wpAny_of_seq (l.drop n) n _ a w (fun j => by simp [List.getElem?_drop]) hseq h) f
  have none_ready : ∀ (listed listed' : Array Bool), HeadInv md l.toArray n listed → listed'.size = n → (∀ j, j < n → listed'[j]? = listed[j]?) → Region.ready md (l.take n).toArray listed' = [] → ∀ j, j < n → listed.getD j false = true := fun listed listed' inv hsz hag h0 j hj => by
    cases hl : listed.getD j false with
    | true => rfl
    | false =>
      obtain ⟨i, hi, hr⟩ := head_ready hf inv (by simpa using hn) j hj hl
      have := (ready_head inv hsz hag hi).2 hr
      rw [h0] at this
      cases this
  intro f
  induction f with
  | zero =>
    intro listed listed' a w inv hsz hag h
    exact done 0 listed a w inv (none_ready listed listed' inv hsz hag h.1) h.2
  | succ f ih =>
    intro listed listed' a w inv hsz hag h
    by_cases h0 : Region.ready md (l.take n).toArray listed' = []
    · exact done (f + 1) listed a w inv (none_ready listed listed' inv hsz hag h0) (h.1 h0)
    · obtain ⟨k, hk⟩ := List.exists_mem_of_ne_nil _ h0
      have hkn : k < n := by
        have h1 := (mem_ready.1 hk).1
        refine Nat.lt_of_not_le fun h2 => ?_
        rw [Array.getD_eq_getD_getElem?, Array.getElem?_eq_none (by omega)] at h1
        cases h1
      have hkr := (ready_head inv hsz hag hkn).1 hk
      have hun := (mem_ready.1 hkr).1
      rw [show f + 1 + (l.drop n).length = (f + (l.drop n).length) + 1 by omega]
      refine ⟨fun h1 => (by rw [h1] at hkr; cases hkr), fun i hi => ?_⟩
      have hin : i < n := Nat.lt_of_not_le fun h2 => tail_waits hs hc (by simpa using hn) inv (n - k) k rfl hkn hun i h2 hi
      obtain ⟨o, ho, hg, -⟩ := fwdB_at hf hin
      have h3 := h.2 i ((ready_head inv hsz hag hin).2 hi)
      refine wpOp_head hin ho hg (wpOp_mono (fun a' w' h4 => ih _ _ a' w' (inv.set hi hin) (by simp [hsz]) (fun j hj => ?_) h4) h3)
      rw [Array.getElem?_setIfInBounds, Array.getElem?_setIfInBounds, hag j hj, hsz, inv.size]
      have : i < l.length := by omega
      simp [hin, this]
theorem wp_region_cut {id : Nat} {l : List Oper} (n : Nat) {Q : Exit → Act → World → Prop} {a : Act} {w : World} (hm : P.follows .mixedOrders = true) (hs : Region.sinkB .any l.toArray n = true) (hc : Region.chainB .any l.toArray n = true) (hf : Region.fwdB .any l.toArray n = true) (hn : n < l.length) (hseq : Region.seqB .any l.toArray (l.drop n).length n (fullL n (l.toArray.size - n)) = true)
    (h : wpAny P .any (l.take n).toArray (HeadQ P l.toArray Q (l.drop n)) (l.take n).toArray.size (Array.replicate (l.take n).toArray.size false) a { w with drawn := w.drawn + 1 }) : (Code.region id l.toArray true).wp P Q a w := by
  refine wp_region_any hm ?_
  have hsz : (l.take n).toArray.size = n := by simp; omega
  rw [hsz] at h
  have inv0 : HeadInv .any l.toArray n (Array.replicate l.toArray.size false) :=
    ⟨by simp, fun j oj _ hl => (by rw [getD_replicate_false] at hl; cases hl), fun t _ ht => getD_in (by simpa using ht) (getD_replicate_false _ _)⟩
  have := wpAny_cut hs hc hf hn hseq n _ _ a _ inv0 (by simp) (fun j hj => by
    have hj2 : j < l.length := by omega
    simp [hj, hj2]) h
  rwa [show n + (l.drop n).length = l.toArray.size by simp; omega] at this
end
end Go

/- The reference's tree of a grey picture: its state. -/
namespace Go.Proofs.Ythgkmaccbcpaeaa
open Go Go.RowKit
section
variable {W H : Nat} {l : List Int} {t : Int}
theorem thrL_at {k : Nat} (hk : k < l.length) : (thrL t l).getD k false = decide (t ≤ l.getD k 0) := by
  unfold thrL
  rw [List.getD_eq_getElem?_getD, List.getElem?_map, List.getElem?_eq_getElem hk, List.getD_eq_getElem?_getD, List.getElem?_eq_getElem hk]
  rfl
theorem pxP_thr (hl : l.length = H * W) : pxP W H (thrL t l) = lvR W H l t := by
  funext p
  show (hasB W H p.1 p.2 && (thrL t l).getD (p.2 * W + p.1).toNat false) = (hasB W H p.1 p.2 && decide (t ≤ l.getD (p.2 * W + p.1).toNat 0))
  cases hb : hasB W H p.1 p.2
  · rfl
  · obtain ⟨h1, h2, h3, h4⟩ := hasB_true.1 hb
    have := (place_lt h1 h2 h3 h4).2
    rw [thrL_at (by rw [hl, Nat.mul_comm]; omega)]
theorem spots_thr (hl : l.length = H * W) : spotsTo W (thrL t l) (H * W) = (blkL W H l t).map (spN W) := by
  unfold spotsTo blkL
  have e : (List.range (H * W)).filter (fun i => (thrL t l).getD i false) = (List.range (H * W)).filter fun q => decide (t ≤ l.getD q 0) := List.filter_congr fun q hq => by
    rw [List.mem_range] at hq
    exact thrL_at (by omega)
  rw [e]
  rfl
theorem lab_thr (hl : l.length = H * W) {F : Int × Int → Nat} {n : Nat} (h : LabK (pxP W H (thrL t l)) (nbA false) (spotsTo W (thrL t l) (H * W)) (spotsTo W (thrL t l) (H * W)).length F n) :
    n = (fstL W H l t).length ∧ ∀ j, j < H * W → ∀ m, m < n → (F (spN W j) = m + 1 ↔ Cn W H l t ((fstL W H l t).getD m 0) j) := by
  rw [pxP_thr hl, spots_thr hl, List.length_map] at h
  exact lab_parts h
end
noncomputable def gtR (W H : Nat) (l : List Int) : GT := (levT (nodeL W H l), parT W H l (nodeL W H l), areT W H l (nodeL W H l), grl W H (nodT W H l (nodeL W H l)))
def TreeRet (w : World) (R : GT) (e : Ending) (w' : World) : Prop :=
  ∃ a1 a2 a3 a4 c1 c2 c3 c4 A C, e = .returned (gtV a1 a2 a3 a4 c1 c2 c3 c4 R) ∧ w.Ext w' ∧ OwnG w.heap.size w'.heap.size w' a1 a2 a3 a4 A C R
theorem apO_of {a b : Option Addr} {n m c d : Nat} (h : ApV (.slice a n c) (.slice b m d)) : apO a b := fun k o e o' e' => by
  subst e e'
  exact h k rfl rfl
theorem grI_made {w : World} {base g n : Nat} (h : w.ownsRow base 2 1 (.slice (some ⟨g, 0, none⟩) n n) n (madeCells (Value.int .i64 0).cells (n * 1)).toList) : GrI base w (.slice (some ⟨g, 0, none⟩) n n) (List.replicate n 0) := by
  have e : (madeCells (Value.int .i64 0).cells (n * 1)).toList = (List.replicate n (0 : Int)).map iv := by
    have e1 : (Value.int .i64 0).cells = #[Value.int .i64 0] := rfl
    rw [e1]
    apply List.ext_getElem
    · simp [size_madeCells]
    · intro i h1 h2
      simp [madeCells, Nat.mod_one, iv]
  show w.ownsRow base 2 1 _ (List.replicate n (0 : Int)).length ((List.replicate n (0 : Int)).map iv)
  rw [List.length_replicate, ← e]
  exact h
/-- Filled with -1 as far as i. -/
def negL (n i : Nat) : List Int := (List.range n).map fun j => if j < i then -1 else 0
theorem negL_len (n i : Nat) : (negL n i).length = n := by simp [negL]
theorem negL_zero (n : Nat) : negL n 0 = List.replicate n 0 := by
  unfold negL
  rw [List.eq_replicate_iff]
  exact ⟨by simp, fun b hb => by rw [List.mem_map] at hb; obtain ⟨j, -, rfl⟩ := hb; rfl⟩
theorem negL_set {n i : Nat} (_ : i < n) : (negL n i).set i (-1) = negL n (i + 1) := by
  apply List.ext_getElem?
  intro j
  rw [List.getElem?_set, negL_len]
  by_cases hj : j < n
  · unfold negL
    rw [List.getElem?_map, List.getElem?_map, List.getElem?_range hj]
    simp only [Option.map_some]
    by_cases e : i = j
    · subst e
      rw [if_pos rfl, if_pos hj, if_pos (by omega)]
    · rw [if_neg e]
      by_cases hc : j < i
      · rw [if_pos hc, if_pos (by omega)]
      · rw [if_neg hc, if_neg (by omega)]
  · rw [List.getElem?_eq_none (by rw [negL_len]; omega), List.getElem?_eq_none (by rw [negL_len]; omega)]
    by_cases e : i = j
    · omega
    · rw [if_neg e]
theorem negL_all (n : Nat) : negL n n = List.replicate n (-1) := by
  unfold negL
  rw [List.eq_replicate_iff]
  exact ⟨by simp, fun b hb => by rw [List.mem_map] at hb; obtain ⟨j, hj, rfl⟩ := hb; rw [List.mem_range] at hj; rw [if_pos hj]⟩
end Go.Proofs.Ythgkmaccbcpaeaa

/- The reference's tree of a grey picture: the walk. -/
namespace Go.Proofs.Ythgkmaccbcpaeaa
open Go Go.RowKit
theorem grL_table {m : List (List Int)} (hok : tableOk m 99 = true) : GrL (m.getD 0 []).length m.length m.flatten := by
  obtain ⟨h1, h2, h3, h4, h5, h6⟩ := tableOk_spec hok
  intro k hk
  have hy : k / (m.getD 0 []).length < m.length := by rw [Nat.div_lt_iff_lt_mul (by omega)]; exact hk
  have hx : k % (m.getD 0 []).length < (m.getD 0 []).length := Nat.mod_lt _ (by omega)
  have h := flat_at (m.getD 0 []).length m _ _ h5 hy hx
  rw [Nat.mul_comm, Nat.div_add_mod] at h
  rw [h]
  exact h6 _ _ hy (by rw [h5 _ hy]; exact hx)
end Go.Proofs.Ythgkmaccbcpaeaa

/- The program's tree of a grey picture: the walk. -/
namespace Go.Proofs.Ythgkmaccbcpaeaa
open Go Go.RowKit
theorem wpList_len_mapS {P : Program} {w : World} {ops : Array Oper} {rest : List Oper} {o : Oper} {a : Act} {Q : Exit → Act → World → Prop} (hg : o.guard = none) (m : Operand) (t : TypeId) (hop : o.op = Op.call { callee := Callee.builtin Builtin.len, args := #[m], argTypes := #[t] })
    (k e : TypeId) (ht : P.underlying t = some (.map k e)) (b n : Nat) (es : Array MapEntry) (clock : Nat) (hm : a.eval m = .map (some b)) (hb : w.heap[b]? = some (.map es clock)) (hn : es.size = n)
    (hK : wpList P ops Q rest (a.put o.dst (.int .i64 n)) w) : wpList P ops Q (o :: rest) a w := by
  refine wpList_plain hg fun K' hK' => ?_
  subst hn
  have hr : (Builtin.len_ #[t] o.type #[.map (some b)]).run P w = .ok (.int .i64 es.size) w := by
    simp [Builtin.len_, run_underlying ht, run_getObj_map w b es clock hb, goInt]
  unfold Oper.wp
  simp [execOp, hop, resolve, invoke, builtin, hm, hr, Result.andThen]
  exact hK' _ _ hK
theorem take_nextT {xs : List Int} {k : Nat} (h : k < xs.length) : xs.take (k + 1) = xs.take k ++ [xs.getD k 0] := by
  rw [List.take_succ_eq_append_getElem h, List.getD_eq_getElem?_getD, List.getElem?_eq_getElem h]
  rfl
theorem Nbx.other {w w1 : World} {b m : Nat} {t x y : Int} {r : Option Nat} (h : Nbx w b t x y m) (hg : w.grownBy w1 r) (hr : r ≠ some b) : Nbx w1 b t x y m := h.keep (hg.block b h.lt (Ne.symm hr))
theorem PartAt.len {w : World} {b W H q : Nat} {l : List Int} {t : Int} (h : PartAt w b W H l t q) : ∃ es clock, w.heap[b]? = some (.map es clock) ∧ es.size = ((List.range (H * W)).filter (cnB W H l t q)).length := by
  obtain ⟨ds, h1, h2, h3⟩ := h
  have hc := h1.count ds h2 fun p => by
    unfold mapG
    by_cases hp : p ∈ ds
    · simp [hp]
    · simp [hp]
  obtain ⟨es, clock, hb, -⟩ := h1
  refine ⟨es, clock, hb, ?_⟩
  unfold mapLen at hc
  rw [hb] at hc
  simp only at hc
  rw [hc]
  have hp : (((List.range (H * W)).filter (cnB W H l t q)).map (spN W)).Perm ds := by
    refine (List.perm_ext_iff_of_nodup ?_ h2).2 fun p => ?_
    · rw [List.nodup_iff_pairwise_ne, List.pairwise_map]
      exact List.Pairwise.imp (fun {a b} hab e => by have := spN_inj e; omega) (List.Pairwise.filter _ List.pairwise_lt_range)
    · rw [List.mem_map, h3]
      constructor
      · rintro ⟨j, hj, rfl⟩
        rw [List.mem_filter] at hj
        exact cnB_iff.1 hj.2
      · intro hr
        obtain ⟨j, hj, rfl⟩ := lvR_box hr.right
        exact ⟨j, by rw [List.mem_filter, List.mem_range]; exact ⟨hj, cnB_iff.2 hr⟩, rfl⟩
  rw [← hp.length_eq, List.length_map]
/-- The state with a node's box. -/
structure TrN (wA : World) (sv u1 u2 u3 v1 v2 v3 : Value) (L P R : List Int) (b6 : Nat) (t x y : Int) (bm : Nat) (wr : World) : Prop where
  st : TrSt wA sv u1 u2 u3 v1 v2 v3 L P R wr
  nbx : Nbx wr b6 t x y bm
  lo : wA.heap.size + 2 ≤ b6
  n1 : v1.ownBlock ≠ some b6
  n2 : v2.ownBlock ≠ some b6
  n3 : v3.ownBlock ≠ some b6
section
variable {wA wr wa w1 w' : World} {sv u1 u2 u3 v1 v2 v3 v' : Value} {L P R : List Int} {z : Int} {b6 bm : Nat} {t x y : Int}
theorem TrN.ext (h : TrN wA sv u1 u2 u3 v1 v2 v3 L P R b6 t x y bm wr) (hx : wr.Ext w') : TrN wA sv u1 u2 u3 v1 v2 v3 L P R b6 t x y bm w' := ⟨h.st.ext hx, h.nbx.ext hx, h.lo, h.n1, h.n2, h.n3⟩
theorem ownB_new {v' v : Value} {b6 n : Nat} (h : v.ownBlock ≠ some b6) (hn : b6 < n) (hat : v'.ownBlock = v.ownBlock ∨ v'.ownBlock = some n) : v'.ownBlock ≠ some b6 := by
  rcases hat with e | e
  · rw [e]; exact h
  · rw [e]; intro e'; cases e'; omega
theorem TrN.push1 (h : TrN wA sv u1 u2 u3 v1 v2 v3 L P R b6 t x y bm wr) (hx : wr.Ext wa) (hg : wa.grownBy w1 v1.ownBlock) (ho : w1.ownsRow (wA.heap.size + 2) 2 1 v' (L.length + 1) (L.map iv ++ [iv z])) (hat : v'.ownBlock = v1.ownBlock ∨ v'.ownBlock = some wa.heap.size) :
    TrN wA sv u1 u2 u3 v' v2 v3 (L ++ [z]) P R b6 t x y bm w1 := ⟨h.st.push1 hx hg ho hat, (h.nbx.ext hx).other hg h.n1, h.lo, ownB_new h.n1 (h.nbx.ext hx).lt hat, h.n2, h.n3⟩
theorem TrN.push2 (h : TrN wA sv u1 u2 u3 v1 v2 v3 L P R b6 t x y bm wr) (hx : wr.Ext wa) (hg : wa.grownBy w1 v2.ownBlock) (ho : w1.ownsRow (wA.heap.size + 2) 2 1 v' (P.length + 1) (P.map iv ++ [iv z])) (hat : v'.ownBlock = v2.ownBlock ∨ v'.ownBlock = some wa.heap.size) :
    TrN wA sv u1 u2 u3 v1 v' v3 L (P ++ [z]) R b6 t x y bm w1 := ⟨h.st.push2 hx hg ho hat, (h.nbx.ext hx).other hg h.n2, h.lo, h.n1, ownB_new h.n2 (h.nbx.ext hx).lt hat, h.n3⟩
theorem TrN.push3 (h : TrN wA sv u1 u2 u3 v1 v2 v3 L P R b6 t x y bm wr) (hx : wr.Ext wa) (hg : wa.grownBy w1 v3.ownBlock) (ho : w1.ownsRow (wA.heap.size + 2) 2 1 v' (R.length + 1) (R.map iv ++ [iv z])) (hat : v'.ownBlock = v3.ownBlock ∨ v'.ownBlock = some wa.heap.size) :
    TrN wA sv u1 u2 u3 v1 v2 v' L P (R ++ [z]) b6 t x y bm w1 := ⟨h.st.push3 hx hg ho hat, (h.nbx.ext hx).other hg h.n3, h.lo, h.n1, h.n2, ownB_new h.n3 (h.nbx.ext hx).lt hat⟩
theorem TrN.put1 (h : TrN wA sv u1 u2 u3 v1 v2 v3 L P R b6 t x y bm wr) (z : Value) : TrN wA sv z u2 u3 v1 v2 v3 L P R b6 t x y bm (wr.setCell ⟨wA.heap.size, 0, none⟩ z) := ⟨h.st.put1 z, h.nbx.keep (Below.heap_setCell _ _ _ _ (by have := h.lo; dsimp only; omega)), h.lo, h.n1, h.n2, h.n3⟩
theorem TrN.put2 (h : TrN wA sv u1 u2 u3 v1 v2 v3 L P R b6 t x y bm wr) (z : Value) : TrN wA sv u1 z u3 v1 v2 v3 L P R b6 t x y bm (wr.setCell ⟨wA.heap.size, 1, none⟩ z) := ⟨h.st.put2 z, h.nbx.keep (Below.heap_setCell _ _ _ _ (by have := h.lo; dsimp only; omega)), h.lo, h.n1, h.n2, h.n3⟩
theorem TrN.put3 (h : TrN wA sv u1 u2 u3 v1 v2 v3 L P R b6 t x y bm wr) (z : Value) : TrN wA sv u1 u2 z v1 v2 v3 L P R b6 t x y bm (wr.setCell ⟨wA.heap.size, 2, none⟩ z) := ⟨h.st.put3 z, h.nbx.keep (Below.heap_setCell _ _ _ _ (by have := h.lo; dsimp only; omega)), h.lo, h.n1, h.n2, h.n3⟩
theorem TrN.start (h : TrSt wA sv u1 u2 u3 v1 v2 v3 L P R wr) (t x y : Int) (bm : Nat) : TrN wA sv u1 u2 u3 v1 v2 v3 L P R wr.heap.size t x y bm (wr.alloc (.cells #[.int .i64 t, .int .i64 x, .int .i64 y, .map (some bm)] 243)) :=
  ⟨h.ext (by repeat (first | exact World.Ext.refl _ | exact ⟨_, rfl⟩ | assumption | refine World.Ext.over ?_ _ | refine World.Ext.drewN ?_ _ | refine World.Ext.drew ?_ | refine World.Ext.alloc ?_ _ | refine World.Ext.setCell ?_ (by simp) _)), Nbx.new _ _ _ _ _ rfl, (Array.getElem?_eq_some_iff.1 h.nb).1, fun e => by have := (GrI.lt h.o1 e).2; omega, fun e => by have := (GrI.lt h.o2 e).2; omega, fun e => by have := (GrI.lt h.o3 e).2; omega⟩
end
theorem field_grey (a : Option Addr) (n c : Nat) (w : World) : (Instr.field 84 (.agg #[.slice a n c]) 0).run Try.prog w = .ok (.slice a n c) w := by kernel_rfl
theorem GrAt.remadeF {w : World} {p W H : Nat} {l : List Int} (h : GrAt w p W H l) (hH0 : 0 < H) (hW : W ≤ 64) (hH : H ≤ 64) (f : Nat) (caps : Array Value) (NT : List Int) (he : Enters f)
    (hf : ∀ w', w.Ext w' → ∀ j, j < H * W → Calls Try.prog f (#[] ++ #[.agg #[.int .i64 ((j % W : Nat) : Int), .int .i64 ((j / W : Nat) : Int)]] ++ caps) w' fun e w'' => e = .returned (.int .i64 (NT.getD j 0)) ∧ w'.Ext w'') :
    Calls Try.prog 147 #[.pointer (some ⟨p, 0, none⟩), .func (.func f) #[] caps] w (GreyRet w (grl W H NT)) := by
  obtain ⟨a, c, A, C, m, h1, h2, h3, h4, -⟩ := h.ex
  have hr := h4 0 (by omega)
  have hh := remadeF_any p 0 a c A C m f caps (flG W NT) w (by omega) (by omega) (by omega) he h1 h2 fun w' hx x y hx1 hy1 => by
    rw [hr] at hx1
    have hb := Nat.mul_le_mul_right W (show y + 1 ≤ H by omega)
    rw [Nat.succ_mul] at hb
    have hc := hf w' hx (y * W + x) (by omega)
    have em : (y * W + x) % W = x := by rw [Nat.mul_comm, Nat.mul_add_mod, Nat.mod_eq_of_lt hx1]
    have ed : (y * W + x) / W = y := by rw [Nat.mul_comm, Nat.mul_add_div (by omega), Nat.div_eq_of_lt hx1]; rfl
    rw [em, ed] at hc
    exact hc
  rw [hr, h3] at hh
  exact hh
set_option maxRecDepth 5000 in
set_option maxHeartbeats 6400000 in
theorem greyTree_any (p W H : Nat) (l : List Int) (w : World) (hW1 : 1 ≤ W) (hH1 : 1 ≤ H) (hW : W ≤ 16) (hH : H ≤ 16) (hg : GrAt w p W H l) (hgl : GrL W H l) :
    Calls Try.prog 154 #[.pointer (some ⟨p, 0, none⟩)] w (TreeRet w (gtR W H l)) := by
  obtain ⟨i0, hi, hz0, hz1, hz2⟩ := info_parts Try.infoI64
  obtain ⟨W0, hW0⟩ : ∃ W0, W0 = (w.alloc (.cells #[.pointer (some ⟨p, 0, none⟩)] 239)).alloc (.cells #[.slice none 0 0, .slice none 0 0, .slice none 0 0, .slice none 0 0] 200) := ⟨_, rfl⟩
  have hx0 : w.Ext W0 := by rw [hW0]; repeat (first | exact World.Ext.refl _ | exact ⟨_, rfl⟩ | assumption | refine World.Ext.over ?_ _ | refine World.Ext.drewN ?_ _ | refine World.Ext.drew ?_ | refine World.Ext.alloc ?_ _ | refine World.Ext.setCell ?_ (by simp) _)
  have HN := Lib.hid (nodes_any p W H l W0 hW1 hH1 hW hH (hg.ext hx0) hgl)
  have hnn : H * W ≤ 256 := Nat.mul_le_mul hH hW
  have hn : (nodeL W H l).length ≤ 256 := Nat.le_trans (nodeL_len hgl) hnn
  have hpos : 0 < (nodeL W H l).length := nodeL_pos hgl (p := 0) (Nat.mul_pos hH1 hW1)
  have HG := Lib.hid hg
  have HGL := Lib.hid hgl
  have HX0 := Lib.hid hx0
  have d0 : W0.cell? ⟨w.heap.size, 0, none⟩ = some (.pointer (some ⟨p, 0, none⟩)) := by rw [hW0]; simp [go_sem]
  have QR : Hid (Qua W0 (w.heap.size + 1) 200 (.slice none 0 0) (.slice none 0 0) (.slice none 0 0) (.slice none 0 0)) := by rw [hW0]; exact Qua.new _ _ _ _ _ _ _ (by simp)
  have HSZ : Hid (W0.heap.size = w.heap.size + 2) := by show _ = _; rw [hW0]; simp
  clear hg hgl hx0
  go_enter Try.func154, Try.ntmps154
  go_wp2_with fail
  rw [← hW0]
  clear hW0
  refine HN.out.mono ?_
  rintro e wA ⟨v, qs, rfl, hx1, ho1, hk1, hp1⟩
  obtain ⟨a, cap, rfl, hcap⟩ := World.ownsRow.form ho1
  have hql : qs.length = (nodeL W H l).length := by rw [← hk1, List.length_map]
  have HQ : Hid (NdsAt wA W H l a qs) := ⟨GrowN.row ho1, hk1, fun d hd => ⟨(hp1 d hd).1, (hp1 d hd).2.2⟩⟩
  obtain ⟨b0, o0, rfl, -⟩ := HQ.out.row 0 (by omega)
  have e0 := hx1.cell d0
  have HX1 := Lib.hid hx1
  clear ho1 hp1 hk1 d0 HN hx1
  have HQL := Lib.hid hql
  obtain ⟨n, hnq⟩ : ∃ n, n = qs.length := ⟨_, rfl⟩
  rw [← hnq] at hql hcap
  have HNQ := Lib.hid hnq
  rw [← hnq]
  rw [← hql] at hn hpos
  clear hql hnq
  have HT0 : Hid (TrSt wA (.slice (some ⟨b0, o0, none⟩) n cap) (.slice none 0 0) (.slice none 0 0) (.slice none 0 0) (.slice none 0 0) (.slice none 0 0) (.slice none 0 0) [] [] [] ((wA.alloc (.cells #[.slice none 0 0, .slice none 0 0, .slice none 0 0, .slice none 0 0] 200)).alloc (.cells #[.slice (some ⟨b0, o0, none⟩) n cap] 240))) := by
    refine ⟨by repeat (first | exact World.Ext.refl _ | exact ⟨_, rfl⟩ | assumption | refine World.Ext.over ?_ _ | refine World.Ext.drewN ?_ _ | refine World.Ext.drew ?_ | refine World.Ext.alloc ?_ _ | refine World.Ext.setCell ?_ (by simp) _), ?_, ?_, GrowOf.nilStart _ _ _, GrowOf.nilStart _ _ _, GrowOf.nilStart _ _ _, fun k h => ?_, fun k h => ?_, fun k h => ?_⟩
    · exact Qua.keep (Qua.new wA _ _ _ _ _ wA.heap.size rfl) (World.Ext.block (by repeat (first | exact World.Ext.refl _ | exact ⟨_, rfl⟩ | assumption | refine World.Ext.over ?_ _ | refine World.Ext.drewN ?_ _ | refine World.Ext.drew ?_ | refine World.Ext.alloc ?_ _ | refine World.Ext.setCell ?_ (by simp) _)) (by simp))
    · show ((wA.heap.push _).push _)[wA.heap.size + 1]? = _
      rw [show wA.heap.size + 1 = (wA.heap.push (.cells #[.slice none 0 0, .slice none 0 0, .slice none 0 0, .slice none 0 0] 200)).size by simp]
      exact Array.getElem?_push_size
    · cases h
    · cases h
    · cases h
  have HLK : Hid (∀ (w' : World) (j k : Nat), wA.Ext w' → j < n → k < n → (Instr.lookup 229 (.map (some (qs.getD j nd0).2.2.2)) (.agg #[.int .i64 (qs.getD k nd0).2.1, .int .i64 (qs.getD k nd0).2.2.1]) false).run Try.prog w' = .ok (.bool (cnB W H l (qs.getD j nd0).1 ((nodeL W H l).getD j (0, 0)).2 ((nodeL W H l).getD k (0, 0)).2)) w') := fun w' j k hx hj hk => by
    obtain ⟨-, -, -, g4⟩ := (HQ.out.ext hx).get (i := j) (by rw [← HNQ.out]; exact hj)
    obtain ⟨k1, -, k3, -⟩ := HQ.out.get (i := k) (by rw [← HNQ.out]; exact hk)
    obtain ⟨-, q2, q3⟩ := k3
    rw [k1] at q2 q3
    unfold spN at q2
    simp only [Prod.mk.injEq] at q2
    rw [q2.1, q2.2]
    exact g4.look q3 (by omega) (by omega)
  have HLN : Hid (∀ (w' : World) (k : Nat), wA.Ext w' → k < n → ∃ es clock, w'.heap[(qs.getD k nd0).2.2.2]? = some (.map es clock) ∧ es.size = arN W H l ((nodeL W H l).getD k (0, 0))) := fun w' k hx hk => by
    obtain ⟨-, g2, -, g4⟩ := (HQ.out.ext hx).get (i := k) (by rw [← HNQ.out]; exact hk)
    rw [g2] at g4
    exact g4.len
  obtain ⟨LL, hLL⟩ : ∃ L, L = levT (nodeL W H l) := ⟨_, rfl⟩
  obtain ⟨PP, hPP⟩ : ∃ L, L = parT W H l (nodeL W H l) := ⟨_, rfl⟩
  obtain ⟨AA, hAA⟩ : ∃ L, L = areT W H l (nodeL W H l) := ⟨_, rfl⟩
  have hlen : LL.length = n ∧ PP.length = n ∧ AA.length = n := by rw [hLL, hPP, hAA, levT_len, parT_len, areT_len, HNQ.out, HQL.out]; exact ⟨rfl, rfl, rfl⟩
  have HLEN := Lib.hid hlen
  obtain ⟨lev, hlev⟩ : ∃ lev : Nat → Int, ∀ k, lev k = (qs.getD k nd0).1 := ⟨_, fun _ => rfl⟩
  obtain ⟨cP, hcP⟩ : ∃ cP : Nat → Nat → Bool, ∀ k j, cP k j = (decide (lev j < lev k) && cnB W H l (qs.getD j nd0).1 ((nodeL W H l).getD j (0, 0)).2 ((nodeL W H l).getD k (0, 0)).2) := ⟨_, fun _ _ => rfl⟩
  have HCP := Lib.hid hcP
  have HLV := Lib.hid hlev
  have HNXT : Hid (∀ k, k < n → LL.take (k + 1) = LL.take k ++ [lev k] ∧ PP.take (k + 1) = PP.take k ++ [lastW (cP k) k] ∧ AA.take (k + 1) = AA.take k ++ [(arN W H l ((nodeL W H l).getD k (0, 0)) : Int)]) := fun k hk => by
    obtain ⟨k1, k2, -, -⟩ := HQ.out.get (i := k) (by rw [← HNQ.out]; exact hk)
    have hkl : k < (nodeL W H l).length := by rw [← HQL.out, ← HNQ.out]; exact hk
    have el : LL.getD k 0 = lev k := by
      rw [hLL, hlev, k2]
      unfold levT
      rw [List.getD_eq_getElem?_getD, List.getElem?_map, List.getD_eq_getElem?_getD, List.getElem?_eq_getElem hkl]
      rfl
    have ep : PP.getD k 0 = lastW (cP k) k := by
      have e1 : PP.getD k 0 = parN W H l ((nodeL W H l).getD k (0, 0)) := by
        rw [hPP]
        unfold parT
        rw [List.getD_eq_getElem?_getD, List.getElem?_map, List.getD_eq_getElem?_getD, List.getElem?_eq_getElem hkl]
        rfl
      rw [e1, ← parN_prog hkl]
      refine lastW_congr fun j hj => ?_
      obtain ⟨-, j2, -, -⟩ := HQ.out.get (i := j) (by rw [← HNQ.out]; omega)
      rw [hcP, hlev, hlev, j2, k2]
      congr 1
      rw [Bool.eq_iff_iff, decide_eq_true_iff, decide_eq_true_iff]
      omega
    have ea : AA.getD k 0 = (arN W H l ((nodeL W H l).getD k (0, 0)) : Int) := by
      rw [hAA]
      unfold areT
      rw [List.getD_eq_getElem?_getD, List.getElem?_map, List.getD_eq_getElem?_getD, List.getElem?_eq_getElem hkl]
      rfl
    rw [take_nextT (xs := LL) (by omega), take_nextT (xs := PP) (by omega), take_nextT (xs := AA) (by omega), el, ep, ea]
    exact ⟨rfl, rfl, rfl⟩
  have HLPA := Lib.hid (And.intro hLL (And.intro hPP hAA))
  clear hlen hlev hcP hLL hPP hAA
  go_wp2_with fail
  go_loopw [15] (fun i wr => ∃ (k : Nat) (v1 v2 v3 : Value), k ≤ n ∧ i = .int .i64 k ∧ Hid (TrSt wA (.slice (some ⟨b0, o0, none⟩) n cap) v1 v2 v3 v1 v2 v3 (LL.take k) (PP.take k) (AA.take k) wr)) (fun i _ => n - (intOf i).toNat)
  case atStart => exact ⟨0, _, _, _, Nat.zero_le _, rfl, HT0⟩
  case round =>
    obtain ⟨k, v1, v2, v3, hk, rfl, HT⟩ := hrel
    clear HT0
    obtain ⟨wo, rfl⟩ : ∃ wo : World, wo = wr := ⟨_, rfl⟩
    by_cases hlt : k < n
    · have hlt' : (k : Int) < (n : Int) := by omega
      have hk0 : (0 : Int) ≤ (k : Int) := by omega
      have hkc : (k : Int) ≤ (cap : Int) := by omega
      obtain ⟨b, o, e, c0, c1, c2, c3⟩ := (HQ.out.row.ext HT.out.x) k (by rw [← HNQ.out]; exact hlt)
      cases e
      obtain ⟨-, -, -, -, ccs⟩ := HT.out.cells
      have lcs := World.block_lt_of_cell? _ _ ccs
      dsimp only at lcs
      have HLK2 : Hid (∀ (w' : World) (j : Nat), wA.Ext w' → j < n → (Instr.lookup 229 (.map (some (qs.getD j nd0).2.2.2)) (.agg #[.int .i64 (qs.getD k nd0).2.1, .int .i64 (qs.getD k nd0).2.2.1]) false).run Try.prog w' = .ok (.bool (cnB W H l (qs.getD j nd0).1 ((nodeL W H l).getD j (0, 0)).2 ((nodeL W H l).getD k (0, 0)).2)) w') := fun w' j hx hj => HLK.out w' j k hx hj hlt
      have HLN2 := Lib.hid (fun w' hx => HLN.out w' k hx hlt)
      have HNX2 := Lib.hid (HNXT.out k hlt)
      have hlevk := HLV.out k
      rw [← hlevk] at c0
      have HLVK := Lib.hid hlevk
      clear hlevk
      generalize (qs.getD k nd0).2.1 = xk at *
      generalize (qs.getD k nd0).2.2.1 = yk at *
      generalize (qs.getD k nd0).2.2.2 = mk at *
      have HN6 := Lib.hid (TrN.start HT.out (lev k) xk yk mk)
      have hb6 : wo.heap.size < (wo.alloc (.cells #[.int .i64 (lev k), .int .i64 xk, .int .i64 yk, .map (some mk)] 243)).heap.size := by simp
      clear HT
      go_wp2_with fail
      go_loopw [7, 24] (fun q i wr => ∃ j : Nat, j ≤ k ∧ i = .int .i64 j ∧ q = .int .i64 (lastW (cP k) j) ∧ Hid (TrN wA (.slice (some ⟨b0, o0, none⟩) n cap) v1 v2 v3 v1 v2 v3 (LL.take k) (PP.take k) (AA.take k) wo.heap.size (lev k) xk yk mk wr)) (fun _ i _ => k - (intOf i).toNat)
      case atStart => exact ⟨0, Nat.zero_le _, rfl, rfl, HN6⟩
      case round =>
        clear c0 c1 c2 c3 ccs lcs hb6 HN6
        obtain ⟨j, hj, rfl, rfl, HT⟩ := hrel
        obtain ⟨wi, rfl⟩ : ∃ wi : World, wi = wr := ⟨_, rfl⟩
        by_cases hltj : j < k
        · have hltj' : (j : Int) < (k : Int) := by omega
          have hj0 : (0 : Int) ≤ (j : Int) := by omega
          obtain ⟨b, o, e, c0, c1, c2, c3⟩ := (HQ.out.row.ext HT.out.st.x) j (by rw [← HNQ.out]; omega)
          cases e
          obtain ⟨f0, f1, f2, f3⟩ := HT.out.nbx.cells
          have lf := HT.out.nbx.lt
          have hlk := HLK2.out (wi.alloc (.cells #[.int .i64 (lev j), .int .i64 (qs.getD j nd0).2.1, .int .i64 (qs.getD j nd0).2.2.1, .map (some (qs.getD j nd0).2.2.2)] 243)) j (HT.out.st.x.trans (by repeat (first | exact World.Ext.refl _ | exact ⟨_, rfl⟩ | assumption | refine World.Ext.over ?_ _ | refine World.Ext.drewN ?_ _ | refine World.Ext.drew ?_ | refine World.Ext.alloc ?_ _ | refine World.Ext.setCell ?_ (by simp) _))) (by omega)
          have hcp := HCP.out k j
          rw [← HLV.out j] at c0 hlk hcp
          have HS : Hid (lastW (cP k) (j + 1) = if cP k j = true then (j : Int) else lastW (cP k) j) := rfl
          have HT2 := Lib.hid (HT.out.ext (w' := wi.alloc (.cells #[.int .i64 (lev j), .int .i64 (qs.getD j nd0).2.1, .int .i64 (qs.getD j nd0).2.2.1, .map (some (qs.getD j nd0).2.2.2)] 243)) (by repeat (first | exact World.Ext.refl _ | exact ⟨_, rfl⟩ | assumption | refine World.Ext.over ?_ _ | refine World.Ext.drewN ?_ _ | refine World.Ext.drew ?_ | refine World.Ext.alloc ?_ _ | refine World.Ext.setCell ?_ (by simp) _)))
          clear HT
          generalize (qs.getD j nd0).2.1 = xj at *
          generalize (qs.getD j nd0).2.2.1 = yj at *
          generalize (qs.getD j nd0).2.2.2 = mj at *
          generalize cnB W H l (lev j) ((nodeL W H l).getD j (0, 0)).2 ((nodeL W H l).getD k (0, 0)).2 = cb at *
          generalize lastW (cP k) j = lw at *
          by_cases hlv : lev j < lev k
          · rw [decide_eq_true hlv, Bool.true_and] at hcp
            rw [hcp] at HS
            clear hcp
            generalize lev j = tj at *
            generalize lev k = tk at *
            cases cb
            · have HS2 : Hid (lastW (cP k) (j + 1) = lw) := by rw [if_neg (by simp)] at HS; exact HS
              clear HS
              go_wp2
              go_roundw
              case rel => exact ⟨j + 1, by omega, by go_num, by rw [HS2.out], HT2⟩
              case measure => simp [intOf]; omega
            · have HS2 : Hid (lastW (cP k) (j + 1) = (j : Int)) := by rw [if_pos rfl] at HS; exact HS
              clear HS
              go_wp2
              go_roundw
              case rel => exact ⟨j + 1, by omega, by go_num, by rw [HS2.out], HT2⟩
              case measure => simp [intOf]; omega
          · rw [decide_eq_false hlv, Bool.false_and] at hcp
            rw [hcp] at HS
            clear hcp
            generalize lev j = tj at *
            generalize lev k = tk at *
            have hd : decide (tj < tk) = false := decide_eq_false hlv
            have HS2 : Hid (lastW (cP k) (j + 1) = lw) := by rw [if_neg (by simp)] at HS; exact HS
            clear HS
            go_wp2
            go_roundw
            case rel => exact ⟨j + 1, by omega, by go_num, by rw [HS2.out], HT2⟩
            case measure => simp [intOf]; omega
        · have hjk : j = k := by omega
          subst hjk
          obtain ⟨f0, f1, f2, f3⟩ := HT.out.nbx.cells
          have lf := HT.out.nbx.lt
          obtain ⟨g0, g1, g2, -, -⟩ := HT.out.st.cells
          have hjl : (LL.take j).length = j ∧ (PP.take j).length = j ∧ (AA.take j).length = j := by
            obtain ⟨q1, q2, q3⟩ := HLEN.out
            rw [List.length_take, List.length_take, List.length_take]
            omega
          obtain ⟨a1, k1, e, -⟩ := World.ownsRow.form HT.out.st.o1
          rw [hjl.1] at e
          subst e
          obtain ⟨a2, k2, e, -⟩ := World.ownsRow.form HT.out.st.o2
          rw [hjl.2.1] at e
          subst e
          obtain ⟨a3, k3, e, -⟩ := World.ownsRow.form HT.out.st.o3
          rw [hjl.2.2] at e
          subst e
          have HO1 : Hid (wi.ownsRow (wA.heap.size + 2) 2 1 (.slice a1 j k1) j ((LL.take j).map iv)) := by
            have h : wi.ownsRow (wA.heap.size + 2) 2 1 (.slice a1 j k1) (LL.take j).length ((LL.take j).map iv) := HT.out.st.o1
            rw [hjl.1] at h
            exact h
          have HA1 : Hid (∀ (wa w1 : World) (v' : Value), wi.Ext wa → wa.grownBy w1 (Value.slice a1 j k1).ownBlock → w1.ownsRow (wA.heap.size + 2) 2 1 v' (j + 1) ((LL.take j).map iv ++ [.int .i64 (lev j)]) → (v'.ownBlock = (Value.slice a1 j k1).ownBlock ∨ v'.ownBlock = some wa.heap.size) →
              TrN wA (.slice (some ⟨b0, o0, none⟩) n cap) (.slice a1 j k1) (.slice a2 j k2) (.slice a3 j k3) v' (.slice a2 j k2) (.slice a3 j k3) (LL.take (j + 1)) (PP.take j) (AA.take j) wo.heap.size (lev j) xk yk mk w1 ∧ (∀ (q i : Nat) (z : Value), wi.heap.size ≤ q → wa.cell? ⟨q, i, none⟩ = some z → w1.cell? ⟨q, i, none⟩ = some z) ∧ w1.ownsRow (wA.heap.size + 2) 2 1 (.slice a2 j k2) j ((PP.take j).map iv)) := fun wa w1 v' hx hg ho hat => by
            have h := HT.out.push1 hx hg (by rw [hjl.1]; exact ho) hat
            rw [(HNX2.out).1]
            refine ⟨h, fun q i z hq hz => hg.cell hz fun e => ?_, ?_⟩
            · have := (GrI.lt HT.out.st.o1 e.symm).2
              dsimp only at this
              omega
            · have h2 : w1.ownsRow (wA.heap.size + 2) 2 1 (.slice a2 j k2) (PP.take j).length ((PP.take j).map iv) := h.st.o2
              rw [hjl.2.1] at h2
              exact h2
          have HA2 : Hid (∀ (w5 wa w1 : World) (v5 v' : Value), TrN wA (.slice (some ⟨b0, o0, none⟩) n cap) (.slice a1 j k1) (.slice a2 j k2) (.slice a3 j k3) v5 (.slice a2 j k2) (.slice a3 j k3) (LL.take (j + 1)) (PP.take j) (AA.take j) wo.heap.size (lev j) xk yk mk w5 → w5.Ext wa → wa.grownBy w1 (Value.slice a2 j k2).ownBlock → w1.ownsRow (wA.heap.size + 2) 2 1 v' (j + 1) ((PP.take j).map iv ++ [.int .i64 (lastW (cP j) j)]) → (v'.ownBlock = (Value.slice a2 j k2).ownBlock ∨ v'.ownBlock = some wa.heap.size) →
              TrN wA (.slice (some ⟨b0, o0, none⟩) n cap) (.slice a1 j k1) (.slice a2 j k2) (.slice a3 j k3) v5 v' (.slice a3 j k3) (LL.take (j + 1)) (PP.take (j + 1)) (AA.take j) wo.heap.size (lev j) xk yk mk w1) := fun w5 wa w1 v5 v' h hx hg ho hat => by
            have h := h.push2 hx hg (by rw [hjl.2.1]; exact ho) hat
            rw [(HNX2.out).2.1]
            exact h
          have hlo : wA.heap.size + 2 ≤ wi.heap.size := Nat.le_trans HT.out.lo (Nat.le_of_lt lf)
          have HLO : Hid (∀ w' : World, wi.Ext w' → wA.heap.size + 2 ≤ w'.heap.size) := fun w' hx => Nat.le_trans hlo hx.size
          have HB1 : Hid (j + 1 ≤ maxLen) := by show _ ≤ _; unfold maxLen; omega
          have HB2 : Hid ((j + 1) * 8 ≤ 140737488355328) := by show _ ≤ _; omega
          have HTJ := Lib.hid hjl
          have HTK : Hid ((LL.take (j + 1)).length = j + 1 ∧ (PP.take (j + 1)).length = j + 1 ∧ (AA.take (j + 1)).length = j + 1) := by
            obtain ⟨q1, q2, q3⟩ := HLEN.out
            show _ ∧ _ ∧ _
            rw [List.length_take, List.length_take, List.length_take]
            omega
          clear hjl hlo g2 HT
          go_upto_region 12 with fail
          go_cut [48] (fun u48 WX => ∃ v' v6, u48 = v' ∧ Hid (TrN wA (.slice (some ⟨b0, o0, none⟩) n cap) v' v6 (.slice a3 j k3) v' v6 (.slice a3 j k3) (LL.take (j + 1)) (PP.take (j + 1)) (AA.take j) wo.heap.size (lev j) xk yk mk WX))
          case first =>
            refine wp_region_cut 12 (by kernel_rfl) (by kernel_rfl) (by kernel_rfl) (by kernel_rfl) (by simp) (by kernel_rfl) ?_
            simp only [List.take_succ_cons, List.take_zero, List.drop_succ_cons, List.drop_zero]
            change wpAny _ _ _ _ _ _ _ (World.drew _)
            refine wpAny_of_held (S := fun w' => w'.cell? ⟨wA.heap.size, 0, none⟩ = some (.slice a1 j k1) ∧ w'.cell? ⟨wA.heap.size, 1, none⟩ = some (.slice a2 j k2) ∧ w'.cell? ⟨wo.heap.size, 0, none⟩ = some (.int .i64 (lev j))) _ _ _ _ ?_
            have hHeld : (wi.drew.cell? ⟨wA.heap.size, 0, none⟩ = some (.slice a1 j k1) ∧ wi.drew.cell? ⟨wA.heap.size, 1, none⟩ = some (.slice a2 j k2) ∧ wi.drew.cell? ⟨wo.heap.size, 0, none⟩ = some (.int .i64 (lev j))) := ⟨g0, g1, f0⟩
            (refine' wpAnyH_take (i := 0) (oi := { dst := some 43, op := Op.fieldAddr 200 (Operand.tmp 3) 0, type := 0, pos := "l07_grey.go:145", after := #[], guard := none }) (v := _) rfl (by kernel_rfl) (by kernel_rfl) (by kernel_rfl) (fun _ _ _ h => h) (Or.inl ⟨by rfl, ?hy0t⟩) (by assumption) ?rest0t; (case hy0t => (intro w hSw; (try dsimp only at hSw); go_simp; (try with_reducible rfl))); (try simp only [Act.put, List.setIfInBounds_toArray, List.set_cons_succ, List.set_cons_zero]))
            (refine' wpAnyH_take (i := 1) (oi := { dst := some 44, op := Op.load 41 (Operand.tmp 43), type := 41, pos := "l07_grey.go:145", after := #[{ on := 0, ground := Ground.data }], guard := none }) (v := _) rfl (by kernel_rfl) (by kernel_rfl) (by kernel_rfl) (fun _ _ _ h => h) (Or.inl ⟨by rfl, ?hy1t⟩) (by assumption) ?rest1t; (case hy1t => (intro w hSw; (try dsimp only at hSw); go_simp; (try with_reducible rfl))); (try simp only [Act.put, List.setIfInBounds_toArray, List.set_cons_succ, List.set_cons_zero]))
            (refine' wpAnyH_take (i := 2) (oi := { dst := some 45, op := Op.fieldAddr 243 (Operand.tmp 6) 0, type := 0, pos := "l07_grey.go:145", after := #[], guard := none }) (v := _) rfl (by kernel_rfl) (by kernel_rfl) (by kernel_rfl) (fun _ _ _ h => h) (Or.inl ⟨by rfl, ?hy2t⟩) (by assumption) ?rest2t; (case hy2t => (intro w hSw; (try dsimp only at hSw); go_simp; (try with_reducible rfl))); (try simp only [Act.put, List.setIfInBounds_toArray, List.set_cons_succ, List.set_cons_zero]))
            (refine' wpAnyH_take (i := 3) (oi := { dst := some 46, op := Op.load 2 (Operand.tmp 45), type := 2, pos := "l07_grey.go:145", after := #[{ on := 2, ground := Ground.data }], guard := none }) (v := _) rfl (by kernel_rfl) (by kernel_rfl) (by kernel_rfl) (fun _ _ _ h => h) (Or.inl ⟨by rfl, ?hy3t⟩) (by assumption) ?rest3t; (case hy3t => (intro w hSw; (try dsimp only at hSw); go_simp; (try with_reducible rfl))); (try simp only [Act.put, List.setIfInBounds_toArray, List.set_cons_succ, List.set_cons_zero]))
            (refine' wpAnyH_take (i := 6) (oi := { dst := some 49, op := Op.fieldAddr 200 (Operand.tmp 3) 1, type := 0, pos := "l07_grey.go:145", after := #[], guard := none }) (v := _) rfl (by kernel_rfl) (by kernel_rfl) (by kernel_rfl) (fun _ _ _ h => h) (Or.inl ⟨by rfl, ?hy6t⟩) (by assumption) ?rest6t; (case hy6t => (intro w hSw; (try dsimp only at hSw); go_simp; (try with_reducible rfl))); (try simp only [Act.put, List.setIfInBounds_toArray, List.set_cons_succ, List.set_cons_zero]))
            (refine' wpAnyH_take (i := 7) (oi := { dst := some 50, op := Op.load 41 (Operand.tmp 49), type := 41, pos := "l07_grey.go:145", after := #[{ on := 6, ground := Ground.data }], guard := none }) (v := _) rfl (by kernel_rfl) (by kernel_rfl) (by kernel_rfl) (fun _ _ _ h => h) (Or.inl ⟨by rfl, ?hy7t⟩) (by assumption) ?rest7t; (case hy7t => (intro w hSw; (try dsimp only at hSw); go_simp; (try with_reducible rfl))); (try simp only [Act.put, List.setIfInBounds_toArray, List.set_cons_succ, List.set_cons_zero]))
            (refine' wpAnyH_take (i := 8) (oi := { dst := some 51, op := Op.move (Operand.tmp 7), type := 2, pos := "l07_grey.go:145", after := #[], guard := none }) (v := _) rfl (by kernel_rfl) (by kernel_rfl) (by kernel_rfl) (fun _ _ _ h => h) (Or.inl ⟨by rfl, ?hy8t⟩) (by assumption) ?rest8t; (case hy8t => (intro w hSw; (try dsimp only at hSw); go_simp; (try with_reducible rfl))); (try simp only [Act.put, List.setIfInBounds_toArray, List.set_cons_succ, List.set_cons_zero]))
            clear hHeld
            refine wpAnyH_ready (rs := [4, 9]) (by kernel_rfl) (by simp) ?_
            refine AllReadyH.cons (o := { dst := some 47, op := Op.buildSlice 41 1 #[(0, Operand.tmp 46)], type := 41, pos := "l07_grey.go:145", after := #[{ on := 3, ground := Ground.data }], guard := none }) rfl (fun K hK => ?_) ?_
            · go_simp
              refine hK.out _ _ ⟨World.Ext.cell (by repeat (first | exact World.Ext.refl _ | exact ⟨_, rfl⟩ | assumption | refine World.Ext.over ?_ _ | refine World.Ext.drewN ?_ _ | refine World.Ext.drew ?_ | refine World.Ext.alloc ?_ _ | refine World.Ext.setCell ?_ (by simp) _)) g0, World.Ext.cell (by repeat (first | exact World.Ext.refl _ | exact ⟨_, rfl⟩ | assumption | refine World.Ext.over ?_ _ | refine World.Ext.drewN ?_ _ | refine World.Ext.drew ?_ | refine World.Ext.alloc ?_ _ | refine World.Ext.setCell ?_ (by simp) _)) g1, World.Ext.cell (by repeat (first | exact World.Ext.refl _ | exact ⟨_, rfl⟩ | assumption | refine World.Ext.over ?_ _ | refine World.Ext.drewN ?_ _ | refine World.Ext.drew ?_ | refine World.Ext.alloc ?_ _ | refine World.Ext.setCell ?_ (by simp) _)) f0⟩ (fun hHeld => ?_)
              clear hK K hHeld
              (try simp only [Act.put, List.setIfInBounds_toArray, List.set_cons_succ, List.set_cons_zero])
              refine wpAnyH_ready (rs := [5, 9]) (by kernel_rfl) (by simp) ?_
              refine AllReadyH.cons (o := { dst := some 48, op := Op.call { callee := Callee.builtin Builtin.append, args := #[Operand.tmp 44, Operand.tmp 47], argTypes := #[41, 41] }, type := 41, pos := "l07_grey.go:145", after := #[{ on := 1, ground := Ground.data }, { on := 4, ground := Ground.data }], guard := none }) rfl (fun K hK => ?_) ?_
              · refine step_append_mine rfl _ _ 41 rfl (wA.heap.size + 2) 2 i0 (.int .i64 0) 1 8 Try.underlying41 hi hz0 hz1 hz2 rfl (by decide) (.slice a1 j k1) j _ rfl (World.ownsRow.ext HO1.out (by repeat (first | exact World.Ext.refl _ | exact ⟨_, rfl⟩ | assumption | refine World.Ext.over ?_ _ | refine World.Ext.drewN ?_ _ | refine World.Ext.drew ?_ | refine World.Ext.alloc ?_ _ | refine World.Ext.setCell ?_ (by simp) _))) _ 1 1 [.int .i64 (lev j)] rfl rfl (by first | (refine cell_one_at ?_ <;> (simp; done)) | (intro q u hu; refine World.Ext.cell ?_ (cell_one_at (e := 2) rfl q u hu) <;> ((repeat (first | exact World.Ext.refl _ | exact ⟨_, rfl⟩ | assumption | refine World.Ext.over ?_ _ | refine World.Ext.drewN ?_ _ | refine World.Ext.drew ?_ | refine World.Ext.alloc ?_ _ | refine World.Ext.setCell ?_ ?_ _ | (simp; done))); done))) (by simp [Value.oneCell']) HB1.out HB2.out (HLO.out _ (by repeat (first | exact World.Ext.refl _ | exact ⟨_, rfl⟩ | assumption | refine World.Ext.over ?_ _ | refine World.Ext.drewN ?_ _ | refine World.Ext.drew ?_ | refine World.Ext.alloc ?_ _ | refine World.Ext.setCell ?_ (by simp) _))) (fun v' w5 hown5 hgrow hat => ?_)
                obtain ⟨ht5, hc5, ho5⟩ := HA1.out _ _ _ (by repeat (first | exact World.Ext.refl _ | exact ⟨_, rfl⟩ | assumption | refine World.Ext.over ?_ _ | refine World.Ext.drewN ?_ _ | refine World.Ext.drew ?_ | refine World.Ext.alloc ?_ _ | refine World.Ext.setCell ?_ (by simp) _)) hgrow hown5 hat
                obtain ⟨g0, g1, -, -, -⟩ := ht5.st.cells
                obtain ⟨f0, -, -, -⟩ := ht5.nbx.cells
                have HT5 := Lib.hid ht5
                have HC5 := Lib.hid hc5
                have HO2 := Lib.hid ho5
                have HLO5 : Hid (∀ w' : World, w5.Ext w' → wA.heap.size + 2 ≤ w'.heap.size) := fun w' hx => Nat.le_trans (Nat.le_trans HT5.out.lo (Nat.le_of_lt HT5.out.nbx.lt)) hx.size
                clear ht5 hc5 ho5 hgrow hown5 hat
                refine hK.out _ _ ⟨g0, g1, f0⟩ (fun hHeld => ?_)
                clear hK K
                (try simp only [Act.put, List.setIfInBounds_toArray, List.set_cons_succ, List.set_cons_zero])
                (refine' wpAnyH_take (i := 11) (oi := { dst := some 54, op := Op.fieldAddr 200 (Operand.tmp 3) 0, type := 0, pos := "l07_grey.go:145", after := #[{ on := 0, ground := Ground.phase }, { on := 1, ground := Ground.phase }, { on := 2, ground := Ground.phase }, { on := 3, ground := Ground.phase }, { on := 4, ground := Ground.phase }, { on := 5, ground := Ground.phase }, { on := 6, ground := Ground.phase }, { on := 7, ground := Ground.phase }, { on := 8, ground := Ground.textOnly Departure.lateStores }, { on := 9, ground := Ground.textOnly Departure.lateStores }, { on := 10, ground := Ground.textOnly Departure.lateStoresUnsure }], guard := none }) (v := _) rfl (by kernel_rfl) (by kernel_rfl) (by kernel_rfl) (fun _ _ _ h => h) (Or.inl ⟨by rfl, ?hy11q1⟩) (by assumption) ?rest11q1; (case hy11q1 => (intro w hSw; (try dsimp only at hSw); go_simp; (try with_reducible rfl))); (try simp only [Act.put, List.setIfInBounds_toArray, List.set_cons_succ, List.set_cons_zero]))
                clear hHeld
                refine wpAnyH_ready (rs := [9]) (by kernel_rfl) (by simp) ?_
                refine AllReadyH.cons (o := { dst := some 52, op := Op.buildSlice 41 1 #[(0, Operand.tmp 51)], type := 41, pos := "l07_grey.go:145", after := #[{ on := 8, ground := Ground.data }], guard := none }) rfl (fun K hK => ?_) ?_
                · go_simp
                  refine hK.out _ _ ⟨World.Ext.cell (by repeat (first | exact World.Ext.refl _ | exact ⟨_, rfl⟩ | assumption | refine World.Ext.over ?_ _ | refine World.Ext.drewN ?_ _ | refine World.Ext.drew ?_ | refine World.Ext.alloc ?_ _ | refine World.Ext.setCell ?_ (by simp) _)) g0, World.Ext.cell (by repeat (first | exact World.Ext.refl _ | exact ⟨_, rfl⟩ | assumption | refine World.Ext.over ?_ _ | refine World.Ext.drewN ?_ _ | refine World.Ext.drew ?_ | refine World.Ext.alloc ?_ _ | refine World.Ext.setCell ?_ (by simp) _)) g1, World.Ext.cell (by repeat (first | exact World.Ext.refl _ | exact ⟨_, rfl⟩ | assumption | refine World.Ext.over ?_ _ | refine World.Ext.drewN ?_ _ | refine World.Ext.drew ?_ | refine World.Ext.alloc ?_ _ | refine World.Ext.setCell ?_ (by simp) _)) f0⟩ (fun hHeld => ?_)
                  clear hK K hHeld
                  (try simp only [Act.put, List.setIfInBounds_toArray, List.set_cons_succ, List.set_cons_zero])
                  refine wpAnyH_ready (rs := [10]) (by kernel_rfl) (by simp) ?_
                  refine AllReadyH.cons (o := { dst := some 53, op := Op.call { callee := Callee.builtin Builtin.append, args := #[Operand.tmp 50, Operand.tmp 52], argTypes := #[41, 41] }, type := 41, pos := "l07_grey.go:145", after := #[{ on := 7, ground := Ground.data }, { on := 9, ground := Ground.data }, { on := 5, ground := Ground.chain }], guard := none }) rfl (fun K hK => ?_) ?_
                  · refine step_append_mine rfl _ _ 41 rfl (wA.heap.size + 2) 2 i0 (.int .i64 0) 1 8 Try.underlying41 hi hz0 hz1 hz2 rfl (by decide) (.slice a2 j k2) j _ rfl (World.ownsRow.ext HO2.out (by repeat (first | exact World.Ext.refl _ | exact ⟨_, rfl⟩ | assumption | refine World.Ext.over ?_ _ | refine World.Ext.drewN ?_ _ | refine World.Ext.drew ?_ | refine World.Ext.alloc ?_ _ | refine World.Ext.setCell ?_ (by simp) _))) _ 1 1 [.int .i64 (lastW (cP j) j)] rfl rfl (by first | (refine cell_one_at ?_ <;> (simp; done)) | (intro q u hu; rw [Addr.add_mk]; refine HC5.out _ _ _ ?_ ?_; (first | omega | (simp; omega)); rw [← Addr.add_mk]; first | (refine cell_one_at ?_ q u hu <;> (simp; done)) | (refine World.Ext.cell ?_ (cell_one_at (e := 2) rfl q u hu) <;> ((repeat (first | exact World.Ext.refl _ | exact ⟨_, rfl⟩ | assumption | refine World.Ext.over ?_ _ | refine World.Ext.drewN ?_ _ | refine World.Ext.drew ?_ | refine World.Ext.alloc ?_ _ | refine World.Ext.setCell ?_ ?_ _ | (simp; done))); done)))) (by simp [Value.oneCell']) HB1.out HB2.out (HLO5.out _ (by repeat (first | exact World.Ext.refl _ | exact ⟨_, rfl⟩ | assumption | refine World.Ext.over ?_ _ | refine World.Ext.drewN ?_ _ | refine World.Ext.drew ?_ | refine World.Ext.alloc ?_ _ | refine World.Ext.setCell ?_ (by simp) _))) (fun v6 w6 hown6 hgrow6 hat6 => ?_)
                    have ht6 := HA2.out _ _ _ _ _ HT5.out (by repeat (first | exact World.Ext.refl _ | exact ⟨_, rfl⟩ | assumption | refine World.Ext.over ?_ _ | refine World.Ext.drewN ?_ _ | refine World.Ext.drew ?_ | refine World.Ext.alloc ?_ _ | refine World.Ext.setCell ?_ (by simp) _)) hgrow6 hown6 hat6
                    obtain ⟨a4, k4, e, -⟩ := World.ownsRow.form ht6.st.o1
                    rw [HTK.out.1] at e
                    subst e
                    obtain ⟨a5, k5, e, -⟩ := World.ownsRow.form ht6.st.o2
                    rw [HTK.out.2.1] at e
                    subst e
                    obtain ⟨g0, g1, -, -, -⟩ := ht6.st.cells
                    obtain ⟨f0, -, -, -⟩ := ht6.nbx.cells
                    have fr := fun i => ht6.st.free i
                    have lg := World.block_lt_of_cell? _ _ g0
                    have g1' : (w6.setCell ⟨wA.heap.size, 0, none⟩ (.slice a4 (j + 1) k4)).cell? ⟨wA.heap.size, 1, none⟩ = some (.slice a2 j k2) := (ht6.put1 (.slice a4 (j + 1) k4)).st.cells.2.1
                    have fr' : (w6.setCell ⟨wA.heap.size, 0, none⟩ (.slice a4 (j + 1) k4)).frozen? ⟨wA.heap.size, 1, none⟩ = false := (ht6.put1 (.slice a4 (j + 1) k4)).st.free 1
                    have f0_ := fr 0
                    have HT6 := Lib.hid ((ht6.put1 (.slice a4 (j + 1) k4)).put2 (.slice a5 (j + 1) k5))
                    clear ht6 hgrow6 hown6 hat6 fr
                    refine hK.out _ _ ⟨g0, g1, f0⟩ (fun hHeld => ?_)
                    clear hK K hHeld
                    (try simp only [Act.put, List.setIfInBounds_toArray, List.set_cons_succ, List.set_cons_zero])
                    refine wpAnyH_done (by kernel_rfl) ?_ _
                    show wpList _ _ _ _ _ _
                    go_wp2_with fail
                    go_meet
                    exact ⟨_, _, rfl, HT6⟩
                  · exact AllReadyH.nil
                · exact AllReadyH.nil
              refine AllReadyH.cons (o := { dst := some 52, op := Op.buildSlice 41 1 #[(0, Operand.tmp 51)], type := 41, pos := "l07_grey.go:145", after := #[{ on := 8, ground := Ground.data }], guard := none }) rfl (fun K hK => ?_) ?_
              · go_simp
                refine hK.out _ _ ⟨World.Ext.cell (by repeat (first | exact World.Ext.refl _ | exact ⟨_, rfl⟩ | assumption | refine World.Ext.over ?_ _ | refine World.Ext.drewN ?_ _ | refine World.Ext.drew ?_ | refine World.Ext.alloc ?_ _ | refine World.Ext.setCell ?_ (by simp) _)) g0, World.Ext.cell (by repeat (first | exact World.Ext.refl _ | exact ⟨_, rfl⟩ | assumption | refine World.Ext.over ?_ _ | refine World.Ext.drewN ?_ _ | refine World.Ext.drew ?_ | refine World.Ext.alloc ?_ _ | refine World.Ext.setCell ?_ (by simp) _)) g1, World.Ext.cell (by repeat (first | exact World.Ext.refl _ | exact ⟨_, rfl⟩ | assumption | refine World.Ext.over ?_ _ | refine World.Ext.drewN ?_ _ | refine World.Ext.drew ?_ | refine World.Ext.alloc ?_ _ | refine World.Ext.setCell ?_ (by simp) _)) f0⟩ (fun hHeld => ?_)
                clear hK K hHeld
                (try simp only [Act.put, List.setIfInBounds_toArray, List.set_cons_succ, List.set_cons_zero])
                refine wpAnyH_ready (rs := [5]) (by kernel_rfl) (by simp) ?_
                refine AllReadyH.cons (o := { dst := some 48, op := Op.call { callee := Callee.builtin Builtin.append, args := #[Operand.tmp 44, Operand.tmp 47], argTypes := #[41, 41] }, type := 41, pos := "l07_grey.go:145", after := #[{ on := 1, ground := Ground.data }, { on := 4, ground := Ground.data }], guard := none }) rfl (fun K hK => ?_) ?_
                · refine step_append_mine rfl _ _ 41 rfl (wA.heap.size + 2) 2 i0 (.int .i64 0) 1 8 Try.underlying41 hi hz0 hz1 hz2 rfl (by decide) (.slice a1 j k1) j _ rfl (World.ownsRow.ext HO1.out (by repeat (first | exact World.Ext.refl _ | exact ⟨_, rfl⟩ | assumption | refine World.Ext.over ?_ _ | refine World.Ext.drewN ?_ _ | refine World.Ext.drew ?_ | refine World.Ext.alloc ?_ _ | refine World.Ext.setCell ?_ (by simp) _))) _ 1 1 [.int .i64 (lev j)] rfl rfl (by first | (refine cell_one_at ?_ <;> (simp; done)) | (intro q u hu; refine World.Ext.cell ?_ (cell_one_at (e := 2) rfl q u hu) <;> ((repeat (first | exact World.Ext.refl _ | exact ⟨_, rfl⟩ | assumption | refine World.Ext.over ?_ _ | refine World.Ext.drewN ?_ _ | refine World.Ext.drew ?_ | refine World.Ext.alloc ?_ _ | refine World.Ext.setCell ?_ ?_ _ | (simp; done))); done))) (by simp [Value.oneCell']) HB1.out HB2.out (HLO.out _ (by repeat (first | exact World.Ext.refl _ | exact ⟨_, rfl⟩ | assumption | refine World.Ext.over ?_ _ | refine World.Ext.drewN ?_ _ | refine World.Ext.drew ?_ | refine World.Ext.alloc ?_ _ | refine World.Ext.setCell ?_ (by simp) _))) (fun v' w5 hown5 hgrow hat => ?_)
                  obtain ⟨ht5, hc5, ho5⟩ := HA1.out _ _ _ (by repeat (first | exact World.Ext.refl _ | exact ⟨_, rfl⟩ | assumption | refine World.Ext.over ?_ _ | refine World.Ext.drewN ?_ _ | refine World.Ext.drew ?_ | refine World.Ext.alloc ?_ _ | refine World.Ext.setCell ?_ (by simp) _)) hgrow hown5 hat
                  obtain ⟨g0, g1, -, -, -⟩ := ht5.st.cells
                  obtain ⟨f0, -, -, -⟩ := ht5.nbx.cells
                  have HT5 := Lib.hid ht5
                  have HC5 := Lib.hid hc5
                  have HO2 := Lib.hid ho5
                  have HLO5 : Hid (∀ w' : World, w5.Ext w' → wA.heap.size + 2 ≤ w'.heap.size) := fun w' hx => Nat.le_trans (Nat.le_trans HT5.out.lo (Nat.le_of_lt HT5.out.nbx.lt)) hx.size
                  clear ht5 hc5 ho5 hgrow hown5 hat
                  refine hK.out _ _ ⟨g0, g1, f0⟩ (fun hHeld => ?_)
                  clear hK K
                  (try simp only [Act.put, List.setIfInBounds_toArray, List.set_cons_succ, List.set_cons_zero])
                  (refine' wpAnyH_take (i := 11) (oi := { dst := some 54, op := Op.fieldAddr 200 (Operand.tmp 3) 0, type := 0, pos := "l07_grey.go:145", after := #[{ on := 0, ground := Ground.phase }, { on := 1, ground := Ground.phase }, { on := 2, ground := Ground.phase }, { on := 3, ground := Ground.phase }, { on := 4, ground := Ground.phase }, { on := 5, ground := Ground.phase }, { on := 6, ground := Ground.phase }, { on := 7, ground := Ground.phase }, { on := 8, ground := Ground.textOnly Departure.lateStores }, { on := 9, ground := Ground.textOnly Departure.lateStores }, { on := 10, ground := Ground.textOnly Departure.lateStoresUnsure }], guard := none }) (v := _) rfl (by kernel_rfl) (by kernel_rfl) (by kernel_rfl) (fun _ _ _ h => h) (Or.inl ⟨by rfl, ?hy11q2⟩) (by assumption) ?rest11q2; (case hy11q2 => (intro w hSw; (try dsimp only at hSw); go_simp; (try with_reducible rfl))); (try simp only [Act.put, List.setIfInBounds_toArray, List.set_cons_succ, List.set_cons_zero]))
                  clear hHeld
                  refine wpAnyH_ready (rs := [10]) (by kernel_rfl) (by simp) ?_
                  refine AllReadyH.cons (o := { dst := some 53, op := Op.call { callee := Callee.builtin Builtin.append, args := #[Operand.tmp 50, Operand.tmp 52], argTypes := #[41, 41] }, type := 41, pos := "l07_grey.go:145", after := #[{ on := 7, ground := Ground.data }, { on := 9, ground := Ground.data }, { on := 5, ground := Ground.chain }], guard := none }) rfl (fun K hK => ?_) ?_
                  · refine step_append_mine rfl _ _ 41 rfl (wA.heap.size + 2) 2 i0 (.int .i64 0) 1 8 Try.underlying41 hi hz0 hz1 hz2 rfl (by decide) (.slice a2 j k2) j _ rfl (World.ownsRow.ext HO2.out (by repeat (first | exact World.Ext.refl _ | exact ⟨_, rfl⟩ | assumption | refine World.Ext.over ?_ _ | refine World.Ext.drewN ?_ _ | refine World.Ext.drew ?_ | refine World.Ext.alloc ?_ _ | refine World.Ext.setCell ?_ (by simp) _))) _ 1 1 [.int .i64 (lastW (cP j) j)] rfl rfl (by first | (refine cell_one_at ?_ <;> (simp; done)) | (intro q u hu; rw [Addr.add_mk]; refine HC5.out _ _ _ ?_ ?_; (first | omega | (simp; omega)); rw [← Addr.add_mk]; first | (refine cell_one_at ?_ q u hu <;> (simp; done)) | (refine World.Ext.cell ?_ (cell_one_at (e := 2) rfl q u hu) <;> ((repeat (first | exact World.Ext.refl _ | exact ⟨_, rfl⟩ | assumption | refine World.Ext.over ?_ _ | refine World.Ext.drewN ?_ _ | refine World.Ext.drew ?_ | refine World.Ext.alloc ?_ _ | refine World.Ext.setCell ?_ ?_ _ | (simp; done))); done)))) (by simp [Value.oneCell']) HB1.out HB2.out (HLO5.out _ (by repeat (first | exact World.Ext.refl _ | exact ⟨_, rfl⟩ | assumption | refine World.Ext.over ?_ _ | refine World.Ext.drewN ?_ _ | refine World.Ext.drew ?_ | refine World.Ext.alloc ?_ _ | refine World.Ext.setCell ?_ (by simp) _))) (fun v6 w6 hown6 hgrow6 hat6 => ?_)
                    have ht6 := HA2.out _ _ _ _ _ HT5.out (by repeat (first | exact World.Ext.refl _ | exact ⟨_, rfl⟩ | assumption | refine World.Ext.over ?_ _ | refine World.Ext.drewN ?_ _ | refine World.Ext.drew ?_ | refine World.Ext.alloc ?_ _ | refine World.Ext.setCell ?_ (by simp) _)) hgrow6 hown6 hat6
                    obtain ⟨a4, k4, e, -⟩ := World.ownsRow.form ht6.st.o1
                    rw [HTK.out.1] at e
                    subst e
                    obtain ⟨a5, k5, e, -⟩ := World.ownsRow.form ht6.st.o2
                    rw [HTK.out.2.1] at e
                    subst e
                    obtain ⟨g0, g1, -, -, -⟩ := ht6.st.cells
                    obtain ⟨f0, -, -, -⟩ := ht6.nbx.cells
                    have fr := fun i => ht6.st.free i
                    have lg := World.block_lt_of_cell? _ _ g0
                    have g1' : (w6.setCell ⟨wA.heap.size, 0, none⟩ (.slice a4 (j + 1) k4)).cell? ⟨wA.heap.size, 1, none⟩ = some (.slice a2 j k2) := (ht6.put1 (.slice a4 (j + 1) k4)).st.cells.2.1
                    have fr' : (w6.setCell ⟨wA.heap.size, 0, none⟩ (.slice a4 (j + 1) k4)).frozen? ⟨wA.heap.size, 1, none⟩ = false := (ht6.put1 (.slice a4 (j + 1) k4)).st.free 1
                    have f0_ := fr 0
                    have HT6 := Lib.hid ((ht6.put1 (.slice a4 (j + 1) k4)).put2 (.slice a5 (j + 1) k5))
                    clear ht6 hgrow6 hown6 hat6 fr
                    refine hK.out _ _ ⟨g0, g1, f0⟩ (fun hHeld => ?_)
                    clear hK K hHeld
                    (try simp only [Act.put, List.setIfInBounds_toArray, List.set_cons_succ, List.set_cons_zero])
                    refine wpAnyH_done (by kernel_rfl) ?_ _
                    show wpList _ _ _ _ _ _
                    go_wp2_with fail
                    go_meet
                    exact ⟨_, _, rfl, HT6⟩
                  · exact AllReadyH.nil
                · exact AllReadyH.nil
              · exact AllReadyH.nil
            refine AllReadyH.cons (o := { dst := some 52, op := Op.buildSlice 41 1 #[(0, Operand.tmp 51)], type := 41, pos := "l07_grey.go:145", after := #[{ on := 8, ground := Ground.data }], guard := none }) rfl (fun K hK => ?_) ?_
            · go_simp
              refine hK.out _ _ ⟨World.Ext.cell (by repeat (first | exact World.Ext.refl _ | exact ⟨_, rfl⟩ | assumption | refine World.Ext.over ?_ _ | refine World.Ext.drewN ?_ _ | refine World.Ext.drew ?_ | refine World.Ext.alloc ?_ _ | refine World.Ext.setCell ?_ (by simp) _)) g0, World.Ext.cell (by repeat (first | exact World.Ext.refl _ | exact ⟨_, rfl⟩ | assumption | refine World.Ext.over ?_ _ | refine World.Ext.drewN ?_ _ | refine World.Ext.drew ?_ | refine World.Ext.alloc ?_ _ | refine World.Ext.setCell ?_ (by simp) _)) g1, World.Ext.cell (by repeat (first | exact World.Ext.refl _ | exact ⟨_, rfl⟩ | assumption | refine World.Ext.over ?_ _ | refine World.Ext.drewN ?_ _ | refine World.Ext.drew ?_ | refine World.Ext.alloc ?_ _ | refine World.Ext.setCell ?_ (by simp) _)) f0⟩ (fun hHeld => ?_)
              clear hK K hHeld
              (try simp only [Act.put, List.setIfInBounds_toArray, List.set_cons_succ, List.set_cons_zero])
              refine wpAnyH_ready (rs := [4]) (by kernel_rfl) (by simp) ?_
              refine AllReadyH.cons (o := { dst := some 47, op := Op.buildSlice 41 1 #[(0, Operand.tmp 46)], type := 41, pos := "l07_grey.go:145", after := #[{ on := 3, ground := Ground.data }], guard := none }) rfl (fun K hK => ?_) ?_
              · go_simp
                refine hK.out _ _ ⟨World.Ext.cell (by repeat (first | exact World.Ext.refl _ | exact ⟨_, rfl⟩ | assumption | refine World.Ext.over ?_ _ | refine World.Ext.drewN ?_ _ | refine World.Ext.drew ?_ | refine World.Ext.alloc ?_ _ | refine World.Ext.setCell ?_ (by simp) _)) g0, World.Ext.cell (by repeat (first | exact World.Ext.refl _ | exact ⟨_, rfl⟩ | assumption | refine World.Ext.over ?_ _ | refine World.Ext.drewN ?_ _ | refine World.Ext.drew ?_ | refine World.Ext.alloc ?_ _ | refine World.Ext.setCell ?_ (by simp) _)) g1, World.Ext.cell (by repeat (first | exact World.Ext.refl _ | exact ⟨_, rfl⟩ | assumption | refine World.Ext.over ?_ _ | refine World.Ext.drewN ?_ _ | refine World.Ext.drew ?_ | refine World.Ext.alloc ?_ _ | refine World.Ext.setCell ?_ (by simp) _)) f0⟩ (fun hHeld => ?_)
                clear hK K hHeld
                (try simp only [Act.put, List.setIfInBounds_toArray, List.set_cons_succ, List.set_cons_zero])
                refine wpAnyH_ready (rs := [5]) (by kernel_rfl) (by simp) ?_
                refine AllReadyH.cons (o := { dst := some 48, op := Op.call { callee := Callee.builtin Builtin.append, args := #[Operand.tmp 44, Operand.tmp 47], argTypes := #[41, 41] }, type := 41, pos := "l07_grey.go:145", after := #[{ on := 1, ground := Ground.data }, { on := 4, ground := Ground.data }], guard := none }) rfl (fun K hK => ?_) ?_
                · refine step_append_mine rfl _ _ 41 rfl (wA.heap.size + 2) 2 i0 (.int .i64 0) 1 8 Try.underlying41 hi hz0 hz1 hz2 rfl (by decide) (.slice a1 j k1) j _ rfl (World.ownsRow.ext HO1.out (by repeat (first | exact World.Ext.refl _ | exact ⟨_, rfl⟩ | assumption | refine World.Ext.over ?_ _ | refine World.Ext.drewN ?_ _ | refine World.Ext.drew ?_ | refine World.Ext.alloc ?_ _ | refine World.Ext.setCell ?_ (by simp) _))) _ 1 1 [.int .i64 (lev j)] rfl rfl (by first | (refine cell_one_at ?_ <;> (simp; done)) | (intro q u hu; refine World.Ext.cell ?_ (cell_one_at (e := 2) rfl q u hu) <;> ((repeat (first | exact World.Ext.refl _ | exact ⟨_, rfl⟩ | assumption | refine World.Ext.over ?_ _ | refine World.Ext.drewN ?_ _ | refine World.Ext.drew ?_ | refine World.Ext.alloc ?_ _ | refine World.Ext.setCell ?_ ?_ _ | (simp; done))); done))) (by simp [Value.oneCell']) HB1.out HB2.out (HLO.out _ (by repeat (first | exact World.Ext.refl _ | exact ⟨_, rfl⟩ | assumption | refine World.Ext.over ?_ _ | refine World.Ext.drewN ?_ _ | refine World.Ext.drew ?_ | refine World.Ext.alloc ?_ _ | refine World.Ext.setCell ?_ (by simp) _))) (fun v' w5 hown5 hgrow hat => ?_)
                  obtain ⟨ht5, hc5, ho5⟩ := HA1.out _ _ _ (by repeat (first | exact World.Ext.refl _ | exact ⟨_, rfl⟩ | assumption | refine World.Ext.over ?_ _ | refine World.Ext.drewN ?_ _ | refine World.Ext.drew ?_ | refine World.Ext.alloc ?_ _ | refine World.Ext.setCell ?_ (by simp) _)) hgrow hown5 hat
                  obtain ⟨g0, g1, -, -, -⟩ := ht5.st.cells
                  obtain ⟨f0, -, -, -⟩ := ht5.nbx.cells
                  have HT5 := Lib.hid ht5
                  have HC5 := Lib.hid hc5
                  have HO2 := Lib.hid ho5
                  have HLO5 : Hid (∀ w' : World, w5.Ext w' → wA.heap.size + 2 ≤ w'.heap.size) := fun w' hx => Nat.le_trans (Nat.le_trans HT5.out.lo (Nat.le_of_lt HT5.out.nbx.lt)) hx.size
                  clear ht5 hc5 ho5 hgrow hown5 hat
                  refine hK.out _ _ ⟨g0, g1, f0⟩ (fun hHeld => ?_)
                  clear hK K
                  (try simp only [Act.put, List.setIfInBounds_toArray, List.set_cons_succ, List.set_cons_zero])
                  (refine' wpAnyH_take (i := 11) (oi := { dst := some 54, op := Op.fieldAddr 200 (Operand.tmp 3) 0, type := 0, pos := "l07_grey.go:145", after := #[{ on := 0, ground := Ground.phase }, { on := 1, ground := Ground.phase }, { on := 2, ground := Ground.phase }, { on := 3, ground := Ground.phase }, { on := 4, ground := Ground.phase }, { on := 5, ground := Ground.phase }, { on := 6, ground := Ground.phase }, { on := 7, ground := Ground.phase }, { on := 8, ground := Ground.textOnly Departure.lateStores }, { on := 9, ground := Ground.textOnly Departure.lateStores }, { on := 10, ground := Ground.textOnly Departure.lateStoresUnsure }], guard := none }) (v := _) rfl (by kernel_rfl) (by kernel_rfl) (by kernel_rfl) (fun _ _ _ h => h) (Or.inl ⟨by rfl, ?hy11q3⟩) (by assumption) ?rest11q3; (case hy11q3 => (intro w hSw; (try dsimp only at hSw); go_simp; (try with_reducible rfl))); (try simp only [Act.put, List.setIfInBounds_toArray, List.set_cons_succ, List.set_cons_zero]))
                  clear hHeld
                  refine wpAnyH_ready (rs := [10]) (by kernel_rfl) (by simp) ?_
                  refine AllReadyH.cons (o := { dst := some 53, op := Op.call { callee := Callee.builtin Builtin.append, args := #[Operand.tmp 50, Operand.tmp 52], argTypes := #[41, 41] }, type := 41, pos := "l07_grey.go:145", after := #[{ on := 7, ground := Ground.data }, { on := 9, ground := Ground.data }, { on := 5, ground := Ground.chain }], guard := none }) rfl (fun K hK => ?_) ?_
                  · refine step_append_mine rfl _ _ 41 rfl (wA.heap.size + 2) 2 i0 (.int .i64 0) 1 8 Try.underlying41 hi hz0 hz1 hz2 rfl (by decide) (.slice a2 j k2) j _ rfl (World.ownsRow.ext HO2.out (by repeat (first | exact World.Ext.refl _ | exact ⟨_, rfl⟩ | assumption | refine World.Ext.over ?_ _ | refine World.Ext.drewN ?_ _ | refine World.Ext.drew ?_ | refine World.Ext.alloc ?_ _ | refine World.Ext.setCell ?_ (by simp) _))) _ 1 1 [.int .i64 (lastW (cP j) j)] rfl rfl (by first | (refine cell_one_at ?_ <;> (simp; done)) | (intro q u hu; rw [Addr.add_mk]; refine HC5.out _ _ _ ?_ ?_; (first | omega | (simp; omega)); rw [← Addr.add_mk]; first | (refine cell_one_at ?_ q u hu <;> (simp; done)) | (refine World.Ext.cell ?_ (cell_one_at (e := 2) rfl q u hu) <;> ((repeat (first | exact World.Ext.refl _ | exact ⟨_, rfl⟩ | assumption | refine World.Ext.over ?_ _ | refine World.Ext.drewN ?_ _ | refine World.Ext.drew ?_ | refine World.Ext.alloc ?_ _ | refine World.Ext.setCell ?_ ?_ _ | (simp; done))); done)))) (by simp [Value.oneCell']) HB1.out HB2.out (HLO5.out _ (by repeat (first | exact World.Ext.refl _ | exact ⟨_, rfl⟩ | assumption | refine World.Ext.over ?_ _ | refine World.Ext.drewN ?_ _ | refine World.Ext.drew ?_ | refine World.Ext.alloc ?_ _ | refine World.Ext.setCell ?_ (by simp) _))) (fun v6 w6 hown6 hgrow6 hat6 => ?_)
                    have ht6 := HA2.out _ _ _ _ _ HT5.out (by repeat (first | exact World.Ext.refl _ | exact ⟨_, rfl⟩ | assumption | refine World.Ext.over ?_ _ | refine World.Ext.drewN ?_ _ | refine World.Ext.drew ?_ | refine World.Ext.alloc ?_ _ | refine World.Ext.setCell ?_ (by simp) _)) hgrow6 hown6 hat6
                    obtain ⟨a4, k4, e, -⟩ := World.ownsRow.form ht6.st.o1
                    rw [HTK.out.1] at e
                    subst e
                    obtain ⟨a5, k5, e, -⟩ := World.ownsRow.form ht6.st.o2
                    rw [HTK.out.2.1] at e
                    subst e
                    obtain ⟨g0, g1, -, -, -⟩ := ht6.st.cells
                    obtain ⟨f0, -, -, -⟩ := ht6.nbx.cells
                    have fr := fun i => ht6.st.free i
                    have lg := World.block_lt_of_cell? _ _ g0
                    have g1' : (w6.setCell ⟨wA.heap.size, 0, none⟩ (.slice a4 (j + 1) k4)).cell? ⟨wA.heap.size, 1, none⟩ = some (.slice a2 j k2) := (ht6.put1 (.slice a4 (j + 1) k4)).st.cells.2.1
                    have fr' : (w6.setCell ⟨wA.heap.size, 0, none⟩ (.slice a4 (j + 1) k4)).frozen? ⟨wA.heap.size, 1, none⟩ = false := (ht6.put1 (.slice a4 (j + 1) k4)).st.free 1
                    have f0_ := fr 0
                    have HT6 := Lib.hid ((ht6.put1 (.slice a4 (j + 1) k4)).put2 (.slice a5 (j + 1) k5))
                    clear ht6 hgrow6 hown6 hat6 fr
                    refine hK.out _ _ ⟨g0, g1, f0⟩ (fun hHeld => ?_)
                    clear hK K hHeld
                    (try simp only [Act.put, List.setIfInBounds_toArray, List.set_cons_succ, List.set_cons_zero])
                    refine wpAnyH_done (by kernel_rfl) ?_ _
                    show wpList _ _ _ _ _ _
                    go_wp2_with fail
                    go_meet
                    exact ⟨_, _, rfl, HT6⟩
                  · exact AllReadyH.nil
                · exact AllReadyH.nil
              · exact AllReadyH.nil
            · exact AllReadyH.nil
          case rest =>
            obtain ⟨wc2, rfl⟩ : ∃ z : World, z = wc := ⟨_, rfl⟩
            obtain ⟨v1', v2', rfl, HT⟩ := hcut
            clear g0 g1 f0 f1 f2 f3 lf HO1 HA1 HA2 HLO
            obtain ⟨f0, f1, f2, f3⟩ := HT.out.nbx.cells
            have lf := HT.out.nbx.lt
            obtain ⟨-, -, g2, -, -⟩ := HT.out.st.cells
            have lg := World.block_lt_of_cell? _ _ g2
            have fr := HT.out.st.free 2
            have HO3 : Hid (wc2.ownsRow (wA.heap.size + 2) 2 1 (.slice a3 j k3) j ((AA.take j).map iv)) := by
              have h : wc2.ownsRow (wA.heap.size + 2) 2 1 (.slice a3 j k3) (AA.take j).length ((AA.take j).map iv) := HT.out.st.o3
              rw [HTJ.out.2.2] at h
              exact h
            obtain ⟨es, clock, hes, hsz⟩ := HLN2.out wc2 HT.out.st.x
            have HSZ2 := Lib.hid hsz
            clear hsz
            have hlo : wA.heap.size + 2 ≤ wc2.heap.size := Nat.le_trans HT.out.lo (Nat.le_of_lt lf)
            have HZ : Hid (wA.heap.size + 2 ≤ (wc2.alloc (.cells #[.int .i64 (arN W H l ((nodeL W H l).getD j (0, 0)) : Int)] 2)).heap.size) := by show _ ≤ _; simp; omega
            clear hlo
            go_wp2_with (first | (at_len; refine wpList_len_mapS rfl _ _ rfl _ _ Try.underlying229 mk _ es clock rfl hes HSZ2.out ?_) | (at_builtin; refine wpList_append_own_at _ rfl _ _ 41 rfl (wA.heap.size + 2) 2 i0 (.int .i64 0) 1 8 Try.underlying41 hi hz0 hz1 hz2 rfl (by decide) _ _ _ rfl (HO3.out.alloc _) ⟨wc2.heap.size, 0, none⟩ 1 1 [.int .i64 (arN W H l ((nodeL W H l).getD j (0, 0)) : Int)] rfl rfl (cell_one_new _ _ _) (by simp [Value.oneCell']) HB1.out HB2.out HZ.out (fun v7 w7 hown7 hgrow7 _ hat7 => ?_); have h7 := HT.out.push3 (by repeat (first | exact World.Ext.refl _ | exact ⟨_, rfl⟩ | assumption | refine World.Ext.over ?_ _ | refine World.Ext.drewN ?_ _ | refine World.Ext.drew ?_ | refine World.Ext.alloc ?_ _ | refine World.Ext.setCell ?_ (by simp) _)) hgrow7 (by rw [HTJ.out.2.2]; exact hown7) hat7; rw [← (HNX2.out).2.2] at h7; obtain ⟨a6, k6, e, -⟩ := World.ownsRow.form h7.st.o3; rw [HTK.out.2.2] at e; subst e; obtain ⟨-, -, g7, -, -⟩ := h7.st.cells; have lg7 := World.block_lt_of_cell? _ _ g7; have fr7 := h7.st.free 2; have HT8 := Lib.hid (h7.put3 (.slice a6 (j + 1) k6)).st; clear h7 hown7 hgrow7 hat7 f0 f1 f2 f3 lf g2 lg fr hes))
            go_roundw
            case rel => exact ⟨j + 1, _, _, _, by omega, by go_num, HT8⟩
            case measure => simp [intOf]; omega
    · have hkn : k = n := by omega
      have HTn : Hid (TrSt wA (.slice (some ⟨b0, o0, none⟩) n cap) v1 v2 v3 v1 v2 v3 LL PP AA wo) := by
        have h := HT.out
        rw [hkn, List.take_of_length_le (by rw [HLEN.out.1]; exact Nat.le_refl _), List.take_of_length_le (by rw [HLEN.out.2.1]; exact Nat.le_refl _), List.take_of_length_le (by rw [HLEN.out.2.2]; exact Nat.le_refl _)] at h
        exact h
      clear HT
      obtain ⟨a1, k1, e, -⟩ := World.ownsRow.form HTn.out.o1
      rw [HLEN.out.1] at e
      subst e
      obtain ⟨a2, k2, e, -⟩ := World.ownsRow.form HTn.out.o2
      rw [HLEN.out.2.1] at e
      subst e
      obtain ⟨a3, k3, e, -⟩ := World.ownsRow.form HTn.out.o3
      rw [HLEN.out.2.2] at e
      subst e
      have f1 := HTn.out.x.cell e0
      have lf1 := World.block_lt_of_cell? _ _ f1
      obtain ⟨-, -, -, -, ccs⟩ := HTn.out.cells
      have HXo : Hid (w.Ext wo) := HX0.out.trans (HX1.out.trans HTn.out.x)
      have HRM : Hid (Calls Try.prog 147 #[.pointer (some ⟨p, 0, none⟩), .func (.func 212) #[] #[.pointer (some ⟨wA.heap.size + 1, 0, none⟩), .pointer (some ⟨w.heap.size, 0, none⟩)]] wo (GreyRet wo (grl W H (nodT W H l (nodeL W H l))))) :=
        (HG.out.ext HXo.out).remadeF (by omega) (by omega) (by omega) _ _ _ enters_gt1 fun w' hx j hj => by
          have h := gt1_any p w.heap.size (wA.heap.size + 1) W H l (some ⟨b0, o0, none⟩) cap qs j w' hW1 (by omega) (by omega) hj HGL.out ((HG.out.ext HXo.out).ext hx) (hx.cell f1) (hx.cell (by rw [← HNQ.out]; exact ccs)) (HQ.out.ext (HTn.out.x.trans hx)) (by rw [← HNQ.out]; omega)
          rw [nodT_at hj]
          exact h
      have QB : Hid (Qua wo wA.heap.size 200 (.slice a1 n k1) (.slice a2 n k2) (.slice a3 n k3) (.slice none 0 0)) := HTn.out.box
      have QR2 : Hid (Qua wo (w.heap.size + 1) 200 (.slice none 0 0) (.slice none 0 0) (.slice none 0 0) (.slice none 0 0)) := QR.out.ext (HX1.out.trans HTn.out.x)
      have hwA : w.heap.size + 2 ≤ wA.heap.size := by have h1 := HX1.out.size; have h2 := HSZ.out; omega
      clear ccs
      go_wp2_with fail
      refine HRM.out.mono ?_
      rintro e w8 ⟨a9, c9, A9, C9, rfl, hx8, hm8⟩
      rw [grl_len]
      have q8 := QB.out.ext hx8
      have r8 := QR2.out.ext hx8
      have q83 := q8.cell3
      have q8f := q8.free 3
      have q9 := q8.set3 (.slice a9 H c9)
      have r9 := r8.other (a := ⟨wA.heap.size, 3, none⟩) (by dsimp only; omega) (.slice a9 H c9)
      have q90 := q9.cell0
      have q91 := q9.cell1
      have q92 := q9.cell2
      have q93 := q9.cell3
      have r90 := r9.cell0
      have r91 := r9.cell1
      have r92 := r9.cell2
      have r93 := r9.cell3
      have rf0 := r9.free 0
      have rf1 := r9.free 1
      have rf2 := r9.free 2
      have rf3 := r9.free 3
      have r10 := r9.put (.slice a1 n k1) (.slice a2 n k2) (.slice a3 n k3) (.slice a9 H c9)
      have s0 := r10.cell0
      have s1 := r10.cell1
      have s2 := r10.cell2
      have s3 := r10.cell3
      have HE : Hid (TreeRet w (gtR W H l) (.returned (.agg #[.slice a1 n k1, .slice a2 n k2, .slice a3 n k3, .slice a9 H c9])) (((((w8.setCell ⟨wA.heap.size, 3, none⟩ (.slice a9 H c9)).setCell ⟨w.heap.size + 1, 0, none⟩ (.slice a1 n k1)).setCell ⟨w.heap.size + 1, 1, none⟩ (.slice a2 n k2)).setCell ⟨w.heap.size + 1, 2, none⟩ (.slice a3 n k3)).setCell ⟨w.heap.size + 1, 3, none⟩ (.slice a9 H c9))) := by
        have hW : Wrote (fun b => b = wA.heap.size ∨ b = w.heap.size + 1) w8 (((((w8.setCell ⟨wA.heap.size, 3, none⟩ (.slice a9 H c9)).setCell ⟨w.heap.size + 1, 0, none⟩ (.slice a1 n k1)).setCell ⟨w.heap.size + 1, 1, none⟩ (.slice a2 n k2)).setCell ⟨w.heap.size + 1, 2, none⟩ (.slice a3 n k3)).setCell ⟨w.heap.size + 1, 3, none⟩ (.slice a9 H c9)) :=
          (((((Wrote.refl _ w8).setCell (p := ⟨wA.heap.size, 3, none⟩) (.inl rfl) _).setCell (p := ⟨w.heap.size + 1, 0, none⟩) (.inr rfl) _).setCell (p := ⟨w.heap.size + 1, 1, none⟩) (.inr rfl) _).setCell (p := ⟨w.heap.size + 1, 2, none⟩) (.inr rfl) _).setCell (p := ⟨w.heap.size + 1, 3, none⟩) (.inr rfl) _
        have hsz := hW.size
        obtain ⟨e1, e2, e3⟩ := HLPA.out
        obtain ⟨n1, n2, n3⟩ := HLEN.out
        have hol := Nat.le_trans hx8.size hsz
        have hwo := QB.out.lt
        have own : ∀ {a : Option Addr} {k : Nat} {xs : List Int}, GrI (wA.heap.size + 2) wo (.slice a n k) xs → OwnOf (Value.int .i64) 0 w.heap.size wo.heap.size _ a xs := fun h => (OwnOf.wrote ((GrowOf.own 0 h).ext hx8) hW fun k h1 h2 h3 => by omega).mono (by omega) (Nat.le_refl _)
        refine ⟨a1, a2, a3, a9, k1, k2, k3, c9, A9, C9, ?_, HXo.out.wroteNew ((hx8.wrote _).trans hW) (fun k hk hs => by omega), apO_of HTn.out.d12, apO_of HTn.out.d13, apO_of HTn.out.d23, wo.heap.size, by omega, hol, ?_, ?_, ?_, ?_⟩
        · unfold gtV gtR
          dsimp only
          rw [← e1, ← e2, ← e3, n1, n2, n3, grl_len]
        · unfold gtR
          dsimp only
          rw [← e1]
          exact own HTn.out.o1
        · unfold gtR
          dsimp only
          rw [← e2]
          exact own HTn.out.o2
        · unfold gtR
          dsimp only
          rw [← e3]
          exact own HTn.out.o3
        · exact (hm8.wrote hW fun k h1 h2 h3 => by omega).mono (Nat.le_refl _) hsz
      clear q8 r8 q9 r9 r10 hx8 hm8 f1 lf1 QB QR2 HRM
      have hfld := field_grey a9 H c9 w8
      go_wp2
      exact bodyPost_ret (v := .agg #[.slice a1 n k1, .slice a2 n k2, .slice a3 n k3, .slice a9 H c9]) (by simp [results, Try.results154, go_sem, s0, s1, s2, s3]) rfl HE.out
end Go.Proofs.Ythgkmaccbcpaeaa
