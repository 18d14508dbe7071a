/- The reference's tree of a grey picture: its state. -/
import Derived.Test.YtmmanehdmnkekaaNodV
import Derived.Test.YtmmanehdmnkekaaThrG
import Derived.Test.YtmmanehdmnkekaaLGt
import Derived.Test.YtmmanehdmnkekaaLabS
import Derived.Test.YtmmanehdmnkekaaCmpF
import Derived.Test.YtmmanehdmnkekaaListS
import Derived.Test.YtmmanehdmnkekaaAreF
import Derived.Test.YtmmanehdmnkekaaRowK
import Derived.Test.YtmmanehdmnkekaaTrcK
namespace Go.Proofs.Ytmmanehdmnkekaa
open Go Go.RowKit
section
variable {W H : Nat} {l : List Int} {t : Int}
theorem thrL_at {k : Nat} (hk : k < l.length) : (thrL t l).getD k false = decide (t ≤ l.getD k 0) := by
  unfold thrL
  rw [List.getD_eq_getElem?_getD, List.getElem?_map, List.getElem?_eq_getElem hk, List.getD_eq_getElem?_getD, List.getElem?_eq_getElem hk]
  rfl
theorem pxP_thr (hl : l.length = H * W) : pxP W H (thrL t l) = lvR W H l t := by
  funext p
  show (hasB W H p.1 p.2 && (thrL t l).getD (p.2 * W + p.1).toNat false) = (hasB W H p.1 p.2 && decide (t ≤ l.getD (p.2 * W + p.1).toNat 0))
  cases hb : hasB W H p.1 p.2
  · rfl
  · obtain ⟨h1, h2, h3, h4⟩ := hasB_true.1 hb
    have := (place_lt h1 h2 h3 h4).2
    rw [thrL_at (by rw [hl, Nat.mul_comm]; omega)]
theorem spots_thr (hl : l.length = H * W) : spotsTo W (thrL t l) (H * W) = (blkL W H l t).map (spN W) := by
  unfold spotsTo blkL
  have e : (List.range (H * W)).filter (fun i => (thrL t l).getD i false) = (List.range (H * W)).filter fun q => decide (t ≤ l.getD q 0) := List.filter_congr fun q hq => by
    rw [List.mem_range] at hq
    exact thrL_at (by omega)
  rw [e]
  rfl
theorem lab_thr (hl : l.length = H * W) {F : Int × Int → Nat} {n : Nat} (h : LabK (pxP W H (thrL t l)) (nbA false) (spotsTo W (thrL t l) (H * W)) (spotsTo W (thrL t l) (H * W)).length F n) :
    n = (fstL W H l t).length ∧ ∀ j, j < H * W → ∀ m, m < n → (F (spN W j) = m + 1 ↔ Cn W H l t ((fstL W H l t).getD m 0) j) := by
  rw [pxP_thr hl, spots_thr hl, List.length_map] at h
  exact lab_parts h
end
noncomputable def gtR (W H : Nat) (l : List Int) : GT := (levT (nodeL W H l), parT W H l (nodeL W H l), areT W H l (nodeL W H l), grl W H (nodT W H l (nodeL W H l)))
def TreeRet (w : World) (R : GT) (e : Ending) (w' : World) : Prop :=
  ∃ a1 a2 a3 a4 c1 c2 c3 c4 A C, e = .returned (gtV a1 a2 a3 a4 c1 c2 c3 c4 R) ∧ w.Ext w' ∧ OwnG w.heap.size w'.heap.size w' a1 a2 a3 a4 A C R
theorem apO_of {a b : Option Addr} {n m c d : Nat} (h : ApV (.slice a n c) (.slice b m d)) : apO a b := fun k o e o' e' => by
  subst e e'
  exact h k rfl rfl
theorem grI_made {w : World} {base g n : Nat} (h : w.ownsRow base 2 1 (.slice (some ⟨g, 0, none⟩) n n) n (madeCells (Value.int .i64 0).cells (n * 1)).toList) : GrI base w (.slice (some ⟨g, 0, none⟩) n n) (List.replicate n 0) := by
  have e : (madeCells (Value.int .i64 0).cells (n * 1)).toList = (List.replicate n (0 : Int)).map iv := by
    have e1 : (Value.int .i64 0).cells = #[Value.int .i64 0] := rfl
    rw [e1]
    apply List.ext_getElem
    · simp [size_madeCells]
    · intro i h1 h2
      simp [madeCells, Nat.mod_one, iv]
  show w.ownsRow base 2 1 _ (List.replicate n (0 : Int)).length ((List.replicate n (0 : Int)).map iv)
  rw [List.length_replicate, ← e]
  exact h
/-- Filled with -1 as far as i. -/
def negL (n i : Nat) : List Int := (List.range n).map fun j => if j < i then -1 else 0
theorem negL_len (n i : Nat) : (negL n i).length = n := by simp [negL]
theorem negL_zero (n : Nat) : negL n 0 = List.replicate n 0 := by
  unfold negL
  rw [List.eq_replicate_iff]
  exact ⟨by simp, fun b hb => by rw [List.mem_map] at hb; obtain ⟨j, -, rfl⟩ := hb; rfl⟩
theorem negL_set {n i : Nat} (_ : i < n) : (negL n i).set i (-1) = negL n (i + 1) := by
  apply List.ext_getElem?
  intro j
  rw [List.getElem?_set, negL_len]
  by_cases hj : j < n
  · unfold negL
    rw [List.getElem?_map, List.getElem?_map, List.getElem?_range hj]
    simp only [Option.map_some]
    by_cases e : i = j
    · subst e
      rw [if_pos rfl, if_pos hj, if_pos (by omega)]
    · rw [if_neg e]
      by_cases hc : j < i
      · rw [if_pos hc, if_pos (by omega)]
      · rw [if_neg hc, if_neg (by omega)]
  · rw [List.getElem?_eq_none (by rw [negL_len]; omega), List.getElem?_eq_none (by rw [negL_len]; omega)]
    by_cases e : i = j
    · omega
    · rw [if_neg e]
theorem negL_all (n : Nat) : negL n n = List.replicate n (-1) := by
  unfold negL
  rw [List.eq_replicate_iff]
  exact ⟨by simp, fun b hb => by rw [List.mem_map] at hb; obtain ⟨j, hj, rfl⟩ := hb; rw [List.mem_range] at hj; rw [if_pos hj]⟩
structure TrSp (wA : World) (u1 u2 u3 v1 v2 v3 : Value) (L P R : List Int) (wr : World) : Prop where
  x : wA.Ext wr
  box : wr.heap[wA.heap.size]? = some (.cells #[u1, u2, u3, .slice none 0 0] 30 (0, 0))
  o1 : GrI (wA.heap.size + 1) wr v1 L
  o2 : GrI (wA.heap.size + 1) wr v2 P
  o3 : GrI (wA.heap.size + 1) wr v3 R
  d12 : ApV v1 v2
  d13 : ApV v1 v3
  d23 : ApV v2 v3
section
variable {wA wr wa w1 w' : World} {u1 u2 u3 v1 v2 v3 v' : Value} {L P R : List Int} {z : Int}
theorem TrSp.ext (h : TrSp wA u1 u2 u3 v1 v2 v3 L P R wr) (hx : wr.Ext w') : TrSp wA u1 u2 u3 v1 v2 v3 L P R w' :=
  ⟨h.x.trans hx, by rw [hx.block (Array.getElem?_eq_some_iff.1 h.box).1]; exact h.box, h.o1.ext hx, h.o2.ext hx, h.o3.ext hx, h.d12, h.d13, h.d23⟩
theorem TrSp.push1 (h : TrSp wA u1 u2 u3 v1 v2 v3 L P R wr) (hx : wr.Ext wa) (hg : wa.grownBy w1 v1.ownBlock) (ho : w1.ownsRow (wA.heap.size + 1) 2 1 v' (L.length + 1) (L.map iv ++ [iv z])) (hat : v'.ownBlock = v1.ownBlock ∨ v'.ownBlock = some wa.heap.size) :
    TrSp wA u1 u2 u3 v' v2 v3 (L ++ [z]) P R w1 := by
  have ha := h.ext hx
  refine ⟨ha.x.grown hg fun k hk => by have := (GrI.lt ha.o1 hk).1; omega, ?_, GrowOf.push ho, World.ownsRow.kept ha.o2 hg (GrI.ne ha.o2 ha.d12.symm), World.ownsRow.kept ha.o3 hg (GrI.ne ha.o3 ha.d13.symm), apV_at ha.d12 (fun k hk => (GrI.lt ha.o2 hk).2) hat, apV_at ha.d13 (fun k hk => (GrI.lt ha.o3 hk).2) hat, ha.d23⟩
  · rw [hg.block _ (Array.getElem?_eq_some_iff.1 ha.box).1 fun e => by have := (GrI.lt ha.o1 e.symm).1; omega]; exact ha.box
theorem TrSp.push2 (h : TrSp wA u1 u2 u3 v1 v2 v3 L P R wr) (hx : wr.Ext wa) (hg : wa.grownBy w1 v2.ownBlock) (ho : w1.ownsRow (wA.heap.size + 1) 2 1 v' (P.length + 1) (P.map iv ++ [iv z])) (hat : v'.ownBlock = v2.ownBlock ∨ v'.ownBlock = some wa.heap.size) :
    TrSp wA u1 u2 u3 v1 v' v3 L (P ++ [z]) R w1 := by
  have ha := h.ext hx
  refine ⟨ha.x.grown hg fun k hk => by have := (GrI.lt ha.o2 hk).1; omega, ?_, World.ownsRow.kept ha.o1 hg (GrI.ne ha.o1 ha.d12), GrowOf.push ho, World.ownsRow.kept ha.o3 hg (GrI.ne ha.o3 ha.d23.symm), (apV_at ha.d12.symm (fun k hk => (GrI.lt ha.o1 hk).2) hat).symm, ha.d13, apV_at ha.d23 (fun k hk => (GrI.lt ha.o3 hk).2) hat⟩
  · rw [hg.block _ (Array.getElem?_eq_some_iff.1 ha.box).1 fun e => by have := (GrI.lt ha.o2 e.symm).1; omega]; exact ha.box
theorem TrSp.push3 (h : TrSp wA u1 u2 u3 v1 v2 v3 L P R wr) (hx : wr.Ext wa) (hg : wa.grownBy w1 v3.ownBlock) (ho : w1.ownsRow (wA.heap.size + 1) 2 1 v' (R.length + 1) (R.map iv ++ [iv z])) (hat : v'.ownBlock = v3.ownBlock ∨ v'.ownBlock = some wa.heap.size) :
    TrSp wA u1 u2 u3 v1 v2 v' L P (R ++ [z]) w1 := by
  have ha := h.ext hx
  refine ⟨ha.x.grown hg fun k hk => by have := (GrI.lt ha.o3 hk).1; omega, ?_, World.ownsRow.kept ha.o1 hg (GrI.ne ha.o1 ha.d13), World.ownsRow.kept ha.o2 hg (GrI.ne ha.o2 ha.d23), GrowOf.push ho, ha.d12, (apV_at ha.d13.symm (fun k hk => (GrI.lt ha.o1 hk).2) hat).symm, (apV_at ha.d23.symm (fun k hk => (GrI.lt ha.o2 hk).2) hat).symm⟩
  · rw [hg.block _ (Array.getElem?_eq_some_iff.1 ha.box).1 fun e => by have := (GrI.lt ha.o3 e.symm).1; omega]; exact ha.box
theorem TrSp.cells (h : TrSp wA u1 u2 u3 v1 v2 v3 L P R wr) : wr.cell? ⟨wA.heap.size, 0, none⟩ = some u1 ∧ wr.cell? ⟨wA.heap.size, 1, none⟩ = some u2 ∧ wr.cell? ⟨wA.heap.size, 2, none⟩ = some u3 ∧ wr.cell? ⟨wA.heap.size, 3, none⟩ = some (.slice none 0 0) := by
  have h1 := h.box
  refine ⟨?_, ?_, ?_, ?_⟩ <;> simp [World.cell?, h1]
theorem TrSp.free (h : TrSp wA u1 u2 u3 v1 v2 v3 L P R wr) (i : Nat) : wr.frozen? ⟨wA.heap.size, i, none⟩ = false := by
  have h1 := h.box
  simp [World.frozen?, h1]
theorem TrSp.putAt (h : TrSp wA u1 u2 u3 v1 v2 v3 L P R wr) {i : Nat} {y y1 y2 y3 : Value} (_ : i < 3) (he : (#[u1, u2, u3, .slice none 0 0] : Array Value).setIfInBounds i y = #[y1, y2, y3, .slice none 0 0]) :
    TrSp wA y1 y2 y3 v1 v2 v3 L P R (wr.setCell ⟨wA.heap.size, i, none⟩ y) := by
  have hb := h.box
  have hk : ∀ k, k ≠ wA.heap.size → (wr.setCell ⟨wA.heap.size, i, none⟩ y).heap[k]? = wr.heap[k]? := fun k hk => Below.heap_setCell _ _ _ _ hk
  refine ⟨h.x.setCell (p := ⟨wA.heap.size, i, none⟩) (Nat.le_refl _) y, ?_, World.ownsRow.keep h.o1 fun k hk1 => hk k (by have := (GrI.lt h.o1 hk1).1; omega), World.ownsRow.keep h.o2 fun k hk1 => hk k (by have := (GrI.lt h.o2 hk1).1; omega), World.ownsRow.keep h.o3 fun k hk1 => hk k (by have := (GrI.lt h.o3 hk1).1; omega), h.d12, h.d13, h.d23⟩
  simp [World.setCell, Array.getElem?_modify, hb, he]
theorem TrSp.put1 (h : TrSp wA u1 u2 u3 v1 v2 v3 L P R wr) (y : Value) : TrSp wA y u2 u3 v1 v2 v3 L P R (wr.setCell ⟨wA.heap.size, 0, none⟩ y) := h.putAt (by decide) (by simp)
theorem TrSp.put2 (h : TrSp wA u1 u2 u3 v1 v2 v3 L P R wr) (y : Value) : TrSp wA u1 y u3 v1 v2 v3 L P R (wr.setCell ⟨wA.heap.size, 1, none⟩ y) := h.putAt (by decide) (by simp)
theorem TrSp.put3 (h : TrSp wA u1 u2 u3 v1 v2 v3 L P R wr) (y : Value) : TrSp wA u1 u2 y v1 v2 v3 L P R (wr.setCell ⟨wA.heap.size, 2, none⟩ y) := h.putAt (by decide) (by simp)
theorem TrSp.other (h : TrSp wA u1 u2 u3 v1 v2 v3 L P R wr) {a : Addr} (h0 : wA.heap.size + 1 ≤ a.block) (h1 : v1.ownBlock ≠ some a.block) (h2 : v2.ownBlock ≠ some a.block) (h3 : v3.ownBlock ≠ some a.block) (y : Value) : TrSp wA u1 u2 u3 v1 v2 v3 L P R (wr.setCell a y) := by
  have hk : ∀ k, k ≠ a.block → (wr.setCell a y).heap[k]? = wr.heap[k]? := fun k hk => Below.heap_setCell _ _ _ _ hk
  exact ⟨h.x.setCell (p := a) (by omega) y, by rw [hk _ (by omega)]; exact h.box, World.ownsRow.keep h.o1 fun k hk1 => hk k (fun e => h1 (by rw [hk1, e])), World.ownsRow.keep h.o2 fun k hk1 => hk k (fun e => h2 (by rw [hk1, e])), World.ownsRow.keep h.o3 fun k hk1 => hk k (fun e => h3 (by rw [hk1, e])), h.d12, h.d13, h.d23⟩
end
/-- Within a level: the nodes of the spots are written in a row of their own; what was there before stays. -/
def FxB (wA : World) (vx s1 s2 s3 : Value) (b : Nat) : Prop := b ≠ wA.heap.size ∧ vx.ownBlock ≠ some b ∧ s1.ownBlock ≠ some b ∧ s2.ownBlock ≠ some b ∧ s3.ownBlock ≠ some b
structure KSt (wA wB : World) (vx s1 s2 s3 u1 u2 u3 v1 v2 v3 : Value) (L P R NX : List Int) (wr : World) : Prop where
  tr : TrSp wA u1 u2 u3 v1 v2 v3 L P R wr
  nx : GrI (wA.heap.size + 1) wr vx NX
  a1 : ApV vx v1
  a2 : ApV vx v2
  a3 : ApV vx v3
  sz : wB.heap.size ≤ wr.heap.size
  kp : ∀ b, b < wB.heap.size → FxB wA vx s1 s2 s3 b → wr.heap[b]? = wB.heap[b]?
  n1 : ∀ b, v1.ownBlock = some b → s1.ownBlock = some b ∨ wB.heap.size ≤ b
  n2 : ∀ b, v2.ownBlock = some b → s2.ownBlock = some b ∨ wB.heap.size ≤ b
  n3 : ∀ b, v3.ownBlock = some b → s3.ownBlock = some b ∨ wB.heap.size ≤ b
section
variable {wA wB wr wa w1 w' : World} {vx s1 s2 s3 u1 u2 u3 v1 v2 v3 v' : Value} {L P R NX : List Int} {z : Int}
theorem KSt.ext (h : KSt wA wB vx s1 s2 s3 u1 u2 u3 v1 v2 v3 L P R NX wr) (hx : wr.Ext w') : KSt wA wB vx s1 s2 s3 u1 u2 u3 v1 v2 v3 L P R NX w' :=
  ⟨h.tr.ext hx, h.nx.ext hx, h.a1, h.a2, h.a3, Nat.le_trans h.sz hx.size, fun b hb hf => by rw [hx.block (Nat.lt_of_lt_of_le hb h.sz)]; exact h.kp b hb hf, h.n1, h.n2, h.n3⟩
theorem new_in {v' v s : Value} {n k : Nat} (h : ∀ b, v.ownBlock = some b → s.ownBlock = some b ∨ k ≤ b) (hn : k ≤ n) (hat : v'.ownBlock = v.ownBlock ∨ v'.ownBlock = some n) : ∀ b, v'.ownBlock = some b → s.ownBlock = some b ∨ k ≤ b := fun b hb => by
  rcases hat with e | e
  · exact h b (by rw [← e]; exact hb)
  · rw [e] at hb; cases hb; exact .inr hn
theorem KSt.push1 (h : KSt wA wB vx s1 s2 s3 u1 u2 u3 v1 v2 v3 L P R NX wr) (hx : wr.Ext wa) (hg : wa.grownBy w1 v1.ownBlock) (ho : w1.ownsRow (wA.heap.size + 1) 2 1 v' (L.length + 1) (L.map iv ++ [iv z])) (hat : v'.ownBlock = v1.ownBlock ∨ v'.ownBlock = some wa.heap.size) :
    KSt wA wB vx s1 s2 s3 u1 u2 u3 v' v2 v3 (L ++ [z]) P R NX w1 := by
  have ha := h.ext hx
  refine ⟨h.tr.push1 hx hg ho hat, World.ownsRow.kept ha.nx hg (GrI.ne ha.nx ha.a1), (apV_at ha.a1.symm (fun k hk => (GrI.lt ha.nx hk).2) hat).symm, ha.a2, ha.a3, Nat.le_trans ha.sz hg.size, fun b hb hf => ?_, new_in h.n1 ha.sz hat, h.n2, h.n3⟩
  rw [hg.block b (Nat.lt_of_lt_of_le hb ha.sz) fun e => ?_]
  · exact ha.kp b hb hf
  · rcases h.n1 b e.symm with e' | e'
    · exact hf.2.2.1 e'
    · omega
theorem KSt.push2 (h : KSt wA wB vx s1 s2 s3 u1 u2 u3 v1 v2 v3 L P R NX wr) (hx : wr.Ext wa) (hg : wa.grownBy w1 v2.ownBlock) (ho : w1.ownsRow (wA.heap.size + 1) 2 1 v' (P.length + 1) (P.map iv ++ [iv z])) (hat : v'.ownBlock = v2.ownBlock ∨ v'.ownBlock = some wa.heap.size) :
    KSt wA wB vx s1 s2 s3 u1 u2 u3 v1 v' v3 L (P ++ [z]) R NX w1 := by
  have ha := h.ext hx
  refine ⟨h.tr.push2 hx hg ho hat, World.ownsRow.kept ha.nx hg (GrI.ne ha.nx ha.a2), ha.a1, (apV_at ha.a2.symm (fun k hk => (GrI.lt ha.nx hk).2) hat).symm, ha.a3, Nat.le_trans ha.sz hg.size, fun b hb hf => ?_, h.n1, new_in h.n2 ha.sz hat, h.n3⟩
  rw [hg.block b (Nat.lt_of_lt_of_le hb ha.sz) fun e => ?_]
  · exact ha.kp b hb hf
  · rcases h.n2 b e.symm with e' | e'
    · exact hf.2.2.2.1 e'
    · omega
theorem KSt.push3 (h : KSt wA wB vx s1 s2 s3 u1 u2 u3 v1 v2 v3 L P R NX wr) (hx : wr.Ext wa) (hg : wa.grownBy w1 v3.ownBlock) (ho : w1.ownsRow (wA.heap.size + 1) 2 1 v' (R.length + 1) (R.map iv ++ [iv z])) (hat : v'.ownBlock = v3.ownBlock ∨ v'.ownBlock = some wa.heap.size) :
    KSt wA wB vx s1 s2 s3 u1 u2 u3 v1 v2 v' L P (R ++ [z]) NX w1 := by
  have ha := h.ext hx
  refine ⟨h.tr.push3 hx hg ho hat, World.ownsRow.kept ha.nx hg (GrI.ne ha.nx ha.a3), ha.a1, ha.a2, (apV_at ha.a3.symm (fun k hk => (GrI.lt ha.nx hk).2) hat).symm, Nat.le_trans ha.sz hg.size, fun b hb hf => ?_, h.n1, h.n2, new_in h.n3 ha.sz hat⟩
  rw [hg.block b (Nat.lt_of_lt_of_le hb ha.sz) fun e => ?_]
  · exact ha.kp b hb hf
  · rcases h.n3 b e.symm with e' | e'
    · exact hf.2.2.2.2 e'
    · omega
theorem KSt.put1 (h : KSt wA wB vx s1 s2 s3 u1 u2 u3 v1 v2 v3 L P R NX wr) (z0 : Value) : KSt wA wB vx s1 s2 s3 z0 u2 u3 v1 v2 v3 L P R NX (wr.setCell ⟨wA.heap.size, 0, none⟩ z0) :=
  ⟨h.tr.put1 z0, h.nx.setCell (fun e => by have := (GrI.lt h.nx e.symm).1; dsimp only at this; omega) _, h.a1, h.a2, h.a3, by rw [World.size_setCell]; exact h.sz, fun b hb hf => by rw [Below.heap_setCell _ _ _ _ hf.1]; exact h.kp b hb hf, h.n1, h.n2, h.n3⟩
theorem KSt.put2 (h : KSt wA wB vx s1 s2 s3 u1 u2 u3 v1 v2 v3 L P R NX wr) (z0 : Value) : KSt wA wB vx s1 s2 s3 u1 z0 u3 v1 v2 v3 L P R NX (wr.setCell ⟨wA.heap.size, 1, none⟩ z0) :=
  ⟨h.tr.put2 z0, h.nx.setCell (fun e => by have := (GrI.lt h.nx e.symm).1; dsimp only at this; omega) _, h.a1, h.a2, h.a3, by rw [World.size_setCell]; exact h.sz, fun b hb hf => by rw [Below.heap_setCell _ _ _ _ hf.1]; exact h.kp b hb hf, h.n1, h.n2, h.n3⟩
theorem KSt.put3 (h : KSt wA wB vx s1 s2 s3 u1 u2 u3 v1 v2 v3 L P R NX wr) (z0 : Value) : KSt wA wB vx s1 s2 s3 u1 u2 z0 v1 v2 v3 L P R NX (wr.setCell ⟨wA.heap.size, 2, none⟩ z0) :=
  ⟨h.tr.put3 z0, h.nx.setCell (fun e => by have := (GrI.lt h.nx e.symm).1; dsimp only at this; omega) _, h.a1, h.a2, h.a3, by rw [World.size_setCell]; exact h.sz, fun b hb hf => by rw [Below.heap_setCell _ _ _ _ hf.1]; exact h.kp b hb hf, h.n1, h.n2, h.n3⟩
theorem KSt.at (h : KSt wA wB vx s1 s2 s3 u1 u2 u3 v1 v2 v3 L P R NX wr) {g n cap : Nat} (hv : vx = .slice (some ⟨g, 0, none⟩) n cap) {i : Nat} (hi : i < NX.length) :
    wr.cell? ⟨g, i, none⟩ = some (.int .i64 (NX.getD i 0)) ∧ wr.frozen? ⟨g, i, none⟩ = false ∧ ∀ y, KSt wA wB vx s1 s2 s3 u1 u2 u3 v1 v2 v3 L P R (NX.set i y) (wr.setCell ⟨g, i, none⟩ (.int .i64 y)) := by
  obtain ⟨g', cap', hv', hlo, hc, hf, hset⟩ := GrowOf.atI 0 h.nx hi
  rw [hv] at hv'
  simp only [Value.slice.injEq, Option.some.injEq, Addr.mk.injEq] at hv'
  obtain ⟨⟨rfl, -, -⟩, -, -⟩ := hv'
  have hob : vx.ownBlock = some g := by rw [hv]; rfl
  refine ⟨hc, hf, fun y => ⟨h.tr.other (a := ⟨g, i, none⟩) hlo (h.a1 g hob) (h.a2 g hob) (h.a3 g hob) _, hset y, h.a1, h.a2, h.a3, by rw [World.size_setCell]; exact h.sz, fun b hb hf => ?_, h.n1, h.n2, h.n3⟩⟩
  rw [Below.heap_setCell _ _ _ _ (fun e => hf.2.1 (by rw [hob, e]))]
  exact h.kp b hb hf
theorem KSt.row (h : KSt wA wB vx s1 s2 s3 u1 u2 u3 v1 v2 v3 L P R NX wr) {a : Option Addr} {xs : List Int} (hr : RowI wB a xs) (hf : ∀ b o, a = some ⟨b, o, none⟩ → FxB wA vx s1 s2 s3 b) : RowI wr a xs := fun i hi => by
  obtain ⟨b, o, e, hc⟩ := hr i hi
  refine ⟨b, o, e, ?_⟩
  have hl := World.block_lt_of_cell? _ _ hc
  have := h.kp b hl (hf b o e)
  unfold World.cell? at hc ⊢
  rw [this]
  exact hc
theorem KSt.start (h : TrSp wA v1 v2 v3 v1 v2 v3 L P R wr) (hn : GrI (wA.heap.size + 1) wr vx NX) (a1 : ApV vx v1) (a2 : ApV vx v2) (a3 : ApV vx v3) : KSt wA wr vx v1 v2 v3 v1 v2 v3 v1 v2 v3 L P R NX wr :=
  ⟨h, hn, a1, a2, a3, Nat.le_refl _, fun _ _ _ => rfl, fun _ h => .inl h, fun _ h => .inl h, fun _ h => .inl h⟩
end
end Go.Proofs.Ytmmanehdmnkekaa
