/- Maps whose keys are steps from a corner. -/
import Derived.Test.YtelaoimcaidoiaaBrdP
import Derived.Test.YtelaoimcaidoiaaMapS
import Derived.Maps.Range
import Derived.Maps.RangeWalk
import Derived.DeepKeys4
import Derived.Test.YtelaoimcaidoiaaBdA
import Derived.Test.YtelaoimcaidoiaaFillF
import Derived.Test.YtelaoimcaidoiaaRowK
namespace Go.Proofs.Ytelaoimcaidoiaa
open Go Go.RowKit Go.MapKept Go.ChangeMaps
open Go.WideElems (Fit rd rg rd_key rd_mk)
open Go.Maps (Keyed)
def edgV (e : Edg) : Value := .agg #[.int .i64 e.x, .int .i64 e.y, .int .i64 (e.k : Int)]
theorem edgV_inj {p q : Edg} (h : edgV p = edgV q) : p = q := by
  obtain ⟨x, y, k⟩ := p
  obtain ⟨x', y', k'⟩ := q
  unfold edgV at h
  simp at h
  simp only [Edg.mk.injEq]
  omega
/-- Block b is a map from steps that holds g. -/
def MapE (w : World) (P : Program) (k : TypeId) (b : Nat) (g : Edg → Option Value) : Prop :=
  ∃ es clock, w.heap[b]? = some (.map es clock) ∧ Fit P k anyR es clock ∧ (∀ e ∈ es.toList, ∃ p, e.key = edgV p ∧ g p = some e.val) ∧ (∀ p v, g p = some v → ∃ e ∈ es.toList, e.key = edgV p ∧ e.val = v)
section
variable {P : Program} {k t e : TypeId} {w w' : World} {b : Nat} {g g' : Edg → Option Value}
theorem MapE.lt (h : MapE w P k b g) : b < w.heap.size := by
  obtain ⟨es, clock, hb, _⟩ := h
  exact (Array.getElem?_eq_some_iff.1 hb).1
theorem MapE.keep (h : MapE w P k b g) (hk : w'.heap[b]? = w.heap[b]?) : MapE w' P k b g := by
  obtain ⟨es, clock, hb, r⟩ := h
  exact ⟨es, clock, by rw [hk]; exact hb, r⟩
theorem MapE.ext (h : MapE w P k b g) (hx : w.Ext w') : MapE w' P k b g := h.keep (hx.block h.lt)
theorem MapE.grown {row : Option Nat} (h : MapE w P k b g) (hg : w.grownBy w' row) (hne : some b ≠ row) : MapE w' P k b g := h.keep (hg.block b h.lt hne)
theorem MapE.setCell (h : MapE w P k b g) {a : Addr} (ha : a.block ≠ b) (u : Value) : MapE (w.setCell a u) P k b g := h.keep (Below.heap_setCell _ _ _ _ (Ne.symm ha))
theorem MapE.congr (h : MapE w P k b g) (e : ∀ p, g p = g' p) : MapE w P k b g' := (funext e : g = g') ▸ h
theorem MapE.new (w : World) (P : Program) (k : TypeId) (b : Nat) (hb : b = w.heap.size) : MapE (w.alloc (.map #[] 0)) P k b (fun _ => none) := by
  subst hb
  exact ⟨#[], 0, (MapKept.heap_alloc w _).1, ⟨by simp, stamped_empty 0, by simp⟩, by simp, by simp⟩
theorem MapE.ne {cs : Array Value} {e' : TypeId} {fr : Nat × Nat} {q : Nat} (h : MapE w P k b g) (ho : w.heap[q]? = some (.cells cs e' fr)) : q ≠ b := by
  obtain ⟨es, clock, hb, _⟩ := h
  rintro rfl
  rw [hb] at ho
  cases ho
theorem MapE.neRow {lo : Nat} {T : TypeId} {sz n : Nat} {v : Value} {xs : List Value} (h : MapE w P k b g) (ho : w.ownsRow lo T sz v n xs) : some b ≠ v.ownBlock := by
  intro hp
  rcases ho.2 with ⟨h0, _⟩ | ⟨q, cap, cur, h0, hg, hh, _⟩
  · rw [h0] at hp; cases hp
  · rw [h0] at hp
    simp only [Value.ownBlock, Option.some.injEq] at hp
    exact h.ne hh hp.symm
theorem MapE.look (h : MapE w P k b g) (K : Keyed P k) (ht : P.underlying t = some (.map k e)) {z : Value} (hz : (zeroValue e).run P w = .ok z w) {p : Edg} {kl : Lit} (hkey : keyOf P k (edgV p) = some kl) :
    (Instr.lookup t (.map (some b)) (edgV p) false).run P w = .ok ((g p).getD z) w := by
  obtain ⟨es, clock, hb, F, h1, h2⟩ := h
  rcases Maps.fit_look false K ht hz hb F hkey with ⟨hrun, hno, _⟩ | ⟨e0, y, he0, hk0, hrun, _⟩
  · have : g p = none := by
      cases hg : g p with
      | none => rfl
      | some v =>
        obtain ⟨e, he, ek, _⟩ := h2 p v hg
        exact absurd ek (hno e he)
    rw [this]
    simpa using hrun
  · obtain ⟨q, hq, hv⟩ := h1 e0 he0
    rw [hk0] at hq
    obtain rfl := edgV_inj hq
    rw [hv]
    simpa using hrun
theorem MapE.size_le {es : Array MapEntry} {clock : Nat} (F : Fit P k anyR es clock) (h1 : ∀ e ∈ es.toList, ∃ p, e.key = edgV p ∧ g p = some e.val) (L : List (Edg)) (hL : ∀ p v, g p = some v → p ∈ L) : es.size ≤ L.length := by
  have key : ∀ (l : List MapEntry), l.Pairwise (fun x y => x.key ≠ y.key) → (∀ e ∈ l, ∃ p, e.key = edgV p ∧ p ∈ L) → ∃ ps : List (Edg), ps.length = l.length ∧ ps.Nodup ∧ (∀ p, p ∈ ps → p ∈ L) ∧ ∀ p, p ∈ ps → ∃ e ∈ l, e.key = edgV p := by
    intro l
    induction l with
    | nil => intro _ _; exact ⟨[], rfl, List.nodup_nil, by simp, by simp⟩
    | cons a l ih =>
      intro hp hs
      obtain ⟨p1, p2⟩ := List.pairwise_cons.1 hp
      obtain ⟨ps, e1, e2, e3, e4⟩ := ih p2 (fun e he => hs e (by simp [he]))
      obtain ⟨q, hq, hqL⟩ := hs a (by simp)
      refine ⟨q :: ps, by simp [e1], List.nodup_cons.2 ⟨fun hm => ?_, e2⟩, ?_, ?_⟩
      · obtain ⟨e, he, ek⟩ := e4 q hm
        exact p1 e he (hq.trans ek.symm)
      · intro p hp
        rcases List.mem_cons.1 hp with rfl | hp
        · exact hqL
        · exact e3 p hp
      · intro p hp
        rcases List.mem_cons.1 hp with rfl | hp
        · exact ⟨a, by simp, hq⟩
        · obtain ⟨e, he, ek⟩ := e4 p hp
          exact ⟨e, by simp [he], ek⟩
  obtain ⟨ps, e1, e2, e3, _⟩ := key es.toList ((stamped_iff es clock).1 F.stamped).2.2 (fun e he => let ⟨p, h, h'⟩ := h1 e he; ⟨p, h, hL p _ h'⟩)
  have := nodup_len ps L e2 e3
  rw [e1] at this
  simpa using this
theorem MapE.count (h : MapE w P k b g) (ds : List (Edg)) (hnd : ds.Nodup) (hg : ∀ p, (∃ v, g p = some v) ↔ p ∈ ds) : mapLen w b = ds.length := by
  obtain ⟨es, clock, hb, F, h1, h2⟩ := h
  have key : ∀ (l : List MapEntry), (∀ e ∈ l, ∃ p, e.key = edgV p) → ∃ ps : List (Edg), ps.length = l.length ∧ ∀ e ∈ l, ∃ p, p ∈ ps ∧ e.key = edgV p := by
    intro l
    induction l with
    | nil => intro _; exact ⟨[], rfl, by simp⟩
    | cons a l ih =>
      intro hs
      obtain ⟨ps, e1, e2⟩ := ih (fun e he => hs e (by simp [he]))
      obtain ⟨q, hq⟩ := hs a (by simp)
      refine ⟨q :: ps, by simp [e1], fun e he => ?_⟩
      rcases List.mem_cons.1 he with rfl | he
      · exact ⟨q, by simp, hq⟩
      · obtain ⟨p, hp, hk⟩ := e2 e he
        exact ⟨p, by simp [hp], hk⟩
  obtain ⟨ps, e1, e2⟩ := key es.toList (fun e he => let ⟨p, hp, _⟩ := h1 e he; ⟨p, hp⟩)
  have a1 := MapE.size_le F h1 ds (fun p v hv => (hg p).1 ⟨v, hv⟩)
  have a2 := nodup_len ds ps hnd (fun p hp => by
    obtain ⟨v, hv⟩ := (hg p).2 hp
    obtain ⟨e, he, hk, _⟩ := h2 p v hv
    obtain ⟨q, hq, hk'⟩ := e2 e he
    rw [hk] at hk'
    rw [edgV_inj hk']
    exact hq)
  unfold mapLen
  rw [hb]
  simp only [Array.length_toList] at e1
  show es.size = ds.length
  omega
theorem MapE.store (h : MapE w P k b g) (K : Keyed P k) (ht : P.underlying t = some (.map k e)) (L : List (Edg)) (hL : ∀ p v, g p = some v → p ∈ L) (hlen : L.length < maxLen) {p : Edg} {kl : Lit} (hkey : keyOf P k (edgV p) = some kl) (v : Value) :
    ∃ w', (Instr.mapUpdate t (.map (some b)) (edgV p) v).run P w = .ok () w' ∧ MapE w' P k b (fun q => if q = p then some v else g q) ∧ w.grownBy w' (some b) := by
  obtain ⟨es, clock, hb, F, h1, h2⟩ := h
  have hroom : es.size < maxLen := Nat.lt_of_le_of_lt (MapE.size_le F h1 L hL) hlen
  rcases K.find w hkey es.toList F.keys with ⟨f1, f2⟩ | ⟨j, e0, f1, f2, f3⟩
  · refine ⟨setBlock w b (.map (es.push ⟨edgV p, v, clock⟩) (clock + 1)), ?_, ⟨_, _, heap_setBlock_same hb _, ⟨by simp; omega, stamped_push F.stamped f2, ?_⟩, ?_, ?_⟩, ⟨rfl, rfl, rfl, by simp [setBlock], fun i _ hi => heap_setBlock_other hb _ (fun e => hi (by rw [e]))⟩⟩
    · simp [Instr.mapUpdate, run_underlying ht, MapKept.run_getObj_map hb, K.check w false hkey, f1, MapKept.run_setObj_map _ hb, Result.andThen, setBlock]
    · intro x hx
      simp only [Array.toList_push, List.mem_append, List.mem_singleton] at hx
      rcases hx with hx | rfl
      · exact F.reads x hx
      · exact ⟨_, rd_mk hkey rfl⟩
    · intro x hx
      simp only [Array.toList_push, List.mem_append, List.mem_singleton] at hx
      rcases hx with hx | rfl
      · obtain ⟨q, hq, hv⟩ := h1 x hx
        refine ⟨q, hq, ?_⟩
        exact (if_neg (fun e1 => f2 x hx (by rw [hq, e1]))).trans hv
      · exact ⟨p, rfl, if_pos rfl⟩
    · intro q u hq
      by_cases e : q = p
      · have hq2 := (if_pos e).symm.trans hq
        exact ⟨⟨edgV p, v, clock⟩, by simp, by rw [e], by simpa using hq2⟩
      · replace hq := (if_neg e).symm.trans hq
        obtain ⟨x, hx, hk, hv⟩ := h2 q u hq
        exact ⟨x, by simp at hx ⊢; exact .inl hx, hk, hv⟩
  · have hj : es[j]? = some e0 := by simpa using f2
    have hm0 : e0 ∈ es.toList := List.mem_of_getElem? f2
    have hkeyf : ∀ e', es[j]? = some e' → ({ e' with key := edgV p, val := v } : MapEntry).key = e'.key := fun e' he' => by rw [hj] at he'; cases he'; exact f3.symm
    have hlist : (es.modify j (fun e' => { e' with key := edgV p, val := v })).toList = es.toList.set j { e0 with key := edgV p, val := v } := by rw [Array.toList_modify, modify_eq_set _ _ _ _ f2]
    have hjl : j < es.toList.length := (List.getElem?_eq_some_iff.1 f2).1
    have who : ∀ x ∈ es.toList.set j { e0 with key := edgV p, val := v }, x = { e0 with key := edgV p, val := v } ∨ (x ∈ es.toList ∧ x.key ≠ edgV p) := by
      intro x hx
      obtain ⟨i, hi, ex⟩ := List.getElem_of_mem hx
      rw [List.getElem_set] at ex
      split at ex
      · exact Or.inl ex.symm
      · rename_i hne
        have hi' : i < es.toList.length := by simpa using hi
        refine Or.inr ⟨ex ▸ List.getElem_mem hi', ?_⟩
        rw [← f3]
        exact Go.WideElems.other_key F f2 (by rw [List.getElem?_eq_getElem hi', ex]) (fun e1 => hne e1.symm)
    refine ⟨setBlock w b (.map (es.modify j (fun e' => { e' with key := edgV p, val := v })) clock), ?_, ⟨_, _, heap_setBlock_same hb _, ⟨by simpa using F.size, stamped_modify F.stamped _ _ (fun _ _ => rfl) (fun e' _ he' => hkeyf e' he'), ?_⟩, ?_, ?_⟩, ⟨rfl, rfl, rfl, by simp [setBlock], fun i _ hi => heap_setBlock_other hb _ (fun e => hi (by rw [e]))⟩⟩
    · simp [Instr.mapUpdate, run_underlying ht, MapKept.run_getObj_map hb, K.check w false hkey, f1, hj, f3, K.stays w hkey, MapKept.run_setObj_map _ hb, Result.andThen, setBlock]
    · intro x hx
      rw [hlist] at hx
      rcases who x hx with rfl | ⟨hx', _⟩
      · exact ⟨_, rd_mk hkey rfl⟩
      · exact F.reads x hx'
    · intro x hx
      rw [hlist] at hx
      rcases who x hx with rfl | ⟨hx', hne⟩
      · exact ⟨p, rfl, if_pos rfl⟩
      · obtain ⟨q, hq, hv⟩ := h1 x hx'
        exact ⟨q, hq, (if_neg (fun e1 => hne (by rw [hq, e1]))).trans hv⟩
    · intro q u hq
      rw [hlist]
      by_cases e : q = p
      · have hq2 := (if_pos e).symm.trans hq
        exact ⟨{ e0 with key := edgV p, val := v }, List.mem_iff_getElem.2 ⟨j, by simpa using hjl, by simp⟩, by rw [e], by simpa using hq2⟩
      · replace hq := (if_neg e).symm.trans hq
        obtain ⟨x, hx, hk, hv⟩ := h2 q u hq
        obtain ⟨i, hi, ex⟩ := List.getElem_of_mem hx
        refine ⟨x, List.mem_iff_getElem.2 ⟨i, by simpa using hi, ?_⟩, hk, hv⟩
        rw [List.getElem_set_ne]
        · exact ex
        · rintro rfl
          rw [List.getElem?_eq_getElem hi, ex] at f2
          cases f2
          exact e (edgV_inj (hk.symm.trans f3))
end
theorem wpList_mapUpdate_E {P : Program} (w : World) {ops : Array Oper} {rest : List Oper} {o : Oper} {a : Act} {Q : Exit → Act → World → Prop}
    (hg : o.guard = none) (m x v : Operand) (t : TypeId) (hop : o.op = Op.mapUpdate t m x v)
    (k e : TypeId) (K : Keyed P k) (ht : P.underlying t = some (.map k e)) (b : Nat) (g : Edg → Option Value)
    (hm : a.eval m = .map (some b)) (hown : MapE w P k b g) (L : List (Edg)) (hL : ∀ p v, g p = some v → p ∈ L) (hlen : L.length < maxLen) (p : Edg) (kl : Lit) (val : Value) (hx : a.eval x = edgV p) (hv : a.eval v = val) (hkey : keyOf P k (edgV p) = some kl)
    (hK : ∀ w', MapE w' P k b (fun q => if q = p then some val else g q) → w.grownBy w' (some b) → wpList P ops Q rest (a.put o.dst undef) w') :
    wpList P ops Q (o :: rest) a w := by
  refine wpList_plain hg fun K' hK' => ?_
  obtain ⟨w', hrun, r1, r2⟩ := hown.store K ht L hL hlen hkey val
  unfold Oper.wp
  simp [execOp, hop, hm, hx, hv, hrun, Result.andThen]
  exact hK' _ _ (hK w' r1 r2)
theorem Try.edgKey : Keyed Try.prog 82 := Keyed.of_law (deep_law_laid Try.laidOut (m := 3) (by omega) (of_decide_eq_true (by kernel_rfl)) (by kernel_rfl) (by kernel_rfl))
theorem Try.edgTypes : ∃ m, Try.prog.types.size = m + 1 := ⟨Try.prog.types.size - 1, by kernel_rfl⟩
theorem Try.edgTypes2 : 2 ≤ Try.prog.types.size := of_decide_eq_true (by kernel_rfl)
theorem Try.edgKeyType : Try.prog.keyType 82 = true := by kernel_rfl
theorem Try.edgCells : Try.prog.cellsOf 82 = 3 := by kernel_rfl
theorem Try.intCells : Try.prog.cellsOf 3 = 1 := by kernel_rfl
theorem edgKeyOf {e : Edg} (h1 : (Lit.int .i64 e.x).wf = true) (h2 : (Lit.int .i64 e.y).wf = true) (h3 : (Lit.int .i64 (e.k : Int)).wf = true) : keyOf Try.prog 82 (edgV e) = some (.string (keyBytes [.int .i64 e.x, .int .i64 e.y, .int .i64 (e.k : Int)])) := by
  obtain ⟨m, hm⟩ := Try.edgTypes
  unfold keyOf edgV
  simp only [Try.underlying82]
  rw [if_pos (by simp [Try.edgKeyType, Value.formed, Try.underlying82, Try.edgCells]), hm]
  unfold Program.keyLits
  simp only [Try.underlying82, Value.cells]
  rw [if_pos ⟨by rw [Try.edgCells]; rfl, by kernel_rfl⟩, List.mapM_cons, List.mapM_cons, List.mapM_nil]
  have hs : Program.keyLits Try.prog (m + 1) 33 [.int .i64 e.x, .int .i64 e.y] = some [.int .i64 e.x, .int .i64 e.y] := by
    unfold Program.keyLits
    simp only [Try.underlying33]
    rw [if_pos ⟨by rw [Try.spotCells]; rfl, by kernel_rfl⟩, List.mapM_cons, List.mapM_cons, List.mapM_nil]
    obtain ⟨m', hm'⟩ : ∃ m', m = m' + 1 := ⟨m - 1, by have := Try.edgTypes2; omega⟩
    subst hm'
    simp [Try.i64Cells, Program.keyLits, Try.underlying2, h1, h2]
  have hk : Program.keyLits Try.prog (m + 1) 3 [.int .i64 (e.k : Int)] = some [.int .i64 (e.k : Int)] := by
    simp [Program.keyLits, Try.underlying3, h3]
  simp [Try.spotCells, Try.intCells, hs, hk]
end Go.Proofs.Ytelaoimcaidoiaa

/- Borders: the program's steps in a map. -/
namespace Go.Proofs.Ytelaoimcaidoiaa
open Go Go.RowKit Go.MapKept Go.ChangeMaps
/-- The black pixel to the right of a step, and the pixel to its left. -/
def ownE (e : Edg) : Int × Int := if e.k = 0 then (e.x, e.y) else if e.k = 1 then (e.x - 1, e.y) else if e.k = 2 then (e.x - 1, e.y - 1) else (e.x, e.y - 1)
def oppE (e : Edg) : Int × Int := if e.k = 0 then (e.x, e.y - 1) else if e.k = 1 then (e.x, e.y) else if e.k = 2 then (e.x - 1, e.y) else (e.x - 1, e.y - 1)
def edgP (p : Int × Int) (k : Nat) : Edg := if k = 0 then ⟨p.1, p.2, 0⟩ else if k = 1 then ⟨p.1 + 1, p.2, 1⟩ else if k = 2 then ⟨p.1 + 1, p.2 + 1, 2⟩ else ⟨p.1, p.2 + 1, 3⟩
theorem edgP_iff {e : Edg} {p : Int × Int} {k : Nat} (hk : k < 4) : e = edgP p k ↔ ownE e = p ∧ e.k = k := by
  obtain ⟨x, y, j⟩ := e
  obtain ⟨a, b⟩ := p
  have h : k = 0 ∨ k = 1 ∨ k = 2 ∨ k = 3 := by omega
  rcases h with rfl | rfl | rfl | rfl <;> (unfold edgP ownE; simp; constructor <;> (intro hh; obtain ⟨h1, h2⟩ := hh; (try obtain ⟨h2, h3⟩ := h2); (try subst h3); (try subst h2); simp at *; (try omega)))
theorem canB_own {f : Int → Int → Bool} {e : Edg} : canB f e.x e.y e.k = (f (ownE e).1 (ownE e).2 && !f (oppE e).1 (oppE e).2) := by
  unfold canB canQ ownE oppE
  split
  · rfl
  · split
    · rfl
    · split <;> rfl
/-- What the map holds: of the pixels ps all four steps, of p the first j. -/
def sdM (f : Int → Int → Bool) (ps : List (Int × Int)) (p : Int × Int) (j : Nat) (e : Edg) : Option Value := if e.k < 4 ∧ (ownE e ∈ ps ∨ (ownE e = p ∧ e.k < j)) then some (.bool (!f (oppE e).1 (oppE e).2)) else none
theorem sdM_step {f : Int → Int → Bool} {ps : List (Int × Int)} {p : Int × Int} {j : Nat} (hj : j < 4) {t : Bool} (ht : f (oppE (edgP p j)).1 (oppE (edgP p j)).2 = t) (e : Edg) :
    (if e = edgP p j then some (Value.bool (!t)) else sdM f ps p j e) = sdM f ps p (j + 1) e := by
  by_cases h : e = edgP p j
  · rw [if_pos h]
    obtain ⟨h1, h2⟩ := (edgP_iff hj).1 h
    unfold sdM
    rw [if_pos ⟨by omega, Or.inr ⟨h1, by omega⟩⟩, h, ht]
  · rw [if_neg h]
    have hn : ¬ (ownE e = p ∧ e.k = j) := fun hh => h ((edgP_iff hj).2 hh)
    unfold sdM
    congr 1
    refine propext ⟨fun ⟨h1, h2⟩ => ⟨h1, h2.imp id fun h3 => ⟨h3.1, by omega⟩⟩, fun ⟨h1, h2⟩ => ⟨h1, h2.imp id fun h3 => ⟨h3.1, ?_⟩⟩⟩
    rcases Nat.lt_or_ge e.k j with h4 | h4
    · exact h4
    · exact absurd ⟨h3.1, by omega⟩ hn
theorem sdM_next {f : Int → Int → Bool} {ps : List (Int × Int)} {p q : Int × Int} (e : Edg) : sdM f ps p 4 e = sdM f (ps ++ [p]) q 0 e := by
  unfold sdM
  congr 1
  refine propext ⟨fun ⟨h1, h2⟩ => ⟨h1, Or.inl ?_⟩, fun ⟨h1, h2⟩ => ⟨h1, ?_⟩⟩
  · rcases h2 with h2 | h2
    · simp [h2]
    · simp [h2.1]
  · rcases h2 with h2 | h2
    · rcases List.mem_append.1 h2 with h3 | h3
      · exact Or.inl h3
      · exact Or.inr ⟨List.mem_singleton.1 h3, h1⟩
    · omega
theorem sdM_nil {f : Int → Int → Bool} {p : Int × Int} (e : Edg) : sdM f [] p 0 e = none := by
  unfold sdM
  rw [if_neg]
  rintro ⟨_, h | h⟩
  · cases h
  · omega
theorem sdM_same {f : Int → Int → Bool} {ps : List (Int × Int)} {p p' : Int × Int} (e : Edg) : sdM f ps p 0 e = sdM f ps p' 0 e := by
  unfold sdM
  simp
theorem sdM_mem {f : Int → Int → Bool} {ps : List (Int × Int)} {p : Int × Int} {j : Nat} {e : Edg} {v : Value} (h : sdM f ps p j e = some v) : e ∈ (ps ++ [p]).flatMap fun q => (List.range 4).map (edgP q) := by
  unfold sdM at h
  split at h
  · rename_i hh
    rw [List.mem_flatMap]
    refine ⟨ownE e, ?_, List.mem_map.2 ⟨e.k, List.mem_range.2 hh.1, ((edgP_iff hh.1).2 ⟨rfl, rfl⟩).symm⟩⟩
    rcases hh.2 with h1 | h1
    · exact List.mem_append.2 (Or.inl h1)
    · exact List.mem_append.2 (Or.inr (by rw [h1.1]; exact List.mem_singleton.2 rfl))
  · cases h
theorem flat4_len (ps : List (Int × Int)) : (ps.flatMap fun q => (List.range 4).map (edgP q)).length = 4 * ps.length := by
  induction ps with
  | nil => rfl
  | cons a l ih => rw [List.flatMap_cons, List.length_append, ih]; simp; omega
/-- A map that answers as the picture does. -/
def SdOk (f : Int → Int → Bool) (g : Edg → Option Value) : Prop := ∀ e, (g e).getD (.bool false) = .bool (decide (e.k < 4) && canB f e.x e.y e.k)
theorem sdM_ok {W H : Nat} {l : List Bool} {p : Int × Int} : SdOk (pxl W H l) (sdM (pxl W H l) (spotsTo W l (H * W)) p 0) := fun e => by
  unfold sdM
  rw [canB_own]
  by_cases h4 : e.k < 4
  · by_cases hm : ownE e ∈ spotsTo W l (H * W)
    · have hp := spotsTo_mem.1 hm
      unfold pxP at hp
      rw [if_pos ⟨h4, Or.inl hm⟩, hp]
      simp [h4]
    · have hp : pxl W H l (ownE e).1 (ownE e).2 = false := by
        cases hh : pxl W H l (ownE e).1 (ownE e).2
        · rfl
        · exact absurd (spotsTo_mem.2 hh) hm
      rw [if_neg (by rintro ⟨_, h | h⟩; exact hm h; omega), hp]
      simp
  · rw [if_neg (by rintro ⟨h, _⟩; exact h4 h)]
    simp [h4]
theorem edgMap : Try.prog.underlying 78 = some (.map 82 4) := Try.underlying78
theorem MapE.lookB {f : Int → Int → Bool} {w : World} {b : Nat} {g : Edg → Option Value} (h : MapE w Try.prog 82 b g) (hg : SdOk f g) (e : Edg) (hx : -1000 ≤ e.x ∧ e.x ≤ 1000) (hy : -1000 ≤ e.y ∧ e.y ≤ 1000) (hk : e.k ≤ 1000) :
    (Instr.lookup 78 (.map (some b)) (edgV e) false).run Try.prog w = .ok (.bool (decide (e.k < 4) && canB f e.x e.y e.k)) w := by
  have w1 := spotWf hx hy
  have w2 := spotWf (x := (e.k : Int)) (y := 0) (by omega) (by omega)
  have := h.look Try.edgKey edgMap (zeroBool w) (p := e) (edgKeyOf w1.1 w1.2 w2.1)
  rw [hg e] at this
  exact this
/-- The map under way. -/
structure SdSt (w2 : World) (b : Nat) (g : Edg → Option Value) (wr : World) : Prop where
  w : Wrote (fun k => k = b) w2 wr
  m : MapE wr Try.prog 82 b g
theorem SdSt.ext {w2 : World} {b : Nat} {g : Edg → Option Value} {wr w' : World} (h : SdSt w2 b g wr) (hx : wr.Ext w') : SdSt w2 b g w' := ⟨h.w.trans (hx.wrote _), h.m.ext hx⟩
theorem SdSt.put {w2 : World} {b : Nat} {g g' : Edg → Option Value} {wr w' : World} (h : SdSt w2 b g wr) (hm : MapE w' Try.prog 82 b g') (hg : wr.grownBy w' (some b)) : SdSt w2 b g' w' := ⟨h.w.grown hg fun _ e => Or.inl (Option.some.inj e).symm, hm⟩
/-- A map of steps is returned, in new memory. -/
def SidesRet (w : World) (f : Int → Int → Bool) (e : Ending) (w' : World) : Prop := ∃ b g, e = .returned (.map (some b)) ∧ w.Ext w' ∧ w.heap.size ≤ b ∧ SdOk f g ∧ MapE w' Try.prog 82 b g
set_option maxRecDepth 5000 in
set_option maxHeartbeats 6400000 in
theorem sides_any (b ab W H : Nat) (l : List Bool) (w : World) (hW : W ≤ 38) (hH : H ≤ 38) (hI : Img w b ab W H l) :
    Calls Try.prog 40 #[.pointer (some ⟨b, 0, none⟩)] w (SidesRet w (pxl W H l)) := by
  obtain ⟨W0, hW0⟩ : ∃ W0, W0 = w.alloc (.map #[] 0) := ⟨_, rfl⟩
  have hx0 : w.Ext W0 := by rw [hW0]; repeat (first | exact World.Ext.refl _ | exact ⟨_, rfl⟩ | assumption | refine World.Ext.over ?_ _ | refine World.Ext.drewN ?_ _ | refine World.Ext.drew ?_ | refine World.Ext.alloc ?_ _ | refine World.Ext.setCell ?_ (by simp) _)
  have HM0 : Hid (MapE W0 Try.prog 82 w.heap.size (fun _ => none)) := by rw [hW0]; exact MapE.new w _ _ _ rfl
  have hz0 : W0.heap.size = w.heap.size + 1 := by rw [hW0]; simp
  have HSP := Lib.hid (spots_any b ab W H l W0 (by omega) (by omega) (hI.ext hx0))
  have HIM := Lib.hid (hI.ext hx0)
  have hbb := hI.lt
  have hba := hI.px.lt
  have HBN : Hid (∀ q, q ∈ spotsTo W l (H * W) → ∃ x y : Nat, q = ((x : Int), (y : Int)) ∧ x < W ∧ y < H) := fun q h => pxP_nat (spotsTo_mem.1 h)
  have hpn : (spotsTo W l (H * W)).length ≤ 1600 := Nat.le_trans (spotsTo_len _ _ _) (Nat.le_trans (Nat.mul_le_mul hH hW) (by omega))
  have HOK : Hid (SdOk (pxl W H l) (sdM (pxl W H l) (spotsTo W l (H * W)) (0, 0) 0)) := sdM_ok
  have HGET : Hid (∀ w', Wrote (fun k => k = w.heap.size) W0 w' → ∀ (x y : Int) t, pxl W H l x y = t → Calls Try.prog 57 #[.pointer (some ⟨b, 0, none⟩), .int .i64 x, .int .i64 y] w' fun e w'' => e = .returned (.bool t) ∧ w'.Ext w'') := fun w' hx x y t ht =>
    get_any b ab W H l x y w' (by omega) (by omega) (HIM.out.keep (hx.block b (by omega) (by omega)) (hx.block ab (by omega) (by omega))) t ht
  have HX0 := Lib.hid hx0
  clear hI hbb hba HIM hx0
  generalize spotsTo W l (H * W) = ps at *
  generalize pxl W H l = f at *
  generalize hq : w.heap.size = q at *
  have hmm := @run_makeMap Try.prog
  go_enter Try.func40, Try.ntmps40
  go_upto_region 2 with fail
  rw [← hW0]
  clear hmm hW0
  go_wp2_with fail
  refine HSP.out.mono ?_
  rintro e w2 ⟨a2, c2, rfl, hx2, ho2⟩
  have HW2 : Hid (Wrote (fun k => k = q) W0 w2) := hx2.wrote _
  have HXW := Lib.hid (HX0.out.trans hx2)
  have HST : Hid (SdSt w2 q (sdM f (ps.take 0) (0, 0) 0) w2) := ⟨.refl _ _, MapE.congr (HM0.out.ext hx2) fun e => (sdM_nil e).symm⟩
  have HPX : Hid (∀ wr, Wrote (fun k => k = q) w2 wr → RowP wr a2 ps) := fun wr hx => (ho2.wrote hx fun k h1 h2 => by omega).row
  clear hx2 ho2 HM0 HX0 HSP hz0
  go_wp2
  go_loopw [5, 6, 7, 12] (fun _ _ _ i wr => ∃ k : Nat, k ≤ ps.length ∧ i = .int .i64 k ∧ Hid (SdSt w2 q (sdM f (ps.take k) (0, 0) 0) wr)) (fun _ _ _ i _ => ps.length - (intOf i).toNat)
  case atStart => exact ⟨0, Nat.zero_le _, rfl, HST⟩
  case round =>
    obtain ⟨k, hk, rfl, HS⟩ := hrel
    clear HST
    obtain ⟨wo, rfl⟩ : ∃ wo : World, wo = wr := ⟨_, rfl⟩
    have hk0 : (0 : Int) ≤ (k : Int) := by omega
    by_cases hlt : k < ps.length
    · have hlt' : (k : Int) < (ps.length : Int) := by omega
      obtain ⟨b1, o1, rfl, hc0, hc1⟩ := (HPX.out _ HS.out.w).at hlt
      have hmem : ps.getD k (0, 0) ∈ ps := getD_mem hlt
      obtain ⟨x, y, hs, hxW, hyH⟩ := HBN.out _ hmem
      have HTK : Hid (ps.take k ++ [((x : Int), (y : Int))] = ps.take (k + 1)) := by
        show _ = _
        rw [List.take_succ_eq_append_getElem hlt, ← hs, List.getD_eq_getElem?_getD, List.getElem?_eq_getElem hlt]
        rfl
      have HLN : Hid (((ps.take k ++ [((x : Int), (y : Int))]).flatMap fun q => (List.range 4).map (edgP q)).length < maxLen) := by
        show _ < _
        rw [flat4_len, HTK.out, List.length_take]
        unfold maxLen
        omega
      rw [hs] at hc0 hc1
      dsimp only at hc0 hc1
      clear hs hmem
      obtain ⟨w3, hw3⟩ : ∃ w3, w3 = wo.alloc (.cells #[.int .i64 x, .int .i64 y] 33) := ⟨_, rfl⟩
      have hx3 : wo.Ext w3 := by rw [hw3]; repeat (first | exact World.Ext.refl _ | exact ⟨_, rfl⟩ | assumption | refine World.Ext.over ?_ _ | refine World.Ext.drewN ?_ _ | refine World.Ext.drew ?_ | refine World.Ext.alloc ?_ _ | refine World.Ext.setCell ?_ (by simp) _)
      have d0 : w3.cell? ⟨wo.heap.size, 0, none⟩ = some (.int .i64 x) := by rw [hw3]; simp [go_sem]
      have d1 : w3.cell? ⟨wo.heap.size, 1, none⟩ = some (.int .i64 y) := by rw [hw3]; simp [go_sem]
      have l3 := World.block_lt_of_cell? _ _ d0
      have HS0 : Hid (SdSt w2 q (sdM f (ps.take k) ((x : Int), (y : Int)) 0) w3) := ⟨(HS.out.ext hx3).w, MapE.congr (HS.out.ext hx3).m fun e => sdM_same e⟩
      go_upto_region 5 with fail
      rw [← hw3]
      clear hw3 hx3 HS hc0 hc1
      have hx0' : (0 : Int) ≤ (x : Int) := by omega
      have hy0' : (0 : Int) ≤ (y : Int) := by omega
      have hxW' : (x : Int) < 38 := by omega
      have hyH' : (y : Int) < 38 := by omega
      go_region_held3 (fun w' => w'.cell? ⟨wo.heap.size, 0, none⟩ = some (.int .i64 x) ∧ w'.cell? ⟨wo.heap.size, 1, none⟩ = some (.int .i64 y))
        (first | (refine ⟨World.Ext.cell ?_ d0, World.Ext.cell ?_ d1⟩ <;> ((repeat (first | exact World.Ext.refl _ | exact ⟨_, rfl⟩ | assumption | refine World.Ext.over ?_ _ | refine World.Ext.drewN ?_ _ | refine World.Ext.drew ?_ | refine World.Ext.alloc ?_ _ | refine World.Ext.setCell ?_ ?_ _ | (simp; done))); done)))
        (fail)
      have HS0' : Hid (SdSt w2 q (sdM f (ps.take k) ((x : Int), (y : Int)) 0) w3.drew) := HS0.out.ext (by repeat (first | exact World.Ext.refl _ | exact ⟨_, rfl⟩ | assumption | refine World.Ext.over ?_ _ | refine World.Ext.drewN ?_ _ | refine World.Ext.drew ?_ | refine World.Ext.alloc ?_ _ | refine World.Ext.setCell ?_ (by simp) _))
      clear HS0 d0 d1 l3
      generalize w3.drew = w4 at *
      have HS0 := HS0'
      clear HS0'
      obtain ⟨t0, ht⟩ : ∃ t, f ((x : Int)) ((y : Int) - 1) = t := ⟨_, rfl⟩
      have HKEY := Lib.hid (edgKeyOf (e := ⟨(x : Int), (y : Int), 0⟩) (spotWf (x := (x : Int)) (y := (y : Int)) (by omega) (by omega)).1 (spotWf (x := (x : Int)) (y := (y : Int)) (by omega) (by omega)).2 (spotWf (x := ((0 : Nat) : Int)) (y := 0) (by omega) (by omega)).1)
      have HLL : Hid (∀ (e : Edg) v, sdM f (ps.take k) ((x : Int), (y : Int)) 0 e = some v → e ∈ (ps.take k ++ [((x : Int), (y : Int))]).flatMap fun q => (List.range 4).map (edgP q)) := fun e v h => sdM_mem h
      have HSTP : Hid (∀ e, (if e = (⟨(x : Int), (y : Int), 0⟩ : Edg) then some (Value.bool (!t0)) else sdM f (ps.take k) ((x : Int), (y : Int)) 0 e) = sdM f (ps.take k) ((x : Int), (y : Int)) 1 e) := fun e => sdM_step (p := ((x : Int), (y : Int))) (j := 0) (by omega) (by simpa [edgP, oppE] using ht) e
      have HT := Lib.hid ht
      clear ht
      go_wp2_with fail
      refine (HGET.out _ (HW2.out.trans HS0.out.w) _ _ t0 HT.out).mono ?_
      rintro e w0a ⟨rfl, hx0a⟩
      have HA0 := Lib.hid (HS0.out.ext hx0a)
      clear hx0a HS0 HT
      go_wp2_with (at_mapUpdate; refine wpList_mapUpdate_E _ rfl _ _ _ 78 rfl 82 4 Try.edgKey edgMap q (sdM f (ps.take k) ((x : Int), (y : Int)) 0) rfl HA0.out.m _ HLL.out HLN.out ⟨(x : Int), (y : Int), 0⟩ _ (.bool (!t0)) rfl rfl HKEY.out (fun w0b hm0 hg0 => ?_); have HS1 : Hid (SdSt w2 q (sdM f (ps.take k) ((x : Int), (y : Int)) 1) w0b) := HA0.out.put (hm0.congr HSTP.out) hg0; clear hm0 hg0 HA0 HKEY HLL HSTP)
      obtain ⟨t1, ht⟩ : ∃ t, f ((x : Int) + 1) ((y : Int)) = t := ⟨_, rfl⟩
      have HKEY := Lib.hid (edgKeyOf (e := ⟨(x : Int) + 1, (y : Int), 1⟩) (spotWf (x := (x : Int) + 1) (y := (y : Int)) (by omega) (by omega)).1 (spotWf (x := (x : Int) + 1) (y := (y : Int)) (by omega) (by omega)).2 (spotWf (x := ((1 : Nat) : Int)) (y := 0) (by omega) (by omega)).1)
      have HLL : Hid (∀ (e : Edg) v, sdM f (ps.take k) ((x : Int), (y : Int)) 1 e = some v → e ∈ (ps.take k ++ [((x : Int), (y : Int))]).flatMap fun q => (List.range 4).map (edgP q)) := fun e v h => sdM_mem h
      have HSTP : Hid (∀ e, (if e = (⟨(x : Int) + 1, (y : Int), 1⟩ : Edg) then some (Value.bool (!t1)) else sdM f (ps.take k) ((x : Int), (y : Int)) 1 e) = sdM f (ps.take k) ((x : Int), (y : Int)) 2 e) := fun e => sdM_step (p := ((x : Int), (y : Int))) (j := 1) (by omega) (by simpa [edgP, oppE] using ht) e
      have HT := Lib.hid ht
      clear ht
      refine (HGET.out _ (HW2.out.trans HS1.out.w) _ _ t1 HT.out).mono ?_
      rintro e w1a ⟨rfl, hx1a⟩
      have HA1 := Lib.hid (HS1.out.ext hx1a)
      clear hx1a HS1 HT
      go_wp2_with (at_mapUpdate; refine wpList_mapUpdate_E _ rfl _ _ _ 78 rfl 82 4 Try.edgKey edgMap q (sdM f (ps.take k) ((x : Int), (y : Int)) 1) rfl HA1.out.m _ HLL.out HLN.out ⟨(x : Int) + 1, (y : Int), 1⟩ _ (.bool (!t1)) rfl rfl HKEY.out (fun w1b hm1 hg1 => ?_); have HS2 : Hid (SdSt w2 q (sdM f (ps.take k) ((x : Int), (y : Int)) 2) w1b) := HA1.out.put (hm1.congr HSTP.out) hg1; clear hm1 hg1 HA1 HKEY HLL HSTP)
      obtain ⟨t2, ht⟩ : ∃ t, f ((x : Int)) ((y : Int) + 1) = t := ⟨_, rfl⟩
      have HKEY := Lib.hid (edgKeyOf (e := ⟨(x : Int) + 1, (y : Int) + 1, 2⟩) (spotWf (x := (x : Int) + 1) (y := (y : Int) + 1) (by omega) (by omega)).1 (spotWf (x := (x : Int) + 1) (y := (y : Int) + 1) (by omega) (by omega)).2 (spotWf (x := ((2 : Nat) : Int)) (y := 0) (by omega) (by omega)).1)
      have HLL : Hid (∀ (e : Edg) v, sdM f (ps.take k) ((x : Int), (y : Int)) 2 e = some v → e ∈ (ps.take k ++ [((x : Int), (y : Int))]).flatMap fun q => (List.range 4).map (edgP q)) := fun e v h => sdM_mem h
      have HSTP : Hid (∀ e, (if e = (⟨(x : Int) + 1, (y : Int) + 1, 2⟩ : Edg) then some (Value.bool (!t2)) else sdM f (ps.take k) ((x : Int), (y : Int)) 2 e) = sdM f (ps.take k) ((x : Int), (y : Int)) 3 e) := fun e => sdM_step (p := ((x : Int), (y : Int))) (j := 2) (by omega) (by simpa [edgP, oppE] using ht) e
      have HT := Lib.hid ht
      clear ht
      refine (HGET.out _ (HW2.out.trans HS2.out.w) _ _ t2 HT.out).mono ?_
      rintro e w2a ⟨rfl, hx2a⟩
      have HA2 := Lib.hid (HS2.out.ext hx2a)
      clear hx2a HS2 HT
      go_wp2_with (at_mapUpdate; refine wpList_mapUpdate_E _ rfl _ _ _ 78 rfl 82 4 Try.edgKey edgMap q (sdM f (ps.take k) ((x : Int), (y : Int)) 2) rfl HA2.out.m _ HLL.out HLN.out ⟨(x : Int) + 1, (y : Int) + 1, 2⟩ _ (.bool (!t2)) rfl rfl HKEY.out (fun w2b hm2 hg2 => ?_); have HS3 : Hid (SdSt w2 q (sdM f (ps.take k) ((x : Int), (y : Int)) 3) w2b) := HA2.out.put (hm2.congr HSTP.out) hg2; clear hm2 hg2 HA2 HKEY HLL HSTP)
      obtain ⟨t3, ht⟩ : ∃ t, f ((x : Int) - 1) ((y : Int)) = t := ⟨_, rfl⟩
      have HKEY := Lib.hid (edgKeyOf (e := ⟨(x : Int), (y : Int) + 1, 3⟩) (spotWf (x := (x : Int)) (y := (y : Int) + 1) (by omega) (by omega)).1 (spotWf (x := (x : Int)) (y := (y : Int) + 1) (by omega) (by omega)).2 (spotWf (x := ((3 : Nat) : Int)) (y := 0) (by omega) (by omega)).1)
      have HLL : Hid (∀ (e : Edg) v, sdM f (ps.take k) ((x : Int), (y : Int)) 3 e = some v → e ∈ (ps.take k ++ [((x : Int), (y : Int))]).flatMap fun q => (List.range 4).map (edgP q)) := fun e v h => sdM_mem h
      have HSTP : Hid (∀ e, (if e = (⟨(x : Int), (y : Int) + 1, 3⟩ : Edg) then some (Value.bool (!t3)) else sdM f (ps.take k) ((x : Int), (y : Int)) 3 e) = sdM f (ps.take k) ((x : Int), (y : Int)) 4 e) := fun e => sdM_step (p := ((x : Int), (y : Int))) (j := 3) (by omega) (by simpa [edgP, oppE] using ht) e
      have HT := Lib.hid ht
      clear ht
      refine (HGET.out _ (HW2.out.trans HS3.out.w) _ _ t3 HT.out).mono ?_
      rintro e w3a ⟨rfl, hx3a⟩
      have HA3 := Lib.hid (HS3.out.ext hx3a)
      clear hx3a HS3 HT
      go_wp2_with (at_mapUpdate; refine wpList_mapUpdate_E _ rfl _ _ _ 78 rfl 82 4 Try.edgKey edgMap q (sdM f (ps.take k) ((x : Int), (y : Int)) 3) rfl HA3.out.m _ HLL.out HLN.out ⟨(x : Int), (y : Int) + 1, 3⟩ _ (.bool (!t3)) rfl rfl HKEY.out (fun w3b hm3 hg3 => ?_); have HS4 : Hid (SdSt w2 q (sdM f (ps.take k) ((x : Int), (y : Int)) 4) w3b) := HA3.out.put (hm3.congr HSTP.out) hg3; clear hm3 hg3 HA3 HKEY HLL HSTP)
      have HS9 : Hid (SdSt w2 q (sdM f (ps.take (k + 1)) (0, 0) 0) w3b) := ⟨HS4.out.w, HS4.out.m.congr fun e => by rw [← HTK.out]; exact sdM_next e⟩
      clear HS4
      go_roundw
      case rel => exact ⟨k + 1, by omega, by go_num, HS9⟩
      case measure => simp [intOf]; omega
    · have hke : k = ps.length := by omega
      have hnl : ¬ (k : Int) < (ps.length : Int) := by omega
      have HR : Hid (w.Ext wo ∧ MapE wo Try.prog 82 q (sdM f ps (0, 0) 0)) := by
        have h := HS.out.m
        rw [hke, List.take_length] at h
        exact ⟨HXW.out.wroteNew HS.out.w fun k h1 h2 => by omega, h⟩
      have HRR : Hid (SidesRet w f (.returned (.map (some q))) wo) := ⟨q, _, rfl, HR.out.1, by omega, HOK.out, HR.out.2⟩
      clear HS hke HR
      go_wp2
      go_ret
      exact HRR.out
end Go.Proofs.Ytelaoimcaidoiaa

/- Borders: the program follows one. -/
namespace Go.Proofs.Ytelaoimcaidoiaa
open Go Go.RowKit Go.MapKept Go.ChangeMaps
theorem Res.set2 {w W1 : World} {p : Nat} {T : TypeId} {u v : Value} (a b : Value) (hX : w.Ext W1) (hp : w.heap.size ≤ p) (h : Two W1 p T u v) :
    W1.cell? ⟨p, 0, none⟩ = some u ∧ W1.frozen? ⟨p, 0, none⟩ = false ∧ W1.cell? ⟨p, 1, none⟩ = some v ∧ W1.frozen? ⟨p, 1, none⟩ = false ∧
    ((W1.setCell ⟨p, 0, none⟩ a).setCell ⟨p, 1, none⟩ b).cell? ⟨p, 0, none⟩ = some a ∧ ((W1.setCell ⟨p, 0, none⟩ a).setCell ⟨p, 1, none⟩ b).cell? ⟨p, 1, none⟩ = some b ∧
    Hid (w.Ext ((W1.setCell ⟨p, 0, none⟩ a).setCell ⟨p, 1, none⟩ b)) :=
  ⟨h.cell0, h.free 0, h.cell1, h.free 1, (two_put1 (two_put0 h a) b).cell0, (two_put1 (two_put0 h a) b).cell1, (hX.setCell (p := ⟨p, 0, none⟩) hp a).setCell (p := ⟨p, 1, none⟩) hp b⟩
set_option maxRecDepth 5000 in
set_option maxHeartbeats 3200000 in
theorem moved_any (x y : Int) (k : Nat) (w : World) (hk : k < 4) (hx : -1000 ≤ x ∧ x ≤ 1000) (hy : -1000 ≤ y ∧ y ≤ 1000) :
    Calls Try.prog 58 #[.agg #[.int .i64 x, .int .i64 y], .int .i64 (k : Int)] w fun e w' => e = .returned (.agg #[.int .i64 (x + dX k), .int .i64 (y + dY k)]) ∧ w.Ext w' := by
  obtain ⟨W0, hW0⟩ : ∃ W0, W0 = (w.alloc (.cells #[.int .i64 x, .int .i64 y] 33)).alloc (.cells #[.int .i64 0, .int .i64 0] 33) := ⟨_, rfl⟩
  have hx0 : w.Ext W0 := by rw [hW0]; repeat (first | exact World.Ext.refl _ | exact ⟨_, rfl⟩ | assumption | refine World.Ext.over ?_ _ | refine World.Ext.drewN ?_ _ | refine World.Ext.drew ?_ | refine World.Ext.alloc ?_ _ | refine World.Ext.setCell ?_ (by simp) _)
  have HA : Hid (Two W0 w.heap.size 33 (.int .i64 x) (.int .i64 y)) := by rw [hW0]; exact (Two.new w _ _ _ _ rfl).ext (by repeat (first | exact World.Ext.refl _ | exact ⟨_, rfl⟩ | assumption | refine World.Ext.over ?_ _ | refine World.Ext.drewN ?_ _ | refine World.Ext.drew ?_ | refine World.Ext.alloc ?_ _ | refine World.Ext.setCell ?_ (by simp) _))
  have HB : Hid (Two W0 (w.heap.size + 1) 33 (.int .i64 0) (.int .i64 0)) := by rw [hW0]; exact Two.new _ _ _ _ _ (by simp)
  have c0 := HA.out.cell0
  have c1 := HA.out.cell1
  have l0 := HA.out.lt
  have l1 := HB.out.lt
  obtain ⟨X, hX⟩ : ∃ X, x + dX k = X := ⟨_, rfl⟩
  obtain ⟨Y, hY⟩ : ∃ Y, y + dY k = Y := ⟨_, rfl⟩
  rw [hX, hY]
  obtain ⟨s0, s1, s2, s3, s4, s5, HR⟩ := Res.set2 (.int .i64 X) (.int .i64 Y) hx0 (by omega) HB.out
  clear hx0 HA HB
  have h4 : k = 0 ∨ k = 1 ∨ k = 2 ∨ k = 3 := by omega
  rcases h4 with rfl | rfl | rfl | rfl
  · rw [show x + dX 0 = x + 1 from rfl] at hX
    rw [show y + dY 0 = y from by simp [dY]] at hY
    subst hX hY
    go_enter Try.func58, Try.ntmps58
    go_upto_region 1 with fail
    rw [← hW0]
    clear hW0
    go_wp2
    exact bodyPost_ret (v := .agg #[.int .i64 (x + 1), .int .i64 y]) (by simp [results, Try.results58, go_sem, s4, s5]) rfl ⟨rfl, HR.out⟩
  · rw [show x + dX 1 = x from by simp [dX]] at hX
    rw [show y + dY 1 = y + 1 from rfl] at hY
    subst hX hY
    go_enter Try.func58, Try.ntmps58
    go_upto_region 1 with fail
    rw [← hW0]
    clear hW0
    go_wp2
    exact bodyPost_ret (v := .agg #[.int .i64 x, .int .i64 (y + 1)]) (by simp [results, Try.results58, go_sem, s4, s5]) rfl ⟨rfl, HR.out⟩
  · rw [show x + dX 2 = x - 1 from rfl] at hX
    rw [show y + dY 2 = y from by simp [dY]] at hY
    subst hX hY
    go_enter Try.func58, Try.ntmps58
    go_upto_region 1 with fail
    rw [← hW0]
    clear hW0
    go_wp2
    exact bodyPost_ret (v := .agg #[.int .i64 (x - 1), .int .i64 y]) (by simp [results, Try.results58, go_sem, s4, s5]) rfl ⟨rfl, HR.out⟩
  · rw [show x + dX 3 = x from by simp [dX]] at hX
    rw [show y + dY 3 = y - 1 from rfl] at hY
    subst hX hY
    go_enter Try.func58, Try.ntmps58
    go_upto_region 1 with fail
    rw [← hW0]
    clear hW0
    go_wp2
    exact bodyPost_ret (v := .agg #[.int .i64 x, .int .i64 (y - 1)]) (by simp [results, Try.results58, go_sem, s4, s5]) rfl ⟨rfl, HR.out⟩
end Go.Proofs.Ytelaoimcaidoiaa

/- Borders: the program follows one. -/
namespace Go.Proofs.Ytelaoimcaidoiaa
open Go Go.RowKit Go.MapKept Go.ChangeMaps
def trn (j : Nat) : Nat := if j = 0 then 1 else if j = 1 then 0 else 3
theorem trn_le (j : Nat) : trn j ≤ 3 := by unfold trn; split <;> (try split) <;> omega
theorem trn_hit {C : Nat → Bool} {k k' j : Nat} (hk : k < 4) (h : k' = if C ((k + 1) % 4) then (k + 1) % 4 else if C k then k else (k + 3) % 4) (hj : j < 3) (hc : C ((k + trn j) % 4) = true) (hn : ∀ j', j' < j → C ((k + trn j') % 4) = false) : k' = (k + trn j) % 4 := by
  have e1 : trn 1 = 0 := rfl
  have e2 : trn 2 = 3 := rfl
  have e0 : trn 0 = 1 := rfl
  have hm : (k + 0) % 4 = k := by omega
  have h3 : j = 0 ∨ j = 1 ∨ j = 2 := by omega
  rcases h3 with rfl | rfl | rfl
  · rw [e0] at hc ⊢
    rw [hc] at h
    simpa using h
  · have n0 := hn 0 (by omega)
    rw [e0] at n0
    rw [e1, hm] at hc ⊢
    rw [n0, hc] at h
    simpa using h
  · have n0 := hn 0 (by omega)
    have n1 := hn 1 (by omega)
    rw [e0] at n0
    rw [e1, hm] at n1
    rw [e2]
    rw [n0, n1] at h
    simpa using h
theorem trn_none {C : Nat → Bool} {k k' : Nat} (hk : k < 4) (h : k' = if C ((k + 1) % 4) then (k + 1) % 4 else if C k then k else (k + 3) % 4) (hc : C k' = true) (hn : ∀ j', j' < 3 → C ((k + trn j') % 4) = false) : False := by
  have n0 : C ((k + 1) % 4) = false := hn 0 (by omega)
  have n1 : C ((k + 0) % 4) = false := hn 1 (by omega)
  have n2 : C ((k + 3) % 4) = false := hn 2 (by omega)
  rw [show (k + 0) % 4 = k by omega] at n1
  rw [n0, n1] at h
  simp at h
  rw [h, n2] at hc
  cases hc
/-- What is held behind the first n steps. -/
def dnM (f : Int → Int → Bool) (e : Edg) (n : Nat) (g : Edg → Option Value) (p : Edg) : Option Value := if (List.range n).any (fun i => decide (itr f i e = p)) then some (.bool true) else g p
theorem dnM_zero {f : Int → Int → Bool} {e : Edg} {g : Edg → Option Value} (p : Edg) : g p = dnM f e 0 g p := rfl
theorem dnM_succ {f : Int → Int → Bool} {e : Edg} {g : Edg → Option Value} {n : Nat} (p : Edg) : (if p = itr f n e then some (Value.bool true) else dnM f e n g p) = dnM f e (n + 1) g p := by
  unfold dnM
  rw [List.range_succ, List.any_append]
  by_cases h : p = itr f n e
  · rw [if_pos h, if_pos]
    simp [h]
  · rw [if_neg h]
    have : decide (itr f n e = p) = false := decide_eq_false fun hh => h hh.symm
    simp [this]
theorem dnM_mem {f : Int → Int → Bool} {e : Edg} {g : Edg → Option Value} {L : List Edg} (hL : ∀ p v, g p = some v → p ∈ L) {n : Nat} (p : Edg) (v : Value) (h : dnM f e n g p = some v) : p ∈ L ++ (List.range n).map fun i => itr f i e := by
  unfold dnM at h
  split at h
  · rename_i hh
    rw [List.any_eq_true] at hh
    obtain ⟨i, hi, he⟩ := hh
    exact List.mem_append.2 (Or.inr (List.mem_map.2 ⟨i, hi, of_decide_eq_true he⟩))
  · exact List.mem_append.2 (Or.inl (hL p v h))
theorem Wrote.boxNew {S : Nat → Prop} {w wr : World} (h : Wrote S w wr) {a : Addr} (ha : w.heap.size ≤ a.block) (v : Value) : Wrote S w (wr.setCell a v) := by
  refine ⟨h.os, h.tape, h.output, by have := h.size; simpa [World.setCell] using this, fun k hk hs => ?_⟩
  rw [Below.heap_setCell _ _ _ _ (by omega)]
  exact h.block k hk hs
theorem Try.eqSpotG (a b c d : Int) (w : World) : (Op.equalIn 9999 33 (.agg #[.int .i64 a, .int .i64 b]) (.agg #[.int .i64 c, .int .i64 d])).run Try.prog w = .ok (a == c && b == d) w := by
  have u3 := Try.underlying2
  have hS : Try.prog.underlying 33 = some (.struct (Try.prog.fieldsOf 33)) := by kernel_rfl
  have hp : Try.prog.stoodInHeld 33 = false := by kernel_rfl
  rw [show (9999 : Nat) = 9998 + 1 from rfl, run_equalIn_agg w 9998 33 _ _ hS hp]
  simp only [Program.fieldsOf, Try.underlying33]
  go_simp
  by_cases h1 : a = c <;> by_cases h2 : b = d <;> simp [h1, h2]
@[go_sem] theorem Try.eqEdgF (a b c a' b' c' : Int) (w : World) : (Op.equalIn 10000 82 (.agg #[.int .i64 a, .int .i64 b, .int .i64 c]) (.agg #[.int .i64 a', .int .i64 b', .int .i64 c'])).run Try.prog w = .ok ((a == a' && b == b') && c == c') w := by
  have u3 := Try.underlying2
  have u4 := Try.underlying3
  have hS : Try.prog.underlying 82 = some (.struct (Try.prog.fieldsOf 82)) := by kernel_rfl
  have hp : Try.prog.stoodInHeld 82 = false := by kernel_rfl
  have hS2 : Try.prog.underlying 33 = some (.struct (Try.prog.fieldsOf 33)) := by kernel_rfl
  have hp2 : Try.prog.stoodInHeld 33 = false := by kernel_rfl
  have hq := Try.eqSpotG a b a' b' w
  rw [show (10000 : Nat) = 9999 + 1 from rfl, run_equalIn_agg w 9999 82 _ _ hS hp]
  simp only [Program.fieldsOf, Try.underlying82]
  have hc : Try.prog.cellsOf 33 = 2 := Try.spotCells
  have h1 : ∀ x y z : Int, (part 33 #[.int .i64 x, .int .i64 y, .int .i64 z] 0).run Try.prog w = .ok (.agg #[.int .i64 x, .int .i64 y]) w := fun x y z => by kernel_rfl
  have h2 : ∀ x y z : Int, (part 3 #[.int .i64 x, .int .i64 y, .int .i64 z] 2).run Try.prog w = .ok (.int .i64 z) w := fun x y z => by kernel_rfl
  have hi : (Op.equalIn 9999 3 (.int .i64 c) (.int .i64 c')).run Try.prog w = .ok (c == c') w := run_equalIn_int w 9998 _ _ _ _ _ u4
  simp [Op.eqFields, h1, h2, hq, hi]
  by_cases g1 : a = a' <;> by_cases g2 : b = b' <;> by_cases g3 : c = c' <;> simp [g1, g2, g3]
/-- A border under way. -/
structure FwE (w : World) (md p8 : Nat) (x0 y0 : Int) (e : Edg) (v : Value) (bs : List Int) (g : Edg → Option Value) (wr : World) : Prop where
  x : Wrote (fun k => k = md) w wr
  s : Tri wr w.heap.size 82 (.int .i64 x0) (.int .i64 y0) (.int .i64 0)
  r : Tri wr (w.heap.size + 1) 35 (.int .i64 0) (.int .i64 0) (.string ⟨#[]⟩)
  a : Tri wr p8 82 (.int .i64 e.x) (.int .i64 e.y) (.int .i64 (e.k : Int))
  o : GrowOf (Value.int .u8) w.heap.size 5 wr v bs
  m : MapE wr Try.prog 82 md g
section
variable {w wr w' : World} {md p8 : Nat} {x0 y0 : Int} {e e' : Edg} {v v' : Value} {bs : List Int} {g g' : Edg → Option Value}
theorem FwE.ext (h : FwE w md p8 x0 y0 e v bs g wr) (hx : wr.Ext w') : FwE w md p8 x0 y0 e v bs g w' := ⟨h.x.trans (hx.wrote _), h.s.ext hx, h.r.ext hx, h.a.ext hx, h.o.ext hx, h.m.ext hx⟩
theorem FwE.upd (h : FwE w md p8 x0 y0 e v bs g wr) (hm : MapE w' Try.prog 82 md g') (hg : wr.grownBy w' (some md)) : FwE w md p8 x0 y0 e v bs g' w' := by
  have hs : wr.heap[w.heap.size]? = _ := h.s
  have hr : wr.heap[w.heap.size + 1]? = _ := h.r
  have ha : wr.heap[p8]? = _ := h.a
  exact ⟨h.x.grown hg fun _ e => Or.inl (Option.some.inj e).symm, h.s.keep (hg.block _ h.s.lt fun e => h.m.ne hs (Option.some.inj e)), h.r.keep (hg.block _ h.r.lt fun e => h.m.ne hr (Option.some.inj e)), h.a.keep (hg.block _ h.a.lt fun e => h.m.ne ha (Option.some.inj e)),
    World.ownsRow.keep h.o fun k hk => hg.block k (World.ownsRow.lt h.o k hk).2 fun e => h.m.neRow h.o (by rw [hk, ← e]), hm⟩
theorem FwE.push {z : Int} (h : FwE w md p8 x0 y0 e v bs g wr) (hg : wr.grownBy w' v.ownBlock) (ho : w'.ownsRow w.heap.size 5 1 v' (bs.length + 1) (bs.map (Value.int .u8) ++ [.int .u8 z])) : FwE w md p8 x0 y0 e v' (bs ++ [z]) g w' := by
  have hs : wr.heap[w.heap.size]? = _ := h.s
  have hr : wr.heap[w.heap.size + 1]? = _ := h.r
  have ha : wr.heap[p8]? = _ := h.a
  exact ⟨h.x.grown hg fun k hk => Or.inr (World.ownsRow.lt h.o k hk).1, h.s.keep (hg.block _ h.s.lt (World.ownsRow.ne h.o hs (by decide))), h.r.keep (hg.block _ h.r.lt (World.ownsRow.ne h.o hr (by decide))), h.a.keep (hg.block _ h.a.lt (World.ownsRow.ne h.o ha (by decide))), GrowOf.push ho, h.m.grown hg (h.m.neRow h.o)⟩
theorem FwE.move (h : FwE w md p8 x0 y0 e v bs g wr) (hl : w.heap.size + 2 ≤ p8) (e' : Edg) : FwE w md p8 x0 y0 e' v bs g (((wr.setCell ⟨p8, 0, none⟩ (.int .i64 e'.x)).setCell ⟨p8, 1, none⟩ (.int .i64 e'.y)).setCell ⟨p8, 2, none⟩ (.int .i64 (e'.k : Int))) := by
  have ha : wr.heap[p8]? = _ := h.a
  have hne : some p8 ≠ v.ownBlock := World.ownsRow.ne h.o ha (by decide)
  have hm : p8 ≠ md := h.m.ne ha
  have hk : ∀ k, k ≠ p8 → (((wr.setCell ⟨p8, 0, none⟩ (.int .i64 e'.x)).setCell ⟨p8, 1, none⟩ (.int .i64 e'.y)).setCell ⟨p8, 2, none⟩ (.int .i64 (e'.k : Int))).heap[k]? = wr.heap[k]? := fun k hk => by
    rw [Below.heap_setCell _ _ _ _ hk, Below.heap_setCell _ _ _ _ hk, Below.heap_setCell _ _ _ _ hk]
  exact ⟨Wrote.boxNew (Wrote.boxNew (Wrote.boxNew h.x (a := ⟨p8, 0, none⟩) (by dsimp only; omega) _) (a := ⟨p8, 1, none⟩) (by dsimp only; omega) _) (a := ⟨p8, 2, none⟩) (by dsimp only; omega) _, h.s.keep (hk _ (by omega)), h.r.keep (hk _ (by omega)), tri_put h.a _ _ _,
    World.ownsRow.keep h.o fun k hk' => hk k fun e => hne (by rw [hk', e]), h.m.keep (hk _ (Ne.symm hm))⟩
theorem FwE.rebox (h : FwE w md p8 x0 y0 e v bs g wr) : FwE w md wr.heap.size x0 y0 e v bs g (wr.alloc (.cells #[.int .i64 e.x, .int .i64 e.y, .int .i64 (e.k : Int)] 82)) := by
  have h' := h.ext ((World.Ext.refl wr).alloc (.cells #[.int .i64 e.x, .int .i64 e.y, .int .i64 (e.k : Int)] 82))
  exact ⟨h'.x, h'.s, h'.r, Tri.new _ _ _ _ _ _ rfl, h'.o, h'.m⟩
theorem FwE.fin (h : FwE w md p8 x0 y0 e v bs g wr) (a b c : Value) :
    wr.cell? ⟨w.heap.size + 1, 0, none⟩ = some (.int .i64 0) ∧ wr.frozen? ⟨w.heap.size + 1, 0, none⟩ = false ∧ wr.cell? ⟨w.heap.size + 1, 1, none⟩ = some (.int .i64 0) ∧ wr.frozen? ⟨w.heap.size + 1, 1, none⟩ = false ∧ wr.cell? ⟨w.heap.size + 1, 2, none⟩ = some (.string ⟨#[]⟩) ∧ wr.frozen? ⟨w.heap.size + 1, 2, none⟩ = false ∧
    (((wr.setCell ⟨w.heap.size + 1, 0, none⟩ a).setCell ⟨w.heap.size + 1, 1, none⟩ b).setCell ⟨w.heap.size + 1, 2, none⟩ c).cell? ⟨w.heap.size + 1, 0, none⟩ = some a ∧ (((wr.setCell ⟨w.heap.size + 1, 0, none⟩ a).setCell ⟨w.heap.size + 1, 1, none⟩ b).setCell ⟨w.heap.size + 1, 2, none⟩ c).cell? ⟨w.heap.size + 1, 1, none⟩ = some b ∧
    (((wr.setCell ⟨w.heap.size + 1, 0, none⟩ a).setCell ⟨w.heap.size + 1, 1, none⟩ b).setCell ⟨w.heap.size + 1, 2, none⟩ c).cell? ⟨w.heap.size + 1, 2, none⟩ = some c ∧
    Hid (Wrote (fun k => k = md) w (((wr.setCell ⟨w.heap.size + 1, 0, none⟩ a).setCell ⟨w.heap.size + 1, 1, none⟩ b).setCell ⟨w.heap.size + 1, 2, none⟩ c) ∧ MapE (((wr.setCell ⟨w.heap.size + 1, 0, none⟩ a).setCell ⟨w.heap.size + 1, 1, none⟩ b).setCell ⟨w.heap.size + 1, 2, none⟩ c) Try.prog 82 md g) := by
  have hr : wr.heap[w.heap.size + 1]? = _ := h.r
  have hm : w.heap.size + 1 ≠ md := h.m.ne hr
  have ht := tri_put h.r a b c
  refine ⟨h.r.cell0, h.r.free 0, h.r.cell1, h.r.free 1, h.r.cell2, h.r.free 2, ht.cell0, ht.cell1, ht.cell2, ?_, ?_⟩
  · exact Wrote.boxNew (Wrote.boxNew (Wrote.boxNew h.x (a := ⟨w.heap.size + 1, 0, none⟩) (by dsimp only; omega) _) (a := ⟨w.heap.size + 1, 1, none⟩) (by dsimp only; omega) _) (a := ⟨w.heap.size + 1, 2, none⟩) (by dsimp only; omega) _
  · exact ((h.m.setCell (a := ⟨w.heap.size + 1, 0, none⟩) hm a).setCell (a := ⟨w.heap.size + 1, 1, none⟩) hm b).setCell (a := ⟨w.heap.size + 1, 2, none⟩) hm c
end
set_option maxRecDepth 20000 in
set_option maxHeartbeats 6400000 in
theorem follow_any (mo md : Nat) (f : Int → Int → Bool) (go gd : Edg → Option Value) (x0 y0 : Int) (L : List Edg) (w : World) (hbx : InBx f 16 16) (hok : EOk f ⟨x0, y0, 0⟩) (hom : MapE w Try.prog 82 mo go) (hgo : SdOk f go)
    (hd : MapE w Try.prog 82 md gd) (hL : ∀ p v, gd p = some v → p ∈ L) (hLn : L.length ≤ 8000) (hne : mo ≠ md) :
    Calls Try.prog 43 #[.map (some mo), .agg #[.int .i64 x0, .int .i64 y0, .int .i64 0], .map (some md)] w fun e' w' => e' = .returned (.agg #[.int .i64 x0, .int .i64 y0, .string (wrd f ⟨x0, y0, 0⟩)]) ∧ Wrote (fun k => k = md) w w' ∧ MapE w' Try.prog 82 md (dnM f ⟨x0, y0, 0⟩ (per f ⟨x0, y0, 0⟩) gd) := by
  obtain ⟨iu, hiu, hu0, hu1, hu2⟩ := info_parts Try.infoU8B
  obtain ⟨W0, hW0⟩ : ∃ W0, W0 = (((w.alloc (.cells #[.int .i64 x0, .int .i64 y0, .int .i64 0] 82)).alloc (.cells #[.int .i64 0, .int .i64 0, .string ⟨#[]⟩] 35)).alloc (.cells #[] 5)).alloc (.cells #[.int .i64 x0, .int .i64 y0, .int .i64 0] 82) := ⟨_, rfl⟩
  obtain ⟨e, hee⟩ : ∃ e : Edg, e = ⟨x0, y0, 0⟩ := ⟨_, rfl⟩
  have hx0 : w.Ext W0 := by rw [hW0]; repeat (first | exact World.Ext.refl _ | exact ⟨_, rfl⟩ | assumption | refine World.Ext.over ?_ _ | refine World.Ext.drewN ?_ _ | refine World.Ext.drew ?_ | refine World.Ext.alloc ?_ _ | refine World.Ext.setCell ?_ (by simp) _)
  rw [← hee] at hok ⊢
  have HST : Hid (FwE w md (w.heap.size + 1 + 1 + 1) x0 y0 (itr f 0 e) (.slice (some ⟨w.heap.size + 1 + 1, 0, none⟩) 0 0) (wordL f e 0) (dnM f e 0 gd) W0) := by
    show FwE w md (w.heap.size + 1 + 1 + 1) x0 y0 e _ [] _ W0
    rw [hee]
    refine ⟨hx0.wrote _, ?_, ?_, ?_, ?_, (hd.ext hx0).congr dnM_zero⟩
    · rw [hW0]; exact (Tri.new w _ _ _ _ _ rfl).ext (by repeat (first | exact World.Ext.refl _ | exact ⟨_, rfl⟩ | assumption | refine World.Ext.over ?_ _ | refine World.Ext.drewN ?_ _ | refine World.Ext.drew ?_ | refine World.Ext.alloc ?_ _ | refine World.Ext.setCell ?_ (by simp) _))
    · rw [hW0]; exact (Tri.new (w.alloc (.cells #[.int .i64 x0, .int .i64 y0, .int .i64 0] 82)) (.int .i64 0) (.int .i64 0) (.string ⟨#[]⟩) 35 (w.heap.size + 1) (by simp)).ext (by repeat (first | exact World.Ext.refl _ | exact ⟨_, rfl⟩ | assumption | refine World.Ext.over ?_ _ | refine World.Ext.drewN ?_ _ | refine World.Ext.drew ?_ | refine World.Ext.alloc ?_ _ | refine World.Ext.setCell ?_ (by simp) _))
    · rw [hW0]; exact Tri.new _ _ _ _ _ _ (by simp)
    · rw [hW0]
      have h := (GrowOf.empty (f := Value.int .u8) (lo := w.heap.size) (e := 5) ((w.alloc (.cells #[.int .i64 x0, .int .i64 y0, .int .i64 0] 82)).alloc (.cells #[.int .i64 0, .int .i64 0, .string ⟨#[]⟩] 35)) (by simp; omega)).ext ((World.Ext.refl _).alloc (.cells #[.int .i64 x0, .int .i64 y0, .int .i64 0] 82))
      simpa using h
  obtain ⟨hper, hpn⟩ := per_of hbx (Nat.le_refl _) (Nat.le_refl _) hok
  have HBX : Hid (∀ i, 0 ≤ (itr f i e).x ∧ (itr f i e).x ≤ 16 ∧ 0 ≤ (itr f i e).y ∧ (itr f i e).y ≤ 16) := fun i => hbx.edge (itr_ok hok i)
  have HOKI := Lib.hid (fun i => itr_ok hok i)
  unfold wrd
  generalize hn : per f e = n at *
  have HSTEP := Lib.hid (fun i => itr_step (f := f) e i)
  have HWS := Lib.hid (fun i => wordL_succ f e i)
  have HWL := Lib.hid (fun i => wordL_len f e i)
  have HEE : Hid (e.x = x0 ∧ e.y = y0 ∧ e.k = 0) := by rw [hee]; exact ⟨rfl, rfl, rfl⟩
  have HPN : Hid (0 < n ∧ (itr f n e) = e ∧ ∀ i, 0 < i → i < n → itr f i e ≠ e) := hper
  have HPN2 : Hid (0 < n ∧ (itr f n e).x = x0 ∧ (itr f n e).y = y0 ∧ (itr f n e).k = 0 ∧ ∀ i, 0 < i → i < n → ¬ ((itr f i e).x = x0 ∧ (itr f i e).y = y0 ∧ (itr f i e).k = 0)) := by
    obtain ⟨h1, h2, h3⟩ := HPN.out
    obtain ⟨q1, q2, q3⟩ := HEE.out
    refine ⟨h1, by rw [h2, q1], by rw [h2, q2], by rw [h2, q3], fun i hi hin hh => h3 i hi hin (Edg.eq_of ?_ ?_ ?_)⟩
    · rw [hh.1, q1]
    · rw [hh.2.1, q2]
    · rw [hh.2.2, q3]
  have HMAP : Hid (∀ wr, Wrote (fun k => k = md) w wr → MapE wr Try.prog 82 mo go) := fun wr hx => hom.keep (hx.block mo hom.lt hne)
  have HLOOK : Hid (∀ wr, Wrote (fun k => k = md) w wr → ∀ (x y z : Int) (k : Nat) t, z = (k : Int) → -1000 ≤ x ∧ x ≤ 1000 → -1000 ≤ y ∧ y ≤ 1000 → k < 4 → canB f x y k = t → (Instr.lookup 78 (.map (some mo)) (.agg #[.int .i64 x, .int .i64 y, .int .i64 z]) false).run Try.prog wr = .ok (.bool t) wr) := fun wr hx x y z k t hz h1 h2 h3 ht => by
    have h := (HMAP.out wr hx).lookB hgo ⟨x, y, k⟩ h1 h2 (by dsimp only; omega)
    dsimp only at h
    rw [ht, decide_eq_true h3, Bool.true_and] at h
    rw [hz]
    exact h
  have HDM : Hid (∀ i (p : Edg) v, dnM f e i gd p = some v → p ∈ L ++ (List.range i).map fun j => itr f j e) := fun i p v h => dnM_mem hL p v h
  have HDS : Hid (∀ i (p : Edg), (if p = (⟨(itr f i e).x, (itr f i e).y, (itr f i e).k⟩ : Edg) then some (Value.bool true) else dnM f e i gd p) = dnM f e (i + 1) gd p) := fun i p => dnM_succ p
  clear hok hbx hn hper HPN hee hom hgo hd hL hx0 HEE HMAP
  have HRS : Hid (strOfNums (wordL f e n) = strOfNums (wordL f e n)) := rfl
  generalize hres : strOfNums (wordL f e n) = res at *
  have HRES := Lib.hid hres
  clear hres HRS
  generalize hMM : (fun i => dnM f e i gd) = MM at *
  have eM : ∀ i, dnM f e i gd = MM i := fun i => congrFun hMM i
  simp only [eM] at HST HDM HDS
  rw [eM]
  clear hMM eM
  generalize hWL : (fun i => wordL f e i) = WL at *
  have eW : ∀ i, wordL f e i = WL i := fun i => congrFun hWL i
  simp only [eW] at HST HWS HWL HRES
  clear hWL eW
  generalize hII : (fun i => itr f i e) = I at *
  have eI : ∀ i, itr f i e = I i := fun i => congrFun hII i
  simp only [eI] at HST HBX HOKI HSTEP HWS HPN2 HDM HDS
  clear hII eI
  go_enter Try.func43, Try.ntmps43
  go_upto_region 3 with fail
  rw [← hW0]
  clear hW0
  go_wp2
  go_loopw [7, 8, 9, 11, 12] (fun v z _ _ _ wr => ∃ i p8 : Nat, i ≤ n ∧ (∃ av cv, v = .slice av i cv) ∧ z = .pointer (some ⟨p8, 0, none⟩) ∧ w.heap.size + 2 ≤ p8 ∧ Hid (FwE w md p8 x0 y0 (I i) v (WL i) (MM i) wr)) (fun v _ _ _ _ _ => n - lenV v)
  case atStart => exact ⟨0, _, Nat.zero_le _, ⟨_, _, rfl⟩, rfl, by omega, HST⟩
  case round =>
    obtain ⟨i, p8, hi, ⟨av, cv, rfl⟩, rfl, hp8, HS⟩ := hrel
    clear HST
    obtain ⟨wo, rfl⟩ : ∃ wo : World, wo = wr := ⟨_, rfl⟩
    have hi0 : (0 : Int) ≤ (i : Int) := by omega
    have hk4 : (I i).k < 4 := (HOKI.out i).1
    obtain ⟨bx1, bx2, bx3, bx4⟩ := HBX.out i
    obtain ⟨bn1, bn2, bn3, bn4⟩ := HBX.out (i + 1)
    have c40 := HS.out.s.cell0
    have c41 := HS.out.s.cell1
    have c42 := HS.out.s.cell2
    have c80 := HS.out.a.cell0
    have c81 := HS.out.a.cell1
    have c82 := HS.out.a.cell2
    have l4 := HS.out.s.lt
    have l8 := HS.out.a.lt
    by_cases hin : i < n
    · obtain ⟨hX1, hY1, hK1⟩ := HSTEP.out i
      have HW1 := Lib.hid (HWS.out i)
      obtain ⟨hs, hlet⟩ := let_at hk4
      have hwl : (WL i).length = i := HWL.out i
      have HNL := Lib.hid (HPN2.out.2.2.2.2 i)
      have HCN : Hid (canB f (I (i + 1)).x (I (i + 1)).y (I (i + 1)).k = true) := (HOKI.out (i + 1)).2
      have hnn : n ≤ 1200 := hpn
      have HB1 : Hid (i + 1 ≤ maxLen) := by show _ ≤ _; unfold maxLen; omega
      have HB2 : Hid ((i + 1) * 1 ≤ 140737488355328) := by show _ ≤ _; omega
      have HKEY := Lib.hid (edgKeyOf (e := ⟨(I i).x, (I i).y, (I i).k⟩) (spotWf (x := (I i).x) (y := (I i).y) (by omega) (by omega)).1 (spotWf (x := (I i).x) (y := (I i).y) (by omega) (by omega)).2 (spotWf (x := (((I i).k : Nat) : Int)) (y := 0) (by omega) (by omega)).1)
      have HLN : Hid ((L ++ (List.range i).map fun j => I j).length < maxLen) := by show _ < _; rw [List.length_append, List.length_map, List.length_range]; unfold maxLen; omega
      have HMV : Hid (∀ w', Calls Try.prog 58 #[.agg #[.int .i64 (I i).x, .int .i64 (I i).y], .int .i64 ((I i).k : Int)] w' fun e w'' => e = .returned (.agg #[.int .i64 (I (i + 1)).x, .int .i64 (I (i + 1)).y]) ∧ w'.Ext w'') := fun w' => by
        rw [hX1, hY1]
        exact moved_any _ _ _ w' hk4 (by omega) (by omega)
      rw [← hX1, ← hY1] at hK1
      have HTK := Lib.hid hK1
      have HUPD : Hid (∀ w', MapE w' Try.prog 82 md (fun p => if p = (⟨(I i).x, (I i).y, (I i).k⟩ : Edg) then some (Value.bool true) else MM i p) → wo.grownBy w' (some md) → FwE w md p8 x0 y0 (I i) (.slice av i cv) (WL i) (MM (i + 1)) w') := fun w' hm hg => HS.out.upd (hm.congr (HDS.out i)) hg
      have HDMI := Lib.hid (HDM.out i)
      have HOWN : Hid (∀ wb, FwE w md p8 x0 y0 (I i) (.slice av i cv) (WL i) (MM (i + 1)) wb → wb.ownsRow w.heap.size 5 1 (.slice av i cv) i ((WL i).map (Value.int .u8))) := fun wb h => by have h := h.o; unfold GrowOf at h; rw [hwl] at h; exact h
      have HLE : Hid (∀ wb, FwE w md p8 x0 y0 (I i) (.slice av i cv) (WL i) (MM (i + 1)) wb → ∀ o' : Obj, w.heap.size ≤ (wb.alloc o').heap.size) := fun wb h o' => by have := h.x.size; simp; omega
      have HNX : Hid (∀ wb, FwE w md p8 x0 y0 (I i) (.slice av i cv) (WL i) (MM (i + 1)) wb → ∀ (o : Obj) (v' : Value) (w1 : World), (wb.alloc o).grownBy w1 (Value.slice av i cv).ownBlock → w1.ownsRow w.heap.size 5 1 v' (i + 1) ((WL i).map (Value.int .u8) ++ [.int .u8 ((letN (I i).k : Nat) : Int)]) → Hid (FwE w md p8 x0 y0 (I i) v' (WL (i + 1)) (MM (i + 1)) w1) ∧ ∃ a' c', v' = .slice a' (i + 1) c') := fun wb hb o v' w1 hg ho => by
        have h := (hb.ext (by repeat (first | exact World.Ext.refl _ | exact ⟨_, rfl⟩ | assumption | refine World.Ext.over ?_ _ | refine World.Ext.drewN ?_ _ | refine World.Ext.drew ?_ | refine World.Ext.alloc ?_ _ | refine World.Ext.setCell ?_ (by simp) _))).push (z := ((letN (I i).k : Nat) : Int)) hg (by rw [hwl]; exact ho)
        rw [← HW1.out] at h
        obtain ⟨a', c', e', -⟩ := h.o.form
        rw [HWL.out] at e'
        exact ⟨h, a', c', e'⟩
      clear hX1 hY1 hK1 HSTEP HWS HDS
      have hcases : ((i : Int) == 0) = true ∨ ((i : Int) == 0) = false ∧ (((I i).x == x0) = false ∨ ((I i).x == x0) = true ∧ (((I i).y == y0) = false ∨ ((I i).y == y0) = true ∧ (((I i).k : Int) == 0) = false)) := by
        cases e0 : ((i : Int) == 0)
        · right
          refine ⟨rfl, ?_⟩
          cases e1 : ((I i).x == x0)
          · exact .inl rfl
          · right
            refine ⟨rfl, ?_⟩
            cases e2 : ((I i).y == y0)
            · exact .inl rfl
            · right
              refine ⟨rfl, ?_⟩
              rw [beq_eq_false_iff_ne]
              intro e3
              have e0' : (i : Int) ≠ 0 := beq_eq_false_iff_ne.1 e0
              exact HNL.out (by omega) hin ⟨eq_of_beq e1, eq_of_beq e2, by omega⟩
        · exact .inl rfl
      have hk4' : (((I i).k : Nat) : Int) < 4 := by omega
      have hk0' : (0 : Int) ≤ (((I i).k : Nat) : Int) := by omega
      clear HNL
      rcases hcases with e0 | ⟨e0, e1 | ⟨e1, e2 | ⟨e2, e3⟩⟩⟩
      all_goals
        go_wp2_with (first
          | (at_mapUpdate; refine wpList_mapUpdate_E _ rfl _ _ _ 78 rfl 82 4 Try.edgKey edgMap md (MM i) rfl HS.out.m _ HDMI.out HLN.out ⟨(I i).x, (I i).y, (I i).k⟩ _ (.bool true) rfl rfl HKEY.out (fun wb hm1 hg1 => ?_); have HSb := Lib.hid (HUPD.out wb hm1 hg1); clear hm1 hg1 HKEY HUPD HLN c40 c41 c42 c80 c81 c82 l4 l8 HS; have c82 := HSb.out.a.cell2; have l8 := HSb.out.a.lt; have hown := HOWN.out wb HSb.out)
          | (at_builtin; refine wpList_append_own _ rfl _ _ 22 rfl w.heap.size 5 iu (.int .u8 0) 1 1 Try.underlying22 hiu hu0 hu1 hu2 rfl (by decide) _ _ _ rfl (hown.alloc _) ⟨wb.heap.size, 0, none⟩ 1 1 [.int .u8 ((letN (I i).k : Nat) : Int)] rfl rfl (cell_one_at (by simp)) (by simp [Value.oneCell']) HB1.out HB2.out (HLE.out wb HSb.out _) (fun v' w1 hown' hgrow _ => ?_); obtain ⟨HS1, a', c', rfl⟩ := HNX.out wb HSb.out _ _ _ hgrow hown'; clear hgrow hown' hown c82 l8 HSb HOWN HLE HNX HB1 HB2; have c80 := HS1.out.a.cell0; have c81 := HS1.out.a.cell1; have c82 := HS1.out.a.cell2; have l8 := HS1.out.a.lt))
        refine (HMV.out w1).mono ?_
        rintro e9 w2 ⟨rfl, hx2⟩
        have HS2 := Lib.hid (HS1.out.ext hx2)
        clear hx2 HS1 c80 c81 c82 l8 hs hlet HMV
        generalize hXX : (I (i + 1)).x = X at *
        generalize hYY : (I (i + 1)).y = Y at *
        have HXX := Lib.hid hXX
        have HYY := Lib.hid hYY
        clear hXX hYY
        generalize hKK : (I i).k = K at *
        have HKK := Lib.hid hKK
        clear hKK
        obtain ⟨w3, hw3⟩ : ∃ w3, w3 = (w2.alloc (.cells #[.int .i64 X, .int .i64 Y] 33)).alloc (.cells #[.int .i64 1, .int .i64 0, .int .i64 3] 3) := ⟨_, rfl⟩
        have hx3 : w2.Ext w3 := by rw [hw3]; repeat (first | exact World.Ext.refl _ | exact ⟨_, rfl⟩ | assumption | refine World.Ext.over ?_ _ | refine World.Ext.drewN ?_ _ | refine World.Ext.drew ?_ | refine World.Ext.alloc ?_ _ | refine World.Ext.setCell ?_ (by simp) _)
        have HD : Hid (∀ wr, w3.Ext wr → wr.cell? ⟨w2.heap.size, 0, none⟩ = some (.int .i64 X) ∧ wr.cell? ⟨w2.heap.size, 1, none⟩ = some (.int .i64 Y)) := fun wr hx => ⟨hx.cell (by rw [hw3]; simp [go_sem]), hx.cell (by rw [hw3]; simp [go_sem])⟩
        have HT : Hid (∀ wr, w3.Ext wr → ∀ j, j < 3 → wr.cell? ⟨w2.heap.size + 1, j, none⟩ = some (.int .i64 (trn j : Nat))) := fun wr hx j hj => by
          have h3 : j = 0 ∨ j = 1 ∨ j = 2 := by omega
          rcases h3 with rfl | rfl | rfl <;> exact hx.cell (by rw [hw3]; simp [go_sem, trn])
        have HS3 := Lib.hid (HS2.out.ext hx3)
        have HX3 : Hid (w3.Ext w3) := World.Ext.refl _
        clear hx3 HS2
        go_wp2
        rw [← hw3]
        clear hw3
        go_loopw [11, 12, 38] (fun _ _ z wr => ∃ j : Nat, j ≤ 3 ∧ z = .int .i64 j ∧ Hid (∀ j', j' < j → canB f X Y ((K + trn j') % 4) = false) ∧ Hid (w3.Ext wr)) (fun _ _ z _ => 3 - (intOf z).toNat)
        case atStart => exact ⟨0, by omega, rfl, fun j' h => by omega, HX3⟩
        case round =>
          obtain ⟨j, hj, rfl, HNO, HXJ⟩ := hrel
          clear HX3
          obtain ⟨w4, rfl⟩ : ∃ w4 : World, w4 = wr := ⟨_, rfl⟩
          have hj0 : (0 : Int) ≤ (j : Int) := by omega
          by_cases hj3 : j < 3
          · have hj3' : (j : Int) < 3 := by omega
            have q1 := HT.out w4 HXJ.out j hj3
            obtain ⟨d0, d1⟩ := HD.out w4 HXJ.out
            have HS4 := Lib.hid (HS3.out.ext HXJ.out)
            have c82 := HS4.out.a.cell2
            rw [HKK.out] at c82
            have l8 := HS4.out.a.lt
            have l2 := World.block_lt_of_cell? _ _ d0
            have lq := World.block_lt_of_cell? _ _ q1
            have ht3 := trn_le j
            have ht3' : ((trn j : Nat) : Int) ≤ 3 := by omega
            have ht0' : (0 : Int) ≤ ((trn j : Nat) : Int) := by omega
            have hz : (((K : Nat) : Int) + ((trn j : Nat) : Int)) % 4 = (((K + trn j) % 4 : Nat) : Int) := by omega
            have hm4 : (K + trn j) % 4 < 4 := Nat.mod_lt _ (by omega)
            have HZ := Lib.hid hz
            obtain ⟨t, ht⟩ : ∃ t, canB f X Y ((K + trn j) % 4) = t := ⟨_, rfl⟩
            have HQT := Lib.hid ht
            have HLK : Hid (∀ w', w4.Ext w' → (Instr.lookup 78 (.map (some mo)) (.agg #[.int .i64 X, .int .i64 Y, .int .i64 ((((K : Nat) : Int) + ((trn j : Nat) : Int)) % 4)]) false).run Try.prog w' = .ok (.bool t) w') := fun w' hx => HLOOK.out w' (HS4.out.x.trans (hx.wrote _)) X Y _ ((K + trn j) % 4) t HZ.out (by omega) (by omega) hm4 HQT.out
            clear ht hz hm4
            generalize htj : trn j = tj at *
            have HTJ := Lib.hid htj
            clear htj
            obtain ⟨w5, hw5⟩ : ∃ w5, w5 = w4.alloc (.cells #[.int .i64 X, .int .i64 Y, .int .i64 ((((K : Nat) : Int) + (tj : Int)) % 4)] 82) := ⟨_, rfl⟩
            have hx5 : w4.Ext w5 := by rw [hw5]; repeat (first | exact World.Ext.refl _ | exact ⟨_, rfl⟩ | assumption | refine World.Ext.over ?_ _ | refine World.Ext.drewN ?_ _ | refine World.Ext.drew ?_ | refine World.Ext.alloc ?_ _ | refine World.Ext.setCell ?_ (by simp) _)
            have g0 : w5.cell? ⟨w4.heap.size, 0, none⟩ = some (.int .i64 X) := by rw [hw5]; simp [go_sem]
            have g1 : w5.cell? ⟨w4.heap.size, 1, none⟩ = some (.int .i64 Y) := by rw [hw5]; simp [go_sem]
            have g2 : w5.cell? ⟨w4.heap.size, 2, none⟩ = some (.int .i64 ((((K : Nat) : Int) + (tj : Int)) % 4)) := by rw [hw5]; simp [go_sem]
            have HS5 := Lib.hid (HS4.out.ext hx5)
            have HX5 := Lib.hid (HXJ.out.trans hx5)
            have hlk := HLK.out w5 hx5
            go_upto_region 11 with fail
            rw [← hw5]
            clear hw5 hx5 q1 d0 d1 c82 l8 l2 lq HS4 HLK
            have lg := World.block_lt_of_cell? _ _ g0
            cases t
            · have HN2 : Hid (∀ j', j' < j + 1 → canB f X Y ((K + trn j') % 4) = false) := fun j' h => by
                rcases Nat.lt_or_ge j' j with h1 | h1
                · exact HNO.out j' h1
                · rw [show j' = j by omega, HTJ.out]; exact HQT.out
              clear HS5 HQT HNO HXJ HZ HTJ
              go_wp2
              go_roundw
              case rel => exact ⟨j + 1, by omega, by go_num, HN2, HX5⟩
              case measure => simp [intOf]; omega
            · have hk' : (I (i + 1)).k = (K + tj) % 4 := by
                rw [← HTJ.out]
                exact trn_hit (C := canB f X Y) (j := j) (by omega) HTK.out hj3 (by rw [HTJ.out]; exact HQT.out) HNO.out
              obtain ⟨w6, hw6⟩ : ∃ w6, w6 = ((w5.setCell ⟨p8, 0, none⟩ (.int .i64 X)).setCell ⟨p8, 1, none⟩ (.int .i64 Y)).setCell ⟨p8, 2, none⟩ (.int .i64 ((((K : Nat) : Int) + (tj : Int)) % 4)) := ⟨_, rfl⟩
              have HS6 : Hid (FwE w md p8 x0 y0 (I (i + 1)) (.slice a' (i + 1) c') (WL (i + 1)) (MM (i + 1)) w6) := by
                have h := HS5.out.move hp8 (I (i + 1))
                rw [HXX.out, HYY.out, hk', ← HZ.out] at h
                rw [hw6]
                exact h
              have c80 := HS5.out.a.cell0
              have c81 := HS5.out.a.cell1
              have c82 := HS5.out.a.cell2
              have f0 := HS5.out.a.free 0
              have f1 := HS5.out.a.free 1
              have f2 := HS5.out.a.free 2
              have l8 := HS5.out.a.lt
              clear hk' HS5 HQT HNO HXJ HZ HTJ HX5
              go_upto_region 14 with fail
              rw [← hw6]
              clear hw6 c80 c81 c82 f0 f1 f2 l8 g0 g1 g2 lg hlk
              have c80 := HS6.out.a.cell0
              have c81 := HS6.out.a.cell1
              have c82 := HS6.out.a.cell2
              have l8 := HS6.out.a.lt
              have HS7 : Hid (FwE w md w6.heap.size x0 y0 (I (i + 1)) (.slice a' (i + 1) c') (WL (i + 1)) (MM (i + 1)) (w6.alloc (.cells #[.int .i64 (I (i + 1)).x, .int .i64 (I (i + 1)).y, .int .i64 ((I (i + 1)).k : Int)] 82))) := HS6.out.rebox
              have hp9 : w.heap.size + 2 ≤ w6.heap.size := by have := HS6.out.r.lt; omega
              clear HS6
              go_wp2
              go_roundw
              case rel => exact ⟨i + 1, _, by omega, ⟨_, _, rfl⟩, rfl, hp9, HS7⟩
              case measure => simp [lenV]; omega
          · exact (trn_none (C := canB f X Y) (by omega) HTK.out HCN.out (fun j' h => HNO.out j' (by omega))).elim
    · have hin' : i = n := by omega
      obtain ⟨p1, p2, p3, p4, -⟩ := HPN2.out
      have e0 : ((i : Int) == 0) = false := by rw [beq_eq_false_iff_ne]; omega
      have e1 : ((I i).x == x0) = true := by rw [beq_iff_eq, hin']; exact p2
      have e2 : ((I i).y == y0) = true := by rw [beq_iff_eq, hin']; exact p3
      have e3 : (((I i).k : Int) == 0) = true := by rw [hin', p4]; rfl
      have hwl : (WL i).length = i := HWL.out i
      obtain ⟨g, cap, hsl, hg1, hg2, hcell⟩ := HS.out.o.some (by omega)
      rw [hwl] at hsl
      cases hsl
      have hcv := run_convert_bytes_arg (P := Try.prog) wo 22 5 Try.underlying22 Try.underlying5 g 0 i cv (WL i) hwl (by intro j hj; rw [Nat.zero_add]; exact hcell 0 j (by omega)) 9 Try.underlying9
      have hres2 : strOfNums (WL i) = res := by rw [hin']; exact HRES.out
      rw [hres2] at hcv
      obtain ⟨s0, s1, s2, s3, s4, s5, s6, s7, s8, HR⟩ := HS.out.fin (.int .i64 x0) (.int .i64 y0) (.string res)
      rw [show MM i = MM n from by rw [hin']] at HR
      clear HS hres2 hcell hwl hin' p1 p2 p3 p4
      go_wp2
      exact bodyPost_ret (v := .agg #[.int .i64 x0, .int .i64 y0, .string res]) (by simp [results, Try.results43, go_sem, s6, s7, s8]) rfl ⟨rfl, HR.out⟩
end Go.Proofs.Ytelaoimcaidoiaa

/- Borders: the program's list of them. -/
namespace Go.Proofs.Ytelaoimcaidoiaa
open Go Go.RowKit Go.MapKept Go.ChangeMaps
/-- All steps within the box. -/
def boxE : List Edg := (List.range 1156).map fun i => ⟨((i / 4 % 17 : Nat) : Int), ((i / 68 : Nat) : Int), i % 4⟩
theorem boxE_len : boxE.length = 1156 := by unfold boxE; rw [List.length_map, List.length_range]
theorem boxE_mem {f : Int → Int → Bool} (hb : InBx f 16 16) {e : Edg} (h : EOk f e) : e ∈ boxE := by
  obtain ⟨h1, h2, h3, h4⟩ := hb.edge h
  have hk := h.1
  obtain ⟨x, y, k⟩ := e
  dsimp only at h1 h2 h3 h4 hk
  obtain ⟨a, rfl⟩ : ∃ a : Nat, x = a := ⟨x.toNat, by omega⟩
  obtain ⟨b, rfl⟩ : ∃ b : Nat, y = b := ⟨y.toNat, by omega⟩
  unfold boxE
  rw [List.mem_map]
  refine ⟨(b * 17 + a) * 4 + k, List.mem_range.2 (by omega), ?_⟩
  have e1 : ((b * 17 + a) * 4 + k) / 4 % 17 = a := by omega
  have e2 : ((b * 17 + a) * 4 + k) / 68 = b := by omega
  have e3 : ((b * 17 + a) * 4 + k) % 4 = k := by omega
  rw [e1, e2, e3]
/-- What is held to be done. -/
def DnOk (f : Int → Int → Bool) (W k : Nat) (g : Edg → Option Value) : Prop := (∀ e, (g e).getD (.bool false) = .bool (doneB f W (bTo f W k) e)) ∧ ∀ e v, g e = some v → EOk f e
theorem DnOk.no {f : Int → Int → Bool} {W x y : Nat} {g : Edg → Option Value} (h : DnOk f W (y * W + x) g) (hx : x < W) (hn : canB f x y 0 = false ∨ mdB f W (y * W + x) x y = true) : DnOk f W (y * W + x + 1) g := by
  rw [Nat.add_assoc]
  unfold DnOk
  rw [bTo_no hx hn]
  exact h
theorem DnOk.yes {f : Int → Int → Bool} {W x y : Nat} {g : Edg → Option Value} (h : DnOk f W (y * W + x) g) (hx : x < W) (h1 : canB f x y 0 = true) (h2 : mdB f W (y * W + x) x y = false) : DnOk f W (y * W + x + 1) (dnM f ⟨(x : Int), (y : Int), 0⟩ (per f ⟨(x : Int), (y : Int), 0⟩) g) := by
  rw [Nat.add_assoc]
  unfold DnOk
  rw [bTo_yes hx h1 h2]
  have hok : EOk f ⟨(x : Int), (y : Int), 0⟩ := ⟨by show 0 < 4; omega, h1⟩
  constructor
  · intro e
    have hd : doneB f W (bTo f W (y * W + x) ++ [y * W + x]) e = (doneB f W (bTo f W (y * W + x)) e || inOrb f ⟨(x : Int), (y : Int), 0⟩ e) := by
      unfold doneB
      rw [List.any_append, List.any_cons, List.any_nil, Bool.or_false, stE_at hx]
    rw [hd]
    unfold dnM
    by_cases hi : inOrb f ⟨(x : Int), (y : Int), 0⟩ e = true
    · have hi' : ((List.range (per f ⟨(x : Int), (y : Int), 0⟩)).any fun i => decide (itr f i ⟨(x : Int), (y : Int), 0⟩ = e)) = true := hi
      rw [if_pos hi', hi]
      simp
    · have hi' : ¬ ((List.range (per f ⟨(x : Int), (y : Int), 0⟩)).any fun i => decide (itr f i ⟨(x : Int), (y : Int), 0⟩ = e)) = true := hi
      rw [if_neg hi', h.1 e]
      have : inOrb f ⟨(x : Int), (y : Int), 0⟩ e = false := by simpa using hi
      rw [this, Bool.or_false]
  · intro e v he
    unfold dnM at he
    split at he
    · rename_i hh
      rw [List.any_eq_true] at hh
      obtain ⟨i, -, hi⟩ := hh
      rw [← of_decide_eq_true hi]
      exact itr_ok hok i
    · exact h.2 e v he
/-- The borders under way: two maps and the list, each told of by a cell. -/
structure BoSt (w : World) (p4 p5 p3 mo md : Nat) (go : Edg → Option Value) (f : Int → Int → Bool) (W k : Nat) (wr : World) : Prop where
  x : w.Ext wr
  c4 : One wr p4 78 (.map (some mo))
  c5 : One wr p5 78 (.map (some md))
  mo : MapE wr Try.prog 82 mo go
  md : ∃ gd, MapE wr Try.prog 82 md gd ∧ DnOk f W k gd
  g : ∃ v, One wr p3 28 v ∧ GrowBd w.heap.size wr v (brds f W k)
section
variable {w wr w' : World} {p4 p5 p3 mo md : Nat} {go : Edg → Option Value} {f : Int → Int → Bool} {W k : Nat}
theorem BoSt.ext (h : BoSt w p4 p5 p3 mo md go f W k wr) (hx : wr.Ext w') : BoSt w p4 p5 p3 mo md go f W k w' :=
  ⟨h.x.trans hx, h.c4.ext hx, h.c5.ext hx, h.mo.ext hx, let ⟨gd, h1, h2⟩ := h.md; ⟨gd, h1.ext hx, h2⟩, let ⟨v, h1, h2⟩ := h.g; ⟨v, h1.ext hx, World.ownsRow.ext h2 hx⟩⟩
theorem BoSt.no {x y : Nat} (h : BoSt w p4 p5 p3 mo md go f W (y * W + x) wr) (hx : x < W) (hn : canB f x y 0 = false ∨ mdB f W (y * W + x) x y = true) : BoSt w p4 p5 p3 mo md go f W (y * W + x + 1) wr := by
  refine ⟨h.x, h.c4, h.c5, h.mo, let ⟨gd, h1, h2⟩ := h.md; ⟨gd, h1, h2.no hx hn⟩, ?_⟩
  rw [Nat.add_assoc, brds_no hx hn]
  exact h.g
end
set_option maxRecDepth 5000 in
set_option maxHeartbeats 6400000 in
theorem borders1_any (w : World) (p4 p5 p3 mo md W H x y : Nat) (go : Edg → Option Value) (f : Int → Int → Bool) (wr : World) (hbx : InBx f 16 16) (hW : W ≤ 16) (hH : H ≤ 16) (hx : x < W) (hy : y < H) (hgo : SdOk f go) (hlm : w.heap.size ≤ md) (hl3 : w.heap.size ≤ p3) (hne : mo ≠ md) (h34 : p3 ≠ p4) (h35 : p3 ≠ p5)
    (hS : BoSt w p4 p5 p3 mo md go f W (y * W + x) wr) :
    Calls Try.prog 42 #[.int .i64 x, .int .i64 y, .pointer (some ⟨p4, 0, none⟩), .pointer (some ⟨p5, 0, none⟩), .pointer (some ⟨p3, 0, none⟩)] wr fun e w' => e = .returned (.tuple #[]) ∧ BoSt w p4 p5 p3 mo md go f W (y * W + x + 1) w' := by
  obtain ⟨d0', hd, hy0, hy1, hy2⟩ := info_parts Try.infoBord
  obtain ⟨gd, hgd, hdn⟩ := hS.md
  obtain ⟨W1, hW1⟩ : ∃ W1, W1 = wr.alloc (.cells #[.int .i64 x, .int .i64 y, .int .i64 0] 82) := ⟨_, rfl⟩
  have hx1 : wr.Ext W1 := by rw [hW1]; repeat (first | exact World.Ext.refl _ | exact ⟨_, rfl⟩ | assumption | refine World.Ext.over ?_ _ | refine World.Ext.drewN ?_ _ | refine World.Ext.drew ?_ | refine World.Ext.alloc ?_ _ | refine World.Ext.setCell ?_ (by simp) _)
  have HS1 := Lib.hid (hS.ext hx1)
  have c4 := HS1.out.c4.cell
  have c5 := HS1.out.c5.cell
  have l4 := HS1.out.c4.lt
  have l5 := HS1.out.c5.lt
  have g0 : W1.cell? ⟨wr.heap.size, 0, none⟩ = some (.int .i64 x) := by rw [hW1]; simp [go_sem]
  have g1 : W1.cell? ⟨wr.heap.size, 1, none⟩ = some (.int .i64 y) := by rw [hW1]; simp [go_sem]
  have g2 : W1.cell? ⟨wr.heap.size, 2, none⟩ = some (.int .i64 0) := by rw [hW1]; simp [go_sem]
  have lg := World.block_lt_of_cell? _ _ g0
  obtain ⟨t, ht⟩ : ∃ t, canB f x y 0 = t := ⟨_, rfl⟩
  obtain ⟨m, hm⟩ : ∃ m, mdB f W (y * W + x) x y = m := ⟨_, rfl⟩
  have hk1 : (Instr.lookup 78 (.map (some mo)) (.agg #[.int .i64 x, .int .i64 y, .int .i64 0]) false).run Try.prog W1 = .ok (.bool t) W1 := by
    have h := HS1.out.mo.lookB hgo ⟨(x : Int), (y : Int), 0⟩ (by dsimp only; omega) (by dsimp only; omega) (by dsimp only; omega)
    dsimp only at h
    rw [ht] at h
    exact h
  have hk2 : (Instr.lookup 78 (.map (some md)) (.agg #[.int .i64 x, .int .i64 y, .int .i64 0]) false).run Try.prog W1 = .ok (.bool m) W1 := by
    have w1 := spotWf (x := (x : Int)) (y := (y : Int)) (by omega) (by omega)
    have w2 := spotWf (x := ((0 : Nat) : Int)) (y := 0) (by omega) (by omega)
    have h := (hgd.ext hx1).look Try.edgKey edgMap (zeroBool W1) (p := ⟨(x : Int), (y : Int), 0⟩) (edgKeyOf w1.1 w1.2 w2.1)
    rw [hdn.1 _] at h
    unfold mdB at hm
    rw [hm] at h
    exact h
  cases t
  · have HN : Hid (BoSt w p4 p5 p3 mo md go f W (y * W + x + 1) W1) := HS1.out.no hx (Or.inl ht)
    clear hS hgd hdn HS1 ht hm hx1 hgo hbx
    go_enter Try.func42, Try.ntmps42
    go_upto_region 1 with fail
    rw [← hW1]
    clear hW1
    go_wp2
    go_end0
    exact ⟨rfl, HN.out⟩
  · cases m
    · obtain ⟨v, h3', hg'⟩ := hS.g
      have h3 := h3'.ext hx1
      have hg : GrowBd w.heap.size W1 v (brds f W (y * W + x)) := World.ownsRow.ext hg' hx1
      have hvn : some wr.heap.size ≠ v.ownBlock := fun e => by have := (World.ownsRow.lt hg' _ e.symm).2; omega
      have h3n : p3 ≠ wr.heap.size := by have := h3'.lt; omega
      clear h3' hg'
      have hok : EOk f ⟨(x : Int), (y : Int), 0⟩ := ⟨by show 0 < 4; omega, ht⟩
      have hxx : brds f W (y * W + x + 1) = brds f W (y * W + x) ++ [((x : Int), (y : Int), wrd f ⟨(x : Int), (y : Int), 0⟩)] := brds_yes hx ht hm
      have HFOL : Hid (∀ w', W1.Ext w' → Calls Try.prog 43 #[.map (some mo), .agg #[.int .i64 x, .int .i64 y, .int .i64 0], .map (some md)] w' fun e w2 => e = .returned (.agg #[.int .i64 x, .int .i64 y, .string (wrd f ⟨(x : Int), (y : Int), 0⟩)]) ∧ Wrote (fun k => k = md) w' w2 ∧ MapE w2 Try.prog 82 md (dnM f ⟨(x : Int), (y : Int), 0⟩ (per f ⟨(x : Int), (y : Int), 0⟩) gd)) := fun w' hx' =>
        follow_any mo md f go gd x y boxE w' hbx hok (HS1.out.mo.ext hx') hgo ((hgd.ext hx1).ext hx') (fun e v he => boxE_mem hbx (hdn.2 e v he)) (by rw [boxE_len]; omega) hne
      have hkb : y * W + x < 256 := by
        have := Nat.mul_le_mul (show y ≤ 15 by omega) hW
        omega
      have hbl := brds_len f W (y * W + x)
      have HB1 : Hid ((brds f W (y * W + x)).length + 1 ≤ maxLen) := by show _ ≤ _; unfold maxLen; omega
      have HB2 : Hid (((brds f W (y * W + x)).length + 1) * 32 ≤ 140737488355328) := by show _ ≤ _; omega
      have HM : Hid (∀ w' w2, W1.Ext w' → Wrote (fun k => k = md) w' w2 → MapE w2 Try.prog 82 md (dnM f ⟨(x : Int), (y : Int), 0⟩ (per f ⟨(x : Int), (y : Int), 0⟩) gd) → w.Ext w2 ∧ One w2 p4 78 (.map (some mo)) ∧ One w2 p5 78 (.map (some md)) ∧ MapE w2 Try.prog 82 mo go ∧ One w2 p3 28 v ∧ GrowBd w.heap.size w2 v (brds f W (y * W + x)) ∧
          w2.cell? ⟨wr.heap.size, 0, none⟩ = some (.int .i64 x) ∧ w2.cell? ⟨wr.heap.size, 1, none⟩ = some (.int .i64 y) ∧ w2.cell? ⟨wr.heap.size, 2, none⟩ = some (.int .i64 0)) := fun w' w2 hx' hw hmm => by
        have s4 : W1.heap[p4]? = _ := HS1.out.c4
        have s5 : W1.heap[p5]? = _ := HS1.out.c5
        have s3 : W1.heap[p3]? = _ := h3
        have hmd := hgd.ext hx1
        have nb : wr.heap.size ≠ md := by have := hgd.lt; omega
        refine ⟨(HS1.out.x.trans hx').wroteNew hw fun k h1 h2 => by omega, (HS1.out.c4.ext hx').keep (hw.block _ (HS1.out.c4.ext hx').lt (hmd.ne s4)), (HS1.out.c5.ext hx').keep (hw.block _ (HS1.out.c5.ext hx').lt (hmd.ne s5)), (HS1.out.mo.ext hx').keep (hw.block _ (HS1.out.mo.ext hx').lt hne), (h3.ext hx').keep (hw.block _ (h3.ext hx').lt (hmd.ne s3)),
          World.ownsRow.keep (World.ownsRow.ext hg hx') fun k hk => hw.block k (World.ownsRow.lt (World.ownsRow.ext hg hx') k hk).2 fun e => hmd.neRow hg (by rw [hk, ← e]), hw.cell (hx'.cell g0) nb, hw.cell (hx'.cell g1) nb, hw.cell (hx'.cell g2) nb⟩
      have HDN : Hid (DnOk f W (y * W + x + 1) (dnM f ⟨(x : Int), (y : Int), 0⟩ (per f ⟨(x : Int), (y : Int), 0⟩) gd)) := hdn.yes hx ht hm
      have HEND : Hid (∀ (w2 w3 : World) (o : Obj) (v' : Value), w.Ext w2 → One w2 p4 78 (.map (some mo)) → One w2 p5 78 (.map (some md)) → MapE w2 Try.prog 82 mo go → One w2 p3 28 v → GrowBd w.heap.size w2 v (brds f W (y * W + x)) → MapE w2 Try.prog 82 md (dnM f ⟨(x : Int), (y : Int), 0⟩ (per f ⟨(x : Int), (y : Int), 0⟩) gd) →
          (w2.alloc o).grownBy w3 v.ownBlock → w3.ownsRow w.heap.size 35 3 v' ((brds f W (y * W + x)).length + 1) (flatB (brds f W (y * W + x)) ++ [.int .i64 x, .int .i64 y, .string (wrd f ⟨(x : Int), (y : Int), 0⟩)]) →
          w2.cell? ⟨wr.heap.size, 0, none⟩ = some (.int .i64 x) → w2.cell? ⟨wr.heap.size, 1, none⟩ = some (.int .i64 y) → w2.cell? ⟨wr.heap.size, 2, none⟩ = some (.int .i64 0) → (w3.cell? ⟨p4, 0, none⟩ = some (.map (some mo)) ∧ w3.cell? ⟨p5, 0, none⟩ = some (.map (some md)) ∧ w3.cell? ⟨wr.heap.size, 0, none⟩ = some (.int .i64 x) ∧ w3.cell? ⟨wr.heap.size, 1, none⟩ = some (.int .i64 y) ∧ w3.cell? ⟨wr.heap.size, 2, none⟩ = some (.int .i64 0)) ∧ w3.cell? ⟨p3, 0, none⟩ = some v ∧ w3.frozen? ⟨p3, 0, none⟩ = false ∧ ((w3.setCell ⟨p3, 0, none⟩ v').cell? ⟨p4, 0, none⟩ = some (.map (some mo)) ∧ (w3.setCell ⟨p3, 0, none⟩ v').cell? ⟨p5, 0, none⟩ = some (.map (some md)) ∧ (w3.setCell ⟨p3, 0, none⟩ v').cell? ⟨wr.heap.size, 0, none⟩ = some (.int .i64 x) ∧ (w3.setCell ⟨p3, 0, none⟩ v').cell? ⟨wr.heap.size, 1, none⟩ = some (.int .i64 y) ∧ (w3.setCell ⟨p3, 0, none⟩ v').cell? ⟨wr.heap.size, 2, none⟩ = some (.int .i64 0)) ∧ BoSt w p4 p5 p3 mo md go f W (y * W + x + 1) (w3.setCell ⟨p3, 0, none⟩ v')) := fun w2 w3 o v' hX q4 q5 qo q3 qg qm hgr hown n0 n1 n2 => by
        have hxa : w2.Ext (w2.alloc o) := by repeat (first | exact World.Ext.refl _ | exact ⟨_, rfl⟩ | assumption | refine World.Ext.over ?_ _ | refine World.Ext.drewN ?_ _ | refine World.Ext.drew ?_ | refine World.Ext.alloc ?_ _ | refine World.Ext.setCell ?_ (by simp) _)
        have a3 := (q3.ext hxa).grown hgr (World.ownsRow.ne qg q3 (by decide))
        have a4 := (q4.ext hxa).grown hgr (World.ownsRow.ne qg q4 (by decide))
        have a5 := (q5.ext hxa).grown hgr (World.ownsRow.ne qg q5 (by decide))
        have ao := (qo.ext hxa).grown hgr (qo.neRow qg)
        have am := (qm.ext hxa).grown hgr (qm.neRow qg)
        have ag : GrowBd w.heap.size w3 v' (brds f W (y * W + x) ++ [((x : Int), (y : Int), wrd f ⟨(x : Int), (y : Int), 0⟩)]) := GrowBd.push hown
        have s3 : w3.heap[p3]? = _ := a3
        have o0 := hgr.cell (hxa.cell n0) hvn
        have o1 := hgr.cell (hxa.cell n1) hvn
        have o2 := hgr.cell (hxa.cell n2) hvn
        have hoth : ∀ (i : Nat) (u : Value), w3.cell? ⟨wr.heap.size, i, none⟩ = some u → (w3.setCell ⟨p3, 0, none⟩ v').cell? ⟨wr.heap.size, i, none⟩ = some u := fun i u hu => by rw [World.cell?_of_block (a := ⟨wr.heap.size, i, none⟩) (Below.heap_setCell _ _ _ _ (fun e => h3n e.symm))]; exact hu
        refine ⟨⟨a4.cell, a5.cell, o0, o1, o2⟩, a3.cell, a3.free, ⟨(a4.other (a := ⟨p3, 0, none⟩) h34 _).cell, (a5.other (a := ⟨p3, 0, none⟩) h35 _).cell, hoth _ _ o0, hoth _ _ o1, hoth _ _ o2⟩, ?_, a4.other (a := ⟨p3, 0, none⟩) h34 _, a5.other (a := ⟨p3, 0, none⟩) h35 _, ao.setCell (a := ⟨p3, 0, none⟩) (ao.ne s3) _, ⟨_, am.setCell (a := ⟨p3, 0, none⟩) (am.ne s3) _, HDN.out⟩, v', a3.set v', ?_⟩
        · exact ((hX.trans hxa).grown hgr fun k hk => (World.ownsRow.lt qg k hk).1).setCell (p := ⟨p3, 0, none⟩) hl3 v'
        · rw [hxx]
          exact World.ownsRow.keep ag fun k hk => Below.heap_setCell _ _ _ _ fun e => World.ownsRow.ne ag s3 (by decide) (by rw [hk, e])
      have c3 := h3.cell
      have l3 := h3.lt
      have HLE : Hid (∀ w2 : World, w.Ext w2 → ∀ o : Obj, w.heap.size ≤ (w2.alloc o).heap.size) := fun w2 hX o => (hX.alloc o).size
      clear hS hgd hdn HS1 ht hm hx1 hgo hbx hok hxx h3 hg hbl hkb HDN
      generalize wrd f ⟨(x : Int), (y : Int), 0⟩ = word at *
      generalize dnM f ⟨(x : Int), (y : Int), 0⟩ (per f ⟨(x : Int), (y : Int), 0⟩) gd = gd' at *
      generalize brds f W (y * W + x) = bs at *
      go_enter Try.func42, Try.ntmps42
      go_upto_region 1 with fail
      rw [← hW1]
      clear hW1
      go_upto_region 2 with fail
      go_region_law (first
        | (refine step_append_mine rfl _ _ 28 rfl w.heap.size 35 d0' (.agg #[.int .i64 0, .int .i64 0, .string ⟨#[]⟩]) 3 32 Try.underlying28 hd hy0 hy1 hy2 rfl (by decide) v _ _ rfl (World.ownsRow.ext HG2.out (by repeat (first | exact World.Ext.refl _ | exact ⟨_, rfl⟩ | assumption | refine World.Ext.over ?_ _ | refine World.Ext.drewN ?_ _ | refine World.Ext.drew ?_ | refine World.Ext.alloc ?_ _ | refine World.Ext.setCell ?_ (by simp) _))) ⟨w2.heap.size, 0, none⟩ 1 1 [.int .i64 x, .int .i64 y, .string word] rfl rfl (cell3_at (by simp)) (by simp [Value.oneCell']) HB1.out HB2.out (HLE.out _ HX2.out _) (fun v' w3 hown3 hgrow hat => ?_); obtain ⟨hk9, c39, k2, hk10, hs3⟩ := HEND.out w2 w3 _ v' HX2.out H4.out H5.out HO2.out H3.out HG2.out HM2.out hgrow hown3 HN0.out HN1.out HN2.out; have HS3 := Lib.hid hs3; obtain ⟨a7, c7, rfl, _⟩ := World.ownsRow.form hown3; have l39 := World.block_lt_of_cell? _ _ c39; clear hown3 hgrow hat hs3 hk9 hk10)
        | (go_simp; go_at_call 43; (refine (HFOL.out _ (by repeat (first | exact World.Ext.refl _ | exact ⟨_, rfl⟩ | assumption | refine World.Ext.over ?_ _ | refine World.Ext.drewN ?_ _ | refine World.Ext.drew ?_ | refine World.Ext.alloc ?_ _ | refine World.Ext.setCell ?_ (by simp) _))).mono ?_; rintro e w2 ⟨rfl, hw2, hm2⟩; obtain ⟨mX, m4, m5, mo2, m3, mg, n0, n1, n2⟩ := HM.out _ w2 (by repeat (first | exact World.Ext.refl _ | exact ⟨_, rfl⟩ | assumption | refine World.Ext.over ?_ _ | refine World.Ext.drewN ?_ _ | refine World.Ext.drew ?_ | refine World.Ext.alloc ?_ _ | refine World.Ext.setCell ?_ (by simp) _)) hw2 hm2; have c32 := m3.cell; have l32 := m3.lt; have HX2 := Lib.hid mX; have H4 := Lib.hid m4; have H5 := Lib.hid m5; have HO2 := Lib.hid mo2; have H3 := Lib.hid m3; have HG2 := Lib.hid mg; have HM2 := Lib.hid hm2; have HN0 := Lib.hid n0; have HN1 := Lib.hid n1; have HN2 := Lib.hid n2; clear mX m4 m5 mo2 m3 mg n0 n1 n2 hw2 hm2))
        | fail)
      all_goals
        go_wp2
        go_end0
        exact ⟨rfl, HS3.out⟩
    · have HN : Hid (BoSt w p4 p5 p3 mo md go f W (y * W + x + 1) W1) := HS1.out.no hx (Or.inr hm)
      clear hS hgd hdn HS1 ht hm hx1 hgo hbx
      go_enter Try.func42, Try.ntmps42
      go_upto_region 1 with fail
      rw [← hW1]
      clear hW1
      go_wp2
      go_end0
      exact ⟨rfl, HN.out⟩
end Go.Proofs.Ytelaoimcaidoiaa

/- Borders: the program's list of them, whole. -/
namespace Go.Proofs.Ytelaoimcaidoiaa
open Go Go.RowKit Go.MapKept Go.ChangeMaps
theorem DnOk.zero (f : Int → Int → Bool) (W : Nat) : DnOk f W 0 (fun _ => none) := ⟨fun e => rfl, fun e v h => by cases h⟩
theorem enters_borders1 : Enters 42 := enters_of Try.func42 (by kernel_rfl) (by kernel_rfl)
set_option maxRecDepth 5000 in
set_option maxHeartbeats 3200000 in
theorem borders_any (b ab W H : Nat) (l : List Bool) (w : World) (hW : W ≤ 16) (hH : H ≤ 16) (hI : Img w b ab W H l) :
    Calls Try.prog 17 #[.pointer (some ⟨b, 0, none⟩)] w (BordsRet w (brds (pxl W H l) W (H * W))) := by
  obtain ⟨W0, hW0⟩ : ∃ W0, W0 = w.alloc (.cells #[] 35) := ⟨_, rfl⟩
  have hx0 : w.Ext W0 := by rw [hW0]; repeat (first | exact World.Ext.refl _ | exact ⟨_, rfl⟩ | assumption | refine World.Ext.over ?_ _ | refine World.Ext.drewN ?_ _ | refine World.Ext.drew ?_ | refine World.Ext.alloc ?_ _ | refine World.Ext.setCell ?_ (by simp) _)
  have hz0 : W0.heap.size = w.heap.size + 1 := by rw [hW0]; simp
  have hg0 : GrowBd w.heap.size W0 (.slice (some ⟨w.heap.size, 0, none⟩) 0 0) [] := by rw [hW0]; exact GrowBd.empty w (Nat.le_refl _)
  have HSD := Lib.hid (sides_any b ab W H l W0 (by omega) (by omega) (hI.ext hx0))
  have HKEY : Hid (∀ w2 mo go, W0.Ext w2 → W0.heap.size ≤ mo → SdOk (pxl W H l) go → MapE w2 Try.prog 82 mo go →
      Calls Try.prog 41 #[.pointer (some ⟨b, 0, none⟩), .func (.func 42) #[] #[.pointer (some ⟨w2.heap.size + 1 + 1, 0, none⟩), .pointer (some ⟨w2.heap.size + 1 + 1 + 1, 0, none⟩), .pointer (some ⟨w2.heap.size + 1, 0, none⟩)]]
        (((((w2.alloc (.map #[] 0)).alloc (.cells #[.slice (some ⟨w.heap.size, 0, none⟩) 0 0] 28)).alloc (.cells #[.map (some mo)] 78)).alloc (.cells #[.map (some w2.heap.size)] 78)))
        fun e w' => e = .returned (.tuple #[]) ∧ BoSt w (w2.heap.size + 1 + 1) (w2.heap.size + 1 + 1 + 1) (w2.heap.size + 1) mo w2.heap.size go (pxl W H l) W (H * W) w') := fun w2 mo go hx2 hmo hgo hm => by
    have hlm := hm.lt
    have hsz := hx2.size
    obtain ⟨W3, hW3⟩ : ∃ W3, W3 = w2.alloc (.map #[] 0) := ⟨_, rfl⟩
    have hz3 : W3.heap.size = w2.heap.size + 1 := by rw [hW3]; simp
    have hx3 : w2.Ext W3 := by rw [hW3]; repeat (first | exact World.Ext.refl _ | exact ⟨_, rfl⟩ | assumption | refine World.Ext.over ?_ _ | refine World.Ext.drewN ?_ _ | refine World.Ext.drew ?_ | refine World.Ext.alloc ?_ _ | refine World.Ext.setCell ?_ (by simp) _)
    have hm3 : MapE W3 Try.prog 82 w2.heap.size (fun _ => none) := by rw [hW3]; exact MapE.new w2 _ _ _ rfl
    rw [← hW3]
    obtain ⟨W4, hW4⟩ : ∃ W4, W4 = W3.alloc (.cells #[.slice (some ⟨w.heap.size, 0, none⟩) 0 0] 28) := ⟨_, rfl⟩
    have hz4 : W4.heap.size = w2.heap.size + 1 + 1 := by rw [hW4]; simp [hz3]
    have hx4 : W3.Ext W4 := by rw [hW4]; repeat (first | exact World.Ext.refl _ | exact ⟨_, rfl⟩ | assumption | refine World.Ext.over ?_ _ | refine World.Ext.drewN ?_ _ | refine World.Ext.drew ?_ | refine World.Ext.alloc ?_ _ | refine World.Ext.setCell ?_ (by simp) _)
    have h3 : One W4 (w2.heap.size + 1) 28 (.slice (some ⟨w.heap.size, 0, none⟩) 0 0) := by rw [hW4]; exact One.new _ _ _ _ hz3.symm
    rw [← hW4]
    obtain ⟨W5, hW5⟩ : ∃ W5, W5 = W4.alloc (.cells #[.map (some mo)] 78) := ⟨_, rfl⟩
    have hz5 : W5.heap.size = w2.heap.size + 1 + 1 + 1 := by rw [hW5]; simp [hz4]
    have hx5 : W4.Ext W5 := by rw [hW5]; repeat (first | exact World.Ext.refl _ | exact ⟨_, rfl⟩ | assumption | refine World.Ext.over ?_ _ | refine World.Ext.drewN ?_ _ | refine World.Ext.drew ?_ | refine World.Ext.alloc ?_ _ | refine World.Ext.setCell ?_ (by simp) _)
    have h4 : One W5 (w2.heap.size + 1 + 1) 78 (.map (some mo)) := by rw [hW5]; exact One.new _ _ _ _ hz4.symm
    rw [← hW5]
    obtain ⟨W6, hW6⟩ : ∃ W6, W6 = W5.alloc (.cells #[.map (some w2.heap.size)] 78) := ⟨_, rfl⟩
    have hx6 : W5.Ext W6 := by rw [hW6]; repeat (first | exact World.Ext.refl _ | exact ⟨_, rfl⟩ | assumption | refine World.Ext.over ?_ _ | refine World.Ext.drewN ?_ _ | refine World.Ext.drew ?_ | refine World.Ext.alloc ?_ _ | refine World.Ext.setCell ?_ (by simp) _)
    have h5 : One W6 (w2.heap.size + 1 + 1 + 1) 78 (.map (some w2.heap.size)) := by rw [hW6]; exact One.new _ _ _ _ hz5.symm
    rw [← hW6]
    have hx36 : W3.Ext W6 := hx4.trans (hx5.trans hx6)
    have hbx : InBx (pxl W H l) 16 16 := fun x y h => by
      have := inBx_pxl W H l x y h
      omega
    exact each_any b 42 W H _ (fun k w' => BoSt w (w2.heap.size + 1 + 1) (w2.heap.size + 1 + 1 + 1) (w2.heap.size + 1) mo w2.heap.size go (pxl W H l) W k w') W6 (by omega) (by omega) enters_borders1
      (fun k w' h => ⟨(hI.ext h.x).c0, (hI.ext h.x).c1⟩)
      (fun x y w' hx hy h => borders1_any w _ _ _ mo _ W H x y go _ w' hbx hW hH hx hy hgo (by omega) (by omega) (by omega) (by omega) (by omega) h)
      ⟨hx0.trans (hx2.trans (hx3.trans hx36)), h4.ext hx6, h5, hm.ext (hx3.trans hx36), ⟨_, hm3.ext hx36, DnOk.zero _ _⟩, _, h3.ext (hx5.trans hx6), World.ownsRow.ext (World.ownsRow.ext hg0 hx2) (hx3.trans hx36)⟩
  have HX0 := Lib.hid hx0
  clear hI hx0 hg0
  have hmm := @run_makeMap Try.prog
  go_enter Try.func17, Try.ntmps17
  go_wp2_with fail
  rw [← hW0]
  refine HSD.out.mono ?_
  rintro e w2 ⟨mo, go, rfl, hx2, hmo, hgo, hm2⟩
  have HEA := Lib.hid (HKEY.out w2 mo go hx2 hmo hgo hm2)
  have HX2 := Lib.hid (HX0.out.trans hx2)
  clear hW0 HSD hx2 hmo hgo hm2 HKEY
  go_wp2_with fail
  refine HEA.out.mono ?_
  rintro e w3 ⟨rfl, hs3⟩
  obtain ⟨v, h3, hg⟩ := hs3.g
  obtain ⟨a, c, rfl, -⟩ := World.ownsRow.form hg
  have c3 := h3.cell
  have l3 := h3.lt
  have HX := Lib.hid hs3.x
  have HG := Lib.hid (GrowBd.own hg)
  clear hs3 h3 hg HEA hmm
  generalize brds (pxl W H l) W (H * W) = R at *
  go_wp2
  go_ret
  exact ⟨a, c, rfl, HX.out, HG.out⟩
set_option maxRecDepth 5000 in
set_option maxHeartbeats 1600000 in
theorem implBorders_any (a : Option Addr) (c : Nat) (ss : List ByteArray) (w : World) (hb : PicBnd ss) (hm : RowS w a ss) :
    Calls Try.prog 6 #[.agg #[.slice a ss.length c]] w (BordsRet2 w (optBd (picOk ss) (bordA ss)) (picOk ss)) := by
  obtain ⟨W0, hW0⟩ : ∃ W0, W0 = w.alloc (.cells #[.slice a ss.length c] 26) := ⟨_, rfl⟩
  have hx0 : w.Ext W0 := by rw [hW0]; repeat (first | exact World.Ext.refl _ | exact ⟨_, rfl⟩ | assumption | refine World.Ext.over ?_ _ | refine World.Ext.drewN ?_ _ | refine World.Ext.drew ?_ | refine World.Ext.alloc ?_ _ | refine World.Ext.setCell ?_ (by simp) _)
  have HIO : Hid (Calls Try.prog 16 #[.agg #[.slice a ss.length c]] W0 (ImgOf W0 ss (picOk ss))) := imageOf_any a c ss W0 hb.1 hb.2 (hm.ext hx0) _ rfl
  have HX0 := Lib.hid hx0
  cases h : picOk ss
  · rw [h] at HIO
    clear hb hm hx0 h
    show Calls _ _ _ _ (BordsRet2 w [] false)
    go_enter Try.func6, Try.ntmps6
    go_wp2_with fail
    rw [← hW0]
    refine HIO.out.mono ?_
    rintro e w1 ⟨rfl, hx1⟩
    have HR : Hid (BordsRet2 w [] false (.returned (.tuple #[.slice none 0 0, .bool false])) w1) := ⟨none, 0, rfl, HX0.out.trans hx1, OwnBd.nil _ _⟩
    clear hx1 hW0
    go_wp2
    go_ret2
    exact HR.out
  · rw [h] at HIO
    obtain ⟨v1, v2, v3, v4, e1, -⟩ := picOk_spec h
    have HAR : Hid (∀ w' b ab, Img w' b ab (picW ss) ss.length (picL ss) → Calls Try.prog 17 #[.pointer (some ⟨b, 0, none⟩)] w' (BordsRet w' (bordA ss))) := fun w' b ab hI => borders_any b ab _ _ _ w' v4 v2 hI
    clear hb hm hx0 h v1 v2 v3 v4 e1
    show Calls _ _ _ _ (BordsRet2 w (bordA ss) true)
    generalize bordA ss = R at *
    go_enter Try.func6, Try.ntmps6
    go_wp2_with fail
    rw [← hW0]
    refine HIO.out.mono ?_
    rintro e w1 ⟨b1, ab1, rfl, hx1, hi1, -, -⟩
    have HC := Lib.hid (HAR.out w1 b1 ab1 hi1)
    have HX1 := Lib.hid (HX0.out.trans hx1)
    clear hi1 hx1 hW0
    go_wp2_with fail
    refine HC.out.mono ?_
    rintro e w3 ⟨a3, c3, rfl, hx3, ho3⟩
    have HR : Hid (BordsRet2 w R true (.returned (.tuple #[.slice a3 R.length c3, .bool true])) w3) := ⟨a3, c3, rfl, HX1.out.trans hx3, ho3.mono HX1.out.size (Nat.le_refl _)⟩
    clear hx3 ho3
    go_wp2
    go_ret2
    exact HR.out
end Go.Proofs.Ytelaoimcaidoiaa
