/- Maps whose keys are steps from a corner. -/
import Derived.Test.YtahhnjoeaodcjaaBrdP
import Derived.Test.YtahhnjoeaodcjaaMapS
import Derived.Maps.Range
import Derived.Maps.RangeWalk
import Derived.DeepKeys4
namespace Go.Proofs.Ytahhnjoeaodcjaa
open Go Go.RowKit Go.MapKept Go.ChangeMaps
open Go.WideElems (Fit rd rg rd_key rd_mk)
open Go.Maps (Keyed)
def edgV (e : Edg) : Value := .agg #[.int .i64 e.x, .int .i64 e.y, .int .i64 (e.k : Int)]
theorem edgV_inj {p q : Edg} (h : edgV p = edgV q) : p = q := by
  obtain ⟨x, y, k⟩ := p
  obtain ⟨x', y', k'⟩ := q
  unfold edgV at h
  simp at h
  simp only [Edg.mk.injEq]
  omega
/-- Block b is a map from steps that holds g. -/
def MapE (w : World) (P : Program) (k : TypeId) (b : Nat) (g : Edg → Option Value) : Prop :=
  ∃ es clock, w.heap[b]? = some (.map es clock) ∧ Fit P k anyR es clock ∧ (∀ e ∈ es.toList, ∃ p, e.key = edgV p ∧ g p = some e.val) ∧ (∀ p v, g p = some v → ∃ e ∈ es.toList, e.key = edgV p ∧ e.val = v)
section
variable {P : Program} {k t e : TypeId} {w w' : World} {b : Nat} {g g' : Edg → Option Value}
theorem MapE.lt (h : MapE w P k b g) : b < w.heap.size := by
  obtain ⟨es, clock, hb, _⟩ := h
  exact (Array.getElem?_eq_some_iff.1 hb).1
theorem MapE.keep (h : MapE w P k b g) (hk : w'.heap[b]? = w.heap[b]?) : MapE w' P k b g := by
  obtain ⟨es, clock, hb, r⟩ := h
  exact ⟨es, clock, by rw [hk]; exact hb, r⟩
theorem MapE.ext (h : MapE w P k b g) (hx : w.Ext w') : MapE w' P k b g := h.keep (hx.block h.lt)
theorem MapE.grown {row : Option Nat} (h : MapE w P k b g) (hg : w.grownBy w' row) (hne : some b ≠ row) : MapE w' P k b g := h.keep (hg.block b h.lt hne)
theorem MapE.setCell (h : MapE w P k b g) {a : Addr} (ha : a.block ≠ b) (u : Value) : MapE (w.setCell a u) P k b g := h.keep (Below.heap_setCell _ _ _ _ (Ne.symm ha))
theorem MapE.congr (h : MapE w P k b g) (e : ∀ p, g p = g' p) : MapE w P k b g' := (funext e : g = g') ▸ h
theorem MapE.new (w : World) (P : Program) (k : TypeId) (b : Nat) (hb : b = w.heap.size) : MapE (w.alloc (.map #[] 0)) P k b (fun _ => none) := by
  subst hb
  exact ⟨#[], 0, (MapKept.heap_alloc w _).1, ⟨by simp, stamped_empty 0, by simp⟩, by simp, by simp⟩
theorem MapE.ne {cs : Array Value} {e' : TypeId} {fr : Nat × Nat} {q : Nat} (h : MapE w P k b g) (ho : w.heap[q]? = some (.cells cs e' fr)) : q ≠ b := by
  obtain ⟨es, clock, hb, _⟩ := h
  rintro rfl
  rw [hb] at ho
  cases ho
theorem MapE.neRow {lo : Nat} {T : TypeId} {sz n : Nat} {v : Value} {xs : List Value} (h : MapE w P k b g) (ho : w.ownsRow lo T sz v n xs) : some b ≠ v.ownBlock := by
  intro hp
  rcases ho.2 with ⟨h0, _⟩ | ⟨q, cap, cur, h0, hg, hh, _⟩
  · rw [h0] at hp; cases hp
  · rw [h0] at hp
    simp only [Value.ownBlock, Option.some.injEq] at hp
    exact h.ne hh hp.symm
theorem MapE.look (h : MapE w P k b g) (K : Keyed P k) (ht : P.underlying t = some (.map k e)) {z : Value} (hz : (zeroValue e).run P w = .ok z w) {p : Edg} {kl : Lit} (hkey : keyOf P k (edgV p) = some kl) :
    (Instr.lookup t (.map (some b)) (edgV p) false).run P w = .ok ((g p).getD z) w := by
  obtain ⟨es, clock, hb, F, h1, h2⟩ := h
  rcases Maps.fit_look false K ht hz hb F hkey with ⟨hrun, hno, _⟩ | ⟨e0, y, he0, hk0, hrun, _⟩
  · have : g p = none := by
      cases hg : g p with
      | none => rfl
      | some v =>
        obtain ⟨e, he, ek, _⟩ := h2 p v hg
        exact absurd ek (hno e he)
    rw [this]
    simpa using hrun
  · obtain ⟨q, hq, hv⟩ := h1 e0 he0
    rw [hk0] at hq
    obtain rfl := edgV_inj hq
    rw [hv]
    simpa using hrun
theorem MapE.size_le {es : Array MapEntry} {clock : Nat} (F : Fit P k anyR es clock) (h1 : ∀ e ∈ es.toList, ∃ p, e.key = edgV p ∧ g p = some e.val) (L : List (Edg)) (hL : ∀ p v, g p = some v → p ∈ L) : es.size ≤ L.length := by
  have key : ∀ (l : List MapEntry), l.Pairwise (fun x y => x.key ≠ y.key) → (∀ e ∈ l, ∃ p, e.key = edgV p ∧ p ∈ L) → ∃ ps : List (Edg), ps.length = l.length ∧ ps.Nodup ∧ (∀ p, p ∈ ps → p ∈ L) ∧ ∀ p, p ∈ ps → ∃ e ∈ l, e.key = edgV p := by
    intro l
    induction l with
    | nil => intro _ _; exact ⟨[], rfl, List.nodup_nil, by simp, by simp⟩
    | cons a l ih =>
      intro hp hs
      obtain ⟨p1, p2⟩ := List.pairwise_cons.1 hp
      obtain ⟨ps, e1, e2, e3, e4⟩ := ih p2 (fun e he => hs e (by simp [he]))
      obtain ⟨q, hq, hqL⟩ := hs a (by simp)
      refine ⟨q :: ps, by simp [e1], List.nodup_cons.2 ⟨fun hm => ?_, e2⟩, ?_, ?_⟩
      · obtain ⟨e, he, ek⟩ := e4 q hm
        exact p1 e he (hq.trans ek.symm)
      · intro p hp
        rcases List.mem_cons.1 hp with rfl | hp
        · exact hqL
        · exact e3 p hp
      · intro p hp
        rcases List.mem_cons.1 hp with rfl | hp
        · exact ⟨a, by simp, hq⟩
        · obtain ⟨e, he, ek⟩ := e4 p hp
          exact ⟨e, by simp [he], ek⟩
  obtain ⟨ps, e1, e2, e3, _⟩ := key es.toList ((stamped_iff es clock).1 F.stamped).2.2 (fun e he => let ⟨p, h, h'⟩ := h1 e he; ⟨p, h, hL p _ h'⟩)
  have := nodup_len ps L e2 e3
  rw [e1] at this
  simpa using this
theorem MapE.count (h : MapE w P k b g) (ds : List (Edg)) (hnd : ds.Nodup) (hg : ∀ p, (∃ v, g p = some v) ↔ p ∈ ds) : mapLen w b = ds.length := by
  obtain ⟨es, clock, hb, F, h1, h2⟩ := h
  have key : ∀ (l : List MapEntry), (∀ e ∈ l, ∃ p, e.key = edgV p) → ∃ ps : List (Edg), ps.length = l.length ∧ ∀ e ∈ l, ∃ p, p ∈ ps ∧ e.key = edgV p := by
    intro l
    induction l with
    | nil => intro _; exact ⟨[], rfl, by simp⟩
    | cons a l ih =>
      intro hs
      obtain ⟨ps, e1, e2⟩ := ih (fun e he => hs e (by simp [he]))
      obtain ⟨q, hq⟩ := hs a (by simp)
      refine ⟨q :: ps, by simp [e1], fun e he => ?_⟩
      rcases List.mem_cons.1 he with rfl | he
      · exact ⟨q, by simp, hq⟩
      · obtain ⟨p, hp, hk⟩ := e2 e he
        exact ⟨p, by simp [hp], hk⟩
  obtain ⟨ps, e1, e2⟩ := key es.toList (fun e he => let ⟨p, hp, _⟩ := h1 e he; ⟨p, hp⟩)
  have a1 := MapE.size_le F h1 ds (fun p v hv => (hg p).1 ⟨v, hv⟩)
  have a2 := nodup_len ds ps hnd (fun p hp => by
    obtain ⟨v, hv⟩ := (hg p).2 hp
    obtain ⟨e, he, hk, _⟩ := h2 p v hv
    obtain ⟨q, hq, hk'⟩ := e2 e he
    rw [hk] at hk'
    rw [edgV_inj hk']
    exact hq)
  unfold mapLen
  rw [hb]
  simp only [Array.length_toList] at e1
  show es.size = ds.length
  omega
theorem MapE.store (h : MapE w P k b g) (K : Keyed P k) (ht : P.underlying t = some (.map k e)) (L : List (Edg)) (hL : ∀ p v, g p = some v → p ∈ L) (hlen : L.length < maxLen) {p : Edg} {kl : Lit} (hkey : keyOf P k (edgV p) = some kl) (v : Value) :
    ∃ w', (Instr.mapUpdate t (.map (some b)) (edgV p) v).run P w = .ok () w' ∧ MapE w' P k b (fun q => if q = p then some v else g q) ∧ w.grownBy w' (some b) := by
  obtain ⟨es, clock, hb, F, h1, h2⟩ := h
  have hroom : es.size < maxLen := Nat.lt_of_le_of_lt (MapE.size_le F h1 L hL) hlen
  rcases K.find w hkey es.toList F.keys with ⟨f1, f2⟩ | ⟨j, e0, f1, f2, f3⟩
  · refine ⟨setBlock w b (.map (es.push ⟨edgV p, v, clock⟩) (clock + 1)), ?_, ⟨_, _, heap_setBlock_same hb _, ⟨by simp; omega, stamped_push F.stamped f2, ?_⟩, ?_, ?_⟩, ⟨rfl, rfl, rfl, by simp [setBlock], fun i _ hi => heap_setBlock_other hb _ (fun e => hi (by rw [e]))⟩⟩
    · simp [Instr.mapUpdate, run_underlying ht, MapKept.run_getObj_map hb, K.check w false hkey, f1, MapKept.run_setObj_map _ hb, Result.andThen, setBlock]
    · intro x hx
      simp only [Array.toList_push, List.mem_append, List.mem_singleton] at hx
      rcases hx with hx | rfl
      · exact F.reads x hx
      · exact ⟨_, rd_mk hkey rfl⟩
    · intro x hx
      simp only [Array.toList_push, List.mem_append, List.mem_singleton] at hx
      rcases hx with hx | rfl
      · obtain ⟨q, hq, hv⟩ := h1 x hx
        refine ⟨q, hq, ?_⟩
        exact (if_neg (fun e1 => f2 x hx (by rw [hq, e1]))).trans hv
      · exact ⟨p, rfl, if_pos rfl⟩
    · intro q u hq
      by_cases e : q = p
      · have hq2 := (if_pos e).symm.trans hq
        exact ⟨⟨edgV p, v, clock⟩, by simp, by rw [e], by simpa using hq2⟩
      · replace hq := (if_neg e).symm.trans hq
        obtain ⟨x, hx, hk, hv⟩ := h2 q u hq
        exact ⟨x, by simp at hx ⊢; exact .inl hx, hk, hv⟩
  · have hj : es[j]? = some e0 := by simpa using f2
    have hm0 : e0 ∈ es.toList := List.mem_of_getElem? f2
    have hkeyf : ∀ e', es[j]? = some e' → ({ e' with key := edgV p, val := v } : MapEntry).key = e'.key := fun e' he' => by rw [hj] at he'; cases he'; exact f3.symm
    have hlist : (es.modify j (fun e' => { e' with key := edgV p, val := v })).toList = es.toList.set j { e0 with key := edgV p, val := v } := by rw [Array.toList_modify, modify_eq_set _ _ _ _ f2]
    have hjl : j < es.toList.length := (List.getElem?_eq_some_iff.1 f2).1
    have who : ∀ x ∈ es.toList.set j { e0 with key := edgV p, val := v }, x = { e0 with key := edgV p, val := v } ∨ (x ∈ es.toList ∧ x.key ≠ edgV p) := by
      intro x hx
      obtain ⟨i, hi, ex⟩ := List.getElem_of_mem hx
      rw [List.getElem_set] at ex
      split at ex
      · exact Or.inl ex.symm
      · rename_i hne
        have hi' : i < es.toList.length := by simpa using hi
        refine Or.inr ⟨ex ▸ List.getElem_mem hi', ?_⟩
        rw [← f3]
        exact Go.WideElems.other_key F f2 (by rw [List.getElem?_eq_getElem hi', ex]) (fun e1 => hne e1.symm)
    refine ⟨setBlock w b (.map (es.modify j (fun e' => { e' with key := edgV p, val := v })) clock), ?_, ⟨_, _, heap_setBlock_same hb _, ⟨by simpa using F.size, stamped_modify F.stamped _ _ (fun _ _ => rfl) (fun e' _ he' => hkeyf e' he'), ?_⟩, ?_, ?_⟩, ⟨rfl, rfl, rfl, by simp [setBlock], fun i _ hi => heap_setBlock_other hb _ (fun e => hi (by rw [e]))⟩⟩
    · simp [Instr.mapUpdate, run_underlying ht, MapKept.run_getObj_map hb, K.check w false hkey, f1, hj, f3, K.stays w hkey, MapKept.run_setObj_map _ hb, Result.andThen, setBlock]
    · intro x hx
      rw [hlist] at hx
      rcases who x hx with rfl | ⟨hx', _⟩
      · exact ⟨_, rd_mk hkey rfl⟩
      · exact F.reads x hx'
    · intro x hx
      rw [hlist] at hx
      rcases who x hx with rfl | ⟨hx', hne⟩
      · exact ⟨p, rfl, if_pos rfl⟩
      · obtain ⟨q, hq, hv⟩ := h1 x hx'
        exact ⟨q, hq, (if_neg (fun e1 => hne (by rw [hq, e1]))).trans hv⟩
    · intro q u hq
      rw [hlist]
      by_cases e : q = p
      · have hq2 := (if_pos e).symm.trans hq
        exact ⟨{ e0 with key := edgV p, val := v }, List.mem_iff_getElem.2 ⟨j, by simpa using hjl, by simp⟩, by rw [e], by simpa using hq2⟩
      · replace hq := (if_neg e).symm.trans hq
        obtain ⟨x, hx, hk, hv⟩ := h2 q u hq
        obtain ⟨i, hi, ex⟩ := List.getElem_of_mem hx
        refine ⟨x, List.mem_iff_getElem.2 ⟨i, by simpa using hi, ?_⟩, hk, hv⟩
        rw [List.getElem_set_ne]
        · exact ex
        · rintro rfl
          rw [List.getElem?_eq_getElem hi, ex] at f2
          cases f2
          exact e (edgV_inj (hk.symm.trans f3))
end
theorem wpList_mapUpdate_E {P : Program} (w : World) {ops : Array Oper} {rest : List Oper} {o : Oper} {a : Act} {Q : Exit → Act → World → Prop}
    (hg : o.guard = none) (m x v : Operand) (t : TypeId) (hop : o.op = Op.mapUpdate t m x v)
    (k e : TypeId) (K : Keyed P k) (ht : P.underlying t = some (.map k e)) (b : Nat) (g : Edg → Option Value)
    (hm : a.eval m = .map (some b)) (hown : MapE w P k b g) (L : List (Edg)) (hL : ∀ p v, g p = some v → p ∈ L) (hlen : L.length < maxLen) (p : Edg) (kl : Lit) (val : Value) (hx : a.eval x = edgV p) (hv : a.eval v = val) (hkey : keyOf P k (edgV p) = some kl)
    (hK : ∀ w', MapE w' P k b (fun q => if q = p then some val else g q) → w.grownBy w' (some b) → wpList P ops Q rest (a.put o.dst undef) w') :
    wpList P ops Q (o :: rest) a w := by
  refine wpList_plain hg fun K' hK' => ?_
  obtain ⟨w', hrun, r1, r2⟩ := hown.store K ht L hL hlen hkey val
  unfold Oper.wp
  simp [execOp, hop, hm, hx, hv, hrun, Result.andThen]
  exact hK' _ _ (hK w' r1 r2)
theorem Try.edgKey : Keyed Try.prog 180 := Keyed.of_law (deep_law_laid Try.laidOut (m := 3) (by omega) (of_decide_eq_true (by kernel_rfl)) (by kernel_rfl) (by kernel_rfl))
theorem Try.edgTypes : ∃ m, Try.prog.types.size = m + 1 := ⟨Try.prog.types.size - 1, by kernel_rfl⟩
theorem Try.edgTypes2 : 2 ≤ Try.prog.types.size := of_decide_eq_true (by kernel_rfl)
theorem Try.edgKeyType : Try.prog.keyType 180 = true := by kernel_rfl
theorem Try.edgCells : Try.prog.cellsOf 180 = 3 := by kernel_rfl
theorem Try.intCells : Try.prog.cellsOf 3 = 1 := by kernel_rfl
theorem edgKeyOf {e : Edg} (h1 : (Lit.int .i64 e.x).wf = true) (h2 : (Lit.int .i64 e.y).wf = true) (h3 : (Lit.int .i64 (e.k : Int)).wf = true) : keyOf Try.prog 180 (edgV e) = some (.string (keyBytes [.int .i64 e.x, .int .i64 e.y, .int .i64 (e.k : Int)])) := by
  obtain ⟨m, hm⟩ := Try.edgTypes
  unfold keyOf edgV
  simp only [Try.underlying180]
  rw [if_pos (by simp [Try.edgKeyType, Value.formed, Try.underlying180, Try.edgCells]), hm]
  unfold Program.keyLits
  simp only [Try.underlying180, Value.cells]
  rw [if_pos ⟨by rw [Try.edgCells]; rfl, by kernel_rfl⟩, List.mapM_cons, List.mapM_cons, List.mapM_nil]
  have hs : Program.keyLits Try.prog (m + 1) 67 [.int .i64 e.x, .int .i64 e.y] = some [.int .i64 e.x, .int .i64 e.y] := by
    unfold Program.keyLits
    simp only [Try.underlying67]
    rw [if_pos ⟨by rw [Try.spotCells]; rfl, by kernel_rfl⟩, List.mapM_cons, List.mapM_cons, List.mapM_nil]
    obtain ⟨m', hm'⟩ : ∃ m', m = m' + 1 := ⟨m - 1, by have := Try.edgTypes2; omega⟩
    subst hm'
    simp [Try.i64Cells, Program.keyLits, Try.underlying2, h1, h2]
  have hk : Program.keyLits Try.prog (m + 1) 3 [.int .i64 (e.k : Int)] = some [.int .i64 (e.k : Int)] := by
    simp [Program.keyLits, Try.underlying3, h3]
  simp [Try.spotCells, Try.intCells, hs, hk]
end Go.Proofs.Ytahhnjoeaodcjaa
