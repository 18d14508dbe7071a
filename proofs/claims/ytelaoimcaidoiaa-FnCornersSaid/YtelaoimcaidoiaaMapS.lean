/- Maps whose keys are spots. -/
import Derived.Test.YtelaoimcaidoiaaWith
import Derived.Maps.Range
import Derived.Maps.RangeWalk
import Derived.DeepKeys4
namespace Go.Proofs.Ytelaoimcaidoiaa
open Go Go.RowKit Go.MapKept Go.ChangeMaps
open Go.WideElems (Fit rd rg rd_key rd_mk)
open Go.Maps (Keyed)
theorem nodup_len {α : Type} [DecidableEq α] : ∀ (l m : List α), l.Nodup → (∀ x, x ∈ l → x ∈ m) → l.length ≤ m.length
  | [], _, _, _ => Nat.zero_le _
  | a :: l, m, hn, hs => by
    obtain ⟨h1, h2⟩ := List.nodup_cons.1 hn
    have ha : a ∈ m := hs a (by simp)
    have := nodup_len l (m.erase a) h2 (fun x hx => (List.mem_erase_of_ne (by rintro rfl; exact h1 hx)).2 (hs x (by simp [hx])))
    rw [List.length_erase_of_mem ha] at this
    have hp := List.length_pos_of_mem ha
    simp only [List.length_cons]
    omega
theorem spotV_inj {p q : Int × Int} (h : spotV p = spotV q) : p = q := by
  unfold spotV at h
  simp at h
  exact Prod.ext h.1 h.2
/-- An element is not looked at. -/
def anyR (_ : Value) : Option (DataW Unit × List MemPlace) := some (.lit (.bool false), [])
/-- Whole numbers of both coordinates. -/
def SpotWf (p : Int × Int) : Prop := (Lit.int .i64 p.1).wf = true ∧ (Lit.int .i64 p.2).wf = true
/-- Block b is a map from spots that holds g. -/
def MapS (w : World) (P : Program) (k : TypeId) (b : Nat) (g : Int × Int → Option Value) : Prop :=
  ∃ es clock, w.heap[b]? = some (.map es clock) ∧ Fit P k anyR es clock ∧ (∀ e ∈ es.toList, ∃ p, e.key = spotV p ∧ g p = some e.val) ∧ (∀ p v, g p = some v → ∃ e ∈ es.toList, e.key = spotV p ∧ e.val = v)
section
variable {P : Program} {k t e : TypeId} {w w' : World} {b : Nat} {g g' : Int × Int → Option Value}
theorem MapS.lt (h : MapS w P k b g) : b < w.heap.size := by
  obtain ⟨es, clock, hb, _⟩ := h
  exact (Array.getElem?_eq_some_iff.1 hb).1
theorem MapS.keep (h : MapS w P k b g) (hk : w'.heap[b]? = w.heap[b]?) : MapS w' P k b g := by
  obtain ⟨es, clock, hb, r⟩ := h
  exact ⟨es, clock, by rw [hk]; exact hb, r⟩
theorem MapS.ext (h : MapS w P k b g) (hx : w.Ext w') : MapS w' P k b g := h.keep (hx.block h.lt)
theorem MapS.grown {row : Option Nat} (h : MapS w P k b g) (hg : w.grownBy w' row) (hne : some b ≠ row) : MapS w' P k b g := h.keep (hg.block b h.lt hne)
theorem MapS.setCell (h : MapS w P k b g) {a : Addr} (ha : a.block ≠ b) (u : Value) : MapS (w.setCell a u) P k b g := h.keep (Below.heap_setCell _ _ _ _ (Ne.symm ha))
theorem MapS.congr (h : MapS w P k b g) (e : ∀ p, g p = g' p) : MapS w P k b g' := (funext e : g = g') ▸ h
theorem MapS.new (w : World) (P : Program) (k : TypeId) (b : Nat) (hb : b = w.heap.size) : MapS (w.alloc (.map #[] 0)) P k b (fun _ => none) := by
  subst hb
  exact ⟨#[], 0, (MapKept.heap_alloc w _).1, ⟨by simp, stamped_empty 0, by simp⟩, by simp, by simp⟩
theorem MapS.ne {cs : Array Value} {e' : TypeId} {fr : Nat × Nat} {q : Nat} (h : MapS w P k b g) (ho : w.heap[q]? = some (.cells cs e' fr)) : q ≠ b := by
  obtain ⟨es, clock, hb, _⟩ := h
  rintro rfl
  rw [hb] at ho
  cases ho
theorem MapS.neRow {lo : Nat} {T : TypeId} {sz n : Nat} {v : Value} {xs : List Value} (h : MapS w P k b g) (ho : w.ownsRow lo T sz v n xs) : some b ≠ v.ownBlock := by
  intro hp
  rcases ho.2 with ⟨h0, _⟩ | ⟨q, cap, cur, h0, hg, hh, _⟩
  · rw [h0] at hp; cases hp
  · rw [h0] at hp
    simp only [Value.ownBlock, Option.some.injEq] at hp
    exact h.ne hh hp.symm
theorem MapS.look (h : MapS w P k b g) (K : Keyed P k) (ht : P.underlying t = some (.map k e)) {z : Value} (hz : (zeroValue e).run P w = .ok z w) {p : Int × Int} {kl : Lit} (hkey : keyOf P k (spotV p) = some kl) :
    (Instr.lookup t (.map (some b)) (spotV p) false).run P w = .ok ((g p).getD z) w := by
  obtain ⟨es, clock, hb, F, h1, h2⟩ := h
  rcases Maps.fit_look false K ht hz hb F hkey with ⟨hrun, hno, _⟩ | ⟨e0, y, he0, hk0, hrun, _⟩
  · have : g p = none := by
      cases hg : g p with
      | none => rfl
      | some v =>
        obtain ⟨e, he, ek, _⟩ := h2 p v hg
        exact absurd ek (hno e he)
    rw [this]
    simpa using hrun
  · obtain ⟨q, hq, hv⟩ := h1 e0 he0
    rw [hk0] at hq
    obtain rfl := spotV_inj hq
    rw [hv]
    simpa using hrun
theorem MapS.size_le {es : Array MapEntry} {clock : Nat} (F : Fit P k anyR es clock) (h1 : ∀ e ∈ es.toList, ∃ p, e.key = spotV p ∧ g p = some e.val) (L : List (Int × Int)) (hL : ∀ p v, g p = some v → p ∈ L) : es.size ≤ L.length := by
  have key : ∀ (l : List MapEntry), l.Pairwise (fun x y => x.key ≠ y.key) → (∀ e ∈ l, ∃ p, e.key = spotV p ∧ p ∈ L) → ∃ ps : List (Int × Int), ps.length = l.length ∧ ps.Nodup ∧ (∀ p, p ∈ ps → p ∈ L) ∧ ∀ p, p ∈ ps → ∃ e ∈ l, e.key = spotV p := by
    intro l
    induction l with
    | nil => intro _ _; exact ⟨[], rfl, List.nodup_nil, by simp, by simp⟩
    | cons a l ih =>
      intro hp hs
      obtain ⟨p1, p2⟩ := List.pairwise_cons.1 hp
      obtain ⟨ps, e1, e2, e3, e4⟩ := ih p2 (fun e he => hs e (by simp [he]))
      obtain ⟨q, hq, hqL⟩ := hs a (by simp)
      refine ⟨q :: ps, by simp [e1], List.nodup_cons.2 ⟨fun hm => ?_, e2⟩, ?_, ?_⟩
      · obtain ⟨e, he, ek⟩ := e4 q hm
        exact p1 e he (hq.trans ek.symm)
      · intro p hp
        rcases List.mem_cons.1 hp with rfl | hp
        · exact hqL
        · exact e3 p hp
      · intro p hp
        rcases List.mem_cons.1 hp with rfl | hp
        · exact ⟨a, by simp, hq⟩
        · obtain ⟨e, he, ek⟩ := e4 p hp
          exact ⟨e, by simp [he], ek⟩
  obtain ⟨ps, e1, e2, e3, _⟩ := key es.toList ((stamped_iff es clock).1 F.stamped).2.2 (fun e he => let ⟨p, h, h'⟩ := h1 e he; ⟨p, h, hL p _ h'⟩)
  have := nodup_len ps L e2 e3
  rw [e1] at this
  simpa using this
/-- How many entries block b holds. -/
def mapLen (w : World) (b : Nat) : Nat := match w.heap[b]? with | some (.map es _) => es.size | _ => 0
theorem MapS.count (h : MapS w P k b g) (ds : List (Int × Int)) (hnd : ds.Nodup) (hg : ∀ p, (∃ v, g p = some v) ↔ p ∈ ds) : mapLen w b = ds.length := by
  obtain ⟨es, clock, hb, F, h1, h2⟩ := h
  have key : ∀ (l : List MapEntry), (∀ e ∈ l, ∃ p, e.key = spotV p) → ∃ ps : List (Int × Int), ps.length = l.length ∧ ∀ e ∈ l, ∃ p, p ∈ ps ∧ e.key = spotV p := by
    intro l
    induction l with
    | nil => intro _; exact ⟨[], rfl, by simp⟩
    | cons a l ih =>
      intro hs
      obtain ⟨ps, e1, e2⟩ := ih (fun e he => hs e (by simp [he]))
      obtain ⟨q, hq⟩ := hs a (by simp)
      refine ⟨q :: ps, by simp [e1], fun e he => ?_⟩
      rcases List.mem_cons.1 he with rfl | he
      · exact ⟨q, by simp, hq⟩
      · obtain ⟨p, hp, hk⟩ := e2 e he
        exact ⟨p, by simp [hp], hk⟩
  obtain ⟨ps, e1, e2⟩ := key es.toList (fun e he => let ⟨p, hp, _⟩ := h1 e he; ⟨p, hp⟩)
  have a1 := MapS.size_le F h1 ds (fun p v hv => (hg p).1 ⟨v, hv⟩)
  have a2 := nodup_len ds ps hnd (fun p hp => by
    obtain ⟨v, hv⟩ := (hg p).2 hp
    obtain ⟨e, he, hk, _⟩ := h2 p v hv
    obtain ⟨q, hq, hk'⟩ := e2 e he
    rw [hk] at hk'
    rw [spotV_inj hk']
    exact hq)
  unfold mapLen
  rw [hb]
  simp only [Array.length_toList] at e1
  show es.size = ds.length
  omega
theorem MapS.store (h : MapS w P k b g) (K : Keyed P k) (ht : P.underlying t = some (.map k e)) (L : List (Int × Int)) (hL : ∀ p v, g p = some v → p ∈ L) (hlen : L.length < maxLen) {p : Int × Int} {kl : Lit} (hkey : keyOf P k (spotV p) = some kl) (v : Value) :
    ∃ w', (Instr.mapUpdate t (.map (some b)) (spotV p) v).run P w = .ok () w' ∧ MapS w' P k b (fun q => if q = p then some v else g q) ∧ w.grownBy w' (some b) := by
  obtain ⟨es, clock, hb, F, h1, h2⟩ := h
  have hroom : es.size < maxLen := Nat.lt_of_le_of_lt (MapS.size_le F h1 L hL) hlen
  rcases K.find w hkey es.toList F.keys with ⟨f1, f2⟩ | ⟨j, e0, f1, f2, f3⟩
  · refine ⟨setBlock w b (.map (es.push ⟨spotV p, v, clock⟩) (clock + 1)), ?_, ⟨_, _, heap_setBlock_same hb _, ⟨by simp; omega, stamped_push F.stamped f2, ?_⟩, ?_, ?_⟩, ⟨rfl, rfl, rfl, by simp [setBlock], fun i _ hi => heap_setBlock_other hb _ (fun e => hi (by rw [e]))⟩⟩
    · simp [Instr.mapUpdate, run_underlying ht, MapKept.run_getObj_map hb, K.check w false hkey, f1, MapKept.run_setObj_map _ hb, Result.andThen, setBlock]
    · intro x hx
      simp only [Array.toList_push, List.mem_append, List.mem_singleton] at hx
      rcases hx with hx | rfl
      · exact F.reads x hx
      · exact ⟨_, rd_mk hkey rfl⟩
    · intro x hx
      simp only [Array.toList_push, List.mem_append, List.mem_singleton] at hx
      rcases hx with hx | rfl
      · obtain ⟨q, hq, hv⟩ := h1 x hx
        refine ⟨q, hq, ?_⟩
        exact (if_neg (fun e1 => f2 x hx (by rw [hq, e1]))).trans hv
      · exact ⟨p, rfl, if_pos rfl⟩
    · intro q u hq
      by_cases e : q = p
      · have hq2 := (if_pos e).symm.trans hq
        exact ⟨⟨spotV p, v, clock⟩, by simp, by rw [e], by simpa using hq2⟩
      · replace hq := (if_neg e).symm.trans hq
        obtain ⟨x, hx, hk, hv⟩ := h2 q u hq
        exact ⟨x, by simp at hx ⊢; exact .inl hx, hk, hv⟩
  · have hj : es[j]? = some e0 := by simpa using f2
    have hm0 : e0 ∈ es.toList := List.mem_of_getElem? f2
    have hkeyf : ∀ e', es[j]? = some e' → ({ e' with key := spotV p, val := v } : MapEntry).key = e'.key := fun e' he' => by rw [hj] at he'; cases he'; exact f3.symm
    have hlist : (es.modify j (fun e' => { e' with key := spotV p, val := v })).toList = es.toList.set j { e0 with key := spotV p, val := v } := by rw [Array.toList_modify, modify_eq_set _ _ _ _ f2]
    have hjl : j < es.toList.length := (List.getElem?_eq_some_iff.1 f2).1
    have who : ∀ x ∈ es.toList.set j { e0 with key := spotV p, val := v }, x = { e0 with key := spotV p, val := v } ∨ (x ∈ es.toList ∧ x.key ≠ spotV p) := by
      intro x hx
      obtain ⟨i, hi, ex⟩ := List.getElem_of_mem hx
      rw [List.getElem_set] at ex
      split at ex
      · exact Or.inl ex.symm
      · rename_i hne
        have hi' : i < es.toList.length := by simpa using hi
        refine Or.inr ⟨ex ▸ List.getElem_mem hi', ?_⟩
        rw [← f3]
        exact Go.WideElems.other_key F f2 (by rw [List.getElem?_eq_getElem hi', ex]) (fun e1 => hne e1.symm)
    refine ⟨setBlock w b (.map (es.modify j (fun e' => { e' with key := spotV p, val := v })) clock), ?_, ⟨_, _, heap_setBlock_same hb _, ⟨by simpa using F.size, stamped_modify F.stamped _ _ (fun _ _ => rfl) (fun e' _ he' => hkeyf e' he'), ?_⟩, ?_, ?_⟩, ⟨rfl, rfl, rfl, by simp [setBlock], fun i _ hi => heap_setBlock_other hb _ (fun e => hi (by rw [e]))⟩⟩
    · simp [Instr.mapUpdate, run_underlying ht, MapKept.run_getObj_map hb, K.check w false hkey, f1, hj, f3, K.stays w hkey, MapKept.run_setObj_map _ hb, Result.andThen, setBlock]
    · intro x hx
      rw [hlist] at hx
      rcases who x hx with rfl | ⟨hx', _⟩
      · exact ⟨_, rd_mk hkey rfl⟩
      · exact F.reads x hx'
    · intro x hx
      rw [hlist] at hx
      rcases who x hx with rfl | ⟨hx', hne⟩
      · exact ⟨p, rfl, if_pos rfl⟩
      · obtain ⟨q, hq, hv⟩ := h1 x hx'
        exact ⟨q, hq, (if_neg (fun e1 => hne (by rw [hq, e1]))).trans hv⟩
    · intro q u hq
      rw [hlist]
      by_cases e : q = p
      · have hq2 := (if_pos e).symm.trans hq
        exact ⟨{ e0 with key := spotV p, val := v }, List.mem_iff_getElem.2 ⟨j, by simpa using hjl, by simp⟩, by rw [e], by simpa using hq2⟩
      · replace hq := (if_neg e).symm.trans hq
        obtain ⟨x, hx, hk, hv⟩ := h2 q u hq
        obtain ⟨i, hi, ex⟩ := List.getElem_of_mem hx
        refine ⟨x, List.mem_iff_getElem.2 ⟨i, by simpa using hi, ?_⟩, hk, hv⟩
        rw [List.getElem_set_ne]
        · exact ex
        · rintro rfl
          rw [List.getElem?_eq_getElem hi, ex] at f2
          cases f2
          exact e (spotV_inj (hk.symm.trans f3))
end
theorem wpList_mapUpdate_S {P : Program} (w : World) {ops : Array Oper} {rest : List Oper} {o : Oper} {a : Act} {Q : Exit → Act → World → Prop}
    (hg : o.guard = none) (m x v : Operand) (t : TypeId) (hop : o.op = Op.mapUpdate t m x v)
    (k e : TypeId) (K : Keyed P k) (ht : P.underlying t = some (.map k e)) (b : Nat) (g : Int × Int → Option Value)
    (hm : a.eval m = .map (some b)) (hown : MapS w P k b g) (L : List (Int × Int)) (hL : ∀ p v, g p = some v → p ∈ L) (hlen : L.length < maxLen) (p : Int × Int) (kl : Lit) (val : Value) (hx : a.eval x = spotV p) (hv : a.eval v = val) (hkey : keyOf P k (spotV p) = some kl)
    (hK : ∀ w', MapS w' P k b (fun q => if q = p then some val else g q) → w.grownBy w' (some b) → wpList P ops Q rest (a.put o.dst undef) w') :
    wpList P ops Q (o :: rest) a w := by
  refine wpList_plain hg fun K' hK' => ?_
  obtain ⟨w', hrun, r1, r2⟩ := hown.store K ht L hL hlen hkey val
  unfold Oper.wp
  simp [execOp, hop, hm, hx, hv, hrun, Result.andThen]
  exact hK' _ _ (hK w' r1 r2)
/-- A loop over the map in block b, by the iterator in block r: 'left' says which are still to come. -/
def RangeS (w : World) (P : Program) (k : TypeId) (b r : Nat) (g : Int × Int → Option Value) (left : Int × Int → Bool) (cnt : Nat) : Prop :=
  ∃ es clock since seen c0, w.heap[b]? = some (.map es clock) ∧ Fit P k anyR es clock ∧ (∀ e ∈ es.toList, ∃ p, e.key = spotV p ∧ g p = some e.val) ∧ (∀ p v, g p = some v → ∃ e ∈ es.toList, e.key = spotV p ∧ e.val = v) ∧
    w.heap[r]? = some (.mapIter (some b) since seen c0) ∧ (∀ x ∈ es.toList, x.born < since) ∧ (leftOf es seen).size = cnt ∧
    (∀ x ∈ es.toList, ∀ p, x.key = spotV p → left p = !seen.contains x.born) ∧ (∀ p, left p = true → ∃ x ∈ es.toList, x.key = spotV p) ∧ since ≤ c0 ∧ since ≤ clock
section
variable {P : Program} {k t e : TypeId} {w w' : World} {b r : Nat} {g : Int × Int → Option Value} {left : Int × Int → Bool} {cnt : Nat}
theorem RangeS.left_eq (h : RangeS w P k b r g left cnt) : w.rangeLeft b r = cnt := by
  obtain ⟨es, clock, since, seen, c0, hb, _, _, _, hr, _, hc, _⟩ := h
  simp only [World.rangeLeft, hb, hr]
  exact hc
theorem RangeS.map (h : RangeS w P k b r g left cnt) : MapS w P k b g := by
  obtain ⟨es, clock, since, seen, c0, hb, F, h1, h2, _⟩ := h
  exact ⟨es, clock, hb, F, h1, h2⟩
theorem RangeS.lt (h : RangeS w P k b r g left cnt) : r < w.heap.size := by
  obtain ⟨es, clock, since, seen, c0, _, _, _, _, hr, _⟩ := h
  exact (Array.getElem?_eq_some_iff.1 hr).1
theorem RangeS.keep (h : RangeS w P k b r g left cnt) (hb' : w'.heap[b]? = w.heap[b]?) (hr' : w'.heap[r]? = w.heap[r]?) : RangeS w' P k b r g left cnt := by
  obtain ⟨es, clock, since, seen, c0, hb, F, h1, h2, hr, rest⟩ := h
  exact ⟨es, clock, since, seen, c0, by rw [hb', hb], F, h1, h2, by rw [hr', hr], rest⟩
theorem RangeS.ext (h : RangeS w P k b r g left cnt) (hx : w.Ext w') : RangeS w' P k b r g left cnt := h.keep (hx.block h.map.lt) (hx.block h.lt)
theorem RangeS.grown {row : Option Nat} (h : RangeS w P k b r g left cnt) (hg : w.grownBy w' row) (h1 : some b ≠ row) (h2 : some r ≠ row) : RangeS w' P k b r g left cnt := h.keep (hg.block b h.map.lt h1) (hg.block r h.lt h2)
theorem RangeS.setCell (h : RangeS w P k b r g left cnt) {a : Addr} (h1 : a.block ≠ b) (h2 : a.block ≠ r) (u : Value) : RangeS (w.setCell a u) P k b r g left cnt := h.keep (Below.heap_setCell _ _ _ _ (Ne.symm h1)) (Below.heap_setCell _ _ _ _ (Ne.symm h2))
theorem MapS.range (h : MapS w P k b g) (ht : P.underlying t = some (.map k e)) :
    ∃ w', (Instr.range t (.map (some b))).run P w = .ok (.pointer (some ⟨w.heap.size, 0, none⟩)) w' ∧ (∃ cnt, RangeS w' P k b w.heap.size g (fun p => (g p).isSome) cnt) ∧ w.grownBy w' none ∧ w'.heap.size = w.heap.size + 1 := by
  have hlt := h.lt
  obtain ⟨es, clock, hb, F, h1, h2⟩ := h
  refine ⟨_, run_range_map w t k e b es clock ht hb, ⟨_, es, clock, clock, #[], clock, ((MapKept.heap_alloc w _).2 b hlt).trans hb, F, h1, h2, (MapKept.heap_alloc w _).1, F.stamped.1, rfl, ?_, ?_, Nat.le_refl _, Nat.le_refl _⟩, World.grownBy_alloc w _ none, by simp⟩
  · intro x hx p hp
    obtain ⟨q, hq, hv⟩ := h1 x hx
    rw [hp] at hq
    obtain rfl := spotV_inj hq
    simp [hv]
  · intro p hp
    obtain ⟨v, hv⟩ := Option.isSome_iff_exists.1 hp
    obtain ⟨x, hx, hk, _⟩ := h2 p v hv
    exact ⟨x, hx, hk⟩
theorem RangeS.next (h : RangeS w P k b r g left cnt) (ty : TypeId) :
    ((∀ p, left p = false) ∧ (Instr.next (.pointer (some ⟨r, 0, none⟩)) false ty).run P w = .ok (.tuple #[.bool false]) w) ∨
    ∃ p v w' cnt', left p = true ∧ g p = some v ∧ (Instr.next (.pointer (some ⟨r, 0, none⟩)) false ty).run P w = .ok (.tuple #[.bool true, spotV p, v]) w' ∧
      RangeS w' P k b r g (fun q => left q && !(q == p)) cnt' ∧ cnt' < cnt ∧ w.grownBy w' (some r) ∧ w'.heap.size = w.heap.size ∧ (Instr.entry (.pointer (some ⟨r, 0, none⟩))).run P w' = .ok (.tuple #[spotV p, v]) w' := by
  obtain ⟨es, clock, since, seen, c0, hb, F, h1, h2, hr, hold, rfl, hl1, hl2, hsc, hsk⟩ := h
  have hne : r ≠ b := by rintro rfl; rw [hb] at hr; cases hr
  rcases run_next_at (P := P) w ty r b since c0 seen es clock hr hb hold hsc with ⟨h0, hrun⟩ | ⟨e, he, w1, hal, hrun⟩
  · refine Or.inl ⟨fun p => ?_, hrun⟩
    cases hk : left p
    · rfl
    · obtain ⟨x, hx, hxk⟩ := hl2 p hk
      rw [hl1 x hx p hxk, all_seen es seen h0 x hx] at hk
      cases hk
  · obtain ⟨hem, hes⟩ := mem_left he
    obtain ⟨p, hp, hv⟩ := h1 e hem
    have hr1 : w1.heap[r]? = some (.mapIter (some b) since seen c0) := by rcases hal with rfl | rfl <;> exact hr
    have hb1 : w1.heap[b]? = some (.map es clock) := by rcases hal with rfl | rfl <;> exact hb
    have hset := heap_set (o' := .mapIter (some b) since (seen.push e.born) clock) hr1
    have hb' : (setBlock w1 r (.mapIter (some b) since (seen.push e.born) clock)).heap[b]? = some (.map es clock) := (hset.2 b (fun e1 => hne e1.symm)).trans hb1
    have hst := (stamped_iff es clock).1 F.stamped
    refine Or.inr ⟨p, e.val, _, _, by rw [hl1 e hem p hp, hes]; rfl, hv, by rw [← hp]; exact hrun,
      ⟨es, clock, since, seen.push e.born, clock, hb', F, h1, h2, hset.1, hold, rfl, fun x hx q hq => ?_, fun q hq => hl2 q (by simp at hq; exact hq.1), hsk, hsk⟩, left_shrinks es seen e he, ?_, ?_,
      by rw [← hp]; exact run_entry_at _ r b since seen es clock e hset.1 hb' hem hst.2.1⟩
    · have hbe : (x.born == e.born) = (q == p) := by
        by_cases h : q = p
        · subst h
          obtain rfl := entry_eq_of_key hst.2.2 hx hem (hq.trans hp.symm)
          simp
        · have : x.born ≠ e.born := fun hb2 => by
            obtain rfl := born_inj hst.2.1 hx hem hb2
            exact h (spotV_inj (hq.symm.trans hp))
          rw [beq_eq_false_iff_ne.2 h, beq_eq_false_iff_ne.2 this]
      show (left q && !(q == p)) = _
      rw [hl1 x hx q hq, contains_push, ← hbe]
      cases seen.contains x.born <;> cases (x.born == e.born) <;> rfl
    · rcases hal with rfl | rfl <;> exact ⟨rfl, rfl, rfl, by simp [setBlock], fun i _ hi => hset.2 i (fun e1 => hi (by rw [e1]))⟩
    · rcases hal with rfl | rfl <;> simp [setBlock]
end
section
variable {P : Program} (w : World) {ops : Array Oper} {rest : List Oper} {o : Oper} {a : Act} {Q : Exit → Act → World → Prop}
theorem wpList_range_S (hg : o.guard = none) (m : Operand) (t : TypeId) (hop : o.op = Op.range t m) (k e : TypeId) (ht : P.underlying t = some (.map k e)) (b : Nat) (g : Int × Int → Option Value)
    (hm : a.eval m = .map (some b)) (hown : MapS w P k b g)
    (hK : ∀ w' cnt, RangeS w' P k b w.heap.size g (fun p => (g p).isSome) cnt → w.grownBy w' none → w'.heap.size = w.heap.size + 1 → wpList P ops Q rest (a.put o.dst (.pointer (some ⟨w.heap.size, 0, none⟩))) w') :
    wpList P ops Q (o :: rest) a w := by
  refine wpList_plain hg fun K' hK' => ?_
  obtain ⟨w', hrun, ⟨cnt, r1⟩, r2, r3⟩ := hown.range ht
  unfold Oper.wp
  simp [execOp, hop, hm, hrun, Result.andThen]
  exact hK' _ _ (hK w' cnt r1 r2 r3)
theorem wpList_next_S (hg : o.guard = none) (it : Operand) (hop : o.op = Op.next it false) (k : TypeId) (b r : Nat) (g : Int × Int → Option Value) (left : Int × Int → Bool) (cnt : Nat)
    (hit : a.eval it = .pointer (some ⟨r, 0, none⟩)) (h : RangeS w P k b r g left cnt)
    (hDone : (∀ p, left p = false) → wpList P ops Q rest (a.put o.dst (.tuple #[.bool false])) w)
    (hMore : ∀ (x y : Int) (v : Value) (w' : World) (cnt' : Nat), left (x, y) = true → g (x, y) = some v → RangeS w' P k b r g (fun q => left q && !(q == (x, y))) cnt' → cnt' < cnt →
      w.grownBy w' (some r) → w'.heap.size = w.heap.size → (Instr.entry (.pointer (some ⟨r, 0, none⟩))).run P w' = .ok (.tuple #[.agg #[.int .i64 x, .int .i64 y], v]) w' → wpList P ops Q rest (a.put o.dst (.tuple #[.bool true, .agg #[.int .i64 x, .int .i64 y], v])) w') :
    wpList P ops Q (o :: rest) a w := by
  refine wpList_plain hg fun K' hK' => ?_
  unfold Oper.wp
  rcases h.next o.type with ⟨hl, hrun⟩ | ⟨⟨x, y⟩, v, w', cnt', hlk, hv, hrun, hrg, hlt, hgr, hsz, hen⟩
  · simp [execOp, hop, hit, hrun, Result.andThen]
    exact hK' _ _ (hDone hl)
  · simp [execOp, hop, hit, hrun, Result.andThen]
    exact hK' _ _ (hMore x y v w' cnt' hlk hv hrg hlt hgr hsz hen)
end
theorem Try.laidOut : laidOutB Try.prog = true := by kernel_rfl
theorem Try.spotKey : Keyed Try.prog 33 := Keyed.of_law (deep_law_laid Try.laidOut (m := 2) (by omega) (of_decide_eq_true (by kernel_rfl)) (by kernel_rfl) (by kernel_rfl))
theorem Try.spotTypes : ∃ m, Try.prog.types.size = m + 1 := ⟨Try.prog.types.size - 1, by kernel_rfl⟩
theorem Try.spotKeyType : Try.prog.keyType 33 = true := by kernel_rfl
theorem Try.spotCells : Try.prog.cellsOf 33 = 2 := by kernel_rfl
theorem Try.i64Cells : Try.prog.cellsOf 2 = 1 := by kernel_rfl
theorem spotKeyOf {p : Int × Int} (h : SpotWf p) : keyOf Try.prog 33 (spotV p) = some (.string (keyBytes [.int .i64 p.1, .int .i64 p.2])) := by
  obtain ⟨m, hm⟩ := Try.spotTypes
  unfold keyOf spotV
  simp only [Try.underlying33]
  rw [if_pos (by simp [Try.spotKeyType, Value.formed, Try.underlying33, Try.spotCells]), hm]
  unfold Program.keyLits
  simp only [Try.underlying33, Value.cells]
  rw [if_pos ⟨by rw [Try.spotCells]; rfl, by kernel_rfl⟩, List.mapM_cons, List.mapM_cons, List.mapM_nil]
  simp [Try.i64Cells, Program.keyLits, Try.underlying2, h.1, h.2]
end Go.Proofs.Ytelaoimcaidoiaa
