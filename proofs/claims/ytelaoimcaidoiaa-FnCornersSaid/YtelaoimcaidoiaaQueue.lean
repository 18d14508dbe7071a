/- A slice of the call's own that lies anywhere in its row: 'q = q[1:]', 'q = append(q, x)'. -/
import Derived.Test.YtelaoimcaidoiaaMapS
namespace Go
open Go.RowKit
def World.ownsQ (w : World) (base : Nat) (e : TypeId) (size : Nat) (v : Value) (n : Nat) (xs : List Value) : Prop :=
  xs.length = n * size ∧ ∃ g o cap cur, v = .slice (some ⟨g, o, none⟩) n cap ∧ base ≤ g ∧ w.heap[g]? = some (.cells cur e (0, 0)) ∧ n ≤ cap ∧ cap ≤ maxLen ∧ o + cap * size ≤ cur.size ∧ (cur.toList.drop o).take (n * size) = xs
section
variable {base : Nat} {e : TypeId} {size n : Nat} {w w' : World} {v : Value} {xs : List Value}
theorem World.ownsQ_new (w : World) (e : TypeId) (size : Nat) (b : Nat) (hb : b = w.heap.size) (h : base ≤ w.heap.size) : (w.alloc (.cells #[] e)).ownsQ base e size (.slice (some ⟨b, 0, none⟩) 0 0) 0 [] := by
  subst hb
  exact ⟨by simp, w.heap.size, 0, 0, #[], rfl, h, (MapKept.heap_alloc w _).1, Nat.le_refl _, Nat.zero_le _, by simp, by simp⟩
theorem World.ownsQ.lt (h : w.ownsQ base e size v n xs) : ∀ k, v.ownBlock = some k → base ≤ k ∧ k < w.heap.size := by
  obtain ⟨_, g, o, cap, cur, rfl, hg, hh, _⟩ := h
  intro k hk
  simp only [Value.ownBlock, Option.some.injEq] at hk
  subst hk
  exact ⟨hg, (Array.getElem?_eq_some_iff.1 hh).1⟩
theorem World.ownsQ.keep (h : w.ownsQ base e size v n xs) (hk : ∀ k, v.ownBlock = some k → w'.heap[k]? = w.heap[k]?) : w'.ownsQ base e size v n xs := by
  obtain ⟨h1, g, o, cap, cur, rfl, hg, hh, r⟩ := h
  exact ⟨h1, g, o, cap, cur, rfl, hg, by rw [hk g rfl]; exact hh, r⟩
theorem World.ownsQ.ext (h : w.ownsQ base e size v n xs) (hx : w.Ext w') : w'.ownsQ base e size v n xs := h.keep fun _ hk => hx.block (h.lt _ hk).2
theorem World.ownsQ.grown {row : Option Nat} (h : w.ownsQ base e size v n xs) (hg : w.grownBy w' row) (hne : v.ownBlock ≠ row) : w'.ownsQ base e size v n xs :=
  h.keep fun k hk => hg.block k (h.lt _ hk).2 (fun e => hne (by rw [hk, e]))
theorem World.ownsQ.ne {p : Nat} {cs : Array Value} {e' : TypeId} {fr : Nat × Nat} (h : w.ownsQ base e size v n xs) (ho : w.heap[p]? = some (.cells cs e' fr)) (he : e ≠ e') : some p ≠ v.ownBlock := by
  obtain ⟨h1, g, o, cap, cur, rfl, hg, hh, r⟩ := h
  intro hp
  simp only [Value.ownBlock, Option.some.injEq] at hp
  subst hp
  rw [hh] at ho
  simp only [Option.some.injEq, Obj.cells.injEq] at ho
  exact he ho.2.1
theorem World.ownsQ.form (h : w.ownsQ base e size v n xs) : ∃ g o cap, v = .slice (some ⟨g, o, none⟩) n cap ∧ n ≤ cap ∧ cap ≤ maxLen := by
  obtain ⟨_, g, o, cap, cur, rfl, _, _, h1, h2, _⟩ := h
  exact ⟨g, o, cap, rfl, h1, h2⟩
theorem World.ownsQ.cells {g o m cap : Nat} (h : w.ownsQ base e size (.slice (some ⟨g, o, none⟩) m cap) n xs) : ∀ j u, xs[j]? = some u → w.cell? ⟨g, o + j, none⟩ = some u := by
  intro j u hu
  obtain ⟨_, g', o', cap', cur, hv, _, hh, _, _, _, ht⟩ := h
  simp only [Value.slice.injEq, Option.some.injEq, Addr.mk.injEq] at hv
  obtain ⟨⟨rfl, rfl, -⟩, -, -⟩ := hv
  rw [cell_of_row w g (o + j) cur e (0, 0) hh]
  rw [← ht, List.getElem?_take] at hu
  split at hu
  · rw [List.getElem?_drop] at hu
    simpa using hu
  · cases hu
theorem World.ownsQ.pushExt {w0 : World} {o : Obj} {w1 : World} (h : w.ownsQ w0.heap.size e size v n xs) (hx : w0.Ext w) (hg : (w.alloc o).grownBy w1 v.ownBlock) : w0.Ext w1 :=
  (hx.alloc o).grown hg fun _ hk => (h.lt _ hk).1
end
section
variable {P : Program} (w : World)
theorem run_append_room_at (t ty e : TypeId) (i : TypeInfo) (ht : P.underlying t = some (.slice e)) (hi : P.info? e = some i)
    (g o sLen sCap : Nat) (cur : Array Value) (hg : w.heap[g]? = some (.cells cur e (0, 0)))
    (a : Addr) (m c : Nat) (news : List Value) (hl : news.length = m * i.size) (hnews : ∀ j u, news[j]? = some u → w.cell? (a.add j) = some u) (h1 : ∀ u ∈ news, u.oneCell' = true)
    (hroom : sLen + m ≤ sCap) (hfit : o + sLen * i.size + news.length ≤ cur.size) :
    (Builtin.append_ #[t, t] ty #[.slice (some ⟨g, o, none⟩) sLen sCap, .slice (some a) m c]).run P w =
      .ok (.slice (some ⟨g, o, none⟩) (sLen + m) sCap) (w.setRow g (cur.toList.take (o + sLen * i.size) ++ news ++ cur.toList.drop (o + sLen * i.size + news.length)).toArray) := by
  have hf := run_firstCells_some (P := P) w i.size m a m c news hl hnews
  have hst := run_storeCells_at P g (o + sLen * i.size) e news 0 cur w hg (by simpa using hfit) h1
  simp only [Nat.add_zero] at hst
  simp [Builtin.append_, run_underlying ht, sizeOf, typeInfo, hi, Builtin.lenOf, hroom, hf, Addr.add_lit, hst]
theorem run_append_Q (base : Nat) (t ty e : TypeId) (i : TypeInfo) (z : Value) (size bytes : Nat) (ht : P.underlying t = some (.slice e)) (hi : P.info? e = some i) (hz : i.zero = some z)
    (hsize : i.size = size) (hby : i.bytes = bytes) (hzs : z.cells.size = size)
    (v : Value) (n : Nat) (xs : List Value) (hown : w.ownsQ base e size v n xs)
    (a : Addr) (m c : Nat) (news : List Value) (hl : news.length = m * size) (hnews : ∀ j u, news[j]? = some u → w.cell? (a.add j) = some u) (h1 : ∀ u ∈ news, u.oneCell' = true)
    (h63 : n + m ≤ maxLen) (hbytes : (n + m) * bytes ≤ 140737488355328) (hbase : base ≤ w.heap.size) :
    ∃ v' w', (Builtin.append_ #[t, t] ty #[v, .slice (some a) m c]).run P w = .ok v' w' ∧ w'.ownsQ base e size v' (n + m) (xs ++ news) ∧ w.grownBy w' v.ownBlock ∧ (v'.ownBlock = v.ownBlock ∨ v'.ownBlock = some w.heap.size) := by
  subst hsize
  subst hby
  have hsmall : n + m ≤ 9223372036854775807 := by simp only [maxLen] at h63; omega
  have hlen : (xs ++ news).length = (n + m) * i.size := by rw [List.length_append, hown.1, hl, Nat.add_mul]
  obtain ⟨hx, g, o, cap, cur, rfl, hbg, hg, hnc, hcm, hcs, htake⟩ := hown
  by_cases hroom : n + m ≤ cap
  · have hm1 : n * i.size + m * i.size ≤ cap * i.size := by rw [← Nat.add_mul]; exact Nat.mul_le_mul_right _ hroom
    have hr := run_append_room_at (P := P) w t ty e i ht hi g o n cap cur hg a m c news hl hnews h1 hroom (by rw [hl]; omega)
    refine ⟨_, _, hr, ⟨hlen, g, o, cap, _, rfl, hbg, setRow_heap w g cur _ e _ hg, hroom, hcm, ?_, ?_⟩, ⟨rfl, rfl, rfl, by simp, fun k _ hk => _root_.Go.setRow_other w g k _ (fun e => hk (by simp [Value.ownBlock, e]))⟩, .inl rfl⟩
    · simp only [List.size_toArray, List.length_append, List.length_take, List.length_drop, Array.length_toList, hl]
      omega
    · have ho : o ≤ cur.size := by omega
      have e1 : cur.toList.take (o + n * i.size) = cur.toList.take o ++ xs := by rw [List.take_add, htake]
      have e2 : (cur.toList.take o).length = o := by simp; omega
      rw [List.append_assoc, e1, List.append_assoc, List.drop_append, e2, Nat.sub_self, List.drop_zero, ← List.append_assoc xs, ← hlen]
      rw [List.drop_eq_nil_of_le (by omega), List.nil_append]
      exact List.take_left
  · have holds : ∀ j u, xs[j]? = some u → w.cell? ((⟨g, o, none⟩ : Addr).add j) = some u := fun j u hu => by
      rw [Addr.add_lit]
      exact World.ownsQ.cells (base := base) (e := e) (size := i.size) (n := n) (m := n) (cap := cap) ⟨hx, g, o, cap, cur, rfl, hbg, hg, hnc, hcm, hcs, htake⟩ j u hu
    have hr := run_append_grow (P := P) w t ty e i z ht hi hz ⟨g, o, none⟩ n cap xs hx holds a m c news hl hnews (by omega) (by omega) (growslice_fits (by omega) hbytes)
    have hge := grownCap_ge w (n + m) cap e
    refine ⟨_, _, hr, ⟨hlen, w.heap.size, 0, _, _, rfl, hbase, heap_alloc_new w.drew _, hge, grownCap_le_maxLen w (n + m) cap e h63, ?_, ?_⟩, ⟨rfl, rfl, rfl, by simp, fun k hk _ => (MapKept.heap_alloc w.drew _).2 k hk⟩, .inr rfl⟩
    · simp only [Array.size_append, List.size_toArray, size_zeroCells, hzs, hx, hl, ← Nat.add_mul]
      rw [Nat.zero_add]
      exact Nat.le_of_eq (by congr 1; omega)
    · simp only [List.drop_zero, Array.toList_append, List.append_assoc]
      rw [← List.append_assoc, ← hlen]
      exact List.take_left
theorem wpList_append_Q {ops : Array Oper} {rest : List Oper} {o : Oper} {a : Act} {Q : Exit → Act → World → Prop} (hgd : o.guard = none) (s x : Operand) (t : TypeId)
    (ho : o.op = .call { callee := .builtin .append, args := #[s, x], argTypes := #[t, t] })
    (base : Nat) (e : TypeId) (i : TypeInfo) (z : Value) (size bytes : Nat) (ht : P.underlying t = some (.slice e)) (hi : P.info? e = some i) (hz : i.zero = some z)
    (hsize : i.size = size) (hby : i.bytes = bytes) (hzs : z.cells.size = size)
    (v : Value) (n : Nat) (xs : List Value) (hs : a.eval s = v) (hown : w.ownsQ base e size v n xs)
    (ad : Addr) (m c : Nat) (news : List Value) (hx : a.eval x = .slice (some ad) m c) (hl : news.length = m * size) (hnews : ∀ j u, news[j]? = some u → w.cell? (ad.add j) = some u) (h1 : ∀ u ∈ news, u.oneCell' = true)
    (h63 : n + m ≤ maxLen) (hbytes : (n + m) * bytes ≤ 140737488355328) (hbase : base ≤ w.heap.size)
    (h : ∀ v' w', w'.ownsQ base e size v' (n + m) (xs ++ news) → w.grownBy w' v.ownBlock → (v'.ownBlock = v.ownBlock ∨ v'.ownBlock = some w.heap.size) → wpList P ops Q rest (a.put o.dst v') w') :
    wpList P ops Q (o :: rest) a w := by
  refine wpList_plain hgd fun K hK => ?_
  obtain ⟨v', w', hr, h2, h3, h4⟩ := run_append_Q (P := P) w base t o.type e i z size bytes ht hi hz hsize hby hzs v n xs hown ad m c news hl hnews h1 h63 hbytes hbase
  unfold Oper.wp execOp
  simp only [ho, resolve, invoke, builtin, Sem.run_bind, Sem.run_pure, Result.andThen_ok, List.map_toArray, List.map_cons, List.map_nil, hs, hx, hr]
  exact hK _ _ (h v' w' h2 h3 h4)
theorem run_tail_Q {base : Nat} {t e : TypeId} {i : TypeInfo} {size n : Nat} {v : Value} {xs : List Value} (ht : P.underlying t = some (.slice e)) (hi : P.info? e = some i) (hsize : i.size = size) (h : w.ownsQ base e size v (n + 1) xs) :
    ∃ v', (Instr.sliceAt t v (some (.int .i64 1)) none none).run P w = .ok v' w ∧ w.ownsQ base e size v' n (xs.drop size) ∧ v'.ownBlock = v.ownBlock := by
  subst hsize
  have he : P.elem t = e := by unfold Program.elem; rw [ht]
  have ht' : P.underlying t = some (.slice (P.elem t)) := by rw [he]; exact ht
  obtain ⟨hx, g, o, cap, cur, rfl, hbg, hg, hnc, hcm, hcs, htake⟩ := h
  have hrun : (Instr.sliceAt t (.slice (some ⟨g, o, none⟩) (n + 1) cap) (some (.int .i64 1)) none none).run P w = .ok (.slice (if cap = 1 then some ⟨g, o, none⟩ else some ⟨g, o + i.size, none⟩) n (cap - 1)) w := by
    rw [run_sliceAt_slice w t _ _ _ _ ht', run_slice_l w t _ _ _ ht' .i64 1 (by omega) (by omega)]
    simp [sizeOf, typeInfo, he, hi, sliced, Addr.add_lit, Result.andThen]
  refine ⟨_, hrun, ⟨by rw [List.length_drop, hx, Nat.add_mul]; omega, ?_⟩, by by_cases h1 : cap = 1 <;> simp [Value.ownBlock, h1]⟩
  have hd : (cur.toList.drop (o + i.size)).take (n * i.size) = xs.drop i.size := by
    rw [← htake, List.drop_take, List.drop_drop, Nat.add_mul, Nat.one_mul, Nat.add_sub_cancel]
  by_cases h1 : cap = 1
  · subst h1
    have hn : n = 0 := by omega
    subst hn
    refine ⟨g, o, 0, cur, by simp, hbg, hg, Nat.le_refl _, Nat.zero_le _, by simp; omega, ?_⟩
    rw [← hd]
    simp
  · have hm1 : (cap - 1) * i.size + i.size = cap * i.size := by
      rw [← Nat.succ_mul]
      congr 1
      omega
    exact ⟨g, o + i.size, cap - 1, cur, by rw [if_neg h1], hbg, hg, by omega, by omega, by omega, hd⟩
theorem wpList_tail_Q {ops : Array Oper} {rest : List Oper} {o : Oper} {a : Act} {Q : Exit → Act → World → Prop} (hgd : o.guard = none) (x lo : Operand) (t : TypeId) (ho : o.op = .slice t x (some lo) none none)
    (base : Nat) (e : TypeId) (i : TypeInfo) (size n : Nat) (ht : P.underlying t = some (.slice e)) (hi : P.info? e = some i) (hsize : i.size = size) (v : Value) (xs : List Value) (hx : a.eval x = v) (hl : a.eval lo = .int .i64 1) (hown : w.ownsQ base e size v (n + 1) xs)
    (h : ∀ v', w.ownsQ base e size v' n (xs.drop size) → v'.ownBlock = v.ownBlock → wpList P ops Q rest (a.put o.dst v') w) : wpList P ops Q (o :: rest) a w := by
  refine wpList_plain hgd fun K hK => ?_
  obtain ⟨v', hr, h2, h3⟩ := run_tail_Q (P := P) w ht hi hsize hown
  unfold Oper.wp
  simp [execOp, ho, hx, hl, hr, Result.andThen]
  exact hK _ _ (h v' h2 h3)
end
end Go
