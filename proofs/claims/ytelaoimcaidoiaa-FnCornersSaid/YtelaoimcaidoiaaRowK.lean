/- Rows of the call's own: cut, and joined again. -/
import Derived.Test.YtelaoimcaidoiaaKit
import Derived.Test.YtelaoimcaidoiaaQueue
import Derived.Maps.AppendAt
import Derived.Deep.RegionLaw
namespace Go
open Go.RowKit
/-- append onto a row of the call's own, at a step of a region that draws its order. -/
theorem step_append_mine {P : Program} {w : World} {ops : Array Oper} {o : Oper} {a : Act} {K : Act → World → Prop} {Q : Exit → Act → World → Prop} {E : Prop} (hgd : o.guard = none) (s x : Operand) (t : TypeId)
    (ho : o.op = .call { callee := .builtin .append, args := #[s, x], argTypes := #[t, t] })
    (base : Nat) (e : TypeId) (i : TypeInfo) (z : Value) (size bytes : Nat) (ht : P.underlying t = some (.slice e)) (hi : P.info? e = some i) (hz : i.zero = some z)
    (hsize : i.size = size) (hby : i.bytes = bytes) (hzs : z.cells.size = size) (hsz : 0 < size)
    (v : Value) (n : Nat) (xs : List Value) (hs : a.eval s = v) (hown : w.ownsRow base e size v n xs)
    (ad : Addr) (m c : Nat) (news : List Value) (hx : a.eval x = .slice (some ad) m c) (hl : news.length = m * size) (hnews : ∀ j u, news[j]? = some u → w.cell? (ad.add j) = some u) (h1 : ∀ u ∈ news, u.oneCell' = true)
    (h63 : n + m ≤ maxLen) (hbytes : (n + m) * bytes ≤ 140737488355328) (hbase : base ≤ w.heap.size)
    (h : ∀ v' w', w'.ownsRow base e size v' (n + m) (xs ++ news) → w.grownBy w' v.ownBlock → (v'.ownBlock = v.ownBlock ∨ v'.ownBlock = some w.heap.size) → K (a.put o.dst v') w') :
    if Region.wanted o (yielded ops a.tmps) = true then Oper.wp P o a w K Q else E := by
  have hw : Region.wanted o (yielded ops a.tmps) = true := by simp [Region.wanted, hgd]
  rw [if_pos hw]
  obtain ⟨v', w', hr, h2, h3, _, h5⟩ := run_append_own_at (P := P) w base t o.type e i z size bytes ht hi hz hsize hby hzs hsz v n xs hown ad m c news hl hnews h1 h63 hbytes hbase
  unfold Oper.wp execOp
  simp only [ho, resolve, invoke, builtin, Sem.run_bind, Sem.run_pure, Result.andThen_ok, List.map_toArray, List.map_cons, List.map_nil, hs, hx, hr]
  exact h v' w' h2 h3 h5
/-- Where the rest of a row begins. -/
def fromAt (c k size : Nat) : Nat := if c = k then 0 else k * size
section
variable {P : Program} {t e : TypeId} {i : TypeInfo} {size : Nat}
theorem run_slice_from (w : World) (ht : P.underlying t = some (.slice e)) (hi : P.info? e = some i) (hsize : i.size = size) (g M c k : Nat) (h1 : k ≤ M) (_ : M ≤ c) :
    (Instr.sliceAt t (.slice (some ⟨g, 0, none⟩) M c) (some (.int .i64 k)) none none).run P w = .ok (.slice (some ⟨g, fromAt c k size, none⟩) (M - k) (c - k)) w := by
  have he : P.elem t = e := by unfold Program.elem; rw [ht]
  have ht' : P.underlying t = some (.slice (P.elem t)) := by rw [he]; exact ht
  rw [run_sliceAt_slice w t _ _ _ _ ht', run_slice_l w t _ _ _ ht' .i64 k (by omega) (by omega)]
  unfold fromAt
  by_cases hc : c = k
  · simp [sizeOf, typeInfo, he, hi, sliced, Result.andThen, hc]
  · simp [sizeOf, typeInfo, he, hi, sliced, Addr.add_lit, Result.andThen, hc, hsize]
theorem run_slice_to (w : World) (ht : P.underlying t = some (.slice e)) (hi : P.info? e = some i) (g M c k : Nat) (h1 : k ≤ M) (h2 : M ≤ c) :
    (Instr.sliceAt t (.slice (some ⟨g, 0, none⟩) M c) none (some (.int .i64 k)) none).run P w = .ok (.slice (some ⟨g, 0, none⟩) k c) w := by
  have he : P.elem t = e := by unfold Program.elem; rw [ht]
  have ht' : P.underlying t = some (.slice (P.elem t)) := by rw [he]; exact ht
  rw [run_sliceAt_slice w t _ _ _ _ ht', run_slice_h w t _ _ _ ht' .i64 k (by omega) (by omega)]
  simp [sizeOf, typeInfo, he, hi, sliced, Addr.add_lit, Result.andThen]
end
theorem World.ownsRow.cut {w : World} {base : Nat} {e : TypeId} {size n cap g : Nat} {xs : List Value} (h : w.ownsRow base e size (.slice (some ⟨g, 0, none⟩) n cap) n xs) {k : Nat} (hk : k ≤ n) :
    w.ownsRow base e size (.slice (some ⟨g, 0, none⟩) k cap) k (xs.take (k * size)) := by
  obtain ⟨hx, h0 | ⟨g', cap', cur, hv, hb, hg, h1, h2, h3, h4⟩⟩ := h
  · cases h0.1
  · simp only [Value.slice.injEq, Option.some.injEq, Addr.mk.injEq] at hv
    obtain ⟨⟨rfl, -, -⟩, -, rfl⟩ := hv
    have hm := Nat.mul_le_mul_right size hk
    exact ⟨by rw [List.length_take, hx]; omega, .inr ⟨g, cap, cur, rfl, hb, hg, by omega, h2, h3, by rw [← h4, List.take_take, Nat.min_eq_left hm]⟩⟩
theorem World.ownsRow.restCells {w : World} {base : Nat} {e : TypeId} {size n cap g : Nat} {xs : List Value} (h : w.ownsRow base e size (.slice (some ⟨g, 0, none⟩) n cap) n xs) {k : Nat} (hk : k ≤ n) :
    ∀ j u, (xs.drop (k * size))[j]? = some u → w.cell? ((⟨g, fromAt cap k size, none⟩ : Addr).add j) = some u := by
  intro j u hu
  obtain ⟨hx, h0 | ⟨g', cap', cur, hv, hb, hg, h1, h2, h3, h4⟩⟩ := h
  · cases h0.1
  · simp only [Value.slice.injEq, Option.some.injEq, Addr.mk.injEq] at hv
    obtain ⟨⟨rfl, -, -⟩, -, rfl⟩ := hv
    rw [List.getElem?_drop] at hu
    have hj : k * size + j < xs.length := by
      rcases Nat.lt_or_ge (k * size + j) xs.length with h | h
      · exact h
      · rw [List.getElem?_eq_none h] at hu; cases hu
    rw [hx] at hj
    have hne : cap ≠ k := fun hc => by
      have : n = k := by omega
      subst this
      omega
    rw [fromAt, if_neg hne, Addr.add_mk]
    rw [← h4, List.getElem?_take_of_lt hj] at hu
    simp [World.cell?, hg]
    simpa using hu
theorem Wrote.grown {S : Nat → Prop} {a w1 w2 : World} {row : Option Nat} (h : Wrote S a w1) (hg : w1.grownBy w2 row) (hr : ∀ k, row = some k → S k ∨ a.heap.size ≤ k) : Wrote S a w2 :=
  ⟨by rw [hg.os, h.os], by rw [hg.tape, h.tape], by rw [hg.output, h.output], Nat.le_trans h.size hg.size, fun k hk hs => by
    rw [hg.block k (Nat.lt_of_lt_of_le hk h.size) fun e => ?_]
    · exact h.block k hk hs
    · rcases hr k e.symm with h1 | h1
      · exact hs h1
      · omega⟩
theorem World.ownsRow.blockLt {w : World} {base : Nat} {e : TypeId} {size n m cap g : Nat} {xs : List Value} (h : w.ownsRow base e size (.slice (some ⟨g, 0, none⟩) m cap) n xs) : base ≤ g ∧ g < w.heap.size := by
  obtain ⟨hx, h0 | ⟨g', cap', cur, hv, hb, hg, h1, h2, h3, h4⟩⟩ := h
  · cases h0.1
  · simp only [Value.slice.injEq, Option.some.injEq, Addr.mk.injEq] at hv
    obtain ⟨⟨rfl, -, -⟩, -, rfl⟩ := hv
    exact ⟨hb, (Array.getElem?_eq_some_iff.1 hg).1⟩
theorem World.ownsRow.le {w : World} {base : Nat} {e : TypeId} {size n m cap g : Nat} {xs : List Value} (h : w.ownsRow base e size (.slice (some ⟨g, 0, none⟩) m cap) n xs) : n ≤ cap := by
  obtain ⟨hx, h0 | ⟨g', cap', cur, hv, hb, hg, h1, h2, h3, h4⟩⟩ := h
  · cases h0.1
  · simp only [Value.slice.injEq, Option.some.injEq, Addr.mk.injEq] at hv
    obtain ⟨-, -, rfl⟩ := hv
    exact h1
end Go
