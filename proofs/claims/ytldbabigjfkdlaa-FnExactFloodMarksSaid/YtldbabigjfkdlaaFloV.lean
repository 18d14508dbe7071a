/- FloodMarks: the program's waves, and one of them deleted. -/
import Derived.Test.YtldbabigjfkdlaaFloU
import Derived.Test.YtldbabigjfkdlaaLDs
import Derived.Laws.OwnMore
namespace Go
open Go.RowKit
/-- append within the room of a row of the call's own, at a step of a region that draws its order. -/
theorem step_append_fit {P : Program} {w : World} {ops : Array Oper} {o : Oper} {a : Act} {K : Act → World → Prop} {Q : Exit → Act → World → Prop} {E : Prop} (hgd : o.guard = none) (s x : Operand) (t : TypeId)
    (ho : o.op = .call { callee := .builtin .append, args := #[s, x], argTypes := #[t, t] })
    (base : Nat) (e : TypeId) (i : TypeInfo) (size : Nat) (ht : P.underlying t = some (.slice e)) (hi : P.info? e = some i)
    (hsize : i.size = size)
    (g n cap : Nat) (xs : List Value) (hs : a.eval s = .slice (some ⟨g, 0, none⟩) n cap) (hown : w.ownsRow base e size (.slice (some ⟨g, 0, none⟩) n cap) n xs)
    (ad : Addr) (m c : Nat) (news : List Value) (hx : a.eval x = .slice (some ad) m c) (hl : news.length = m * size) (hnews : ∀ j u, news[j]? = some u → w.cell? (ad.add j) = some u) (h1 : ∀ u ∈ news, u.oneCell' = true)
    (hroom : n + m ≤ cap)
    (h : ∀ w', w'.ownsRow base e size (.slice (some ⟨g, 0, none⟩) (n + m) cap) (n + m) (xs ++ news) → w.grownBy w' (some g) → K (a.put o.dst (.slice (some ⟨g, 0, none⟩) (n + m) cap)) w') :
    if Region.wanted o (yielded ops a.tmps) = true then Oper.wp P o a w K Q else E := by
  have hw : Region.wanted o (yielded ops a.tmps) = true := by simp [Region.wanted, hgd]
  rw [if_pos hw]
  obtain ⟨w', hr, h2, h3⟩ := run_append_fits (P := P) w base t o.type e i size ht hi hsize g n cap xs hown ad m c news hl hnews h1 hroom
  unfold Oper.wp execOp
  simp only [ho, resolve, invoke, builtin, Sem.run_bind, Sem.run_pure, Result.andThen_ok, List.map_toArray, List.map_cons, List.map_nil, hs, hx, hr]
  exact h w' h2 h3
end Go
namespace Go.Proofs.Ytldbabigjfkdlaa
open Go Go.RowKit
theorem Try.infoWave : (Try.prog.info? 164).map (fun i => (i.zero, i.size, i.bytes)) = some (some (.agg #[.int .i64 0, .int .i64 0, .int .i64 0]), 3, 24) := by kernel_rfl
theorem slice_runW (g o c lo hi : Nat) (w : World) (M : Nat) (h1 : lo < hi) (h2 : hi ≤ c) (L U : Int) (hL : L = lo) (hU : U = hi) :
    (Instr.sliceAt 160 (.slice (some ⟨g, o, none⟩) M c) (some (.int .i64 L)) (some (.int .i64 U)) none).run Try.prog w = .ok (.slice (some ⟨g, o + lo * 3, none⟩) (hi - lo) (c - lo)) w := by
  subst hL hU
  obtain ⟨i0, hi0, hz0, hz1, hz2⟩ := info_parts Try.infoWave
  have he : Try.prog.elem 160 = 164 := by unfold Program.elem; rw [Try.underlying160]
  have ht' : Try.prog.underlying 160 = some (.slice (Try.prog.elem 160)) := by rw [he]; exact Try.underlying160
  rw [run_sliceAt_slice w _ _ _ _ _ ht', run_slice_lh w _ _ _ _ ht' .i64 .i64 _ _ (by omega) (by omega) (by omega)]
  have hne : ¬ c = lo := by omega
  simp [sizeOf, typeInfo, he, hi0, hz1, sliced, Addr.add_lit, Result.andThen, hne]
/-- clear of the element behind the last one. -/
theorem clearW {lo g n cap : Nat} {w : World} {xs : List Value} (h : w.ownsRow lo 164 3 (.slice (some ⟨g, 0, none⟩) n cap) n xs) (hn : n + 1 ≤ cap) :
    ∃ w', (∀ ty, (Builtin.clear_ #[160] ty #[.slice (some ⟨g, n * 3, none⟩) 1 (cap - n)]).run Try.prog w = .ok (.tuple #[]) w') ∧ w'.ownsRow lo 164 3 (.slice (some ⟨g, 0, none⟩) n cap) n xs ∧ w.grownBy w' (some g) := by
  obtain ⟨h1, h2⟩ := h
  rcases h2 with ⟨h0, _⟩ | ⟨g', cap', cur, hv, hl, hb, hc, hm, hs, ht⟩
  · cases h0
  · simp only [Value.slice.injEq, Option.some.injEq, Addr.mk.injEq, and_true] at hv
    obtain ⟨rfl, -, rfl⟩ := hv
    have hzl : (Builtin.zeroCells (Value.agg #[.int .i64 0, .int .i64 0, .int .i64 0]).cells 1).toList = [.int .i64 0, .int .i64 0, .int .i64 0] := by kernel_rfl
    obtain ⟨Z, hZ⟩ : ∃ Z, Z = (Builtin.zeroCells (Value.agg #[.int .i64 0, .int .i64 0, .int .i64 0]).cells 1).toList := ⟨_, rfl⟩
    have hzl3 : Z.length = 3 := by rw [hZ, hzl]; rfl
    have hone : ∀ u ∈ Z, u.oneCell' = true := by
      intro u hu
      rw [hZ, hzl] at hu
      simp at hu
      subst hu
      rfl
    have hst := run_storeCells_at Try.prog g (n * 3) 164 Z 0 cur w hb (by rw [hzl3]; omega) hone
    simp only [Nat.add_zero] at hst
    refine ⟨w.setRow g (cur.toList.take (n * 3) ++ Z ++ cur.toList.drop (n * 3 + Z.length)).toArray, fun ty => ?_, ⟨h1, .inr ⟨g, cap, (cur.toList.take (n * 3) ++ Z ++ cur.toList.drop (n * 3 + Z.length)).toArray, rfl, hl, setRow_heap w g cur _ _ _ hb, hc, hm, ?_, ?_⟩⟩, ⟨rfl, rfl, rfl, by simp, fun k _ hk => _root_.Go.setRow_other w g k _ (fun e => hk (by rw [e]))⟩⟩
    · simp [Builtin.clear_, run_underlying Try.underlying160, ← hZ, hst]
    · simp only [List.size_toArray, List.length_append, List.length_take, List.length_drop, Array.length_toList, hzl3]
      omega
    · rw [← ht, List.append_assoc, List.take_append_of_le_length (by simp; omega), List.take_take, Nat.min_self]
theorem flatD_drop : ∀ (ds : List (Int × Int × Int)) (i : Nat), flatD (ds.drop i) = (flatD ds).drop (i * 3)
  | [], i => by simp [flatD]
  | q :: ds, 0 => by simp
  | q :: ds, i + 1 => by
    rw [show (i + 1) * 3 = i * 3 + 1 + 1 + 1 by omega]
    simp [flatD, flatD_drop ds i]
theorem flatD_take : ∀ (ds : List (Int × Int × Int)) (i : Nat), flatD (ds.take i) = (flatD ds).take (i * 3)
  | [], i => by simp [flatD]
  | q :: ds, 0 => by simp [flatD]
  | q :: ds, i + 1 => by
    rw [show (i + 1) * 3 = i * 3 + 1 + 1 + 1 by omega]
    simp [flatD, flatD_take ds i]
set_option maxRecDepth 5000 in
set_option maxHeartbeats 1600000 in
theorem deleteW_any (lo g L c b : Nat) (ds : List (Int × Int × Int)) (w : World) (hL : L = ds.length) (hb : b < L) (hm : L ≤ 1048576) (hown : GrowD lo 164 w (.slice (some ⟨g, 0, none⟩) L c) ds) :
    Calls Try.prog 123 #[.slice (some ⟨g, 0, none⟩) L c, .int .i64 b, .int .i64 ((b : Int) + 1)] w fun e w' => e = .returned (.slice (some ⟨g, 0, none⟩) (L - 1) c) ∧ GrowD lo 164 w' (.slice (some ⟨g, 0, none⟩) (L - 1) c) (ds.eraseIdx b) ∧ w.grownBy w' (some g) := by
  obtain ⟨i0, hi, hz0, hz1, hz2⟩ := info_parts Try.infoWave
  have h0 : w.ownsRow lo 164 3 (.slice (some ⟨g, 0, none⟩) L c) L ((flatD ds).map (Value.int .i64)) := by have h := hown; unfold GrowD at h; rw [← hL] at h; exact h
  have hc : L ≤ c := h0.le
  have hfl := flatD_len ds
  have HC1 : Hid (∀ wq, w.Ext wq → ∀ j u, (((flatD ds).map (Value.int .i64)).drop ((b + 1) * 3))[j]? = some u → wq.cell? ((⟨g, fromAt c (b + 1) 3, none⟩ : Addr).add j) = some u) := fun wq hx j u hu => hx.cell (h0.restCells (k := b + 1) (by omega) j u hu)
  have HCUT := Lib.hid (h0.cut (k := b) (by omega))
  have HL1 : Hid ((((flatD ds).map (Value.int .i64)).drop ((b + 1) * 3)).length = (L - (b + 1)) * 3) := by show _ = _; rw [List.length_drop, List.length_map, hfl]; omega
  have H11 : Hid (∀ u ∈ ((flatD ds).map (Value.int .i64)).drop ((b + 1) * 3), u.oneCell' = true) := fun u hu => by
    obtain ⟨z, -, rfl⟩ := List.mem_map.1 (List.mem_of_mem_drop hu)
    rfl
  have hrun0 := slice_runW g 0 c b (b + 1) w L (by omega) (by omega) (b : Int) ((b : Int) + 1) rfl rfl
  have HR1 : Hid (∀ wq, (Instr.sliceAt 160 (.slice (some ⟨g, 0, none⟩) L c) (some (.int .i64 ((b : Int) + 1))) none none).run Try.prog wq = .ok (.slice (some ⟨g, fromAt c (b + 1) 3, none⟩) (L - (b + 1)) (c - (b + 1))) wq) := fun wq => run_slice_from wq Try.underlying160 hi hz1 g L c (b + 1) (by omega) hc
  have HR2 : Hid (∀ wq, (Instr.sliceAt 160 (.slice (some ⟨g, 0, none⟩) L c) none (some (.int .i64 b)) none).run Try.prog wq = .ok (.slice (some ⟨g, 0, none⟩) b c) wq) := fun wq => run_slice_to wq Try.underlying160 hi g L c b (by omega) hc
  have HEQ : Hid (((flatD ds).map (Value.int .i64)).take (b * 3) ++ ((flatD ds).map (Value.int .i64)).drop ((b + 1) * 3) = (flatD (ds.eraseIdx b)).map (Value.int .i64)) := by
    show _ = _
    rw [eraseIdx_cut, flatD_append, flatD_take, flatD_drop, List.map_append, List.map_take, List.map_drop]
  have HEL : Hid ((ds.eraseIdx b).length = L - 1) := by show _ = _; rw [List.length_eraseIdx, if_pos (by omega)]; omega
  have hne : ((b : Int) == (b : Int) + 1) = false := by rw [beq_eq_false_iff_ne]; omega
  have hb1 : b + (L - (b + 1)) ≤ c := by omega
  have hb2 : b + (L - (b + 1)) = L - 1 := by omega
  have HB := Lib.hid (And.intro hb1 hb2)
  have hgl := h0.blockLt
  clear hown h0 hfl hb1 hb2 hL
  go_enter Try.func123, Try.ntmps123
  go_upto_region 5 with fail
  have hrun1 := HR1.out
  have hrun2 := HR2.out
  go_region_law (refine step_append_fit rfl _ _ 160 rfl lo 164 i0 3 Try.underlying160 hi hz1 g b c (((flatD ds).map (Value.int .i64)).take (b * 3)) rfl (World.ownsRow.ext HCUT.out (by repeat (first | exact World.Ext.refl _ | exact ⟨_, rfl⟩ | assumption | refine World.Ext.over ?_ _ | refine World.Ext.drewN ?_ _ | refine World.Ext.drew ?_ | refine World.Ext.alloc ?_ _ | refine World.Ext.setCell ?_ (by simp) _))) ⟨g, fromAt c (b + 1) 3, none⟩ (L - (b + 1)) (c - (b + 1)) (((flatD ds).map (Value.int .i64)).drop ((b + 1) * 3)) rfl HL1.out (HC1.out _ (by repeat (first | exact World.Ext.refl _ | exact ⟨_, rfl⟩ | assumption | refine World.Ext.over ?_ _ | refine World.Ext.drewN ?_ _ | refine World.Ext.drew ?_ | refine World.Ext.alloc ?_ _ | refine World.Ext.setCell ?_ (by simp) _))) H11.out HB.out.1 (fun w1 hown1 hgr1 => ?_))
  have HFIN : Hid (∃ w2, (∀ ty, (Builtin.clear_ #[160] ty #[.slice (some ⟨g, (L - 1) * 3, none⟩) 1 (c - (L - 1))]).run Try.prog w1 = .ok (.tuple #[]) w2) ∧ GrowD lo 164 w2 (.slice (some ⟨g, 0, none⟩) (L - 1) c) (ds.eraseIdx b) ∧ w.grownBy w2 (some g)) := by
    have h := hown1
    rw [HEQ.out, HB.out.2] at h
    obtain ⟨w2, hcl, h2, hg2⟩ := clearW h (by omega)
    refine ⟨w2, hcl, ?_, ?_⟩
    · unfold GrowD
      rw [HEL.out]
      exact h2
    · have hx : w.Ext w.drew := by repeat (first | exact World.Ext.refl _ | exact ⟨_, rfl⟩ | assumption | refine World.Ext.over ?_ _ | refine World.Ext.drewN ?_ _ | refine World.Ext.drew ?_ | refine World.Ext.alloc ?_ _ | refine World.Ext.setCell ?_ (by simp) _)
      have hsz := hx.size
      exact ⟨by rw [hg2.os, hgr1.os]; rfl, by rw [hg2.tape, hgr1.tape]; rfl, by rw [hg2.output, hgr1.output]; rfl, Nat.le_trans hsz (Nat.le_trans hgr1.size hg2.size), fun k hk hne => by
        rw [hg2.block k (Nat.lt_of_lt_of_le hk (Nat.le_trans hsz hgr1.size)) hne, hgr1.block k (Nat.lt_of_lt_of_le hk hsz) hne]
        exact hx.block hk⟩
  rw [HB.out.2]
  obtain ⟨w2, hcl, HG2⟩ := HFIN.out
  have HG2 := Lib.hid HG2
  have hrun3 : (Instr.sliceAt 160 (.slice (some ⟨g, 0, none⟩) (L - 1) c) (some (.int .i64 ((L - 1 : Nat) : Int))) (some (.int .i64 (L : Int))) none).run Try.prog w1 = .ok (.slice (some ⟨g, (L - 1) * 3, none⟩) 1 (c - (L - 1))) w1 := by
    have h := slice_runW g 0 c (L - 1) L w1 (L - 1) (by omega) hc ((L - 1 : Nat) : Int) (L : Int) rfl rfl
    rw [Nat.zero_add, show L - (L - 1) = 1 by omega] at h
    exact h
  clear HFIN hown1 hgr1 hrun1 hrun2 HC1 HCUT HL1 H11 HR1 HR2 HEQ
  go_wp2
  go_ret
  exact ⟨rfl, HG2.out⟩
end Go.Proofs.Ytldbabigjfkdlaa
