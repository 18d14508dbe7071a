/- Borders: the program follows one. -/
import Derived.Test.YtahhnjoeaodcjaaBrdO
namespace Go.Proofs.Ytahhnjoeaodcjaa
open Go Go.RowKit Go.MapKept Go.ChangeMaps
def trn (j : Nat) : Nat := if j = 0 then 1 else if j = 1 then 0 else 3
theorem trn_le (j : Nat) : trn j ≤ 3 := by unfold trn; split <;> (try split) <;> omega
theorem trn_hit {C : Nat → Bool} {k k' j : Nat} (hk : k < 4) (h : k' = if C ((k + 1) % 4) then (k + 1) % 4 else if C k then k else (k + 3) % 4) (hj : j < 3) (hc : C ((k + trn j) % 4) = true) (hn : ∀ j', j' < j → C ((k + trn j') % 4) = false) : k' = (k + trn j) % 4 := by
  have e1 : trn 1 = 0 := rfl
  have e2 : trn 2 = 3 := rfl
  have e0 : trn 0 = 1 := rfl
  have hm : (k + 0) % 4 = k := by omega
  have h3 : j = 0 ∨ j = 1 ∨ j = 2 := by omega
  rcases h3 with rfl | rfl | rfl
  · rw [e0] at hc ⊢
    rw [hc] at h
    simpa using h
  · have n0 := hn 0 (by omega)
    rw [e0] at n0
    rw [e1, hm] at hc ⊢
    rw [n0, hc] at h
    simpa using h
  · have n0 := hn 0 (by omega)
    have n1 := hn 1 (by omega)
    rw [e0] at n0
    rw [e1, hm] at n1
    rw [e2]
    rw [n0, n1] at h
    simpa using h
theorem trn_none {C : Nat → Bool} {k k' : Nat} (hk : k < 4) (h : k' = if C ((k + 1) % 4) then (k + 1) % 4 else if C k then k else (k + 3) % 4) (hc : C k' = true) (hn : ∀ j', j' < 3 → C ((k + trn j') % 4) = false) : False := by
  have n0 : C ((k + 1) % 4) = false := hn 0 (by omega)
  have n1 : C ((k + 0) % 4) = false := hn 1 (by omega)
  have n2 : C ((k + 3) % 4) = false := hn 2 (by omega)
  rw [show (k + 0) % 4 = k by omega] at n1
  rw [n0, n1] at h
  simp at h
  rw [h, n2] at hc
  cases hc
/-- What is held behind the first n steps. -/
def dnM (f : Int → Int → Bool) (e : Edg) (n : Nat) (g : Edg → Option Value) (p : Edg) : Option Value := if (List.range n).any (fun i => decide (itr f i e = p)) then some (.bool true) else g p
theorem dnM_zero {f : Int → Int → Bool} {e : Edg} {g : Edg → Option Value} (p : Edg) : g p = dnM f e 0 g p := rfl
theorem dnM_succ {f : Int → Int → Bool} {e : Edg} {g : Edg → Option Value} {n : Nat} (p : Edg) : (if p = itr f n e then some (Value.bool true) else dnM f e n g p) = dnM f e (n + 1) g p := by
  unfold dnM
  rw [List.range_succ, List.any_append]
  by_cases h : p = itr f n e
  · rw [if_pos h, if_pos]
    simp [h]
  · rw [if_neg h]
    have : decide (itr f n e = p) = false := decide_eq_false fun hh => h hh.symm
    simp [this]
theorem dnM_mem {f : Int → Int → Bool} {e : Edg} {g : Edg → Option Value} {L : List Edg} (hL : ∀ p v, g p = some v → p ∈ L) {n : Nat} (p : Edg) (v : Value) (h : dnM f e n g p = some v) : p ∈ L ++ (List.range n).map fun i => itr f i e := by
  unfold dnM at h
  split at h
  · rename_i hh
    rw [List.any_eq_true] at hh
    obtain ⟨i, hi, he⟩ := hh
    exact List.mem_append.2 (Or.inr (List.mem_map.2 ⟨i, hi, of_decide_eq_true he⟩))
  · exact List.mem_append.2 (Or.inl (hL p v h))
theorem Wrote.boxNew {S : Nat → Prop} {w wr : World} (h : Wrote S w wr) {a : Addr} (ha : w.heap.size ≤ a.block) (v : Value) : Wrote S w (wr.setCell a v) := by
  refine ⟨h.os, h.tape, h.output, by have := h.size; simpa [World.setCell] using this, fun k hk hs => ?_⟩
  rw [Below.heap_setCell _ _ _ _ (by omega)]
  exact h.block k hk hs
theorem Try.eqSpotG (a b c d : Int) (w : World) : (Op.equalIn 9999 67 (.agg #[.int .i64 a, .int .i64 b]) (.agg #[.int .i64 c, .int .i64 d])).run Try.prog w = .ok (a == c && b == d) w := by
  have u3 := Try.underlying2
  have hS : Try.prog.underlying 67 = some (.struct (Try.prog.fieldsOf 67)) := by kernel_rfl
  have hp : Try.prog.stoodInHeld 67 = false := by kernel_rfl
  rw [show (9999 : Nat) = 9998 + 1 from rfl, run_equalIn_agg w 9998 67 _ _ hS hp]
  simp only [Program.fieldsOf, Try.underlying67]
  go_simp
  by_cases h1 : a = c <;> by_cases h2 : b = d <;> simp [h1, h2]
@[go_sem] theorem Try.eqEdgF (a b c a' b' c' : Int) (w : World) : (Op.equalIn 10000 180 (.agg #[.int .i64 a, .int .i64 b, .int .i64 c]) (.agg #[.int .i64 a', .int .i64 b', .int .i64 c'])).run Try.prog w = .ok ((a == a' && b == b') && c == c') w := by
  have u3 := Try.underlying2
  have u4 := Try.underlying3
  have hS : Try.prog.underlying 180 = some (.struct (Try.prog.fieldsOf 180)) := by kernel_rfl
  have hp : Try.prog.stoodInHeld 180 = false := by kernel_rfl
  have hS2 : Try.prog.underlying 67 = some (.struct (Try.prog.fieldsOf 67)) := by kernel_rfl
  have hp2 : Try.prog.stoodInHeld 67 = false := by kernel_rfl
  have hq := Try.eqSpotG a b a' b' w
  rw [show (10000 : Nat) = 9999 + 1 from rfl, run_equalIn_agg w 9999 180 _ _ hS hp]
  simp only [Program.fieldsOf, Try.underlying180]
  have hc : Try.prog.cellsOf 67 = 2 := Try.spotCells
  have h1 : ∀ x y z : Int, (part 67 #[.int .i64 x, .int .i64 y, .int .i64 z] 0).run Try.prog w = .ok (.agg #[.int .i64 x, .int .i64 y]) w := fun x y z => by kernel_rfl
  have h2 : ∀ x y z : Int, (part 3 #[.int .i64 x, .int .i64 y, .int .i64 z] 2).run Try.prog w = .ok (.int .i64 z) w := fun x y z => by kernel_rfl
  have hi : (Op.equalIn 9999 3 (.int .i64 c) (.int .i64 c')).run Try.prog w = .ok (c == c') w := run_equalIn_int w 9998 _ _ _ _ _ u4
  simp [Op.eqFields, h1, h2, hq, hi]
  by_cases g1 : a = a' <;> by_cases g2 : b = b' <;> by_cases g3 : c = c' <;> simp [g1, g2, g3]
/-- A border under way. -/
structure FwE (w : World) (md p8 : Nat) (x0 y0 : Int) (e : Edg) (v : Value) (bs : List Int) (g : Edg → Option Value) (wr : World) : Prop where
  x : Wrote (fun k => k = md) w wr
  s : Tri wr w.heap.size 180 (.int .i64 x0) (.int .i64 y0) (.int .i64 0)
  r : Tri wr (w.heap.size + 1) 69 (.int .i64 0) (.int .i64 0) (.string ⟨#[]⟩)
  a : Tri wr p8 180 (.int .i64 e.x) (.int .i64 e.y) (.int .i64 (e.k : Int))
  o : GrowOf (Value.int .u8) w.heap.size 5 wr v bs
  m : MapE wr Try.prog 180 md g
section
variable {w wr w' : World} {md p8 : Nat} {x0 y0 : Int} {e e' : Edg} {v v' : Value} {bs : List Int} {g g' : Edg → Option Value}
theorem FwE.ext (h : FwE w md p8 x0 y0 e v bs g wr) (hx : wr.Ext w') : FwE w md p8 x0 y0 e v bs g w' := ⟨h.x.trans (hx.wrote _), h.s.ext hx, h.r.ext hx, h.a.ext hx, h.o.ext hx, h.m.ext hx⟩
theorem FwE.upd (h : FwE w md p8 x0 y0 e v bs g wr) (hm : MapE w' Try.prog 180 md g') (hg : wr.grownBy w' (some md)) : FwE w md p8 x0 y0 e v bs g' w' := by
  have hs : wr.heap[w.heap.size]? = _ := h.s
  have hr : wr.heap[w.heap.size + 1]? = _ := h.r
  have ha : wr.heap[p8]? = _ := h.a
  exact ⟨h.x.grown hg fun _ e => Or.inl (Option.some.inj e).symm, h.s.keep (hg.block _ h.s.lt fun e => h.m.ne hs (Option.some.inj e)), h.r.keep (hg.block _ h.r.lt fun e => h.m.ne hr (Option.some.inj e)), h.a.keep (hg.block _ h.a.lt fun e => h.m.ne ha (Option.some.inj e)),
    World.ownsRow.keep h.o fun k hk => hg.block k (World.ownsRow.lt h.o k hk).2 fun e => h.m.neRow h.o (by rw [hk, ← e]), hm⟩
theorem FwE.push {z : Int} (h : FwE w md p8 x0 y0 e v bs g wr) (hg : wr.grownBy w' v.ownBlock) (ho : w'.ownsRow w.heap.size 5 1 v' (bs.length + 1) (bs.map (Value.int .u8) ++ [.int .u8 z])) : FwE w md p8 x0 y0 e v' (bs ++ [z]) g w' := by
  have hs : wr.heap[w.heap.size]? = _ := h.s
  have hr : wr.heap[w.heap.size + 1]? = _ := h.r
  have ha : wr.heap[p8]? = _ := h.a
  exact ⟨h.x.grown hg fun k hk => Or.inr (World.ownsRow.lt h.o k hk).1, h.s.keep (hg.block _ h.s.lt (World.ownsRow.ne h.o hs (by decide))), h.r.keep (hg.block _ h.r.lt (World.ownsRow.ne h.o hr (by decide))), h.a.keep (hg.block _ h.a.lt (World.ownsRow.ne h.o ha (by decide))), GrowOf.push ho, h.m.grown hg (h.m.neRow h.o)⟩
theorem FwE.move (h : FwE w md p8 x0 y0 e v bs g wr) (hl : w.heap.size + 2 ≤ p8) (e' : Edg) : FwE w md p8 x0 y0 e' v bs g (((wr.setCell ⟨p8, 0, none⟩ (.int .i64 e'.x)).setCell ⟨p8, 1, none⟩ (.int .i64 e'.y)).setCell ⟨p8, 2, none⟩ (.int .i64 (e'.k : Int))) := by
  have ha : wr.heap[p8]? = _ := h.a
  have hne : some p8 ≠ v.ownBlock := World.ownsRow.ne h.o ha (by decide)
  have hm : p8 ≠ md := h.m.ne ha
  have hk : ∀ k, k ≠ p8 → (((wr.setCell ⟨p8, 0, none⟩ (.int .i64 e'.x)).setCell ⟨p8, 1, none⟩ (.int .i64 e'.y)).setCell ⟨p8, 2, none⟩ (.int .i64 (e'.k : Int))).heap[k]? = wr.heap[k]? := fun k hk => by
    rw [Below.heap_setCell _ _ _ _ hk, Below.heap_setCell _ _ _ _ hk, Below.heap_setCell _ _ _ _ hk]
  exact ⟨Wrote.boxNew (Wrote.boxNew (Wrote.boxNew h.x (a := ⟨p8, 0, none⟩) (by dsimp only; omega) _) (a := ⟨p8, 1, none⟩) (by dsimp only; omega) _) (a := ⟨p8, 2, none⟩) (by dsimp only; omega) _, h.s.keep (hk _ (by omega)), h.r.keep (hk _ (by omega)), tri_put h.a _ _ _,
    World.ownsRow.keep h.o fun k hk' => hk k fun e => hne (by rw [hk', e]), h.m.keep (hk _ (Ne.symm hm))⟩
theorem FwE.rebox (h : FwE w md p8 x0 y0 e v bs g wr) : FwE w md wr.heap.size x0 y0 e v bs g (wr.alloc (.cells #[.int .i64 e.x, .int .i64 e.y, .int .i64 (e.k : Int)] 180)) := by
  have h' := h.ext ((World.Ext.refl wr).alloc (.cells #[.int .i64 e.x, .int .i64 e.y, .int .i64 (e.k : Int)] 180))
  exact ⟨h'.x, h'.s, h'.r, Tri.new _ _ _ _ _ _ rfl, h'.o, h'.m⟩
theorem FwE.fin (h : FwE w md p8 x0 y0 e v bs g wr) (a b c : Value) :
    wr.cell? ⟨w.heap.size + 1, 0, none⟩ = some (.int .i64 0) ∧ wr.frozen? ⟨w.heap.size + 1, 0, none⟩ = false ∧ wr.cell? ⟨w.heap.size + 1, 1, none⟩ = some (.int .i64 0) ∧ wr.frozen? ⟨w.heap.size + 1, 1, none⟩ = false ∧ wr.cell? ⟨w.heap.size + 1, 2, none⟩ = some (.string ⟨#[]⟩) ∧ wr.frozen? ⟨w.heap.size + 1, 2, none⟩ = false ∧
    (((wr.setCell ⟨w.heap.size + 1, 0, none⟩ a).setCell ⟨w.heap.size + 1, 1, none⟩ b).setCell ⟨w.heap.size + 1, 2, none⟩ c).cell? ⟨w.heap.size + 1, 0, none⟩ = some a ∧ (((wr.setCell ⟨w.heap.size + 1, 0, none⟩ a).setCell ⟨w.heap.size + 1, 1, none⟩ b).setCell ⟨w.heap.size + 1, 2, none⟩ c).cell? ⟨w.heap.size + 1, 1, none⟩ = some b ∧
    (((wr.setCell ⟨w.heap.size + 1, 0, none⟩ a).setCell ⟨w.heap.size + 1, 1, none⟩ b).setCell ⟨w.heap.size + 1, 2, none⟩ c).cell? ⟨w.heap.size + 1, 2, none⟩ = some c ∧
    Hid (Wrote (fun k => k = md) w (((wr.setCell ⟨w.heap.size + 1, 0, none⟩ a).setCell ⟨w.heap.size + 1, 1, none⟩ b).setCell ⟨w.heap.size + 1, 2, none⟩ c) ∧ MapE (((wr.setCell ⟨w.heap.size + 1, 0, none⟩ a).setCell ⟨w.heap.size + 1, 1, none⟩ b).setCell ⟨w.heap.size + 1, 2, none⟩ c) Try.prog 180 md g) := by
  have hr : wr.heap[w.heap.size + 1]? = _ := h.r
  have hm : w.heap.size + 1 ≠ md := h.m.ne hr
  have ht := tri_put h.r a b c
  refine ⟨h.r.cell0, h.r.free 0, h.r.cell1, h.r.free 1, h.r.cell2, h.r.free 2, ht.cell0, ht.cell1, ht.cell2, ?_, ?_⟩
  · exact Wrote.boxNew (Wrote.boxNew (Wrote.boxNew h.x (a := ⟨w.heap.size + 1, 0, none⟩) (by dsimp only; omega) _) (a := ⟨w.heap.size + 1, 1, none⟩) (by dsimp only; omega) _) (a := ⟨w.heap.size + 1, 2, none⟩) (by dsimp only; omega) _
  · exact ((h.m.setCell (a := ⟨w.heap.size + 1, 0, none⟩) hm a).setCell (a := ⟨w.heap.size + 1, 1, none⟩) hm b).setCell (a := ⟨w.heap.size + 1, 2, none⟩) hm c
end
set_option maxRecDepth 20000 in
set_option maxHeartbeats 6400000 in
theorem follow_any (mo md : Nat) (f : Int → Int → Bool) (go gd : Edg → Option Value) (x0 y0 : Int) (L : List Edg) (w : World) (hbx : InBx f 16 16) (hok : EOk f ⟨x0, y0, 0⟩) (hom : MapE w Try.prog 180 mo go) (hgo : SdOk f go)
    (hd : MapE w Try.prog 180 md gd) (hL : ∀ p v, gd p = some v → p ∈ L) (hLn : L.length ≤ 8000) (hne : mo ≠ md) :
    Calls Try.prog 209 #[.map (some mo), .agg #[.int .i64 x0, .int .i64 y0, .int .i64 0], .map (some md)] w fun e' w' => e' = .returned (.agg #[.int .i64 x0, .int .i64 y0, .string (wrd f ⟨x0, y0, 0⟩)]) ∧ Wrote (fun k => k = md) w w' ∧ MapE w' Try.prog 180 md (dnM f ⟨x0, y0, 0⟩ (per f ⟨x0, y0, 0⟩) gd) := by
  obtain ⟨iu, hiu, hu0, hu1, hu2⟩ := info_parts Try.infoU8B
  obtain ⟨W0, hW0⟩ : ∃ W0, W0 = (((w.alloc (.cells #[.int .i64 x0, .int .i64 y0, .int .i64 0] 180)).alloc (.cells #[.int .i64 0, .int .i64 0, .string ⟨#[]⟩] 69)).alloc (.cells #[] 5)).alloc (.cells #[.int .i64 x0, .int .i64 y0, .int .i64 0] 180) := ⟨_, rfl⟩
  obtain ⟨e, hee⟩ : ∃ e : Edg, e = ⟨x0, y0, 0⟩ := ⟨_, rfl⟩
  have hx0 : w.Ext W0 := by rw [hW0]; repeat (first | exact World.Ext.refl _ | exact ⟨_, rfl⟩ | assumption | refine World.Ext.over ?_ _ | refine World.Ext.drewN ?_ _ | refine World.Ext.drew ?_ | refine World.Ext.alloc ?_ _ | refine World.Ext.setCell ?_ (by simp) _)
  rw [← hee] at hok ⊢
  have HST : Hid (FwE w md (w.heap.size + 1 + 1 + 1) x0 y0 (itr f 0 e) (.slice (some ⟨w.heap.size + 1 + 1, 0, none⟩) 0 0) (wordL f e 0) (dnM f e 0 gd) W0) := by
    show FwE w md (w.heap.size + 1 + 1 + 1) x0 y0 e _ [] _ W0
    rw [hee]
    refine ⟨hx0.wrote _, ?_, ?_, ?_, ?_, (hd.ext hx0).congr dnM_zero⟩
    · rw [hW0]; exact (Tri.new w _ _ _ _ _ rfl).ext (by repeat (first | exact World.Ext.refl _ | exact ⟨_, rfl⟩ | assumption | refine World.Ext.over ?_ _ | refine World.Ext.drewN ?_ _ | refine World.Ext.drew ?_ | refine World.Ext.alloc ?_ _ | refine World.Ext.setCell ?_ (by simp) _))
    · rw [hW0]; exact (Tri.new (w.alloc (.cells #[.int .i64 x0, .int .i64 y0, .int .i64 0] 180)) (.int .i64 0) (.int .i64 0) (.string ⟨#[]⟩) 69 (w.heap.size + 1) (by simp)).ext (by repeat (first | exact World.Ext.refl _ | exact ⟨_, rfl⟩ | assumption | refine World.Ext.over ?_ _ | refine World.Ext.drewN ?_ _ | refine World.Ext.drew ?_ | refine World.Ext.alloc ?_ _ | refine World.Ext.setCell ?_ (by simp) _))
    · rw [hW0]; exact Tri.new _ _ _ _ _ _ (by simp)
    · rw [hW0]
      have h := (GrowOf.empty (f := Value.int .u8) (lo := w.heap.size) (e := 5) ((w.alloc (.cells #[.int .i64 x0, .int .i64 y0, .int .i64 0] 180)).alloc (.cells #[.int .i64 0, .int .i64 0, .string ⟨#[]⟩] 69)) (by simp; omega)).ext ((World.Ext.refl _).alloc (.cells #[.int .i64 x0, .int .i64 y0, .int .i64 0] 180))
      simpa using h
  obtain ⟨hper, hpn⟩ := per_of hbx (Nat.le_refl _) (Nat.le_refl _) hok
  have HBX : Hid (∀ i, 0 ≤ (itr f i e).x ∧ (itr f i e).x ≤ 16 ∧ 0 ≤ (itr f i e).y ∧ (itr f i e).y ≤ 16) := fun i => hbx.edge (itr_ok hok i)
  have HOKI := Lib.hid (fun i => itr_ok hok i)
  unfold wrd
  generalize hn : per f e = n at *
  have HSTEP := Lib.hid (fun i => itr_step (f := f) e i)
  have HWS := Lib.hid (fun i => wordL_succ f e i)
  have HWL := Lib.hid (fun i => wordL_len f e i)
  have HEE : Hid (e.x = x0 ∧ e.y = y0 ∧ e.k = 0) := by rw [hee]; exact ⟨rfl, rfl, rfl⟩
  have HPN : Hid (0 < n ∧ (itr f n e) = e ∧ ∀ i, 0 < i → i < n → itr f i e ≠ e) := hper
  have HPN2 : Hid (0 < n ∧ (itr f n e).x = x0 ∧ (itr f n e).y = y0 ∧ (itr f n e).k = 0 ∧ ∀ i, 0 < i → i < n → ¬ ((itr f i e).x = x0 ∧ (itr f i e).y = y0 ∧ (itr f i e).k = 0)) := by
    obtain ⟨h1, h2, h3⟩ := HPN.out
    obtain ⟨q1, q2, q3⟩ := HEE.out
    refine ⟨h1, by rw [h2, q1], by rw [h2, q2], by rw [h2, q3], fun i hi hin hh => h3 i hi hin (Edg.eq_of ?_ ?_ ?_)⟩
    · rw [hh.1, q1]
    · rw [hh.2.1, q2]
    · rw [hh.2.2, q3]
  have HMAP : Hid (∀ wr, Wrote (fun k => k = md) w wr → MapE wr Try.prog 180 mo go) := fun wr hx => hom.keep (hx.block mo hom.lt hne)
  have HLOOK : Hid (∀ wr, Wrote (fun k => k = md) w wr → ∀ (x y z : Int) (k : Nat) t, z = (k : Int) → -1000 ≤ x ∧ x ≤ 1000 → -1000 ≤ y ∧ y ≤ 1000 → k < 4 → canB f x y k = t → (Instr.lookup 214 (.map (some mo)) (.agg #[.int .i64 x, .int .i64 y, .int .i64 z]) false).run Try.prog wr = .ok (.bool t) wr) := fun wr hx x y z k t hz h1 h2 h3 ht => by
    have h := (HMAP.out wr hx).lookB hgo ⟨x, y, k⟩ h1 h2 (by dsimp only; omega)
    dsimp only at h
    rw [ht, decide_eq_true h3, Bool.true_and] at h
    rw [hz]
    exact h
  have HDM : Hid (∀ i (p : Edg) v, dnM f e i gd p = some v → p ∈ L ++ (List.range i).map fun j => itr f j e) := fun i p v h => dnM_mem hL p v h
  have HDS : Hid (∀ i (p : Edg), (if p = (⟨(itr f i e).x, (itr f i e).y, (itr f i e).k⟩ : Edg) then some (Value.bool true) else dnM f e i gd p) = dnM f e (i + 1) gd p) := fun i p => dnM_succ p
  clear hok hbx hn hper HPN hee hom hgo hd hL hx0 HEE HMAP
  have HRS : Hid (strOfNums (wordL f e n) = strOfNums (wordL f e n)) := rfl
  generalize hres : strOfNums (wordL f e n) = res at *
  have HRES := Lib.hid hres
  clear hres HRS
  generalize hMM : (fun i => dnM f e i gd) = MM at *
  have eM : ∀ i, dnM f e i gd = MM i := fun i => congrFun hMM i
  simp only [eM] at HST HDM HDS
  rw [eM]
  clear hMM eM
  generalize hWL : (fun i => wordL f e i) = WL at *
  have eW : ∀ i, wordL f e i = WL i := fun i => congrFun hWL i
  simp only [eW] at HST HWS HWL HRES
  clear hWL eW
  generalize hII : (fun i => itr f i e) = I at *
  have eI : ∀ i, itr f i e = I i := fun i => congrFun hII i
  simp only [eI] at HST HBX HOKI HSTEP HWS HPN2 HDM HDS
  clear hII eI
  go_enter Try.func209, Try.ntmps209
  go_upto_region 3 with fail
  rw [← hW0]
  clear hW0
  go_wp2
  go_loopw [7, 8, 9, 11, 12] (fun v z _ _ _ wr => ∃ i p8 : Nat, i ≤ n ∧ (∃ av cv, v = .slice av i cv) ∧ z = .pointer (some ⟨p8, 0, none⟩) ∧ w.heap.size + 2 ≤ p8 ∧ Hid (FwE w md p8 x0 y0 (I i) v (WL i) (MM i) wr)) (fun v _ _ _ _ _ => n - lenV v)
  case atStart => exact ⟨0, _, Nat.zero_le _, ⟨_, _, rfl⟩, rfl, by omega, HST⟩
  case round =>
    obtain ⟨i, p8, hi, ⟨av, cv, rfl⟩, rfl, hp8, HS⟩ := hrel
    clear HST
    obtain ⟨wo, rfl⟩ : ∃ wo : World, wo = wr := ⟨_, rfl⟩
    have hi0 : (0 : Int) ≤ (i : Int) := by omega
    have hk4 : (I i).k < 4 := (HOKI.out i).1
    obtain ⟨bx1, bx2, bx3, bx4⟩ := HBX.out i
    obtain ⟨bn1, bn2, bn3, bn4⟩ := HBX.out (i + 1)
    have c40 := HS.out.s.cell0
    have c41 := HS.out.s.cell1
    have c42 := HS.out.s.cell2
    have c80 := HS.out.a.cell0
    have c81 := HS.out.a.cell1
    have c82 := HS.out.a.cell2
    have l4 := HS.out.s.lt
    have l8 := HS.out.a.lt
    by_cases hin : i < n
    · obtain ⟨hX1, hY1, hK1⟩ := HSTEP.out i
      have HW1 := Lib.hid (HWS.out i)
      obtain ⟨hs, hlet⟩ := let_at hk4
      have hwl : (WL i).length = i := HWL.out i
      have HNL := Lib.hid (HPN2.out.2.2.2.2 i)
      have HCN : Hid (canB f (I (i + 1)).x (I (i + 1)).y (I (i + 1)).k = true) := (HOKI.out (i + 1)).2
      have hnn : n ≤ 1200 := hpn
      have HB1 : Hid (i + 1 ≤ maxLen) := by show _ ≤ _; unfold maxLen; omega
      have HB2 : Hid ((i + 1) * 1 ≤ 140737488355328) := by show _ ≤ _; omega
      have HKEY := Lib.hid (edgKeyOf (e := ⟨(I i).x, (I i).y, (I i).k⟩) (spotWf (x := (I i).x) (y := (I i).y) (by omega) (by omega)).1 (spotWf (x := (I i).x) (y := (I i).y) (by omega) (by omega)).2 (spotWf (x := (((I i).k : Nat) : Int)) (y := 0) (by omega) (by omega)).1)
      have HLN : Hid ((L ++ (List.range i).map fun j => I j).length < maxLen) := by show _ < _; rw [List.length_append, List.length_map, List.length_range]; unfold maxLen; omega
      have HMV : Hid (∀ w', Calls Try.prog 150 #[.agg #[.int .i64 (I i).x, .int .i64 (I i).y], .int .i64 ((I i).k : Int)] w' fun e w'' => e = .returned (.agg #[.int .i64 (I (i + 1)).x, .int .i64 (I (i + 1)).y]) ∧ w'.Ext w'') := fun w' => by
        rw [hX1, hY1]
        exact moved_any _ _ _ w' hk4 (by omega) (by omega)
      rw [← hX1, ← hY1] at hK1
      have HTK := Lib.hid hK1
      have HUPD : Hid (∀ w', MapE w' Try.prog 180 md (fun p => if p = (⟨(I i).x, (I i).y, (I i).k⟩ : Edg) then some (Value.bool true) else MM i p) → wo.grownBy w' (some md) → FwE w md p8 x0 y0 (I i) (.slice av i cv) (WL i) (MM (i + 1)) w') := fun w' hm hg => HS.out.upd (hm.congr (HDS.out i)) hg
      have HDMI := Lib.hid (HDM.out i)
      have HOWN : Hid (∀ wb, FwE w md p8 x0 y0 (I i) (.slice av i cv) (WL i) (MM (i + 1)) wb → wb.ownsRow w.heap.size 5 1 (.slice av i cv) i ((WL i).map (Value.int .u8))) := fun wb h => by have h := h.o; unfold GrowOf at h; rw [hwl] at h; exact h
      have HLE : Hid (∀ wb, FwE w md p8 x0 y0 (I i) (.slice av i cv) (WL i) (MM (i + 1)) wb → ∀ o' : Obj, w.heap.size ≤ (wb.alloc o').heap.size) := fun wb h o' => by have := h.x.size; simp; omega
      have HNX : Hid (∀ wb, FwE w md p8 x0 y0 (I i) (.slice av i cv) (WL i) (MM (i + 1)) wb → ∀ (o : Obj) (v' : Value) (w1 : World), (wb.alloc o).grownBy w1 (Value.slice av i cv).ownBlock → w1.ownsRow w.heap.size 5 1 v' (i + 1) ((WL i).map (Value.int .u8) ++ [.int .u8 ((letN (I i).k : Nat) : Int)]) → Hid (FwE w md p8 x0 y0 (I i) v' (WL (i + 1)) (MM (i + 1)) w1) ∧ ∃ a' c', v' = .slice a' (i + 1) c') := fun wb hb o v' w1 hg ho => by
        have h := (hb.ext (by repeat (first | exact World.Ext.refl _ | exact ⟨_, rfl⟩ | assumption | refine World.Ext.over ?_ _ | refine World.Ext.drewN ?_ _ | refine World.Ext.drew ?_ | refine World.Ext.alloc ?_ _ | refine World.Ext.setCell ?_ (by simp) _))).push (z := ((letN (I i).k : Nat) : Int)) hg (by rw [hwl]; exact ho)
        rw [← HW1.out] at h
        obtain ⟨a', c', e', -⟩ := h.o.form
        rw [HWL.out] at e'
        exact ⟨h, a', c', e'⟩
      clear hX1 hY1 hK1 HSTEP HWS HDS
      have hcases : ((i : Int) == 0) = true ∨ ((i : Int) == 0) = false ∧ (((I i).x == x0) = false ∨ ((I i).x == x0) = true ∧ (((I i).y == y0) = false ∨ ((I i).y == y0) = true ∧ (((I i).k : Int) == 0) = false)) := by
        cases e0 : ((i : Int) == 0)
        · right
          refine ⟨rfl, ?_⟩
          cases e1 : ((I i).x == x0)
          · exact .inl rfl
          · right
            refine ⟨rfl, ?_⟩
            cases e2 : ((I i).y == y0)
            · exact .inl rfl
            · right
              refine ⟨rfl, ?_⟩
              rw [beq_eq_false_iff_ne]
              intro e3
              have e0' : (i : Int) ≠ 0 := beq_eq_false_iff_ne.1 e0
              exact HNL.out (by omega) hin ⟨eq_of_beq e1, eq_of_beq e2, by omega⟩
        · exact .inl rfl
      have hk4' : (((I i).k : Nat) : Int) < 4 := by omega
      have hk0' : (0 : Int) ≤ (((I i).k : Nat) : Int) := by omega
      clear HNL
      rcases hcases with e0 | ⟨e0, e1 | ⟨e1, e2 | ⟨e2, e3⟩⟩⟩
      all_goals
        go_wp2_with (first
          | (at_mapUpdate; refine wpList_mapUpdate_E _ rfl _ _ _ 214 rfl 180 4 Try.edgKey edgMap md (MM i) rfl HS.out.m _ HDMI.out HLN.out ⟨(I i).x, (I i).y, (I i).k⟩ _ (.bool true) rfl rfl HKEY.out (fun wb hm1 hg1 => ?_); have HSb := Lib.hid (HUPD.out wb hm1 hg1); clear hm1 hg1 HKEY HUPD HLN c40 c41 c42 c80 c81 c82 l4 l8 HS; have c82 := HSb.out.a.cell2; have l8 := HSb.out.a.lt; have hown := HOWN.out wb HSb.out)
          | (at_builtin; refine wpList_append_own _ rfl _ _ 22 rfl w.heap.size 5 iu (.int .u8 0) 1 1 Try.underlying22 hiu hu0 hu1 hu2 rfl (by decide) _ _ _ rfl (hown.alloc _) ⟨wb.heap.size, 0, none⟩ 1 1 [.int .u8 ((letN (I i).k : Nat) : Int)] rfl rfl (cell_one_at (by simp)) (by simp [Value.oneCell']) HB1.out HB2.out (HLE.out wb HSb.out _) (fun v' w1 hown' hgrow _ => ?_); obtain ⟨HS1, a', c', rfl⟩ := HNX.out wb HSb.out _ _ _ hgrow hown'; clear hgrow hown' hown c82 l8 HSb HOWN HLE HNX HB1 HB2; have c80 := HS1.out.a.cell0; have c81 := HS1.out.a.cell1; have c82 := HS1.out.a.cell2; have l8 := HS1.out.a.lt))
        refine (HMV.out w1).mono ?_
        rintro e9 w2 ⟨rfl, hx2⟩
        have HS2 := Lib.hid (HS1.out.ext hx2)
        clear hx2 HS1 c80 c81 c82 l8 hs hlet HMV
        generalize hXX : (I (i + 1)).x = X at *
        generalize hYY : (I (i + 1)).y = Y at *
        have HXX := Lib.hid hXX
        have HYY := Lib.hid hYY
        clear hXX hYY
        generalize hKK : (I i).k = K at *
        have HKK := Lib.hid hKK
        clear hKK
        obtain ⟨w3, hw3⟩ : ∃ w3, w3 = (w2.alloc (.cells #[.int .i64 X, .int .i64 Y] 67)).alloc (.cells #[.int .i64 1, .int .i64 0, .int .i64 3] 3) := ⟨_, rfl⟩
        have hx3 : w2.Ext w3 := by rw [hw3]; repeat (first | exact World.Ext.refl _ | exact ⟨_, rfl⟩ | assumption | refine World.Ext.over ?_ _ | refine World.Ext.drewN ?_ _ | refine World.Ext.drew ?_ | refine World.Ext.alloc ?_ _ | refine World.Ext.setCell ?_ (by simp) _)
        have HD : Hid (∀ wr, w3.Ext wr → wr.cell? ⟨w2.heap.size, 0, none⟩ = some (.int .i64 X) ∧ wr.cell? ⟨w2.heap.size, 1, none⟩ = some (.int .i64 Y)) := fun wr hx => ⟨hx.cell (by rw [hw3]; simp [go_sem]), hx.cell (by rw [hw3]; simp [go_sem])⟩
        have HT : Hid (∀ wr, w3.Ext wr → ∀ j, j < 3 → wr.cell? ⟨w2.heap.size + 1, j, none⟩ = some (.int .i64 (trn j : Nat))) := fun wr hx j hj => by
          have h3 : j = 0 ∨ j = 1 ∨ j = 2 := by omega
          rcases h3 with rfl | rfl | rfl <;> exact hx.cell (by rw [hw3]; simp [go_sem, trn])
        have HS3 := Lib.hid (HS2.out.ext hx3)
        have HX3 : Hid (w3.Ext w3) := World.Ext.refl _
        clear hx3 HS2
        go_wp2
        rw [← hw3]
        clear hw3
        go_loopw [11, 12, 38] (fun _ _ z wr => ∃ j : Nat, j ≤ 3 ∧ z = .int .i64 j ∧ Hid (∀ j', j' < j → canB f X Y ((K + trn j') % 4) = false) ∧ Hid (w3.Ext wr)) (fun _ _ z _ => 3 - (intOf z).toNat)
        case atStart => exact ⟨0, by omega, rfl, fun j' h => by omega, HX3⟩
        case round =>
          obtain ⟨j, hj, rfl, HNO, HXJ⟩ := hrel
          clear HX3
          obtain ⟨w4, rfl⟩ : ∃ w4 : World, w4 = wr := ⟨_, rfl⟩
          have hj0 : (0 : Int) ≤ (j : Int) := by omega
          by_cases hj3 : j < 3
          · have hj3' : (j : Int) < 3 := by omega
            have q1 := HT.out w4 HXJ.out j hj3
            obtain ⟨d0, d1⟩ := HD.out w4 HXJ.out
            have HS4 := Lib.hid (HS3.out.ext HXJ.out)
            have c82 := HS4.out.a.cell2
            rw [HKK.out] at c82
            have l8 := HS4.out.a.lt
            have l2 := World.block_lt_of_cell? _ _ d0
            have lq := World.block_lt_of_cell? _ _ q1
            have ht3 := trn_le j
            have ht3' : ((trn j : Nat) : Int) ≤ 3 := by omega
            have ht0' : (0 : Int) ≤ ((trn j : Nat) : Int) := by omega
            have hz : (((K : Nat) : Int) + ((trn j : Nat) : Int)) % 4 = (((K + trn j) % 4 : Nat) : Int) := by omega
            have hm4 : (K + trn j) % 4 < 4 := Nat.mod_lt _ (by omega)
            have HZ := Lib.hid hz
            obtain ⟨t, ht⟩ : ∃ t, canB f X Y ((K + trn j) % 4) = t := ⟨_, rfl⟩
            have HQT := Lib.hid ht
            have HLK : Hid (∀ w', w4.Ext w' → (Instr.lookup 214 (.map (some mo)) (.agg #[.int .i64 X, .int .i64 Y, .int .i64 ((((K : Nat) : Int) + ((trn j : Nat) : Int)) % 4)]) false).run Try.prog w' = .ok (.bool t) w') := fun w' hx => HLOOK.out w' (HS4.out.x.trans (hx.wrote _)) X Y _ ((K + trn j) % 4) t HZ.out (by omega) (by omega) hm4 HQT.out
            clear ht hz hm4
            generalize htj : trn j = tj at *
            have HTJ := Lib.hid htj
            clear htj
            obtain ⟨w5, hw5⟩ : ∃ w5, w5 = w4.alloc (.cells #[.int .i64 X, .int .i64 Y, .int .i64 ((((K : Nat) : Int) + (tj : Int)) % 4)] 180) := ⟨_, rfl⟩
            have hx5 : w4.Ext w5 := by rw [hw5]; repeat (first | exact World.Ext.refl _ | exact ⟨_, rfl⟩ | assumption | refine World.Ext.over ?_ _ | refine World.Ext.drewN ?_ _ | refine World.Ext.drew ?_ | refine World.Ext.alloc ?_ _ | refine World.Ext.setCell ?_ (by simp) _)
            have g0 : w5.cell? ⟨w4.heap.size, 0, none⟩ = some (.int .i64 X) := by rw [hw5]; simp [go_sem]
            have g1 : w5.cell? ⟨w4.heap.size, 1, none⟩ = some (.int .i64 Y) := by rw [hw5]; simp [go_sem]
            have g2 : w5.cell? ⟨w4.heap.size, 2, none⟩ = some (.int .i64 ((((K : Nat) : Int) + (tj : Int)) % 4)) := by rw [hw5]; simp [go_sem]
            have HS5 := Lib.hid (HS4.out.ext hx5)
            have HX5 := Lib.hid (HXJ.out.trans hx5)
            have hlk := HLK.out w5 hx5
            go_upto_region 11 with fail
            rw [← hw5]
            clear hw5 hx5 q1 d0 d1 c82 l8 l2 lq HS4 HLK
            have lg := World.block_lt_of_cell? _ _ g0
            cases t
            · have HN2 : Hid (∀ j', j' < j + 1 → canB f X Y ((K + trn j') % 4) = false) := fun j' h => by
                rcases Nat.lt_or_ge j' j with h1 | h1
                · exact HNO.out j' h1
                · rw [show j' = j by omega, HTJ.out]; exact HQT.out
              clear HS5 HQT HNO HXJ HZ HTJ
              go_wp2
              go_roundw
              case rel => exact ⟨j + 1, by omega, by go_num, HN2, HX5⟩
              case measure => simp [intOf]; omega
            · have hk' : (I (i + 1)).k = (K + tj) % 4 := by
                rw [← HTJ.out]
                exact trn_hit (C := canB f X Y) (j := j) (by omega) HTK.out hj3 (by rw [HTJ.out]; exact HQT.out) HNO.out
              obtain ⟨w6, hw6⟩ : ∃ w6, w6 = ((w5.setCell ⟨p8, 0, none⟩ (.int .i64 X)).setCell ⟨p8, 1, none⟩ (.int .i64 Y)).setCell ⟨p8, 2, none⟩ (.int .i64 ((((K : Nat) : Int) + (tj : Int)) % 4)) := ⟨_, rfl⟩
              have HS6 : Hid (FwE w md p8 x0 y0 (I (i + 1)) (.slice a' (i + 1) c') (WL (i + 1)) (MM (i + 1)) w6) := by
                have h := HS5.out.move hp8 (I (i + 1))
                rw [HXX.out, HYY.out, hk', ← HZ.out] at h
                rw [hw6]
                exact h
              have c80 := HS5.out.a.cell0
              have c81 := HS5.out.a.cell1
              have c82 := HS5.out.a.cell2
              have f0 := HS5.out.a.free 0
              have f1 := HS5.out.a.free 1
              have f2 := HS5.out.a.free 2
              have l8 := HS5.out.a.lt
              clear hk' HS5 HQT HNO HXJ HZ HTJ HX5
              go_upto_region 14 with fail
              rw [← hw6]
              clear hw6 c80 c81 c82 f0 f1 f2 l8 g0 g1 g2 lg hlk
              have c80 := HS6.out.a.cell0
              have c81 := HS6.out.a.cell1
              have c82 := HS6.out.a.cell2
              have l8 := HS6.out.a.lt
              have HS7 : Hid (FwE w md w6.heap.size x0 y0 (I (i + 1)) (.slice a' (i + 1) c') (WL (i + 1)) (MM (i + 1)) (w6.alloc (.cells #[.int .i64 (I (i + 1)).x, .int .i64 (I (i + 1)).y, .int .i64 ((I (i + 1)).k : Int)] 180))) := HS6.out.rebox
              have hp9 : w.heap.size + 2 ≤ w6.heap.size := by have := HS6.out.r.lt; omega
              clear HS6
              go_wp2
              go_roundw
              case rel => exact ⟨i + 1, _, by omega, ⟨_, _, rfl⟩, rfl, hp9, HS7⟩
              case measure => simp [lenV]; omega
          · exact (trn_none (C := canB f X Y) (by omega) HTK.out HCN.out (fun j' h => HNO.out j' (by omega))).elim
    · have hin' : i = n := by omega
      obtain ⟨p1, p2, p3, p4, -⟩ := HPN2.out
      have e0 : ((i : Int) == 0) = false := by rw [beq_eq_false_iff_ne]; omega
      have e1 : ((I i).x == x0) = true := by rw [beq_iff_eq, hin']; exact p2
      have e2 : ((I i).y == y0) = true := by rw [beq_iff_eq, hin']; exact p3
      have e3 : (((I i).k : Int) == 0) = true := by rw [hin', p4]; rfl
      have hwl : (WL i).length = i := HWL.out i
      obtain ⟨g, cap, hsl, hg1, hg2, hcell⟩ := HS.out.o.some (by omega)
      rw [hwl] at hsl
      cases hsl
      have hcv := run_convert_bytes_arg (P := Try.prog) wo 22 5 Try.underlying22 Try.underlying5 g 0 i cv (WL i) hwl (by intro j hj; rw [Nat.zero_add]; exact hcell 0 j (by omega)) 9 Try.underlying9
      have hres2 : strOfNums (WL i) = res := by rw [hin']; exact HRES.out
      rw [hres2] at hcv
      obtain ⟨s0, s1, s2, s3, s4, s5, s6, s7, s8, HR⟩ := HS.out.fin (.int .i64 x0) (.int .i64 y0) (.string res)
      rw [show MM i = MM n from by rw [hin']] at HR
      clear HS hres2 hcell hwl hin' p1 p2 p3 p4
      go_wp2
      exact bodyPost_ret (v := .agg #[.int .i64 x0, .int .i64 y0, .string res]) (by simp [results, Try.results209, go_sem, s6, s7, s8]) rfl ⟨rfl, HR.out⟩
end Go.Proofs.Ytahhnjoeaodcjaa
