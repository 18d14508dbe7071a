/- Simple pixels: the program's side. -/
import Derived.Test.YtlcofjicpbbdhaaSimI
namespace Go
open Go.RowKit
theorem World.ownsQ.rowP {w : World} {base : Nat} {e : TypeId} {n m cap g o : Nat} {ps : List (Int × Int)} (h : w.ownsQ base e 2 (.slice (some ⟨g, o, none⟩) m cap) n ((Go.Proofs.Ytlcofjicpbbdhaa.flatP ps).map (Value.int .i64))) : Go.Proofs.Ytlcofjicpbbdhaa.RowP w (some ⟨g, o, none⟩) ps := by
  intro i hi
  refine ⟨g, o, rfl, h.cells i _ ?_⟩
  rw [List.getElem?_map, List.getElem?_eq_getElem hi, List.getD_eq_getElem?_getD, List.getElem?_eq_getElem hi]
  rfl
end Go
namespace Go.Proofs.Ytlcofjicpbbdhaa
open Go Go.RowKit
theorem idxP_found {α : Type} {p : α → Bool} {xs : List α} (d : α) (h : 0 ≤ idxP p xs) : ∃ k, k < xs.length ∧ idxP p xs = k ∧ p (xs.getD k d) = true := by
  unfold idxP at *
  cases hf : xs.findIdx? p with
  | none => rw [hf] at h; simp at h
  | some k =>
    obtain ⟨h1, h2, -⟩ := List.findIdx?_eq_some_iff_getElem.1 hf
    refine ⟨k, h1, rfl, ?_⟩
    rw [List.getD_eq_getElem?_getD, List.getElem?_eq_getElem h1]
    exact h2
theorem flatP_at2 : ∀ (ps : List (Int × Int)) (k : Nat), k < ps.length → (flatP ps).getD (2 * k) 0 = (ps.getD k (0, 0)).1 ∧ (flatP ps).getD (2 * k + 1) 0 = (ps.getD k (0, 0)).2
  | [], k, h => by cases h
  | p :: ps, 0, _ => by simp [flatP]
  | p :: ps, k + 1, h => by
    have := flatP_at2 ps k (by simpa using h)
    rw [show 2 * (k + 1) = 2 * k + 1 + 1 by omega]
    simpa [flatP] using this
/-- The pixels around that have a colour, in order. -/
def ringL (px : Int → Int → Bool) (black : Bool) (N : List (Int × Int)) : List (Int × Int) := N.filter fun q => px q.1 q.2 == black
theorem ringL_mem (px : Int → Int → Bool) (x y : Int) (black : Bool) (q : Int × Int) : decide (q ∈ ringL px black (nbA true (x, y))) = ringR px x y black q := by
  unfold ringL ringR
  rw [Bool.eq_iff_iff, decide_eq_true_iff, List.mem_filter, Bool.and_eq_true, decide_eq_true_iff]
theorem nbA_few (eight : Bool) (p : Int × Int) : (nbA eight p).length ≤ 8 := by rw [nbA_len]; cases eight <;> decide
theorem nbA_by (eight : Bool) (x y : Int) (q : Int × Int) (h : q ∈ nbA eight (x, y)) : x - 1 ≤ q.1 ∧ q.1 ≤ x + 1 ∧ y - 1 ≤ q.2 ∧ q.2 ≤ y + 1 := by
  unfold nbA at h
  obtain ⟨d, hd, rfl⟩ := List.mem_map.1 h
  have := arndL_at eight d hd
  simp only
  omega
theorem oneS3_any (p1 p2 : Nat) (a : Option Addr) (c bm : Nat) (os ds : List (Int × Int)) (x y : Int) (w : World) (hn : os.length ≤ 1000) (hx : -1000 ≤ x ∧ x ≤ 1000) (hy : -1000 ≤ y ∧ y ≤ 1000) (h1 : w.cell? ⟨p1, 0, none⟩ = some (.slice a os.length c)) (hm : RowP w a os)
    (h2 : w.cell? ⟨p2, 0, none⟩ = some (.map (some bm))) (hM : MapS w Try.prog 36 bm (mapG ds)) :
    Calls Try.prog 237 #[.agg #[.int .i64 x, .int .i64 y], .pointer (some ⟨p1, 0, none⟩), .pointer (some ⟨p2, 0, none⟩)] w fun e w' => e = .returned (.bool (decide ((x, y) ∈ os) && !decide ((x, y) ∈ ds))) ∧ w.Ext w' := by
  obtain ⟨W0, hW0⟩ : ∃ W0, W0 = w.alloc (.cells #[.int .i64 x, .int .i64 y] 36) := ⟨_, rfl⟩
  have hx0 : w.Ext W0 := by rw [hW0]; repeat (first | exact World.Ext.refl _ | exact ⟨_, rfl⟩ | assumption | refine World.Ext.over ?_ _ | refine World.Ext.drewN ?_ _ | refine World.Ext.drew ?_ | refine World.Ext.alloc ?_ _ | refine World.Ext.setCell ?_ (by simp) _)
  have d0 : W0.cell? ⟨w.heap.size, 0, none⟩ = some (.int .i64 x) := by rw [hW0]; simp [go_sem]
  have d1 : W0.cell? ⟨w.heap.size, 1, none⟩ = some (.int .i64 y) := by rw [hW0]; simp [go_sem]
  have HC := Lib.hid (containsQ_any a c os x y W0 hn (RowOf.ext hm hx0))
  have HD : Hid (∀ w', W0.Ext w' → w'.cell? ⟨w.heap.size, 0, none⟩ = some (.int .i64 x) ∧ w'.cell? ⟨w.heap.size, 1, none⟩ = some (.int .i64 y) ∧ w'.cell? ⟨p2, 0, none⟩ = some (.map (some bm))) := fun w' hx => ⟨hx.cell d0, hx.cell d1, hx.cell (hx0.cell h2)⟩
  have HM := Lib.hid (fun w' (hx' : W0.Ext w') => ((hM.ext hx0).ext hx').lookB hx hy)
  have HX0 := Lib.hid hx0
  have hl := World.block_lt_of_cell? _ _ h1
  have hl2 := World.block_lt_of_cell? _ _ h2
  clear hm hx0 hM d0 d1
  generalize decide ((x, y) ∈ os) = t at *
  generalize decide ((x, y) ∈ ds) = t2 at *
  go_enter Try.func237, Try.ntmps237
  go_wp2_with fail
  rw [← hW0]
  clear hW0
  refine HC.out.mono ?_
  rintro e w1 ⟨rfl, hx1⟩
  obtain ⟨d0, d1, d2⟩ := HD.out _ hx1
  have hlk := HM.out _ hx1
  have HX1 := Lib.hid (HX0.out.trans hx1)
  clear hx1 HM HD HX0 HC
  cases t
  · go_wp2
    go_ret
    exact ⟨rfl, HX1.out⟩
  · go_wp2
    go_ret
    exact ⟨by simp, HX1.out⟩
theorem enters_oneS3 : Enters 237 := enters_of Try.func237 (by kernel_rfl) (by kernel_rfl)
theorem slice_runP (g o c lo hi : Nat) (w : World) (M : Nat) (h1 : lo < hi) (h2 : hi ≤ c) (L U : Int) (hL : L = lo) (hU : U = hi) :
    (Instr.sliceAt 42 (.slice (some ⟨g, o, none⟩) M c) (some (.int .i64 L)) (some (.int .i64 U)) none).run Try.prog w = .ok (.slice (some ⟨g, o + lo * 2, none⟩) (hi - lo) (c - lo)) w := by
  subst hL hU
  obtain ⟨i0, hi0, hz0, hz1, hz2⟩ := info_parts Try.infoSpotA
  have he : Try.prog.elem 42 = 36 := by unfold Program.elem; rw [Try.underlying42]
  have ht' : Try.prog.underlying 42 = some (.slice (Try.prog.elem 42)) := by rw [he]; exact Try.underlying42
  rw [run_sliceAt_slice w _ _ _ _ _ ht', run_slice_lh w _ _ _ _ ht' .i64 .i64 _ _ (by omega) (by omega) (by omega)]
  have hne : ¬ c = lo := by omega
  simp [sizeOf, typeInfo, he, hi0, hz1, sliced, Addr.add_lit, Result.andThen, hne]
/-- The list under way: its cell at e + 1, its first array at e; all besides is behind w1. -/
structure RgSt (e : Nat) (w1 : World) (ps : List (Int × Int)) (wr : World) : Prop where
  wrote : Wrote (fun k => k = e ∨ k = e + 1 ∨ w1.heap.size ≤ k) w1 wr
  one : ∃ v, One wr (e + 1) 42 v ∧ wr.ownsQ e 36 2 v ps.length ((flatP ps).map (Value.int .i64)) ∧ ∀ k, v.ownBlock = some k → k = e ∨ w1.heap.size ≤ k
theorem RgSt.ext {e : Nat} {w1 wr w' : World} {ps : List (Int × Int)} (h : RgSt e w1 ps wr) (hx : wr.Ext w') : RgSt e w1 ps w' :=
  ⟨h.wrote.trans (hx.wrote _), let ⟨v, h1, h2, h3⟩ := h.one; ⟨v, h1.ext hx, h2.ext hx, h3⟩⟩
theorem RgSt.x {w : World} {e : Nat} {w1 wr : World} {ps : List (Int × Int)} (h : RgSt e w1 ps wr) (hx : w.Ext w1) (he : w.heap.size ≤ e) : w.Ext wr :=
  hx.wroteNew h.wrote fun k hk hs => by have := hx.size; omega
theorem RgSt.put {e : Nat} {w1 w3 : World} {ps : List (Int × Int)} {v : Value} (hw : Wrote (fun k => k = e ∨ k = e + 1 ∨ w1.heap.size ≤ k) w1 w3) (ho : One w3 (e + 1) 42 v) (hq : w3.ownsQ e 36 2 v ps.length ((flatP ps).map (Value.int .i64))) (hb : ∀ k, v.ownBlock = some k → k = e ∨ w1.heap.size ≤ k)
    {q : Int × Int} {o : Obj} {v' : Value} {w' : World} (hgrow : (w3.alloc o).grownBy w' v.ownBlock) (hown' : w'.ownsQ e 36 2 v' (ps.length + 1) ((flatP ps).map (Value.int .i64) ++ [.int .i64 q.1, .int .i64 q.2])) (hat : v'.ownBlock = v.ownBlock ∨ v'.ownBlock = some (w3.alloc o).heap.size) :
    w'.cell? ⟨e + 1, 0, none⟩ = some v ∧ w'.frozen? ⟨e + 1, 0, none⟩ = false ∧ RgSt e w1 (ps ++ [q]) (w'.setCell ⟨e + 1, 0, none⟩ v') := by
  have hne : some (e + 1) ≠ v.ownBlock := hq.ne ho (by decide)
  have a3 := (ho.ext ((World.Ext.refl _).alloc o)).grown hgrow hne
  have hw2 : Wrote (fun k => k = e ∨ k = e + 1 ∨ w1.heap.size ≤ k) w1 (w3.alloc o) := hw.trans ((World.Ext.alloc (World.Ext.refl _) o).wrote _)
  have hw3 : Wrote (fun k => k = e ∨ k = e + 1 ∨ w1.heap.size ≤ k) (w3.alloc o) w' := ⟨hgrow.os, hgrow.tape, hgrow.output, hgrow.size, fun k hk hs => hgrow.block k hk fun hr => hs (by
    rcases hb k hr.symm with h | h
    · exact .inl h
    · exact .inr (.inr h))⟩
  have hfl : (flatP ps).map (Value.int .i64) ++ [.int .i64 q.1, .int .i64 q.2] = (flatP (ps ++ [q])).map (Value.int .i64) := by
    rw [flatP_append, List.map_append]
    rfl
  rw [hfl] at hown'
  have hown2 : w'.ownsQ e 36 2 v' (ps ++ [q]).length ((flatP (ps ++ [q])).map (Value.int .i64)) := by
    rw [List.length_append, List.length_singleton]
    exact hown'
  refine ⟨a3.cell, a3.free, (hw2.trans hw3).setCell (p := ⟨e + 1, 0, none⟩) (.inr (.inl rfl)) v', v', a3.set v', ?_, fun k hk => ?_⟩
  · refine hown2.keep fun k hk => ?_
    have := hown2.ne a3 (by decide)
    exact Below.heap_setCell _ _ _ _ (fun e2 => this (by simp only at e2; rw [hk, e2]))
  · rcases hat with h | h
    · exact hb k (by rw [← h, hk])
    · rw [hk] at h
      have h1 := hw2.size
      simp only [Option.some.injEq] at h
      omega
set_option maxRecDepth 5000 in
set_option maxHeartbeats 3200000 in
theorem oneSide_any (b ab W H : Nat) (l : List Bool) (x y : Int) (black eight : Bool) (w : World) (hW : W ≤ 64) (hH : H ≤ 64) (hI : Img w b ab W H l) (hx : -400 ≤ x ∧ x ≤ 400) (hy : -400 ≤ y ∧ y ≤ 400) :
    Calls Try.prog 188 #[.pointer (some ⟨b, 0, none⟩), .agg #[.int .i64 x, .int .i64 y], .bool black, .bool eight] w fun e w' => e = .returned (.bool (oneB (pxl W H l) x y black eight)) ∧ w.Ext w' := by
  obtain ⟨i0, hi, hz0, hz1, hz2⟩ := info_parts Try.infoSpotA
  obtain ⟨W0, hW0⟩ : ∃ W0, W0 = ((w.alloc (.cells #[.int .i64 x, .int .i64 y] 36)).alloc (.cells #[] 36)).alloc (.cells #[.slice (some ⟨w.heap.size + 1, 0, none⟩) 0 0] 42) := ⟨_, rfl⟩
  have hx0 : w.Ext W0 := by rw [hW0]; repeat (first | exact World.Ext.refl _ | exact ⟨_, rfl⟩ | assumption | refine World.Ext.over ?_ _ | refine World.Ext.drewN ?_ _ | refine World.Ext.drew ?_ | refine World.Ext.alloc ?_ _ | refine World.Ext.setCell ?_ (by simp) _)
  have hsz0 : W0.heap.size = w.heap.size + 1 + 1 + 1 := by rw [hW0]; simp
  have d0 : W0.cell? ⟨w.heap.size, 0, none⟩ = some (.int .i64 x) := by rw [hW0]; simp [go_sem]
  have d1 : W0.cell? ⟨w.heap.size, 1, none⟩ = some (.int .i64 y) := by rw [hW0]; simp [go_sem]
  have h3 : One W0 (w.heap.size + 1 + 1) 42 (.slice (some ⟨w.heap.size + 1, 0, none⟩) 0 0) := by
    rw [hW0]
    exact One.new _ _ _ _ (by simp)
  have hq0 : W0.ownsQ (w.heap.size + 1) 36 2 (.slice (some ⟨w.heap.size + 1, 0, none⟩) 0 0) 0 [] := by
    rw [hW0]
    exact (World.ownsQ_new (base := w.heap.size + 1) (w.alloc (.cells #[.int .i64 x, .int .i64 y] 36)) 36 2 _ (by simp) (by simp)).ext ((World.Ext.refl _).alloc _)
  have HQ0 := Lib.hid (And.intro h3 hq0)
  have HG : Hid (∀ w' (q : Int × Int), w.Ext w' → Calls Try.prog 97 #[.pointer (some ⟨b, 0, none⟩), .int .i64 q.1, .int .i64 q.2] w' fun e w'' => e = .returned (.bool (pxl W H l q.1 q.2)) ∧ w'.Ext w'') := fun w' q hx => get_any b ab W H l q.1 q.2 w' hW hH (hI.ext hx) _ rfl
  have HAR : Hid (∀ w', Calls Try.prog 208 #[.int .i64 x, .int .i64 y, .bool true] w' (PairsRet w' (nbA true (x, y)))) := fun w' => around_any x y true w' (by omega) (by omega)
  have HAE : Hid (∀ w', Calls Try.prog 208 #[.int .i64 x, .int .i64 y, .bool eight] w' (PairsRet w' (nbA eight (x, y)))) := fun w' => around_any x y eight w' (by omega) (by omega)
  have HX0 := Lib.hid hx0
  have hl8 : (nbA true (x, y)).length = 8 := rfl
  have HNR : Hid (∀ q, q ∈ nbA true (x, y) → -401 ≤ q.1 ∧ q.1 ≤ 401 ∧ -401 ≤ q.2 ∧ q.2 ≤ 401) := fun q hq => by
    have := nbA_by true x y q hq
    omega
  have HEL : Hid ((nbA eight (x, y)).length ≤ 8) := nbA_few eight (x, y)
  have HNO : Hid ((∀ q, q ∈ ringL (pxl W H l) black (nbA true (x, y)) → ¬ q ∈ nbA eight (x, y)) → oneB (pxl W H l) x y black eight = false) := fun h => by
    rw [oneB_not]
    rintro ⟨q, h1, h2, -⟩
    rw [← ringL_mem] at h2
    exact h q (of_decide_eq_true h2) h1
  have HYES : Hid (∀ q, q ∈ ringL (pxl W H l) black (nbA true (x, y)) → q ∈ nbA eight (x, y) → ∀ ds : List (Int × Int), (∀ p, p ∈ ds ↔ Rch (ringR (pxl W H l) x y black) (nbA eight) [q] p) →
      (!(ringL (pxl W H l) black (nbA true (x, y))).any fun p => decide (p ∈ nbA eight (x, y)) && !decide (p ∈ ds)) = oneB (pxl W H l) x y black eight) := fun q h1 h2 ds hds => by
    have hr : ringR (pxl W H l) x y black q = true := by rw [← ringL_mem]; exact decide_eq_true h1
    rw [Bool.eq_iff_iff, oneB_iff, oneSide_first h2 hr, Bool.not_eq_true', List.any_eq_false]
    constructor
    · intro h q' hq' hr'
      rw [← ringL_mem] at hr'
      have := h q' (of_decide_eq_true hr')
      simp only [Bool.and_eq_true, decide_eq_true_iff, Bool.not_eq_true', decide_eq_false_iff_not, not_and, Decidable.not_not] at this
      exact (hds q').1 (this hq')
    · intro h q' hq'
      simp only [Bool.and_eq_true, decide_eq_true_iff, Bool.not_eq_true', decide_eq_false_iff_not, not_and, Decidable.not_not]
      intro hn
      exact (hds q').2 (h q' hn (by rw [← ringL_mem]; exact decide_eq_true hq'))
  have HRM : Hid (∀ q, decide (q ∈ ringL (pxl W H l) black (nbA true (x, y))) = ringR (pxl W H l) x y black q) := ringL_mem _ _ _ _
  have HRIN : Hid (∀ q, q ∈ ringL (pxl W H l) black (nbA true (x, y)) → q ∈ nbA true (x, y)) := fun q hq => (List.mem_filter.1 hq).1
  have HRL : Hid ((ringL (pxl W H l) black (nbA true (x, y))).length ≤ 8) := Nat.le_trans (List.length_filter_le _ _) (by rw [hl8]; omega)
  have HRS : Hid (∀ k, k < 8 → ringL (pxl W H l) black ((nbA true (x, y)).take (k + 1)) = ringL (pxl W H l) black ((nbA true (x, y)).take k) ++ (if (pxl W H l ((nbA true (x, y)).getD k (0, 0)).1 ((nbA true (x, y)).getD k (0, 0)).2 == black) then [(nbA true (x, y)).getD k (0, 0)] else [])) := fun k hk => by
    unfold ringL
    rw [List.take_succ_eq_append_getElem (show k < (nbA true (x, y)).length by rw [hl8]; exact hk), List.filter_append, List.getD_eq_getElem?_getD, List.getElem?_eq_getElem (show k < (nbA true (x, y)).length by rw [hl8]; exact hk)]
    simp [List.filter_cons]
  have HRK : Hid (∀ k, (ringL (pxl W H l) black ((nbA true (x, y)).take k)).length ≤ 8) := fun k => Nat.le_trans (List.length_filter_le _ _) (by rw [List.length_take, hl8]; omega)
  have HL8 := Lib.hid hl8
  generalize oneB (pxl W H l) x y black eight = res at *
  generalize ringR (pxl W H l) x y black = RR at *
  generalize pxl W H l = px at *
  generalize nbA true (x, y) = N at *
  generalize hNE : nbA eight (x, y) = NE at *
  clear hI h3 hq0 hx0
  go_enter Try.func188, Try.ntmps188
  go_wp2_with fail
  rw [← hW0]
  clear hW0
  refine (HAR.out W0).mono ?_
  rintro e w1 ⟨a1, c1, rfl, hx1, ho1⟩
  rw [hl8]
  have HO1 := Lib.hid ho1
  have HX1 := Lib.hid hx1
  have D1 : Hid (w1.cell? ⟨w.heap.size, 0, none⟩ = some (.int .i64 x) ∧ w1.cell? ⟨w.heap.size, 1, none⟩ = some (.int .i64 y)) := ⟨hx1.cell d0, hx1.cell d1⟩
  have HST : Hid (RgSt (w.heap.size + 1) w1 (ringL px black (N.take 0)) w1) := ⟨Wrote.refl _ _, _, HQ0.out.1.ext hx1, HQ0.out.2.ext hx1, fun k hk => by simp only [Value.ownBlock, Option.some.injEq] at hk; exact .inl hk.symm⟩
  have hsz1 := hx1.size
  rw [hsz0] at hsz1
  clear ho1 hx1 d0 d1 HQ0 hl8 HAR
  go_wp2
  go_loopw [22] (fun m wr => ∃ k : Nat, k ≤ 8 ∧ m = .int .i64 k ∧ Hid (RgSt (w.heap.size + 1) w1 (ringL px black (N.take k)) wr)) (fun m _ => 8 - (intOf m).toNat)
  case atStart => exact ⟨0, Nat.zero_le _, rfl, HST⟩
  case round =>
    obtain ⟨k, hk, rfl, HS⟩ := hrel
    clear HST
    obtain ⟨w2, rfl⟩ : ∃ w2 : World, w2 = wr := ⟨_, rfl⟩
    have HXW : Hid (w.Ext w2) := HS.out.x (HX0.out.trans HX1.out) (by omega)
    have HR2 : Hid (RowP w2 a1 N) := (HO1.out.wrote HS.out.wrote fun k h1 h2 h => by omega).row
    have d0 := HS.out.wrote.cell D1.out.1 (by simp only; omega)
    have d1 := HS.out.wrote.cell D1.out.2 (by simp only; omega)
    by_cases hlt : k < 8
    · have hlt' : (k : Int) < 8 := by omega
      have hk0 : (0 : Int) ≤ (k : Int) := by omega
      obtain ⟨b0, o0, rfl, c0, c1⟩ := HR2.out.at (show k < N.length by rw [HL8.out]; exact hlt)
      have HSS := Lib.hid (HRS.out k hlt)
      have HLK := Lib.hid (HRK.out k)
      generalize N.getD k (0, 0) = s at c0 c1 HSS
      obtain ⟨sx, sy⟩ := s
      dsimp only at c0 c1
      obtain ⟨w3, hw3⟩ : ∃ w3, w3 = w2.alloc (.cells #[.int .i64 sx, .int .i64 sy] 36) := ⟨_, rfl⟩
      have hx3 : w2.Ext w3 := by rw [hw3]; repeat (first | exact World.Ext.refl _ | exact ⟨_, rfl⟩ | assumption | refine World.Ext.over ?_ _ | refine World.Ext.drewN ?_ _ | refine World.Ext.drew ?_ | refine World.Ext.alloc ?_ _ | refine World.Ext.setCell ?_ (by simp) _)
      have e0 : w3.cell? ⟨w2.heap.size, 0, none⟩ = some (.int .i64 sx) := by rw [hw3]; simp [go_sem]
      have e1 : w3.cell? ⟨w2.heap.size, 1, none⟩ = some (.int .i64 sy) := by rw [hw3]; simp [go_sem]
      have HE3 := Lib.hid (And.intro e0 e1)
      have HS3 := Lib.hid (HS.out.ext hx3)
      have HC := Lib.hid (HG.out w3 (sx, sy) (HXW.out.trans hx3))
      clear HXW HR2 d0 d1 HS hx3 e0 e1
      go_wp2_with fail
      rw [← hw3]
      clear hw3 c0 c1
      refine HC.out.mono ?_
      rintro e w4 ⟨rfl, hx4⟩
      have HS4 := Lib.hid (HS3.out.ext hx4)
      have e0 := hx4.cell HE3.out.1
      have e1 := hx4.cell HE3.out.2
      clear hx4 HS3 HC HE3
      cases hb : px sx sy == black
      · have HN2 : Hid (RgSt (w.heap.size + 1) w1 (ringL px black (N.take (k + 1))) w4) := by
          have h := HSS.out
          simp only [hb, Bool.false_eq_true, if_false, List.append_nil] at h
          show RgSt _ _ _ _
          rw [h]
          exact HS4.out
        clear HSS HS4
        go_wp2
        go_roundw
        case rel => exact ⟨k + 1, by omega, by go_num, HN2⟩
        case measure => simp [intOf]; omega
      · have HN2 : Hid (ringL px black (N.take (k + 1)) = ringL px black (N.take k) ++ [(sx, sy)]) := by
          have h := HSS.out
          simp only [hb, if_true] at h
          exact h
        clear HSS
        obtain ⟨v, h1, h2, h4⟩ := HS4.out.one
        have c3 := h1.cell
        have f3 := h1.free
        have l3 := h1.lt
        have HB1 : Hid ((ringL px black (N.take k)).length + 1 ≤ maxLen) := by show _ ≤ _; have := HLK.out; unfold maxLen; omega
        have HB2 : Hid (((ringL px black (N.take k)).length + 1) * 16 ≤ 140737488355328) := by show _ ≤ _; have := HLK.out; omega
        have HNEXT : Hid (∀ (o : Obj) (v' : Value) (w' : World), (w4.alloc o).grownBy w' v.ownBlock → w'.ownsQ (w.heap.size + 1) 36 2 v' ((ringL px black (N.take k)).length + 1) ((flatP (ringL px black (N.take k))).map (Value.int .i64) ++ [.int .i64 sx, .int .i64 sy]) → (v'.ownBlock = v.ownBlock ∨ v'.ownBlock = some (w4.alloc o).heap.size) →
            w'.cell? ⟨w.heap.size + 1 + 1, 0, none⟩ = some v ∧ w'.frozen? ⟨w.heap.size + 1 + 1, 0, none⟩ = false ∧ Hid (RgSt (w.heap.size + 1) w1 (ringL px black (N.take (k + 1))) (w'.setCell ⟨w.heap.size + 1 + 1, 0, none⟩ v'))) := fun o v' w' hg ho ha => by
          obtain ⟨a1, a2, a3⟩ := RgSt.put (q := (sx, sy)) HS4.out.wrote h1 h2 h4 hg ho ha
          refine ⟨a1, a2, ?_⟩
          show RgSt _ _ _ _
          rw [HN2.out]
          exact a3
        have hown := h2
        have HLE : ∀ o' : Obj, w.heap.size + 1 ≤ (w4.alloc o').heap.size := fun o' => by simp; omega
        clear HS4 h1 h2 h4 HN2 HLK
        generalize ringL px black (N.take k) = ps at *
        go_wp2_with (at_builtin; refine wpList_append_Q _ rfl _ _ 42 rfl (w.heap.size + 1) 36 i0 (.agg #[.int .i64 0, .int .i64 0]) 2 16 Try.underlying42 hi hz0 hz1 hz2 rfl _ _ _ rfl (hown.ext ((World.Ext.refl _).alloc _)) ⟨w4.heap.size, 0, none⟩ 1 1 [.int .i64 sx, .int .i64 sy] rfl rfl (cell_two_at (by simp)) (by simp [Value.oneCell']) HB1.out HB2.out (HLE _) (fun v' w' hown' hgrow hat => ?_); obtain ⟨d3, g3, HS5⟩ := HNEXT.out _ _ _ hgrow hown' hat; obtain ⟨q1, q2, q3, rfl, _⟩ := World.ownsQ.form hown'; clear hgrow hown' hown hat c3 f3 e0 e1 l3)
        go_roundw
        case rel => exact ⟨k + 1, by omega, by go_num, HS5⟩
        case measure => simp [intOf]; omega
    · have : k = 8 := by omega
      subst this
      have htk : N.take 8 = N := by rw [← HL8.out, List.take_length]
      rw [htk] at HS
      obtain ⟨v, h1, h2, h4⟩ := HS.out.one
      obtain ⟨g, o, cap, rfl, hcap, -⟩ := h2.form
      have c3 := h1.cell
      have l3 := h1.lt
      have HRP := Lib.hid h2.rowP
      clear h1 h2 h4 htk HR2 HRS HRK
      generalize hring : ringL px black N = ring at *
      have hrl := HRL.out
      go_wp2_with fail
      refine (HAE.out w2).mono ?_
      rintro e w5 ⟨a5, c5, rfl, hx5, ho5⟩
      obtain ⟨w6, hw6⟩ : ∃ w6, w6 = w5.alloc (.cells #[.slice a5 NE.length c5] 42) := ⟨_, rfl⟩
      have hx6 : w5.Ext w6 := by rw [hw6]; repeat (first | exact World.Ext.refl _ | exact ⟨_, rfl⟩ | assumption | refine World.Ext.over ?_ _ | refine World.Ext.drewN ?_ _ | refine World.Ext.drew ?_ | refine World.Ext.alloc ?_ _ | refine World.Ext.setCell ?_ (by simp) _)
      have d6 : w6.cell? ⟨w5.heap.size, 0, none⟩ = some (.slice a5 NE.length c5) := by rw [hw6]; simp [go_sem]
      have HX6 := Lib.hid (hx5.trans hx6)
      have c6 := HX6.out.cell c3
      have c5' := hx5.cell c3
      have l6 := World.block_lt_of_cell? _ _ c6
      have l5 := World.block_lt_of_cell? _ _ c5'
      have HN6 := Lib.hid (RowOf.ext ho5.row hx6 : RowP w6 a5 NE)
      have HR6 := Lib.hid (RowOf.ext HRP.out HX6.out : RowP w6 (some ⟨g, o, none⟩) ring)
      have hel := HEL.out
      have HIX := Lib.hid (indexFuncP_any (some ⟨g, o, none⟩) cap 234 #[.pointer (some ⟨w5.heap.size, 0, none⟩)] ring (fun q => decide (q ∈ NE)) w6 (by omega) HR6.out enters_oneS1
        (fun w' hx' i hi' => oneS1_any _ a5 c5 NE _ _ w' (by omega) (hx'.cell d6) (RowOf.ext HN6.out hx')))
      have HD6 := Lib.hid d6
      clear hx5 hx6 ho5 d6 d0 d1
      go_wp2_with fail
      rw [← hw6]
      clear hw6 c3 l3 l5 c5'
      refine HIX.out.mono ?_
      rintro e w7 ⟨rfl, hx7⟩
      by_cases hneg : idxP (fun q => decide (q ∈ NE)) ring < 0
      · have hres : res = false := HNO.out fun q hq hn => by
          have h := idxP_any (fun q => decide (q ∈ NE)) ring
          rw [decide_eq_false (by omega)] at h
          have h2 := List.any_eq_false.1 h.symm q hq
          simp at h2
          exact h2 hn
        have HXR := Lib.hid (HXW.out.trans (HX6.out.trans hx7))
        clear hx7 HIX
        generalize idxP (fun q => decide (q ∈ NE)) ring = z at *
        go_wp2
        go_ret
        exact ⟨by rw [hres]; rfl, HXR.out⟩
      · obtain ⟨j, hj1, hj2, hj3⟩ := idxP_found ((0, 0) : Int × Int) (show 0 ≤ idxP (fun q => decide (q ∈ NE)) ring by omega)
        rw [hj2] at hneg ⊢
        have hnj : ¬ (j : Int) < 0 := by omega
        have c7 := hx7.cell c6
        have l7 := World.block_lt_of_cell? _ _ c7
        have hqm : ring.getD j (0, 0) ∈ ring := getD_mem hj1
        have hj3' : ring.getD j (0, 0) ∈ NE := of_decide_eq_true hj3
        have HY2 := Lib.hid (HYES.out _ hqm hj3')
        have HR7 := Lib.hid (RowOf.ext HR6.out hx7 : RowP w7 (some ⟨g, o, none⟩) ring)
        have HSL : Hid (RowP w7 (some ⟨g, o + j * 2, none⟩) [ring.getD j (0, 0)]) := by
          intro i hi'
          obtain ⟨f1, f2⟩ := flatP_at2 ring j hj1
          have hfl : ∀ ps : List (Int × Int), (flatP ps).length = 2 * ps.length := fun ps => by
            induction ps with
            | nil => rfl
            | cons p ps ih => simp [flatP, ih]; omega
          rw [hfl] at hi'
          simp only [List.length_singleton] at hi'
          have hi2 : i = 0 ∨ i = 1 := by omega
          rcases hi2 with rfl | rfl
          · obtain ⟨b', o', e', hc'⟩ := HR7.out (2 * j) (by rw [hfl]; omega)
            simp only [Option.some.injEq, Addr.mk.injEq, and_true] at e'
            obtain ⟨rfl, rfl⟩ := e'
            refine ⟨g, o + j * 2, rfl, ?_⟩
            rw [f1] at hc'
            rw [Nat.add_zero, Nat.mul_comm j 2]
            simpa [flatP] using hc'
          · obtain ⟨b', o', e', hc'⟩ := HR7.out (2 * j + 1) (by rw [hfl]; omega)
            simp only [Option.some.injEq, Addr.mk.injEq, and_true] at e'
            obtain ⟨rfl, rfl⟩ := e'
            refine ⟨g, o + j * 2, rfl, ?_⟩
            rw [f2] at hc'
            rw [Nat.mul_comm j 2, Nat.add_assoc]
            simpa [flatP] using hc'
        have hrun := slice_runP g o cap j (j + 1) w7 ring.length (by omega) (by omega) (j : Int) ((j : Int) + 1) rfl (by omega)
        rw [show j + 1 - j = 1 by omega] at hrun
        have HSP := Lib.hid (spread_any (some ⟨g, o + j * 2, none⟩) (cap - j) [ring.getD j (0, 0)] eight 236 #[.pointer (some ⟨w.heap.size + 1 + 1, 0, none⟩)] RR N w7 enters_oneS2 HSL.out (by simp)
          (fun q hq => by simp only [List.mem_singleton] at hq; subst hq; have := HNR.out _ (HRIN.out _ hqm); omega)
          (fun p hp => by rw [← HRM.out] at hp; exact HRIN.out _ (of_decide_eq_true hp)) (by rw [HL8.out]; omega)
          (fun p hp => by rw [← HRM.out] at hp; have := HNR.out _ (HRIN.out _ (of_decide_eq_true hp)); omega)
          (fun w' hx' x' y' _ _ => by rw [← HRM.out]; exact oneS2_any _ (some ⟨g, o, none⟩) cap ring x' y' w' (by omega) (hx'.cell c7) (RowOf.ext HR7.out hx')))
        have HN7 : Hid (RowP w7 a5 NE ∧ w7.cell? ⟨w5.heap.size, 0, none⟩ = some (.slice a5 NE.length c5)) := ⟨RowOf.ext HN6.out hx7, hx7.cell HD6.out⟩
        have HX7 := Lib.hid (HXW.out.trans (HX6.out.trans hx7))
        have hj0 : (0 : Int) ≤ (j : Int) := by omega
        have hj8 : (j : Int) ≤ 8 := by omega
        clear hx7 HSL HIX HN6 HR6 HX6 HD6 hj3 hneg hj2 c6 l6
        generalize ring.getD j (0, 0) = s at *
        go_wp2_with fail
        refine HSP.out.mono ?_
        rintro e w8 ⟨bm, ds, rfl, hx8, hlo8, hM8, -, hds⟩
        rw [← hNE] at HY2
        have HY3 := Lib.hid (HY2.out ds hds)
        obtain ⟨w9, hw9⟩ : ∃ w9, w9 = w8.alloc (.cells #[.map (some bm)] 146) := ⟨_, rfl⟩
        have hx9 : w8.Ext w9 := by rw [hw9]; repeat (first | exact World.Ext.refl _ | exact ⟨_, rfl⟩ | assumption | refine World.Ext.over ?_ _ | refine World.Ext.drewN ?_ _ | refine World.Ext.drew ?_ | refine World.Ext.alloc ?_ _ | refine World.Ext.setCell ?_ (by simp) _)
        have d9 : w9.cell? ⟨w8.heap.size, 0, none⟩ = some (.map (some bm)) := by rw [hw9]; simp [go_sem]
        have hM9 := hM8.ext hx9
        have HX9 := Lib.hid (hx8.trans hx9)
        have c9 := HX9.out.cell c7
        have l9 := World.block_lt_of_cell? _ _ c9
        have c8 := hx8.cell c7
        have l8 := World.block_lt_of_cell? _ _ c8
        have HCF := Lib.hid (containsFuncP_any (some ⟨g, o, none⟩) cap 237 #[.pointer (some ⟨w5.heap.size, 0, none⟩), .pointer (some ⟨w8.heap.size, 0, none⟩)] ring (fun q => decide (q ∈ NE) && !decide (q ∈ ds)) w9 (by omega) (RowOf.ext HR7.out HX9.out) enters_oneS3
          (fun w' hx' i hi' => by
            have hb := HNR.out _ (HRIN.out _ (getD_mem hi'))
            exact oneS3_any _ _ a5 c5 bm NE ds _ _ w' (by omega) (by omega) (by omega) (hx'.cell (HX9.out.cell HN7.out.2)) (RowOf.ext HN7.out.1 (HX9.out.trans hx')) (hx'.cell d9) (hM9.ext hx')))
        rw [hNE] at HY3
        clear hx8 hlo8 hM8 hds hx9 hM9 d9 HSP HY2 hrun c7 l7
        generalize (ring.any fun q => decide (q ∈ NE) && !decide (q ∈ ds)) = t at *
        go_wp2_with fail
        rw [← hw9]
        clear hw9 c8 l8
        refine HCF.out.mono ?_
        rintro e w10 ⟨rfl, hx10⟩
        have HX10 := Lib.hid (HX7.out.trans (HX9.out.trans hx10))
        clear hx10
        go_wp2
        go_ret
        exact ⟨by rw [← HY3.out]; rfl, HX10.out⟩
set_option maxHeartbeats 800000 in
theorem simple_any (b ab W H : Nat) (l : List Bool) (x y : Int) (eight : Bool) (w : World) (hW : W ≤ 64) (hH : H ≤ 64) (hI : Img w b ab W H l) (hx : -400 ≤ x ∧ x ≤ 400) (hy : -400 ≤ y ∧ y ≤ 400) :
    Calls Try.prog 98 #[.pointer (some ⟨b, 0, none⟩), .agg #[.int .i64 x, .int .i64 y], .bool eight] w fun e w' => e = .returned (.bool (simpB (pxl W H l) x y eight)) ∧ w.Ext w' := by
  obtain ⟨W0, hW0⟩ : ∃ W0, W0 = w.alloc (.cells #[.int .i64 x, .int .i64 y] 36) := ⟨_, rfl⟩
  have hx0 : w.Ext W0 := by rw [hW0]; repeat (first | exact World.Ext.refl _ | exact ⟨_, rfl⟩ | assumption | refine World.Ext.over ?_ _ | refine World.Ext.drewN ?_ _ | refine World.Ext.drew ?_ | refine World.Ext.alloc ?_ _ | refine World.Ext.setCell ?_ (by simp) _)
  have HD : Hid (∀ w', W0.Ext w' → w'.cell? ⟨w.heap.size, 0, none⟩ = some (.int .i64 x) ∧ w'.cell? ⟨w.heap.size, 1, none⟩ = some (.int .i64 y)) := fun w' hx => ⟨hx.cell (by rw [hW0]; simp [go_sem]), hx.cell (by rw [hW0]; simp [go_sem])⟩
  have H1 := Lib.hid (oneSide_any b ab W H l x y true eight W0 hW hH (hI.ext hx0) hx hy)
  have H2 : Hid (∀ w', W0.Ext w' → Calls Try.prog 188 #[.pointer (some ⟨b, 0, none⟩), .agg #[.int .i64 x, .int .i64 y], .bool false, .bool (!eight)] w' fun e w'' => e = .returned (.bool (oneB (pxl W H l) x y false (!eight))) ∧ w'.Ext w'') := fun w' hx' => oneSide_any b ab W H l x y false (!eight) w' hW hH ((hI.ext hx0).ext hx') hx hy
  have HX0 := Lib.hid hx0
  unfold simpB
  clear hI hx0
  generalize oneB (pxl W H l) x y true eight = t at *
  generalize oneB (pxl W H l) x y false (!eight) = t2 at *
  go_enter Try.func98, Try.ntmps98
  go_wp2_with fail
  rw [← hW0]
  clear hW0
  refine H1.out.mono ?_
  rintro e w1 ⟨rfl, hx1⟩
  cases t
  · have HX1 := Lib.hid (HX0.out.trans hx1)
    clear hx1
    go_wp2
    go_ret
    exact ⟨rfl, HX1.out⟩
  · obtain ⟨d0, d1⟩ := HD.out _ hx1
    have HX1 := Lib.hid hx1
    clear hx1
    go_wp2_with fail
    refine (H2.out w1 HX1.out).mono ?_
    rintro e w2 ⟨rfl, hx2⟩
    have HX2 := Lib.hid (HX0.out.trans (HX1.out.trans hx2))
    clear hx2 d0 d1
    go_wp2
    go_ret
    exact ⟨by simp, HX2.out⟩
def simpOk (px : Int → Int → Bool) (ok : Bool) (x y : Int) (t : Bool) : Bool := ok && (px x y && t)
end Go.Proofs.Ytlcofjicpbbdhaa
