/- A list of borders as an argument: memory, and what the laws do with it. -/
import Derived.Test.YthgkmaccbcpaeaaLMat
import Derived.Test.YthgkmaccbcpaeaaBdA
namespace Go.Proofs.Ythgkmaccbcpaeaa
open Go Go.RowKit
theorem cell_set_blk {w : World} {a c : Addr} {v : Value} (h : c.block ≠ a.block) : (w.setCell a v).cell? c = w.cell? c := World.cell?_of_block (a := c) (Below.heap_setCell w a v c.block h)
def BdLen (bs : List Bord) : Prop := bs.length ≤ maxLen ∧ ∀ r, (bs.getD r bd0).2.2.size ≤ maxLen ∧ wrap64 (bs.getD r bd0).1 = (bs.getD r bd0).1 ∧ wrap64 (bs.getD r bd0).2.1 = (bs.getD r bd0).2.1
def BdBnd (bs : List Bord) : Prop := bs.length ≤ 1048576 ∧ ∀ r, wrap64 (bs.getD r bd0).1 = (bs.getD r bd0).1 ∧ wrap64 (bs.getD r bd0).2.1 = (bs.getD r bd0).2.1
def cpB (bs : List Bord) (k : Nat) : List Bord := bs.take k ++ List.replicate (bs.length - k) bd0
theorem cpB_len (bs : List Bord) {k : Nat} (h : k ≤ bs.length) : (cpB bs k).length = bs.length := by simp [cpB]; omega
theorem cpB_all (bs : List Bord) : cpB bs bs.length = bs := by simp [cpB]
theorem cpB_zero (bs : List Bord) : cpB bs 0 = List.replicate bs.length bd0 := by simp [cpB]
theorem cpB_set (bs : List Bord) {k : Nat} (h : k < bs.length) : (cpB bs k).set k (bs.getD k bd0) = cpB bs (k + 1) := by
  unfold cpB
  rw [List.set_append_right _ _ (by simp; omega)]
  obtain ⟨n, hn⟩ : ∃ n, bs.length - k = n + 1 := ⟨bs.length - k - 1, by omega⟩
  rw [show bs.length - (k + 1) = n by omega, hn, List.replicate_succ, show k - (List.take k bs).length = 0 by simp; omega, List.set_cons_zero, List.take_add_one, List.append_assoc]
  congr 1
  rw [List.getD_eq_getElem?_getD, List.getElem?_eq_getElem h]
  rfl
theorem flatB_set : ∀ (bs : List Bord) (i : Nat) (d : Bord), (((flatB bs).set (i * 3) (.int .i64 d.1)).set (i * 3 + 1) (.int .i64 d.2.1)).set (i * 3 + 2) (.string d.2.2) = flatB (bs.set i d)
  | [], i, d => by simp [flatB]
  | b :: bs, 0, d => by simp [flatB]
  | b :: bs, i + 1, d => by
    have h := flatB_set bs i d
    have e1 : (i + 1) * 3 = i * 3 + 1 + 1 + 1 := by omega
    have e2 : (i + 1) * 3 + 1 = i * 3 + 1 + 1 + 1 + 1 := by omega
    have e3 : (i + 1) * 3 + 2 = i * 3 + 2 + 1 + 1 + 1 := by omega
    rw [e3, e2, e1]
    simp only [flatB, List.set_cons_succ]
    rw [← h]
theorem blkB_of_made {w : World} {base g n : Nat} {e : TypeId} {z : Value} (hz : z.cells = #[.int .i64 0, .int .i64 0, .string ⟨#[]⟩])
    (h : w.ownsRow base e 3 (.slice (some ⟨g, 0, none⟩) n n) n (madeCells z.cells (n * 3)).toList) : BlkOf id w g e (flatB (List.replicate n bd0)) := by
  obtain ⟨h1, h2⟩ := h
  rcases h2 with ⟨h2, _⟩ | ⟨g', cap, cur, hv, _, hh, _, _, hs, ht⟩
  · cases h2
  · simp only [Value.slice.injEq, Option.some.injEq, Addr.mk.injEq, and_true] at hv
    obtain ⟨rfl, -, rfl⟩ := hv
    unfold BlkOf
    rw [hh]
    have e1 : cur.toList.take (n * 3) = cur.toList := List.take_of_length_le (by simp [hs])
    rw [e1] at ht
    have e2 : cur = (cur.toList).toArray := by simp
    rw [e2, ht, hz]
    congr 2
    apply Array.ext
    · simp [size_madeCells, flatB_len, Nat.mul_comm]
    · intro i h3 h4
      have hi : i < n * 3 := by simpa [size_madeCells] using h3
      obtain ⟨q0, q1, q2⟩ := flatB_at (List.replicate n bd0) (i / 3) (by simp; omega)
      have hq : (List.replicate n bd0).getD (i / 3) bd0 = bd0 := by
        rw [List.getD_eq_getElem?_getD, List.getElem?_replicate]
        split <;> rfl
      rw [hq] at q0 q1 q2
      simp only [madeCells, Array.toArray_toList, Array.getElem_map, Array.getElem_range, List.map_id_fun, id_eq, List.getElem_toArray]
      have h5 : i % 3 = 0 ∨ i % 3 = 1 ∨ i % 3 = 2 := by omega
      have hl : i < (flatB (List.replicate n bd0)).length := by rw [flatB_len]; simp; omega
      rcases h5 with h5 | h5 | h5
      · rw [show i / 3 * 3 = i by omega, List.getElem?_eq_getElem hl] at q0
        simp only [Option.some.injEq] at q0
        rw [q0]
        simp [h5, bd0]
      · rw [show i / 3 * 3 + 1 = i by omega, List.getElem?_eq_getElem hl] at q1
        simp only [Option.some.injEq] at q1
        rw [q1]
        simp [h5, bd0]
      · rw [show i / 3 * 3 + 2 = i by omega, List.getElem?_eq_getElem hl] at q2
        simp only [Option.some.injEq] at q2
        rw [q2]
        simp [h5, bd0]
theorem flatB_get (bs : List Bord) {i : Nat} (hi : i < bs.length) (d : Value) : (flatB bs).getD (i * 3) d = .int .i64 (bs.getD i bd0).1 ∧ (flatB bs).getD (i * 3 + 1) d = .int .i64 (bs.getD i bd0).2.1 ∧ (flatB bs).getD (i * 3 + 2) d = .string (bs.getD i bd0).2.2 := by
  obtain ⟨h0, h1, h2⟩ := flatB_at bs i hi
  refine ⟨?_, ?_, ?_⟩ <;> rw [List.getD_eq_getElem?_getD]
  · rw [h0]; rfl
  · rw [h1]; rfl
  · rw [h2]; rfl
theorem blkB_own {w : World} {g lo hi : Nat} {T : TypeId} {bs : List Bord} (h : BlkOf id w g T (flatB bs)) (h1 : lo ≤ g) (h2 : g < hi) : OwnBd lo hi w (some ⟨g, 0, none⟩) bs := fun i hi' => by
  have hl := flatB_len bs
  obtain ⟨q0, q1, q2⟩ := flatB_get bs hi' undef
  refine ⟨g, 0, rfl, h1, h2, ?_, ?_, ?_, ?_, ?_, ?_⟩
  · rw [Nat.zero_add, h.cell undef (by omega), q0]; rfl
  · rw [Nat.zero_add, h.cell undef (by omega), q1]; rfl
  · rw [Nat.zero_add, h.cell undef (by omega), q2]; rfl
  · rw [Nat.zero_add]; exact h.free _
  · rw [Nat.zero_add]; exact h.free _
  · rw [Nat.zero_add]; exact h.free _
theorem blkB_set {w : World} {g : Nat} {T : TypeId} {bs : List Bord} (h : BlkOf id w g T (flatB bs)) (i : Nat) (d : Bord) :
    BlkOf id (((w.setCell ⟨g, i * 3, none⟩ (.int .i64 d.1)).setCell ⟨g, i * 3 + 1, none⟩ (.int .i64 d.2.1)).setCell ⟨g, i * 3 + 2, none⟩ (.string d.2.2)) g T (flatB (bs.set i d)) := by
  rw [← flatB_set]
  exact ((h.set (i * 3) (.int .i64 d.1)).set (i * 3 + 1) (.int .i64 d.2.1)).set (i * 3 + 2) (.string d.2.2)
set_option maxHeartbeats 400000 in
theorem szBorder_any (x y : Int) (s : ByteArray) (left : Int) (w : World) (hl : 0 ≤ left) (hl2 : left ≤ 1048576) (hn : s.size ≤ maxLen) :
    Calls Try.prog 129 #[.agg #[.int .i64 x, .int .i64 y, .string s], .int .i64 left] w fun e w' => e = .returned (.int .i64 (szS left s.size)) ∧ w.Ext w' := by
  unfold maxLen at hn
  unfold szS
  by_cases h : left - s.size < 0
  · rw [if_pos h]
    go_enter Try.func129, Try.ntmps129
    go_wp2
    go_ret
    exact ⟨rfl, by repeat (first | exact World.Ext.refl _ | exact ⟨_, rfl⟩ | assumption | refine World.Ext.over ?_ _ | refine World.Ext.drewN ?_ _ | refine World.Ext.drew ?_ | refine World.Ext.alloc ?_ _ | refine World.Ext.setCell ?_ (by simp) _)⟩
  · rw [if_neg h]
    go_enter Try.func129, Try.ntmps129
    go_wp2
    go_ret
    exact ⟨rfl, by repeat (first | exact World.Ext.refl _ | exact ⟨_, rfl⟩ | assumption | refine World.Ext.over ?_ _ | refine World.Ext.drewN ?_ _ | refine World.Ext.drew ?_ | refine World.Ext.alloc ?_ _ | refine World.Ext.setCell ?_ (by simp) _)⟩
set_option maxHeartbeats 800000 in
theorem szBorderS_ok (a : Option Addr) (c : Nat) (s : List Bord) (left : Int) (w : World) (hl : 0 ≤ left) (hl2 : left ≤ 1048576) (hm : RowBd w a s) (hn : BdLen s) :
    Calls Try.prog 49 #[.slice a s.length c, .int .i64 left] w fun e w' => ∃ z : Int, e = .returned (.int .i64 z) ∧ w.Ext w' ∧ z ≤ left ∧ (0 ≤ z → BdBnd s ∧ z + s.length ≤ left) := by
  have hn1 := hn.1
  unfold maxLen at hn1
  have HM := Lib.hid hm
  have HL := Lib.hid hn.2
  have HB : Hid (s.length ≤ 1048576 → BdBnd s) := fun h => ⟨h, fun r => (hn.2 r).2⟩
  clear hm hn
  by_cases h : left - s.length < 0
  · go_enter Try.func49, Try.ntmps49
    go_wp2
    go_ret
    exact ⟨-1, rfl, .refl _, by omega, fun h => by omega⟩
  · go_enter Try.func49, Try.ntmps49
    go_wp2
    go_loopw [1, 5] (fun l i wr => ∃ (k : Nat) (z : Int), k ≤ s.length ∧ i = .int .i64 k ∧ l = .int .i64 z ∧ 0 ≤ z ∧ z ≤ 1048576 ∧ z ≤ left - s.length ∧ Hid (w.Ext wr)) (fun _ i _ => s.length - (intOf i).toNat)
    case atStart => exact ⟨0, _, Nat.zero_le _, rfl, rfl, by omega, by omega, by omega, .refl _⟩
    case round =>
      obtain ⟨k, z, hk, rfl, rfl, hz0, hz1, hz2, HX⟩ := hrel
      by_cases hlt : k < s.length
      · obtain ⟨b, o, rfl, c0, c1, c2⟩ := (HM.out.ext HX.out) k hlt
        have HLK := Lib.hid (HL.out k).1
        generalize s.getD k bd0 = d at *
        obtain ⟨x, y, t⟩ := d
        dsimp only at c0 c1 c2 HLK
        have hlt' : (k : Int) < (s.length : Int) := by omega
        have hk0 : (0 : Int) ≤ (k : Int) := by omega
        by_cases hneg : z - t.size < 0
        · go_wp2_with (go_at_call 129; refine (szBorder_any _ _ _ _ _ hz0 hz1 HLK.out).mono ?_; rintro e w' ⟨rfl, x1, rfl⟩; rw [szS, if_pos hneg])
          go_ret
          exact ⟨-1, rfl, HX.out.over _, by omega, fun h => by omega⟩
        · go_wp2_with (go_at_call 129; refine (szBorder_any _ _ _ _ _ hz0 hz1 HLK.out).mono ?_; rintro e w' ⟨rfl, x1, rfl⟩; rw [szS, if_neg hneg])
          go_roundw
          case rel => exact ⟨k + 1, z - t.size, by omega, by go_num, rfl, by omega, by omega, by omega, HX.out.over _⟩
          case measure => simp [intOf]; omega
      · have : k = s.length := by omega
        subst this
        go_wp2
        go_ret
        exact ⟨z, rfl, HX.out, by omega, fun _ => ⟨HB.out (by omega), by omega⟩⟩
set_option maxHeartbeats 3200000 in
theorem toBorder_any (x y : Int) (s : ByteArray) (w : World) :
    Calls Try.prog 138 #[.agg #[.int .i64 x, .int .i64 y, .string s]] w fun e w' => e = .returned (.agg #[.int .i64 x, .int .i64 y, .string s]) ∧ w.Ext w' := by
  obtain ⟨W0, hW0⟩ : ∃ W0, W0 = ((w.alloc (.cells #[.int .i64 x, .int .i64 y, .string s] 178)).alloc (.cells #[.int .i64 0, .int .i64 0, .string ⟨#[]⟩] 62)).alloc (.cells #[.int .i64 0, .int .i64 0, .string ⟨#[]⟩] 62) := ⟨_, rfl⟩
  have hx0 : w.Ext W0 := by rw [hW0]; repeat (first | exact World.Ext.refl _ | exact ⟨_, rfl⟩ | assumption | refine World.Ext.over ?_ _ | refine World.Ext.drewN ?_ _ | refine World.Ext.drew ?_ | refine World.Ext.alloc ?_ _ | refine World.Ext.setCell ?_ (by simp) _)
  have HA : Hid (∀ wr, W0.Ext wr → wr.cell? ⟨w.heap.size, 0, none⟩ = some (.int .i64 x) ∧ wr.cell? ⟨w.heap.size, 1, none⟩ = some (.int .i64 y) ∧ wr.cell? ⟨w.heap.size, 2, none⟩ = some (.string s)) := fun wr hx => by
    refine ⟨hx.cell ?_, hx.cell ?_, hx.cell ?_⟩ <;> (rw [hW0]; simp [go_sem])
  have HB : Hid (∀ wr, W0.Ext wr → ∀ b, (b = w.heap.size + 1 ∨ b = w.heap.size + 1 + 1) → wr.cell? ⟨b, 0, none⟩ = some (.int .i64 0) ∧ wr.cell? ⟨b, 1, none⟩ = some (.int .i64 0) ∧ wr.cell? ⟨b, 2, none⟩ = some (.string ⟨#[]⟩) ∧ wr.frozen? ⟨b, 0, none⟩ = false ∧ wr.frozen? ⟨b, 1, none⟩ = false ∧ wr.frozen? ⟨b, 2, none⟩ = false) := fun wr hx b hb => by
    have c0 : W0.cell? ⟨b, 0, none⟩ = some (.int .i64 0) := by rcases hb with rfl | rfl <;> (rw [hW0]; simp [go_sem])
    have c1 : W0.cell? ⟨b, 1, none⟩ = some (.int .i64 0) := by rcases hb with rfl | rfl <;> (rw [hW0]; simp [go_sem])
    have c2 : W0.cell? ⟨b, 2, none⟩ = some (.string ⟨#[]⟩) := by rcases hb with rfl | rfl <;> (rw [hW0]; simp [go_sem])
    refine ⟨hx.cell c0, hx.cell c1, hx.cell c2, ?_, ?_, ?_⟩
    · rw [hx.frozen c0]; rcases hb with rfl | rfl <;> (rw [hW0]; simp [go_sem])
    · rw [hx.frozen c1]; rcases hb with rfl | rfl <;> (rw [hW0]; simp [go_sem])
    · rw [hx.frozen c2]; rcases hb with rfl | rfl <;> (rw [hW0]; simp [go_sem])
  have HX0 := Lib.hid hx0
  have HS := Lib.hid (toSpotP_any x y W0)
  clear hx0
  go_enter Try.func138, Try.ntmps138
  go_upto_region 2 with fail
  rw [← hW0]
  clear hW0
  obtain ⟨c0, c1, c2⟩ := HA.out W0 (.refl _)
  have lb := World.block_lt_of_cell? _ _ c0
  go_wp2_with fail
  refine HS.out.mono ?_
  rintro e w2 ⟨rfl, hx2⟩
  clear c0 c1 c2 lb
  obtain ⟨c0, c1, c2⟩ := HA.out w2 hx2
  obtain ⟨d0, d1, d2, f0, f1, f2⟩ := HB.out w2 hx2 _ (.inl rfl)
  obtain ⟨e0, e1, e2, g0, g1, g2⟩ := HB.out w2 hx2 _ (.inr rfl)
  have lb := World.block_lt_of_cell? _ _ e0
  have HX2 := Lib.hid (HX0.out.trans hx2)
  clear hx2 HS HA HB
  obtain ⟨p2, hp2⟩ : ∃ p2, p2 = w.heap.size + 1 := ⟨_, rfl⟩
  obtain ⟨w3, hw3⟩ : ∃ w3, w3 = ((w2.setCell ⟨w.heap.size + 1 + 1, 0, none⟩ (.int .i64 x)).setCell ⟨w.heap.size + 1 + 1, 1, none⟩ (.int .i64 y)).setCell ⟨w.heap.size + 1 + 1, 2, none⟩ (.string s) := ⟨_, rfl⟩
  have q0 : w3.cell? ⟨w.heap.size + 1 + 1, 0, none⟩ = some (.int .i64 x) := by
    rw [hw3, cell_set_other (by simp), cell_set_other (by simp)]; exact cell_set_same e0
  have q1 : w3.cell? ⟨w.heap.size + 1 + 1, 1, none⟩ = some (.int .i64 y) := by
    rw [hw3, cell_set_other (by simp)]; exact cell_set_same (by rw [cell_set_other (by simp)]; exact e1)
  have q2 : w3.cell? ⟨w.heap.size + 1 + 1, 2, none⟩ = some (.string s) := by
    rw [hw3]; exact cell_set_same (by rw [cell_set_other (by simp), cell_set_other (by simp)]; exact e2)
  have k0 : w3.cell? ⟨w.heap.size + 1, 0, none⟩ = some (.int .i64 0) := by
    rw [hw3, cell_set_blk (by simp), cell_set_blk (by simp), cell_set_blk (by simp)]; exact d0
  have k1 : w3.cell? ⟨w.heap.size + 1, 1, none⟩ = some (.int .i64 0) := by
    rw [hw3, cell_set_blk (by simp), cell_set_blk (by simp), cell_set_blk (by simp)]; exact d1
  have k2 : w3.cell? ⟨w.heap.size + 1, 2, none⟩ = some (.string ⟨#[]⟩) := by
    rw [hw3, cell_set_blk (by simp), cell_set_blk (by simp), cell_set_blk (by simp)]; exact d2
  have m0 : w3.frozen? ⟨w.heap.size + 1, 0, none⟩ = false := by rw [hw3, frozen_set, frozen_set, frozen_set]; exact f0
  have m1 : w3.frozen? ⟨w.heap.size + 1, 1, none⟩ = false := by rw [hw3, frozen_set, frozen_set, frozen_set]; exact f1
  have m2 : w3.frozen? ⟨w.heap.size + 1, 2, none⟩ = false := by rw [hw3, frozen_set, frozen_set, frozen_set]; exact f2
  have HX3 : Hid (w.Ext w3) := by
    show w.Ext w3
    rw [hw3]
    exact ((HX2.out.setCell (p := ⟨w.heap.size + 1 + 1, 0, none⟩) (by dsimp only; omega) _).setCell (p := ⟨w.heap.size + 1 + 1, 1, none⟩) (by dsimp only; omega) _).setCell (p := ⟨w.heap.size + 1 + 1, 2, none⟩) (by dsimp only; omega) _
  have lb3 := World.block_lt_of_cell? _ _ q0
  go_upto_region 4 with fail
  rw [← hw3]
  clear hw3 c0 c1 c2 d0 d1 d2 e0 e1 e2 f0 f1 f2 g0 g1 g2 lb hp2 HX2
  go_wp2
  refine bodyPost_ret (v := .agg #[.int .i64 x, .int .i64 y, .string s]) (by simp [results, Try.results138, go_sem, k0, k1, k2]) rfl ⟨rfl, ?_⟩
  exact ((HX3.out.setCell (p := ⟨w.heap.size + 1, 0, none⟩) (by dsimp only; omega) _).setCell (p := ⟨w.heap.size + 1, 1, none⟩) (by dsimp only; omega) _).setCell (p := ⟨w.heap.size + 1, 2, none⟩) (by dsimp only; omega) _
theorem Try.infoBordM : (Try.prog.info? 62).map (fun i => (i.zero, i.size, i.bytes)) = some (some (.agg #[.int .i64 0, .int .i64 0, .string ⟨#[]⟩]), 3, 32) := by kernel_rfl
set_option maxHeartbeats 800000 in
theorem toBorderS_ok (a : Option Addr) (c : Nat) (s : List Bord) (w : World) (hn : BdBnd s) (hr : RowBd w a s) :
    Calls Try.prog 51 #[.slice a s.length c] w fun e w' => ∃ g, e = .returned (.slice (some ⟨g, 0, none⟩) s.length s.length) ∧ w.Ext w' ∧ OwnBd w.heap.size w'.heap.size w' (some ⟨g, 0, none⟩) s := by
  obtain ⟨i0, hi, hz0, hz1, hz2⟩ := info_parts Try.infoBordM
  have HN := Lib.hid hn.1
  have HR := Lib.hid hr
  clear hn hr
  have c1 : i0.bytes * s.length ≤ 281474976710656 := by rw [hz2]; have := HN.out; omega
  have c2 : s.length ≤ maxLen := by unfold maxLen; have := HN.out; omega
  have hm : s.length ≤ 4611686018427387904 := by have := HN.out; omega
  have C1 := Lib.hid c1
  have C2 := Lib.hid c2
  clear c1 c2
  go_enter Try.func51, Try.ntmps51
  go_wp2_with (at_make; refine wpList_make_full _ rfl _ _ 56 rfl 0 62 i0 (.agg #[.int .i64 0, .int .i64 0, .string ⟨#[]⟩]) 3 Try.underlying56 hi hz0 hz1 .i64 .i64 _ _ s.length rfl rfl rfl rfl C1.out C2.out (Nat.zero_le _) (fun w1 hown hgrow => ?_))
  have HB0 : Hid (BlkOf id w1 w.heap.size 62 (flatB (cpB s 0))) := by rw [cpB_zero]; exact blkB_of_made rfl hown
  have HX0 := Lib.hid (World.Ext.made hgrow)
  clear hown hgrow
  obtain ⟨g, hg⟩ : ∃ g, g = w.heap.size := ⟨_, rfl⟩
  rw [← hg] at HB0 ⊢
  have HG := Lib.hid hg
  clear hg
  go_loopw [4] (fun i wr => ∃ k : Nat, k ≤ s.length ∧ i = .int .i64 k ∧ Hid (w.Ext wr) ∧ Hid (BlkOf id wr g 62 (flatB (cpB s k)))) (fun i _ => s.length - (intOf i).toNat)
  case atStart => exact ⟨0, Nat.zero_le _, rfl, HX0, HB0⟩
  case round =>
    clear HX0 HB0
    obtain ⟨k, hk, rfl, HX, HB⟩ := hrel
    by_cases hlt : k < s.length
    · obtain ⟨b, o, rfl, c0, c1, c2⟩ := (HR.out.ext HX.out) k hlt
      have hk0 : (0 : Int) ≤ (k : Int) := by omega
      have hlt' : (k : Int) < (s.length : Int) := by omega
      have HSET := Lib.hid (cpB_set s hlt)
      generalize s.getD k bd0 = d at c0 c1 c2 HSET
      obtain ⟨x, y, t⟩ := d
      dsimp only at c0 c1 c2
      go_wp2_with fail
      refine (toBorder_any x y t _).mono ?_
      rintro e w2 ⟨rfl, hx2⟩
      have hb1 := HB.out.ext hx2
      have hl := flatB_len (cpB s k)
      have hcl := cpB_len s hk
      obtain ⟨z0, z1, z2⟩ := flatB_get (cpB s k) (i := k) (by omega) undef
      have q0 := hb1.cell undef (i := k * 3) (by omega)
      have q1 := hb1.cell undef (i := k * 3 + 1) (by omega)
      have q2 := hb1.cell undef (i := k * 3 + 2) (by omega)
      rw [z0] at q0
      rw [z1] at q1
      rw [z2] at q2
      have f0 := hb1.free (k * 3)
      have f1 := hb1.free (k * 3 + 1)
      have f2 := hb1.free (k * 3 + 2)
      have hb2 := blkB_set hb1 k (x, y, t)
      rw [HSET.out] at hb2
      have HX3 : Hid (w.Ext (((w2.setCell ⟨g, k * 3, none⟩ (.int .i64 x)).setCell ⟨g, k * 3 + 1, none⟩ (.int .i64 y)).setCell ⟨g, k * 3 + 2, none⟩ (.string t))) :=
        (((HX.out.trans hx2).setCell (p := ⟨g, k * 3, none⟩) (by rw [HG.out]; exact Nat.le_refl _) _).setCell (p := ⟨g, k * 3 + 1, none⟩) (by rw [HG.out]; exact Nat.le_refl _) _).setCell (p := ⟨g, k * 3 + 2, none⟩) (by rw [HG.out]; exact Nat.le_refl _) _
      have HB2 : Hid (BlkOf id (((w2.setCell ⟨g, k * 3, none⟩ (.int .i64 x)).setCell ⟨g, k * 3 + 1, none⟩ (.int .i64 y)).setCell ⟨g, k * 3 + 2, none⟩ (.string t)) g 62 (flatB (cpB s (k + 1)))) := hb2
      generalize ((cpB s k).getD k bd0).1 = o0 at q0
      generalize ((cpB s k).getD k bd0).2.1 = o1 at q1
      generalize ((cpB s k).getD k bd0).2.2 = o2 at q2
      have lb := World.block_lt_of_cell? _ _ q0
      dsimp only [id] at q0 q1 q2
      clear hb1 hb2 hx2 hl hcl z0 z1 z2 HB HX HSET
      go_wp2
      go_roundw
      case rel => exact ⟨k + 1, by omega, by go_num, HX3, HB2⟩
      case measure => simp [intOf]; omega
    · have : k = s.length := by omega
      subst this
      have HB3 : Hid (BlkOf id wr g 62 (flatB s)) := by have h := HB.out; rw [cpB_all] at h; exact h
      go_wp2
      go_ret
      exact ⟨g, rfl, HX.out, blkB_own HB3.out (by rw [HG.out]; exact Nat.le_refl _) HB3.out.lt⟩
set_option maxHeartbeats 800000 in
theorem eqBorderS_ok (a b : Option Addr) (c c' : Nat) (s : List Bord) (w : World) (hn : BdBnd s) (ha : RowBd w a s) (hb : RowBd w b s) :
    Calls Try.prog 53 #[.slice a s.length c, .slice b s.length c'] w fun e w' => e = .returned (.bool true) ∧ w.Ext w' := by
  have HA := Lib.hid ha
  have HB := Lib.hid hb
  have hn := hn.1
  clear ha hb
  go_enter Try.func53, Try.ntmps53
  go_wp2
  go_loopw [5] (fun i wr => ∃ k : Nat, k ≤ s.length ∧ i = .int .i64 k ∧ Hid (w.Ext wr)) (fun i _ => s.length - (intOf i).toNat)
  case atStart => exact ⟨0, Nat.zero_le _, rfl, .refl _⟩
  case round =>
    obtain ⟨k, hk, rfl, HX⟩ := hrel
    by_cases hlt : k < s.length
    · obtain ⟨b1, o1, rfl, c1, c2, c3⟩ := (HA.out.ext HX.out) k hlt
      obtain ⟨b2, o2, rfl, d1, d2, d3⟩ := (HB.out.ext HX.out) k hlt
      generalize s.getD k bd0 = d at *
      obtain ⟨x, y, r⟩ := d
      dsimp only at c1 c2 c3 d1 d2 d3
      have hlt' : (k : Int) < (s.length : Int) := by omega
      have hk0 : (0 : Int) ≤ (k : Int) := by omega
      go_wp2_with fail
      refine wp_region_over_lit (by kernel_rfl) (by kernel_rfl) ?_; (repeat (go_big_quiet_step ((go_at_call 140; exact Calls.over_of (eqBorder_any x y r _))))); refine wpQuiet_nil ?_; rintro _ ⟨x1, rfl⟩
      go_wp2
      go_roundw
      case rel => exact ⟨k + 1, by omega, by go_num, HX.out.over _⟩
      case measure => simp [intOf]; omega
    · have : k = s.length := by omega
      subst this
      go_wp2
      go_ret
      exact ⟨rfl, HX.out⟩
set_option maxHeartbeats 800000 in
theorem markBorderS_ok (a : Option Addr) (c : Nat) (s : List Bord) (k0 lo hi : Nat) (w : World) (hn : BdBnd s) (h1 : k0 ≤ 1000) (ha : OwnBd lo hi w a s) :
    Calls Try.prog 54 #[.slice a s.length c, .int .i64 k0] w fun e w' => e = .returned (.int .i64 (k0 + 3 * s.length : Nat)) ∧ Wrote (fun b => lo ≤ b ∧ b < hi) w w' ∧ OwnBd lo hi w' a (marksB k0 s.length) := by
  have HH := Lib.hid (HalfBd.start (k0 := k0) ha)
  have hn := hn.1
  generalize s.length = n at *
  clear ha
  go_enter Try.func54, Try.ntmps54
  go_wp2
  go_loopw [1, 5] (fun l i wr => ∃ k : Nat, k ≤ n ∧ i = .int .i64 k ∧ l = .int .i64 (k0 + k * 3 : Nat) ∧ Hid (Wrote (fun b => lo ≤ b ∧ b < hi) w wr ∧ HalfBd k0 lo hi wr a n k)) (fun _ i _ => n - (intOf i).toNat)
  case atStart => exact ⟨0, Nat.zero_le _, rfl, by simp, .refl _ _, HH.out⟩
  case round =>
    clear HH
    obtain ⟨k, hk, rfl, rfl, HW⟩ := hrel
    by_cases hlt : k < n
    · obtain ⟨b, o, x, y, t, rfl, h2, h3, c0, c1, c2, -, f0, f1, f2⟩ := HW.out.2 k hlt
      have hk0 : (0 : Int) ≤ (k : Int) := by omega
      have hlt' : (k : Int) < (n : Int) := by omega
      have HN : Hid (∀ x1, Wrote (fun b => lo ≤ b ∧ b < hi) w ((((wr.setCell ⟨b, o + k * 3, none⟩ (.int .i64 ((k0 + k * 3 : Nat) : Int))).setCell ⟨b, o + k * 3 + 1, none⟩ (.int .i64 (((k0 + k * 3 : Nat) : Int) + 1))).over x1).setCell ⟨b, o + k * 3 + 2, none⟩ (.string (markT (k0 + k * 3 + 2)))) ∧
          HalfBd k0 lo hi ((((wr.setCell ⟨b, o + k * 3, none⟩ (.int .i64 ((k0 + k * 3 : Nat) : Int))).setCell ⟨b, o + k * 3 + 1, none⟩ (.int .i64 (((k0 + k * 3 : Nat) : Int) + 1))).over x1).setCell ⟨b, o + k * 3 + 2, none⟩ (.string (markT (k0 + k * 3 + 2)))) (some ⟨b, o, none⟩) n (k + 1)) := fun x1 =>
        ⟨((((HW.out.1.setCell ⟨h2, h3⟩ _).setCell ⟨h2, h3⟩ _).trans (World.Ext.wrote ⟨x1, rfl⟩ _)).setCell ⟨h2, h3⟩ _), HW.out.2.next hlt x1⟩
      have HT := Lib.hid (fun w' => markText_any (k0 + k * 3 + 2) w' (by omega))
      have e2 : (((k0 + k * 3 : Nat) : Int) + 1 + 1) = ((k0 + k * 3 + 2 : Nat) : Int) := by omega
      have HE : Hid (∀ w', Calls Try.prog 141 #[.int .i64 (((k0 + k * 3 : Nat) : Int) + 1 + 1)] w' fun e w'' => e = .returned (.string (markT (k0 + k * 3 + 2))) ∧ w'.Ext w'') := fun w' => by rw [e2]; exact HT.out w'
      have hb0 : (0 : Int) ≤ ((k0 + k * 3 : Nat) : Int) := by omega
      have hb1 : ((k0 + k * 3 : Nat) : Int) ≤ 4194304 := by omega
      have HQ2 : Hid (∀ z : Nat, z = k0 + k * 3 → ((z : Int) + 1 + 1 + 1 = ((k0 + (k + 1) * 3 : Nat) : Int))) := fun z hz => by omega
      have f2x : ∀ x1 : World, (((wr.setCell ⟨b, o + k * 3, none⟩ (.int .i64 ((k0 + k * 3 : Nat) : Int))).setCell ⟨b, o + k * 3 + 1, none⟩ (.int .i64 (((k0 + k * 3 : Nat) : Int) + 1))).over x1).frozen? ⟨b, o + k * 3 + 2, none⟩ = false := fun x1 => by
        have d2 : ((wr.setCell ⟨b, o + k * 3, none⟩ (.int .i64 ((k0 + k * 3 : Nat) : Int))).setCell ⟨b, o + k * 3 + 1, none⟩ (.int .i64 (((k0 + k * 3 : Nat) : Int) + 1))).cell? ⟨b, o + k * 3 + 2, none⟩ = some (.string t) := by
          rw [cell_set_other (by omega), cell_set_other (by omega)]; exact c2
        rw [World.Ext.frozen ⟨x1, rfl⟩ d2, frozen_set, frozen_set]
        exact f2
      clear e2 HT HW
      generalize markT (k0 + k * 3 + 2) = mt at *
      have HQ3 := Lib.hid (HQ2.out _ rfl)
      clear HQ2
      generalize k0 + k * 3 = q at *
      go_wp2_with (go_at_call 141; refine (HE.out _).mono ?_; rintro e w' ⟨rfl, x1, rfl⟩)
      go_roundw
      case rel => exact ⟨k + 1, by omega, by go_num, congrArg (Value.int .i64) HQ3.out, HN.out _⟩
      case measure => simp [intOf]; omega
    · have : k = n := by omega
      subst this
      go_wp2
      go_ret
      exact ⟨ret_int (by omega), HW.out.1, HW.out.2.done⟩
end Go.Proofs.Ythgkmaccbcpaeaa
namespace Go.Proofs.Ythgkmaccbcpaeaa
open Go.ChangeShapes Go.WideShapes Go.RowKit Go.Deep Go.Joins
section
variable {H : Type} {enc : TypeId × Value → H} {P : Program} {w : World} {base : Nat} {spare : Nat → Bool} {held : Bool}
theorem bd0_len : bd0.2.2.size ≤ maxLen ∧ wrap64 bd0.1 = bd0.1 ∧ wrap64 bd0.2.1 = bd0.2.1 := ⟨Nat.zero_le _, by show wrap64 0 = 0; unfold wrap64; omega, by show wrap64 0 = 0; unfold wrap64; omega⟩
theorem bdLen_nil : BdLen [] := ⟨by simp, fun r => bd0_len⟩
theorem wrap_of_wf {z : Int} (h : (Lit.int .i64 z).wf = true) : wrap64 z = z := by
  simp only [Lit.wf, IntKind.min, IntKind.max, IntKind.signed, IntKind.bits, Bool.and_eq_true, decide_eq_true_eq, if_true] at h
  unfold wrap64
  omega
theorem open_bords {t e sp q s : TypeId} {f0 f1 g0 g1 : Field} {fuel : Nat} {v0 : Value} {x : DataW H × List MemPlace} (ht : P.underlying t = some (.slice e)) (he : P.underlying e = some (.struct #[f0, f1])) (t0 : f0.type = sp) (t1 : f1.type = s)
    (hsp : P.underlying sp = some (.struct #[g0, g1])) (u0 : g0.type = q) (u1 : g1.type = q) (hq : P.underlying q = some (.int .i64)) (hs : P.underlying s = some .string)
    (ce : P.cellsOf e = 3) (o0 : f0.offset = 0) (o1 : f1.offset = 2) (csp : P.cellsOf sp = 2) (p0 : g0.offset = 0) (p1 : g1.offset = 1) (cq : P.cellsOf q = 1) (cs : P.cellsOf s = 1)
    (h : DataW.trod enc P w base (fun _ => true) held fuel t [v0] = some x) :
    ∃ (a : Option Addr) (c : Nat) (bs : List Bord), v0 = .slice a bs.length c ∧ RowBd w a bs ∧ BdLen bs := by
  rcases open_slice ht h with ⟨h0, _⟩ | ⟨a, len, cap, m, n, D, Pl, h0, hb, hl, hm, hmm, _, hx⟩
  · exact ⟨none, 0, [], by simpa using h0, fun r hr => by simp at hr, bdLen_nil⟩
  simp only [if_true] at hmm
  subst hmm
  have hv0 : v0 = .slice (some a) len m := by simpa using h0
  have each : ∀ i, i < m → ∃ y : Bord, w.cell? (a.add (i * 3)) = some (.int .i64 y.1) ∧ w.cell? (a.add (i * 3 + 1)) = some (.int .i64 y.2.1) ∧ w.cell? (a.add (i * 3 + 2)) = some (.string y.2.2) ∧ y.2.2.size ≤ maxLen ∧ wrap64 y.1 = y.1 ∧ wrap64 y.2.1 = y.2.1 := by
    intro i hi
    obtain ⟨cs', h1, h2⟩ := hx i hi
    rw [ce] at h1
    obtain ⟨_, hlen, hcell⟩ := World.cells?_some h1
    obtain ⟨xs, k, hk, hxy, _, hxl, hf⟩ := DataW.trod_struct he h2
    match xs, hxl, cs', hlen with
    | [y0, y1], _, [v0, v1, v2], _ =>
      have g0' := hf 0 f0 rfl
      have g1' := hf 1 f1 rfl
      simp [o0, o1, t0, t1, csp, cs] at g0' g1'
      obtain ⟨xs2, k2, hk2, hxy2, _, hxl2, hf2⟩ := DataW.trod_struct hsp g0'
      match xs2, hxl2 with
      | [z0, z1], _ =>
        have j0 := hf2 0 g0 rfl
        have j1 := hf2 1 g1 rfl
        simp [p0, p1, u0, u1, cq] at j0 j1
        obtain ⟨a0, e0, _, wa0⟩ := DataW.trod_int hq j0
        obtain ⟨a1, e1, _, wa1⟩ := DataW.trod_int hq j1
        obtain ⟨a2, e2, _, wa2⟩ := DataW.trod_string hs g1'
        simp at e0 e1 e2
        subst e0 e1 e2
        have c0 := hcell 0 (by omega)
        have c1 := hcell 1 (by omega)
        have c2 := hcell 2 (by omega)
        rw [add_add] at c0 c1 c2
        exact ⟨(a0, a1, a2), by simpa using c0, by simpa using c1, by simpa using c2, wa2, wrap_of_wf wa0, wrap_of_wf wa1⟩
  obtain ⟨y, hy⟩ := choose_lt each
  have hg : ∀ r, r < len → ((List.range len).map y).getD r bd0 = y r := fun r hr => by simp [List.getD_eq_getElem?_getD, hr]
  refine ⟨some a, m, (List.range len).map y, by simpa using hv0, fun r hr => ?_, by simp; omega, fun r => ?_⟩
  · have hr' : r < len := by simpa using hr
    obtain ⟨q0, q1, q2, _⟩ := hy r (by omega)
    obtain ⟨b, o, rfl⟩ := spot_none (hy 0 (by omega)).1
    rw [add_at] at q0 q1 q2
    rw [hg r hr']
    exact ⟨b, o, rfl, q0, by rw [Nat.add_assoc]; exact q1, by rw [Nat.add_assoc]; exact q2⟩
  · by_cases hr : r < len
    · rw [hg r hr]; exact (hy r (by omega)).2.2.2
    · rw [List.getD_eq_getElem?_getD, List.getElem?_eq_none (by simp; omega)]
      exact bd0_len
end
end Go.Proofs.Ythgkmaccbcpaeaa
