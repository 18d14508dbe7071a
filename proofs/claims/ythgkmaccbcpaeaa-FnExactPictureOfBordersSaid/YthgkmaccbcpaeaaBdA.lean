/- Borders: the reference's steps, and how it follows a border. -/
import Derived.Test.YthgkmaccbcpaeaaBrdP
import Derived.Test.YthgkmaccbcpaeaaGenA
import Derived.Test.YthgkmaccbcpaeaaRchS
import Derived.Test.YthgkmaccbcpaeaaLMat
import Derived.Test.YthgkmaccbcpaeaaKit
namespace Go.Proofs.Ythgkmaccbcpaeaa
open Go Go.RowKit
def letN (k : Nat) : Nat := if k = 0 then 114 else if k = 1 then 100 else if k = 2 then 108 else 117
/-- The direction of a letter, -1 of none. -/
def wayI (c : Nat) : Int := if c = 114 then 0 else if c = 100 then 1 else if c = 108 then 2 else if c = 117 then 3 else -1
theorem wayI_let {k : Nat} (h : k < 4) : wayI (letN k) = k := by
  match k, h with
  | 0, _ => rfl
  | 1, _ => rfl
  | 2, _ => rfl
  | 3, _ => rfl
theorem inBx_pxl (W H : Nat) (l : List Bool) : InBx (pxl W H l) W H := fun x y h => by
  have hb : hasB W H x y = true := by
    cases hd : hasB W H x y
    · rw [pxl_out hd] at h; cases h
    · rfl
  have := hasB_true.1 hb
  omega
theorem Try.infoBord : (Try.prog.info? 62).map (fun i => (i.zero, i.size, i.bytes)) = some (some (.agg #[.int .i64 0, .int .i64 0, .string ⟨#[]⟩]), 3, 32) := by kernel_rfl
theorem Try.infoU8B : (Try.prog.info? 5).map (fun i => (i.zero, i.size, i.bytes)) = some (some (.int .u8 0), 1, 1) := by kernel_rfl
theorem let_eq (c : Nat) {k : Nat} (h : k < 4) : ∃ hs : k < (⟨#[114, 100, 108, 117]⟩ : ByteArray).size, ((c : Int) == ((((⟨#[114, 100, 108, 117]⟩ : ByteArray)[k]'hs).toNat : Nat) : Int)) = decide (c = letN k) := by
  refine ⟨h, ?_⟩
  have hl : (((⟨#[114, 100, 108, 117]⟩ : ByteArray)[k]'h).toNat : Nat) = letN k := by
    match k, h with
    | 0, _ => rfl
    | 1, _ => rfl
    | 2, _ => rfl
    | 3, _ => rfl
  rw [hl, Bool.eq_iff_iff, beq_iff_eq, decide_eq_true_eq]
  omega
set_option maxRecDepth 5000 in
set_option maxHeartbeats 800000 in
theorem l04Way_any (c : Nat) (w : World) :
    Calls Try.prog 132 #[.int .u8 c] w fun e w' => e = .returned (.int .i64 (wayI c)) ∧ w.Ext w' := by
  have HWN : Hid ((∀ j, j < 4 → c ≠ letN j) → wayI c = -1) := fun h => by
    unfold wayI
    have h0 : c ≠ 114 := h 0 (by omega)
    have h1 : c ≠ 100 := h 1 (by omega)
    have h2 : c ≠ 108 := h 2 (by omega)
    have h3 : c ≠ 117 := h 3 (by omega)
    rw [if_neg h0, if_neg h1, if_neg h2, if_neg h3]
  have HWY : Hid (∀ k, k < 4 → c = letN k → wayI c = k) := fun k hk h => by rw [h]; exact wayI_let hk
  generalize wayI c = t at *
  go_enter Try.func132, Try.ntmps132
  go_wp2
  go_loopw [3] (fun i wr => ∃ k : Nat, k ≤ 4 ∧ i = .int .i64 k ∧ Hid (∀ j, j < k → c ≠ letN j) ∧ w.Ext wr) (fun i _ => 4 - (intOf i).toNat)
  case atStart => exact ⟨0, Nat.zero_le _, rfl, fun j hj => by omega, .refl _⟩
  case round =>
    obtain ⟨k, hk, rfl, HK, hx⟩ := hrel
    have hk0 : (0 : Int) ≤ (k : Int) := by omega
    by_cases hlt : k < 4
    · have hlt' : (k : Int) < 4 := by omega
      have HN : Hid (c ≠ letN k → ∀ j, j < k + 1 → c ≠ letN j) := fun h j hj => by
        by_cases e : j = k
        · rw [e]; exact h
        · exact HK.out j (by omega)
      have HT := Lib.hid (HWY.out k hlt)
      clear HK HWN
      obtain ⟨hs, hbq⟩ := let_eq c hlt
      by_cases e : c = letN k
      · have HT2 := Lib.hid (HT.out e)
        rw [decide_eq_true e] at hbq
        clear HT HN e
        go_wp2
        go_ret
        exact ⟨ret_int HT2.out.symm, hx⟩
      · have HN2 := Lib.hid (HN.out e)
        rw [decide_eq_false e] at hbq
        clear HT HN e
        go_wp2
        go_roundw
        case rel => exact ⟨k + 1, by omega, by go_num, HN2, hx⟩
        case measure => simp [intOf]; omega
    · have : k = 4 := by omega
      subst this
      have HT2 := Lib.hid (HWN.out HK.out)
      clear HWN HK
      go_wp2
      go_ret
      exact ⟨ret_int HT2.out.symm, hx⟩
set_option maxHeartbeats 400000 in
theorem l04X_any (k : Nat) (w : World) (hk : k < 4) : Calls Try.prog 133 #[.int .i64 k] w fun e w' => e = .returned (.int .i64 (dX k)) ∧ w.Ext w' := by
  have h4 : k = 0 ∨ k = 1 ∨ k = 2 ∨ k = 3 := by omega
  rcases h4 with rfl | rfl | rfl | rfl
  all_goals
    go_enter Try.func133, Try.ntmps133
    go_wp2
    go_ret
    exact ⟨rfl, .refl _⟩
set_option maxHeartbeats 400000 in
theorem l04Y_any (k : Nat) (w : World) (hk : k < 4) : Calls Try.prog 134 #[.int .i64 k] w fun e w' => e = .returned (.int .i64 (dY k)) ∧ w.Ext w' := by
  have h4 : k = 0 ∨ k = 1 ∨ k = 2 ∨ k = 3 := by omega
  rcases h4 with rfl | rfl | rfl | rfl
  all_goals
    go_enter Try.func134, Try.ntmps134
    go_wp2
    go_ret
    exact ⟨rfl, .refl _⟩
set_option maxRecDepth 5000 in
set_option maxHeartbeats 1600000 in
theorem l04Can_any (p : Nat) (a : Option Addr) (c : Nat) (ss : List ByteArray) (x y : Int) (k : Nat) (w : World) (he : Even ss) (hn : ss.length ≤ 1048576) (hw : picW ss ≤ 1048576) (hp : w.cell? ⟨p, 0, none⟩ = some (.slice a ss.length c)) (hm : RowS w a ss)
    (hx : -1000 ≤ x ∧ x ≤ 1000) (hy : -1000 ≤ y ∧ y ≤ 1000) (hk : k < 4) (t : Bool) (ht : canB (pxl (picW ss) ss.length (picL ss)) x y k = t) :
    Calls Try.prog 200 #[.pointer (some ⟨p, 0, none⟩), .agg #[.int .i64 x, .int .i64 y], .int .i64 k] w fun e w' => e = .returned (.bool t) ∧ w.Ext w' := by
  obtain ⟨W0, hW0⟩ : ∃ W0, W0 = w.alloc (.cells #[.int .i64 x, .int .i64 y] 45) := ⟨_, rfl⟩
  have hx0 : w.Ext W0 := by rw [hW0]; repeat (first | exact World.Ext.refl _ | exact ⟨_, rfl⟩ | assumption | refine World.Ext.over ?_ _ | refine World.Ext.drewN ?_ _ | refine World.Ext.drew ?_ | refine World.Ext.alloc ?_ _ | refine World.Ext.setCell ?_ (by simp) _)
  have c0 : W0.cell? ⟨w.heap.size, 0, none⟩ = some (.int .i64 x) := by rw [hW0]; simp [go_sem]
  have c1 : W0.cell? ⟨w.heap.size, 1, none⟩ = some (.int .i64 y) := by rw [hW0]; simp [go_sem]
  have l0 := World.block_lt_of_cell? _ _ c0
  have HBL : Hid (∀ w', W0.Ext w' → ∀ (i j : Int) t, pxl (picW ss) ss.length (picL ss) i j = t → Calls Try.prog 177 #[.pointer (some ⟨p, 0, none⟩), .int .i64 i, .int .i64 j] w' fun e w'' => e = .returned (.bool t) ∧ w'.Ext w'') := fun w' hx i j t ht =>
    l01Black_any p a c ss _ _ w' he hn hw ((hx0.trans hx).cell hp) (hm.ext (hx0.trans hx)) _ ht
  have HX0 := Lib.hid hx0
  obtain ⟨hxa, hxb⟩ := hx
  obtain ⟨hya, hyb⟩ := hy
  have HT := Lib.hid ht
  clear ht hp hm he hn hw hx0
  generalize pxl (picW ss) ss.length (picL ss) = f at *
  have h4 : k = 0 ∨ k = 1 ∨ k = 2 ∨ k = 3 := by omega
  rcases h4 with rfl | rfl | rfl | rfl
  · have HT2 : Hid ((f x y && !f x (y - 1)) = t) := HT.out
    clear HT hk
    cases h1 : f x y
    · have HTF : Hid (t = false) := by show _ = _; rw [← HT2.out, h1]; rfl
      have HC := Lib.hid (HBL.out W0 (.refl _) _ _ _ h1)
      clear HBL HT2 h1
      go_enter Try.func200, Try.ntmps200
      go_wp2_with fail
      rw [← hW0]
      clear hW0
      refine HC.out.mono ?_
      rintro e w1 ⟨rfl, hx1⟩
      have HX1 := Lib.hid (HX0.out.trans hx1)
      clear hx1 c0 c1 l0
      go_wp2
      go_ret
      exact ⟨ret_bool HTF.out.symm, HX1.out⟩
    · cases h2 : f x (y - 1)
      all_goals
        have HTF := HT2
        rw [h1, h2] at HTF
        have HTF : Hid (t = _) := HTF.out.symm
        have HC := Lib.hid (HBL.out W0 (.refl _) _ _ _ h1)
        have HC2 := Lib.hid (fun w' hx => HBL.out w' hx _ _ _ h2)
        clear HBL HT2 h1 h2
        go_enter Try.func200, Try.ntmps200
        go_wp2_with fail
        rw [← hW0]
        clear hW0
        refine HC.out.mono ?_
        rintro e w1 ⟨rfl, hx1⟩
        have HX1 := Lib.hid hx1
        clear hx1 c0 c1 l0
        go_wp2_with fail
        refine (HC2.out w1 HX1.out).mono ?_
        rintro e w2 ⟨rfl, hx2⟩
        have HX2 := Lib.hid (HX0.out.trans (HX1.out.trans hx2))
        clear hx2
        go_wp2
        go_ret
        exact ⟨ret_bool HTF.out.symm, HX2.out⟩
  · have HT2 : Hid ((f (x - 1) y && !f x y) = t) := HT.out
    clear HT hk
    cases h1 : f (x - 1) y
    · have HTF : Hid (t = false) := by show _ = _; rw [← HT2.out, h1]; rfl
      have HC := Lib.hid (HBL.out W0 (.refl _) _ _ _ h1)
      clear HBL HT2 h1
      go_enter Try.func200, Try.ntmps200
      go_wp2_with fail
      rw [← hW0]
      clear hW0
      refine HC.out.mono ?_
      rintro e w1 ⟨rfl, hx1⟩
      have HX1 := Lib.hid (HX0.out.trans hx1)
      clear hx1 c0 c1 l0
      go_wp2
      go_ret
      exact ⟨ret_bool HTF.out.symm, HX1.out⟩
    · cases h2 : f x y
      all_goals
        have HTF := HT2
        rw [h1, h2] at HTF
        have HTF : Hid (t = _) := HTF.out.symm
        have HC := Lib.hid (HBL.out W0 (.refl _) _ _ _ h1)
        have HC2 := Lib.hid (fun w' hx => HBL.out w' hx _ _ _ h2)
        clear HBL HT2 h1 h2
        go_enter Try.func200, Try.ntmps200
        go_wp2_with fail
        rw [← hW0]
        clear hW0
        refine HC.out.mono ?_
        rintro e w1 ⟨rfl, hx1⟩
        have HX1 := Lib.hid hx1
        clear hx1 c0 c1 l0
        go_wp2_with fail
        refine (HC2.out w1 HX1.out).mono ?_
        rintro e w2 ⟨rfl, hx2⟩
        have HX2 := Lib.hid (HX0.out.trans (HX1.out.trans hx2))
        clear hx2
        go_wp2
        go_ret
        exact ⟨ret_bool HTF.out.symm, HX2.out⟩
  · have HT2 : Hid ((f (x - 1) (y - 1) && !f (x - 1) y) = t) := HT.out
    clear HT hk
    cases h1 : f (x - 1) (y - 1)
    · have HTF : Hid (t = false) := by show _ = _; rw [← HT2.out, h1]; rfl
      have HC := Lib.hid (HBL.out W0 (.refl _) _ _ _ h1)
      clear HBL HT2 h1
      go_enter Try.func200, Try.ntmps200
      go_wp2_with fail
      rw [← hW0]
      clear hW0
      refine HC.out.mono ?_
      rintro e w1 ⟨rfl, hx1⟩
      have HX1 := Lib.hid (HX0.out.trans hx1)
      clear hx1 c0 c1 l0
      go_wp2
      go_ret
      exact ⟨ret_bool HTF.out.symm, HX1.out⟩
    · cases h2 : f (x - 1) y
      all_goals
        have HTF := HT2
        rw [h1, h2] at HTF
        have HTF : Hid (t = _) := HTF.out.symm
        have HC := Lib.hid (HBL.out W0 (.refl _) _ _ _ h1)
        have HC2 := Lib.hid (fun w' hx => HBL.out w' hx _ _ _ h2)
        clear HBL HT2 h1 h2
        go_enter Try.func200, Try.ntmps200
        go_wp2_with fail
        rw [← hW0]
        clear hW0
        refine HC.out.mono ?_
        rintro e w1 ⟨rfl, hx1⟩
        have HX1 := Lib.hid hx1
        clear hx1 c0 c1 l0
        go_wp2_with fail
        refine (HC2.out w1 HX1.out).mono ?_
        rintro e w2 ⟨rfl, hx2⟩
        have HX2 := Lib.hid (HX0.out.trans (HX1.out.trans hx2))
        clear hx2
        go_wp2
        go_ret
        exact ⟨ret_bool HTF.out.symm, HX2.out⟩
  · have HT2 : Hid ((f x (y - 1) && !f (x - 1) (y - 1)) = t) := HT.out
    clear HT hk
    cases h1 : f x (y - 1)
    · have HTF : Hid (t = false) := by show _ = _; rw [← HT2.out, h1]; rfl
      have HC := Lib.hid (HBL.out W0 (.refl _) _ _ _ h1)
      clear HBL HT2 h1
      go_enter Try.func200, Try.ntmps200
      go_wp2_with fail
      rw [← hW0]
      clear hW0
      refine HC.out.mono ?_
      rintro e w1 ⟨rfl, hx1⟩
      have HX1 := Lib.hid (HX0.out.trans hx1)
      clear hx1 c0 c1 l0
      go_wp2
      go_ret
      exact ⟨ret_bool HTF.out.symm, HX1.out⟩
    · cases h2 : f (x - 1) (y - 1)
      all_goals
        have HTF := HT2
        rw [h1, h2] at HTF
        have HTF : Hid (t = _) := HTF.out.symm
        have HC := Lib.hid (HBL.out W0 (.refl _) _ _ _ h1)
        have HC2 := Lib.hid (fun w' hx => HBL.out w' hx _ _ _ h2)
        clear HBL HT2 h1 h2
        go_enter Try.func200, Try.ntmps200
        go_wp2_with fail
        rw [← hW0]
        clear hW0
        refine HC.out.mono ?_
        rintro e w1 ⟨rfl, hx1⟩
        have HX1 := Lib.hid hx1
        clear hx1 c0 c1 l0
        go_wp2_with fail
        refine (HC2.out w1 HX1.out).mono ?_
        rintro e w2 ⟨rfl, hx2⟩
        have HX2 := Lib.hid (HX0.out.trans (HX1.out.trans hx2))
        clear hx2
        go_wp2
        go_ret
        exact ⟨ret_bool HTF.out.symm, HX2.out⟩
end Go.Proofs.Ythgkmaccbcpaeaa

/- Borders: how the reference follows one. -/
namespace Go.Proofs.Ythgkmaccbcpaeaa
open Go Go.RowKit
def lenV : Value → Nat | .slice _ n _ => n | _ => 0
theorem tri_put {w : World} {p : Nat} {e : TypeId} {u v x : Value} (h : Tri w p e u v x) (a b c : Value) : Tri (((w.setCell ⟨p, 0, none⟩ a).setCell ⟨p, 1, none⟩ b).setCell ⟨p, 2, none⟩ c) p e a b c := by
  unfold Tri at *
  simp [World.setCell, Array.getElem?_modify, h]
theorem Res.store3 {w W1 : World} {p : Nat} {T : TypeId} {u v x : Value} (a b c : Value) (hX : w.Ext W1) (hp : w.heap.size ≤ p) (h : Tri W1 p T u v x) :
    W1.cell? ⟨p, 0, none⟩ = some u ∧ W1.frozen? ⟨p, 0, none⟩ = false ∧ W1.cell? ⟨p, 1, none⟩ = some v ∧ W1.frozen? ⟨p, 1, none⟩ = false ∧ W1.cell? ⟨p, 2, none⟩ = some x ∧ W1.frozen? ⟨p, 2, none⟩ = false ∧
    (((W1.setCell ⟨p, 0, none⟩ a).setCell ⟨p, 1, none⟩ b).setCell ⟨p, 2, none⟩ c).cell? ⟨p, 0, none⟩ = some a ∧ (((W1.setCell ⟨p, 0, none⟩ a).setCell ⟨p, 1, none⟩ b).setCell ⟨p, 2, none⟩ c).cell? ⟨p, 1, none⟩ = some b ∧ (((W1.setCell ⟨p, 0, none⟩ a).setCell ⟨p, 1, none⟩ b).setCell ⟨p, 2, none⟩ c).cell? ⟨p, 2, none⟩ = some c ∧
    Hid (w.Ext (((W1.setCell ⟨p, 0, none⟩ a).setCell ⟨p, 1, none⟩ b).setCell ⟨p, 2, none⟩ c)) :=
  ⟨h.cell0, h.free 0, h.cell1, h.free 1, h.cell2, h.free 2, (tri_put h a b c).cell0, (tri_put h a b c).cell1, (tri_put h a b c).cell2, ((hX.setCell (p := ⟨p, 0, none⟩) hp a).setCell (p := ⟨p, 1, none⟩) hp b).setCell (p := ⟨p, 2, none⟩) hp c⟩
/-- The letters of the first n steps. -/
def wordL (f : Int → Int → Bool) (e : Edg) (n : Nat) : List Int := (List.range n).map fun i => ((letN (itr f i e).k : Nat) : Int)
theorem wordL_len (f : Int → Int → Bool) (e : Edg) (n : Nat) : (wordL f e n).length = n := by simp [wordL]
theorem wordL_succ (f : Int → Int → Bool) (e : Edg) (n : Nat) : wordL f e (n + 1) = wordL f e n ++ [((letN (itr f n e).k : Nat) : Int)] := by simp [wordL, List.range_succ]
def wrd (f : Int → Int → Bool) (e : Edg) : ByteArray := strOfNums (wordL f e (per f e))
theorem let_at {k : Nat} (h : k < 4) : ∃ hs : k < (⟨#[114, 100, 108, 117]⟩ : ByteArray).size, (((⟨#[114, 100, 108, 117]⟩ : ByteArray)[k]'hs).toNat : Nat) = letN k := by
  refine ⟨h, ?_⟩
  match k, h with
  | 0, _ => rfl
  | 1, _ => rfl
  | 2, _ => rfl
  | 3, _ => rfl
theorem two_put0 {w : World} {p : Nat} {e : TypeId} {u v : Value} (h : Two w p e u v) (a : Value) : Two (w.setCell ⟨p, 0, none⟩ a) p e a v := by
  unfold Two at *
  simp [World.setCell, Array.getElem?_modify, h]
theorem two_put1 {w : World} {p : Nat} {e : TypeId} {u v : Value} (h : Two w p e u v) (a : Value) : Two (w.setCell ⟨p, 1, none⟩ a) p e u a := by
  unfold Two at *
  simp [World.setCell, Array.getElem?_modify, h]
/-- A border under way: where it began, what is returned, where it is, its letters. -/
structure FoSt (w : World) (p3 p4 p6 : Nat) (x0 y0 ax ay : Int) (v : Value) (bs : List Int) (wr : World) : Prop where
  x : w.Ext wr
  s : Two wr p3 45 (.int .i64 x0) (.int .i64 y0)
  r : Tri wr p4 62 (.int .i64 0) (.int .i64 0) (.string ⟨#[]⟩)
  a : Two wr p6 45 (.int .i64 ax) (.int .i64 ay)
  g : GrowOf (Value.int .u8) w.heap.size 5 wr v bs
section
variable {w wr w' : World} {p3 p4 p6 : Nat} {x0 y0 ax ay : Int} {v v' : Value} {bs : List Int}
theorem FoSt.ext (h : FoSt w p3 p4 p6 x0 y0 ax ay v bs wr) (hx : wr.Ext w') : FoSt w p3 p4 p6 x0 y0 ax ay v bs w' := ⟨h.x.trans hx, h.s.keep (hx.block h.s.lt), h.r.ext hx, h.a.keep (hx.block h.a.lt), h.g.ext hx⟩
theorem FoSt.push {z : Int} (h : FoSt w p3 p4 p6 x0 y0 ax ay v bs wr) (hg : wr.grownBy w' v.ownBlock) (ho : w'.ownsRow w.heap.size 5 1 v' (bs.length + 1) (bs.map (Value.int .u8) ++ [.int .u8 z])) : FoSt w p3 p4 p6 x0 y0 ax ay v' (bs ++ [z]) w' := by
  have hs : wr.heap[p3]? = _ := h.s
  have hr : wr.heap[p4]? = _ := h.r
  have ha : wr.heap[p6]? = _ := h.a
  exact ⟨h.x.grown hg fun k hk => (World.ownsRow.lt h.g k hk).1, h.s.keep (hg.block p3 h.s.lt (World.ownsRow.ne h.g hs (by decide))), h.r.keep (hg.block p4 h.r.lt (World.ownsRow.ne h.g hr (by decide))), h.a.keep (hg.block p6 h.a.lt (World.ownsRow.ne h.g ha (by decide))), GrowOf.push ho⟩
theorem FoSt.put (h : FoSt w p3 p4 p6 x0 y0 ax ay v bs wr) (h3 : p6 ≠ p3) (h4 : p6 ≠ p4) (hl : w.heap.size ≤ p6) (bx by' : Int) : FoSt w p3 p4 p6 x0 y0 bx ay v bs (wr.setCell ⟨p6, 0, none⟩ (.int .i64 bx)) ∧ FoSt w p3 p4 p6 x0 y0 ax by' v bs (wr.setCell ⟨p6, 1, none⟩ (.int .i64 by')) := by
  have ha : wr.heap[p6]? = _ := h.a
  have hne : some p6 ≠ v.ownBlock := World.ownsRow.ne h.g ha (by decide)
  exact ⟨⟨h.x.setCell (p := ⟨p6, 0, none⟩) hl _, h.s.keep (Below.heap_setCell _ _ _ _ (Ne.symm h3)), h.r.keep (Below.heap_setCell _ _ _ _ (Ne.symm h4)), two_put0 h.a _, h.g.setCell (a := ⟨p6, 0, none⟩) hne _⟩,
    ⟨h.x.setCell (p := ⟨p6, 1, none⟩) hl _, h.s.keep (Below.heap_setCell _ _ _ _ (Ne.symm h3)), h.r.keep (Below.heap_setCell _ _ _ _ (Ne.symm h4)), two_put1 h.a _, h.g.setCell (a := ⟨p6, 1, none⟩) hne _⟩⟩
end
@[go_sem] theorem Try.eqSpotF (a b c d : Int) (w : World) : (Op.equalIn 10000 45 (.agg #[.int .i64 a, .int .i64 b]) (.agg #[.int .i64 c, .int .i64 d])).run Try.prog w = .ok (a == c && b == d) w := by
  have u3 := Try.underlying2
  have hS : Try.prog.underlying 45 = some (.struct (Try.prog.fieldsOf 45)) := by kernel_rfl
  have hp : Try.prog.stoodInHeld 45 = false := by kernel_rfl
  rw [show (10000 : Nat) = 9999 + 1 from rfl, run_equalIn_agg w 9999 45 _ _ hS hp]
  simp only [Program.fieldsOf, Try.underlying45]
  go_simp
  by_cases h1 : a = c <;> by_cases h2 : b = d <;> simp [h1, h2]
theorem itr_step {f : Int → Int → Bool} (e : Edg) (i : Nat) : (itr f (i + 1) e).x = (itr f i e).x + dX (itr f i e).k ∧ (itr f (i + 1) e).y = (itr f i e).y + dY (itr f i e).k ∧
    (itr f (i + 1) e).k = if canB f ((itr f i e).x + dX (itr f i e).k) ((itr f i e).y + dY (itr f i e).k) (((itr f i e).k + 1) % 4) then ((itr f i e).k + 1) % 4 else if canB f ((itr f i e).x + dX (itr f i e).k) ((itr f i e).y + dY (itr f i e).k) (itr f i e).k then (itr f i e).k else ((itr f i e).k + 3) % 4 := ⟨rfl, rfl, rfl⟩
theorem Edg.eq_of {e e' : Edg} (h1 : e.x = e'.x) (h2 : e.y = e'.y) (h3 : e.k = e'.k) : e = e' := by
  cases e; cases e'; simp_all
set_option maxRecDepth 5000 in
set_option maxHeartbeats 6400000 in
theorem l04Follow_any (p : Nat) (a : Option Addr) (c : Nat) (ss : List ByteArray) (x0 y0 : Int) (w : World) (he : Even ss) (hW : picW ss ≤ 16) (hH : ss.length ≤ 16) (hp : w.cell? ⟨p, 0, none⟩ = some (.slice a ss.length c)) (hm : RowS w a ss)
    (hok : EOk (pxl (picW ss) ss.length (picL ss)) ⟨x0, y0, 0⟩) :
    Calls Try.prog 201 #[.pointer (some ⟨p, 0, none⟩), .agg #[.int .i64 x0, .int .i64 y0]] w fun e w' => e = .returned (.agg #[.int .i64 x0, .int .i64 y0, .string (wrd (pxl (picW ss) ss.length (picL ss)) ⟨x0, y0, 0⟩)]) ∧ w.Ext w' := by
  obtain ⟨iu, hiu, hu0, hu1, hu2⟩ := info_parts Try.infoU8B
  have hbx := inBx_pxl (picW ss) ss.length (picL ss)
  obtain ⟨W0, hW0⟩ : ∃ W0, W0 = (((w.alloc (.cells #[.int .i64 x0, .int .i64 y0] 45)).alloc (.cells #[.int .i64 0, .int .i64 0, .string ⟨#[]⟩] 62)).alloc (.cells #[] 5)).alloc (.cells #[.int .i64 x0, .int .i64 y0] 45) := ⟨_, rfl⟩
  obtain ⟨e, hee⟩ : ∃ e : Edg, e = ⟨x0, y0, 0⟩ := ⟨_, rfl⟩
  rw [← hee] at hok ⊢
  have HST : Hid (FoSt w w.heap.size (w.heap.size + 1) (w.heap.size + 1 + 1 + 1) x0 y0 (itr (pxl (picW ss) ss.length (picL ss)) 0 e).x (itr (pxl (picW ss) ss.length (picL ss)) 0 e).y (.slice (some ⟨w.heap.size + 1 + 1, 0, none⟩) 0 0) (wordL (pxl (picW ss) ss.length (picL ss)) e 0) W0) := by
    show FoSt w w.heap.size (w.heap.size + 1) (w.heap.size + 1 + 1 + 1) x0 y0 e.x e.y _ [] W0
    rw [hee]
    refine ⟨by rw [hW0]; repeat (first | exact World.Ext.refl _ | exact ⟨_, rfl⟩ | assumption | refine World.Ext.over ?_ _ | refine World.Ext.drewN ?_ _ | refine World.Ext.drew ?_ | refine World.Ext.alloc ?_ _ | refine World.Ext.setCell ?_ (by simp) _), ?_, ?_, ?_, ?_⟩
    · rw [hW0]; exact (Two.new w _ _ _ _ rfl).ext (by repeat (first | exact World.Ext.refl _ | exact ⟨_, rfl⟩ | assumption | refine World.Ext.over ?_ _ | refine World.Ext.drewN ?_ _ | refine World.Ext.drew ?_ | refine World.Ext.alloc ?_ _ | refine World.Ext.setCell ?_ (by simp) _))
    · rw [hW0]
      exact (Tri.new (w.alloc (.cells #[.int .i64 x0, .int .i64 y0] 45)) (.int .i64 0) (.int .i64 0) (.string ⟨#[]⟩) 62 (w.heap.size + 1) (by simp)).ext (by repeat (first | exact World.Ext.refl _ | exact ⟨_, rfl⟩ | assumption | refine World.Ext.over ?_ _ | refine World.Ext.drewN ?_ _ | refine World.Ext.drew ?_ | refine World.Ext.alloc ?_ _ | refine World.Ext.setCell ?_ (by simp) _))
    · rw [hW0]; exact Two.new _ _ _ _ _ (by simp)
    · rw [hW0]
      have h := (GrowOf.empty (f := Value.int .u8) (lo := w.heap.size) (e := 5) ((w.alloc (.cells #[.int .i64 x0, .int .i64 y0] 45)).alloc (.cells #[.int .i64 0, .int .i64 0, .string ⟨#[]⟩] 62)) (by simp; omega)).ext ((World.Ext.refl _).alloc (.cells #[.int .i64 x0, .int .i64 y0] 45))
      simpa using h
  have HCAN : Hid (∀ w', w.Ext w' → ∀ (x y : Int) (k : Nat) (z : Int), -1000 ≤ x ∧ x ≤ 1000 → -1000 ≤ y ∧ y ≤ 1000 → k < 4 → z = k → ∀ t, canB (pxl (picW ss) ss.length (picL ss)) x y k = t → Calls Try.prog 200 #[.pointer (some ⟨p, 0, none⟩), .agg #[.int .i64 x, .int .i64 y], .int .i64 z] w' fun e w'' => e = .returned (.bool t) ∧ w'.Ext w'') := fun w' hx x y k z h1 h2 h3 h4 t ht => by
    subst h4
    exact l04Can_any p a c ss x y k w' he (by omega) (by omega) (hx.cell hp) (hm.ext hx) h1 h2 h3 t ht
  obtain ⟨hper, hpn⟩ := per_of hbx hW hH hok
  have HBX : Hid (∀ i, 0 ≤ (itr (pxl (picW ss) ss.length (picL ss)) i e).x ∧ (itr (pxl (picW ss) ss.length (picL ss)) i e).x ≤ 16 ∧ 0 ≤ (itr (pxl (picW ss) ss.length (picL ss)) i e).y ∧ (itr (pxl (picW ss) ss.length (picL ss)) i e).y ≤ 16) := fun i => by
    have h := hbx.edge (itr_ok hok i)
    omega
  have HK4 : Hid (∀ i, (itr (pxl (picW ss) ss.length (picL ss)) i e).k < 4) := fun i => (itr_ok hok i).1
  unfold wrd
  generalize hn : per (pxl (picW ss) ss.length (picL ss)) e = n at *
  have HPER := Lib.hid hper
  have HSTEP := Lib.hid (fun i => itr_step (f := pxl (picW ss) ss.length (picL ss)) e i)
  have HWS := Lib.hid (fun i => wordL_succ (pxl (picW ss) ss.length (picL ss)) e i)
  have HWL := Lib.hid (fun i => wordL_len (pxl (picW ss) ss.length (picL ss)) e i)
  have HP0 : Hid ((itr (pxl (picW ss) ss.length (picL ss)) 0 e).k = 0) := by show e.k = 0; rw [hee]
  have HEE : Hid (e.x = x0 ∧ e.y = y0 ∧ e.k = 0) := by rw [hee]; exact ⟨rfl, rfl, rfl⟩
  have HPN : Hid (0 < n ∧ (itr (pxl (picW ss) ss.length (picL ss)) n e) = e ∧ ∀ i, 0 < i → i < n → itr (pxl (picW ss) ss.length (picL ss)) i e ≠ e) := hper
  clear he hp hm hok hbx hn hper HPER hee
  have HRS : Hid (strOfNums (wordL (pxl (picW ss) ss.length (picL ss)) e n) = strOfNums (wordL (pxl (picW ss) ss.length (picL ss)) e n)) := rfl
  generalize hres : strOfNums (wordL (pxl (picW ss) ss.length (picL ss)) e n) = res at *
  have HRES := Lib.hid hres
  clear hres HRS
  generalize pxl (picW ss) ss.length (picL ss) = f at *
  generalize hX : (fun i => (itr f i e).x) = X at *
  generalize hY : (fun i => (itr f i e).y) = Y at *
  generalize hKK : (fun i => (itr f i e).k) = K at *
  have eX : ∀ i, (itr f i e).x = X i := fun i => congrFun hX i
  have eY : ∀ i, (itr f i e).y = Y i := fun i => congrFun hY i
  have eK : ∀ i, (itr f i e).k = K i := fun i => congrFun hKK i
  have HPN2 : Hid (0 < n ∧ X n = x0 ∧ Y n = y0 ∧ K n = 0 ∧ ∀ i, 0 < i → i < n → ¬ (X i = x0 ∧ Y i = y0 ∧ K i = 0)) := by
    obtain ⟨h1, h2, h3⟩ := HPN.out
    obtain ⟨q1, q2, q3⟩ := HEE.out
    refine ⟨h1, by rw [← eX, h2, q1], by rw [← eY, h2, q2], by rw [← eK, h2, q3], fun i hi hin hh => h3 i hi hin (Edg.eq_of ?_ ?_ ?_)⟩
    · rw [eX, hh.1, q1]
    · rw [eY, hh.2.1, q2]
    · rw [eK, hh.2.2, q3]
  simp only [eX, eY, eK] at HST HBX HK4 HSTEP HWS HP0
  generalize hWL : (fun i => wordL f e i) = WL at *
  have eW : ∀ i, wordL f e i = WL i := fun i => congrFun hWL i
  simp only [eW] at HST HWS HWL HRES
  clear hX hY hKK eX eY eK hWL eW HPN HEE
  go_enter Try.func201, Try.ntmps201
  go_upto_region 3 with fail
  rw [← hW0]
  clear hW0
  go_wp2
  have HLE0 := Lib.hid (HST.out.x.size)
  generalize hq : w.heap.size = q at *
  have HQ := Lib.hid hq
  clear hq
  go_loopw [5, 7] (fun v z wr => ∃ i : Nat, i ≤ n ∧ (∃ av cv, v = .slice av i cv) ∧ z = .int .i64 (K i : Nat) ∧ Hid (FoSt w q (q + 1) (q + 1 + 1 + 1) x0 y0 (X i) (Y i) v (WL i) wr)) (fun v _ _ => n - lenV v)
  case atStart => exact ⟨0, Nat.zero_le _, ⟨_, _, rfl⟩, by rw [HP0.out]; rfl, HST⟩
  case round =>
    obtain ⟨i, hi, ⟨av, cv, rfl⟩, rfl, HS⟩ := hrel
    clear HST
    obtain ⟨wo, rfl⟩ : ∃ wo : World, wo = wr := ⟨_, rfl⟩
    have hi0 : (0 : Int) ≤ (i : Int) := by omega
    have hk4 := HK4.out i
    obtain ⟨bx1, bx2, bx3, bx4⟩ := HBX.out i
    obtain ⟨bn1, bn2, bn3, bn4⟩ := HBX.out (i + 1)
    have hle := HS.out.x.size
    have c30 := HS.out.s.cell0
    have c31 := HS.out.s.cell1
    have c60 := HS.out.a.cell0
    have c61 := HS.out.a.cell1
    have l3 := HS.out.s.lt
    have l6 := HS.out.a.lt
    by_cases hin : i < n
    · obtain ⟨hX1, hY1, hK1⟩ := HSTEP.out i
      have HW1 := Lib.hid (HWS.out i)
      obtain ⟨hs, hlet⟩ := let_at hk4
      have hwl : (WL i).length = i := HWL.out i
      have HNL := HPN2.out.2.2.2.2 i
      have HNL := Lib.hid HNL
      have hnn : n ≤ 1200 := hpn
      have HB1 : Hid (i + 1 ≤ maxLen) := by show _ ≤ _; unfold maxLen; omega
      have HB2 : Hid ((i + 1) * 1 ≤ 140737488355328) := by show _ ≤ _; omega
      have HNEXT : Hid (∀ (o : Obj) (v' : Value) (w1 : World), (wo.alloc o).grownBy w1 (Value.slice av i cv).ownBlock → w1.ownsRow q 5 1 v' (i + 1) ((WL i).map (Value.int .u8) ++ [.int .u8 ((letN (K i) : Nat) : Int)]) → Hid (FoSt w q (q + 1) (q + 1 + 1 + 1) x0 y0 (X i) (Y i) v' (WL (i + 1)) w1) ∧ ∃ a' c', v' = .slice a' (i + 1) c') := fun o v' w1 hg ho => by
        have h := (HS.out.ext (by repeat (first | exact World.Ext.refl _ | exact ⟨_, rfl⟩ | assumption | refine World.Ext.over ?_ _ | refine World.Ext.drewN ?_ _ | refine World.Ext.drew ?_ | refine World.Ext.alloc ?_ _ | refine World.Ext.setCell ?_ (by simp) _))).push (z := ((letN (K i) : Nat) : Int)) hg (by rw [hwl, HQ.out]; exact ho)
        rw [← HW1.out] at h
        obtain ⟨a', c', e', -⟩ := h.g.form
        rw [HWL.out] at e'
        exact ⟨h, a', c', e'⟩
      have HLE : ∀ o' : Obj, q ≤ (wo.alloc o').heap.size := fun o' => by rw [← HQ.out]; exact (HS.out.x.alloc o').size
      have HOWN : Hid (wo.ownsRow q 5 1 (.slice av i cv) i ((WL i).map (Value.int .u8))) := by have h := HS.out.g; unfold GrowOf at h; rw [hwl, HQ.out] at h; exact h
      have hown := HOWN.out
      have hdx : -1 ≤ dX (K i) ∧ dX (K i) ≤ 1 := by unfold dX; split <;> (try split) <;> omega
      have hdy : -1 ≤ dY (K i) ∧ dY (K i) ≤ 1 := by unfold dY; split <;> (try split) <;> omega
      have HCX := Lib.hid (fun w' => l04X_any (K i) w' hk4)
      have HCY := Lib.hid (fun w' => l04Y_any (K i) w' hk4)
      have HK1 := Lib.hid hK1
      have HX1 := Lib.hid hX1
      have HY1 := Lib.hid hY1
      clear hX1 hY1 hK1 hwl HSTEP HWS
      have hcases : ((i : Int) == 0) = true ∨ ((i : Int) == 0) = false ∧ ((X i == x0) = false ∨ (X i == x0) = true ∧ ((Y i == y0) = false ∨ (Y i == y0) = true ∧ ((K i : Int) != 0) = true)) := by
        cases e0 : ((i : Int) == 0)
        · right
          refine ⟨rfl, ?_⟩
          cases e1 : (X i == x0)
          · exact .inl rfl
          · right
            refine ⟨rfl, ?_⟩
            cases e2 : (Y i == y0)
            · exact .inl rfl
            · right
              refine ⟨rfl, ?_⟩
              rw [bne_iff_ne]
              intro e3
              have e0' : (i : Int) ≠ 0 := beq_eq_false_iff_ne.1 e0
              exact HNL.out (by omega) hin ⟨eq_of_beq e1, eq_of_beq e2, by omega⟩
        · exact .inl rfl
      have hk4' : ((K i : Nat) : Int) < 4 := by omega
      have hk0' : (0 : Int) ≤ ((K i : Nat) : Int) := by omega
      clear HNL
      rcases hcases with e0 | ⟨e0, e1 | ⟨e1, e2 | ⟨e2, e3⟩⟩⟩
      all_goals
        go_wp2_with (at_builtin; refine wpList_append_own _ rfl _ _ 22 rfl q 5 iu (.int .u8 0) 1 1 Try.underlying22 hiu hu0 hu1 hu2 rfl (by decide) _ _ _ rfl (hown.alloc _) ⟨wo.heap.size, 0, none⟩ 1 1 [.int .u8 ((letN (K i) : Nat) : Int)] rfl rfl (cell_one_at (by simp)) (by simp [Value.oneCell']) HB1.out HB2.out (HLE _) (fun v' w1 hown' hgrow _ => ?_); obtain ⟨HS1, a', c', rfl⟩ := HNEXT.out _ _ _ hgrow hown'; clear hgrow hown' hown)
        clear c30 c31 c60 c61 l3 l6 hs hlet HOWN HNEXT HB1 HB2
        have d0 := HS1.out.a.cell0
        have ld := HS1.out.a.lt
        refine wp_region_over_tail 6 (by kernel_rfl) (by kernel_rfl) ?_; simp only [List.take_succ_cons, List.take_zero, List.drop_succ_cons, List.drop_zero]; (repeat (go_big_quiet_step ((go_at_call 133; exact Calls.over_of (HCX.out _))))); refine wpQuiet_nil ?_; rintro _ ⟨x1, rfl⟩
        have HS2 := Lib.hid (HS1.out.ext ⟨x1, rfl⟩)
        clear HS1 d0 ld HS
        generalize w1.over x1 = w2 at *
        have d0 := HS2.out.a.cell0
        have f0 := HS2.out.a.free 0
        have ld := HS2.out.a.lt
        obtain ⟨w3, hw3⟩ : ∃ w3, w3 = w2.setCell ⟨q + 1 + 1 + 1, 0, none⟩ (.int .i64 (X i + dX (K i))) := ⟨_, rfl⟩
        have HS3 : Hid (FoSt w q (q + 1) (q + 1 + 1 + 1) x0 y0 (X i + dX (K i)) (Y i) (.slice a' (i + 1) c') (WL (i + 1)) w3) := by rw [hw3]; exact (HS2.out.put (by omega) (by omega) (by rw [HQ.out]; omega) _ 0).1
        go_upto_region 7 with fail
        rw [← hw3]
        clear hw3 d0 f0 ld HS2
        have d1 := HS3.out.a.cell1
        have ld := HS3.out.a.lt
        refine wp_region_over_tail 6 (by kernel_rfl) (by kernel_rfl) ?_; simp only [List.take_succ_cons, List.take_zero, List.drop_succ_cons, List.drop_zero]; (repeat (go_big_quiet_step ((go_at_call 134; exact Calls.over_of (HCY.out _))))); refine wpQuiet_nil ?_; rintro _ ⟨x1, rfl⟩
        have HS4 := Lib.hid (HS3.out.ext ⟨x1, rfl⟩)
        clear HS3 d1 ld
        generalize w3.over x1 = w4 at *
        have d1 := HS4.out.a.cell1
        have f1 := HS4.out.a.free 1
        have ld := HS4.out.a.lt
        obtain ⟨w5, hw5⟩ : ∃ w5, w5 = w4.setCell ⟨q + 1 + 1 + 1, 1, none⟩ (.int .i64 (Y i + dY (K i))) := ⟨_, rfl⟩
        have HS5 : Hid (FoSt w q (q + 1) (q + 1 + 1 + 1) x0 y0 (X i + dX (K i)) (Y i + dY (K i)) (.slice a' (i + 1) c') (WL (i + 1)) w5) := by rw [hw5]; exact (HS4.out.put (by omega) (by omega) (by rw [HQ.out]; omega) 0 _).2
        go_upto_region 8 with fail
        rw [← hw5]
        clear hw5 d1 f1 ld HS4
        rw [← HX1.out, ← HY1.out] at HS5
        have hk1 : (K i + 1) % 4 < 4 := Nat.mod_lt _ (by omega)
        have hk3 : (K i + 3) % 4 < 4 := Nat.mod_lt _ (by omega)
        have t1 : (((K i : Nat) : Int) + 1) % 4 = (((K i + 1) % 4 : Nat) : Int) := by omega
        have t3 : (((K i : Nat) : Int) + 3) % 4 = (((K i + 3) % 4 : Nat) : Int) := by omega
        have T1 := Lib.hid t1
        have T3 := Lib.hid t3
        have HK := HK1.out
        rw [← HX1.out, ← HY1.out] at HK
        have c60 := HS5.out.a.cell0
        have c61 := HS5.out.a.cell1
        have l6 := HS5.out.a.lt
        cases hc1 : canB f (X (i + 1)) (Y (i + 1)) ((K i + 1) % 4)
        · cases hc2 : canB f (X (i + 1)) (Y (i + 1)) (K i)
          all_goals
            have HC1 := Lib.hid (HCAN.out w5 HS5.out.x (X (i + 1)) (Y (i + 1)) ((K i + 1) % 4) ((((K i : Nat) : Int) + 1) % 4) (by omega) (by omega) hk1 t1 _ hc1)
            have HC2 := Lib.hid (fun w' (hx : w5.Ext w') => HCAN.out w' (HS5.out.x.trans hx) (X (i + 1)) (Y (i + 1)) (K i) ((K i : Nat) : Int) (by omega) (by omega) hk4 rfl _ hc2)
            rw [hc1, hc2] at HK
            simp only [Bool.false_eq_true, if_false, if_true] at HK
            have HKN := Lib.hid HK
            clear HK hc1 hc2 t1 t3 HK1
            go_wp2_with fail
            refine HC1.out.mono ?_
            rintro e w6 ⟨rfl, hx6⟩
            have HX6 := Lib.hid hx6
            have HS6 := Lib.hid (HS5.out.ext hx6)
            clear hx6 c60 c61 l6 HS5
            have c60 := HS6.out.a.cell0
            have c61 := HS6.out.a.cell1
            have l6 := HS6.out.a.lt
            go_wp2_with fail
            refine (HC2.out w6 HX6.out).mono ?_
            rintro e w7 ⟨rfl, hx7⟩
            have HS7 := Lib.hid (HS6.out.ext hx7)
            clear hx7 c60 c61 l6 HS6
            go_wp2
            go_roundw
            case rel => exact ⟨i + 1, by omega, ⟨_, _, rfl⟩, by first | (rw [HKN.out, ← T3.out]; done) | (rw [HKN.out]; done), HS7⟩
            case measure => simp [lenV]; omega
        · have HC1 := Lib.hid (HCAN.out w5 HS5.out.x (X (i + 1)) (Y (i + 1)) ((K i + 1) % 4) ((((K i : Nat) : Int) + 1) % 4) (by omega) (by omega) hk1 t1 _ hc1)
          rw [hc1, if_pos rfl] at HK
          have HKN := Lib.hid HK
          clear HK hc1 t1 t3 HK1
          go_wp2_with fail
          refine HC1.out.mono ?_
          rintro e w6 ⟨rfl, hx6⟩
          have HS6 := Lib.hid (HS5.out.ext hx6)
          clear hx6 c60 c61 l6 HS5
          go_wp2
          go_roundw
          case rel => exact ⟨i + 1, by omega, ⟨_, _, rfl⟩, by rw [HKN.out, ← T1.out], HS6⟩
          case measure => simp [lenV]; omega
    · have hin' : i = n := by omega
      obtain ⟨p1, p2, p3, p4, -⟩ := HPN2.out
      have e0 : ((i : Int) == 0) = false := by rw [beq_eq_false_iff_ne]; omega
      have e1 : (X i == x0) = true := by rw [beq_iff_eq, hin']; exact p2
      have e2 : (Y i == y0) = true := by rw [beq_iff_eq, hin']; exact p3
      have e3 : ((K i : Int) != 0) = false := by rw [hin', p4]; rfl
      have hwl : (WL i).length = i := HWL.out i
      obtain ⟨g, cap, hsl, hg1, hg2, hcell⟩ := HS.out.g.some (by omega)
      rw [hwl] at hsl
      cases hsl
      have hcv := run_convert_bytes_arg (P := Try.prog) wo 22 5 Try.underlying22 Try.underlying5 g 0 i cv (WL i) hwl (by intro j hj; rw [Nat.zero_add]; exact hcell 0 j (by omega)) 9 Try.underlying9
      have hres2 : strOfNums (WL i) = res := by rw [hin']; exact HRES.out
      rw [hres2] at hcv
      obtain ⟨s0, s1, s2, s3, s4, s5, s6, s7, s8, HR⟩ := Res.store3 (.int .i64 x0) (.int .i64 y0) (.string res) HS.out.x (by rw [HQ.out]; omega) HS.out.r
      clear HS hres2 hcell hwl hin' p1 p2 p3 p4
      go_wp2
      exact bodyPost_ret (v := .agg #[.int .i64 x0, .int .i64 y0, .string res]) (by simp [results, Try.results201, go_sem, s6, s7, s8]) rfl ⟨rfl, HR.out⟩
end Go.Proofs.Ythgkmaccbcpaeaa

/- Borders: the corners that a border goes to the right from. -/
namespace Go.Proofs.Ythgkmaccbcpaeaa
open Go Go.RowKit
theorem letN_le (k : Nat) : letN k ≤ 255 := by unfold letN; split <;> (try split) <;> (try split) <;> omega
theorem wrd_size (f : Int → Int → Bool) (e : Edg) : (wrd f e).size = per f e := by unfold wrd; rw [strOfNums_size, wordL_len]
theorem str_at {L : List Int} {i n : Nat} (h : i < L.length) (hz : L[i]'h = ((n : Nat) : Int)) (hn : n ≤ 255) : ∃ hs : i < (strOfNums L).size, (((strOfNums L)[i]'hs).toNat : Nat) = n := by
  refine ⟨by rw [strOfNums_size]; exact h, ?_⟩
  have e1 : (strOfNums L)[i]'(by rw [strOfNums_size]; exact h) = UInt8.ofNat (L[i]'h).toNat := by
    show (L.map fun n => UInt8.ofNat n.toNat).toArray[i]'(by simpa using h) = _
    simp
  rw [e1, hz]
  simp
  omega
set_option maxRecDepth 20000 in
theorem wrd_at {f : Int → Int → Bool} {e : Edg} {i : Nat} (h : i < per f e) : ∃ hs : i < (wrd f e).size, (((wrd f e)[i]'hs).toNat : Nat) = letN (itr f i e).k := by
  unfold wrd
  generalize per f e = n at *
  exact str_at (L := wordL f e n) (by rw [wordL_len]; exact h) (by unfold wordL; simp) (letN_le _)
/-- The corners from which one of the first i steps goes to the right. -/
def onTo (f : Int → Int → Bool) (e : Edg) (i : Nat) (x y : Nat) : Bool := (List.range i).any fun j => decide (itr f j e = ⟨(x : Int), (y : Int), 0⟩)
theorem onTo_succ (f : Int → Int → Bool) (e : Edg) (i x y : Nat) : onTo f e (i + 1) x y = (onTo f e i x y || decide (itr f i e = ⟨(x : Int), (y : Int), 0⟩)) := by
  unfold onTo
  rw [List.range_succ, List.any_append]; simp
theorem onTo_all (f : Int → Int → Bool) (e : Edg) (x y : Nat) : onTo f e (per f e) x y = inOrb f e ⟨(x : Int), (y : Int), 0⟩ := rfl
/-- What has been marked: block g, by a function. -/
def MdSt (w : World) (g : Nat) (m : Nat → Nat → Bool) (wr : World) : Prop := Wrote (fun k => k = g) w wr ∧ BlkOf Value.bool wr g 4 (mkl 17 17 m)
section
variable {w wr w' : World} {g : Nat} {m m' : Nat → Nat → Bool}
theorem MdSt.ext (h : MdSt w g m wr) (hx : wr.Ext w') : MdSt w g m w' := ⟨h.1.trans (hx.wrote _), h.2.ext hx⟩
theorem MdSt.congr (h : MdSt w g m wr) (e : ∀ x y, x < 17 → y < 17 → m x y = m' x y) : MdSt w g m' wr := ⟨h.1, by rw [← mkl_congr e]; exact h.2⟩
theorem MdSt.cell (h : MdSt w g m wr) {x y : Nat} (hx : x < 17) (hy : y < 17) : wr.cell? ⟨g, y * 17 + x, none⟩ = some (.bool (m x y)) ∧ wr.frozen? ⟨g, y * 17 + x, none⟩ = false := by
  refine ⟨?_, h.2.free _⟩
  rw [h.2.cell false (by rw [mkl_len]; omega), mkl_at _ _ _ _ _ hx hy]
theorem MdSt.set (h : MdSt w g m wr) {x y : Nat} (hx : x < 17) (hy : y < 17) (h1 : m' x y = true) (h2 : ∀ i j, i < 17 → j < 17 → (i ≠ x ∨ j ≠ y) → m' i j = m i j) : MdSt w g m' (wr.setCell ⟨g, y * 17 + x, none⟩ (.bool true)) :=
  ⟨h.1.setCell (p := ⟨g, y * 17 + x, none⟩) rfl _, by rw [← mkl_set hx hy true h1 h2]; exact h.2.set _ _⟩
end
theorem MdSt.box {w wr : World} {g : Nat} {m : Nat → Nat → Bool} (h : MdSt w g m wr) {a : Addr} (ha : w.heap.size ≤ a.block) (v : Value) (hg : a.block ≠ g) : MdSt w g m (wr.setCell a v) := by
  refine ⟨⟨h.1.os, h.1.tape, h.1.output, by have := h.1.size; simpa [World.setCell] using this, fun k hk hs => ?_⟩, h.2.setCell_other hg v⟩
  rw [Below.heap_setCell _ _ _ _ (by omega)]
  exact h.1.block k hk hs
set_option maxRecDepth 5000 in
set_option maxHeartbeats 6400000 in
theorem l04Above_any (pb g cap : Nat) (f : Int → Int → Bool) (e : Edg) (m : Nat → Nat → Bool) (w : World) (hbx : InBx f 16 16) (hok : EOk f e)
    (c0 : w.cell? ⟨pb, 0, none⟩ = some (.int .i64 e.x)) (c1 : w.cell? ⟨pb, 1, none⟩ = some (.int .i64 e.y)) (c2 : w.cell? ⟨pb, 2, none⟩ = some (.string (wrd f e))) (hg : BlkOf Value.bool w g 4 (mkl 17 17 m)) (hne : pb ≠ g) :
    Calls Try.prog 202 #[.pointer (some ⟨pb, 0, none⟩), .slice (some ⟨g, 0, none⟩) 289 cap] w fun e' w' => e' = .returned (.tuple #[]) ∧ MdSt w g (fun x y => m x y || inOrb f e ⟨(x : Int), (y : Int), 0⟩) w' := by
  have hper := per_of hbx (Nat.le_refl _) (Nat.le_refl _) hok
  have HBX : Hid (∀ i, 0 ≤ (itr f i e).x ∧ (itr f i e).x ≤ 16 ∧ 0 ≤ (itr f i e).y ∧ (itr f i e).y ≤ 16) := fun i => hbx.edge (itr_ok hok i)
  have HK4 : Hid (∀ i, (itr f i e).k < 4) := fun i => (itr_ok hok i).1
  have HSTEP := Lib.hid (fun i => itr_step (f := f) e i)
  have HLET : Hid (∀ i, i < per f e → ∃ hs : i < (wrd f e).size, (((wrd f e)[i]'hs).toNat : Nat) = letN (itr f i e).k) := fun i hi => wrd_at hi
  have HSZ : Hid ((wrd f e).size = per f e) := wrd_size f e
  have HON0 : Hid (∀ x y, (m x y || onTo f e 0 x y) = m x y) := fun x y => by simp [onTo]
  have HON : Hid (∀ i x y, (m x y || onTo f e (i + 1) x y) = ((m x y || onTo f e i x y) || decide ((itr f i e).x = x ∧ (itr f i e).y = y ∧ (itr f i e).k = 0))) := fun i x y => by
    rw [onTo_succ, Bool.or_assoc]
    congr 2
    rw [decide_eq_decide]
    constructor
    · intro h; rw [h]; exact ⟨rfl, rfl, rfl⟩
    · intro h; exact Edg.eq_of h.1 h.2.1 h.2.2
  have HONA : Hid (∀ x y, (m x y || onTo f e (per f e) x y) = (m x y || inOrb f e ⟨(x : Int), (y : Int), 0⟩)) := fun x y => rfl
  have hn : per f e ≤ 1200 := hper.2
  obtain ⟨M9, hM9⟩ : ∃ M9 : Nat → Nat → Bool, M9 = fun (x y : Nat) => (m x y || inOrb f e ⟨(x : Int), (y : Int), 0⟩) := ⟨_, rfl⟩
  rw [← hM9]
  have HM9 : Hid (∀ x y, (m x y || onTo f e (per f e) x y) = M9 x y) := fun x y => by rw [hM9]; exact HONA.out x y
  have HX0 : Hid ((itr f 0 e).x = e.x ∧ (itr f 0 e).y = e.y) := ⟨rfl, rfl⟩
  clear hper HONA hM9 hbx hok
  generalize per f e = n at *
  generalize wrd f e = word at *
  generalize hX : (fun i => (itr f i e).x) = X at *
  generalize hY : (fun i => (itr f i e).y) = Y at *
  generalize hKK : (fun i => (itr f i e).k) = K at *
  generalize hMM : (fun i x y => (m x y || onTo f e i x y)) = MM at *
  have eX : ∀ i, (itr f i e).x = X i := fun i => congrFun hX i
  have eY : ∀ i, (itr f i e).y = Y i := fun i => congrFun hY i
  have eK : ∀ i, (itr f i e).k = K i := fun i => congrFun hKK i
  have eM : ∀ i x y, (m x y || onTo f e i x y) = MM i x y := fun i x y => congrFun (congrFun (congrFun hMM i) x) y
  simp only [eX, eY, eK, eM] at HBX HK4 HSTEP HLET HON0 HON HM9 HX0
  clear hX hY hKK hMM eX eY eK eM
  generalize e.x = ex at *
  generalize e.y = ey at *
  obtain ⟨W0, hW0⟩ : ∃ W0, W0 = w.alloc (.cells #[.int .i64 ex, .int .i64 ey] 45) := ⟨_, rfl⟩
  have hx0 : w.Ext W0 := by rw [hW0]; repeat (first | exact World.Ext.refl _ | exact ⟨_, rfl⟩ | assumption | refine World.Ext.over ?_ _ | refine World.Ext.drewN ?_ _ | refine World.Ext.drew ?_ | refine World.Ext.alloc ?_ _ | refine World.Ext.setCell ?_ (by simp) _)
  have hlg := hg.lt
  have HST : Hid (MdSt w g (MM 0) W0 ∧ Two W0 w.heap.size 45 (.int .i64 (X 0)) (.int .i64 (Y 0))) := by
    refine ⟨⟨hx0.wrote _, ?_⟩, ?_⟩
    · rw [show MM 0 = m from by funext x y; exact HON0.out x y]
      exact hg.ext hx0
    · rw [HX0.out.1, HX0.out.2, hW0]
      exact Two.new _ _ _ _ _ rfl
  have HCB : Hid (∀ wr, Wrote (fun k => k = g) w wr → wr.cell? ⟨pb, 1 + 1, none⟩ = some (.string word)) := fun wr hx => hx.cell c2 hne
  have HWAY := Lib.hid (fun i w' (hi : i < n) => by have h := l04Way_any (letN (K i)) w'; rw [wayI_let (HK4.out i)] at h; exact h)
  have lb := World.block_lt_of_cell? _ _ c0
  go_enter Try.func202, Try.ntmps202
  go_upto_region 1 with fail
  rw [← hW0]
  clear hW0 c0 c1 c2 lb
  generalize hq : w.heap.size = q at *
  have HQ := Lib.hid hq
  clear hq
  go_wp2
  go_loopw [5, 6] (fun z _ wr => ∃ i : Nat, i ≤ n ∧ z = .int .i64 i ∧ Hid (MdSt w g (MM i) wr ∧ Two wr q 45 (.int .i64 (X i)) (.int .i64 (Y i)))) (fun z _ _ => n - (intOf z).toNat)
  case atStart => exact ⟨0, Nat.zero_le _, rfl, HST⟩
  case round =>
    obtain ⟨i, hi, rfl, HS⟩ := hrel
    clear HST
    obtain ⟨wo, rfl⟩ : ∃ wo : World, wo = wr := ⟨_, rfl⟩
    have hi0 : (0 : Int) ≤ (i : Int) := by omega
    have c2 := HCB.out wo HS.out.1.1
    have lb := World.block_lt_of_cell? _ _ c2
    have hsz : word.size = n := HSZ.out
    have c2 : wo.cell? ⟨pb, 2, none⟩ = some (.string word) := c2
    by_cases hin : i < n
    · obtain ⟨hs, hlet⟩ := HLET.out i hin
      have hin' : (i : Int) < (word.size : Int) := by omega
      have hin2 : (i : Int) < (n : Int) := by omega
      have hk4 := HK4.out i
      obtain ⟨bx1, bx2, bx3, bx4⟩ := HBX.out i
      obtain ⟨bn1, bn2, bn3, bn4⟩ := HBX.out (i + 1)
      obtain ⟨hX1, hY1, -⟩ := HSTEP.out i
      have HX1 := Lib.hid hX1
      have HY1 := Lib.hid hY1
      have HONi := Lib.hid (HON.out i)
      have HCX := Lib.hid (fun w' => l04X_any (K i) w' hk4)
      have HCY := Lib.hid (fun w' => l04Y_any (K i) w' hk4)
      have hdx : -1 ≤ dX (K i) ∧ dX (K i) ≤ 1 := by unfold dX; split <;> (try split) <;> omega
      have hdy : -1 ≤ dY (K i) ∧ dY (K i) ≤ 1 := by unfold dY; split <;> (try split) <;> omega
      have hqg : g < q := hlg
      clear hX1 hY1
      go_wp2_with fail
      refine (HWAY.out i wo hin).mono ?_
      rintro e1 w1 ⟨rfl, hx1⟩
      have HS1 : Hid (MdSt w g (MM i) w1 ∧ Two w1 q 45 (.int .i64 (X i)) (.int .i64 (Y i))) := ⟨HS.out.1.ext hx1, HS.out.2.ext hx1⟩
      clear hx1 HS c2 lb hs hlet hsz
      have key : ∀ w3 : World, (MdSt w g (MM (i + 1)) w3 ∧ Two w3 q 45 (.int .i64 (X i)) (.int .i64 (Y i))) → True := fun _ _ => trivial
      clear key
      by_cases hk0 : K i = 0
      · obtain ⟨x, hx⟩ : ∃ x : Nat, X i = (x : Int) := ⟨(X i).toNat, by omega⟩
        obtain ⟨y, hy⟩ : ∃ y : Nat, Y i = (y : Int) := ⟨(Y i).toNat, by omega⟩
        have f0 : (((K i : Nat) : Int) == 0) = true := by rw [hk0]; rfl
        have hx17 : x < 17 := by omega
        have hy17 : y < 17 := by omega
        obtain ⟨t1, t2⟩ := HS1.out.1.cell hx17 hy17
        have lg := World.block_lt_of_cell? _ _ t1
        have d0 := HS1.out.2.cell0
        have d1 := HS1.out.2.cell1
        rw [hx] at d0
        rw [hy] at d1
        have ld := World.block_lt_of_cell? _ _ d0
        obtain ⟨w3, hw3⟩ : ∃ w3, w3 = w1.setCell ⟨g, y * 17 + x, none⟩ (.bool true) := ⟨_, rfl⟩
        have HS3 : Hid (MdSt w g (MM (i + 1)) w3 ∧ Two w3 q 45 (.int .i64 (X i)) (.int .i64 (Y i))) := by
          rw [hw3]
          refine ⟨HS1.out.1.set hx17 hy17 ?_ ?_, HS1.out.2.keep (Below.heap_setCell _ _ _ _ (by dsimp only; omega))⟩
          · rw [HONi.out, hx, hy, hk0]; simp
          · intro a b _ _ hab
            rw [HONi.out, decide_eq_false, Bool.or_false]
            rintro ⟨h1, h2, -⟩
            rw [hx] at h1
            rw [hy] at h2
            omega
        clear hk0 hx hy HS1
        go_upto_region 7 with fail
        rw [← hw3]
        clear hw3 t1 t2 lg d0 d1 ld f0
        have d0 := HS3.out.2.cell0
        have ld := HS3.out.2.lt
        refine wp_region_over_tail 6 (by kernel_rfl) (by kernel_rfl) ?_; simp only [List.take_succ_cons, List.take_zero, List.drop_succ_cons, List.drop_zero]; (repeat (go_big_quiet_step ((go_at_call 133; exact Calls.over_of (HCX.out _))))); refine wpQuiet_nil ?_; rintro _ ⟨x1, rfl⟩
        have HS4 : Hid (MdSt w g (MM (i + 1)) (w3.over x1) ∧ Two (w3.over x1) q 45 (.int .i64 (X i)) (.int .i64 (Y i))) := ⟨HS3.out.1.ext ⟨x1, rfl⟩, HS3.out.2.ext ⟨x1, rfl⟩⟩
        clear HS3 d0 ld
        generalize w3.over x1 = w4 at *
        have d0 := HS4.out.2.cell0
        have f0 := HS4.out.2.free 0
        have ld := HS4.out.2.lt
        obtain ⟨w5, hw5⟩ : ∃ w5, w5 = w4.setCell ⟨q, 0, none⟩ (.int .i64 (X i + dX (K i))) := ⟨_, rfl⟩
        have HS5 : Hid (MdSt w g (MM (i + 1)) w5 ∧ Two w5 q 45 (.int .i64 (X i + dX (K i))) (.int .i64 (Y i))) := by rw [hw5]; exact ⟨HS4.out.1.box (by dsimp only; rw [← HQ.out]; omega) _ (by dsimp only; omega), two_put0 HS4.out.2 _⟩
        go_upto_region 8 with fail
        rw [← hw5]
        clear hw5 d0 f0 ld HS4
        have d1 := HS5.out.2.cell1
        have ld := HS5.out.2.lt
        refine wp_region_over_tail 6 (by kernel_rfl) (by kernel_rfl) ?_; simp only [List.take_succ_cons, List.take_zero, List.drop_succ_cons, List.drop_zero]; (repeat (go_big_quiet_step ((go_at_call 134; exact Calls.over_of (HCY.out _))))); refine wpQuiet_nil ?_; rintro _ ⟨x1, rfl⟩
        have HS6 : Hid (MdSt w g (MM (i + 1)) (w5.over x1) ∧ Two (w5.over x1) q 45 (.int .i64 (X i + dX (K i))) (.int .i64 (Y i))) := ⟨HS5.out.1.ext ⟨x1, rfl⟩, HS5.out.2.ext ⟨x1, rfl⟩⟩
        clear HS5 d1 ld
        generalize w5.over x1 = w6 at *
        have d1 := HS6.out.2.cell1
        have f1 := HS6.out.2.free 1
        have ld := HS6.out.2.lt
        have HS7 : Hid (MdSt w g (MM (i + 1)) (w6.setCell ⟨q, 1, none⟩ (.int .i64 (Y i + dY (K i)))) ∧ Two (w6.setCell ⟨q, 1, none⟩ (.int .i64 (Y i + dY (K i)))) q 45 (.int .i64 (X (i + 1))) (.int .i64 (Y (i + 1)))) := by rw [HX1.out, HY1.out]; exact ⟨HS6.out.1.box (by dsimp only; rw [← HQ.out]; omega) _ (by dsimp only; omega), two_put1 HS6.out.2 _⟩
        clear HS6
        go_wp2
        go_roundw
        case rel => exact ⟨i + 1, by omega, by go_num, HS7⟩
        case measure => simp [intOf]; omega
      · have f0 : (((K i : Nat) : Int) == 0) = false := by rw [beq_eq_false_iff_ne]; omega
        have HS3 : Hid (MdSt w g (MM (i + 1)) w1 ∧ Two w1 q 45 (.int .i64 (X i)) (.int .i64 (Y i))) := ⟨HS1.out.1.congr fun a b _ _ => by rw [HONi.out, decide_eq_false (fun h => hk0 h.2.2), Bool.or_false], HS1.out.2⟩
        go_upto_region 7 with fail
        clear HS1 f0 hk0
        generalize w1 = w3 at *
        have d0 := HS3.out.2.cell0
        have ld := HS3.out.2.lt
        refine wp_region_over_tail 6 (by kernel_rfl) (by kernel_rfl) ?_; simp only [List.take_succ_cons, List.take_zero, List.drop_succ_cons, List.drop_zero]; (repeat (go_big_quiet_step ((go_at_call 133; exact Calls.over_of (HCX.out _))))); refine wpQuiet_nil ?_; rintro _ ⟨x1, rfl⟩
        have HS4 : Hid (MdSt w g (MM (i + 1)) (w3.over x1) ∧ Two (w3.over x1) q 45 (.int .i64 (X i)) (.int .i64 (Y i))) := ⟨HS3.out.1.ext ⟨x1, rfl⟩, HS3.out.2.ext ⟨x1, rfl⟩⟩
        clear HS3 d0 ld
        generalize w3.over x1 = w4 at *
        have d0 := HS4.out.2.cell0
        have f0 := HS4.out.2.free 0
        have ld := HS4.out.2.lt
        obtain ⟨w5, hw5⟩ : ∃ w5, w5 = w4.setCell ⟨q, 0, none⟩ (.int .i64 (X i + dX (K i))) := ⟨_, rfl⟩
        have HS5 : Hid (MdSt w g (MM (i + 1)) w5 ∧ Two w5 q 45 (.int .i64 (X i + dX (K i))) (.int .i64 (Y i))) := by rw [hw5]; exact ⟨HS4.out.1.box (by dsimp only; rw [← HQ.out]; omega) _ (by dsimp only; omega), two_put0 HS4.out.2 _⟩
        go_upto_region 8 with fail
        rw [← hw5]
        clear hw5 d0 f0 ld HS4
        have d1 := HS5.out.2.cell1
        have ld := HS5.out.2.lt
        refine wp_region_over_tail 6 (by kernel_rfl) (by kernel_rfl) ?_; simp only [List.take_succ_cons, List.take_zero, List.drop_succ_cons, List.drop_zero]; (repeat (go_big_quiet_step ((go_at_call 134; exact Calls.over_of (HCY.out _))))); refine wpQuiet_nil ?_; rintro _ ⟨x1, rfl⟩
        have HS6 : Hid (MdSt w g (MM (i + 1)) (w5.over x1) ∧ Two (w5.over x1) q 45 (.int .i64 (X i + dX (K i))) (.int .i64 (Y i))) := ⟨HS5.out.1.ext ⟨x1, rfl⟩, HS5.out.2.ext ⟨x1, rfl⟩⟩
        clear HS5 d1 ld
        generalize w5.over x1 = w6 at *
        have d1 := HS6.out.2.cell1
        have f1 := HS6.out.2.free 1
        have ld := HS6.out.2.lt
        have HS7 : Hid (MdSt w g (MM (i + 1)) (w6.setCell ⟨q, 1, none⟩ (.int .i64 (Y i + dY (K i)))) ∧ Two (w6.setCell ⟨q, 1, none⟩ (.int .i64 (Y i + dY (K i)))) q 45 (.int .i64 (X (i + 1))) (.int .i64 (Y (i + 1)))) := by rw [HX1.out, HY1.out]; exact ⟨HS6.out.1.box (by dsimp only; rw [← HQ.out]; omega) _ (by dsimp only; omega), two_put1 HS6.out.2 _⟩
        clear HS6
        go_wp2
        go_roundw
        case rel => exact ⟨i + 1, by omega, by go_num, HS7⟩
        case measure => simp [intOf]; omega
    · have hin' : i = n := by omega
      have hnl : ¬ (i : Int) < (word.size : Int) := by omega
      have HS9 : Hid (MdSt w g M9 wo) := HS.out.1.congr fun x y _ _ => by rw [hin']; exact HM9.out x y
      clear HS hsz hin'
      go_wp2
      go_end0
      exact ⟨rfl, HS9.out⟩
end Go.Proofs.Ythgkmaccbcpaeaa

/- Lists of borders: memory, and what the laws do with them. -/
namespace Go.Proofs.Ythgkmaccbcpaeaa
open Go Go.RowKit
abbrev Bord := Int × Int × ByteArray
def bd0 : Bord := (0, 0, ⟨#[]⟩)
def RowBd (w : World) (a : Option Addr) (bs : List Bord) : Prop := ∀ i, i < bs.length → ∃ b o, a = some ⟨b, o, none⟩ ∧ w.cell? ⟨b, o + i * 3, none⟩ = some (.int .i64 (bs.getD i bd0).1) ∧ w.cell? ⟨b, o + i * 3 + 1, none⟩ = some (.int .i64 (bs.getD i bd0).2.1) ∧ w.cell? ⟨b, o + i * 3 + 2, none⟩ = some (.string (bs.getD i bd0).2.2)
def OwnBd (lo hi : Nat) (w : World) (a : Option Addr) (bs : List Bord) : Prop := ∀ i, i < bs.length → ∃ b o, a = some ⟨b, o, none⟩ ∧ lo ≤ b ∧ b < hi ∧ w.cell? ⟨b, o + i * 3, none⟩ = some (.int .i64 (bs.getD i bd0).1) ∧ w.cell? ⟨b, o + i * 3 + 1, none⟩ = some (.int .i64 (bs.getD i bd0).2.1) ∧ w.cell? ⟨b, o + i * 3 + 2, none⟩ = some (.string (bs.getD i bd0).2.2) ∧
  w.frozen? ⟨b, o + i * 3, none⟩ = false ∧ w.frozen? ⟨b, o + i * 3 + 1, none⟩ = false ∧ w.frozen? ⟨b, o + i * 3 + 2, none⟩ = false
section
variable {lo hi lo' hi' : Nat} {w w' : World} {a : Option Addr} {bs : List Bord}
theorem RowBd.ext (h : RowBd w a bs) (hx : w.Ext w') : RowBd w' a bs := fun i hi => let ⟨b, o, h1, h2, h3, h4⟩ := h i hi; ⟨b, o, h1, hx.cell h2, hx.cell h3, hx.cell h4⟩
theorem OwnBd.row (h : OwnBd lo hi w a bs) : RowBd w a bs := fun i hi => let ⟨b, o, h1, _, _, h2, h3, h4, _⟩ := h i hi; ⟨b, o, h1, h2, h3, h4⟩
theorem OwnBd.mono (h : OwnBd lo hi w a bs) (hl : lo' ≤ lo) (hh : hi ≤ hi') : OwnBd lo' hi' w a bs := fun i hi => let ⟨b, o, h1, h2, h3, r⟩ := h i hi; ⟨b, o, h1, Nat.le_trans hl h2, Nat.lt_of_lt_of_le h3 hh, r⟩
theorem OwnBd.wrote {S : Nat → Prop} (h : OwnBd lo hi w a bs) (hx : Wrote S w w') (hs : ∀ k, lo ≤ k → k < hi → ¬ S k) : OwnBd lo hi w' a bs := fun i hi => by
  obtain ⟨b, o, h1, h2, h3, c0, c1, c2, f0, f1, f2⟩ := h i hi
  have hn := hs b h2 h3
  exact ⟨b, o, h1, h2, h3, hx.cell c0 hn, hx.cell c1 hn, hx.cell c2 hn, by rw [hx.frozen c0 hn]; exact f0, by rw [hx.frozen c1 hn]; exact f1, by rw [hx.frozen c2 hn]; exact f2⟩
theorem OwnBd.ext (h : OwnBd lo hi w a bs) (hx : w.Ext w') : OwnBd lo hi w' a bs := h.wrote (hx.wrote fun _ => False) fun _ _ _ => id
theorem OwnBd.nil (w : World) (a : Option Addr) : OwnBd lo hi w a [] := fun i hi => by cases hi
end
def flatB : List Bord → List Value
  | [] => []
  | b :: bs => .int .i64 b.1 :: .int .i64 b.2.1 :: .string b.2.2 :: flatB bs
theorem flatB_append : ∀ a b, flatB (a ++ b) = flatB a ++ flatB b
  | [], b => rfl
  | d :: a, b => by simp [flatB, flatB_append a b]
theorem flatB_len : ∀ bs, (flatB bs).length = 3 * bs.length
  | [] => rfl
  | d :: ds => by simp [flatB, flatB_len ds]; omega
theorem flatB_at : ∀ (bs : List Bord) (i : Nat), i < bs.length → (flatB bs)[i * 3]? = some (.int .i64 (bs.getD i bd0).1) ∧ (flatB bs)[i * 3 + 1]? = some (.int .i64 (bs.getD i bd0).2.1) ∧ (flatB bs)[i * 3 + 2]? = some (.string (bs.getD i bd0).2.2)
  | [], i, h => by cases h
  | d :: ds, 0, _ => by simp [flatB]
  | d :: ds, i + 1, hi => by
    have h := flatB_at ds i (by simpa using hi)
    have e1 : (i + 1) * 3 = i * 3 + 1 + 1 + 1 := by omega
    have e2 : (i + 1) * 3 + 1 = i * 3 + 1 + 1 + 1 + 1 := by omega
    have e3 : (i + 1) * 3 + 2 = i * 3 + 2 + 1 + 1 + 1 := by omega
    rw [e3, e2, e1]
    simpa [flatB] using h
/-- A slice value owns these borders. -/
def GrowBd (lo : Nat) (w : World) (v : Value) (bs : List Bord) : Prop := w.ownsRow lo 62 3 v bs.length (flatB bs)
theorem GrowBd.empty {lo : Nat} (w : World) (h : lo ≤ w.heap.size) : GrowBd lo (w.alloc (.cells #[] 62)) (.slice (some ⟨w.heap.size, 0, none⟩) 0 0) [] := World.ownsRow_made w #[] 0 h (Nat.zero_le _) rfl
theorem GrowBd.push {lo : Nat} {w : World} {v' : Value} {bs : List Bord} {d : Bord} (h : w.ownsRow lo 62 3 v' (bs.length + 1) (flatB bs ++ [.int .i64 d.1, .int .i64 d.2.1, .string d.2.2])) : GrowBd lo w v' (bs ++ [d]) := by
  unfold GrowBd
  rw [flatB_append, List.length_append]
  exact h
theorem GrowBd.own {lo : Nat} {w : World} {a : Option Addr} {m cap : Nat} {bs : List Bord} (h : GrowBd lo w (.slice a m cap) bs) : OwnBd lo w.heap.size w a bs := by
  intro i hi
  obtain ⟨h1, h2, h3⟩ := flatB_at bs i hi
  obtain ⟨b, o, e, l1, l2, c0, f0⟩ := World.ownsRow.own h (i := i * 3) (by omega)
  obtain ⟨b', o', e', _, _, c1, f1⟩ := World.ownsRow.own h (i := i * 3 + 1) (by omega)
  rw [e] at e'
  cases e'
  obtain ⟨b', o', e', _, _, c2, f2⟩ := World.ownsRow.own h (i := i * 3 + 2) (by omega)
  rw [e] at e'
  cases e'
  rw [h1] at c0
  rw [h2] at c1
  rw [h3] at c2
  exact ⟨b, o, e, l1, l2, c0, by rw [Nat.add_assoc]; exact c1, by rw [Nat.add_assoc]; exact c2, f0, by rw [Nat.add_assoc]; exact f1, by rw [Nat.add_assoc]; exact f2⟩
/-- The marks of n borders. -/
def marksB (k0 n : Nat) : List Bord := (List.range n).map fun i => (((k0 + i * 3 : Nat) : Int), ((k0 + i * 3 : Nat) : Int) + 1, markT (k0 + i * 3 + 2))
theorem marksB_len (k0 n : Nat) : (marksB k0 n).length = n := by simp [marksB]
theorem marksB_at (k0 : Nat) {n i : Nat} (h : i < n) : (marksB k0 n).getD i bd0 = (((k0 + i * 3 : Nat) : Int), ((k0 + i * 3 : Nat) : Int) + 1, markT (k0 + i * 3 + 2)) := by
  unfold marksB
  rw [List.getD_eq_getElem?_getD, List.getElem?_map, List.getElem?_range h]
  rfl
def HalfBd (k0 lo hi : Nat) (w : World) (a : Option Addr) (n k : Nat) : Prop := ∀ i, i < n → ∃ b o x y s, a = some ⟨b, o, none⟩ ∧ lo ≤ b ∧ b < hi ∧ w.cell? ⟨b, o + i * 3, none⟩ = some (.int .i64 x) ∧ w.cell? ⟨b, o + i * 3 + 1, none⟩ = some (.int .i64 y) ∧ w.cell? ⟨b, o + i * 3 + 2, none⟩ = some (.string s) ∧
  (i < k → x = ((k0 + i * 3 : Nat) : Int) ∧ y = ((k0 + i * 3 : Nat) : Int) + 1 ∧ s = markT (k0 + i * 3 + 2)) ∧ w.frozen? ⟨b, o + i * 3, none⟩ = false ∧ w.frozen? ⟨b, o + i * 3 + 1, none⟩ = false ∧ w.frozen? ⟨b, o + i * 3 + 2, none⟩ = false
theorem HalfBd.start {k0 lo hi : Nat} {w : World} {a : Option Addr} {bs : List Bord} (h : OwnBd lo hi w a bs) : HalfBd k0 lo hi w a bs.length 0 := fun i hi => by
  obtain ⟨b, o, h1, h2, h3, c0, c1, c2, f⟩ := h i hi
  exact ⟨b, o, _, _, _, h1, h2, h3, c0, c1, c2, fun h => by omega, f⟩
theorem HalfBd.done {k0 lo hi : Nat} {w : World} {a : Option Addr} {n : Nat} (h : HalfBd k0 lo hi w a n n) : OwnBd lo hi w a (marksB k0 n) := fun i hi => by
  rw [marksB_len] at hi
  obtain ⟨b, o, x, y, s, h1, h2, h3, c0, c1, c2, hk, f⟩ := h i hi
  obtain ⟨rfl, rfl, rfl⟩ := hk hi
  rw [marksB_at _ hi]
  exact ⟨b, o, h1, h2, h3, c0, c1, c2, f⟩
theorem HalfBd.next {k0 lo hi : Nat} {w : World} {b o n k : Nat} (h : HalfBd k0 lo hi w (some ⟨b, o, none⟩) n k) (hk : k < n) (x : World) :
    HalfBd k0 lo hi ((((w.setCell ⟨b, o + k * 3, none⟩ (.int .i64 ((k0 + k * 3 : Nat) : Int))).setCell ⟨b, o + k * 3 + 1, none⟩ (.int .i64 (((k0 + k * 3 : Nat) : Int) + 1))).over x).setCell ⟨b, o + k * 3 + 2, none⟩ (.string (markT (k0 + k * 3 + 2)))) (some ⟨b, o, none⟩) n (k + 1) := by
  intro i hi'
  obtain ⟨b', o', u, v, s, h1, h2, h3, c0, c1, c2, hm, f0, f1, f2⟩ := h i hi'
  cases h1
  have hx : ((w.setCell ⟨b, o + k * 3, none⟩ (.int .i64 ((k0 + k * 3 : Nat) : Int))).setCell ⟨b, o + k * 3 + 1, none⟩ (.int .i64 (((k0 + k * 3 : Nat) : Int) + 1))).Ext (((w.setCell ⟨b, o + k * 3, none⟩ (.int .i64 ((k0 + k * 3 : Nat) : Int))).setCell ⟨b, o + k * 3 + 1, none⟩ (.int .i64 (((k0 + k * 3 : Nat) : Int) + 1))).over x) := ⟨x, rfl⟩
  by_cases e : i = k
  · subst e
    have d0 : ((w.setCell ⟨b, o + i * 3, none⟩ (.int .i64 ((k0 + i * 3 : Nat) : Int))).setCell ⟨b, o + i * 3 + 1, none⟩ (.int .i64 (((k0 + i * 3 : Nat) : Int) + 1))).cell? ⟨b, o + i * 3, none⟩ = some (.int .i64 ((k0 + i * 3 : Nat) : Int)) := by
      rw [cell_set_other (by omega)]; exact cell_set_same c0
    have d1 : ((w.setCell ⟨b, o + i * 3, none⟩ (.int .i64 ((k0 + i * 3 : Nat) : Int))).setCell ⟨b, o + i * 3 + 1, none⟩ (.int .i64 (((k0 + i * 3 : Nat) : Int) + 1))).cell? ⟨b, o + i * 3 + 1, none⟩ = some (.int .i64 (((k0 + i * 3 : Nat) : Int) + 1)) :=
      cell_set_same (by rw [cell_set_other (by omega)]; exact c1)
    have d2 : ((w.setCell ⟨b, o + i * 3, none⟩ (.int .i64 ((k0 + i * 3 : Nat) : Int))).setCell ⟨b, o + i * 3 + 1, none⟩ (.int .i64 (((k0 + i * 3 : Nat) : Int) + 1))).cell? ⟨b, o + i * 3 + 2, none⟩ = some (.string s) := by
      rw [cell_set_other (by omega), cell_set_other (by omega)]; exact c2
    refine ⟨b, o, _, _, _, rfl, h2, h3, ?_, ?_, cell_set_same (hx.cell d2), fun _ => ⟨rfl, rfl, rfl⟩, ?_, ?_, ?_⟩
    · rw [cell_set_other (by omega)]; exact hx.cell d0
    · rw [cell_set_other (by omega)]; exact hx.cell d1
    · rw [frozen_set, hx.frozen d0, frozen_set, frozen_set]; exact f0
    · rw [frozen_set, hx.frozen d1, frozen_set, frozen_set]; exact f1
    · rw [frozen_set, hx.frozen d2, frozen_set, frozen_set]; exact f2
  · have d0 : ((w.setCell ⟨b, o + k * 3, none⟩ (.int .i64 ((k0 + k * 3 : Nat) : Int))).setCell ⟨b, o + k * 3 + 1, none⟩ (.int .i64 (((k0 + k * 3 : Nat) : Int) + 1))).cell? ⟨b, o + i * 3, none⟩ = some (.int .i64 u) := by
      rw [cell_set_other (by omega), cell_set_other (by omega)]; exact c0
    have d1 : ((w.setCell ⟨b, o + k * 3, none⟩ (.int .i64 ((k0 + k * 3 : Nat) : Int))).setCell ⟨b, o + k * 3 + 1, none⟩ (.int .i64 (((k0 + k * 3 : Nat) : Int) + 1))).cell? ⟨b, o + i * 3 + 1, none⟩ = some (.int .i64 v) := by
      rw [cell_set_other (by omega), cell_set_other (by omega)]; exact c1
    have d2 : ((w.setCell ⟨b, o + k * 3, none⟩ (.int .i64 ((k0 + k * 3 : Nat) : Int))).setCell ⟨b, o + k * 3 + 1, none⟩ (.int .i64 (((k0 + k * 3 : Nat) : Int) + 1))).cell? ⟨b, o + i * 3 + 2, none⟩ = some (.string s) := by
      rw [cell_set_other (by omega), cell_set_other (by omega)]; exact c2
    refine ⟨b, o, u, v, s, rfl, h2, h3, ?_, ?_, ?_, fun h => hm (by omega), ?_, ?_, ?_⟩
    · rw [cell_set_other (by omega)]; exact hx.cell d0
    · rw [cell_set_other (by omega)]; exact hx.cell d1
    · rw [cell_set_other (by omega)]; exact hx.cell d2
    · rw [frozen_set, hx.frozen d0, frozen_set, frozen_set]; exact f0
    · rw [frozen_set, hx.frozen d1, frozen_set, frozen_set]; exact f1
    · rw [frozen_set, hx.frozen d2, frozen_set, frozen_set]; exact f2
set_option maxHeartbeats 800000 in
theorem eqBorder_any (x y : Int) (s : ByteArray) (w : World) :
    Calls Try.prog 140 #[.agg #[.int .i64 x, .int .i64 y, .string s], .agg #[.int .i64 x, .int .i64 y, .string s]] w fun e w' => e = .returned (.bool true) ∧ w.Ext w' := by
  obtain ⟨W0, hW0⟩ : ∃ W0, W0 = (w.alloc (.cells #[.int .i64 x, .int .i64 y, .string s] 62)).alloc (.cells #[.int .i64 x, .int .i64 y, .string s] 62) := ⟨_, rfl⟩
  have hx0 : w.Ext W0 := by rw [hW0]; repeat (first | exact World.Ext.refl _ | exact ⟨_, rfl⟩ | assumption | refine World.Ext.over ?_ _ | refine World.Ext.drewN ?_ _ | refine World.Ext.drew ?_ | refine World.Ext.alloc ?_ _ | refine World.Ext.setCell ?_ (by simp) _)
  have HQ : Hid (∀ wr, W0.Ext wr → wr.cell? ⟨w.heap.size, 0, none⟩ = some (.int .i64 x) ∧ wr.cell? ⟨w.heap.size, 1, none⟩ = some (.int .i64 y) ∧ wr.cell? ⟨w.heap.size, 2, none⟩ = some (.string s) ∧ wr.cell? ⟨w.heap.size + 1, 0, none⟩ = some (.int .i64 x) ∧ wr.cell? ⟨w.heap.size + 1, 1, none⟩ = some (.int .i64 y) ∧ wr.cell? ⟨w.heap.size + 1, 2, none⟩ = some (.string s)) := fun wr hx => by
    refine ⟨hx.cell ?_, hx.cell ?_, hx.cell ?_, hx.cell ?_, hx.cell ?_, hx.cell ?_⟩ <;> (rw [hW0]; simp [go_sem])
  have HX0 := Lib.hid hx0
  clear hx0
  go_enter Try.func140, Try.ntmps140
  go_upto_region 1 with fail
  rw [← hW0]
  clear hW0
  obtain ⟨c0, c1, c2, d0, d1, d2⟩ := HQ.out W0 (.refl _)
  have l0 := World.block_lt_of_cell? _ _ d0
  go_wp2_with fail
  refine (eqSpotP_any x y W0).mono ?_
  rintro e w1 ⟨rfl, hx1⟩
  clear c0 c1 c2 d0 d1 d2 l0
  obtain ⟨c0, c1, c2, d0, d1, d2⟩ := HQ.out w1 hx1
  have l0 := World.block_lt_of_cell? _ _ d0
  have HX := Lib.hid (HX0.out.trans hx1)
  clear hx1
  go_wp2
  go_ret
  exact ⟨rfl, HX.out⟩
set_option maxHeartbeats 800000 in
theorem eqBorderS_res (a b : Option Addr) (c c' : Nat) (s : List Bord) (w : World) (hn : s.length ≤ 262144) (ha : RowBd w a s) (hb : RowBd w b s) :
    Calls Try.prog 53 #[.slice a s.length c, .slice b s.length c'] w fun e w' => e = .returned (.bool true) ∧ w.Ext w' := by
  have HA := Lib.hid ha
  have HB := Lib.hid hb
  clear ha hb
  go_enter Try.func53, Try.ntmps53
  go_wp2
  go_loopw [5] (fun i wr => ∃ k : Nat, k ≤ s.length ∧ i = .int .i64 k ∧ Hid (w.Ext wr)) (fun i _ => s.length - (intOf i).toNat)
  case atStart => exact ⟨0, Nat.zero_le _, rfl, .refl _⟩
  case round =>
    obtain ⟨k, hk, rfl, HX⟩ := hrel
    by_cases hlt : k < s.length
    · obtain ⟨b1, o1, rfl, c1, c2, c3⟩ := (HA.out.ext HX.out) k hlt
      obtain ⟨b2, o2, rfl, d1, d2, d3⟩ := (HB.out.ext HX.out) k hlt
      generalize s.getD k bd0 = d at *
      obtain ⟨x, y, r⟩ := d
      dsimp only at c1 c2 c3 d1 d2 d3
      have hlt' : (k : Int) < (s.length : Int) := by omega
      have hk0 : (0 : Int) ≤ (k : Int) := by omega
      go_wp2_with fail
      refine wp_region_over_lit (by kernel_rfl) (by kernel_rfl) ?_; (repeat (go_big_quiet_step ((go_at_call 140; exact Calls.over_of (eqBorder_any x y r _))))); refine wpQuiet_nil ?_; rintro _ ⟨x1, rfl⟩
      go_wp2
      go_roundw
      case rel => exact ⟨k + 1, by omega, by go_num, HX.out.over _⟩
      case measure => simp [intOf]; omega
    · have : k = s.length := by omega
      subst this
      go_wp2
      go_ret
      exact ⟨rfl, HX.out⟩
set_option maxHeartbeats 800000 in
theorem markBorderS_res (a : Option Addr) (c : Nat) (s : List Bord) (k0 lo hi : Nat) (w : World) (hn : s.length ≤ 262144) (h1 : k0 ≤ 2097152) (ha : OwnBd lo hi w a s) :
    Calls Try.prog 54 #[.slice a s.length c, .int .i64 k0] w fun e w' => e = .returned (.int .i64 (k0 + 3 * s.length : Nat)) ∧ Wrote (fun b => lo ≤ b ∧ b < hi) w w' ∧ OwnBd lo hi w' a (marksB k0 s.length) := by
  have HH := Lib.hid (HalfBd.start (k0 := k0) ha)
  generalize s.length = n at *
  clear ha
  go_enter Try.func54, Try.ntmps54
  go_wp2
  go_loopw [1, 5] (fun l i wr => ∃ k : Nat, k ≤ n ∧ i = .int .i64 k ∧ l = .int .i64 (k0 + k * 3 : Nat) ∧ Hid (Wrote (fun b => lo ≤ b ∧ b < hi) w wr ∧ HalfBd k0 lo hi wr a n k)) (fun _ i _ => n - (intOf i).toNat)
  case atStart => exact ⟨0, Nat.zero_le _, rfl, by simp, .refl _ _, HH.out⟩
  case round =>
    clear HH
    obtain ⟨k, hk, rfl, rfl, HW⟩ := hrel
    by_cases hlt : k < n
    · obtain ⟨b, o, x, y, t, rfl, h2, h3, c0, c1, c2, -, f0, f1, f2⟩ := HW.out.2 k hlt
      have hk0 : (0 : Int) ≤ (k : Int) := by omega
      have hlt' : (k : Int) < (n : Int) := by omega
      have HN : Hid (∀ x1, Wrote (fun b => lo ≤ b ∧ b < hi) w ((((wr.setCell ⟨b, o + k * 3, none⟩ (.int .i64 ((k0 + k * 3 : Nat) : Int))).setCell ⟨b, o + k * 3 + 1, none⟩ (.int .i64 (((k0 + k * 3 : Nat) : Int) + 1))).over x1).setCell ⟨b, o + k * 3 + 2, none⟩ (.string (markT (k0 + k * 3 + 2)))) ∧
          HalfBd k0 lo hi ((((wr.setCell ⟨b, o + k * 3, none⟩ (.int .i64 ((k0 + k * 3 : Nat) : Int))).setCell ⟨b, o + k * 3 + 1, none⟩ (.int .i64 (((k0 + k * 3 : Nat) : Int) + 1))).over x1).setCell ⟨b, o + k * 3 + 2, none⟩ (.string (markT (k0 + k * 3 + 2)))) (some ⟨b, o, none⟩) n (k + 1)) := fun x1 =>
        ⟨((((HW.out.1.setCell ⟨h2, h3⟩ _).setCell ⟨h2, h3⟩ _).trans (World.Ext.wrote ⟨x1, rfl⟩ _)).setCell ⟨h2, h3⟩ _), HW.out.2.next hlt x1⟩
      have HT := Lib.hid (fun w' => markText_any (k0 + k * 3 + 2) w' (by omega))
      have e2 : (((k0 + k * 3 : Nat) : Int) + 1 + 1) = ((k0 + k * 3 + 2 : Nat) : Int) := by omega
      have HE : Hid (∀ w', Calls Try.prog 141 #[.int .i64 (((k0 + k * 3 : Nat) : Int) + 1 + 1)] w' fun e w'' => e = .returned (.string (markT (k0 + k * 3 + 2))) ∧ w'.Ext w'') := fun w' => by rw [e2]; exact HT.out w'
      have hb0 : (0 : Int) ≤ ((k0 + k * 3 : Nat) : Int) := by omega
      have hb1 : ((k0 + k * 3 : Nat) : Int) ≤ 4194304 := by omega
      have HQ2 : Hid (∀ z : Nat, z = k0 + k * 3 → ((z : Int) + 1 + 1 + 1 = ((k0 + (k + 1) * 3 : Nat) : Int))) := fun z hz => by omega
      have f2x : ∀ x1 : World, (((wr.setCell ⟨b, o + k * 3, none⟩ (.int .i64 ((k0 + k * 3 : Nat) : Int))).setCell ⟨b, o + k * 3 + 1, none⟩ (.int .i64 (((k0 + k * 3 : Nat) : Int) + 1))).over x1).frozen? ⟨b, o + k * 3 + 2, none⟩ = false := fun x1 => by
        have d2 : ((wr.setCell ⟨b, o + k * 3, none⟩ (.int .i64 ((k0 + k * 3 : Nat) : Int))).setCell ⟨b, o + k * 3 + 1, none⟩ (.int .i64 (((k0 + k * 3 : Nat) : Int) + 1))).cell? ⟨b, o + k * 3 + 2, none⟩ = some (.string t) := by
          rw [cell_set_other (by omega), cell_set_other (by omega)]; exact c2
        rw [World.Ext.frozen ⟨x1, rfl⟩ d2, frozen_set, frozen_set]
        exact f2
      clear e2 HT HW
      generalize markT (k0 + k * 3 + 2) = mt at *
      have HQ3 := Lib.hid (HQ2.out _ rfl)
      clear HQ2
      generalize k0 + k * 3 = q at *
      go_wp2_with (go_at_call 141; refine (HE.out _).mono ?_; rintro e w' ⟨rfl, x1, rfl⟩)
      go_roundw
      case rel => exact ⟨k + 1, by omega, by go_num, congrArg (Value.int .i64) HQ3.out, HN.out _⟩
      case measure => simp [intOf]; omega
    · have : k = n := by omega
      subst this
      go_wp2
      go_ret
      exact ⟨ret_int (by omega), HW.out.1, HW.out.2.done⟩
end Go.Proofs.Ythgkmaccbcpaeaa

/- Borders: all borders of a picture, the reference's. -/
namespace Go.Proofs.Ythgkmaccbcpaeaa
open Go Go.RowKit
theorem cell3_at {w : World} {u v x : Value} {e : TypeId} {p : Nat} (hp : p = w.heap.size) : ∀ (j : Nat) (y : Value), [u, v, x][j]? = some y → (w.alloc (.cells #[u, v, x] e)).cell? ((⟨p, 0, none⟩ : Addr).add j) = some y := by
  subst hp
  intro j y hj
  rw [Addr.add_mk]
  match j, hj with
  | 0, hj => simp at hj; subst hj; simp [go_sem]
  | 1, hj => simp at hj; subst hj; simp [go_sem]
  | 2, hj => simp at hj; subst hj; simp [go_sem]
  | j + 3, hj => simp at hj
def bdOf (f : Int → Int → Bool) (W j : Nat) : Bord := ((stE W j).x, (stE W j).y, wrd f (stE W j))
def brds (f : Int → Int → Bool) (W k : Nat) : List Bord := (bTo f W k).map (bdOf f W)
def mdB (f : Int → Int → Bool) (W k x y : Nat) : Bool := doneB f W (bTo f W k) ⟨(x : Int), (y : Int), 0⟩
theorem stE_at {W x y : Nat} (hx : x < W) : stE W (y * W + x) = ⟨(x : Int), (y : Int), 0⟩ := by
  have e1 : (y * W + x) % W = x := by rw [Nat.mul_comm, Nat.mul_add_mod, Nat.mod_eq_of_lt hx]
  have e2 : (y * W + x) / W = y := by rw [Nat.mul_comm, Nat.mul_add_div (by omega), Nat.div_eq_of_lt hx, Nat.add_zero]
  unfold stE
  rw [e1, e2]
theorem bTo_len (f : Int → Int → Bool) (W : Nat) : ∀ k, (bTo f W k).length ≤ k
  | 0 => Nat.le_refl _
  | k + 1 => by
    have ih := bTo_len f W k
    unfold bTo
    split
    · simp only [List.length_append, List.length_singleton]; omega
    · omega
theorem brds_len (f : Int → Int → Bool) (W k : Nat) : (brds f W k).length ≤ k := by unfold brds; rw [List.length_map]; exact bTo_len f W k
theorem bTo_no {f : Int → Int → Bool} {W x y : Nat} (hx : x < W) (h : canB f x y 0 = false ∨ mdB f W (y * W + x) x y = true) : bTo f W (y * W + (x + 1)) = bTo f W (y * W + x) := by
  rw [← Nat.add_assoc]
  show bTo f W (y * W + x + 1) = _
  rw [bTo]
  unfold isSt
  rw [stE_at hx, if_neg]
  unfold mdB at h
  rcases h with h | h
  · dsimp only; rw [h]; simp
  · rw [h]; simp
theorem bTo_yes {f : Int → Int → Bool} {W x y : Nat} (hx : x < W) (h1 : canB f x y 0 = true) (h2 : mdB f W (y * W + x) x y = false) : bTo f W (y * W + (x + 1)) = bTo f W (y * W + x) ++ [y * W + x] := by
  rw [← Nat.add_assoc]
  show bTo f W (y * W + x + 1) = _
  rw [bTo]
  unfold isSt
  unfold mdB at h2
  rw [stE_at hx, if_pos]
  dsimp only
  rw [h1, h2]
  rfl
theorem brds_no {f : Int → Int → Bool} {W x y : Nat} (hx : x < W) (h : canB f x y 0 = false ∨ mdB f W (y * W + x) x y = true) : brds f W (y * W + (x + 1)) = brds f W (y * W + x) := by unfold brds; rw [bTo_no hx h]
theorem brds_yes {f : Int → Int → Bool} {W x y : Nat} (hx : x < W) (h1 : canB f x y 0 = true) (h2 : mdB f W (y * W + x) x y = false) : brds f W (y * W + (x + 1)) = brds f W (y * W + x) ++ [((x : Int), (y : Int), wrd f ⟨(x : Int), (y : Int), 0⟩)] := by
  unfold brds
  rw [bTo_yes hx h1 h2, List.map_append]
  unfold bdOf
  rw [List.map_cons, List.map_nil, stE_at hx]
theorem mdB_no {f : Int → Int → Bool} {W x y : Nat} (hx : x < W) (h : canB f x y 0 = false ∨ mdB f W (y * W + x) x y = true) : mdB f W (y * W + (x + 1)) = mdB f W (y * W + x) := by funext a b; unfold mdB; rw [bTo_no hx h]
theorem mdB_yes {f : Int → Int → Bool} {W x y : Nat} (hx : x < W) (h1 : canB f x y 0 = true) (h2 : mdB f W (y * W + x) x y = false) (a b : Nat) : mdB f W (y * W + (x + 1)) a b = (mdB f W (y * W + x) a b || inOrb f ⟨(x : Int), (y : Int), 0⟩ ⟨(a : Int), (b : Int), 0⟩) := by
  unfold mdB
  rw [bTo_yes hx h1 h2]
  unfold doneB
  rw [List.any_append, List.any_cons, List.any_nil, Bool.or_false, stE_at hx]
/-- Borders under way, and what they have marked. -/
structure AlSt (w : World) (g : Nat) (v : Value) (bs : List Bord) (m : Nat → Nat → Bool) (wr : World) : Prop where
  x : w.Ext wr
  g : BlkOf Value.bool wr g 4 (mkl 17 17 m)
  d : GrowBd w.heap.size wr v bs
section
variable {w wr w' : World} {g : Nat} {v : Value} {bs : List Bord} {m m' : Nat → Nat → Bool}
theorem AlSt.ext (h : AlSt w g v bs m wr) (hx : wr.Ext w') : AlSt w g v bs m w' := ⟨h.x.trans hx, h.g.ext hx, World.ownsRow.ext h.d hx⟩
theorem AlSt.marked (h : AlSt w g v bs m wr) (hg : w.heap.size ≤ g) (hm : MdSt wr g m' w') : AlSt w g v bs m' w' := by
  refine ⟨h.x.wroteNew hm.1 fun k hk e => by omega, hm.2, World.ownsRow.keep h.d fun k hk => hm.1.block k ?_ fun e => ?_⟩
  · exact (World.ownsRow.lt h.d k hk).2
  · have hh : wr.heap[g]? = _ := h.g
    rw [e] at hk
    exact World.ownsRow.ne h.d hh (by decide) hk.symm
theorem AlSt.push {d : Bord} {v' : Value} (h : AlSt w g v bs m wr) (hg : wr.grownBy w' v.ownBlock) (ho : w'.ownsRow w.heap.size 62 3 v' (bs.length + 1) (flatB bs ++ [.int .i64 d.1, .int .i64 d.2.1, .string d.2.2])) : AlSt w g v' (bs ++ [d]) m w' := by
  have hh : wr.heap[g]? = _ := h.g
  exact ⟨h.x.grown hg fun k hk => (World.ownsRow.lt h.d k hk).1, h.g.keep (hg.block g h.g.lt (World.ownsRow.ne h.d hh (by decide))), GrowBd.push ho⟩
end
/-- Borders are returned, in new memory. -/
def BordsRet (w : World) (bs : List Bord) (e : Ending) (w' : World) : Prop := ∃ a c, e = .returned (.slice a bs.length c) ∧ w.Ext w' ∧ OwnBd w.heap.size w'.heap.size w' a bs
theorem Try.infoBoolA : (Try.prog.info? 4).map (fun i => (i.zero, i.size, i.bytes)) = some (some (.bool false), 1, 1) := by kernel_rfl
set_option maxRecDepth 5000 in
set_option maxHeartbeats 6400000 in
theorem l04All_any (p : Nat) (a : Option Addr) (c : Nat) (ss : List ByteArray) (w : World) (he : Even ss) (hW : picW ss ≤ 16) (hH : ss.length ≤ 16) (hp : w.cell? ⟨p, 0, none⟩ = some (.slice a ss.length c)) (hm : RowS w a ss) :
    Calls Try.prog 137 #[.pointer (some ⟨p, 0, none⟩)] w (BordsRet w (brds (pxl (picW ss) ss.length (picL ss)) (picW ss) (ss.length * picW ss))) := by
  obtain ⟨ib, hib, hb0, hb1, hb2⟩ := info_parts Try.infoBoolA
  obtain ⟨d0', hd, hy0, hy1, hy2⟩ := info_parts Try.infoBord
  have HWS : Hid (∀ w', w.Ext w' → Calls Try.prog 199 #[.pointer (some ⟨p, 0, none⟩)] w' fun e w'' => e = .returned (.int .i64 (picW ss)) ∧ w'.Ext w'') := fun w' hx => l01Width_any p a c ss w' he.1 (by omega) (by omega) (hx.cell hp) (hm.ext hx)
  have HHS : Hid (∀ w', w.Ext w' → Calls Try.prog 198 #[.pointer (some ⟨p, 0, none⟩)] w' fun e w'' => e = .returned (.int .i64 ss.length) ∧ w'.Ext w'') := fun w' hx => l01Height_any p a c ss.length w' (by omega) (hx.cell hp)
  have HCAN : Hid (∀ w', w.Ext w' → ∀ (x y : Nat), x < picW ss → y < ss.length → ∀ t, canB (pxl (picW ss) ss.length (picL ss)) x y 0 = t → Calls Try.prog 200 #[.pointer (some ⟨p, 0, none⟩), .agg #[.int .i64 x, .int .i64 y], .int .i64 0] w' fun e w'' => e = .returned (.bool t) ∧ w'.Ext w'') := fun w' hx x y h1 h2 t ht =>
    l04Can_any p a c ss x y 0 w' he (by omega) (by omega) (hx.cell hp) (hm.ext hx) (by omega) (by omega) (by omega) t ht
  have HFOL : Hid (∀ w', w.Ext w' → ∀ (x y : Nat), canB (pxl (picW ss) ss.length (picL ss)) x y 0 = true → Calls Try.prog 201 #[.pointer (some ⟨p, 0, none⟩), .agg #[.int .i64 x, .int .i64 y]] w' fun e w'' => e = .returned (.agg #[.int .i64 x, .int .i64 y, .string (wrd (pxl (picW ss) ss.length (picL ss)) ⟨(x : Int), (y : Int), 0⟩)]) ∧ w'.Ext w'') := fun w' hx x y h =>
    l04Follow_any p a c ss x y w' he hW hH (hx.cell hp) (hm.ext hx) ⟨by show 0 < 4; omega, h⟩
  have hbx : InBx (pxl (picW ss) ss.length (picL ss)) 16 16 := fun x y h => by
    have := inBx_pxl (picW ss) ss.length (picL ss) x y h
    omega
  have HAB : Hid (∀ (w' : World) (pb g cap x y : Nat) (m : Nat → Nat → Bool), canB (pxl (picW ss) ss.length (picL ss)) x y 0 = true → w'.cell? ⟨pb, 0, none⟩ = some (.int .i64 x) → w'.cell? ⟨pb, 1, none⟩ = some (.int .i64 y) → w'.cell? ⟨pb, 2, none⟩ = some (.string (wrd (pxl (picW ss) ss.length (picL ss)) ⟨(x : Int), (y : Int), 0⟩)) → BlkOf Value.bool w' g 4 (mkl 17 17 m) → pb ≠ g →
      Calls Try.prog 202 #[.pointer (some ⟨pb, 0, none⟩), .slice (some ⟨g, 0, none⟩) 289 cap] w' fun e' w'' => e' = .returned (.tuple #[]) ∧ MdSt w' g (fun i j => m i j || inOrb (pxl (picW ss) ss.length (picL ss)) ⟨(x : Int), (y : Int), 0⟩ ⟨(i : Int), (j : Int), 0⟩) w'') := fun w' pb g cap x y m h c0 c1 c2 hg hne =>
    l04Above_any pb g cap _ ⟨(x : Int), (y : Int), 0⟩ m w' hbx ⟨by show 0 < 4; omega, h⟩ c0 c1 c2 hg hne
  have HKK : Hid (∀ x y, x < picW ss → y < ss.length → y * picW ss + x < 256) := fun x y h1 h2 => by
    have := Nat.mul_le_mul (show y ≤ 15 by omega) hW
    omega
  clear hm he hp hbx
  generalize pxl (picW ss) ss.length (picL ss) = f at *
  generalize picW ss = W at *
  generalize ss.length = H at *
  obtain ⟨W0, hW0⟩ : ∃ W0, W0 = w.alloc (.cells #[] 62) := ⟨_, rfl⟩
  have HX0 : Hid (w.Ext W0) := by rw [hW0]; show w.Ext _; repeat (first | exact World.Ext.refl _ | exact ⟨_, rfl⟩ | assumption | refine World.Ext.over ?_ _ | refine World.Ext.drewN ?_ _ | refine World.Ext.drew ?_ | refine World.Ext.alloc ?_ _ | refine World.Ext.setCell ?_ (by simp) _)
  have HG0 : Hid (GrowBd w.heap.size W0 (.slice (some ⟨w.heap.size, 0, none⟩) 0 0) []) := by rw [hW0]; exact GrowBd.empty w (Nat.le_refl _)
  have C1 : Hid (ib.bytes * 289 ≤ 281474976710656) := by show _ ≤ _; rw [hb2]; omega
  have C2 : Hid (289 ≤ maxLen) := by show _ ≤ _; unfold maxLen; omega
  go_enter Try.func137, Try.ntmps137
  go_upto_region 2 with fail
  rw [← hW0]
  clear hW0
  go_wp2_with (at_make; refine wpList_make_full _ rfl _ _ 103 rfl 0 4 ib (.bool false) 1 Try.underlying103 hib hb0 hb1 .i64 .i64 _ _ 289 rfl rfl rfl rfl C1.out C2.out (Nat.zero_le _) (fun w3 hown hgrow => ?_); go_loud (have HB3 : Hid (BlkOf Value.bool w3 W0.heap.size 4 (List.replicate 289 false)) := blk_of_made (f := Value.bool) false rfl hown; have HX3 : Hid (W0.Ext w3) := World.Ext.made hgrow; clear hown hgrow))
  have HMF : Hid (∀ a b, a < 17 → b < 17 → mdB f W 0 a b = false) := fun a b _ _ => rfl
  have HST0 : Hid (AlSt w W0.heap.size (.slice (some ⟨w.heap.size, 0, none⟩) 0 0) (brds f W 0) (mdB f W 0) w3) := by
    refine ⟨HX0.out.trans HX3.out, ?_, World.ownsRow.ext HG0.out HX3.out⟩
    have h := HB3.out
    have e : mkl 17 17 (mdB f W 0) = List.replicate 289 false := mkl_false 17 17
    rw [e]
    exact h
  have HGE : Hid (w.heap.size ≤ W0.heap.size) := HX0.out.size
  have HBL := Lib.hid (fun k => brds_len f W k)
  have HNO : Hid (∀ x y : Nat, x < W → (canB f x y 0 = false ∨ mdB f W (y * W + x) x y = true) → brds f W (y * W + (x + 1)) = brds f W (y * W + x) ∧ mdB f W (y * W + (x + 1)) = mdB f W (y * W + x)) := fun x y h1 h2 => ⟨brds_no h1 h2, mdB_no h1 h2⟩
  have HYES : Hid (∀ x y : Nat, x < W → canB f x y 0 = true → mdB f W (y * W + x) x y = false → brds f W (y * W + (x + 1)) = brds f W (y * W + x) ++ [((x : Int), (y : Int), wrd f ⟨(x : Int), (y : Int), 0⟩)] ∧ ∀ a b : Nat, (mdB f W (y * W + x) a b || inOrb f ⟨(x : Int), (y : Int), 0⟩ ⟨(a : Int), (b : Int), 0⟩) = mdB f W (y * W + (x + 1)) a b) := fun x y h1 h2 h3 => ⟨brds_yes h1 h2 h3, fun a b => (mdB_yes h1 h2 h3 a b).symm⟩
  have hHH : H ≤ 16 := hH
  clear HB3 HX3 HG0 HX0 HMF
  have hgq : W0.heap.size = W0.heap.size := rfl
  generalize W0.heap.size = g at *
  clear hgq
  go_wp2
  go_loopw [3, 5, 6, 7, 8] (fun v i _ _ _ wr => ∃ y : Nat, y ≤ H ∧ i = .int .i64 y ∧ Hid (AlSt w g v (brds f W (y * W)) (mdB f W (y * W)) wr)) (fun _ i _ _ _ _ => H - (intOf i).toNat)
  case atStart => exact ⟨0, Nat.zero_le _, rfl, by rw [Nat.zero_mul]; exact HST0⟩
  case round =>
    obtain ⟨y, hy, rfl, HS⟩ := hrel
    clear HST0
    obtain ⟨wo, rfl⟩ : ∃ wo : World, wo = wr := ⟨_, rfl⟩
    by_cases hlty : y < H
    · have hlty' : (y : Int) < (H : Int) := by omega
      go_wp2_with fail
      refine (HHS.out _ HS.out.x).mono ?_
      rintro e w2 ⟨rfl, hx2⟩
      have HS2 := Lib.hid (HS.out.ext hx2)
      clear hx2 HS
      go_wp2
      go_loopw [3, 6, 7, 8] (fun v i _ _ wr => ∃ x : Nat, x ≤ W ∧ i = .int .i64 x ∧ Hid (AlSt w g v (brds f W (y * W + x)) (mdB f W (y * W + x)) wr)) (fun _ i _ _ _ => W - (intOf i).toNat)
      case atStart => exact ⟨0, Nat.zero_le _, rfl, HS2⟩
      case round =>
        obtain ⟨x, hx, rfl, HS⟩ := hrel
        clear HS2
        obtain ⟨wp, rfl⟩ : ∃ wp : World, wp = wr := ⟨_, rfl⟩
        by_cases hltx : x < W
        · have hltx' : (x : Int) < (W : Int) := by omega
          have hx0' : (0 : Int) ≤ (x : Int) := by omega
          have hy0' : (0 : Int) ≤ (y : Int) := by omega
          go_wp2_with fail
          refine (HWS.out _ HS.out.x).mono ?_
          rintro e w2 ⟨rfl, hx2⟩
          have HS2 := Lib.hid (HS.out.ext hx2)
          clear hx2 HS
          obtain ⟨w3, hw3⟩ : ∃ w3, w3 = w2.alloc (.cells #[.int .i64 x, .int .i64 y] 45) := ⟨_, rfl⟩
          have hx3 : w2.Ext w3 := by rw [hw3]; repeat (first | exact World.Ext.refl _ | exact ⟨_, rfl⟩ | assumption | refine World.Ext.over ?_ _ | refine World.Ext.drewN ?_ _ | refine World.Ext.drew ?_ | refine World.Ext.alloc ?_ _ | refine World.Ext.setCell ?_ (by simp) _)
          have d0 : w3.cell? ⟨w2.heap.size, 0, none⟩ = some (.int .i64 x) := by rw [hw3]; simp [go_sem]
          have d1 : w3.cell? ⟨w2.heap.size, 1, none⟩ = some (.int .i64 y) := by rw [hw3]; simp [go_sem]
          have HS3 := Lib.hid (HS2.out.ext hx3)
          go_upto_region 10 with fail
          rw [← hw3]
          clear hw3 hx3 HS2
          have l3 := World.block_lt_of_cell? _ _ d0
          obtain ⟨t, ht⟩ : ∃ t, canB f x y 0 = t := ⟨_, rfl⟩
          go_wp2_with fail
          refine (HCAN.out _ HS3.out.x x y hltx hlty t ht).mono ?_
          rintro e w4 ⟨rfl, hx4⟩
          have HS4 := Lib.hid (HS3.out.ext hx4)
          replace d0 := hx4.cell d0
          replace d1 := hx4.cell d1
          clear hx4 HS3 l3
          cases t
          · have HS5 : Hid (AlSt w g u3 (brds f W (y * W + (x + 1))) (mdB f W (y * W + (x + 1))) w4) := by
              show AlSt _ _ _ _ _ _
              obtain ⟨e1, e2⟩ := HNO.out x y hltx (Or.inl ht)
              rw [e1, e2]; exact HS4.out
            clear HS4 d0 d1 ht
            go_wp2
            go_roundw
            case rel => exact ⟨x + 1, by omega, by go_num, HS5⟩
            case measure => simp [intOf]; omega
          · have hx17 : x < 17 := by omega
            have hy17 : y < 17 := by omega
            have q1 : w4.cell? ⟨g, y * 17 + x, none⟩ = some (.bool (mdB f W (y * W + x) x y)) := by
              rw [HS4.out.g.cell false (by rw [mkl_len]; omega), mkl_at _ _ _ _ _ hx17 hy17]
            have lg := World.block_lt_of_cell? _ _ q1
            have ld := World.block_lt_of_cell? _ _ d0
            have HT := Lib.hid ht
            clear ht
            obtain ⟨m, hm⟩ : ∃ m, mdB f W (y * W + x) x y = m := ⟨_, rfl⟩
            rw [hm] at q1
            have HM := Lib.hid hm
            clear hm
            cases m
            · obtain ⟨e1, e2⟩ := HYES.out x y hltx HT.out HM.out
              have HE1 := Lib.hid e1
              have HE2 := Lib.hid e2
              have HWW : Hid (wrd f ⟨(x : Int), (y : Int), 0⟩ = wrd f ⟨(x : Int), (y : Int), 0⟩) := rfl
              have HFOL2 : Hid (∀ w', w.Ext w' → Calls Try.prog 201 #[.pointer (some ⟨p, 0, none⟩), .agg #[.int .i64 x, .int .i64 y]] w' fun e w'' => e = .returned (.agg #[.int .i64 x, .int .i64 y, .string (wrd f ⟨(x : Int), (y : Int), 0⟩)]) ∧ w'.Ext w'') := fun w' hx => HFOL.out w' hx x y HT.out
              have HAB2 : Hid (∀ (w' : World) (pb cap : Nat), w'.cell? ⟨pb, 0, none⟩ = some (.int .i64 x) → w'.cell? ⟨pb, 1, none⟩ = some (.int .i64 y) → w'.cell? ⟨pb, 2, none⟩ = some (.string (wrd f ⟨(x : Int), (y : Int), 0⟩)) → BlkOf Value.bool w' g 4 (mkl 17 17 (mdB f W (y * W + x))) → pb ≠ g →
                  Calls Try.prog 202 #[.pointer (some ⟨pb, 0, none⟩), .slice (some ⟨g, 0, none⟩) 289 cap] w' fun e' w'' => e' = .returned (.tuple #[]) ∧ MdSt w' g (mdB f W (y * W + (x + 1))) w'') := fun w' pb cap c0 c1 c2 hg hne => by
                have h := HAB.out w' pb g cap x y (mdB f W (y * W + x)) HT.out c0 c1 c2 hg hne
                have e : (fun i j : Nat => mdB f W (y * W + x) i j || inOrb f ⟨(x : Int), (y : Int), 0⟩ ⟨(i : Int), (j : Int), 0⟩) = mdB f W (y * W + (x + 1)) := by funext i j; exact HE2.out i j
                rw [e] at h
                exact h
              clear e1 e2 HE2 HT HM
              generalize wrd f ⟨(x : Int), (y : Int), 0⟩ = word at *
              go_wp2_with fail
              refine (HFOL2.out _ HS4.out.x).mono ?_
              rintro e w5 ⟨rfl, hx5⟩
              have HS5 := Lib.hid (HS4.out.ext hx5)
              clear hx5 HS4 d0 d1 q1 lg ld HFOL2
              obtain ⟨w6, hw6⟩ : ∃ w6, w6 = w5.alloc (.cells #[.int .i64 x, .int .i64 y, .string word] 62) := ⟨_, rfl⟩
              have hx6 : w5.Ext w6 := by rw [hw6]; repeat (first | exact World.Ext.refl _ | exact ⟨_, rfl⟩ | assumption | refine World.Ext.over ?_ _ | refine World.Ext.drewN ?_ _ | refine World.Ext.drew ?_ | refine World.Ext.alloc ?_ _ | refine World.Ext.setCell ?_ (by simp) _)
              have d0 : w6.cell? ⟨w5.heap.size, 0, none⟩ = some (.int .i64 x) := by rw [hw6]; simp [go_sem]
              have d1 : w6.cell? ⟨w5.heap.size, 1, none⟩ = some (.int .i64 y) := by rw [hw6]; simp [go_sem]
              have d2 : w6.cell? ⟨w5.heap.size, 2, none⟩ = some (.string word) := by rw [hw6]; simp [go_sem]
              have HS6 := Lib.hid (HS5.out.ext hx6)
              have HNE : Hid (w5.heap.size ≠ g) := fun e => by have := HS5.out.g.lt; omega
              go_upto_region 12 with fail
              rw [← hw6]
              clear hw6 hx6 HS5
              have l6 := World.block_lt_of_cell? _ _ d0
              go_wp2_with fail
              refine (HAB2.out w6 _ _ d0 d1 d2 HS6.out.g HNE.out).mono ?_
              rintro e w7 ⟨rfl, hmd⟩
              have HS7 := Lib.hid (AlSt.marked HS6.out HGE.out hmd)
              replace d0 := hmd.1.cell d0 HNE.out
              replace d1 := hmd.1.cell d1 HNE.out
              replace d2 := hmd.1.cell d2 HNE.out
              clear hmd HS6 HAB2 l6
              have l7 := World.block_lt_of_cell? _ _ d0
              have HB1 : Hid ((brds f W (y * W + x)).length + 1 ≤ maxLen) := by show _ ≤ _; have h1 := HBL.out (y * W + x); have h2 := HKK.out x y hltx hlty; unfold maxLen; omega
              have HB2 : Hid (((brds f W (y * W + x)).length + 1) * 32 ≤ 140737488355328) := by show _ ≤ _; have h1 := HBL.out (y * W + x); have h2 := HKK.out x y hltx hlty; omega
              have HNEXT : Hid (∀ (o : Obj) (v' : Value) (w8 : World), (w7.alloc o).grownBy w8 u3.ownBlock → w8.ownsRow w.heap.size 62 3 v' ((brds f W (y * W + x)).length + 1) (flatB (brds f W (y * W + x)) ++ [.int .i64 x, .int .i64 y, .string word]) → Hid (AlSt w g v' (brds f W (y * W + (x + 1))) (mdB f W (y * W + (x + 1))) w8)) := fun o v' w8 hgrow hown' => by
                show AlSt _ _ _ _ _ _
                rw [HE1.out]
                exact (HS7.out.ext (by repeat (first | exact World.Ext.refl _ | exact ⟨_, rfl⟩ | assumption | refine World.Ext.over ?_ _ | refine World.Ext.drewN ?_ _ | refine World.Ext.drew ?_ | refine World.Ext.alloc ?_ _ | refine World.Ext.setCell ?_ (by simp) _))).push (d := ((x : Int), (y : Int), word)) hgrow hown'
              have hown := HS7.out.d
              unfold GrowBd at hown
              have HLE : ∀ o' : Obj, w.heap.size ≤ (w7.alloc o').heap.size := fun o' => (HS7.out.x.alloc o').size
              clear HS7 HE1
              generalize brds f W (y * W + x) = bs at *
              go_wp2_with (at_builtin; refine wpList_append_own _ rfl _ _ 56 rfl w.heap.size 62 d0' (.agg #[.int .i64 0, .int .i64 0, .string ⟨#[]⟩]) 3 32 Try.underlying56 hd hy0 hy1 hy2 rfl (by decide) _ _ _ rfl (hown.alloc _) ⟨w7.heap.size, 0, none⟩ 1 1 [.int .i64 x, .int .i64 y, .string word] rfl rfl (cell3_at (by simp)) (by simp [Value.oneCell']) HB1.out HB2.out (HLE _) (fun v' w8 hown' hgrow _ => ?_); have HS9 := HNEXT.out _ _ _ hgrow hown'; clear hgrow hown' hown)
              go_roundw
              case rel => exact ⟨x + 1, by omega, by go_num, HS9⟩
              case measure => simp [intOf]; omega
            · have HS5 : Hid (AlSt w g u3 (brds f W (y * W + (x + 1))) (mdB f W (y * W + (x + 1))) w4) := by
                show AlSt _ _ _ _ _ _
                obtain ⟨e1, e2⟩ := HNO.out x y hltx (Or.inr HM.out)
                rw [e1, e2]; exact HS4.out
              clear HS4 d0 d1 HT HM
              go_wp2
              go_roundw
              case rel => exact ⟨x + 1, by omega, by go_num, HS5⟩
              case measure => simp [intOf]; omega
        · have : x = W := by omega
          subst this
          go_wp2_with fail
          refine (HWS.out _ HS.out.x).mono ?_
          rintro e w2 ⟨rfl, hx2⟩
          have HS2 := Lib.hid (HS.out.ext hx2)
          clear hx2 HS
          go_wp2
          go_roundw
          case rel => exact ⟨y + 1, by omega, by go_num, by rw [Nat.succ_mul]; exact HS2⟩
          case measure => simp [intOf]; omega
    · have : y = H := by omega
      subst this
      go_wp2_with fail
      refine (HHS.out _ HS.out.x).mono ?_
      rintro e w2 ⟨rfl, hx2⟩
      have HS2 := Lib.hid (HS.out.ext hx2)
      clear hx2 HS
      obtain ⟨a9, c9, hu3, _⟩ := World.ownsRow.form HS2.out.d
      subst hu3
      have HS9 : Hid (BordsRet w (brds f W (y * W)) (.returned (.slice a9 (brds f W (y * W)).length c9)) w2) := ⟨a9, c9, rfl, HS2.out.x, GrowBd.own HS2.out.d⟩
      go_wp2
      go_ret
      exact HS9.out
end Go.Proofs.Ythgkmaccbcpaeaa

/- BordersOf: the reference's. -/
namespace Go.Proofs.Ythgkmaccbcpaeaa
open Go Go.RowKit
def optBd (ok : Bool) (bs : List Bord) : List Bord := if ok then bs else []
def bordA (ss : List ByteArray) : List Bord := brds (pxl (picW ss) ss.length (picL ss)) (picW ss) (ss.length * picW ss)
def BordsRet2 (w : World) (bs : List Bord) (ok : Bool) (e : Ending) (w' : World) : Prop := ∃ a c, e = .returned (.tuple #[.slice a bs.length c, .bool ok]) ∧ w.Ext w' ∧ OwnBd w.heap.size w'.heap.size w' a bs
theorem bordA_bnd (ss : List ByteArray) : (optBd (picOk ss) (bordA ss)).length ≤ 262144 := by
  cases hk : picOk ss
  · simp [optBd]
  · obtain ⟨v1, v2, v3, v4, e1, -⟩ := picOk_spec hk
    have h1 := brds_len (pxl (picW ss) ss.length (picL ss)) (picW ss) (ss.length * picW ss)
    have h2 := Nat.mul_le_mul v2 v4
    show (bordA ss).length ≤ _
    unfold bordA
    omega
end Go.Proofs.Ythgkmaccbcpaeaa

/- Plain: the border that a pixel's upper side is on. -/
namespace Go.Proofs.Ythgkmaccbcpaeaa
open Go Go.RowKit
def bAtOk (ss : List ByteArray) (x y : Int) : Bool := picOk ss && (pxl (picW ss) ss.length (picL ss) x y && !pxl (picW ss) ss.length (picL ss) x (y - 1))
def bAtI (ss : List ByteArray) (x y : Int) : Nat := (bTo (pxl (picW ss) ss.length (picL ss)) (picW ss) (ss.length * picW ss)).findIdx fun j => inOrb (pxl (picW ss) ss.length (picL ss)) (stE (picW ss) j) ⟨x, y, 0⟩
def bAtR (ss : List ByteArray) (x y : Int) : Bord := if bAtOk ss x y then (bordA ss).getD (bAtI ss x y) bd0 else bd0
/-- What is told of the borders: where each begins, and which is the first one that is meant. -/
structure BAt (f : Int → Int → Bool) (W : Nat) (bs : List Bord) (x y : Nat) (i0 : Nat) : Prop where
  lt : i0 < bs.length
  few : bs.length ≤ 1200
  at_ : ∀ i, i < bs.length → ∃ e, EOk f e ∧ bs.getD i bd0 = (e.x, e.y, wrd f e) ∧ (i < i0 → inOrb f e ⟨(x : Int), (y : Int), 0⟩ = false) ∧ (i = i0 → inOrb f e ⟨(x : Int), (y : Int), 0⟩ = true)
theorem bAt_of {ss : List ByteArray} {x y : Int} (h : bAtOk ss x y = true) : ∃ X Y : Nat, x = (X : Int) ∧ y = (Y : Int) ∧ X < 16 ∧ Y < 16 ∧ picOk ss = true ∧ pxl (picW ss) ss.length (picL ss) x y = true ∧ pxl (picW ss) ss.length (picL ss) x (y - 1) = false ∧
    InBx (pxl (picW ss) ss.length (picL ss)) 16 16 ∧ BAt (pxl (picW ss) ss.length (picL ss)) (picW ss) (bordA ss) X Y (bAtI ss x y) ∧ bAtR ss x y = (bordA ss).getD (bAtI ss x y) bd0 := by
  have hR : bAtR ss x y = (bordA ss).getD (bAtI ss x y) bd0 := by unfold bAtR; rw [if_pos h]
  unfold bAtOk at h
  simp only [Bool.and_eq_true, Bool.not_eq_true'] at h
  obtain ⟨h0, h1, h2⟩ := h
  obtain ⟨v1, v2, v3, v4, -, -⟩ := picOk_spec h0
  have hb := inBx_pxl (picW ss) ss.length (picL ss)
  obtain ⟨p1, p2, p3, p4⟩ := hb x y h1
  obtain ⟨X, rfl⟩ := Int.eq_ofNat_of_zero_le p1
  obtain ⟨Y, rfl⟩ := Int.eq_ofNat_of_zero_le p3
  refine ⟨X, Y, rfl, rfl, by omega, by omega, h0, h1, h2, fun x y h => by have := hb x y h; omega, ?_, hR⟩
  have hcan : EOk (pxl (picW ss) ss.length (picL ss)) ⟨(X : Int), (Y : Int), 0⟩ := ⟨by show 0 < 4; omega, by
    show canB _ _ _ 0 = true
    unfold canB canQ
    simp [h1, h2]⟩
  have hd := all_done hb (by omega) (by omega) hcan
  unfold bAtI bordA brds
  generalize pxl (picW ss) ss.length (picL ss) = f at *
  have hmem : ∀ j, j ∈ bTo f (picW ss) (ss.length * picW ss) → EOk f (stE (picW ss) j) := fun j hj => isSt_ok (bTo_mem hj).2
  have hfew := brds_len f (picW ss) (ss.length * picW ss)
  unfold brds at hfew
  rw [List.length_map] at hfew
  have hmul := Nat.mul_le_mul v2 v4
  generalize bTo f (picW ss) (ss.length * picW ss) = js at *
  generalize picW ss = W at *
  have hex : ∃ j, j ∈ js ∧ inOrb f (stE W j) ⟨(X : Int), (Y : Int), 0⟩ = true := doneB_true.1 hd
  have hlt : (js.findIdx fun j => inOrb f (stE W j) ⟨(X : Int), (Y : Int), 0⟩) < js.length := List.findIdx_lt_length_of_exists hex
  refine ⟨by rw [List.length_map]; exact hlt, by rw [List.length_map]; omega, fun i hi => ?_⟩
  rw [List.length_map] at hi
  refine ⟨stE W js[i], hmem _ (List.getElem_mem hi), ?_, fun h => ?_, fun h => ?_⟩
  · rw [List.getD_eq_getElem?_getD, List.getElem?_map, List.getElem?_eq_getElem hi]
    rfl
  · exact List.not_of_lt_findIdx h
  · subst h
    exact List.findIdx_getElem (w := hlt)
theorem bAt_no {ss : List ByteArray} {x y : Int} (h : bAtOk ss x y = false) : bAtR ss x y = bd0 := by unfold bAtR; rw [h]; rfl
/-- A border and a word are returned. -/
def BordRet1 (w : World) (R : Bord) (ok : Bool) (e : Ending) (w' : World) : Prop := e = .returned (.tuple #[.agg #[.int .i64 R.1, .int .i64 R.2.1, .string R.2.2], .bool ok]) ∧ w.Ext w'
end Go.Proofs.Ythgkmaccbcpaeaa
