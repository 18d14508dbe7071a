/- Borders: how the reference follows one. -/
import Derived.Test.YtahhnjoeaodcjaaBrdS
namespace Go.Proofs.Ytahhnjoeaodcjaa
open Go Go.RowKit
def lenV : Value → Nat | .slice _ n _ => n | _ => 0
theorem tri_put {w : World} {p : Nat} {e : TypeId} {u v x : Value} (h : Tri w p e u v x) (a b c : Value) : Tri (((w.setCell ⟨p, 0, none⟩ a).setCell ⟨p, 1, none⟩ b).setCell ⟨p, 2, none⟩ c) p e a b c := by
  unfold Tri at *
  simp [World.setCell, Array.getElem?_modify, h]
theorem Res.store3 {w W1 : World} {p : Nat} {T : TypeId} {u v x : Value} (a b c : Value) (hX : w.Ext W1) (hp : w.heap.size ≤ p) (h : Tri W1 p T u v x) :
    W1.cell? ⟨p, 0, none⟩ = some u ∧ W1.frozen? ⟨p, 0, none⟩ = false ∧ W1.cell? ⟨p, 1, none⟩ = some v ∧ W1.frozen? ⟨p, 1, none⟩ = false ∧ W1.cell? ⟨p, 2, none⟩ = some x ∧ W1.frozen? ⟨p, 2, none⟩ = false ∧
    (((W1.setCell ⟨p, 0, none⟩ a).setCell ⟨p, 1, none⟩ b).setCell ⟨p, 2, none⟩ c).cell? ⟨p, 0, none⟩ = some a ∧ (((W1.setCell ⟨p, 0, none⟩ a).setCell ⟨p, 1, none⟩ b).setCell ⟨p, 2, none⟩ c).cell? ⟨p, 1, none⟩ = some b ∧ (((W1.setCell ⟨p, 0, none⟩ a).setCell ⟨p, 1, none⟩ b).setCell ⟨p, 2, none⟩ c).cell? ⟨p, 2, none⟩ = some c ∧
    Hid (w.Ext (((W1.setCell ⟨p, 0, none⟩ a).setCell ⟨p, 1, none⟩ b).setCell ⟨p, 2, none⟩ c)) :=
  ⟨h.cell0, h.free 0, h.cell1, h.free 1, h.cell2, h.free 2, (tri_put h a b c).cell0, (tri_put h a b c).cell1, (tri_put h a b c).cell2, ((hX.setCell (p := ⟨p, 0, none⟩) hp a).setCell (p := ⟨p, 1, none⟩) hp b).setCell (p := ⟨p, 2, none⟩) hp c⟩
/-- The letters of the first n steps. -/
def wordL (f : Int → Int → Bool) (e : Edg) (n : Nat) : List Int := (List.range n).map fun i => ((letN (itr f i e).k : Nat) : Int)
theorem wordL_len (f : Int → Int → Bool) (e : Edg) (n : Nat) : (wordL f e n).length = n := by simp [wordL]
theorem wordL_succ (f : Int → Int → Bool) (e : Edg) (n : Nat) : wordL f e (n + 1) = wordL f e n ++ [((letN (itr f n e).k : Nat) : Int)] := by simp [wordL, List.range_succ]
def wrd (f : Int → Int → Bool) (e : Edg) : ByteArray := strOfNums (wordL f e (per f e))
theorem let_at {k : Nat} (h : k < 4) : ∃ hs : k < (⟨#[114, 100, 108, 117]⟩ : ByteArray).size, (((⟨#[114, 100, 108, 117]⟩ : ByteArray)[k]'hs).toNat : Nat) = letN k := by
  refine ⟨h, ?_⟩
  match k, h with
  | 0, _ => rfl
  | 1, _ => rfl
  | 2, _ => rfl
  | 3, _ => rfl
theorem two_put0 {w : World} {p : Nat} {e : TypeId} {u v : Value} (h : Two w p e u v) (a : Value) : Two (w.setCell ⟨p, 0, none⟩ a) p e a v := by
  unfold Two at *
  simp [World.setCell, Array.getElem?_modify, h]
theorem two_put1 {w : World} {p : Nat} {e : TypeId} {u v : Value} (h : Two w p e u v) (a : Value) : Two (w.setCell ⟨p, 1, none⟩ a) p e u a := by
  unfold Two at *
  simp [World.setCell, Array.getElem?_modify, h]
/-- A border under way: where it began, what is returned, where it is, its letters. -/
structure FoSt (w : World) (p3 p4 p6 : Nat) (x0 y0 ax ay : Int) (v : Value) (bs : List Int) (wr : World) : Prop where
  x : w.Ext wr
  s : Two wr p3 67 (.int .i64 x0) (.int .i64 y0)
  r : Tri wr p4 69 (.int .i64 0) (.int .i64 0) (.string ⟨#[]⟩)
  a : Two wr p6 67 (.int .i64 ax) (.int .i64 ay)
  g : GrowOf (Value.int .u8) w.heap.size 5 wr v bs
section
variable {w wr w' : World} {p3 p4 p6 : Nat} {x0 y0 ax ay : Int} {v v' : Value} {bs : List Int}
theorem FoSt.ext (h : FoSt w p3 p4 p6 x0 y0 ax ay v bs wr) (hx : wr.Ext w') : FoSt w p3 p4 p6 x0 y0 ax ay v bs w' := ⟨h.x.trans hx, h.s.keep (hx.block h.s.lt), h.r.ext hx, h.a.keep (hx.block h.a.lt), h.g.ext hx⟩
theorem FoSt.push {z : Int} (h : FoSt w p3 p4 p6 x0 y0 ax ay v bs wr) (hg : wr.grownBy w' v.ownBlock) (ho : w'.ownsRow w.heap.size 5 1 v' (bs.length + 1) (bs.map (Value.int .u8) ++ [.int .u8 z])) : FoSt w p3 p4 p6 x0 y0 ax ay v' (bs ++ [z]) w' := by
  have hs : wr.heap[p3]? = _ := h.s
  have hr : wr.heap[p4]? = _ := h.r
  have ha : wr.heap[p6]? = _ := h.a
  exact ⟨h.x.grown hg fun k hk => (World.ownsRow.lt h.g k hk).1, h.s.keep (hg.block p3 h.s.lt (World.ownsRow.ne h.g hs (by decide))), h.r.keep (hg.block p4 h.r.lt (World.ownsRow.ne h.g hr (by decide))), h.a.keep (hg.block p6 h.a.lt (World.ownsRow.ne h.g ha (by decide))), GrowOf.push ho⟩
theorem FoSt.put (h : FoSt w p3 p4 p6 x0 y0 ax ay v bs wr) (h3 : p6 ≠ p3) (h4 : p6 ≠ p4) (hl : w.heap.size ≤ p6) (bx by' : Int) : FoSt w p3 p4 p6 x0 y0 bx ay v bs (wr.setCell ⟨p6, 0, none⟩ (.int .i64 bx)) ∧ FoSt w p3 p4 p6 x0 y0 ax by' v bs (wr.setCell ⟨p6, 1, none⟩ (.int .i64 by')) := by
  have ha : wr.heap[p6]? = _ := h.a
  have hne : some p6 ≠ v.ownBlock := World.ownsRow.ne h.g ha (by decide)
  exact ⟨⟨h.x.setCell (p := ⟨p6, 0, none⟩) hl _, h.s.keep (Below.heap_setCell _ _ _ _ (Ne.symm h3)), h.r.keep (Below.heap_setCell _ _ _ _ (Ne.symm h4)), two_put0 h.a _, h.g.setCell (a := ⟨p6, 0, none⟩) hne _⟩,
    ⟨h.x.setCell (p := ⟨p6, 1, none⟩) hl _, h.s.keep (Below.heap_setCell _ _ _ _ (Ne.symm h3)), h.r.keep (Below.heap_setCell _ _ _ _ (Ne.symm h4)), two_put1 h.a _, h.g.setCell (a := ⟨p6, 1, none⟩) hne _⟩⟩
end
@[go_sem] theorem Try.eqSpotF (a b c d : Int) (w : World) : (Op.equalIn 10000 67 (.agg #[.int .i64 a, .int .i64 b]) (.agg #[.int .i64 c, .int .i64 d])).run Try.prog w = .ok (a == c && b == d) w := by
  have u3 := Try.underlying2
  have hS : Try.prog.underlying 67 = some (.struct (Try.prog.fieldsOf 67)) := by kernel_rfl
  have hp : Try.prog.stoodInHeld 67 = false := by kernel_rfl
  rw [show (10000 : Nat) = 9999 + 1 from rfl, run_equalIn_agg w 9999 67 _ _ hS hp]
  simp only [Program.fieldsOf, Try.underlying67]
  go_simp
  by_cases h1 : a = c <;> by_cases h2 : b = d <;> simp [h1, h2]
theorem itr_step {f : Int → Int → Bool} (e : Edg) (i : Nat) : (itr f (i + 1) e).x = (itr f i e).x + dX (itr f i e).k ∧ (itr f (i + 1) e).y = (itr f i e).y + dY (itr f i e).k ∧
    (itr f (i + 1) e).k = if canB f ((itr f i e).x + dX (itr f i e).k) ((itr f i e).y + dY (itr f i e).k) (((itr f i e).k + 1) % 4) then ((itr f i e).k + 1) % 4 else if canB f ((itr f i e).x + dX (itr f i e).k) ((itr f i e).y + dY (itr f i e).k) (itr f i e).k then (itr f i e).k else ((itr f i e).k + 3) % 4 := ⟨rfl, rfl, rfl⟩
theorem Edg.eq_of {e e' : Edg} (h1 : e.x = e'.x) (h2 : e.y = e'.y) (h3 : e.k = e'.k) : e = e' := by
  cases e; cases e'; simp_all
set_option maxRecDepth 5000 in
set_option maxHeartbeats 6400000 in
theorem l04Follow_any (p : Nat) (a : Option Addr) (c : Nat) (ss : List ByteArray) (x0 y0 : Int) (w : World) (he : Even ss) (hW : picW ss ≤ 16) (hH : ss.length ≤ 16) (hp : w.cell? ⟨p, 0, none⟩ = some (.slice a ss.length c)) (hm : RowS w a ss)
    (hok : EOk (pxl (picW ss) ss.length (picL ss)) ⟨x0, y0, 0⟩) :
    Calls Try.prog 206 #[.pointer (some ⟨p, 0, none⟩), .agg #[.int .i64 x0, .int .i64 y0]] w fun e w' => e = .returned (.agg #[.int .i64 x0, .int .i64 y0, .string (wrd (pxl (picW ss) ss.length (picL ss)) ⟨x0, y0, 0⟩)]) ∧ w.Ext w' := by
  obtain ⟨iu, hiu, hu0, hu1, hu2⟩ := info_parts Try.infoU8B
  have hbx := inBx_pxl (picW ss) ss.length (picL ss)
  obtain ⟨W0, hW0⟩ : ∃ W0, W0 = (((w.alloc (.cells #[.int .i64 x0, .int .i64 y0] 67)).alloc (.cells #[.int .i64 0, .int .i64 0, .string ⟨#[]⟩] 69)).alloc (.cells #[] 5)).alloc (.cells #[.int .i64 x0, .int .i64 y0] 67) := ⟨_, rfl⟩
  obtain ⟨e, hee⟩ : ∃ e : Edg, e = ⟨x0, y0, 0⟩ := ⟨_, rfl⟩
  rw [← hee] at hok ⊢
  have HST : Hid (FoSt w w.heap.size (w.heap.size + 1) (w.heap.size + 1 + 1 + 1) x0 y0 (itr (pxl (picW ss) ss.length (picL ss)) 0 e).x (itr (pxl (picW ss) ss.length (picL ss)) 0 e).y (.slice (some ⟨w.heap.size + 1 + 1, 0, none⟩) 0 0) (wordL (pxl (picW ss) ss.length (picL ss)) e 0) W0) := by
    show FoSt w w.heap.size (w.heap.size + 1) (w.heap.size + 1 + 1 + 1) x0 y0 e.x e.y _ [] W0
    rw [hee]
    refine ⟨by rw [hW0]; repeat (first | exact World.Ext.refl _ | exact ⟨_, rfl⟩ | assumption | refine World.Ext.over ?_ _ | refine World.Ext.drewN ?_ _ | refine World.Ext.drew ?_ | refine World.Ext.alloc ?_ _ | refine World.Ext.setCell ?_ (by simp) _), ?_, ?_, ?_, ?_⟩
    · rw [hW0]; exact (Two.new w _ _ _ _ rfl).ext (by repeat (first | exact World.Ext.refl _ | exact ⟨_, rfl⟩ | assumption | refine World.Ext.over ?_ _ | refine World.Ext.drewN ?_ _ | refine World.Ext.drew ?_ | refine World.Ext.alloc ?_ _ | refine World.Ext.setCell ?_ (by simp) _))
    · rw [hW0]
      exact (Tri.new (w.alloc (.cells #[.int .i64 x0, .int .i64 y0] 67)) (.int .i64 0) (.int .i64 0) (.string ⟨#[]⟩) 69 (w.heap.size + 1) (by simp)).ext (by repeat (first | exact World.Ext.refl _ | exact ⟨_, rfl⟩ | assumption | refine World.Ext.over ?_ _ | refine World.Ext.drewN ?_ _ | refine World.Ext.drew ?_ | refine World.Ext.alloc ?_ _ | refine World.Ext.setCell ?_ (by simp) _))
    · rw [hW0]; exact Two.new _ _ _ _ _ (by simp)
    · rw [hW0]
      have h := (GrowOf.empty (f := Value.int .u8) (lo := w.heap.size) (e := 5) ((w.alloc (.cells #[.int .i64 x0, .int .i64 y0] 67)).alloc (.cells #[.int .i64 0, .int .i64 0, .string ⟨#[]⟩] 69)) (by simp; omega)).ext ((World.Ext.refl _).alloc (.cells #[.int .i64 x0, .int .i64 y0] 67))
      simpa using h
  have HCAN : Hid (∀ w', w.Ext w' → ∀ (x y : Int) (k : Nat) (z : Int), -1000 ≤ x ∧ x ≤ 1000 → -1000 ≤ y ∧ y ≤ 1000 → k < 4 → z = k → ∀ t, canB (pxl (picW ss) ss.length (picL ss)) x y k = t → Calls Try.prog 205 #[.pointer (some ⟨p, 0, none⟩), .agg #[.int .i64 x, .int .i64 y], .int .i64 z] w' fun e w'' => e = .returned (.bool t) ∧ w'.Ext w'') := fun w' hx x y k z h1 h2 h3 h4 t ht => by
    subst h4
    exact l04Can_any p a c ss x y k w' he (by omega) (by omega) (hx.cell hp) (hm.ext hx) h1 h2 h3 t ht
  obtain ⟨hper, hpn⟩ := per_of hbx hW hH hok
  have HBX : Hid (∀ i, 0 ≤ (itr (pxl (picW ss) ss.length (picL ss)) i e).x ∧ (itr (pxl (picW ss) ss.length (picL ss)) i e).x ≤ 16 ∧ 0 ≤ (itr (pxl (picW ss) ss.length (picL ss)) i e).y ∧ (itr (pxl (picW ss) ss.length (picL ss)) i e).y ≤ 16) := fun i => by
    have h := hbx.edge (itr_ok hok i)
    omega
  have HK4 : Hid (∀ i, (itr (pxl (picW ss) ss.length (picL ss)) i e).k < 4) := fun i => (itr_ok hok i).1
  unfold wrd
  generalize hn : per (pxl (picW ss) ss.length (picL ss)) e = n at *
  have HPER := Lib.hid hper
  have HSTEP := Lib.hid (fun i => itr_step (f := pxl (picW ss) ss.length (picL ss)) e i)
  have HWS := Lib.hid (fun i => wordL_succ (pxl (picW ss) ss.length (picL ss)) e i)
  have HWL := Lib.hid (fun i => wordL_len (pxl (picW ss) ss.length (picL ss)) e i)
  have HP0 : Hid ((itr (pxl (picW ss) ss.length (picL ss)) 0 e).k = 0) := by show e.k = 0; rw [hee]
  have HEE : Hid (e.x = x0 ∧ e.y = y0 ∧ e.k = 0) := by rw [hee]; exact ⟨rfl, rfl, rfl⟩
  have HPN : Hid (0 < n ∧ (itr (pxl (picW ss) ss.length (picL ss)) n e) = e ∧ ∀ i, 0 < i → i < n → itr (pxl (picW ss) ss.length (picL ss)) i e ≠ e) := hper
  clear he hp hm hok hbx hn hper HPER hee
  have HRS : Hid (strOfNums (wordL (pxl (picW ss) ss.length (picL ss)) e n) = strOfNums (wordL (pxl (picW ss) ss.length (picL ss)) e n)) := rfl
  generalize hres : strOfNums (wordL (pxl (picW ss) ss.length (picL ss)) e n) = res at *
  have HRES := Lib.hid hres
  clear hres HRS
  generalize pxl (picW ss) ss.length (picL ss) = f at *
  generalize hX : (fun i => (itr f i e).x) = X at *
  generalize hY : (fun i => (itr f i e).y) = Y at *
  generalize hKK : (fun i => (itr f i e).k) = K at *
  have eX : ∀ i, (itr f i e).x = X i := fun i => congrFun hX i
  have eY : ∀ i, (itr f i e).y = Y i := fun i => congrFun hY i
  have eK : ∀ i, (itr f i e).k = K i := fun i => congrFun hKK i
  have HPN2 : Hid (0 < n ∧ X n = x0 ∧ Y n = y0 ∧ K n = 0 ∧ ∀ i, 0 < i → i < n → ¬ (X i = x0 ∧ Y i = y0 ∧ K i = 0)) := by
    obtain ⟨h1, h2, h3⟩ := HPN.out
    obtain ⟨q1, q2, q3⟩ := HEE.out
    refine ⟨h1, by rw [← eX, h2, q1], by rw [← eY, h2, q2], by rw [← eK, h2, q3], fun i hi hin hh => h3 i hi hin (Edg.eq_of ?_ ?_ ?_)⟩
    · rw [eX, hh.1, q1]
    · rw [eY, hh.2.1, q2]
    · rw [eK, hh.2.2, q3]
  simp only [eX, eY, eK] at HST HBX HK4 HSTEP HWS HP0
  generalize hWL : (fun i => wordL f e i) = WL at *
  have eW : ∀ i, wordL f e i = WL i := fun i => congrFun hWL i
  simp only [eW] at HST HWS HWL HRES
  clear hX hY hKK eX eY eK hWL eW HPN HEE
  go_enter Try.func206, Try.ntmps206
  go_upto_region 3 with fail
  rw [← hW0]
  clear hW0
  go_wp2
  have HLE0 := Lib.hid (HST.out.x.size)
  generalize hq : w.heap.size = q at *
  have HQ := Lib.hid hq
  clear hq
  go_loopw [5, 7] (fun v z wr => ∃ i : Nat, i ≤ n ∧ (∃ av cv, v = .slice av i cv) ∧ z = .int .i64 (K i : Nat) ∧ Hid (FoSt w q (q + 1) (q + 1 + 1 + 1) x0 y0 (X i) (Y i) v (WL i) wr)) (fun v _ _ => n - lenV v)
  case atStart => exact ⟨0, Nat.zero_le _, ⟨_, _, rfl⟩, by rw [HP0.out]; rfl, HST⟩
  case round =>
    obtain ⟨i, hi, ⟨av, cv, rfl⟩, rfl, HS⟩ := hrel
    clear HST
    obtain ⟨wo, rfl⟩ : ∃ wo : World, wo = wr := ⟨_, rfl⟩
    have hi0 : (0 : Int) ≤ (i : Int) := by omega
    have hk4 := HK4.out i
    obtain ⟨bx1, bx2, bx3, bx4⟩ := HBX.out i
    obtain ⟨bn1, bn2, bn3, bn4⟩ := HBX.out (i + 1)
    have hle := HS.out.x.size
    have c30 := HS.out.s.cell0
    have c31 := HS.out.s.cell1
    have c60 := HS.out.a.cell0
    have c61 := HS.out.a.cell1
    have l3 := HS.out.s.lt
    have l6 := HS.out.a.lt
    by_cases hin : i < n
    · obtain ⟨hX1, hY1, hK1⟩ := HSTEP.out i
      have HW1 := Lib.hid (HWS.out i)
      obtain ⟨hs, hlet⟩ := let_at hk4
      have hwl : (WL i).length = i := HWL.out i
      have HNL := HPN2.out.2.2.2.2 i
      have HNL := Lib.hid HNL
      have hnn : n ≤ 1200 := hpn
      have HB1 : Hid (i + 1 ≤ maxLen) := by show _ ≤ _; unfold maxLen; omega
      have HB2 : Hid ((i + 1) * 1 ≤ 140737488355328) := by show _ ≤ _; omega
      have HNEXT : Hid (∀ (o : Obj) (v' : Value) (w1 : World), (wo.alloc o).grownBy w1 (Value.slice av i cv).ownBlock → w1.ownsRow q 5 1 v' (i + 1) ((WL i).map (Value.int .u8) ++ [.int .u8 ((letN (K i) : Nat) : Int)]) → Hid (FoSt w q (q + 1) (q + 1 + 1 + 1) x0 y0 (X i) (Y i) v' (WL (i + 1)) w1) ∧ ∃ a' c', v' = .slice a' (i + 1) c') := fun o v' w1 hg ho => by
        have h := (HS.out.ext (by repeat (first | exact World.Ext.refl _ | exact ⟨_, rfl⟩ | assumption | refine World.Ext.over ?_ _ | refine World.Ext.drewN ?_ _ | refine World.Ext.drew ?_ | refine World.Ext.alloc ?_ _ | refine World.Ext.setCell ?_ (by simp) _))).push (z := ((letN (K i) : Nat) : Int)) hg (by rw [hwl, HQ.out]; exact ho)
        rw [← HW1.out] at h
        obtain ⟨a', c', e', -⟩ := h.g.form
        rw [HWL.out] at e'
        exact ⟨h, a', c', e'⟩
      have HLE : ∀ o' : Obj, q ≤ (wo.alloc o').heap.size := fun o' => by rw [← HQ.out]; exact (HS.out.x.alloc o').size
      have HOWN : Hid (wo.ownsRow q 5 1 (.slice av i cv) i ((WL i).map (Value.int .u8))) := by have h := HS.out.g; unfold GrowOf at h; rw [hwl, HQ.out] at h; exact h
      have hown := HOWN.out
      have hdx : -1 ≤ dX (K i) ∧ dX (K i) ≤ 1 := by unfold dX; split <;> (try split) <;> omega
      have hdy : -1 ≤ dY (K i) ∧ dY (K i) ≤ 1 := by unfold dY; split <;> (try split) <;> omega
      have HCX := Lib.hid (fun w' => l04X_any (K i) w' hk4)
      have HCY := Lib.hid (fun w' => l04Y_any (K i) w' hk4)
      have HK1 := Lib.hid hK1
      have HX1 := Lib.hid hX1
      have HY1 := Lib.hid hY1
      clear hX1 hY1 hK1 hwl HSTEP HWS
      have hcases : ((i : Int) == 0) = true ∨ ((i : Int) == 0) = false ∧ ((X i == x0) = false ∨ (X i == x0) = true ∧ ((Y i == y0) = false ∨ (Y i == y0) = true ∧ ((K i : Int) != 0) = true)) := by
        cases e0 : ((i : Int) == 0)
        · right
          refine ⟨rfl, ?_⟩
          cases e1 : (X i == x0)
          · exact .inl rfl
          · right
            refine ⟨rfl, ?_⟩
            cases e2 : (Y i == y0)
            · exact .inl rfl
            · right
              refine ⟨rfl, ?_⟩
              rw [bne_iff_ne]
              intro e3
              have e0' : (i : Int) ≠ 0 := beq_eq_false_iff_ne.1 e0
              exact HNL.out (by omega) hin ⟨eq_of_beq e1, eq_of_beq e2, by omega⟩
        · exact .inl rfl
      have hk4' : ((K i : Nat) : Int) < 4 := by omega
      have hk0' : (0 : Int) ≤ ((K i : Nat) : Int) := by omega
      clear HNL
      rcases hcases with e0 | ⟨e0, e1 | ⟨e1, e2 | ⟨e2, e3⟩⟩⟩
      all_goals
        go_wp2_with (at_builtin; refine wpList_append_own _ rfl _ _ 22 rfl q 5 iu (.int .u8 0) 1 1 Try.underlying22 hiu hu0 hu1 hu2 rfl (by decide) _ _ _ rfl (hown.alloc _) ⟨wo.heap.size, 0, none⟩ 1 1 [.int .u8 ((letN (K i) : Nat) : Int)] rfl rfl (cell_one_at (by simp)) (by simp [Value.oneCell']) HB1.out HB2.out (HLE _) (fun v' w1 hown' hgrow _ => ?_); obtain ⟨HS1, a', c', rfl⟩ := HNEXT.out _ _ _ hgrow hown'; clear hgrow hown' hown)
        clear c30 c31 c60 c61 l3 l6 hs hlet HOWN HNEXT HB1 HB2
        have d0 := HS1.out.a.cell0
        have ld := HS1.out.a.lt
        refine wp_region_over_tail 6 (by kernel_rfl) (by kernel_rfl) ?_; simp only [List.take_succ_cons, List.take_zero, List.drop_succ_cons, List.drop_zero]; (repeat (go_big_quiet_step ((go_at_call 144; exact Calls.over_of (HCX.out _))))); refine wpQuiet_nil ?_; rintro _ ⟨x1, rfl⟩
        have HS2 := Lib.hid (HS1.out.ext ⟨x1, rfl⟩)
        clear HS1 d0 ld HS
        generalize w1.over x1 = w2 at *
        have d0 := HS2.out.a.cell0
        have f0 := HS2.out.a.free 0
        have ld := HS2.out.a.lt
        obtain ⟨w3, hw3⟩ : ∃ w3, w3 = w2.setCell ⟨q + 1 + 1 + 1, 0, none⟩ (.int .i64 (X i + dX (K i))) := ⟨_, rfl⟩
        have HS3 : Hid (FoSt w q (q + 1) (q + 1 + 1 + 1) x0 y0 (X i + dX (K i)) (Y i) (.slice a' (i + 1) c') (WL (i + 1)) w3) := by rw [hw3]; exact (HS2.out.put (by omega) (by omega) (by rw [HQ.out]; omega) _ 0).1
        go_upto_region 7 with fail
        rw [← hw3]
        clear hw3 d0 f0 ld HS2
        have d1 := HS3.out.a.cell1
        have ld := HS3.out.a.lt
        refine wp_region_over_tail 6 (by kernel_rfl) (by kernel_rfl) ?_; simp only [List.take_succ_cons, List.take_zero, List.drop_succ_cons, List.drop_zero]; (repeat (go_big_quiet_step ((go_at_call 145; exact Calls.over_of (HCY.out _))))); refine wpQuiet_nil ?_; rintro _ ⟨x1, rfl⟩
        have HS4 := Lib.hid (HS3.out.ext ⟨x1, rfl⟩)
        clear HS3 d1 ld
        generalize w3.over x1 = w4 at *
        have d1 := HS4.out.a.cell1
        have f1 := HS4.out.a.free 1
        have ld := HS4.out.a.lt
        obtain ⟨w5, hw5⟩ : ∃ w5, w5 = w4.setCell ⟨q + 1 + 1 + 1, 1, none⟩ (.int .i64 (Y i + dY (K i))) := ⟨_, rfl⟩
        have HS5 : Hid (FoSt w q (q + 1) (q + 1 + 1 + 1) x0 y0 (X i + dX (K i)) (Y i + dY (K i)) (.slice a' (i + 1) c') (WL (i + 1)) w5) := by rw [hw5]; exact (HS4.out.put (by omega) (by omega) (by rw [HQ.out]; omega) 0 _).2
        go_upto_region 8 with fail
        rw [← hw5]
        clear hw5 d1 f1 ld HS4
        rw [← HX1.out, ← HY1.out] at HS5
        have hk1 : (K i + 1) % 4 < 4 := Nat.mod_lt _ (by omega)
        have hk3 : (K i + 3) % 4 < 4 := Nat.mod_lt _ (by omega)
        have t1 : (((K i : Nat) : Int) + 1) % 4 = (((K i + 1) % 4 : Nat) : Int) := by omega
        have t3 : (((K i : Nat) : Int) + 3) % 4 = (((K i + 3) % 4 : Nat) : Int) := by omega
        have T1 := Lib.hid t1
        have T3 := Lib.hid t3
        have HK := HK1.out
        rw [← HX1.out, ← HY1.out] at HK
        have c60 := HS5.out.a.cell0
        have c61 := HS5.out.a.cell1
        have l6 := HS5.out.a.lt
        cases hc1 : canB f (X (i + 1)) (Y (i + 1)) ((K i + 1) % 4)
        · cases hc2 : canB f (X (i + 1)) (Y (i + 1)) (K i)
          all_goals
            have HC1 := Lib.hid (HCAN.out w5 HS5.out.x (X (i + 1)) (Y (i + 1)) ((K i + 1) % 4) ((((K i : Nat) : Int) + 1) % 4) (by omega) (by omega) hk1 t1 _ hc1)
            have HC2 := Lib.hid (fun w' (hx : w5.Ext w') => HCAN.out w' (HS5.out.x.trans hx) (X (i + 1)) (Y (i + 1)) (K i) ((K i : Nat) : Int) (by omega) (by omega) hk4 rfl _ hc2)
            rw [hc1, hc2] at HK
            simp only [Bool.false_eq_true, if_false, if_true] at HK
            have HKN := Lib.hid HK
            clear HK hc1 hc2 t1 t3 HK1
            go_wp2_with fail
            refine HC1.out.mono ?_
            rintro e w6 ⟨rfl, hx6⟩
            have HX6 := Lib.hid hx6
            have HS6 := Lib.hid (HS5.out.ext hx6)
            clear hx6 c60 c61 l6 HS5
            have c60 := HS6.out.a.cell0
            have c61 := HS6.out.a.cell1
            have l6 := HS6.out.a.lt
            go_wp2_with fail
            refine (HC2.out w6 HX6.out).mono ?_
            rintro e w7 ⟨rfl, hx7⟩
            have HS7 := Lib.hid (HS6.out.ext hx7)
            clear hx7 c60 c61 l6 HS6
            go_wp2
            go_roundw
            case rel => exact ⟨i + 1, by omega, ⟨_, _, rfl⟩, by first | (rw [HKN.out, ← T3.out]; done) | (rw [HKN.out]; done), HS7⟩
            case measure => simp [lenV]; omega
        · have HC1 := Lib.hid (HCAN.out w5 HS5.out.x (X (i + 1)) (Y (i + 1)) ((K i + 1) % 4) ((((K i : Nat) : Int) + 1) % 4) (by omega) (by omega) hk1 t1 _ hc1)
          rw [hc1, if_pos rfl] at HK
          have HKN := Lib.hid HK
          clear HK hc1 t1 t3 HK1
          go_wp2_with fail
          refine HC1.out.mono ?_
          rintro e w6 ⟨rfl, hx6⟩
          have HS6 := Lib.hid (HS5.out.ext hx6)
          clear hx6 c60 c61 l6 HS5
          go_wp2
          go_roundw
          case rel => exact ⟨i + 1, by omega, ⟨_, _, rfl⟩, by rw [HKN.out, ← T1.out], HS6⟩
          case measure => simp [lenV]; omega
    · have hin' : i = n := by omega
      obtain ⟨p1, p2, p3, p4, -⟩ := HPN2.out
      have e0 : ((i : Int) == 0) = false := by rw [beq_eq_false_iff_ne]; omega
      have e1 : (X i == x0) = true := by rw [beq_iff_eq, hin']; exact p2
      have e2 : (Y i == y0) = true := by rw [beq_iff_eq, hin']; exact p3
      have e3 : ((K i : Int) != 0) = false := by rw [hin', p4]; rfl
      have hwl : (WL i).length = i := HWL.out i
      obtain ⟨g, cap, hsl, hg1, hg2, hcell⟩ := HS.out.g.some (by omega)
      rw [hwl] at hsl
      cases hsl
      have hcv := run_convert_bytes_arg (P := Try.prog) wo 22 5 Try.underlying22 Try.underlying5 g 0 i cv (WL i) hwl (by intro j hj; rw [Nat.zero_add]; exact hcell 0 j (by omega)) 9 Try.underlying9
      have hres2 : strOfNums (WL i) = res := by rw [hin']; exact HRES.out
      rw [hres2] at hcv
      obtain ⟨s0, s1, s2, s3, s4, s5, s6, s7, s8, HR⟩ := Res.store3 (.int .i64 x0) (.int .i64 y0) (.string res) HS.out.x (by rw [HQ.out]; omega) HS.out.r
      clear HS hres2 hcell hwl hin' p1 p2 p3 p4
      go_wp2
      exact bodyPost_ret (v := .agg #[.int .i64 x0, .int .i64 y0, .string res]) (by simp [results, Try.results206, go_sem, s6, s7, s8]) rfl ⟨rfl, HR.out⟩
end Go.Proofs.Ytahhnjoeaodcjaa
