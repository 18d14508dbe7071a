/- Grey pictures that grow within a mask: the reference's walk. -/
import Derived.Test.YthgkmaccbcpaeaaGreyK
import Derived.Deep.RegionHeld3
namespace Go
open Go.RowKit
theorem GrowOf.raise {α : Type} {f : α → Value} {lo lo' : Nat} {e : TypeId} {w : World} {g n cap : Nat} {xs : List α} (h : GrowOf f lo e w (.slice (Option.some ⟨g, 0, Option.none⟩) n cap) xs) (hg : lo' ≤ g) : GrowOf f lo' e w (.slice (Option.some ⟨g, 0, Option.none⟩) n cap) xs := by
  obtain ⟨h1, h2⟩ := h
  refine ⟨h1, ?_⟩
  rcases h2 with h0 | ⟨g', c, cur, hv, -, r⟩
  · exact .inl h0
  · simp only [Value.slice.injEq, Option.some.injEq, Addr.mk.injEq] at hv
    obtain ⟨⟨rfl, -, -⟩, rfl, rfl⟩ := hv
    exact .inr ⟨g, cap, cur, rfl, hg, r⟩
end Go
namespace Go.Proofs.Ythgkmaccbcpaeaa
open Go Go.RowKit
/-- A list of the call's own that is written in place. -/
structure RcSt (wS : World) (g cap n : Nat) (l : List Int) (wr : World) : Prop where
  wrote : Wrote (fun k => k = g ∨ wS.heap.size ≤ k) wS wr
  grow : GrowOf (Value.int .i64) 0 2 wr (.slice (some ⟨g, 0, none⟩) n cap) l
  len : l.length = n
theorem RcSt.ext {wS : World} {g cap n : Nat} {l : List Int} {wr w' : World} (h : RcSt wS g cap n l wr) (hx : wr.Ext w') : RcSt wS g cap n l w' := ⟨h.wrote.trans (hx.wrote _), h.grow.ext hx, h.len⟩
theorem RcSt.at {wS : World} {g cap n : Nat} {l : List Int} {wr : World} (h : RcSt wS g cap n l wr) {i : Nat} (hi : i < n) :
    wr.cell? ⟨g, i, none⟩ = some (.int .i64 (l.getD i 0)) ∧ wr.frozen? ⟨g, i, none⟩ = false ∧ ∀ z, RcSt wS g cap n (l.set i z) (wr.setCell ⟨g, i, none⟩ (.int .i64 z)) := by
  obtain ⟨g', cap', hv, -, hc, hf, hset⟩ := GrowOf.atI 0 h.grow (i := i) (by rw [h.len]; exact hi)
  simp only [Value.slice.injEq, Option.some.injEq, Addr.mk.injEq] at hv
  obtain ⟨⟨rfl, -, -⟩, -, -⟩ := hv
  exact ⟨hc, hf, fun z => ⟨h.wrote.setCell (p := ⟨g, i, none⟩) (.inl rfl) _, hset z, by rw [List.length_set, h.len]⟩⟩
theorem RcSt.x {w wS : World} {g cap n : Nat} {l : List Int} {wr : World} (h : RcSt wS g cap n l wr) (hx : w.Ext wS) (hg : w.heap.size ≤ g) : w.Ext wr := hx.wroteNew h.wrote fun k hk hs => by have := hx.size; omega
theorem RcSt.start {wS : World} {lo g cap n : Nat} {l : List Int} (h : GrowOf (Value.int .i64) lo 2 wS (.slice (some ⟨g, 0, none⟩) n cap) l) (hl : l.length = n) : RcSt wS g cap n l wS := ⟨Wrote.refl _ _, h.raise (Nat.zero_le _), hl⟩
theorem set_self {l : List Int} {k : Nat} : l.set k (l.getD k 0) = l := by
  apply List.ext_getElem?
  intro i
  rw [List.getElem?_set]
  by_cases e : k = i
  · subst e
    rw [if_pos rfl]
    split
    · rename_i h; rw [List.getD_eq_getElem?_getD, List.getElem?_eq_getElem h]; rfl
    · rename_i h; rw [List.getElem?_eq_none (by omega)]
  · rw [if_neg e]
theorem wrap_small {n : Int} (h0 : 0 ≤ n) (h1 : n ≤ 9000000000) : wrap64 n = n := by
  unfold wrap64
  omega
def mxK (a b : Int) : Int := if b < a then a else b
theorem l00Min_any (a b : Int) (w : World) : Calls Try.prog 135 #[.int .i64 a, .int .i64 b] w fun e w' => e = .returned (.int .i64 (mnI a b)) ∧ w.Ext w' := by
  unfold mnI
  by_cases h : a < b
  · rw [if_pos h]
    go_enter Try.func135, Try.ntmps135
    go_wp2
    go_ret
    exact ⟨rfl, .refl _⟩
  · rw [if_neg h]
    go_enter Try.func135, Try.ntmps135
    go_wp2
    go_ret
    exact ⟨rfl, .refl _⟩
end Go.Proofs.Ythgkmaccbcpaeaa

/- CutPeaks and ReconstructGrey: the reference's side. -/
namespace Go.Proofs.Ythgkmaccbcpaeaa
open Go Go.RowKit
/-- Of a list the first k turned. -/
def mapTo (f : Int → Int) (l : List Int) (k : Nat) : List Int := (l.take k).map f ++ l.drop k
theorem mapTo_len (f : Int → Int) (l : List Int) (k : Nat) : (mapTo f l k).length = l.length := by unfold mapTo; simp; omega
theorem mapTo_at {f : Int → Int} {l : List Int} {k : Nat} : (mapTo f l k).getD k 0 = l.getD k 0 := by
  unfold mapTo
  by_cases h : k < l.length
  · have h1 : (List.map f (l.take k)).length = k := by simp; omega
    rw [List.getD_eq_getElem?_getD, List.getElem?_append_right (by omega), h1, Nat.sub_self, List.getElem?_drop, Nat.add_zero, ← List.getD_eq_getElem?_getD]
  · rw [List.getD_eq_getElem?_getD, List.getD_eq_getElem?_getD, List.getElem?_eq_none (by simp; omega), List.getElem?_eq_none (by omega)]
theorem mapTo_set {f : Int → Int} {l : List Int} {k : Nat} (h : k < l.length) : (mapTo f l k).set k (f (l.getD k 0)) = mapTo f l (k + 1) := by
  unfold mapTo
  have h1 : (List.map f (l.take k)).length = k := by simp; omega
  have e2 : l.getD k 0 = l[k] := by rw [List.getD_eq_getElem?_getD, List.getElem?_eq_getElem h]; rfl
  rw [List.set_append_right _ _ (by omega), h1, Nat.sub_self, List.take_succ_eq_append_getElem h, List.map_append, List.append_assoc, List.drop_eq_getElem_cons h, List.set_cons_zero, e2]
  rfl
theorem mapTo_all (f : Int → Int) (l : List Int) : mapTo f l l.length = l.map f := by unfold mapTo; simp
/-- The lowered numbers. -/
def cutF (h z : Int) : Int := mxK 0 (z - h)
def cutL (h : Int) (l : List Int) : List Int := l.map (cutF h)
theorem flat_get {m : List (List Int)} (hok : tableOk m 99 = true) {k : Nat} (hk : k < m.flatten.length) : 0 ≤ m.flatten.getD k 0 ∧ m.flatten.getD k 0 ≤ 99 := by
  obtain ⟨v1, v2, v3, v4, v5, v6⟩ := tableOk_spec hok
  have hl := flat_len (m.getD 0 []).length m v5
  have hW : 0 < (m.getD 0 []).length := by omega
  have hx : k % (m.getD 0 []).length < (m.getD 0 []).length := Nat.mod_lt _ hW
  have hy : k / (m.getD 0 []).length < m.length := by rw [Nat.div_lt_iff_lt_mul hW, Nat.mul_comm]; omega
  have he : k / (m.getD 0 []).length * (m.getD 0 []).length + k % (m.getD 0 []).length = k := by rw [Nat.mul_comm]; exact Nat.div_add_mod _ _
  have h := flat_at (m.getD 0 []).length m _ _ v5 hy hx
  rw [he] at h
  rw [h]
  exact v6 _ _ hy (by rw [v5 _ hy]; exact hx)
theorem cut_under {h : Int} {l : List Int} (h0 : 0 ≤ h) (hl : ∀ k, k < l.length → 0 ≤ l.getD k 0) : Under l (cutL h l) := by
  unfold cutL
  refine ⟨by simp, fun k hk => ?_⟩
  rw [List.length_map] at hk
  have e : (l.map (cutF h)).getD k 0 = cutF h (l.getD k 0) := by
    rw [List.getD_eq_getElem?_getD, List.getElem?_map, List.getD_eq_getElem?_getD, List.getElem?_eq_getElem hk]
    rfl
  rw [e]
  have := hl k hk
  unfold cutF mxK
  split <;> omega
def cutOk (m : List (List Int)) (h : Int) : Bool := tableOk m 99 && inB h 0 99
/-- What is left of the peaks. -/
def CutO (m : List (List Int)) (h : Int) (res : List Int) : Prop := cutOk m h = true → PasR (greC (m.getD 0 []).length m.length m.flatten) (greV (m.getD 0 []).length m.length m.flatten) m.flatten.length (cutL h m.flatten) res
theorem CutO.ex (m : List (List Int)) (h : Int) : ∃ res, CutO m h res := by
  by_cases hc : cutOk m h = true
  · have hc2 := hc
    unfold cutOk at hc2
    rw [Bool.and_eq_true, inB_true] at hc2
    obtain ⟨res, hr⟩ := GreR.ex (m.getD 0 []).length m.length (cut_under hc2.2.1 fun k hk => (flat_get hc2.1 hk).1)
    exact ⟨res, fun _ => hr⟩
  · exact ⟨[], fun h2 => absurd h2 hc⟩
theorem GreyRet2.no {w w' : World} (hx : w.Ext w') : GreyRet2 w [] false (.returned (.tuple #[.agg #[.slice none 0 0], .bool false])) w' := ⟨none, 0, _, _, rfl, hx, OwnMat.none _ _ _ _⟩
end Go.Proofs.Ythgkmaccbcpaeaa

/- Grey pictures that grow within a mask: the program's walk. -/
namespace Go.Proofs.Ythgkmaccbcpaeaa
open Go Go.RowKit
/-- The table under way. -/
structure GrSt (lo hi : Nat) (wS : World) (a : Option Addr) (A : Nat → Option Addr) (C : Nat → Nat) (W H : Nat) (l : List Int) (wr : World) : Prop where
  wrote : Wrote (fun k => (lo ≤ k ∧ k < hi) ∨ wS.heap.size ≤ k) wS wr
  mat : OwnMat lo hi wr a A C (grl W H l)
  len : l.length = H * W
theorem GrSt.ext {lo hi : Nat} {wS : World} {a : Option Addr} {A : Nat → Option Addr} {C : Nat → Nat} {W H : Nat} {l : List Int} {wr w' : World} (h : GrSt lo hi wS a A C W H l wr) (hx : wr.Ext w') : GrSt lo hi wS a A C W H l w' := ⟨h.wrote.trans (hx.wrote _), h.mat.ext hx, h.len⟩
theorem GrSt.base {lo hi : Nat} {w2 wS : World} {a : Option Addr} {A : Nat → Option Addr} {C : Nat → Nat} {W H : Nat} {l l2 : List Int} {wr : World} (h2 : GrSt lo hi w2 a A C W H l2 wS) (h : GrSt lo hi wS a A C W H l wr) : GrSt lo hi w2 a A C W H l wr :=
  ⟨h2.wrote.trans (h.wrote.mono fun k _ hk => by have := h2.wrote.size; omega), h.mat, h.len⟩
theorem GrSt.put {lo hi : Nat} {wS : World} {a : Option Addr} {A : Nat → Option Addr} {C : Nat → Nat} {W H : Nat} {l : List Int} {wr : World} (h : GrSt lo hi wS a A C W H l wr) {x y : Nat} (hx : x < W) (hy : y < H) :
    ∃ b o, A y = some ⟨b, o, none⟩ ∧ wr.cell? ⟨b, o + x, none⟩ = some (.int .i64 (l.getD (y * W + x) 0)) ∧ wr.frozen? ⟨b, o + x, none⟩ = false ∧ (∃ b1 o1, a = some ⟨b1, o1, none⟩ ∧ wr.cell? ⟨b1, o1 + y, none⟩ = some (.slice (some ⟨b, o, none⟩) W (C y))) ∧
      ∀ wq z, wr.Ext wq → GrSt lo hi wS a A C W H (l.set (y * W + x) z) (wq.setCell ⟨b, o + x, none⟩ (.int .i64 z)) := by
  have hy' : y < (grl W H l).length := by rw [grl_len]; exact hy
  have hx' : x < ((grl W H l).getD y []).length := by rw [grl_row hy]; exact hx
  obtain ⟨b, o, hA, h1, h2, h3, h4⟩ := h.mat.rows y hy' x hx'
  obtain ⟨b1, o1, e1, -, -, e2, -⟩ := h.mat.outer y hy'
  rw [grl_at hx hy] at h3
  rw [grl_row hy, hA] at e2
  refine ⟨b, o, hA, h3, h4, ⟨b1, o1, e1, e2⟩, fun wq z hq => ?_⟩
  have hp := OwnMat.put (h.mat.ext hq) hy' hx' hA z
  rw [grl_set hx hy h.len] at hp
  exact ⟨(h.wrote.trans (hq.wrote _)).setCell (p := ⟨b, o + x, none⟩) (.inl ⟨h1, h2⟩) _, hp, by rw [List.length_set, h.len]⟩
def GrP (W H : Nat) (mask res : List Int) (lo hi : Nat) (wS : World) (a : Option Addr) (A : Nat → Option Addr) (C : Nat → Nat) (n : Nat) (k : Nat) (v : Value) (wr : World) : Prop :=
  ∃ l again, v = .bool again ∧ GrSt lo hi wS a A C W H l wr ∧ PasW (greC W H mask) (greV W H mask) n res again l ∧ Under mask l ∧ gap mask l + (if again then 1 else 0) = k
noncomputable def GrM (W H : Nat) (mask res : List Int) (lo hi : Nat) (wS : World) (a : Option Addr) (A : Nat → Option Addr) (C : Nat → Nat) (n : Nat) (v : Value) (wr : World) : Nat := leastN fun k => GrP W H mask res lo hi wS a A C n k v wr
theorem GrM_lt {W H : Nat} {mask res : List Int} {lo hi : Nat} {wS : World} {a : Option Addr} {A : Nat → Option Addr} {C : Nat → Nat} {n : Nat} {v v' : Value} {wr wr' : World} {k k' : Nat} (h0 : GrM W H mask res lo hi wS a A C n v wr = k) (h : GrP W H mask res lo hi wS a A C n k' v' wr') (hn : k' < k) :
    GrM W H mask res lo hi wS a A C n v' wr' < GrM W H mask res lo hi wS a A C n v wr := by
  rw [h0]
  exact Nat.lt_of_le_of_lt (leastN_le h) hn
theorem spotN {s : Int × Int} {x y : Nat} (h : s = ((x : Int), (y : Int))) : s.1 = x ∧ s.2 = y := by rw [h]; exact ⟨rfl, rfl⟩
set_option maxRecDepth 5000 in
set_option maxHeartbeats 3200000 in
theorem reconstructed_any (W H n : Nat) (a0 : Option Addr) (c0 : Nat) (A0 : Nat → Option Addr) (C0 : Nat → Nat) (m0 : List (List Int)) (a1 : Option Addr) (c1 : Nat) (A1 : Nat → Option Addr) (C1 : Nat → Nat) (m1 : List (List Int)) (res : List Int) (w : World)
    (hW1 : 1 ≤ W) (hH1 : 1 ≤ H) (hW : W ≤ 64) (hH : H ≤ 64) (hn : n = H * W) (h0 : m0.length = H) (h0r : ∀ r, r < H → (m0.getD r []).length = W) (h1 : m1.length = H) (h1r : ∀ r, r < H → (m1.getD r []).length = W)
    (hU : Under m1.flatten m0.flatten) (hm0 : MatAt w a0 A0 C0 m0) (hm1 : MatAt w a1 A1 C1 m1) (hR : PasR (greC W H m1.flatten) (greV W H m1.flatten) n m0.flatten res) :
    Calls Try.prog 146 #[.agg #[.slice a0 m0.length c0], .agg #[.slice a1 m1.length c1]] w (GreyRet w (grl W H res)) := by
  obtain ⟨W0, hW0⟩ : ∃ W0, W0 = ((w.alloc (.cells #[.slice a0 m0.length c0] 84)).alloc (.cells #[.slice a1 m1.length c1] 84)).alloc (.cells #[.slice none 0 0] 84) := ⟨_, rfl⟩
  have hx0 : w.Ext W0 := by rw [hW0]; repeat (first | exact World.Ext.refl _ | exact ⟨_, rfl⟩ | assumption | refine World.Ext.over ?_ _ | refine World.Ext.drewN ?_ _ | refine World.Ext.drew ?_ | refine World.Ext.alloc ?_ _ | refine World.Ext.setCell ?_ (by simp) _)
  have hsz0 : W0.heap.size = w.heap.size + 1 + 1 + 1 := by rw [hW0]; simp
  have d0 : W0.cell? ⟨w.heap.size, 0, none⟩ = some (.slice a0 m0.length c0) := by rw [hW0]; simp [go_sem]
  have d1 : W0.cell? ⟨w.heap.size + 1, 0, none⟩ = some (.slice a1 m1.length c1) := by rw [hW0]; simp [go_sem]
  have hone : One W0 (w.heap.size + 1 + 1) 84 (.slice none 0 0) := by rw [hW0]; exact One.new _ _ _ _ (by simp)
  have hr0 : (m0.getD 0 []).length = W := h0r 0 hH1
  have hr1 : (m1.getD 0 []).length = W := h1r 0 hH1
  have hgm : grd W H (flG W m0.flatten) = grl W H m0.flatten := rfl
  have HRM : Hid (Calls Try.prog 147 #[.pointer (some ⟨w.heap.size, 0, none⟩), .func (.func 149) #[.pointer (some ⟨w.heap.size, 0, none⟩)] #[]] W0 (GreyRet W0 (grl W H m0.flatten))) := by
    have h := remadeM_any w.heap.size w.heap.size a0 c0 A0 C0 m0 149 #[] (flG W m0.flatten) W0 (by omega) (by omega) (by omega) enters_gAt d0 (hm0.ext hx0)
      (fun w' hx x y hxW hyH => by
        rw [hr0] at hxW
        have hrow := h0r y (by omega)
        have hv : flG W m0.flatten x y = (m0.getD y []).getD x 0 := flat_at W m0 y x (fun r hr => h0r r (by omega)) hyH hxW
        rw [hv]
        exact gAt_any w.heap.size a0 c0 A0 C0 m0 x y w' hyH (by omega) (by omega) (by omega) (hx.cell d0) ((hm0.ext hx0).ext hx))
    rw [hr0, h0, hgm] at h
    exact h
  have HAM : Hid (∀ w' x y, W0.Ext w' → x < W → y < H → Calls Try.prog 149 #[.pointer (some ⟨w.heap.size + 1, 0, none⟩), .agg #[.int .i64 (x : Nat), .int .i64 (y : Nat)]] w' fun e w'' => e = .returned (.int .i64 (m1.flatten.getD (y * W + x) 0)) ∧ w'.Ext w'') := fun w' x y hx hxW hyH => by
    have hrow := h1r y hyH
    rw [flat_at W m1 y x (fun r hr => h1r r (by omega)) (by omega) hxW]
    exact gAt_any (w.heap.size + 1) a1 c1 A1 C1 m1 x y w' (by omega) (by omega) (by omega) (by omega) (hx.cell d1) ((hm1.ext hx0).ext hx)
  have HAR : Hid (∀ w' (x y : Nat), x < W → y < H → Calls Try.prog 107 #[.int .i64 x, .int .i64 y, .bool false] w' (PairsRet w' (nbA false ((x : Int), (y : Int))))) := fun w' x y h1 h2 => around_any x y false w' (by omega) (by omega)
  have HKL : Hid (m1.flatten.length = n) := by show _ = _; rw [flat_len W m1 (fun r hr => h1r r (by omega)), h1, hn, Nat.mul_comm]
  have HML : Hid (m0.flatten.length = n) := by show _ = _; rw [flat_len W m0 (fun r hr => h0r r (by omega)), h0, hn, Nat.mul_comm]
  have HX0 := Lib.hid hx0
  have HO := Lib.hid hone
  have HN := Lib.hid hn
  have HU := Lib.hid hU
  have HR := Lib.hid hR
  have hn4 : n ≤ 4096 := by rw [hn]; exact Nat.mul_le_mul hH hW
  have HGLN := Lib.hid (fun l => grl_len W H l)
  rw [h0, h1] at hW0
  rw [h0, h1]
  clear hx0 d0 d1 hone hgm hm0 hm1 hU hR hn h0r h1r hr0 hr1 h0 h1
  generalize m1.flatten = mask at *
  generalize m0.flatten = l0 at *
  go_enter Try.func146, Try.ntmps146
  go_wp2_with fail
  rw [← hW0]
  clear hW0
  refine HRM.out.mono ?_
  rintro e w1 ⟨a5, c5, A5, C5, rfl, hx1, ho5⟩
  rw [HGLN.out]
  obtain ⟨w2, hw2⟩ : ∃ w2, w2 = w1.alloc (.cells #[.slice a5 H c5] 84) := ⟨_, rfl⟩
  have hx2 : w1.Ext w2 := by rw [hw2]; repeat (first | exact World.Ext.refl _ | exact ⟨_, rfl⟩ | assumption | refine World.Ext.over ?_ _ | refine World.Ext.drewN ?_ _ | refine World.Ext.drew ?_ | refine World.Ext.alloc ?_ _ | refine World.Ext.setCell ?_ (by simp) _)
  have hsz2 : w2.heap.size = w1.heap.size + 1 := by rw [hw2]; simp
  have HP5 : Hid (w2.cell? ⟨w1.heap.size, 0, none⟩ = some (.slice a5 H c5)) := by rw [hw2]; show _ = _; simp [go_sem]
  have hsz1 := hx1.size
  have HX2 := Lib.hid (hx1.trans hx2)
  have HP0 : Hid (∃ k, GrP W H mask res W0.heap.size w1.heap.size w2 a5 A5 C5 n k (.bool true) w2) := ⟨_, l0, true, rfl, ⟨Wrote.refl _ _, ho5.ext hx2, by rw [HML.out, HN.out]⟩, HR.out, HU.out, rfl⟩
  clear hx1 hx2 ho5 HRM
  go_wp2
  rw [← hw2]
  clear hw2
  go_loopw [6] (fun v wr => ∃ k, Hid (GrP W H mask res W0.heap.size w1.heap.size w2 a5 A5 C5 n k v wr)) (fun v wr => GrM W H mask res W0.heap.size w1.heap.size w2 a5 A5 C5 n v wr)
  case atStart => exact HP0.out
  case round =>
    clear HP0
    obtain ⟨n1, HP1⟩ := hrel
    obtain ⟨k0, hk0, HP⟩ : ∃ k, Hid (GrM W H mask res W0.heap.size w1.heap.size w2 a5 A5 C5 n u6 wr = k) ∧ Hid (GrP W H mask res W0.heap.size w1.heap.size w2 a5 A5 C5 n k u6 wr) := ⟨_, rfl, leastN_at (p := fun k => GrP W H mask res W0.heap.size w1.heap.size w2 a5 A5 C5 n k u6 wr) HP1.out⟩
    clear HP1 n1
    obtain ⟨l, again, rfl, hS, hPW, hUl, hcnt⟩ := HP.out
    have HS := Lib.hid hS
    have HPW := Lib.hid hPW
    have HUL := Lib.hid hUl
    have HCNT := Lib.hid hcnt
    clear HP hS hPW hUl hcnt
    obtain ⟨wo, rfl⟩ : ∃ wo : World, wo = wr := ⟨_, rfl⟩
    have c5' := HS.out.wrote.cell HP5.out (by simp only; omega)
    have l5' := World.block_lt_of_cell? _ _ c5'
    have HXO : Hid (W0.Ext wo) := HX2.out.wroteNew HS.out.wrote fun k h1 h2 => by omega
    cases again
    · have hres := HPW.out.stop
      subst hres
      have hl4 : w.heap.size + 1 + 1 < W0.heap.size := by omega
      have hGL := HGLN.out l
      obtain ⟨r1, r2, r3, HRT⟩ := Res.storeM (.slice a5 H c5) (HX0.out.trans HXO.out) (by omega) (HO.out.ext HXO.out) hl4 (HS.out.mat.mono (Nat.le_refl _) (by have := HS.out.wrote.size; omega))
      have HGL := Lib.hid hGL
      clear HS HPW HUL HCNT hk0 HR HU hGL
      go_wp2
      exact bodyPost_ret (v := .agg #[.slice a5 H c5]) (by simp [results, Try.results146, go_sem, r3]) rfl ⟨a5, c5, A5, C5, by rw [HGL.out], HRT.out.1, HRT.out.2⟩
    · have HNX := Lib.hid HPW.out.next
      have HFL := Lib.hid ((gre_falls W H mask n (by rw [HKL.out])).to HUL.out n (Nat.le_refl _))
      have hN0 : pasTo (greC W H mask) (greV W H mask) l 0 = l ∧ tokTo (greC W H mask) (greV W H mask) l 0 = false := ⟨rfl, rfl⟩
      have HYES : Hid (∀ k, greC W H mask (pasTo (greC W H mask) (greV W H mask) l k) k = true → pasTo (greC W H mask) (greV W H mask) l (k + 1) = (pasTo (greC W H mask) (greV W H mask) l k).set k (greV W H mask (pasTo (greC W H mask) (greV W H mask) l k) k) ∧ tokTo (greC W H mask) (greV W H mask) l (k + 1) = true) := fun k h => pas_yes h
      have HNO : Hid (∀ k, greC W H mask (pasTo (greC W H mask) (greV W H mask) l k) k = false → pasTo (greC W H mask) (greV W H mask) l (k + 1) = pasTo (greC W H mask) (greV W H mask) l k ∧ tokTo (greC W H mask) (greV W H mask) l (k + 1) = tokTo (greC W H mask) (greV W H mask) l k) := fun k h => pas_no h
      have HSP : Hid (Calls Try.prog 152 #[.pointer (some ⟨w1.heap.size, 0, none⟩)] wo (PairsRet wo (gridP W H))) := by
        have h := gSpots_any w1.heap.size a5 c5 A5 C5 (grl W H l) W wo (fun r hr => by rw [grl_len] at hr; exact grl_row hr) (by rw [grl_len]; exact hH) hW (by rw [grl_len]; exact c5') HS.out.mat.mat
        rw [grl_len] at h
        exact h
      clear HPW
      generalize pasTo (greC W H mask) (greV W H mask) l = L at *
      generalize tokTo (greC W H mask) (greV W H mask) l = T at *
      go_wp2_with fail
      refine HSP.out.mono ?_
      rintro e w4 ⟨a15, c15, rfl, hx4, ho15⟩
      rw [show (gridP W H).length = n by rw [gridP_len, HN.out]]
      have HO15 := Lib.hid ho15
      have hsz4 := hx4.size
      have HS4 := Lib.hid (HS.out.ext hx4)
      have hszo := HS.out.wrote.size
      have HP54 := Lib.hid (hx4.cell c5')
      have HXO4 := Lib.hid (HXO.out.trans hx4)
      have HSL : Hid (GrSt W0.heap.size w1.heap.size w4 a5 A5 C5 W H (L 0) w4) := by
        show GrSt _ _ _ _ _ _ _ _ _ _
        rw [hN0.1]
        exact ⟨Wrote.refl _ _, HS4.out.mat, HS4.out.len⟩
      clear hx4 ho15 HSP HS c5' l5' HXO
      go_wp2
      go_loopw [6, 17] (fun v i wr => ∃ k : Nat, k ≤ n ∧ i = .int .i64 k ∧ v = .bool (T k) ∧ Hid (GrSt W0.heap.size w1.heap.size w4 a5 A5 C5 W H (L k) wr)) (fun _ i _ => n - (intOf i).toNat)
      case atStart => exact ⟨0, Nat.zero_le _, rfl, by rw [hN0.2], HSL⟩
      case round =>
        clear HSL hN0
        obtain ⟨k, hk, rfl, rfl, HS⟩ := hrel
        obtain ⟨w5, rfl⟩ : ∃ w5 : World, w5 = wr := ⟨_, rfl⟩
        by_cases hltk : k < n
        · have hltk' : (k : Int) < (n : Int) := by omega
          have hk0 : (0 : Int) ≤ (k : Int) := by omega
          have hkW : k % W < W := Nat.mod_lt _ (by omega)
          have hkH : k / W < H := by rw [Nat.div_lt_iff_lt_mul (by omega)]; have := HN.out; omega
          have HKE : Hid (k / W * W + k % W = k) := by show _ = _; rw [Nat.mul_comm]; exact Nat.div_add_mod _ _
          have hrow : RowP w5 a15 (gridP W H) := (HO15.out.wrote HS.out.wrote fun q h1 h2 h3 => by omega).row
          obtain ⟨b, o, rfl, e0, e1⟩ := RowP.at hrow (show k < (gridP W H).length by rw [gridP_len, ← HN.out]; exact hltk)
          rw [gridP_at (by rw [← HN.out]; exact hltk)] at e0 e1
          have HG : Hid (greV W H mask (L k) k = mnI (upTo W H (L k) ((L k).getD k 0) (nb4 W k)) (mask.getD k 0)) := rfl
          have HC : Hid (greC W H mask (L k) k = decide ((L k).getD k 0 < greV W H mask (L k) k)) := rfl
          have HY := Lib.hid (HYES.out k)
          have HNn := Lib.hid (HNO.out k)
          have HNB : Hid (nb4 W k = nbA false (((k % W : Nat) : Int), ((k / W : Nat) : Int))) := rfl
          have HXW : Hid (W0.Ext w5) := HXO4.out.wroteNew HS.out.wrote fun q h1 h2 => by omega
          have h5c := HS.out.wrote.cell HP54.out (by simp only; omega)
          clear hrow
          generalize hx : k % W = x at *
          generalize hy : k / W = y at *
          clear hx hy
          generalize greC W H mask (L k) k = tc at *
          generalize greV W H mask (L k) k = gv at *
          generalize nb4 W k = Q at *
          generalize hLn : L (k + 1) = Ln at *
          generalize hTn : T (k + 1) = Tn at *
          have HLN := Lib.hid hLn
          have HTN := Lib.hid hTn
          clear hLn hTn
          generalize L k = Lk at *
          generalize T k = Tk at *
          -- facts on the world of the round
          have HATP : Hid (∀ w' (X Y : Nat), w5.Ext w' → X < W → Y < H → Calls Try.prog 149 #[.pointer (some ⟨w1.heap.size, 0, none⟩), .agg #[.int .i64 X, .int .i64 Y]] w' fun e w'' => e = .returned (.int .i64 (Lk.getD (Y * W + X) 0)) ∧ w'.Ext w'') := fun w' X Y hx' hXW hYH => by
            have h := gAt_any w1.heap.size a5 c5 A5 C5 (grl W H Lk) X Y w' (by rw [grl_len]; exact hYH) (by rw [grl_row hYH]; exact hXW) (by rw [grl_len]; omega) (by rw [grl_row hYH]; omega) (by rw [grl_len]; exact hx'.cell h5c) (HS.out.ext hx').mat.mat
            rw [grl_at hXW hYH] at h
            exact h
          have HHAS : Hid (∀ w' (X Y : Int), w5.Ext w' → Calls Try.prog 207 #[.pointer (some ⟨w1.heap.size, 0, none⟩), .agg #[.int .i64 X, .int .i64 Y]] w' fun e w'' => e = .returned (.bool (hasB W H X Y)) ∧ w'.Ext w'') := fun w' X Y hx' => by
            have h := gHas_any w1.heap.size a5 c5 A5 C5 (grl W H Lk) X Y w' (by rw [grl_len]; omega) (by rw [grl_len]; omega) (by rw [grl_row (by omega)]; omega) (by rw [grl_len]; exact hx'.cell h5c) (HS.out.ext hx').mat.mat
            rw [grl_len, grl_row (by omega)] at h
            exact h
          have HQ4 : Hid (Q.length = 4) := by show _ = _; rw [HNB.out]; rfl
          have HQN : Hid (∀ q, q ∈ Q → -1000 ≤ q.1 ∧ q.1 ≤ 1000 ∧ -1000 ≤ q.2 ∧ q.2 ≤ 1000) := fun q hq => by
            rw [HNB.out] at hq
            have h := nbA_near hq
            simp only at h
            omega
          have HVS : Hid (∀ j, j < 4 → upTo W H Lk (Lk.getD k 0) (Q.take (j + 1)) = if hasB W H (Q.getD j (0, 0)).1 (Q.getD j (0, 0)).2 then mxJ (upTo W H Lk (Lk.getD k 0) (Q.take j)) (nbV W Lk (Q.getD j (0, 0)).1 (Q.getD j (0, 0)).2) else upTo W H Lk (Lk.getD k 0) (Q.take j)) := fun j hj => by
            have hl4 := HQ4.out
            have e : Q.take (j + 1) = Q.take j ++ [Q.getD j (0, 0)] := by
              rw [List.take_succ_eq_append_getElem (by omega), List.getD_eq_getElem?_getD, List.getElem?_eq_getElem (by omega)]
              rfl
            rw [e, upTo_snoc]
          have HV0 : Hid (upTo W H Lk (Lk.getD k 0) (Q.take 0) = Lk.getD k 0) := rfl
          have HV4 : Hid (upTo W H Lk (Lk.getD k 0) (Q.take 4) = upTo W H Lk (Lk.getD k 0) Q) := by
            show _ = _
            rw [← HQ4.out, List.take_length]
          rw [← HV4.out] at HG
          have HNBV : Hid (∀ a b : Int, nbV W Lk a b = Lk.getD (b * W + a).toNat 0) := fun a b => rfl
          generalize hcv : (fun j => upTo W H Lk (Lk.getD k 0) (Q.take j)) = cv at *
          have hcv' : ∀ j, upTo W H Lk (Lk.getD k 0) (Q.take j) = cv j := fun j => congrFun hcv j
          simp only [hcv'] at HVS HV0 HG
          clear hcv hcv' HV4
          have HAT0 : Hid (∀ w', w5.Ext w' → Calls Try.prog 149 #[.pointer (some ⟨w1.heap.size, 0, none⟩), .agg #[.int .i64 x, .int .i64 y]] w' fun e w'' => e = .returned (.int .i64 (Lk.getD k 0)) ∧ w'.Ext w'') := fun w' hx' => by
            have h := HATP.out w' x y hx' hkW hkH
            rw [HKE.out] at h
            exact h
          have HAMK : Hid (∀ w', w5.Ext w' → Calls Try.prog 149 #[.pointer (some ⟨w.heap.size + 1, 0, none⟩), .agg #[.int .i64 x, .int .i64 y]] w' fun e w'' => e = .returned (.int .i64 (mask.getD k 0)) ∧ w'.Ext w'') := fun w' hx' => by
            have h := HAM.out w' x y (HXW.out.trans hx') hkW hkH
            rw [HKE.out] at h
            exact h
          generalize mask.getD k 0 = mk at *
          generalize hlk : Lk.getD k 0 = lk at *
          have HLK := Lib.hid hlk
          clear hlk
          obtain ⟨w6, hw6⟩ : ∃ w6, w6 = w5.alloc (.cells #[.int .i64 x, .int .i64 y] 45) := ⟨_, rfl⟩
          have hx6 : w5.Ext w6 := by rw [hw6]; repeat (first | exact World.Ext.refl _ | exact ⟨_, rfl⟩ | assumption | refine World.Ext.over ?_ _ | refine World.Ext.drewN ?_ _ | refine World.Ext.drew ?_ | refine World.Ext.alloc ?_ _ | refine World.Ext.setCell ?_ (by simp) _)
          have HSP8 : Hid (∀ w', w6.Ext w' → w'.cell? ⟨w5.heap.size, 0, none⟩ = some (.int .i64 x) ∧ w'.cell? ⟨w5.heap.size, 1, none⟩ = some (.int .i64 y)) := fun w' hx' => ⟨hx'.cell (by rw [hw6]; simp [go_sem]), hx'.cell (by rw [hw6]; simp [go_sem])⟩
          have HX6 := Lib.hid hx6
          have H5C := Lib.hid h5c
          clear hx6 h5c
          go_wp2_with fail
          rw [← hw6]
          clear hw6 e0 e1
          refine (HAT0.out w6 HX6.out).mono ?_
          rintro e w7 ⟨rfl, hx7⟩
          obtain ⟨s0, s1⟩ := HSP8.out w7 hx7
          have ls := World.block_lt_of_cell? _ _ s0
          have HX7 := Lib.hid hx7
          clear hx7
          go_wp2_with fail
          refine (HAR.out w7 x y hkW hkH).mono ?_
          rintro e w8 ⟨a8, c8, rfl, hx8, ho8⟩
          rw [← HNB.out, HQ4.out]
          have HR8 : Hid (RowP w8 a8 Q) := by
            have := ho8.row
            rw [← HNB.out] at this
            exact this
          have HX8 := Lib.hid (HX7.out.trans hx8)
          clear hx8 ho8 s0 s1 ls
          go_wp2
          go_loopw [9, 29] (fun v i wr => ∃ j : Nat, j ≤ 4 ∧ i = .int .i64 j ∧ v = .int .i64 (cv j) ∧ Hid (w8.Ext wr)) (fun _ i _ => 4 - (intOf i).toNat)
          case atStart => exact ⟨0, Nat.zero_le _, rfl, by rw [HV0.out], .refl _⟩
          case round =>
            obtain ⟨j, hj, rfl, rfl, HX⟩ := hrel
            obtain ⟨w9, rfl⟩ : ∃ w9 : World, w9 = wr := ⟨_, rfl⟩
            by_cases hltj : j < 4
            · have hltj' : (j : Int) < 4 := by omega
              have hj0 : (0 : Int) ≤ (j : Int) := by omega
              have hr9 : RowP w9 a8 Q := RowOf.ext HR8.out HX.out
              obtain ⟨b9, o9, rfl, e0, e1⟩ := hr9.at (show j < Q.length by rw [HQ4.out]; exact hltj)
              have HV := Lib.hid (HVS.out j hltj)
              have hqn := HQN.out _ (getD_mem (show j < Q.length by rw [HQ4.out]; exact hltj))
              generalize Q.getD j (0, 0) = q at e0 e1 HV hqn
              obtain ⟨qx, qy⟩ := q
              dsimp only at e0 e1 hqn
              obtain ⟨w10, hw10⟩ : ∃ w10, w10 = w9.alloc (.cells #[.int .i64 qx, .int .i64 qy] 45) := ⟨_, rfl⟩
              have hx10 : w9.Ext w10 := by rw [hw10]; repeat (first | exact World.Ext.refl _ | exact ⟨_, rfl⟩ | assumption | refine World.Ext.over ?_ _ | refine World.Ext.drewN ?_ _ | refine World.Ext.drew ?_ | refine World.Ext.alloc ?_ _ | refine World.Ext.setCell ?_ (by simp) _)
              have f0 : w10.cell? ⟨w9.heap.size, 0, none⟩ = some (.int .i64 qx) := by rw [hw10]; simp [go_sem]
              have f1 : w10.cell? ⟨w9.heap.size, 1, none⟩ = some (.int .i64 qy) := by rw [hw10]; simp [go_sem]
              have HF := Lib.hid (And.intro f0 f1)
              have HX10 := Lib.hid (HX.out.trans hx10)
              have HHC := Lib.hid (HHAS.out w10 qx qy (HX6.out.trans (HX8.out.trans HX10.out)))
              generalize hcn : cv (j + 1) = cn at *
              have HCN := Lib.hid hcn
              clear hcn hr9 hx10 f0 f1
              go_wp2_with fail
              rw [← hw10]
              clear hw10 e0 e1
              refine HHC.out.mono ?_
              rintro e w11 ⟨rfl, hx11⟩
              have HX11 := Lib.hid (HX10.out.trans hx11)
              cases hh : hasB W H qx qy
              · have HQ : Hid (cn = cv j) := by
                  have h := HV.out
                  simp only [hh, Bool.false_eq_true, if_false] at h
                  exact h
                clear hx11 hh HV HF
                go_wp2
                go_roundw
                case rel => exact ⟨j + 1, by omega, by go_num, by rw [HCN.out, HQ.out], HX11⟩
                case measure => simp [intOf]; omega
              · obtain ⟨q1, q2, q3, q4⟩ := hasB_true.1 hh
                obtain ⟨X, rfl⟩ : ∃ X : Nat, qx = X := ⟨qx.toNat, by omega⟩
                obtain ⟨Y, rfl⟩ : ∃ Y : Nat, qy = Y := ⟨qy.toNat, by omega⟩
                have eN : ((Y : Int) * (W : Int) + (X : Int)).toNat = Y * W + X := by rw [← Int.natCast_mul, ← Int.natCast_add, Int.toNat_natCast]
                have HQ : Hid (cn = mxJ (cv j) (Lk.getD (Y * W + X) 0)) := by
                  have h := HV.out
                  simp only [hh, if_true] at h
                  rw [HNBV.out, eN] at h
                  exact h
                have f0 := hx11.cell HF.out.1
                have f1 := hx11.cell HF.out.2
                have lf := World.block_lt_of_cell? _ _ f0
                have HAC := Lib.hid (HATP.out w11 X Y (HX6.out.trans (HX8.out.trans HX11.out)) (by omega) (by omega))
                clear hx11 hh HV HF eN q1 q2 q3 q4
                go_wp2_with fail
                refine HAC.out.mono ?_
                rintro e w12 ⟨rfl, hx12⟩
                have HX12 := Lib.hid (HX11.out.trans hx12)
                clear hx12 f0 f1 lf HAC
                generalize Lk.getD (Y * W + X) 0 = z at *
                by_cases hlt : cv j < z
                · have HQ3 : Hid (cn = z) := by
                    show _ = _
                    rw [HQ.out]
                    unfold mxJ
                    rw [if_pos hlt]
                  clear HQ
                  generalize cv j = cj at *
                  go_wp2
                  go_roundw
                  case rel => exact ⟨j + 1, by omega, by go_num, by rw [HCN.out, HQ3.out], HX12⟩
                  case measure => simp [intOf]; omega
                · have HQ3 : Hid (cn = cv j) := by
                    show _ = _
                    rw [HQ.out]
                    unfold mxJ
                    rw [if_neg hlt]
                  clear HQ
                  generalize cv j = cj at *
                  go_wp2
                  go_roundw
                  case rel => exact ⟨j + 1, by omega, by go_num, by rw [HCN.out, HQ3.out], HX12⟩
                  case measure => simp [intOf]; omega
            · have : j = 4 := by omega
              subst this
              obtain ⟨s0, s1⟩ := HSP8.out w9 (HX8.out.trans HX.out)
              have ls := World.block_lt_of_cell? _ _ s0
              have HX9 := Lib.hid (HX6.out.trans (HX8.out.trans HX.out))
              clear HVS HV0 HR8 HX HX8 HQN HHAS HATP HNBV HQ4
              generalize cv 4 = c4 at *
              go_wp2_with fail
              refine (HAMK.out w9 HX9.out).mono ?_
              rintro e w10 ⟨rfl, hx10⟩
              have HX10 := Lib.hid (HX9.out.trans hx10)
              replace s0 := hx10.cell s0
              replace s1 := hx10.cell s1
              replace ls := World.block_lt_of_cell? _ _ s0
              have HA0 := Lib.hid (HAT0.out w10 HX10.out)
              have hmc : (c4 < mk ∧ gv = c4) ∨ (mk < c4 ∧ gv = mk) ∨ (mk = c4 ∧ gv = c4) := by
                rw [HG.out]
                unfold mnI
                split <;> omega
              clear hx10 HX9 HAMK HAT0 HG
              rcases hmc with ⟨hmn, hgv⟩ | ⟨hmn, hgv⟩ | ⟨rfl, hgv⟩
              · subst hgv
                by_cases hlt : lk < gv
                · obtain ⟨q1, q2⟩ := HY.out (by rw [HC.out, decide_eq_true hlt])
                  have HQ := Lib.hid (And.intro q1 q2)
                  clear q1 q2 HY HNn HC
                  go_wp2_with fail
                  refine HA0.out.mono ?_
                  rintro e w11 ⟨rfl, hx11⟩
                  replace s0 := hx11.cell s0
                  replace s1 := hx11.cell s1
                  replace ls := World.block_lt_of_cell? _ _ s0
                  have hx5 := HX10.out.trans hx11
                  have h5 := hx5.cell H5C.out
                  obtain ⟨bb, oo, hA, t1, t2, ⟨b1, o1, t3, t4⟩, t5⟩ := (HS.out.ext hx5).put hkW hkH
                  rw [t3] at h5
                  rw [HKE.out] at t1 t5
                  have l5 := World.block_lt_of_cell? _ _ h5
                  have lt1 := World.block_lt_of_cell? _ _ t1
                  have lt4 := World.block_lt_of_cell? _ _ t4
                  have HNS : Hid (∀ x1, GrSt W0.heap.size w1.heap.size w4 a5 A5 C5 W H (Lk.set k gv) ((w11.over x1).setCell ⟨bb, oo + x, none⟩ (.int .i64 gv))) := fun x1 => t5 _ _ ⟨x1, rfl⟩
                  have hy' : (y : Int) < (H : Int) := by omega
                  have hx' : (x : Int) < (W : Int) := by omega
                  have hy0 : (0 : Int) ≤ (y : Int) := by omega
                  have hx0 : (0 : Int) ≤ (x : Int) := by omega
                  clear hx11 hx5 t5 HA0 hA t3
                  generalize Lk.getD k 0 = old at *
                  generalize C5 y = cy at *
                  go_wp2_with fail
                  refine wp_region_over_tail 10 (by kernel_rfl) (by kernel_rfl) ?_; simp only [List.take_succ_cons, List.take_zero, List.drop_succ_cons, List.drop_zero]; (repeat (go_big_quiet_step (fail))); refine wpQuiet_nil ?_; rintro _ ⟨x1, rfl⟩
                  clear s0 s1 ls h5 l5 t4 lt4
                  go_wp2
                  go_roundw
                  case rel => exact ⟨k + 1, by omega, by go_num, by rw [HTN.out, HQ.out.2], by rw [HLN.out, HQ.out.1]; exact HNS.out _⟩
                  case measure => simp [intOf]; omega
                · obtain ⟨q1, q2⟩ := HNn.out (by rw [HC.out, decide_eq_false hlt])
                  have HQ := Lib.hid (And.intro q1 q2)
                  clear q1 q2 HY HNn HC
                  go_wp2_with fail
                  refine HA0.out.mono ?_
                  rintro e w11 ⟨rfl, hx11⟩
                  have HS11 := Lib.hid (HS.out.ext (HX10.out.trans hx11))
                  clear hx11 s0 s1 ls HA0
                  go_wp2
                  go_roundw
                  case rel => exact ⟨k + 1, by omega, by go_num, by rw [HTN.out, HQ.out.2], by rw [HLN.out, HQ.out.1]; exact HS11⟩
                  case measure => simp [intOf]; omega
              · subst hgv
                by_cases hlt : lk < gv
                · obtain ⟨q1, q2⟩ := HY.out (by rw [HC.out, decide_eq_true hlt])
                  have HQ := Lib.hid (And.intro q1 q2)
                  clear q1 q2 HY HNn HC
                  go_wp2_with fail
                  refine HA0.out.mono ?_
                  rintro e w11 ⟨rfl, hx11⟩
                  replace s0 := hx11.cell s0
                  replace s1 := hx11.cell s1
                  replace ls := World.block_lt_of_cell? _ _ s0
                  have hx5 := HX10.out.trans hx11
                  have h5 := hx5.cell H5C.out
                  obtain ⟨bb, oo, hA, t1, t2, ⟨b1, o1, t3, t4⟩, t5⟩ := (HS.out.ext hx5).put hkW hkH
                  rw [t3] at h5
                  rw [HKE.out] at t1 t5
                  have l5 := World.block_lt_of_cell? _ _ h5
                  have lt1 := World.block_lt_of_cell? _ _ t1
                  have lt4 := World.block_lt_of_cell? _ _ t4
                  have HNS : Hid (∀ x1, GrSt W0.heap.size w1.heap.size w4 a5 A5 C5 W H (Lk.set k gv) ((w11.over x1).setCell ⟨bb, oo + x, none⟩ (.int .i64 gv))) := fun x1 => t5 _ _ ⟨x1, rfl⟩
                  have hy' : (y : Int) < (H : Int) := by omega
                  have hx' : (x : Int) < (W : Int) := by omega
                  have hy0 : (0 : Int) ≤ (y : Int) := by omega
                  have hx0 : (0 : Int) ≤ (x : Int) := by omega
                  clear hx11 hx5 t5 HA0 hA t3
                  generalize Lk.getD k 0 = old at *
                  generalize C5 y = cy at *
                  go_wp2_with fail
                  refine wp_region_over_tail 10 (by kernel_rfl) (by kernel_rfl) ?_; simp only [List.take_succ_cons, List.take_zero, List.drop_succ_cons, List.drop_zero]; (repeat (go_big_quiet_step (fail))); refine wpQuiet_nil ?_; rintro _ ⟨x1, rfl⟩
                  clear s0 s1 ls h5 l5 t4 lt4
                  go_wp2
                  go_roundw
                  case rel => exact ⟨k + 1, by omega, by go_num, by rw [HTN.out, HQ.out.2], by rw [HLN.out, HQ.out.1]; exact HNS.out _⟩
                  case measure => simp [intOf]; omega
                · obtain ⟨q1, q2⟩ := HNn.out (by rw [HC.out, decide_eq_false hlt])
                  have HQ := Lib.hid (And.intro q1 q2)
                  clear q1 q2 HY HNn HC
                  go_wp2_with fail
                  refine HA0.out.mono ?_
                  rintro e w11 ⟨rfl, hx11⟩
                  have HS11 := Lib.hid (HS.out.ext (HX10.out.trans hx11))
                  clear hx11 s0 s1 ls HA0
                  go_wp2
                  go_roundw
                  case rel => exact ⟨k + 1, by omega, by go_num, by rw [HTN.out, HQ.out.2], by rw [HLN.out, HQ.out.1]; exact HS11⟩
                  case measure => simp [intOf]; omega
              · subst hgv
                by_cases hlt : lk < gv
                · obtain ⟨q1, q2⟩ := HY.out (by rw [HC.out, decide_eq_true hlt])
                  have HQ := Lib.hid (And.intro q1 q2)
                  clear q1 q2 HY HNn HC
                  go_wp2_with fail
                  refine HA0.out.mono ?_
                  rintro e w11 ⟨rfl, hx11⟩
                  replace s0 := hx11.cell s0
                  replace s1 := hx11.cell s1
                  replace ls := World.block_lt_of_cell? _ _ s0
                  have hx5 := HX10.out.trans hx11
                  have h5 := hx5.cell H5C.out
                  obtain ⟨bb, oo, hA, t1, t2, ⟨b1, o1, t3, t4⟩, t5⟩ := (HS.out.ext hx5).put hkW hkH
                  rw [t3] at h5
                  rw [HKE.out] at t1 t5
                  have l5 := World.block_lt_of_cell? _ _ h5
                  have lt1 := World.block_lt_of_cell? _ _ t1
                  have lt4 := World.block_lt_of_cell? _ _ t4
                  have HNS : Hid (∀ x1, GrSt W0.heap.size w1.heap.size w4 a5 A5 C5 W H (Lk.set k gv) ((w11.over x1).setCell ⟨bb, oo + x, none⟩ (.int .i64 gv))) := fun x1 => t5 _ _ ⟨x1, rfl⟩
                  have hy' : (y : Int) < (H : Int) := by omega
                  have hx' : (x : Int) < (W : Int) := by omega
                  have hy0 : (0 : Int) ≤ (y : Int) := by omega
                  have hx0 : (0 : Int) ≤ (x : Int) := by omega
                  clear hx11 hx5 t5 HA0 hA t3
                  generalize Lk.getD k 0 = old at *
                  generalize C5 y = cy at *
                  go_wp2_with fail
                  refine wp_region_over_tail 10 (by kernel_rfl) (by kernel_rfl) ?_; simp only [List.take_succ_cons, List.take_zero, List.drop_succ_cons, List.drop_zero]; (repeat (go_big_quiet_step (fail))); refine wpQuiet_nil ?_; rintro _ ⟨x1, rfl⟩
                  clear s0 s1 ls h5 l5 t4 lt4
                  go_wp2
                  go_roundw
                  case rel => exact ⟨k + 1, by omega, by go_num, by rw [HTN.out, HQ.out.2], by rw [HLN.out, HQ.out.1]; exact HNS.out _⟩
                  case measure => simp [intOf]; omega
                · obtain ⟨q1, q2⟩ := HNn.out (by rw [HC.out, decide_eq_false hlt])
                  have HQ := Lib.hid (And.intro q1 q2)
                  clear q1 q2 HY HNn HC
                  go_wp2_with fail
                  refine HA0.out.mono ?_
                  rintro e w11 ⟨rfl, hx11⟩
                  have HS11 := Lib.hid (HS.out.ext (HX10.out.trans hx11))
                  clear hx11 s0 s1 ls HA0
                  go_wp2
                  go_roundw
                  case rel => exact ⟨k + 1, by omega, by go_num, by rw [HTN.out, HQ.out.2], by rw [HLN.out, HQ.out.1]; exact HS11⟩
                  case measure => simp [intOf]; omega
        · have : k = n := by omega
          subst this
          have HPN : Hid (GrP W H mask res W0.heap.size w1.heap.size w2 a5 A5 C5 k (gap mask (L k) + (if T k then 1 else 0)) (.bool (T k)) w5) := ⟨_, _, rfl, HS4.out.base HS.out, HNX.out, HFL.out.1, rfl⟩
          have hlt2 : gap mask (L k) + (if T k then 1 else 0) < k0 := by
            have h1 := HFL.out.2
            have h2 := HCNT.out
            simp only [if_true] at h2
            omega
          have HLT := Lib.hid hlt2
          clear hlt2 HS
          go_wp2
          go_roundw
          case rel => exact ⟨_, HPN⟩
          case measure => exact GrM_lt hk0.out HPN.out HLT.out
end Go.Proofs.Ythgkmaccbcpaeaa

/- CutPeaks and ReconstructGrey, both sides. -/
namespace Go.Proofs.Ythgkmaccbcpaeaa
open Go Go.RowKit
theorem grl_flatten {W H : Nat} {l : List Int} (hW : 0 < W) (hl : l.length = H * W) : (grl W H l).flatten = l := by
  have hr : ∀ r, r < (grl W H l).length → ((grl W H l).getD r []).length = W := fun r h => by rw [grl_len] at h; exact grl_row h
  have hfl := flat_len W (grl W H l) hr
  rw [grl_len] at hfl
  apply List.ext_getElem?
  intro k
  by_cases hk : k < H * W
  · have e2 : ∀ (m : List Int), k < m.length → m[k]? = some (m.getD k 0) := fun m hm => by rw [List.getD_eq_getElem?_getD, List.getElem?_eq_getElem hm]; rfl
    have hx : k % W < W := Nat.mod_lt _ hW
    have hy : k / W < H := by rw [Nat.div_lt_iff_lt_mul hW]; exact hk
    have he : k / W * W + k % W = k := by rw [Nat.mul_comm]; exact Nat.div_add_mod _ _
    have h := flat_at W (grl W H l) _ _ hr (by rw [grl_len]; exact hy) hx
    rw [he, grl_at hx hy, he] at h
    rw [e2 _ (by rw [hfl, Nat.mul_comm]; exact hk), e2 _ (by rw [hl]; exact hk), h]
  · rw [List.getElem?_eq_none (by rw [hfl, Nat.mul_comm]; omega), List.getElem?_eq_none (by omega)]
theorem cutL_at {h : Int} {l : List Int} {k : Nat} (hk : k < l.length) : (cutL h l).getD k 0 = cutF h (l.getD k 0) := by
  unfold cutL
  rw [List.getD_eq_getElem?_getD, List.getElem?_map, List.getD_eq_getElem?_getD, List.getElem?_eq_getElem hk]
  rfl
theorem keep1S {w : World} {p p2 : Nat} {v x : Value} (h : p2 ≠ p) (k : w.cell? ⟨p2, 0, none⟩ = some x) : (w.setCell ⟨p, 0, none⟩ v).cell? ⟨p2, 0, none⟩ = some x :=
  (Wrote.setCell (S := fun k => k = p) (Wrote.refl _ _) (p := ⟨p, 0, none⟩) rfl v : Wrote _ w _).cell k h
set_option maxRecDepth 5000 in
set_option maxHeartbeats 800000 in
theorem cut1_any (p2 p3 : Nat) (a : Option Addr) (c : Nat) (A : Nat → Option Addr) (C : Nat → Nat) (m : List (List Int)) (h z : Int) (x y : Nat) (w : World) (hy : y < m.length) (hx : x < (m.getD y []).length) (hb1 : m.length ≤ 1000) (hb2 : (m.getD y []).length ≤ 1000) (hz : (m.getD y []).getD x 0 = z) (z0 : 0 ≤ z ∧ z ≤ 99) (h0 : 0 ≤ h ∧ h ≤ 99)
    (hp : w.cell? ⟨p2, 0, none⟩ = some (.slice a m.length c)) (hp3 : w.cell? ⟨p3, 0, none⟩ = some (.int .i64 h)) (hm : MatAt w a A C m) :
    Calls Try.prog 148 #[.agg #[.int .i64 x, .int .i64 y], .pointer (some ⟨p2, 0, none⟩), .pointer (some ⟨p3, 0, none⟩)] w fun e w' => e = .returned (.int .i64 (cutF h z)) ∧ w.Ext w' := by
  obtain ⟨W0, hW0⟩ : ∃ W0, W0 = w.alloc (.cells #[.int .i64 x, .int .i64 y] 45) := ⟨_, rfl⟩
  have hx0 : w.Ext W0 := by rw [hW0]; repeat (first | exact World.Ext.refl _ | exact ⟨_, rfl⟩ | assumption | refine World.Ext.over ?_ _ | refine World.Ext.drewN ?_ _ | refine World.Ext.drew ?_ | refine World.Ext.alloc ?_ _ | refine World.Ext.setCell ?_ (by simp) _)
  have d0 : W0.cell? ⟨w.heap.size, 0, none⟩ = some (.int .i64 x) := by rw [hW0]; simp [go_sem]
  have d1 : W0.cell? ⟨w.heap.size, 1, none⟩ = some (.int .i64 y) := by rw [hW0]; simp [go_sem]
  have d3 := hx0.cell hp3
  have l3 := World.block_lt_of_cell? _ _ d3
  have HAT : Hid (∀ x1, Calls Try.prog 149 #[.pointer (some ⟨p2, 0, none⟩), .agg #[.int .i64 x, .int .i64 y]] (W0.over x1) fun e w'' => e = .returned (.int .i64 z) ∧ (W0.over x1).Ext w'') := fun x1 => by
    have h := gAt_any p2 a c A C m x y (W0.over x1) hy hx (by omega) (by omega) (World.Ext.cell ⟨x1, rfl⟩ (hx0.cell hp)) ((hm.ext hx0).ext ⟨x1, rfl⟩)
    rw [hz] at h
    exact h
  have HX0 := Lib.hid hx0
  have hcf : (z - h < 0 ∧ cutF h z = 0) ∨ (0 < z - h ∧ cutF h z = z - h) ∨ (z - h = 0 ∧ cutF h z = 0) := by unfold cutF mxK; split <;> omega
  obtain ⟨z0, z1⟩ := z0
  obtain ⟨h0, h1⟩ := h0
  clear hm hp hp3 hx0 hz hx hy hb1 hb2
  rcases hcf with ⟨hc, hv⟩ | ⟨hc, hv⟩ | ⟨hc, hv⟩
  · rw [hv]
    clear hv
    go_enter Try.func148, Try.ntmps148
    go_wp2_with fail
    rw [← hW0]
    clear hW0
    refine wp_region_over_lit (by kernel_rfl) (by kernel_rfl) ?_; (repeat (go_big_quiet_step ((go_at_call 149; exact Calls.over_of (HAT.out _))))); refine wpQuiet_nil ?_; rintro _ ⟨x1, rfl⟩
    have HX : Hid (w.Ext (W0.over x1)) := HX0.out.trans ⟨x1, rfl⟩
    clear d0 d1 d3
    go_wp2
    go_ret
    exact ⟨rfl, HX.out⟩
  · rw [hv]
    clear hv
    go_enter Try.func148, Try.ntmps148
    go_wp2_with fail
    rw [← hW0]
    clear hW0
    refine wp_region_over_lit (by kernel_rfl) (by kernel_rfl) ?_; (repeat (go_big_quiet_step ((go_at_call 149; exact Calls.over_of (HAT.out _))))); refine wpQuiet_nil ?_; rintro _ ⟨x1, rfl⟩
    have HX : Hid (w.Ext (W0.over x1)) := HX0.out.trans ⟨x1, rfl⟩
    clear d0 d1 d3
    go_wp2
    go_ret
    exact ⟨rfl, HX.out⟩
  · rw [hv]
    clear hv
    go_enter Try.func148, Try.ntmps148
    go_wp2_with fail
    rw [← hW0]
    clear hW0
    refine wp_region_over_lit (by kernel_rfl) (by kernel_rfl) ?_; (repeat (go_big_quiet_step ((go_at_call 149; exact Calls.over_of (HAT.out _))))); refine wpQuiet_nil ?_; rintro _ ⟨x1, rfl⟩
    have HX : Hid (w.Ext (W0.over x1)) := HX0.out.trans ⟨x1, rfl⟩
    clear d0 d1 d3
    go_wp2
    go_ret
    exact ⟨rfl, HX.out⟩
theorem enters_cut1 : Enters 148 := enters_of Try.func148 (by kernel_rfl) (by kernel_rfl)
set_option maxRecDepth 5000 in
set_option maxHeartbeats 1600000 in
theorem implCut_any (a : Option Addr) (c : Nat) (A : Nat → Option Addr) (C : Nat → Nat) (m : List (List Int)) (h : Int) (res : List Int) (hR : CutO m h res) (w : World) (hb : MatBnd m) (hm : MatAt w a A C m) :
    Calls Try.prog 58 #[.agg #[.slice a m.length c], .int .i64 h] w (GreyRet2 w (optM (cutOk m h) (grl (m.getD 0 []).length m.length res)) (cutOk m h)) := by
  obtain ⟨W0, hW0⟩ : ∃ W0, W0 = ((w.alloc (.cells #[.slice a m.length c] 84)).alloc (.cells #[.int .i64 h] 2)).alloc (.cells #[.slice none 0 0] 84) := ⟨_, rfl⟩
  have hx0 : w.Ext W0 := by rw [hW0]; repeat (first | exact World.Ext.refl _ | exact ⟨_, rfl⟩ | assumption | refine World.Ext.over ?_ _ | refine World.Ext.drewN ?_ _ | refine World.Ext.drew ?_ | refine World.Ext.alloc ?_ _ | refine World.Ext.setCell ?_ (by simp) _)
  have d0 : W0.cell? ⟨w.heap.size, 0, none⟩ = some (.slice a m.length c) := by rw [hW0]; simp [go_sem]
  have d1 : W0.cell? ⟨w.heap.size + 1, 0, none⟩ = some (.int .i64 h) := by rw [hW0]; simp [go_sem]
  have hone : One W0 (w.heap.size + 1 + 1) 84 (.slice none 0 0) := by rw [hW0]; exact One.new _ _ _ _ (by simp)
  have HI : Hid (Calls Try.prog 145 #[.agg #[.slice a m.length c]] W0 fun e w' => e = .returned (.bool (tableOk m 99)) ∧ W0.Ext w') := validGrey_any a c A C m W0 hb.1 hb.2 (hm.ext hx0) _ rfl
  have HIN : Hid (∀ w', Calls Try.prog 110 #[.int .i64 h, .int .i64 0, .int .i64 99] w' fun e w'' => e = .returned (.bool (inB h 0 99)) ∧ w'.Ext w'') := fun w' => in_any _ _ _ w' _ rfl
  have HX0 := Lib.hid hx0
  have HO := Lib.hid hone
  have HD : Hid (∀ w', W0.Ext w' → w'.cell? ⟨w.heap.size, 0, none⟩ = some (.slice a m.length c) ∧ w'.cell? ⟨w.heap.size + 1, 0, none⟩ = some (.int .i64 h)) := fun w' hx => ⟨hx.cell d0, hx.cell d1⟩
  have hl0 : w.heap.size + 1 + 1 < W0.heap.size := hone.lt
  unfold CutO cutOk at hR
  unfold cutOk
  cases hok : tableOk m 99
  · rw [hok] at HI
    clear hb hm hx0 d0 d1 hone hok hR HIN
    show Calls _ _ _ _ (GreyRet2 w [] false)
    go_enter Try.func58, Try.ntmps58
    go_wp2_with fail
    rw [← hW0]
    refine HI.out.mono ?_
    rintro e w1 ⟨rfl, hx1⟩
    obtain ⟨r1, r2, r3, HR⟩ := Res.storeM (lo := w.heap.size + 3) (.slice none 0 0) (HX0.out.trans hx1) (by omega) (HO.out.ext hx1) (by omega) (OwnMat.none _ _ _ none)
    clear hx1 hW0
    go_wp2
    exact bodyPost_ret (v := .tuple #[.agg #[.slice none 0 0], .bool false]) (by simp [results, Try.results58, go_sem, r3]) rfl (GreyRet2.no HR.out.1)
  · rw [hok] at HI
    cases hin : inB h 0 99
    · rw [hin] at HIN
      clear hb hm hx0 d0 d1 hone hok hR hin
      show Calls _ _ _ _ (GreyRet2 w [] false)
      go_enter Try.func58, Try.ntmps58
      go_wp2_with fail
      rw [← hW0]
      refine HI.out.mono ?_
      rintro e w1 ⟨rfl, hx1⟩
      obtain ⟨d0, d1⟩ := HD.out w1 hx1
      go_wp2_with fail
      refine (HIN.out w1).mono ?_
      rintro e w2 ⟨rfl, hx2⟩
      obtain ⟨r1, r2, r3, HR⟩ := Res.storeM (lo := w.heap.size + 3) (.slice none 0 0) (HX0.out.trans (hx1.trans hx2)) (by omega) (HO.out.ext (hx1.trans hx2)) (by omega) (OwnMat.none _ _ _ none)
      clear hx1 hx2 hW0 d0 d1
      go_wp2
      exact bodyPost_ret (v := .tuple #[.agg #[.slice none 0 0], .bool false]) (by simp [results, Try.results58, go_sem, r3]) rfl (GreyRet2.no HR.out.1)
    · rw [hin] at HIN
      obtain ⟨v1, v2, v3, v4, v5, v6⟩ := tableOk_spec hok
      obtain ⟨h0, h1⟩ := inB_true.1 hin
      have hRR := hR (by rw [hok, hin]; rfl)
      have hfl : m.flatten.length = m.length * (m.getD 0 []).length := by rw [flat_len _ m v5, Nat.mul_comm]
      have hcl : (cutL h m.flatten).length = m.length * (m.getD 0 []).length := by unfold cutL; rw [List.length_map, hfl]
      have hUn : Under m.flatten (cutL h m.flatten) := cut_under h0 fun k hk => (flat_get hok hk).1
      have HRM : Hid (∀ w', W0.Ext w' → Calls Try.prog 147 #[.pointer (some ⟨w.heap.size, 0, none⟩), .func (.func 148) #[] #[.pointer (some ⟨w.heap.size, 0, none⟩), .pointer (some ⟨w.heap.size + 1, 0, none⟩)]] w' (GreyRet w' (grl (m.getD 0 []).length m.length (cutL h m.flatten)))) := fun w' hx =>
        remadeF_any w.heap.size 0 a c A C m 148 #[.pointer (some ⟨w.heap.size, 0, none⟩), .pointer (some ⟨w.heap.size + 1, 0, none⟩)] (flG (m.getD 0 []).length (cutL h m.flatten)) w' (by omega) (by omega) (by omega) enters_cut1 (hx.cell d0) ((hm.ext hx0).ext hx)
          (fun w'' hx' x y hxW hyH => by
            have hk : y * (m.getD 0 []).length + x < m.flatten.length := by
              rw [hfl]
              have := Nat.mul_le_mul_right (m.getD 0 []).length (show y + 1 ≤ m.length by omega)
              rw [Nat.succ_mul] at this
              omega
            have hv : flG (m.getD 0 []).length (cutL h m.flatten) x y = cutF h ((m.getD y []).getD x 0) := by
              show (cutL h m.flatten).getD _ 0 = _
              rw [cutL_at hk, flat_at (m.getD 0 []).length m y x v5 hyH hxW]
            rw [hv]
            have hvy := v5 y hyH
            exact cut1_any _ _ a c A C m h _ x y w'' hyH (by omega) (by omega) (by omega) rfl (v6 y x hyH (by omega)) ⟨h0, h1⟩ ((hx.trans hx').cell d0) ((hx.trans hx').cell d1) (((hm.ext hx0).ext hx).ext hx'))
      have HRC : Hid (∀ (w' : World) (a6 : Option Addr) (c6 : Nat) (A6 : Nat → Option Addr) (C6 : Nat → Nat), W0.Ext w' → MatAt w' a6 A6 C6 (grl (m.getD 0 []).length m.length (cutL h m.flatten)) →
          Calls Try.prog 146 #[.agg #[.slice a6 m.length c6], .agg #[.slice a m.length c]] w' (GreyRet w' (grl (m.getD 0 []).length m.length res))) := fun w' a6 c6 A6 C6 hx hm6 => by
        have hgl := grl_len (m.getD 0 []).length m.length (cutL h m.flatten)
        have hff := grl_flatten (W := (m.getD 0 []).length) (H := m.length) (l := cutL h m.flatten) (by omega) hcl
        have h := reconstructed_any (m.getD 0 []).length m.length m.flatten.length a6 c6 A6 C6 (grl (m.getD 0 []).length m.length (cutL h m.flatten)) a c A C m res w' (by omega) (by omega) (by omega) (by omega) hfl hgl (fun r hr => grl_row hr) rfl v5
          (by rw [hff]; exact hUn) hm6 ((hm.ext hx0).ext hx) (by rw [hff]; exact hRR)
        rw [hgl] at h
        exact h
      have HGL : Hid (∀ l, (grl (m.getD 0 []).length m.length l).length = m.length) := fun l => grl_len _ _ _
      simp only [Bool.true_and]
      clear hb hm hx0 d0 d1 hone hok hR hin hRR hfl hcl hUn v5 v6
      show Calls _ _ _ _ (GreyRet2 w (grl (m.getD 0 []).length m.length res) true)
      generalize cutL h m.flatten = cl at *
      generalize (m.getD 0 []).length = W at *
      generalize m.length = H at *
      go_enter Try.func58, Try.ntmps58
      go_wp2_with fail
      rw [← hW0]
      clear hW0
      refine HI.out.mono ?_
      rintro e w1 ⟨rfl, hx1⟩
      obtain ⟨d0, d1⟩ := HD.out w1 hx1
      go_wp2_with fail
      refine (HIN.out w1).mono ?_
      rintro e w2 ⟨rfl, hx2⟩
      have HX2 := Lib.hid (hx1.trans hx2)
      clear hx1 hx2 d0 d1 HI HIN
      obtain ⟨c2, -⟩ := HD.out w2 HX2.out
      have l2 := World.block_lt_of_cell? _ _ c2
      go_wp2_with fail
      go_region_held3 (fun w' => w'.cell? ⟨w.heap.size, 0, none⟩ = some (.slice a H c))
        (first | exact hk8 | (refine World.Ext.cell ?_ c2 <;> ((repeat (first | exact World.Ext.refl _ | exact ⟨_, rfl⟩ | assumption | refine World.Ext.over ?_ _ | refine World.Ext.drewN ?_ _ | refine World.Ext.drew ?_ | refine World.Ext.alloc ?_ _ | refine World.Ext.setCell ?_ ?_ _ | (simp; done))); done)))
        (first
          | (go_at_call 147; go_loud (refine (HRM.out _ ?_).mono ?_; exact HX2.out.trans ((World.Ext.refl w2).drew); rintro e w6 ⟨a6, c6, A6, C6, rfl, hx6, hm6⟩; rw [HGL.out]; have E6 : w2.Ext w6 := ((World.Ext.refl w2).drew).trans hx6; have HM6 := Lib.hid hm6.mat; clear hx6 hm6))
          | (go_at_call 146; go_loud (refine (HRC.out _ a6 c6 A6 C6 (HX2.out.trans E6) HM6.out).mono ?_; rintro e w7 ⟨a7, c7, A7, C7, rfl, hx7, ho7⟩; rw [HGL.out]; have E7 : w2.Ext w7 := E6.trans hx7; obtain ⟨r1, r2, r3, HR⟩ := Res.storeM (.slice a7 H c7) (HX0.out.trans (HX2.out.trans E7)) (by omega) (HO.out.ext (HX2.out.trans E7)) (Nat.lt_of_lt_of_le hl0 (Nat.le_trans HX2.out.size E6.size)) ho7; have hk8 := keep1S (v := .slice a7 H c7) (show w.heap.size ≠ w.heap.size + 1 + 1 by omega) (E7.cell c2); clear hx7 ho7)))
      go_wp2
      exact bodyPost_ret (v := .tuple #[.agg #[.slice a7 H c7], .bool true]) (by simp [results, Try.results58, go_sem, r3]) rfl ⟨a7, c7, A7, C7, by rw [HGL.out], HR.out.1, HR.out.2⟩
theorem cut_bnd (m : List (List Int)) (h : Int) (l : List Int) : MatBnd (optM (cutOk m h) (grl (m.getD 0 []).length m.length l)) ∧ offM (optM (cutOk m h) (grl (m.getD 0 []).length m.length l)) (optM (cutOk m h) (grl (m.getD 0 []).length m.length l)).length ≤ 1048576 := by
  cases hc : cutOk m h
  · exact ⟨⟨by simp [optM], fun r => by simp [optM]⟩, by simp [optM, offM]⟩
  · unfold cutOk at hc
    rw [Bool.and_eq_true] at hc
    obtain ⟨v1, v2, v3, v4, -, -⟩ := tableOk_spec hc.1
    exact optM_bnd true _ _ _ (by omega) (by omega)
end Go.Proofs.Ythgkmaccbcpaeaa
