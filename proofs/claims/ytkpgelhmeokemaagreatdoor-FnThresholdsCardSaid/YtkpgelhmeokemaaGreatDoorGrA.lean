/- Grey pictures that grow within a mask: the reference's walk. -/
import Derived.Test.YtkpgelhmeokemaaGreatDoorGreyK
import Derived.Deep.RegionHeld3
namespace Go
open Go.RowKit
theorem GrowOf.raise {α : Type} {f : α → Value} {lo lo' : Nat} {e : TypeId} {w : World} {g n cap : Nat} {xs : List α} (h : GrowOf f lo e w (.slice (Option.some ⟨g, 0, Option.none⟩) n cap) xs) (hg : lo' ≤ g) : GrowOf f lo' e w (.slice (Option.some ⟨g, 0, Option.none⟩) n cap) xs := by
  obtain ⟨h1, h2⟩ := h
  refine ⟨h1, ?_⟩
  rcases h2 with h0 | ⟨g', c, cur, hv, -, r⟩
  · exact .inl h0
  · simp only [Value.slice.injEq, Option.some.injEq, Addr.mk.injEq] at hv
    obtain ⟨⟨rfl, -, -⟩, rfl, rfl⟩ := hv
    exact .inr ⟨g, cap, cur, rfl, hg, r⟩
end Go
namespace Go.Proofs.YtkpgelhmeokemaaGreatDoor
open Go Go.RowKit
/-- A list of the call's own that is written in place. -/
structure RcSt (wS : World) (g cap n : Nat) (l : List Int) (wr : World) : Prop where
  wrote : Wrote (fun k => k = g ∨ wS.heap.size ≤ k) wS wr
  grow : GrowOf (Value.int .i64) 0 2 wr (.slice (some ⟨g, 0, none⟩) n cap) l
  len : l.length = n
theorem RcSt.ext {wS : World} {g cap n : Nat} {l : List Int} {wr w' : World} (h : RcSt wS g cap n l wr) (hx : wr.Ext w') : RcSt wS g cap n l w' := ⟨h.wrote.trans (hx.wrote _), h.grow.ext hx, h.len⟩
theorem RcSt.at {wS : World} {g cap n : Nat} {l : List Int} {wr : World} (h : RcSt wS g cap n l wr) {i : Nat} (hi : i < n) :
    wr.cell? ⟨g, i, none⟩ = some (.int .i64 (l.getD i 0)) ∧ wr.frozen? ⟨g, i, none⟩ = false ∧ ∀ z, RcSt wS g cap n (l.set i z) (wr.setCell ⟨g, i, none⟩ (.int .i64 z)) := by
  obtain ⟨g', cap', hv, -, hc, hf, hset⟩ := GrowOf.atI 0 h.grow (i := i) (by rw [h.len]; exact hi)
  simp only [Value.slice.injEq, Option.some.injEq, Addr.mk.injEq] at hv
  obtain ⟨⟨rfl, -, -⟩, -, -⟩ := hv
  exact ⟨hc, hf, fun z => ⟨h.wrote.setCell (p := ⟨g, i, none⟩) (.inl rfl) _, hset z, by rw [List.length_set, h.len]⟩⟩
theorem RcSt.x {w wS : World} {g cap n : Nat} {l : List Int} {wr : World} (h : RcSt wS g cap n l wr) (hx : w.Ext wS) (hg : w.heap.size ≤ g) : w.Ext wr := hx.wroteNew h.wrote fun k hk hs => by have := hx.size; omega
theorem RcSt.start {wS : World} {lo g cap n : Nat} {l : List Int} (h : GrowOf (Value.int .i64) lo 2 wS (.slice (some ⟨g, 0, none⟩) n cap) l) (hl : l.length = n) : RcSt wS g cap n l wS := ⟨Wrote.refl _ _, h.raise (Nat.zero_le _), hl⟩
theorem set_self {l : List Int} {k : Nat} : l.set k (l.getD k 0) = l := by
  apply List.ext_getElem?
  intro i
  rw [List.getElem?_set]
  by_cases e : k = i
  · subst e
    rw [if_pos rfl]
    split
    · rename_i h; rw [List.getD_eq_getElem?_getD, List.getElem?_eq_getElem h]; rfl
    · rename_i h; rw [List.getElem?_eq_none (by omega)]
  · rw [if_neg e]
theorem wrap_small {n : Int} (h0 : 0 ≤ n) (h1 : n ≤ 9000000000) : wrap64 n = n := by
  unfold wrap64
  omega
def mxK (a b : Int) : Int := if b < a then a else b
def RcP (W H : Nat) (mask res : List Int) (wS : World) (g cap n : Nat) (k : Nat) (v : Value) (wr : World) : Prop :=
  ∃ l again, v = .bool again ∧ RcSt wS g cap n l wr ∧ PasW (greC W H mask) (greV W H mask) n res again l ∧ Under mask l ∧ gap mask l + (if again then 1 else 0) = k
noncomputable def RcM (W H : Nat) (mask res : List Int) (wS : World) (g cap n : Nat) (v : Value) (wr : World) : Nat := leastN fun k => RcP W H mask res wS g cap n k v wr
theorem RcM_lt {W H : Nat} {mask res : List Int} {wS : World} {g cap n : Nat} {v v' : Value} {wr wr' : World} {k k' : Nat} (h0 : RcM W H mask res wS g cap n v wr = k) (h : RcP W H mask res wS g cap n k' v' wr') (hn : k' < k) :
    RcM W H mask res wS g cap n v' wr' < RcM W H mask res wS g cap n v wr := by
  rw [h0]
  exact Nat.lt_of_le_of_lt (leastN_le h) hn
end Go.Proofs.YtkpgelhmeokemaaGreatDoor

/- CutPeaks and ReconstructGrey: the reference's side. -/
namespace Go.Proofs.YtkpgelhmeokemaaGreatDoor
open Go Go.RowKit
/-- Of a list the first k turned. -/
def mapTo (f : Int → Int) (l : List Int) (k : Nat) : List Int := (l.take k).map f ++ l.drop k
theorem mapTo_len (f : Int → Int) (l : List Int) (k : Nat) : (mapTo f l k).length = l.length := by unfold mapTo; simp; omega
theorem mapTo_at {f : Int → Int} {l : List Int} {k : Nat} : (mapTo f l k).getD k 0 = l.getD k 0 := by
  unfold mapTo
  by_cases h : k < l.length
  · have h1 : (List.map f (l.take k)).length = k := by simp; omega
    rw [List.getD_eq_getElem?_getD, List.getElem?_append_right (by omega), h1, Nat.sub_self, List.getElem?_drop, Nat.add_zero, ← List.getD_eq_getElem?_getD]
  · rw [List.getD_eq_getElem?_getD, List.getD_eq_getElem?_getD, List.getElem?_eq_none (by simp; omega), List.getElem?_eq_none (by omega)]
theorem mapTo_set {f : Int → Int} {l : List Int} {k : Nat} (h : k < l.length) : (mapTo f l k).set k (f (l.getD k 0)) = mapTo f l (k + 1) := by
  unfold mapTo
  have h1 : (List.map f (l.take k)).length = k := by simp; omega
  have e2 : l.getD k 0 = l[k] := by rw [List.getD_eq_getElem?_getD, List.getElem?_eq_getElem h]; rfl
  rw [List.set_append_right _ _ (by omega), h1, Nat.sub_self, List.take_succ_eq_append_getElem h, List.map_append, List.append_assoc, List.drop_eq_getElem_cons h, List.set_cons_zero, e2]
  rfl
theorem mapTo_all (f : Int → Int) (l : List Int) : mapTo f l l.length = l.map f := by unfold mapTo; simp
/-- The lowered numbers. -/
def cutF (h z : Int) : Int := mxK 0 (z - h)
def cutL (h : Int) (l : List Int) : List Int := l.map (cutF h)
theorem flat_get {m : List (List Int)} (hok : tableOk m 99 = true) {k : Nat} (hk : k < m.flatten.length) : 0 ≤ m.flatten.getD k 0 ∧ m.flatten.getD k 0 ≤ 99 := by
  obtain ⟨v1, v2, v3, v4, v5, v6⟩ := tableOk_spec hok
  have hl := flat_len (m.getD 0 []).length m v5
  have hW : 0 < (m.getD 0 []).length := by omega
  have hx : k % (m.getD 0 []).length < (m.getD 0 []).length := Nat.mod_lt _ hW
  have hy : k / (m.getD 0 []).length < m.length := by rw [Nat.div_lt_iff_lt_mul hW, Nat.mul_comm]; omega
  have he : k / (m.getD 0 []).length * (m.getD 0 []).length + k % (m.getD 0 []).length = k := by rw [Nat.mul_comm]; exact Nat.div_add_mod _ _
  have h := flat_at (m.getD 0 []).length m _ _ v5 hy hx
  rw [he] at h
  rw [h]
  exact v6 _ _ hy (by rw [v5 _ hy]; exact hx)
theorem cut_under {h : Int} {l : List Int} (h0 : 0 ≤ h) (hl : ∀ k, k < l.length → 0 ≤ l.getD k 0) : Under l (cutL h l) := by
  unfold cutL
  refine ⟨by simp, fun k hk => ?_⟩
  rw [List.length_map] at hk
  have e : (l.map (cutF h)).getD k 0 = cutF h (l.getD k 0) := by
    rw [List.getD_eq_getElem?_getD, List.getElem?_map, List.getD_eq_getElem?_getD, List.getElem?_eq_getElem hk]
    rfl
  rw [e]
  have := hl k hk
  unfold cutF mxK
  split <;> omega
def cutOk (m : List (List Int)) (h : Int) : Bool := tableOk m 99 && inB h 0 99
/-- What is left of the peaks. -/
def CutO (m : List (List Int)) (h : Int) (res : List Int) : Prop := cutOk m h = true → PasR (greC (m.getD 0 []).length m.length m.flatten) (greV (m.getD 0 []).length m.length m.flatten) m.flatten.length (cutL h m.flatten) res
theorem CutO.ex (m : List (List Int)) (h : Int) : ∃ res, CutO m h res := by
  by_cases hc : cutOk m h = true
  · have hc2 := hc
    unfold cutOk at hc2
    rw [Bool.and_eq_true, inB_true] at hc2
    obtain ⟨res, hr⟩ := GreR.ex (m.getD 0 []).length m.length (cut_under hc2.2.1 fun k hk => (flat_get hc2.1 hk).1)
    exact ⟨res, fun _ => hr⟩
  · exact ⟨[], fun h2 => absurd h2 hc⟩
theorem GreyRet2.no {w w' : World} (hx : w.Ext w') : GreyRet2 w [] false (.returned (.tuple #[.agg #[.slice none 0 0], .bool false])) w' := ⟨none, 0, _, _, rfl, hx, OwnMat.none _ _ _ _⟩
end Go.Proofs.YtkpgelhmeokemaaGreatDoor

/- Grey pictures that grow within a mask: the program's walk. -/
namespace Go.Proofs.YtkpgelhmeokemaaGreatDoor
open Go Go.RowKit
/-- The table under way. -/
structure GrSt (lo hi : Nat) (wS : World) (a : Option Addr) (A : Nat → Option Addr) (C : Nat → Nat) (W H : Nat) (l : List Int) (wr : World) : Prop where
  wrote : Wrote (fun k => (lo ≤ k ∧ k < hi) ∨ wS.heap.size ≤ k) wS wr
  mat : OwnMat lo hi wr a A C (grl W H l)
  len : l.length = H * W
theorem GrSt.ext {lo hi : Nat} {wS : World} {a : Option Addr} {A : Nat → Option Addr} {C : Nat → Nat} {W H : Nat} {l : List Int} {wr w' : World} (h : GrSt lo hi wS a A C W H l wr) (hx : wr.Ext w') : GrSt lo hi wS a A C W H l w' := ⟨h.wrote.trans (hx.wrote _), h.mat.ext hx, h.len⟩
theorem GrSt.base {lo hi : Nat} {w2 wS : World} {a : Option Addr} {A : Nat → Option Addr} {C : Nat → Nat} {W H : Nat} {l l2 : List Int} {wr : World} (h2 : GrSt lo hi w2 a A C W H l2 wS) (h : GrSt lo hi wS a A C W H l wr) : GrSt lo hi w2 a A C W H l wr :=
  ⟨h2.wrote.trans (h.wrote.mono fun k _ hk => by have := h2.wrote.size; omega), h.mat, h.len⟩
theorem GrSt.put {lo hi : Nat} {wS : World} {a : Option Addr} {A : Nat → Option Addr} {C : Nat → Nat} {W H : Nat} {l : List Int} {wr : World} (h : GrSt lo hi wS a A C W H l wr) {x y : Nat} (hx : x < W) (hy : y < H) :
    ∃ b o, A y = some ⟨b, o, none⟩ ∧ wr.cell? ⟨b, o + x, none⟩ = some (.int .i64 (l.getD (y * W + x) 0)) ∧ wr.frozen? ⟨b, o + x, none⟩ = false ∧ (∃ b1 o1, a = some ⟨b1, o1, none⟩ ∧ wr.cell? ⟨b1, o1 + y, none⟩ = some (.slice (some ⟨b, o, none⟩) W (C y))) ∧
      ∀ wq z, wr.Ext wq → GrSt lo hi wS a A C W H (l.set (y * W + x) z) (wq.setCell ⟨b, o + x, none⟩ (.int .i64 z)) := by
  have hy' : y < (grl W H l).length := by rw [grl_len]; exact hy
  have hx' : x < ((grl W H l).getD y []).length := by rw [grl_row hy]; exact hx
  obtain ⟨b, o, hA, h1, h2, h3, h4⟩ := h.mat.rows y hy' x hx'
  obtain ⟨b1, o1, e1, -, -, e2, -⟩ := h.mat.outer y hy'
  rw [grl_at hx hy] at h3
  rw [grl_row hy, hA] at e2
  refine ⟨b, o, hA, h3, h4, ⟨b1, o1, e1, e2⟩, fun wq z hq => ?_⟩
  have hp := OwnMat.put (h.mat.ext hq) hy' hx' hA z
  rw [grl_set hx hy h.len] at hp
  exact ⟨(h.wrote.trans (hq.wrote _)).setCell (p := ⟨b, o + x, none⟩) (.inl ⟨h1, h2⟩) _, hp, by rw [List.length_set, h.len]⟩
def GrP (W H : Nat) (mask res : List Int) (lo hi : Nat) (wS : World) (a : Option Addr) (A : Nat → Option Addr) (C : Nat → Nat) (n : Nat) (k : Nat) (v : Value) (wr : World) : Prop :=
  ∃ l again, v = .bool again ∧ GrSt lo hi wS a A C W H l wr ∧ PasW (greC W H mask) (greV W H mask) n res again l ∧ Under mask l ∧ gap mask l + (if again then 1 else 0) = k
noncomputable def GrM (W H : Nat) (mask res : List Int) (lo hi : Nat) (wS : World) (a : Option Addr) (A : Nat → Option Addr) (C : Nat → Nat) (n : Nat) (v : Value) (wr : World) : Nat := leastN fun k => GrP W H mask res lo hi wS a A C n k v wr
theorem GrM_lt {W H : Nat} {mask res : List Int} {lo hi : Nat} {wS : World} {a : Option Addr} {A : Nat → Option Addr} {C : Nat → Nat} {n : Nat} {v v' : Value} {wr wr' : World} {k k' : Nat} (h0 : GrM W H mask res lo hi wS a A C n v wr = k) (h : GrP W H mask res lo hi wS a A C n k' v' wr') (hn : k' < k) :
    GrM W H mask res lo hi wS a A C n v' wr' < GrM W H mask res lo hi wS a A C n v wr := by
  rw [h0]
  exact Nat.lt_of_le_of_lt (leastN_le h) hn
theorem spotN {s : Int × Int} {x y : Nat} (h : s = ((x : Int), (y : Int))) : s.1 = x ∧ s.2 = y := by rw [h]; exact ⟨rfl, rfl⟩
end Go.Proofs.YtkpgelhmeokemaaGreatDoor

/- CutPeaks and ReconstructGrey, both sides. -/
namespace Go.Proofs.YtkpgelhmeokemaaGreatDoor
open Go Go.RowKit
theorem grl_flatten {W H : Nat} {l : List Int} (hW : 0 < W) (hl : l.length = H * W) : (grl W H l).flatten = l := by
  have hr : ∀ r, r < (grl W H l).length → ((grl W H l).getD r []).length = W := fun r h => by rw [grl_len] at h; exact grl_row h
  have hfl := flat_len W (grl W H l) hr
  rw [grl_len] at hfl
  apply List.ext_getElem?
  intro k
  by_cases hk : k < H * W
  · have e2 : ∀ (m : List Int), k < m.length → m[k]? = some (m.getD k 0) := fun m hm => by rw [List.getD_eq_getElem?_getD, List.getElem?_eq_getElem hm]; rfl
    have hx : k % W < W := Nat.mod_lt _ hW
    have hy : k / W < H := by rw [Nat.div_lt_iff_lt_mul hW]; exact hk
    have he : k / W * W + k % W = k := by rw [Nat.mul_comm]; exact Nat.div_add_mod _ _
    have h := flat_at W (grl W H l) _ _ hr (by rw [grl_len]; exact hy) hx
    rw [he, grl_at hx hy, he] at h
    rw [e2 _ (by rw [hfl, Nat.mul_comm]; exact hk), e2 _ (by rw [hl]; exact hk), h]
  · rw [List.getElem?_eq_none (by rw [hfl, Nat.mul_comm]; omega), List.getElem?_eq_none (by omega)]
theorem cutL_at {h : Int} {l : List Int} {k : Nat} (hk : k < l.length) : (cutL h l).getD k 0 = cutF h (l.getD k 0) := by
  unfold cutL
  rw [List.getD_eq_getElem?_getD, List.getElem?_map, List.getD_eq_getElem?_getD, List.getElem?_eq_getElem hk]
  rfl
theorem keep1S {w : World} {p p2 : Nat} {v x : Value} (h : p2 ≠ p) (k : w.cell? ⟨p2, 0, none⟩ = some x) : (w.setCell ⟨p, 0, none⟩ v).cell? ⟨p2, 0, none⟩ = some x :=
  (Wrote.setCell (S := fun k => k = p) (Wrote.refl _ _) (p := ⟨p, 0, none⟩) rfl v : Wrote _ w _).cell k h
theorem cut_bnd (m : List (List Int)) (h : Int) (l : List Int) : MatBnd (optM (cutOk m h) (grl (m.getD 0 []).length m.length l)) ∧ offM (optM (cutOk m h) (grl (m.getD 0 []).length m.length l)) (optM (cutOk m h) (grl (m.getD 0 []).length m.length l)).length ≤ 1048576 := by
  cases hc : cutOk m h
  · exact ⟨⟨by simp [optM], fun r => by simp [optM]⟩, by simp [optM, offM]⟩
  · unfold cutOk at hc
    rw [Bool.and_eq_true] at hc
    obtain ⟨v1, v2, v3, v4, -, -⟩ := tableOk_spec hc.1
    exact optM_bnd true _ _ _ (by omega) (by omega)
end Go.Proofs.YtkpgelhmeokemaaGreatDoor
