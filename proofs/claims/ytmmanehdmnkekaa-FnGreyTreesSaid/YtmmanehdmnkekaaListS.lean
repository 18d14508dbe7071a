/- The reference's lists of pixels; the other colours; a white edge; what is reached from one spot. -/
import Derived.Test.YtmmanehdmnkekaaRecP
namespace Go
open Go.RowKit
theorem GrowOf.atI {α : Type} {f : α → Value} {lo : Nat} {e : TypeId} {w : World} {v : Value} {xs : List α} (d : α) (h : GrowOf f lo e w v xs) {i : Nat} (hi : i < xs.length) :
    ∃ g cap, v = .slice (Option.some ⟨g, 0, none⟩) xs.length cap ∧ lo ≤ g ∧ w.cell? ⟨g, i, none⟩ = Option.some (f (xs.getD i d)) ∧ w.frozen? ⟨g, i, none⟩ = false ∧ ∀ x, GrowOf f lo e (w.setCell ⟨g, i, none⟩ (f x)) v (xs.set i x) := by
  obtain ⟨h1, h2⟩ := h
  rcases h2 with ⟨rfl, h0⟩ | ⟨g, cap, cur, rfl, hl, hh, hc, hm, hs, ht⟩
  · have : xs = [] := by simpa using h0
    rw [this] at hi
    cases hi
  · rw [Nat.mul_one] at ht hs
    have hic : i < cur.size := by omega
    refine ⟨g, cap, rfl, hl, ?_, by simp [World.frozen?, hh], fun x => ⟨by simp, .inr ⟨g, cap, cur.set i (f x) hic, by rw [List.length_set], hl, ?_, by simpa using hc, hm, by simpa using hs, ?_⟩⟩⟩
    · have e1 : cur.toList[i]? = Option.some (f (xs.getD i d)) := by
        have : (cur.toList.take xs.length)[i]? = (xs.map f)[i]? := by rw [ht]
        rw [List.getElem?_take, if_pos hi, List.getElem?_map, List.getElem?_eq_getElem hi] at this
        rw [this, List.getD_eq_getElem?_getD, List.getElem?_eq_getElem hi]
        rfl
      simp only [World.cell?, hh]
      simpa using e1
    · unfold World.setCell
      simp only [Array.getElem?_modify, if_true, hh]
      simp [Array.setIfInBounds, hic]
    · rw [Nat.mul_one, List.length_set, Array.toList_set, List.take_set, ht, List.map_set]
end Go
namespace Go.Proofs.Ytmmanehdmnkekaa
open Go.RowKit
/-- A list of pixels under way. -/
def BlSt (w : World) (v : Value) (l : List Bool) (wr : World) : Prop := w.Ext wr ∧ GrowOf Value.bool w.heap.size 4 wr v l
theorem BlSt.next {w w2 : World} {v : Value} {l l' : List Bool} {b : Bool} (h : BlSt w v l w2) (e : l' = l ++ [b]) {o : Obj} {v' : Value} {w1 : World} (hgrow : (w2.alloc o).grownBy w1 v.ownBlock)
    (hown : w1.ownsRow w.heap.size 4 1 v' (l.length + 1) (l.map Value.bool ++ [.bool b])) : BlSt w v' l' w1 := ⟨h.2.pushExt h.1 hgrow, by rw [e]; exact GrowOf.push hown⟩
theorem BlSt.ext {w w1 w2 : World} {v : Value} {l : List Bool} (h : BlSt w v l w1) (hx : w1.Ext w2) : BlSt w v l w2 := ⟨h.1.trans hx, h.2.ext hx⟩
theorem BlSt.start {w : World} : BlSt w (.slice (some ⟨w.heap.size, 0, none⟩) 0 0) [] (w.alloc (.cells #[] 4)) := ⟨by repeat (first | exact World.Ext.refl _ | exact ⟨_, rfl⟩ | assumption | refine World.Ext.over ?_ _ | refine World.Ext.drewN ?_ _ | refine World.Ext.drew ?_ | refine World.Ext.alloc ?_ _ | refine World.Ext.setCell ?_ (by simp) _), GrowOf.empty _ (Nat.le_refl _)⟩
set_option maxRecDepth 5000 in
set_option maxHeartbeats 1600000 in
theorem l01List_any (p : Nat) (a : Option Addr) (c : Nat) (ss : List ByteArray) (w : World) (he : Even ss) (hH : ss.length ≤ 64) (hW : picW ss ≤ 64) (hp : w.cell? ⟨p, 0, none⟩ = some (.slice a ss.length c)) (hm : RowS w a ss) :
    Calls Try.prog 245 #[.pointer (some ⟨p, 0, none⟩)] w fun e w' => ∃ v, e = .returned v ∧ BlSt w v (picL ss) w' := by
  obtain ⟨ib, hib, hb0, hb1, hb2⟩ := info_parts Try.infoBoolP
  have HM := Lib.hid hm
  have HE := Lib.hid he
  have HP : Hid (∀ w', w.Ext w' → w'.cell? ⟨p, 0, none⟩ = some (.slice a ss.length c)) := fun w' hx => hx.cell hp
  have HLEN := Lib.hid (picL_len he)
  have HST : Hid (BlSt w (.slice (some ⟨w.heap.size, 0, none⟩) 0 0) [] (w.alloc (.cells #[] 4))) := BlSt.start
  clear hm he hp
  go_enter Try.func245, Try.ntmps245
  go_wp2
  go_loopw [3, 4, 5] (fun v m _ wr => ∃ y : Nat, y ≤ ss.length ∧ m = .int .i64 y ∧ Hid (BlSt w v ((picL ss).take (y * picW ss)) wr)) (fun _ m _ _ => ss.length - (intOf m).toNat)
  case atStart => exact ⟨0, Nat.zero_le _, rfl, by rw [Nat.zero_mul]; exact HST⟩
  case round =>
    obtain ⟨y, hy, rfl, HS⟩ := hrel
    clear HST
    obtain ⟨wo, rfl⟩ : ∃ wo : World, wo = wr := ⟨_, rfl⟩
    have c0 := HP.out _ HS.out.1
    by_cases hlty : y < ss.length
    · have hlty' : (y : Int) < (ss.length : Int) := by omega
      have hy0 : (0 : Int) ≤ (y : Int) := by omega
      obtain ⟨b, o, rfl, hc⟩ := HM.out y hlty
      have hsz : (ss.getD y ByteArray.empty).size = picW ss := HE.out.2 y hlty
      have HAT := Lib.hid (fun x (hx : x < picW ss) => picL_at HE.out x y hx hlty)
      have HY : Hid (∀ x, x < picW ss → y * picW ss + x < (picL ss).length ∧ y * picW ss + x < 4096) := fun x hx => by
        have h1 := Nat.mul_le_mul_right (picW ss) (show y + 1 ≤ ss.length by omega)
        rw [Nat.succ_mul] at h1
        have h2 := HLEN.out
        have h3 := Nat.mul_le_mul hH hW
        omega
      have HC : Hid (∀ w', w.Ext w' → w'.cell? ⟨b, o + y, none⟩ = some (.string (ss.getD y ByteArray.empty))) := fun w' hx => hx.cell hc
      clear hc
      generalize ss.getD y ByteArray.empty = s at hsz HAT HC
      have HSZ := Lib.hid hsz
      go_wp2
      go_loopw [3, 5] (fun v m wr => ∃ x : Nat, x ≤ picW ss ∧ m = .int .i64 x ∧ Hid (BlSt w v ((picL ss).take (y * picW ss + x)) wr)) (fun _ m _ => picW ss - (intOf m).toNat)
      case atStart => exact ⟨0, Nat.zero_le _, rfl, HS⟩
      case round =>
        clear HS c0
        obtain ⟨x, hx, rfl, HS⟩ := hrel
        obtain ⟨w2, rfl⟩ : ∃ w2 : World, w2 = wr := ⟨_, rfl⟩
        have c0 := HP.out _ HS.out.1
        have c1 := HC.out _ HS.out.1
        by_cases hltx : x < picW ss
        · have hltx' : (x : Int) < (s.size : Int) := by omega
          have hlts : x < s.size := by omega
          have hx0 : (0 : Int) ≤ (x : Int) := by omega
          have hbe : (((s[x]'hlts).toNat : Int) == 35) = (picL ss).getD (y * picW ss + x) false := (byte_eq s x hlts 35).trans (HAT.out x hltx).symm
          obtain ⟨hk1, hk2⟩ := HY.out x hltx
          have hlen : ((picL ss).take (y * picW ss + x)).length = y * picW ss + x := by simp; omega
          have HQ : Hid ((picL ss).take (y * picW ss + (x + 1)) = (picL ss).take (y * picW ss + x) ++ [(picL ss).getD (y * picW ss + x) false]) := by show _ = _; rw [← Nat.add_assoc]; exact take_next hk1
          have HNEXT : Hid (∀ (o : Obj) (v' : Value) (w1 : World), (w2.alloc o).grownBy w1 u3.ownBlock → w1.ownsRow w.heap.size 4 1 v' (((picL ss).take (y * picW ss + x)).length + 1) (((picL ss).take (y * picW ss + x)).map Value.bool ++ [.bool ((picL ss).getD (y * picW ss + x) false)]) → Hid (BlSt w v' ((picL ss).take (y * picW ss + (x + 1))) w1)) := fun o v' w1 hgrow hown' => BlSt.next HS.out HQ.out hgrow hown'
          have hown := HS.out.2
          unfold GrowOf at hown
          have HLE : ∀ o' : Obj, w.heap.size ≤ (w2.alloc o').heap.size := fun o' => (HS.out.1.alloc o').size
          have HB1 : Hid (((picL ss).take (y * picW ss + x)).length + 1 ≤ maxLen) := by show _ ≤ _; rw [hlen]; unfold maxLen; omega
          have HB2 : Hid ((((picL ss).take (y * picW ss + x)).length + 1) * 1 ≤ 140737488355328) := by show _ ≤ _; rw [hlen]; omega
          clear HS HQ hlen hk1 hk2
          generalize (picL ss).take (y * picW ss + x) = pre at *
          generalize (picL ss).getD (y * picW ss + x) false = bt at *
          go_wp2_with ((at_builtin; refine wpList_append_own _ rfl _ _ 124 rfl w.heap.size 4 ib (.bool false) 1 1 Try.underlying124 hib hb0 hb1 hb2 rfl (by decide) _ _ _ rfl (hown.alloc _) ⟨w2.heap.size, 0, none⟩ 1 1 [.bool bt] rfl rfl (cell_one_new _ _ _) (by simp [Value.oneCell']) HB1.out HB2.out (HLE _) (fun v' w1 hown' hgrow _ => ?_)); have HS4 := HNEXT.out _ _ _ hgrow hown'; clear hgrow hown' hown)
          go_roundw
          case rel => exact ⟨x + 1, by omega, by go_num, HS4⟩
          case measure => simp [intOf]; omega
        · have : x = picW ss := by omega
          subst this
          have hge : ¬ (picW ss : Int) < (s.size : Int) := by omega
          have HS2 : Hid (BlSt w u3 ((picL ss).take ((y + 1) * picW ss)) w2) := by show BlSt _ _ _ _; rw [Nat.succ_mul]; exact HS.out
          clear HS hsz
          go_wp2
          go_roundw
          case rel => exact ⟨y + 1, by omega, by go_num, HS2⟩
          case measure => simp [intOf]; omega
    · have : y = ss.length := by omega
      subst this
      have HS2 : Hid (BlSt w u3 (picL ss) wo) := by
        have h := HS.out
        rw [← HLEN.out, List.take_length] at h
        exact h
      clear HS
      go_wp2
      go_ret
      exact ⟨_, rfl, HS2.out⟩
/-- A new picture behind a pointer is returned. -/
def PtrRet (w : World) (rows : List ByteArray) (e : Ending) (w' : World) : Prop :=
  ∃ p a c, e = .returned (.pointer (some ⟨p, 0, none⟩)) ∧ w.Ext w' ∧ w'.cell? ⟨p, 0, none⟩ = some (.slice a rows.length c) ∧ RowS w' a rows
set_option maxRecDepth 5000 in
set_option maxHeartbeats 1600000 in
theorem l05Part_any (p : Nat) (a : Option Addr) (c : Nat) (ss : List ByteArray) (x y : Int) (eight : Bool) (w : World) (he : Even ss) (hW1 : 1 ≤ picW ss) (hW : picW ss ≤ 64) (hH : ss.length ≤ 64)
    (hp : w.cell? ⟨p, 0, none⟩ = some (.slice a ss.length c)) (hm : RowS w a ss) (hx : -1000 ≤ x ∧ x ≤ 1000) (hy : -1000 ≤ y ∧ y ≤ 1000)
    (g : Nat → Nat → Bool) (hg : ∀ x' y' : Nat, x' < picW ss → y' < ss.length → (g x' y' = true ↔ Rch (pxP (picW ss) ss.length (picL ss)) (nbS eight) [(x, y)] ((x' : Int), (y' : Int)))) :
    Calls Try.prog 246 #[.pointer (some ⟨p, 0, none⟩), .agg #[.int .i64 x, .int .i64 y], .bool eight] w (PtrRet w (picRows (picW ss) ss.length (mkl (picW ss) ss.length g))) := by
  obtain ⟨W0, hW0⟩ : ∃ W0, W0 = (w.alloc (.cells #[.int .i64 x, .int .i64 y] 58)).alloc (.cells #[.int .i64 x, .int .i64 y] 58) := ⟨_, rfl⟩
  have hx0 : w.Ext W0 := by rw [hW0]; repeat (first | exact World.Ext.refl _ | exact ⟨_, rfl⟩ | assumption | refine World.Ext.over ?_ _ | refine World.Ext.drewN ?_ _ | refine World.Ext.drew ?_ | refine World.Ext.alloc ?_ _ | refine World.Ext.setCell ?_ (by simp) _)
  have hrow : RowP W0 (some ⟨w.heap.size + 1, 0, none⟩) [(x, y)] := by
    intro i hi
    have hi2 : i < 2 := hi
    refine ⟨w.heap.size + 1, 0, rfl, ?_⟩
    rw [hW0]
    match i, hi2 with
    | 0, _ => simp [go_sem, flatP]
    | 1, _ => simp [go_sem, flatP]
  have HRE : Hid (Calls Try.prog 259 #[.pointer (some ⟨p, 0, none⟩), .slice (some ⟨w.heap.size + 1, 0, none⟩) 1 1, .bool eight] W0 (PicVal W0 (picRows (picW ss) ss.length (mkl (picW ss) ss.length g)))) :=
    l03Reach_any p a c ss (some ⟨w.heap.size + 1, 0, none⟩) 1 [(x, y)] eight W0 he hW1 hW hH (hx0.cell hp) (RowOf.ext hm hx0) hrow (by simp) (fun q hq => by simp at hq; subst hq; exact ⟨hx.1, hx.2, hy.1, hy.2⟩) g hg
  have HX0 := Lib.hid hx0
  clear hm hp hg hrow hx hy hx0
  generalize picRows (picW ss) ss.length (mkl (picW ss) ss.length g) = R at *
  go_enter Try.func246, Try.ntmps246
  go_wp2_with fail
  rw [← hW0]
  refine HRE.out.mono ?_
  rintro e w1 ⟨a1, c1, rfl, hx1, ho1⟩
  have HX1 := Lib.hid (HX0.out.trans hx1)
  have HR1 := Lib.hid ho1.row
  have HQ : Hid (∀ W1 : World, W1 = w1.alloc (.cells #[.slice a1 R.length c1] 38) → PtrRet w R (.returned (.pointer (some ⟨w1.heap.size, 0, none⟩))) W1) := fun W1 e => by
    subst e
    exact ⟨w1.heap.size, a1, c1, rfl, HX1.out.alloc _, by simp [go_sem], RowOf.ext HR1.out ((World.Ext.refl _).alloc _)⟩
  clear hx1 ho1 hW0
  go_wp2
  go_ret
  exact HQ.out _ rfl
/-- A picture's pixels with a white edge. -/
def padL (W H : Nat) (l : List Bool) : List Bool := mkl (W + 2) (H + 2) fun i j => pxl W H l ((i : Int) - 1) ((j : Int) - 1)
theorem padL_len (W H : Nat) (l : List Bool) : (padL W H l).length = (W + 2) * (H + 2) := by unfold padL; rw [mkl_len, Nat.mul_comm]
end Go.Proofs.Ytmmanehdmnkekaa
