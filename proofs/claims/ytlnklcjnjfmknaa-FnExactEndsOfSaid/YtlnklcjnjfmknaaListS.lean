/- The reference's lists of pixels; the other colours; a white edge; what is reached from one spot. -/
import Derived.Test.YtlnklcjnjfmknaaRecP
namespace Go
open Go.RowKit
theorem GrowOf.atI {α : Type} {f : α → Value} {lo : Nat} {e : TypeId} {w : World} {v : Value} {xs : List α} (d : α) (h : GrowOf f lo e w v xs) {i : Nat} (hi : i < xs.length) :
    ∃ g cap, v = .slice (Option.some ⟨g, 0, none⟩) xs.length cap ∧ lo ≤ g ∧ w.cell? ⟨g, i, none⟩ = Option.some (f (xs.getD i d)) ∧ w.frozen? ⟨g, i, none⟩ = false ∧ ∀ x, GrowOf f lo e (w.setCell ⟨g, i, none⟩ (f x)) v (xs.set i x) := by
  obtain ⟨h1, h2⟩ := h
  rcases h2 with ⟨rfl, h0⟩ | ⟨g, cap, cur, rfl, hl, hh, hc, hm, hs, ht⟩
  · have : xs = [] := by simpa using h0
    rw [this] at hi
    cases hi
  · rw [Nat.mul_one] at ht hs
    have hic : i < cur.size := by omega
    refine ⟨g, cap, rfl, hl, ?_, by simp [World.frozen?, hh], fun x => ⟨by simp, .inr ⟨g, cap, cur.set i (f x) hic, by rw [List.length_set], hl, ?_, by simpa using hc, hm, by simpa using hs, ?_⟩⟩⟩
    · have e1 : cur.toList[i]? = Option.some (f (xs.getD i d)) := by
        have : (cur.toList.take xs.length)[i]? = (xs.map f)[i]? := by rw [ht]
        rw [List.getElem?_take, if_pos hi, List.getElem?_map, List.getElem?_eq_getElem hi] at this
        rw [this, List.getD_eq_getElem?_getD, List.getElem?_eq_getElem hi]
        rfl
      simp only [World.cell?, hh]
      simpa using e1
    · unfold World.setCell
      simp only [Array.getElem?_modify, if_true, hh]
      simp [Array.setIfInBounds, hic]
    · rw [Nat.mul_one, List.length_set, Array.toList_set, List.take_set, ht, List.map_set]
end Go
namespace Go.Proofs.Ytlnklcjnjfmknaa
open Go.RowKit
/-- A list of pixels under way. -/
def BlSt (w : World) (v : Value) (l : List Bool) (wr : World) : Prop := w.Ext wr ∧ GrowOf Value.bool w.heap.size 4 wr v l
theorem BlSt.next {w w2 : World} {v : Value} {l l' : List Bool} {b : Bool} (h : BlSt w v l w2) (e : l' = l ++ [b]) {o : Obj} {v' : Value} {w1 : World} (hgrow : (w2.alloc o).grownBy w1 v.ownBlock)
    (hown : w1.ownsRow w.heap.size 4 1 v' (l.length + 1) (l.map Value.bool ++ [.bool b])) : BlSt w v' l' w1 := ⟨h.2.pushExt h.1 hgrow, by rw [e]; exact GrowOf.push hown⟩
theorem BlSt.ext {w w1 w2 : World} {v : Value} {l : List Bool} (h : BlSt w v l w1) (hx : w1.Ext w2) : BlSt w v l w2 := ⟨h.1.trans hx, h.2.ext hx⟩
theorem BlSt.start {w : World} : BlSt w (.slice (some ⟨w.heap.size, 0, none⟩) 0 0) [] (w.alloc (.cells #[] 4)) := ⟨by repeat (first | exact World.Ext.refl _ | exact ⟨_, rfl⟩ | assumption | refine World.Ext.over ?_ _ | refine World.Ext.drewN ?_ _ | refine World.Ext.drew ?_ | refine World.Ext.alloc ?_ _ | refine World.Ext.setCell ?_ (by simp) _), GrowOf.empty _ (Nat.le_refl _)⟩
set_option maxRecDepth 5000 in
set_option maxHeartbeats 1600000 in
theorem l01List_any (p : Nat) (a : Option Addr) (c : Nat) (ss : List ByteArray) (w : World) (he : Even ss) (hH : ss.length ≤ 64) (hW : picW ss ≤ 64) (hp : w.cell? ⟨p, 0, none⟩ = some (.slice a ss.length c)) (hm : RowS w a ss) :
    Calls Try.prog 147 #[.pointer (some ⟨p, 0, none⟩)] w fun e w' => ∃ v, e = .returned v ∧ BlSt w v (picL ss) w' := by
  obtain ⟨ib, hib, hb0, hb1, hb2⟩ := info_parts Try.infoBoolR
  have HM := Lib.hid hm
  have HE := Lib.hid he
  have HP : Hid (∀ w', w.Ext w' → w'.cell? ⟨p, 0, none⟩ = some (.slice a ss.length c)) := fun w' hx => hx.cell hp
  have HLEN := Lib.hid (picL_len he)
  have HST : Hid (BlSt w (.slice (some ⟨w.heap.size, 0, none⟩) 0 0) [] (w.alloc (.cells #[] 4))) := BlSt.start
  clear hm he hp
  go_enter Try.func147, Try.ntmps147
  go_wp2
  go_loopw [3, 4, 5] (fun v m _ wr => ∃ y : Nat, y ≤ ss.length ∧ m = .int .i64 y ∧ Hid (BlSt w v ((picL ss).take (y * picW ss)) wr)) (fun _ m _ _ => ss.length - (intOf m).toNat)
  case atStart => exact ⟨0, Nat.zero_le _, rfl, by rw [Nat.zero_mul]; exact HST⟩
  case round =>
    obtain ⟨y, hy, rfl, HS⟩ := hrel
    clear HST
    obtain ⟨wo, rfl⟩ : ∃ wo : World, wo = wr := ⟨_, rfl⟩
    have c0 := HP.out _ HS.out.1
    by_cases hlty : y < ss.length
    · have hlty' : (y : Int) < (ss.length : Int) := by omega
      have hy0 : (0 : Int) ≤ (y : Int) := by omega
      obtain ⟨b, o, rfl, hc⟩ := HM.out y hlty
      have hsz : (ss.getD y ByteArray.empty).size = picW ss := HE.out.2 y hlty
      have HAT := Lib.hid (fun x (hx : x < picW ss) => picL_at HE.out x y hx hlty)
      have HY : Hid (∀ x, x < picW ss → y * picW ss + x < (picL ss).length ∧ y * picW ss + x < 4096) := fun x hx => by
        have h1 := Nat.mul_le_mul_right (picW ss) (show y + 1 ≤ ss.length by omega)
        rw [Nat.succ_mul] at h1
        have h2 := HLEN.out
        have h3 := Nat.mul_le_mul hH hW
        omega
      have HC : Hid (∀ w', w.Ext w' → w'.cell? ⟨b, o + y, none⟩ = some (.string (ss.getD y ByteArray.empty))) := fun w' hx => hx.cell hc
      clear hc
      generalize ss.getD y ByteArray.empty = s at hsz HAT HC
      have HSZ := Lib.hid hsz
      go_wp2
      go_loopw [3, 5] (fun v m wr => ∃ x : Nat, x ≤ picW ss ∧ m = .int .i64 x ∧ Hid (BlSt w v ((picL ss).take (y * picW ss + x)) wr)) (fun _ m _ => picW ss - (intOf m).toNat)
      case atStart => exact ⟨0, Nat.zero_le _, rfl, HS⟩
      case round =>
        clear HS c0
        obtain ⟨x, hx, rfl, HS⟩ := hrel
        obtain ⟨w2, rfl⟩ : ∃ w2 : World, w2 = wr := ⟨_, rfl⟩
        have c0 := HP.out _ HS.out.1
        have c1 := HC.out _ HS.out.1
        by_cases hltx : x < picW ss
        · have hltx' : (x : Int) < (s.size : Int) := by omega
          have hlts : x < s.size := by omega
          have hx0 : (0 : Int) ≤ (x : Int) := by omega
          have hbe : (((s[x]'hlts).toNat : Int) == 35) = (picL ss).getD (y * picW ss + x) false := (byte_eq s x hlts 35).trans (HAT.out x hltx).symm
          obtain ⟨hk1, hk2⟩ := HY.out x hltx
          have hlen : ((picL ss).take (y * picW ss + x)).length = y * picW ss + x := by simp; omega
          have HQ : Hid ((picL ss).take (y * picW ss + (x + 1)) = (picL ss).take (y * picW ss + x) ++ [(picL ss).getD (y * picW ss + x) false]) := by show _ = _; rw [← Nat.add_assoc]; exact take_next hk1
          have HNEXT : Hid (∀ (o : Obj) (v' : Value) (w1 : World), (w2.alloc o).grownBy w1 u3.ownBlock → w1.ownsRow w.heap.size 4 1 v' (((picL ss).take (y * picW ss + x)).length + 1) (((picL ss).take (y * picW ss + x)).map Value.bool ++ [.bool ((picL ss).getD (y * picW ss + x) false)]) → Hid (BlSt w v' ((picL ss).take (y * picW ss + (x + 1))) w1)) := fun o v' w1 hgrow hown' => BlSt.next HS.out HQ.out hgrow hown'
          have hown := HS.out.2
          unfold GrowOf at hown
          have HLE : ∀ o' : Obj, w.heap.size ≤ (w2.alloc o').heap.size := fun o' => (HS.out.1.alloc o').size
          have HB1 : Hid (((picL ss).take (y * picW ss + x)).length + 1 ≤ maxLen) := by show _ ≤ _; rw [hlen]; unfold maxLen; omega
          have HB2 : Hid ((((picL ss).take (y * picW ss + x)).length + 1) * 1 ≤ 140737488355328) := by show _ ≤ _; rw [hlen]; omega
          clear HS HQ hlen hk1 hk2
          generalize (picL ss).take (y * picW ss + x) = pre at *
          generalize (picL ss).getD (y * picW ss + x) false = bt at *
          go_wp2_with ((at_builtin; refine wpList_append_own _ rfl _ _ 92 rfl w.heap.size 4 ib (.bool false) 1 1 Try.underlying92 hib hb0 hb1 hb2 rfl (by decide) _ _ _ rfl (hown.alloc _) ⟨w2.heap.size, 0, none⟩ 1 1 [.bool bt] rfl rfl (cell_one_new _ _ _) (by simp [Value.oneCell']) HB1.out HB2.out (HLE _) (fun v' w1 hown' hgrow _ => ?_)); have HS4 := HNEXT.out _ _ _ hgrow hown'; clear hgrow hown' hown)
          go_roundw
          case rel => exact ⟨x + 1, by omega, by go_num, HS4⟩
          case measure => simp [intOf]; omega
        · have : x = picW ss := by omega
          subst this
          have hge : ¬ (picW ss : Int) < (s.size : Int) := by omega
          have HS2 : Hid (BlSt w u3 ((picL ss).take ((y + 1) * picW ss)) w2) := by show BlSt _ _ _ _; rw [Nat.succ_mul]; exact HS.out
          clear HS hsz
          go_wp2
          go_roundw
          case rel => exact ⟨y + 1, by omega, by go_num, HS2⟩
          case measure => simp [intOf]; omega
    · have : y = ss.length := by omega
      subst this
      have HS2 : Hid (BlSt w u3 (picL ss) wo) := by
        have h := HS.out
        rw [← HLEN.out, List.take_length] at h
        exact h
      clear HS
      go_wp2
      go_ret
      exact ⟨_, rfl, HS2.out⟩
/-- Of a list the first k turned. -/
def invTo (l : List Bool) (k : Nat) : List Bool := (l.take k).map (!·) ++ l.drop k
theorem invTo_len (l : List Bool) (k : Nat) : (invTo l k).length = l.length := by unfold invTo; simp; omega
theorem invTo_at {l : List Bool} {k : Nat} : (invTo l k).getD k false = l.getD k false := by
  unfold invTo
  by_cases h : k < l.length
  · have h1 : (List.map (!·) (l.take k)).length = k := by simp; omega
    rw [List.getD_eq_getElem?_getD, List.getElem?_append_right (by omega), h1, Nat.sub_self, List.getElem?_drop, Nat.add_zero, ← List.getD_eq_getElem?_getD]
  · rw [List.getD_eq_getElem?_getD, List.getD_eq_getElem?_getD, List.getElem?_eq_none (by simp; omega), List.getElem?_eq_none (by omega)]
theorem invTo_set {l : List Bool} {k : Nat} (h : k < l.length) : (invTo l k).set k (!(l.getD k false)) = invTo l (k + 1) := by
  unfold invTo
  have h1 : (List.map (!·) (l.take k)).length = k := by simp; omega
  have e2 : l.getD k false = l[k] := by rw [List.getD_eq_getElem?_getD, List.getElem?_eq_getElem h]; rfl
  rw [List.set_append_right _ _ (by omega), h1, Nat.sub_self, List.take_succ_eq_append_getElem h, List.map_append, List.append_assoc, List.drop_eq_getElem_cons h, List.set_cons_zero, e2]
  rfl
theorem invTo_all (l : List Bool) : invTo l l.length = l.map (!·) := by unfold invTo; simp
structure InvSt (w : World) (p g cap n : Nat) (l : List Bool) (wr : World) : Prop where
  x : w.Ext wr
  one : One wr p 29 (.slice none 0 0)
  grow : GrowOf Value.bool (w.heap.size + 1) 4 wr (.slice (some ⟨g, 0, none⟩) n cap) l
set_option maxRecDepth 5000 in
set_option maxHeartbeats 1600000 in
theorem l01Invert_any (p : Nat) (a : Option Addr) (c : Nat) (ss : List ByteArray) (w : World) (he : Even ss) (hH : ss.length ≤ 64) (hW1 : 1 ≤ picW ss) (hW : picW ss ≤ 64) (hp : w.cell? ⟨p, 0, none⟩ = some (.slice a ss.length c)) (hm : RowS w a ss) :
    Calls Try.prog 139 #[.pointer (some ⟨p, 0, none⟩)] w (PicVal w (picRows (picW ss) ss.length ((picL ss).map (!·)))) := by
  obtain ⟨W0, hW0⟩ : ∃ W0, W0 = w.alloc (.cells #[.slice none 0 0] 29) := ⟨_, rfl⟩
  have hx0 : w.Ext W0 := by rw [hW0]; repeat (first | exact World.Ext.refl _ | exact ⟨_, rfl⟩ | assumption | refine World.Ext.over ?_ _ | refine World.Ext.drewN ?_ _ | refine World.Ext.drew ?_ | refine World.Ext.alloc ?_ _ | refine World.Ext.setCell ?_ (by simp) _)
  have hone : One W0 w.heap.size 29 (.slice none 0 0) := by rw [hW0]; exact One.new _ _ _ _ rfl
  have hsz0 : W0.heap.size = w.heap.size + 1 := by rw [hW0]; simp
  have HLI : Hid (Calls Try.prog 147 #[.pointer (some ⟨p, 0, none⟩)] W0 fun e w' => ∃ v, e = .returned v ∧ BlSt W0 v (picL ss) w') := l01List_any p a c ss W0 he hH hW (hx0.cell hp) (RowOf.ext hm hx0)
  have HWS : Hid (∀ w', w.Ext w' → Calls Try.prog 74 #[.pointer (some ⟨p, 0, none⟩)] w' fun e w'' => e = .returned (.int .i64 (picW ss)) ∧ w'.Ext w'') := fun w' hx => l01Width_any p a c ss w' he.1 (by omega) (by omega) (hx.cell hp) (RowOf.ext hm hx)
  have hlen := picL_len he
  have hne : 0 < (picL ss).length := by rw [hlen]; exact Nat.mul_pos he.1 hW1
  have hbd : (picL ss).length ≤ 4096 := by rw [hlen]; exact Nat.mul_le_mul hH hW
  have HLEN := Lib.hid hlen
  have HX0 := Lib.hid hx0
  have HO := Lib.hid hone
  clear hm he hp hx0 hone hlen
  generalize picL ss = L at *
  generalize picW ss = W at *
  generalize ss.length = H at *
  go_enter Try.func139, Try.ntmps139
  go_wp2_with fail
  rw [← hW0]
  refine HLI.out.mono ?_
  rintro e w1 ⟨v, rfl, hx1, hg1⟩
  obtain ⟨g, cap, rfl, -, -, -, -⟩ := GrowOf.atI false hg1 hne
  have HS0 : Hid (InvSt w w.heap.size g cap L.length (invTo L 0) w1) := ⟨HX0.out.trans hx1, HO.out.ext hx1, by rw [hsz0] at hg1; unfold invTo; simpa using hg1⟩
  clear hx1 hg1 hW0
  go_wp2
  go_loopw [4, 9] (fun _ m wr => ∃ k : Nat, k ≤ L.length ∧ m = .int .i64 k ∧ Hid (InvSt w w.heap.size g cap L.length (invTo L k) wr)) (fun _ m _ => L.length - (intOf m).toNat)
  case atStart => exact ⟨0, Nat.zero_le _, rfl, HS0⟩
  case round =>
    obtain ⟨k, hk, rfl, HS⟩ := hrel
    clear HS0
    obtain ⟨w2, rfl⟩ : ∃ w2 : World, w2 = wr := ⟨_, rfl⟩
    by_cases hlt : k < L.length
    · have hlt' : (k : Int) < (L.length : Int) := by omega
      have hk0 : (0 : Int) ≤ (k : Int) := by omega
      obtain ⟨g', cap', hv, hlo, hc, hf, hset⟩ := GrowOf.atI false HS.out.grow (i := k) (by rw [invTo_len]; exact hlt)
      simp only [Value.slice.injEq, Option.some.injEq, Addr.mk.injEq] at hv
      obtain ⟨⟨rfl, -, -⟩, -, -⟩ := hv
      rw [invTo_at] at hc
      have HN : Hid (InvSt w w.heap.size g cap L.length (invTo L (k + 1)) (w2.setCell ⟨g, k, none⟩ (.bool (!(L.getD k false))))) :=
        ⟨HS.out.x.setCell (p := ⟨g, k, none⟩) (by dsimp only; omega) _, HS.out.one.other (a := ⟨g, k, none⟩) (by dsimp only; omega) _, by have h := hset (!(L.getD k false)); rw [invTo_set hlt] at h; exact h⟩
      clear HS hset hlo
      generalize L.getD k false = bt at *
      go_wp2
      go_roundw
      case rel => exact ⟨k + 1, by omega, by go_num, HN⟩
      case measure => simp [intOf]; omega
    · have : k = L.length := by omega
      subst this
      have HS1 := HS.out
      rw [invTo_all] at HS1
      have HR := Lib.hid (HS1.grow.own false).row
      have HX := Lib.hid HS1.x
      have HO2 := Lib.hid HS1.one
      clear HS HS1
      go_wp2_with fail
      refine (HWS.out _ HX.out).mono ?_
      rintro e w3 ⟨rfl, hx3⟩
      have hmk := l01Make_any (some ⟨g, 0, none⟩) cap W H (L.map (!·)) w3 hW1 hW hH (by rw [List.length_map, HLEN.out, Nat.mul_comm]) (RowOf.ext HR.out hx3)
      rw [List.length_map] at hmk
      have HMK := Lib.hid hmk
      have HX3 := Lib.hid (HX.out.trans hx3)
      have HO3 := Lib.hid (HO2.out.ext hx3)
      have hl3 : w.heap.size < w3.heap.size := HO3.out.lt
      have HRL := Lib.hid (picRows_len W H (L.map (!·)))
      clear hmk hx3 HX HO2 HR
      go_wp2_with fail
      refine HMK.out.mono ?_
      rintro e w4 ⟨a4, c4, rfl, hx4, ho4⟩
      obtain ⟨r1, r2, r3, HRR⟩ := Res.store (.slice a4 H c4) (HX3.out.trans hx4) (Nat.le_refl _) (HO3.out.ext hx4) hl3 ho4
      clear hx4 ho4
      go_wp2
      exact bodyPost_ret (v := .agg #[.slice a4 H c4]) (by simp [results, Try.results139, go_sem, r3]) rfl ⟨a4, c4, by rw [HRL.out], HRR.out.1, HRR.out.2⟩
/-- A new picture behind a pointer is returned. -/
def PtrRet (w : World) (rows : List ByteArray) (e : Ending) (w' : World) : Prop :=
  ∃ p a c, e = .returned (.pointer (some ⟨p, 0, none⟩)) ∧ w.Ext w' ∧ w'.cell? ⟨p, 0, none⟩ = some (.slice a rows.length c) ∧ RowS w' a rows
set_option maxRecDepth 5000 in
set_option maxHeartbeats 1600000 in
theorem l05Part_any (p : Nat) (a : Option Addr) (c : Nat) (ss : List ByteArray) (x y : Int) (eight : Bool) (w : World) (he : Even ss) (hW1 : 1 ≤ picW ss) (hW : picW ss ≤ 64) (hH : ss.length ≤ 64)
    (hp : w.cell? ⟨p, 0, none⟩ = some (.slice a ss.length c)) (hm : RowS w a ss) (hx : -1000 ≤ x ∧ x ≤ 1000) (hy : -1000 ≤ y ∧ y ≤ 1000)
    (g : Nat → Nat → Bool) (hg : ∀ x' y' : Nat, x' < picW ss → y' < ss.length → (g x' y' = true ↔ Rch (pxP (picW ss) ss.length (picL ss)) (nbS eight) [(x, y)] ((x' : Int), (y' : Int)))) :
    Calls Try.prog 148 #[.pointer (some ⟨p, 0, none⟩), .agg #[.int .i64 x, .int .i64 y], .bool eight] w (PtrRet w (picRows (picW ss) ss.length (mkl (picW ss) ss.length g))) := by
  obtain ⟨W0, hW0⟩ : ∃ W0, W0 = (w.alloc (.cells #[.int .i64 x, .int .i64 y] 80)).alloc (.cells #[.int .i64 x, .int .i64 y] 80) := ⟨_, rfl⟩
  have hx0 : w.Ext W0 := by rw [hW0]; repeat (first | exact World.Ext.refl _ | exact ⟨_, rfl⟩ | assumption | refine World.Ext.over ?_ _ | refine World.Ext.drewN ?_ _ | refine World.Ext.drew ?_ | refine World.Ext.alloc ?_ _ | refine World.Ext.setCell ?_ (by simp) _)
  have hrow : RowP W0 (some ⟨w.heap.size + 1, 0, none⟩) [(x, y)] := by
    intro i hi
    have hi2 : i < 2 := hi
    refine ⟨w.heap.size + 1, 0, rfl, ?_⟩
    rw [hW0]
    match i, hi2 with
    | 0, _ => simp [go_sem, flatP]
    | 1, _ => simp [go_sem, flatP]
  have HRE : Hid (Calls Try.prog 87 #[.pointer (some ⟨p, 0, none⟩), .slice (some ⟨w.heap.size + 1, 0, none⟩) 1 1, .bool eight] W0 (PicVal W0 (picRows (picW ss) ss.length (mkl (picW ss) ss.length g)))) :=
    l03Reach_any p a c ss (some ⟨w.heap.size + 1, 0, none⟩) 1 [(x, y)] eight W0 he hW1 hW hH (hx0.cell hp) (RowOf.ext hm hx0) hrow (by simp) (fun q hq => by simp at hq; subst hq; exact ⟨hx.1, hx.2, hy.1, hy.2⟩) g hg
  have HX0 := Lib.hid hx0
  clear hm hp hg hrow hx hy hx0
  generalize picRows (picW ss) ss.length (mkl (picW ss) ss.length g) = R at *
  go_enter Try.func148, Try.ntmps148
  go_wp2_with fail
  rw [← hW0]
  refine HRE.out.mono ?_
  rintro e w1 ⟨a1, c1, rfl, hx1, ho1⟩
  have HX1 := Lib.hid (HX0.out.trans hx1)
  have HR1 := Lib.hid ho1.row
  have HQ : Hid (∀ W1 : World, W1 = w1.alloc (.cells #[.slice a1 R.length c1] 29) → PtrRet w R (.returned (.pointer (some ⟨w1.heap.size, 0, none⟩))) W1) := fun W1 e => by
    subst e
    exact ⟨w1.heap.size, a1, c1, rfl, HX1.out.alloc _, by simp [go_sem], RowOf.ext HR1.out ((World.Ext.refl _).alloc _)⟩
  clear hx1 ho1 hW0
  go_wp2
  go_ret
  exact HQ.out _ rfl
/-- A picture's pixels with a white edge. -/
def padL (W H : Nat) (l : List Bool) : List Bool := mkl (W + 2) (H + 2) fun i j => pxl W H l ((i : Int) - 1) ((j : Int) - 1)
theorem padL_len (W H : Nat) (l : List Bool) : (padL W H l).length = (W + 2) * (H + 2) := by unfold padL; rw [mkl_len, Nat.mul_comm]
set_option maxRecDepth 5000 in
set_option maxHeartbeats 1600000 in
theorem l05Pad_any (p : Nat) (a : Option Addr) (c : Nat) (ss : List ByteArray) (w : World) (he : Even ss) (hH : ss.length ≤ 38) (hW : picW ss ≤ 38) (hp : w.cell? ⟨p, 0, none⟩ = some (.slice a ss.length c)) (hm : RowS w a ss) :
    Calls Try.prog 143 #[.pointer (some ⟨p, 0, none⟩)] w (PicVal w (picRows (picW ss + 2) (ss.length + 2) (padL (picW ss) ss.length (picL ss)))) := by
  obtain ⟨ib, hib, hb0, hb1, hb2⟩ := info_parts Try.infoBoolR
  have HHS : Hid (∀ w', w.Ext w' → Calls Try.prog 75 #[.pointer (some ⟨p, 0, none⟩)] w' fun e w'' => e = .returned (.int .i64 ss.length) ∧ w'.Ext w'') := fun w' hx => l01Height_any p a c ss.length w' (by omega) (hx.cell hp)
  have HWS : Hid (∀ w', w.Ext w' → Calls Try.prog 74 #[.pointer (some ⟨p, 0, none⟩)] w' fun e w'' => e = .returned (.int .i64 (picW ss)) ∧ w'.Ext w'') := fun w' hx => l01Width_any p a c ss w' he.1 (by omega) (by omega) (hx.cell hp) (RowOf.ext hm hx)
  have HBL : Hid (∀ w', w.Ext w' → ∀ i j : Nat, i < picW ss + 2 → j < ss.length + 2 → Calls Try.prog 117 #[.pointer (some ⟨p, 0, none⟩), .int .i64 ((i : Int) - 1), .int .i64 ((j : Int) - 1)] w' fun e w'' => e = .returned (.bool (pxl (picW ss) ss.length (picL ss) ((i : Int) - 1) ((j : Int) - 1))) ∧ w'.Ext w'') := fun w' hx i j h1 h2 =>
    l01Black_any p a c ss _ _ w' he (by omega) (by omega) (hx.cell hp) (RowOf.ext hm hx) _ rfl
  have HAT : Hid (∀ i j : Nat, i < picW ss + 2 → j < ss.length + 2 → (padL (picW ss) ss.length (picL ss)).getD (j * (picW ss + 2) + i) false = pxl (picW ss) ss.length (picL ss) ((i : Int) - 1) ((j : Int) - 1)) := fun i j h1 h2 => mkl_at _ _ _ i j h1 h2
  have HLEN := Lib.hid (padL_len (picW ss) ss.length (picL ss))
  obtain ⟨W0, hW0⟩ : ∃ W0, W0 = w.alloc (.cells #[.slice none 0 0] 29) := ⟨_, rfl⟩
  have hx0 : w.Ext W0 := by rw [hW0]; repeat (first | exact World.Ext.refl _ | exact ⟨_, rfl⟩ | assumption | refine World.Ext.over ?_ _ | refine World.Ext.drewN ?_ _ | refine World.Ext.drew ?_ | refine World.Ext.alloc ?_ _ | refine World.Ext.setCell ?_ (by simp) _)
  have hone : One W0 w.heap.size 29 (.slice none 0 0) := by rw [hW0]; exact One.new _ _ _ _ rfl
  have hsz0 : W0.heap.size = w.heap.size + 1 := by rw [hW0]; simp
  have HX0 := Lib.hid hx0
  have HO := Lib.hid hone
  clear hm he hp hx0 hone
  generalize padL (picW ss) ss.length (picL ss) = L at *
  generalize pxl (picW ss) ss.length (picL ss) = px at *
  generalize picW ss = W at *
  generalize ss.length = H at *
  go_enter Try.func143, Try.ntmps143
  go_wp2_with fail
  rw [← hW0]
  refine (HWS.out _ HX0.out).mono ?_
  rintro e w1 ⟨rfl, hx1⟩
  have HST : Hid (PixSt w w.heap.size 29 (w1.alloc (.cells #[] 4)) ∧ GrowOf Value.bool (w.heap.size + 1) 4 (w1.alloc (.cells #[] 4)) (.slice (some ⟨w1.heap.size, 0, none⟩) 0 0) []) :=
    ⟨⟨(HX0.out.trans hx1).alloc _, (HO.out.ext hx1).ext ((World.Ext.refl _).alloc _)⟩, GrowOf.empty w1 (by have := hx1.size; omega)⟩
  clear hx1 hW0 HX0 HO
  go_wp2
  go_loopw [4, 5, 6] (fun v m _ wr => ∃ j : Nat, j ≤ H + 2 ∧ m = .int .i64 ((j : Int) - 1) ∧ Hid (PixSt w w.heap.size 29 wr ∧ GrowOf Value.bool (w.heap.size + 1) 4 wr v (L.take (j * (W + 2))))) (fun _ m _ _ => H + 2 - (intOf m + 1).toNat)
  case atStart => exact ⟨0, Nat.zero_le _, rfl, by rw [Nat.zero_mul]; exact HST⟩
  case round =>
    obtain ⟨j, hj, rfl, HS⟩ := hrel
    clear HST
    obtain ⟨wo, rfl⟩ : ∃ wo : World, wo = wr := ⟨_, rfl⟩
    by_cases hltj : j < H + 2
    · have hltj' : (j : Int) - 1 ≤ (H : Int) := by omega
      go_wp2_with fail
      refine (HHS.out _ HS.out.1.x).mono ?_
      rintro e w2 ⟨rfl, hx2⟩
      have HS1 := Lib.hid (And.intro (HS.out.1.ext hx2) (HS.out.2.ext hx2))
      clear hx2 HS
      go_wp2
      go_loopw [4, 6] (fun v m wr => ∃ i : Nat, i ≤ W + 2 ∧ m = .int .i64 ((i : Int) - 1) ∧ Hid (PixSt w w.heap.size 29 wr ∧ GrowOf Value.bool (w.heap.size + 1) 4 wr v (L.take (j * (W + 2) + i)))) (fun _ m _ => W + 2 - (intOf m + 1).toNat)
      case atStart => exact ⟨0, Nat.zero_le _, rfl, HS1⟩
      case round =>
        obtain ⟨i, hi, rfl, HS⟩ := hrel
        clear HS1
        obtain ⟨w3, rfl⟩ : ∃ w3 : World, w3 = wr := ⟨_, rfl⟩
        by_cases hlti : i < W + 2
        · have hlti' : (i : Int) - 1 < (W : Int) + 2 - 1 := by omega
          have HC := Lib.hid (fun w' hx => HBL.out w' hx i j hlti hltj)
          have hk : j * (W + 2) + i < L.length := by
            rw [HLEN.out]
            have := Nat.mul_le_mul_right (W + 2) (show j + 1 ≤ H + 2 by omega)
            rw [Nat.succ_mul, Nat.mul_comm (H + 2)] at this
            omega
          have hsum : L.length ≤ 1600 := by rw [HLEN.out]; exact Nat.mul_le_mul (show W + 2 ≤ 40 by omega) (show H + 2 ≤ 40 by omega)
          have hlen : (L.take (j * (W + 2) + i)).length = j * (W + 2) + i := by simp; omega
          have HQ : Hid (L.take (j * (W + 2) + (i + 1)) = L.take (j * (W + 2) + i) ++ [px ((i : Int) - 1) ((j : Int) - 1)]) := by show _ = _; rw [← Nat.add_assoc, take_next hk, HAT.out i j hlti hltj]
          have HB1 : Hid ((L.take (j * (W + 2) + i)).length + 1 ≤ maxLen) := by show _ ≤ _; rw [hlen]; unfold maxLen; omega
          have HB2 : Hid (((L.take (j * (W + 2) + i)).length + 1) * 1 ≤ 140737488355328) := by show _ ≤ _; rw [hlen]; omega
          clear hlen hk hsum
          generalize px ((i : Int) - 1) ((j : Int) - 1) = bt at *
          go_wp2_with fail
          refine (HC.out _ HS.out.1.x).mono ?_
          rintro e w4 ⟨rfl, hx4⟩
          have HS2 := Lib.hid (And.intro (HS.out.1.ext hx4) (HS.out.2.ext hx4))
          clear hx4 HS HC
          have HNEXT : Hid (∀ (o : Obj) (v' : Value) (w1 : World), (w4.alloc o).grownBy w1 u4.ownBlock → w1.ownsRow (w.heap.size + 1) 4 1 v' ((L.take (j * (W + 2) + i)).length + 1) ((L.take (j * (W + 2) + i)).map Value.bool ++ [.bool bt]) → Hid (PixSt w w.heap.size 29 w1 ∧ GrowOf Value.bool (w.heap.size + 1) 4 w1 v' (L.take (j * (W + 2) + (i + 1))))) := fun o v' w1 hgrow hown' => by
            have hg := GrowOf.push hown'
            rw [← HQ.out] at hg
            refine ⟨⟨(HS2.out.1.x.alloc o).grown hgrow fun k hk => ?_, (HS2.out.1.one.ext ((World.Ext.refl _).alloc o)).grown hgrow (HS2.out.2.ne HS2.out.1.one (by decide))⟩, hg⟩
            have := (HS2.out.2.block hk).1
            omega
          have hown := HS2.out.2
          unfold GrowOf at hown
          have HLE : ∀ o' : Obj, w.heap.size + 1 ≤ (w4.alloc o').heap.size := fun o' => by have := HS2.out.1.one.lt; simp; omega
          clear HS2 HQ
          generalize L.take (j * (W + 2) + i) = pre at *
          go_wp2_with ((at_builtin; refine wpList_append_own _ rfl _ _ 92 rfl (w.heap.size + 1) 4 ib (.bool false) 1 1 Try.underlying92 hib hb0 hb1 hb2 rfl (by decide) _ _ _ rfl (hown.alloc _) ⟨w4.heap.size, 0, none⟩ 1 1 [.bool bt] rfl rfl (cell_one_new _ _ _) (by simp [Value.oneCell']) HB1.out HB2.out (HLE _) (fun v' w1 hown' hgrow _ => ?_)); have HS4 := HNEXT.out _ _ _ hgrow hown'; clear hgrow hown' hown)
          go_roundw
          case rel => exact ⟨i + 1, by omega, by congr 1; omega, HS4⟩
          case measure => simp [intOf]; omega
        · have : i = W + 2 := by omega
          subst this
          have hge : ¬ ((W + 2 : Nat) : Int) - 1 < (W : Int) + 2 - 1 := by omega
          have HS2 := HS.out
          rw [← Nat.succ_mul] at HS2
          replace HS2 := Lib.hid HS2
          clear HS
          go_wp2
          go_roundw
          case rel => exact ⟨j + 1, by omega, by congr 1; omega, HS2⟩
          case measure => simp [intOf]; omega
    · have : j = H + 2 := by omega
      subst this
      have hge : ¬ ((H + 2 : Nat) : Int) - 1 ≤ (H : Int) := by omega
      go_wp2_with fail
      refine (HHS.out _ HS.out.1.x).mono ?_
      rintro e w2 ⟨rfl, hx2⟩
      have hS2 := And.intro (HS.out.1.ext hx2) (HS.out.2.ext hx2)
      rw [Nat.mul_comm, ← HLEN.out, List.take_length] at hS2
      obtain ⟨a2, c2, rfl, -⟩ := hS2.2.form
      have HX2 := Lib.hid hS2.1.x
      have HO2 := Lib.hid hS2.1.one
      have hl2 := hS2.1.one.lt
      have hmk := l01Make_any a2 c2 (W + 2) (H + 2) L w2 (by omega) (by omega) (by omega) HLEN.out (hS2.2.own false).row
      have HMK := Lib.hid hmk
      have HRL := Lib.hid (picRows_len (W + 2) (H + 2) L)
      clear hx2 HS hS2 hmk
      go_wp2_with fail
      refine HMK.out.mono ?_
      rintro e w4 ⟨a4, c4, rfl, hx4, ho4⟩
      obtain ⟨r1, r2, r3, HRR⟩ := Res.store (.slice a4 (H + 2) c4) (HX2.out.trans hx4) (Nat.le_refl _) (HO2.out.ext hx4) hl2 ho4
      clear hx4 ho4
      go_wp2
      exact bodyPost_ret (v := .agg #[.slice a4 (H + 2) c4]) (by simp [results, Try.results143, go_sem, r3]) rfl ⟨a4, c4, by rw [HRL.out], HRR.out.1, HRR.out.2⟩
end Go.Proofs.Ytlnklcjnjfmknaa
