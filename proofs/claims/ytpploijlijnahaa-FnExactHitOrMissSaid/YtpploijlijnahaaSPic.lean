/- The reference's reading of pictures. -/
import Derived.Test.YtpploijlijnahaaSMake
import Derived.Test.YtpploijlijnahaaITold
namespace Go.Proofs.Ytpploijlijnahaa
open Go.RowKit
theorem flatG_len {α : Type} (W : Nat) : ∀ m : List (List α), (∀ r, r < m.length → (m.getD r []).length = W) → m.flatten.length = m.length * W
  | [], _ => by simp
  | x :: m, h => by
    have h0 : x.length = W := by simpa using h 0 (by simp)
    have ih := flatG_len W m fun r hr => by simpa using h (r + 1) (by simpa using hr)
    rw [List.flatten_cons, List.length_append, ih, h0, List.length_cons, Nat.succ_mul, Nat.add_comm]
theorem flatG_at {α : Type} (d : α) (W : Nat) : ∀ (m : List (List α)) (y x : Nat), (∀ r, r < m.length → (m.getD r []).length = W) → y < m.length → x < W → m.flatten.getD (y * W + x) d = (m.getD y []).getD x d
  | [], y, x, _, h, _ => by simp at h
  | r0 :: m, 0, x, h, _, hx => by
    have h0 : r0.length = W := by simpa using h 0 (by simp)
    rw [List.flatten_cons, List.getD_eq_getElem?_getD, List.getElem?_append_left (by omega)]
    simp [List.getD_eq_getElem?_getD]
  | r0 :: m, y + 1, x, h, hy, hx => by
    have h0 : r0.length = W := by simpa using h 0 (by simp)
    have ih := flatG_at d W m y x (fun r hr => by simpa using h (r + 1) (by simpa using hr)) (by simpa using hy) hx
    have e : (y + 1) * W + x = r0.length + (y * W + x) := by rw [h0, Nat.succ_mul]; omega
    rw [List.flatten_cons, List.getD_eq_getElem?_getD, e, List.getElem?_append_right (by omega), Nat.add_sub_cancel_left, ← List.getD_eq_getElem?_getD, ih]
    simp
theorem byte_eq (s : ByteArray) (x : Nat) (h : x < s.size) (k : UInt8) : (((s[x]'h).toNat : Int) == (k.toNat : Int)) = (s.data.toList.getD x 0 == k) := by
  have h' : x < s.data.toList.length := by simpa using h
  have e : s.data.toList.getD x 0 = s[x] := by
    rw [List.getD_eq_getElem?_getD, List.getElem?_eq_getElem h', Option.getD_some, Array.getElem_toList]
    rfl
  rw [e, Bool.eq_iff_iff, beq_iff_eq, beq_iff_eq]
  constructor
  · intro h2
    exact UInt8.toNat_inj.1 (by omega)
  · intro h2
    rw [h2]
/-- Which pixels of a row are black. -/
def rowBits (s : ByteArray) : List Bool := s.data.toList.map fun b => b == 35
theorem rowBits_len (s : ByteArray) : (rowBits s).length = s.size := by simp [rowBits]
theorem rowBits_at (s : ByteArray) (x : Nat) (h : x < s.size) : (rowBits s).getD x false = (s.data.toList.getD x 0 == 35) := by
  have h' : x < s.data.toList.length := by simpa using h
  unfold rowBits
  rw [List.getD_eq_getElem?_getD, List.getElem?_map, List.getElem?_eq_getElem h', List.getD_eq_getElem?_getD, List.getElem?_eq_getElem h']
  rfl
/-- The pixels of a picture, in reading order. -/
def picL (ss : List ByteArray) : List Bool := (ss.map rowBits).flatten
def picW (ss : List ByteArray) : Nat := (ss.getD 0 ByteArray.empty).size
def pixOk (b : UInt8) : Bool := b == 35 || b == 46
def rowGood (W : Nat) (s : ByteArray) : Bool := decide (s.size = W) && s.data.toList.all pixOk
/-- Is a picture valid? -/
def picOk (ss : List ByteArray) : Bool := inB ss.length 1 16 && inB (picW ss) 1 16 && ss.all (rowGood (picW ss))
/-- A picture has rows of one size. -/
def Even (ss : List ByteArray) : Prop := 0 < ss.length ∧ ∀ y, y < ss.length → (ss.getD y ByteArray.empty).size = picW ss
theorem rowBits_map_at (ss : List ByteArray) (y : Nat) (h : y < ss.length) : (ss.map rowBits).getD y [] = rowBits (ss.getD y ByteArray.empty) := by
  simp [List.getD_eq_getElem?_getD, h]
theorem picL_len {ss : List ByteArray} (h : Even ss) : (picL ss).length = ss.length * picW ss := by
  unfold picL
  rw [flatG_len (picW ss)]
  · simp
  · intro r hr
    have hr' : r < ss.length := by simpa using hr
    rw [rowBits_map_at ss r hr', rowBits_len, h.2 r hr']
theorem picL_at {ss : List ByteArray} (h : Even ss) (x y : Nat) (hx : x < picW ss) (hy : y < ss.length) : (picL ss).getD (y * picW ss + x) false = ((ss.getD y ByteArray.empty).data.toList.getD x 0 == 35) := by
  unfold picL
  rw [flatG_at false (picW ss) _ y x _ (by simpa using hy) hx, rowBits_map_at ss y hy, rowBits_at _ _ (by rw [h.2 y hy]; exact hx)]
  intro r hr
  have hr' : r < ss.length := by simpa using hr
  rw [rowBits_map_at ss r hr', rowBits_len, h.2 r hr']
theorem picOk_spec {ss : List ByteArray} (h : picOk ss = true) : 1 ≤ ss.length ∧ ss.length ≤ 16 ∧ 1 ≤ picW ss ∧ picW ss ≤ 16 ∧ Even ss ∧ ∀ y x, y < ss.length → x < picW ss → pixOk ((ss.getD y ByteArray.empty).data.toList.getD x 0) = true := by
  unfold picOk at h
  rw [Bool.and_eq_true, Bool.and_eq_true, inB_true, inB_true] at h
  obtain ⟨⟨h1, h2⟩, h3⟩ := h
  rw [all_getD (d := ByteArray.empty)] at h3
  have hsz : ∀ y, y < ss.length → (ss.getD y ByteArray.empty).size = picW ss := fun y hy => by
    have := h3 y hy
    unfold rowGood at this
    rw [Bool.and_eq_true, decide_eq_true_eq] at this
    exact this.1
  refine ⟨by omega, by omega, by omega, by omega, ⟨by omega, hsz⟩, fun y x hy hx => ?_⟩
  have := h3 y hy
  unfold rowGood at this
  rw [Bool.and_eq_true, all_getD (d := (0 : UInt8))] at this
  exact this.2 x (by have := hsz y hy; simp at this ⊢; omega)
set_option maxHeartbeats 400000 in
theorem l01Width_any (p : Nat) (a : Option Addr) (c : Nat) (ss : List ByteArray) (w : World) (hpos : 0 < ss.length) (hn : ss.length ≤ 1048576) (hw : picW ss ≤ 1048576) (hp : w.cell? ⟨p, 0, none⟩ = some (.slice a ss.length c)) (hm : RowS w a ss) :
    Calls Try.prog 87 #[.pointer (some ⟨p, 0, none⟩)] w fun e w' => e = .returned (.int .i64 (picW ss)) ∧ w.Ext w' := by
  obtain ⟨b0, o0, rfl, hc0⟩ := hm 0 hpos
  rw [Nat.add_zero] at hc0
  have hpos' : (0 : Int) < (ss.length : Int) := by omega
  have hn2 : ss.length ≤ 4611686018427387904 := by omega
  unfold picW at *
  clear hm
  generalize ss.getD 0 ByteArray.empty = s at *
  have hs2 : s.size ≤ 4611686018427387904 := by omega
  clear hn hw
  go_enter Try.func87, Try.ntmps87
  go_wp2
  go_ret
  refine ⟨rfl, ?_⟩
  repeat (first | exact World.Ext.refl _ | exact ⟨_, rfl⟩ | assumption | refine World.Ext.over ?_ _ | refine World.Ext.drewN ?_ _ | refine World.Ext.drew ?_ | refine World.Ext.alloc ?_ _ | refine World.Ext.setCell ?_ (by simp) _)
set_option maxHeartbeats 400000 in
theorem l01Height_any (p : Nat) (a : Option Addr) (c n : Nat) (w : World) (hn : n ≤ 1048576) (hp : w.cell? ⟨p, 0, none⟩ = some (.slice a n c)) :
    Calls Try.prog 86 #[.pointer (some ⟨p, 0, none⟩)] w fun e w' => e = .returned (.int .i64 n) ∧ w.Ext w' := by
  have hn2 : n ≤ 4611686018427387904 := by omega
  clear hn
  go_enter Try.func86, Try.ntmps86
  go_wp2
  go_ret
  refine ⟨rfl, ?_⟩
  repeat (first | exact World.Ext.refl _ | exact ⟨_, rfl⟩ | assumption | refine World.Ext.over ?_ _ | refine World.Ext.drewN ?_ _ | refine World.Ext.drew ?_ | refine World.Ext.alloc ?_ _ | refine World.Ext.setCell ?_ (by simp) _)
set_option maxHeartbeats 400000 in
theorem l01Has_any (p : Nat) (a : Option Addr) (c : Nat) (ss : List ByteArray) (x y : Int) (w : World) (hpos : 0 < ss.length) (hn : ss.length ≤ 1048576) (hw : picW ss ≤ 1048576) (hp : w.cell? ⟨p, 0, none⟩ = some (.slice a ss.length c)) (hm : RowS w a ss) (t : Bool)
    (ht : hasB (picW ss) ss.length x y = t) :
    Calls Try.prog 165 #[.pointer (some ⟨p, 0, none⟩), .int .i64 x, .int .i64 y] w fun e w' => e = .returned (.bool t) ∧ w.Ext w' := by
  subst ht
  have HM := Lib.hid hm
  have hplt := World.block_lt_of_cell? w _ hp
  cases h1 : inB x 0 ((picW ss : Int) - 1)
  · have HI := Lib.hid h1
    have hv : hasB (picW ss) ss.length x y = false := by unfold hasB; rw [h1]; rfl
    rw [hv]
    clear h1 hv hm
    go_enter Try.func165, Try.ntmps165
    go_wp2_with fail
    refine (l01Width_any p a c ss w hpos hn hw hp HM.out).mono ?_
    rintro e w' ⟨rfl, x1, rfl⟩
    generalize picW ss = W at *
    go_wp2_with (go_at_call 127; refine (l00In_any _ _ _ _ _ HI.out).mono ?_; rintro e w' ⟨rfl, x2, rfl⟩)
    go_ret
    refine ⟨rfl, ?_⟩
    repeat (first | exact World.Ext.refl _ | exact ⟨_, rfl⟩ | assumption | refine World.Ext.over ?_ _ | refine World.Ext.drewN ?_ _ | refine World.Ext.drew ?_ | refine World.Ext.alloc ?_ _ | refine World.Ext.setCell ?_ (by simp) _)
  · have HI := Lib.hid h1
    have hv : hasB (picW ss) ss.length x y = inB y 0 ((ss.length : Int) - 1) := by unfold hasB; rw [h1]; rfl
    rw [hv]
    clear h1 hv hm
    go_enter Try.func165, Try.ntmps165
    go_wp2_with fail
    refine (l01Width_any p a c ss w hpos hn hw hp HM.out).mono ?_
    rintro e w' ⟨rfl, x1, rfl⟩
    generalize picW ss = W at *
    go_wp2_with fail
    refine (l00In_any _ _ _ _ _ HI.out).mono ?_
    rintro e w' ⟨rfl, x2, rfl⟩
    go_wp2_with fail
    refine (l01Height_any p a c ss.length _ hn (by simp [go_sem, hp])).mono ?_
    rintro e w' ⟨rfl, x3, rfl⟩
    go_wp2_with fail
    refine (l00In_any _ _ _ _ _ rfl).mono ?_
    rintro e w' ⟨rfl, x4, rfl⟩
    go_wp2
    go_ret
    refine ⟨rfl, ?_⟩
    repeat (first | exact World.Ext.refl _ | exact ⟨_, rfl⟩ | assumption | refine World.Ext.over ?_ _ | refine World.Ext.drewN ?_ _ | refine World.Ext.drew ?_ | refine World.Ext.alloc ?_ _ | refine World.Ext.setCell ?_ (by simp) _)
theorem pxl_out {W H : Nat} {l : List Bool} {x y : Int} (h : hasB W H x y = false) : pxl W H l x y = false := by
  unfold pxl; unfold hasB at h; rw [h]; rfl
set_option maxHeartbeats 400000 in
theorem l01Black_any (p : Nat) (a : Option Addr) (c : Nat) (ss : List ByteArray) (x y : Int) (w : World) (he : Even ss) (hn : ss.length ≤ 1048576) (hw : picW ss ≤ 1048576) (hp : w.cell? ⟨p, 0, none⟩ = some (.slice a ss.length c)) (hm : RowS w a ss) (t : Bool)
    (ht : pxl (picW ss) ss.length (picL ss) x y = t) :
    Calls Try.prog 89 #[.pointer (some ⟨p, 0, none⟩), .int .i64 x, .int .i64 y] w fun e w' => e = .returned (.bool t) ∧ w.Ext w' := by
  subst ht
  have HM := Lib.hid hm
  cases hd : hasB (picW ss) ss.length x y
  · have HD := Lib.hid hd
    rw [pxl_out hd]
    clear hd hm
    go_enter Try.func89, Try.ntmps89
    go_wp2_with fail
    refine (l01Has_any p a c ss x y w he.1 hn hw hp HM.out _ HD.out).mono ?_
    rintro e w' ⟨rfl, x1, rfl⟩
    go_wp2
    go_ret
    refine ⟨rfl, ?_⟩
    repeat (first | exact World.Ext.refl _ | exact ⟨_, rfl⟩ | assumption | refine World.Ext.over ?_ _ | refine World.Ext.drewN ?_ _ | refine World.Ext.drew ?_ | refine World.Ext.alloc ?_ _ | refine World.Ext.setCell ?_ (by simp) _)
  · have HD := Lib.hid hd
    rw [hasB_true] at hd
    obtain ⟨x0, x1, y0, y1⟩ := hd
    obtain ⟨x, rfl⟩ := Int.eq_ofNat_of_zero_le x0
    obtain ⟨y, rfl⟩ := Int.eq_ofNat_of_zero_le y0
    have hx : x < picW ss := by omega
    have hy : y < ss.length := by omega
    rw [pxl_at _ _ _ _ _ hx hy, picL_at he x y hx hy]
    obtain ⟨b0, o0, rfl, hc0⟩ := hm y hy
    have hsz := he.2 y hy
    have hn2 : ss.length ≤ 4611686018427387904 := by omega
    have HE := Lib.hid he
    generalize ss.getD y ByteArray.empty = s at *
    have hxs : x < s.size := by omega
    have HB := Lib.hid (byte_eq s x hxs 35)
    clear hm he
    go_enter Try.func89, Try.ntmps89
    go_wp2_with fail
    refine (l01Has_any p _ c ss x y w HE.out.1 hn hw hp HM.out _ HD.out).mono ?_
    rintro e w' ⟨rfl, x1, rfl⟩
    generalize picW ss = W at *
    have hxs' : (x : Int) < (s.size : Int) := by omega
    have hs2 : s.size ≤ 4611686018427387904 := by omega
    go_wp2
    go_ret
    refine ⟨ret_bool HB.out, ?_⟩
    repeat (first | exact World.Ext.refl _ | exact ⟨_, rfl⟩ | assumption | refine World.Ext.over ?_ _ | refine World.Ext.drewN ?_ _ | refine World.Ext.drew ?_ | refine World.Ext.alloc ?_ _ | refine World.Ext.setCell ?_ (by simp) _)
end Go.Proofs.Ytpploijlijnahaa
