/- The program's images: made of a width, a height and pixels; read, set, gone through. -/
import Derived.Test.YtpploijlijnahaaIBase
import Derived.Test.YtpploijlijnahaaTail
namespace Go.Proofs.Ytpploijlijnahaa
open Go.RowKit
theorem Try.infoBool' : (Try.prog.info? 4).map (fun i => (i.zero, i.size, i.bytes)) = some (some (.bool false), 1, 1) := by kernel_rfl
/-- An image lies in block b, its pixels in block ab. -/
structure Img (w : World) (b ab W H : Nat) (l : List Bool) : Prop where
  str : w.heap[b]? = some (.cells #[.int .i64 W, .int .i64 H, .slice (some ⟨ab, 0, none⟩) l.length l.length] 108 (0, 0))
  px : BlkOf Value.bool w ab 4 l
  len : l.length = W * H
section
variable {w w' : World} {b ab W H : Nat} {l : List Bool}
theorem Img.c0 (h : Img w b ab W H l) : w.cell? ⟨b, 0, none⟩ = some (.int .i64 W) := by simp [World.cell?, h.str]
theorem Img.c1 (h : Img w b ab W H l) : w.cell? ⟨b, 1, none⟩ = some (.int .i64 H) := by simp [World.cell?, h.str]
theorem Img.c2 (h : Img w b ab W H l) : w.cell? ⟨b, 2, none⟩ = some (.slice (some ⟨ab, 0, none⟩) l.length l.length) := by simp [World.cell?, h.str]
theorem Img.lt (h : Img w b ab W H l) : b < w.heap.size := (Array.getElem?_eq_some_iff.1 h.str).1
theorem Img.ne (h : Img w b ab W H l) : b ≠ ab := by
  intro e
  have := h.str
  rw [e, h.px] at this
  simp at this
theorem Img.keep (h : Img w b ab W H l) (h1 : w'.heap[b]? = w.heap[b]?) (h2 : w'.heap[ab]? = w.heap[ab]?) : Img w' b ab W H l := ⟨by rw [h1, h.str], h.px.keep h2, h.len⟩
theorem Img.ext (h : Img w b ab W H l) (hx : w.Ext w') : Img w' b ab W H l := h.keep (hx.block h.lt) (hx.block h.px.lt)
theorem Img.set (h : Img w b ab W H l) (k : Nat) (v : Bool) : Img (w.setCell ⟨ab, k, none⟩ (.bool v)) b ab W H (l.set k v) :=
  ⟨by rw [Below.heap_setCell _ _ _ _ h.ne, h.str]; simp, h.px.set k v, by simp [h.len]⟩
end
/-- The pixel of an image at a place; outside all are white. -/
def pxl (W H : Nat) (l : List Bool) (x y : Int) : Bool := inB x 0 ((W : Int) - 1) && inB y 0 ((H : Int) - 1) && l.getD (y * W + x).toNat false
def hasB (W H : Nat) (x y : Int) : Bool := inB x 0 ((W : Int) - 1) && inB y 0 ((H : Int) - 1)
theorem hasB_true {W H : Nat} {x y : Int} : hasB W H x y = true ↔ 0 ≤ x ∧ x < W ∧ 0 ≤ y ∧ y < H := by
  unfold hasB; rw [Bool.and_eq_true, inB_true, inB_true]; omega
theorem place_lt {W H : Nat} {x y : Int} (h0 : 0 ≤ x) (h1 : x < W) (h2 : 0 ≤ y) (h3 : y < H) : 0 ≤ y * W ∧ 0 ≤ y * W + x ∧ y * W + x < (W * H : Nat) := by
  have b1 : 0 ≤ y * W := Int.mul_nonneg h2 (by omega)
  have b2 : y * W ≤ ((H : Int) - 1) * W := Int.mul_le_mul_of_nonneg_right (by omega) (by omega)
  have e : ((H : Int) - 1) * W = ((W * H : Nat) : Int) - W := by rw [Int.sub_mul, Int.natCast_mul, Int.mul_comm (H : Int) W]; omega
  omega
set_option maxHeartbeats 400000 in
theorem has_any (b ab W H : Nat) (l : List Bool) (x y : Int) (w : World) (hW : W ≤ 64) (hH : H ≤ 64) (hI : Img w b ab W H l) (t : Bool) (ht : hasB W H x y = t) :
    Calls Try.prog 133 #[.pointer (some ⟨b, 0, none⟩), .int .i64 x, .int .i64 y] w fun e w' => e = .returned (.bool t) ∧ w.Ext w' := by
  subst ht
  have h0 := hI.c0
  have h1 := hI.c1
  clear hI
  go_enter Try.func133, Try.ntmps133
  go_wp2_with (go_at_call 102; refine (in_any _ _ _ _ _ rfl).mono ?_; rintro e w' ⟨rfl, x1, rfl⟩)
  all_goals
    go_ret
    refine ⟨by simp [hasB, *], ?_⟩
    repeat (first | exact World.Ext.refl _ | exact ⟨_, rfl⟩ | assumption | refine World.Ext.over ?_ _ | refine World.Ext.drewN ?_ _ | refine World.Ext.drew ?_ | refine World.Ext.alloc ?_ _ | refine World.Ext.setCell ?_ (by simp) _)
set_option maxHeartbeats 800000 in
theorem get_any (b ab W H : Nat) (l : List Bool) (x y : Int) (w : World) (hW : W ≤ 64) (hH : H ≤ 64) (hI : Img w b ab W H l) (t : Bool) (ht : pxl W H l x y = t) :
    Calls Try.prog 97 #[.pointer (some ⟨b, 0, none⟩), .int .i64 x, .int .i64 y] w fun e w' => e = .returned (.bool t) ∧ w.Ext w' := by
  have h0 := hI.c0
  have h2 := hI.c2
  have HI := Lib.hid hI
  cases hd : hasB W H x y
  · have ht' : t = false := by rw [← ht]; unfold pxl; unfold hasB at hd; rw [hd]; rfl
    subst ht'
    clear ht hI
    have HD := Lib.hid hd
    clear hd
    go_enter Try.func97, Try.ntmps97
    go_wp2
    refine wp_region_over_lit (by kernel_rfl) (by kernel_rfl) ?_
    repeat (go_big_quiet_step ((go_at_call 133; exact Calls.over_of (has_any b ab W H l x y _ hW hH (HI.out.ext ⟨_, rfl⟩) _ HD.out))))
    refine wpQuiet_nil ?_
    rintro _ ⟨x1, rfl⟩
    go_wp2
    go_ret
    exact ⟨rfl, ⟨_, rfl⟩⟩
  · obtain ⟨hx0, hx1, hy0, hy1⟩ := hasB_true.1 hd
    obtain ⟨b0, b1, b2⟩ := place_lt hx0 hx1 hy0 hy1
    have hlen := hI.len
    have b3 : y * W + x < (l.length : Int) := by rw [hlen]; exact b2
    have b4 : W * H ≤ 64 * 64 := Nat.mul_le_mul hW hH
    have b5 : (l.length : Int) ≤ 4096 := by rw [hlen]; omega
    have b6 : y * W ≤ 4096 := by omega
    have hcell := hI.px.cell false (i := (y * W + x).toNat) (by omega)
    have ht' : l.getD (y * W + x).toNat false = t := by rw [← ht]; unfold pxl; unfold hasB at hd; rw [hd]; rfl
    rw [ht'] at hcell
    clear ht ht' hI hlen b2 b4
    have HD := Lib.hid hd
    clear hd
    go_enter Try.func97, Try.ntmps97
    go_wp2
    refine wp_region_over_lit (by kernel_rfl) (by kernel_rfl) ?_
    repeat (go_big_quiet_step ((go_at_call 133; exact Calls.over_of (has_any b ab W H l x y _ hW hH (HI.out.ext ⟨_, rfl⟩) _ HD.out))))
    refine wpQuiet_nil ?_
    rintro _ ⟨x1, rfl⟩
    go_wp2
    go_ret
    exact ⟨rfl, ⟨_, rfl⟩⟩
/-- Behind a store into the pixels. -/
def SetRet (w : World) (b ab W H : Nat) (l : List Bool) (e : Ending) (w' : World) : Prop := e = .returned (.tuple #[]) ∧ Wrote (fun k => k = ab) w w' ∧ Img w' b ab W H l
set_option maxHeartbeats 800000 in
theorem set_any (b ab W H : Nat) (l : List Bool) (x y : Int) (v : Bool) (w : World) (hW : W ≤ 64) (hH : H ≤ 64) (hI : Img w b ab W H l) (hx0 : 0 ≤ x) (hx1 : x < W) (hy0 : 0 ≤ y) (hy1 : y < H) :
    Calls Try.prog 134 #[.pointer (some ⟨b, 0, none⟩), .int .i64 x, .int .i64 y, .bool v] w (SetRet w b ab W H (l.set (y * W + x).toNat v)) := by
  have h0 := hI.c0
  have h2 := hI.c2
  obtain ⟨b0, b1, b2⟩ := place_lt hx0 hx1 hy0 hy1
  have hlen := hI.len
  have b3 : y * W + x < (l.length : Int) := by rw [hlen]; exact b2
  have b4 : W * H ≤ 64 * 64 := Nat.mul_le_mul hW hH
  have b5 : (l.length : Int) ≤ 4096 := by rw [hlen]; omega
  have b6 : y * W ≤ 4096 := by omega
  have hcell := hI.px.cell false (i := (y * W + x).toNat) (by omega)
  have hfree := hI.px.free (y * W + x).toNat
  have hs := fun x1 => (hI.ext ⟨x1, rfl⟩ : Img (w.over x1) b ab W H l).set (y * W + x).toNat v
  have hw := fun x1 => ((World.Ext.wrote ⟨x1, rfl⟩ (fun k => k = ab)) : Wrote _ w (w.over x1)).setCell (p := ⟨ab, (y * W + x).toNat, none⟩) rfl (.bool v)
  have hab := hI.px.lt
  have HS := Lib.hid hs
  have HW := Lib.hid hw
  clear hI hlen b2 b4 hs hw
  generalize l.getD (y * W + x).toNat false = old at hcell
  go_enter Try.func134, Try.ntmps134
  go_wp2_with fail
  refine wp_region_over_tail 14 (by kernel_rfl) (by kernel_rfl) ?_; simp only [List.take_succ_cons, List.take_zero, List.drop_succ_cons, List.drop_zero]; (repeat (go_big_quiet_step (fail))); refine wpQuiet_nil ?_; rintro _ ⟨x1, rfl⟩
  go_wp2
  go_end0
  exact ⟨rfl, HW.out _, HS.out _⟩
/-- A new image is returned. -/
def ImgRet (w : World) (W H : Nat) (l : List Bool) (e : Ending) (w' : World) : Prop := ∃ b ab, e = .returned (.pointer (some ⟨b, 0, none⟩)) ∧ w.Ext w' ∧ Img w' b ab W H l ∧ w.heap.size ≤ b ∧ w.heap.size ≤ ab
set_option maxRecDepth 5000 in
set_option maxHeartbeats 800000 in
theorem blank_any (W H : Nat) (w : World) (hW : W ≤ 64) (hH : H ≤ 64) :
    Calls Try.prog 132 #[.int .i64 W, .int .i64 H] w (ImgRet w W H (List.replicate (W * H) false)) := by
  obtain ⟨i0, hi, hz0, hz1, hz2⟩ := info_parts Try.infoBool'
  have hm : W * H ≤ 4096 := Nat.mul_le_mul hW hH
  have c1 : i0.bytes * (W * H) ≤ 281474976710656 := by rw [hz2]; omega
  have c2 : W * H ≤ maxLen := by unfold maxLen; omega
  have hmi : (W : Int) * (H : Int) = ((W * H : Nat) : Int) := by rw [Int.natCast_mul]
  have hmb : (W : Int) * (H : Int) ≤ 4096 := by rw [hmi]; omega
  have hmb0 : 0 ≤ (W : Int) * (H : Int) := by rw [hmi]; omega
  have C1 := Lib.hid c1
  have C2 := Lib.hid c2
  have HMI := Lib.hid hmi
  clear c1 c2 hmi hm
  go_enter Try.func132, Try.ntmps132
  go_wp2_with (at_make; refine wpList_make_full _ rfl _ _ 101 rfl 0 4 i0 (.bool false) 1 Try.underlying101 hi hz0 hz1 .i64 .i64 _ _ (W * H) rfl rfl HMI.out HMI.out C1.out C2.out (Nat.zero_le _) (fun w1 hown hgrow => ?_))
  have hb0 := blk_of_made (f := Value.bool) false rfl hown
  have hx0 := World.Ext.made hgrow
  have hs := hx0.size
  have hlt := hb0.lt
  go_ret
  refine ⟨_, w.heap.size, rfl, hx0.alloc _, ⟨?_, hb0.ext ((World.Ext.refl _).alloc _), by simp⟩, hs, Nat.le_refl _⟩
  show (w1.heap.push _)[w1.heap.size]? = _
  simp
set_option maxHeartbeats 800000 in
theorem each_any (b f W H : Nat) (caps : Array Value) (I : Nat → World → Prop) (w : World) (hW : W ≤ 64) (hH : H ≤ 64) (he : Enters f)
    (hI : ∀ k w', I k w' → w'.cell? ⟨b, 0, none⟩ = some (.int .i64 W) ∧ w'.cell? ⟨b, 1, none⟩ = some (.int .i64 H))
    (hf : ∀ (x y : Nat) w', x < W → y < H → I (y * W + x) w' → Calls Try.prog f (#[.int .i64 (x : Nat), .int .i64 (y : Nat)] ++ caps) w' fun e w'' => e = .returned (.tuple #[]) ∧ I (y * W + x + 1) w'')
    (h0 : I 0 w) :
    Calls Try.prog 121 #[.pointer (some ⟨b, 0, none⟩), .func (.func f) #[] caps] w fun e w' => e = .returned (.tuple #[]) ∧ I (H * W) w' := by
  have HF := Lib.hid hf
  have H0 := Lib.hid h0
  have HI := Lib.hid hI
  obtain ⟨hw0, hw1⟩ := hI 0 w h0
  unfold Enters at he
  clear hf h0 hI
  go_enter Try.func121, Try.ntmps121
  go_wp2
  go_loopw [4, 5, 10] (fun _ _ i wr => ∃ y : Nat, y ≤ H ∧ i = .int .i64 y ∧ Hid (I (y * W) wr)) (fun _ _ i _ => H - (intOf i).toNat)
  case atStart => exact ⟨0, Nat.zero_le _, rfl, by rw [Nat.zero_mul]; exact H0.out⟩
  case round =>
    obtain ⟨y, hy, rfl, HY⟩ := hrel
    obtain ⟨wo, rfl⟩ : ∃ wo : World, wo = wr := ⟨_, rfl⟩
    obtain ⟨hc0, hc1⟩ := HI.out _ _ HY.out
    clear hw0 hw1
    by_cases hlt : y < H
    · go_wp2
      go_loopw [5, 17] (fun _ i w2 => ∃ x : Nat, x ≤ W ∧ i = .int .i64 x ∧ Hid (I (y * W + x) w2)) (fun _ i _ => W - (intOf i).toNat)
      case atStart => exact ⟨0, Nat.zero_le _, rfl, HY⟩
      case round =>
        obtain ⟨x, hx, rfl, HX⟩ := hrel
        by_cases hltx : x < W
        · have HC := Lib.hid (HF.out x y _ hltx hlt HX.out)
          go_wp2_with fail
          refine HC.out.mono ?_
          rintro e w3 ⟨rfl, h3⟩
          have H3 := Lib.hid h3
          clear h3
          go_wp2
          go_roundw
          case rel => exact ⟨x + 1, by omega, by go_num, H3.out⟩
          case measure => simp [intOf]; omega
        · have : x = W := by omega
          subst this
          go_wp2
          go_roundw
          case rel => exact ⟨y + 1, by omega, by go_num, by rw [Nat.succ_mul]; exact HX.out⟩
          case measure => simp [intOf]; omega
    · have : y = H := by omega
      subst this
      go_wp2
      go_end0
      exact ⟨rfl, HY.out⟩
set_option maxHeartbeats 800000 in
theorem made1_any (p7 p5 b ab W H fb : Nat) (caps : Array Value) (l : List Bool) (x y : Nat) (v : Bool) (w : World) (hW : W ≤ 64) (hH : H ≤ 64) (hI : Img w b ab W H l) (hx : x < W) (hy : y < H) (he : Enters fb)
    (h7 : w.cell? ⟨p7, 0, none⟩ = some (.pointer (some ⟨b, 0, none⟩))) (h5 : w.cell? ⟨p5, 0, none⟩ = some (.func (.func fb) #[] caps))
    (hb : ∀ w', w.Ext w' → Calls Try.prog fb (#[.int .i64 x, .int .i64 y] ++ caps) w' fun e w'' => e = .returned (.bool v) ∧ w'.Ext w'') :
    Calls Try.prog 166 #[.int .i64 x, .int .i64 y, .pointer (some ⟨p7, 0, none⟩), .pointer (some ⟨p5, 0, none⟩)] w (SetRet w b ab W H (l.set (y * W + x) v)) := by
  have HB := Lib.hid hb
  have HI := Lib.hid hI
  unfold Enters at he
  have hx' : (x : Int) < (W : Int) := by omega
  have hy' : (y : Int) < (H : Int) := by omega
  have hx0 : (0 : Int) ≤ (x : Int) := by omega
  have hy0 : (0 : Int) ≤ (y : Int) := by omega
  have e : ((y : Int) * W + x).toNat = y * W + x := by rw [← Int.natCast_mul]; omega
  have HE := Lib.hid e
  clear hb hI e
  go_enter Try.func166, Try.ntmps166
  go_wp2_with fail
  refine wp_region_over_tail 7 (by kernel_rfl) (by kernel_rfl) ?_; simp only [List.take_succ_cons, List.take_zero, List.drop_succ_cons, List.drop_zero]; (repeat (go_big_quiet_step (exact Calls.over_of (HB.out _ ⟨_, rfl⟩)))); refine wpQuiet_nil ?_; rintro _ ⟨x1, rfl⟩
  go_wp2_with fail
  refine (set_any b ab W H l x y v _ hW hH (HI.out.ext ⟨x1, rfl⟩) hx0 hx' hy0 hy').mono ?_
  rintro e w2 ⟨rfl, hw2, hi2⟩
  rw [HE.out] at hi2
  have HW2 := Lib.hid hw2
  have HI2 := Lib.hid hi2
  clear hw2 hi2
  go_wp2
  go_end0
  exact ⟨rfl, (World.Ext.wrote ⟨x1, rfl⟩ _).trans HW2.out, HI2.out⟩
/-- The pixels of a picture of W by H, told by a function. -/
def mkl (W H : Nat) (g : Nat → Nat → Bool) : List Bool := (List.range (H * W)).map fun k => g (k % W) (k / W)
theorem mkl_len (W H : Nat) (g : Nat → Nat → Bool) : (mkl W H g).length = H * W := by simp [mkl]
theorem mkl_at (W H : Nat) (g : Nat → Nat → Bool) (x y : Nat) (hx : x < W) (hy : y < H) : (mkl W H g).getD (y * W + x) false = g x y := by
  have hk : y * W + x < H * W := by
    have := Nat.mul_le_mul_right W hy
    rw [Nat.succ_mul] at this
    omega
  have e1 : (y * W + x) % W = x := by rw [Nat.mul_comm, Nat.mul_add_mod, Nat.mod_eq_of_lt hx]
  have e2 : (y * W + x) / W = y := by
    rw [Nat.mul_comm, Nat.mul_add_div (by omega), Nat.div_eq_of_lt hx]; rfl
  simp [mkl, List.getD_eq_getElem?_getD, hk, e1, e2]
set_option maxRecDepth 5000 in
set_option maxHeartbeats 800000 in
theorem made_any (W H fb : Nat) (caps : Array Value) (g : Nat → Nat → Bool) (w : World) (hW : W ≤ 64) (hH : H ≤ 64) (he : Enters fb)
    (hb : ∀ w', w.Ext w' → ∀ x y, x < W → y < H → Calls Try.prog fb (#[.int .i64 (x : Nat), .int .i64 (y : Nat)] ++ caps) w' fun e w'' => e = .returned (.bool (g x y)) ∧ w'.Ext w'') :
    Calls Try.prog 92 #[.int .i64 W, .int .i64 H, .func (.func fb) #[] caps] w (ImgRet w W H (mkl W H g)) := by
  have HB := Lib.hid hb
  have HE := Lib.hid he
  clear hb he
  go_enter Try.func92, Try.ntmps92
  go_wp2_with fail
  refine (blank_any W H _ hW hH).mono ?_
  rintro e w1 ⟨b, ab, rfl, hx1, hi1, hlb, hlab⟩
  have h5 : One w1 w.heap.size 111 (.func (.func fb) #[] caps) := (One.new w _ _ _ rfl).ext hx1
  go_wp2_with fail
  obtain ⟨W1, hW1⟩ : ∃ W1, W1 = w1.alloc (.cells #[.pointer (some ⟨b, 0, none⟩)] 95) := ⟨_, rfl⟩
  have hx2 : w1.Ext W1 := by rw [hW1]; repeat (first | exact World.Ext.refl _ | exact ⟨_, rfl⟩ | assumption | refine World.Ext.over ?_ _ | refine World.Ext.drewN ?_ _ | refine World.Ext.drew ?_ | refine World.Ext.alloc ?_ _ | refine World.Ext.setCell ?_ (by simp) _)
  have h7 : One W1 w1.heap.size 95 (.pointer (some ⟨b, 0, none⟩)) := by rw [hW1]; exact One.new _ _ _ _ rfl
  have h5' := h5.ext hx2
  have hi2 := hi1.ext hx2
  have hx := (((World.Ext.refl w).alloc (.cells #[.func (.func fb) #[] caps] 111)).trans hx1).trans hx2
  rw [← hW1]
  have hne7 : w1.heap.size ≠ ab := by have := hi1.px.lt; omega
  have hne5 : w.heap.size ≠ ab := by simp at hlab; omega
  have hlab' : w.heap.size ≤ ab := by simp at hlab; omega
  have hlb' : w.heap.size ≤ b := by simp at hlb; omega
  clear hW1 h5 hi1
  have key := each_any b 166 W H #[.pointer (some ⟨w1.heap.size, 0, none⟩), .pointer (some ⟨w.heap.size, 0, none⟩)]
    (fun k w' => Wrote (fun j => j = ab) W1 w' ∧ Img w' b ab W H (copied false (mkl W H g) k)) W1 hW hH (enters_of Try.func166 (by kernel_rfl) (by kernel_rfl))
    (fun k w' h => ⟨h.2.c0, h.2.c1⟩)
    (fun x y w' hxW hyH h => by
      have hw7 := h.1.cell h7.cell hne7
      have hw5 := h.1.cell h5'.cell hne5
      have hxw : w.Ext w' := hx.wroteNew h.1 (fun k hk => by omega)
      refine (made1_any w1.heap.size w.heap.size b ab W H fb caps _ x y (g x y) w' hW hH h.2 hxW hyH HE.out hw7 hw5 (fun w'' hx' => HB.out w'' (hxw.trans hx') x y hxW hyH)).mono ?_
      rintro e w2 ⟨rfl, hw2, hi2'⟩
      refine ⟨rfl, h.1.trans hw2, ?_⟩
      have hk : y * W + x < (mkl W H g).length := by
        rw [mkl_len]
        have := Nat.mul_le_mul_right W hyH
        rw [Nat.succ_mul] at this
        omega
      rwa [← mkl_at W H g x y hxW hyH, copied_set false _ _ hk] at hi2')
    ⟨.refl _ _, by rw [copied_zero, mkl_len, Nat.mul_comm H W]; exact hi2⟩
  refine key.mono ?_
  rintro e w3 ⟨rfl, hw3, hi3⟩
  rw [← mkl_len W H g, copied_all] at hi3
  have hxw : w.Ext w3 := hx.wroteNew hw3 (fun k hk => by omega)
  have hw7 := hw3.cell h7.cell hne7
  have HX := Lib.hid hxw
  have HI := Lib.hid hi3
  clear key hw3 hi3 hxw h7 h5' hi2 hx2 hx
  go_wp2
  go_ret
  exact ⟨b, ab, rfl, HX.out, HI.out, hlb', hlab'⟩
end Go.Proofs.Ytpploijlijnahaa
