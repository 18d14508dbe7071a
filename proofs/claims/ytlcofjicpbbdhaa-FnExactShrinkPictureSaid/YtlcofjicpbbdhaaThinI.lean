/- Thinned pictures: the program's side. -/
import Derived.Test.YtlcofjicpbbdhaaThinF
import Derived.Deep.RegionHeld3
import Derived.Lib.SliceRun
namespace Go.Proofs.Ytlcofjicpbbdhaa
open Go Go.RowKit
theorem PxOf.grow {lo : Nat} {w : World} {v : Value} {l : List Bool} (h : GrowOf Value.bool lo 4 w v l) (hp : 0 < l.length) : ∃ g cap, v = .slice (some ⟨g, 0, none⟩) l.length cap ∧ lo ≤ g ∧ PxOf w g l := by
  obtain ⟨-, h2⟩ := h
  rcases h2 with ⟨-, h0⟩ | ⟨g, cap, cur, hv, hl, hh, hc, -, hs, ht⟩
  · omega
  · rw [Nat.mul_one] at ht hs
    exact ⟨g, cap, hv, hl, cur, hh, by omega, ht⟩
set_option maxRecDepth 5000 in
set_option maxHeartbeats 800000 in
theorem cloneB_any (ab c : Nat) (l : List Bool) (w : World) (hp : 0 < l.length) (hn : l.length ≤ 4096) (hr : PxOf w ab l) :
    Calls Try.prog 239 #[.slice (some ⟨ab, 0, none⟩) l.length c] w fun e w' => ∃ g cap, e = .returned (.slice (some ⟨g, 0, none⟩) l.length cap) ∧ w.Ext w' ∧ w.heap.size ≤ g ∧ PxOf w' g l := by
  obtain ⟨i0, hi, hz0, hz1, hz2⟩ := info_parts Try.infoBoolR
  obtain ⟨W0, hW0⟩ : ∃ W0, W0 = w.alloc (.cells #[] 4) := ⟨_, rfl⟩
  have hx0 : w.Ext W0 := by rw [hW0]; repeat (first | exact World.Ext.refl _ | exact ⟨_, rfl⟩ | assumption | refine World.Ext.over ?_ _ | refine World.Ext.drewN ?_ _ | refine World.Ext.drew ?_ | refine World.Ext.alloc ?_ _ | refine World.Ext.setCell ?_ (by simp) _)
  have hg0 : GrowOf Value.bool w.heap.size 4 W0 (.slice (some ⟨w.heap.size, 0, none⟩) 0 0) ([] : List Bool) := by rw [hW0]; exact GrowOf.empty _ (Nat.le_refl _)
  have hrow : RowOf Value.bool false W0 (some ⟨ab, 0, none⟩) l := fun i hi => ⟨ab, 0, rfl, by rw [Nat.zero_add]; exact (hr.ext hx0).cell false hi⟩
  have HNEWS := Lib.hid (RowOf.news hrow)
  have HLQ : Hid ((l.map Value.bool).length = l.length * 1) := by show _ = _; simp
  have HB1 : Hid (0 + l.length ≤ maxLen) := by show _ ≤ _; unfold maxLen; omega
  have HB2 : Hid ((0 + l.length) * 1 ≤ 140737488355328) := by show _ ≤ _; omega
  have HLE := Lib.hid hx0.size
  have HNEXT : Hid (∀ (v' : Value) (w1 : World), W0.grownBy w1 (Value.ownBlock (.slice (some ⟨w.heap.size, 0, none⟩) 0 0)) → w1.ownsRow w.heap.size 4 1 v' (0 + l.length) (([] : List Bool).map Value.bool ++ l.map Value.bool) → Hid (w.Ext w1 ∧ ∃ g cap, v' = .slice (some ⟨g, 0, none⟩) l.length cap ∧ w.heap.size ≤ g ∧ PxOf w1 g l)) := fun v' w1 hgrow hown => by
    refine ⟨hg0.pushesExt hx0 hgrow, ?_⟩
    have := GrowOf.pushes (xs := ([] : List Bool)) hown
    exact PxOf.grow (by simpa using this) hp
  have hown := hg0
  unfold GrowOf at hown
  clear hr hn hg0 hx0 hrow
  have hnil : ∀ w', (binOp .eql 59 (.slice (some ⟨ab, 0, none⟩) l.length c) (.slice none 0 0)).run Try.prog w' = .ok (.bool false) w' := fun w' => Lib.run_eql_slice_nil w' _ _ _ _ _ _ _ Try.underlying59
  go_enter Try.func239, Try.ntmps239
  go_wp2_with (at_builtin; rw [← hW0]; refine wpList_append_own _ rfl _ _ 59 rfl w.heap.size 4 i0 (.bool false) 1 1 Try.underlying59 hi hz0 hz1 hz2 rfl (by decide) _ _ _ rfl hown ⟨ab, 0, none⟩ l.length _ (l.map Value.bool) rfl HLQ.out HNEWS.out (by intro u hu; obtain ⟨z, _, rfl⟩ := List.mem_map.1 hu; rfl) HB1.out HB2.out HLE.out (fun v' w1 hown' hgrow _ => ?_); have HR := HNEXT.out _ _ hgrow hown'; clear hown' hgrow hown)
  go_ret
  obtain ⟨h1, g, cap, rfl, h2, h3⟩ := HR.out
  exact ⟨g, cap, rfl, h1, h2, h3⟩
set_option maxRecDepth 5000 in
set_option maxHeartbeats 1600000 in
theorem clone_any (b ab W H : Nat) (l : List Bool) (w : World) (hp : 0 < l.length) (hn : l.length ≤ 4096) (hI : Img w b ab W H l) :
    Calls Try.prog 190 #[.pointer (some ⟨b, 0, none⟩)] w (ImgRet w W H l) := by
  have i0 := hI.c0
  have i1 := hI.c1
  obtain ⟨cap, i2⟩ := hI.c2
  have HCL : Hid (∀ w', w.Ext w' → Calls Try.prog 239 #[.slice (some ⟨ab, 0, none⟩) l.length cap] w' fun e w'' => ∃ g cap, e = .returned (.slice (some ⟨g, 0, none⟩) l.length cap) ∧ w'.Ext w'' ∧ w'.heap.size ≤ g ∧ PxOf w'' g l) := fun w' hx => cloneB_any ab cap l w' hp hn (hI.px.ext hx)
  have HLEN := Lib.hid hI.len
  have HIN : Hid (∀ w1 g cap', w.Ext w1 → w.heap.size ≤ g → PxOf w1 g l → ImgRet w W H l (.returned (.pointer (some ⟨w1.heap.size, 0, none⟩))) (w1.alloc (.cells #[.int .i64 W, .int .i64 H, .slice (some ⟨g, 0, none⟩) l.length cap'] 135))) := fun w1 g cap' hx hg hpx =>
    ⟨w1.heap.size, g, rfl, hx.alloc _, ⟨⟨cap', (MapKept.heap_alloc w1 _).1⟩, hpx.ext ((World.Ext.refl _).alloc _), HLEN.out⟩, hx.size, hg⟩
  have hlb := hI.lt
  clear hI
  go_enter Try.func190, Try.ntmps190
  go_wp2_with fail
  go_region_held3 (fun w' => w'.cell? ⟨b, 0, none⟩ = some (.int .i64 W) ∧ w'.cell? ⟨b, 1, none⟩ = some (.int .i64 H) ∧ w'.cell? ⟨b, 2, none⟩ = some (.slice (some ⟨ab, 0, none⟩) l.length cap))
    (first | (refine ⟨World.Ext.cell ?_ i0, World.Ext.cell ?_ i1, World.Ext.cell ?_ i2⟩ <;> ((repeat (first | exact World.Ext.refl _ | exact ⟨_, rfl⟩ | assumption | refine World.Ext.over ?_ _ | refine World.Ext.drewN ?_ _ | refine World.Ext.drew ?_ | refine World.Ext.alloc ?_ _ | refine World.Ext.setCell ?_ ?_ _ | (simp; done))); done)))
    (first
      | (go_at_call 239; go_loud (refine (HCL.out _ ?_).mono ?_; exact ((World.Ext.refl w).drew); rintro e w1 ⟨g, cap', rfl, hx1, hlo, hpx⟩; have E1 : w.Ext w1 := ((World.Ext.refl w).drew).trans hx1; have HPX := Lib.hid (And.intro hlo hpx); clear hx1 hlo hpx)))
  go_wp2
  go_ret
  exact HIN.out w1 g cap' E1 HPX.out.1 HPX.out.2
/-- The image under way: its pixels lie in block g; w2 is the world behind the boxes; the cell pa says whether a pass has taken one away. -/
structure ThSt (w2 : World) (pa b g W H : Nat) (l : List Bool) (again : Bool) (wr : World) : Prop where
  wrote : Wrote (fun k => k = g ∨ w2.heap.size ≤ k) w2 wr
  img : Img wr b g W H l
  one : One wr pa 4 (.bool again)
theorem ThSt.ext {w2 : World} {pa b g W H : Nat} {l : List Bool} {again : Bool} {wr w' : World} (h : ThSt w2 pa b g W H l again wr) (hx : wr.Ext w') : ThSt w2 pa b g W H l again w' := ⟨h.wrote.trans (hx.wrote _), h.img.ext hx, h.one.ext hx⟩
theorem ThSt.set {w2 : World} {pa b g W H : Nat} {l l' : List Bool} {again : Bool} {wr w' : World} (h : ThSt w2 pa b g W H l again wr) (hne : pa ≠ g) (hw : Wrote (fun k => k = g) wr w') (hi : Img w' b g W H l') : ThSt w2 pa b g W H l' again w' :=
  ⟨h.wrote.trans (hw.mono fun _ _ e => .inl e), hi, h.one.keep (hw.block pa h.one.lt hne)⟩
theorem ThSt.mark {w2 : World} {pa b g W H : Nat} {l : List Bool} {again : Bool} {wr : World} (h : ThSt w2 pa b g W H l again wr) (hlo : w2.heap.size ≤ pa) (hb : b < w2.heap.size) (hg : g < w2.heap.size) (t : Bool) : ThSt w2 pa b g W H l t (wr.setCell ⟨pa, 0, none⟩ (.bool t)) :=
  ⟨h.wrote.setCell (p := ⟨pa, 0, none⟩) (.inr hlo) _, h.img.keep (Below.heap_setCell _ _ _ _ (by dsimp only; omega)) (Below.heap_setCell _ _ _ _ (by dsimp only; omega)), h.one.set _⟩
set_option maxRecDepth 5000 in
set_option maxHeartbeats 3200000 in
theorem thin1_any (w2 : World) (pb pl pe pa b g W H : Nat) (eight : Bool) (least : Nat) (l : List Bool) (again : Bool) (x y : Nat) (wr : World) (hW : W ≤ 64) (hH : H ≤ 64) (_ : least ≤ 100) (hx : x < W) (hy : y < H) (hS : ThSt w2 pa b g W H l again wr)
    (h1 : w2.cell? ⟨pb, 0, none⟩ = some (.pointer (some ⟨b, 0, none⟩))) (h2 : w2.cell? ⟨pl, 0, none⟩ = some (.int .i64 least)) (h3 : w2.cell? ⟨pe, 0, none⟩ = some (.bool eight)) (n1 : pb ≠ g) (n2 : pl ≠ g) (n3 : pe ≠ g) (hlo : w2.heap.size ≤ pa) (hb : b < w2.heap.size) (hg : g < w2.heap.size) :
    Calls Try.prog 191 #[.int .i64 x, .int .i64 y, .pointer (some ⟨pb, 0, none⟩), .pointer (some ⟨pl, 0, none⟩), .pointer (some ⟨pe, 0, none⟩), .pointer (some ⟨pa, 0, none⟩)] wr fun e w' => e = .returned (.tuple #[]) ∧
      ThSt w2 pa b g W H (if thC W H eight least l (y * W + x) then l.set (y * W + x) false else l) (again || thC W H eight least l (y * W + x)) w' := by
  have l1 := World.block_lt_of_cell? _ _ h1
  have l2 := World.block_lt_of_cell? _ _ h2
  have l3 := World.block_lt_of_cell? _ _ h3
  dsimp only at l1 l2 l3
  obtain ⟨W0, hW0⟩ : ∃ W0, W0 = wr.alloc (.cells #[.int .i64 x, .int .i64 y] 36) := ⟨_, rfl⟩
  have hx0 : wr.Ext W0 := by rw [hW0]; repeat (first | exact World.Ext.refl _ | exact ⟨_, rfl⟩ | assumption | refine World.Ext.over ?_ _ | refine World.Ext.drewN ?_ _ | refine World.Ext.drew ?_ | refine World.Ext.alloc ?_ _ | refine World.Ext.setCell ?_ (by simp) _)
  have HD : Hid (∀ w', W0.Ext w' → w'.cell? ⟨wr.heap.size, 0, none⟩ = some (.int .i64 x) ∧ w'.cell? ⟨wr.heap.size, 1, none⟩ = some (.int .i64 y) ∧ w'.cell? ⟨pb, 0, none⟩ = some (.pointer (some ⟨b, 0, none⟩)) ∧ w'.cell? ⟨pl, 0, none⟩ = some (.int .i64 least) ∧ w'.cell? ⟨pe, 0, none⟩ = some (.bool eight)) := fun w' hx' =>
    ⟨hx'.cell (by rw [hW0]; simp [go_sem]), hx'.cell (by rw [hW0]; simp [go_sem]), hx'.cell (hx0.cell (hS.wrote.cell h1 (by dsimp only; omega))), hx'.cell (hx0.cell (hS.wrote.cell h2 (by dsimp only; omega))), hx'.cell (hx0.cell (hS.wrote.cell h3 (by dsimp only; omega)))⟩
  have hS0 := hS.ext hx0
  have HS0 := Lib.hid hS0
  have hgb : Calls Try.prog 97 #[.pointer (some ⟨b, 0, none⟩), .int .i64 x, .int .i64 y] W0 fun e w'' => e = .returned (.bool (l.getD (y * W + x) false)) ∧ W0.Ext w'' := get_any b g W H l x y W0 hW hH hS0.img _ (pxl_at _ _ _ _ _ hx hy)
  have HC1 : Hid (∀ x1, Calls Try.prog 97 #[.pointer (some ⟨b, 0, none⟩), .int .i64 x, .int .i64 y] (W0.over x1) fun e w'' => e = .returned (.bool (l.getD (y * W + x) false)) ∧ (W0.over x1).Ext w'') := fun x1 => get_any b g W H l x y _ hW hH (hS0.img.ext ⟨x1, rfl⟩) _ (pxl_at _ _ _ _ _ hx hy)
  have HC2 : Hid (∀ x1, Calls Try.prog 192 #[.pointer (some ⟨b, 0, none⟩), .agg #[.int .i64 x, .int .i64 y]] (W0.over x1) fun e w'' => e = .returned (.int .i64 (nearN (pxl W H l) x y)) ∧ (W0.over x1).Ext w'') := fun x1 => company_any b g W H l x y _ hW hH (hS0.img.ext ⟨x1, rfl⟩) (by omega) (by omega)
  have HC3 : Hid (∀ x1, Calls Try.prog 98 #[.pointer (some ⟨b, 0, none⟩), .agg #[.int .i64 x, .int .i64 y], .bool eight] (W0.over x1) fun e w'' => e = .returned (.bool (simpB (pxl W H l) x y eight)) ∧ (W0.over x1).Ext w'') := fun x1 => simple_any b g W H l x y eight _ hW hH (hS0.img.ext ⟨x1, rfl⟩) (by omega) (by omega)
  have hlen : l.length = W * H := hS.img.len
  have HSE : Hid (∀ w', W0.Ext w' → Calls Try.prog 186 #[.pointer (some ⟨b, 0, none⟩), .int .i64 x, .int .i64 y, .bool false] w' fun e w'' => e = .returned (.tuple #[]) ∧ Hid (ThSt w2 pa b g W H (l.set (y * W + x) false) again w'')) := fun w' hx' => by
    have h := set_any b g W H l x y false w' hW hH (hS0.img.ext hx') (by omega) (by omega) (by omega) (by omega)
    have e : ((y : Int) * (W : Int) + (x : Int)).toNat = y * W + x := by rw [← Int.natCast_mul, ← Int.natCast_add, Int.toNat_natCast]
    rw [e] at h
    exact h.mono fun _ _ ⟨q1, q2, q3⟩ => ⟨q1, (hS0.ext hx').set (by omega) q2 q3⟩
  have HMK : Hid (∀ w', ThSt w2 pa b g W H (l.set (y * W + x) false) again w' → w'.cell? ⟨pa, 0, none⟩ = some (.bool again) ∧ w'.frozen? ⟨pa, 0, none⟩ = false ∧ pa < w'.heap.size ∧ Hid (ThSt w2 pa b g W H (l.set (y * W + x) false) true (w'.setCell ⟨pa, 0, none⟩ (.bool true)))) := fun w' h => ⟨h.one.cell, h.one.free, h.one.lt, h.mark hlo hb hg true⟩
  have HTC := Lib.hid (thC_at (W := W) (H := H) (eight := eight) (least := least) (l := l) (y := y) hx)
  have hnn := nearN_le (pxl W H l) x y
  obtain ⟨d0, d1, d2, d3, d4⟩ := HD.out W0 (.refl _)
  clear hS hS0 hgb hx0 h1 h2 h3 n1 n2 n3 hlen
  generalize nearN (pxl W H l) x y = nn at *
  generalize simpB (pxl W H l) x y eight = sb at *
  generalize thC W H eight least l (y * W + x) = tc at *
  cases hb1 : l.getD (y * W + x) false
  · rw [hb1] at HC1 HTC
    have htc : tc = false := by rw [HTC.out]; rfl
    subst htc
    have HR : Hid (∀ x1, ThSt w2 pa b g W H l (again || false) (W0.over x1)) := fun x1 => by rw [Bool.or_false]; exact HS0.out.ext ⟨x1, rfl⟩
    show Calls _ _ _ _ (fun e w' => e = .returned (.tuple #[]) ∧ ThSt w2 pa b g W H l (again || false) w')
    clear HC2 HC3 HSE HMK HTC HS0 hb1
    go_enter Try.func191, Try.ntmps191
    go_wp2_with fail
    rw [← hW0]
    clear hW0
    refine wp_region_over_lit (by kernel_rfl) (by kernel_rfl) ?_; (repeat (go_big_quiet_step ((go_at_call 97; exact Calls.over_of (HC1.out _))))); refine wpQuiet_nil ?_; rintro _ ⟨x1, rfl⟩
    clear d0 d1 d2 d3 d4
    go_wp2
    go_end0
    exact ⟨rfl, HR.out _⟩
  · rw [hb1] at HC1 HTC
    by_cases hle : least ≤ nn
    · have hle' : (least : Int) ≤ (nn : Int) := by omega
      cases sb
      · have htc : tc = false := by rw [HTC.out]; simp
        subst htc
        have HR : Hid (∀ x1, ThSt w2 pa b g W H l (again || false) (W0.over x1)) := fun x1 => by rw [Bool.or_false]; exact HS0.out.ext ⟨x1, rfl⟩
        show Calls _ _ _ _ (fun e w' => e = .returned (.tuple #[]) ∧ ThSt w2 pa b g W H l (again || false) w')
        clear HSE HMK HTC HS0 hb1
        go_enter Try.func191, Try.ntmps191
        go_wp2_with fail
        rw [← hW0]
        clear hW0
        refine wp_region_over_lit (by kernel_rfl) (by kernel_rfl) ?_; (repeat (go_big_quiet_step ((first | (go_at_call 97; exact Calls.over_of (HC1.out _)) | (go_at_call 192; exact Calls.over_of (HC2.out _)) | (go_at_call 98; exact Calls.over_of (HC3.out _)))))); refine wpQuiet_nil ?_; rintro _ ⟨x1, rfl⟩
        clear d0 d1 d2 d3 d4
        go_wp2
        go_end0
        exact ⟨rfl, HR.out _⟩
      · have htc : tc = true := by rw [HTC.out]; simp [hle]
        subst htc
        show Calls _ _ _ _ (fun e w' => e = .returned (.tuple #[]) ∧ ThSt w2 pa b g W H (l.set (y * W + x) false) (again || true) w')
        rw [Bool.or_true]
        clear HTC HS0 hb1
        go_enter Try.func191, Try.ntmps191
        go_wp2_with fail
        rw [← hW0]
        clear hW0
        refine wp_region_over_lit (by kernel_rfl) (by kernel_rfl) ?_; (repeat (go_big_quiet_step ((first | (go_at_call 97; exact Calls.over_of (HC1.out _)) | (go_at_call 192; exact Calls.over_of (HC2.out _)) | (go_at_call 98; exact Calls.over_of (HC3.out _)))))); refine wpQuiet_nil ?_; rintro _ ⟨x1, rfl⟩
        clear d0 d1 d2 d3 d4
        have HXV : Hid (W0.Ext (W0.over x1)) := ⟨x1, rfl⟩
        generalize W0.over x1 = w5 at *
        obtain ⟨d0, d1, d2, d3, d4⟩ := HD.out w5 HXV.out
        clear d0 d1 d3 d4 HC1 HC2 HC3
        go_wp2_with fail
        refine (HSE.out w5 HXV.out).mono ?_
        rintro e w6 ⟨rfl, HS6⟩
        obtain ⟨q1, q2, q3, HR⟩ := HMK.out _ HS6.out
        clear HSE HMK HS6 d2
        go_wp2
        go_end0
        exact ⟨rfl, HR.out⟩
    · have hle' : ¬ (least : Int) ≤ (nn : Int) := by omega
      have htc : tc = false := by rw [HTC.out]; simp [hle]
      subst htc
      have HR : Hid (∀ x1, ThSt w2 pa b g W H l (again || false) (W0.over x1)) := fun x1 => by rw [Bool.or_false]; exact HS0.out.ext ⟨x1, rfl⟩
      show Calls _ _ _ _ (fun e w' => e = .returned (.tuple #[]) ∧ ThSt w2 pa b g W H l (again || false) w')
      clear HC3 HSE HMK HTC HS0 hb1
      go_enter Try.func191, Try.ntmps191
      go_wp2_with fail
      rw [← hW0]
      clear hW0
      refine wp_region_over_lit (by kernel_rfl) (by kernel_rfl) ?_; (repeat (go_big_quiet_step ((first | (go_at_call 97; exact Calls.over_of (HC1.out _)) | (go_at_call 192; exact Calls.over_of (HC2.out _)))))); refine wpQuiet_nil ?_; rintro _ ⟨x1, rfl⟩
      clear d0 d1 d2 d3 d4
      go_wp2
      go_end0
      exact ⟨rfl, HR.out _⟩
theorem enters_thin1 : Enters 191 := enters_of Try.func191 (by kernel_rfl) (by kernel_rfl)
def ThP (w2 : World) (b g W H : Nat) (eight : Bool) (least : Nat) (res : List Bool) (n : Nat) (v : Value) (wr : World) : Prop :=
  ∃ pa l again, v = .pointer (some ⟨pa, 0, none⟩) ∧ w2.heap.size ≤ pa ∧ ThSt w2 pa b g W H l again wr ∧ PasW (thC W H eight least) noV (H * W) res again l ∧ l.countP id + (if again then 1 else 0) = n
noncomputable def ThM (w2 : World) (b g W H : Nat) (eight : Bool) (least : Nat) (res : List Bool) (v : Value) (wr : World) : Nat := leastN fun n => ThP w2 b g W H eight least res n v wr
theorem ThM_lt {w2 : World} {b g W H : Nat} {eight : Bool} {least : Nat} {res : List Bool} {v v' : Value} {wr wr' : World} {n n' : Nat} (h0 : ThM w2 b g W H eight least res v wr = n) (h : ThP w2 b g W H eight least res n' v' wr') (hn : n' < n) :
    ThM w2 b g W H eight least res v' wr' < ThM w2 b g W H eight least res v wr := by
  rw [h0]
  exact Nat.lt_of_le_of_lt (leastN_le h) hn
set_option maxRecDepth 5000 in
set_option maxHeartbeats 3200000 in
theorem thinned_any (b ab W H : Nat) (eight : Bool) (least : Nat) (l res : List Bool) (w : World) (hW1 : 1 ≤ W) (hH1 : 1 ≤ H) (hW : W ≤ 64) (hH : H ≤ 64) (hl : least ≤ 100) (hI : Img w b ab W H l) (hR : ThinR W H eight least l res) :
    Calls Try.prog 101 #[.pointer (some ⟨b, 0, none⟩), .bool eight, .int .i64 least] w (ImgRet w W H res) := by
  obtain ⟨W0, hW0⟩ : ∃ W0, W0 = (w.alloc (.cells #[.bool eight] 4)).alloc (.cells #[.int .i64 least] 2) := ⟨_, rfl⟩
  have hx0 : w.Ext W0 := by rw [hW0]; repeat (first | exact World.Ext.refl _ | exact ⟨_, rfl⟩ | assumption | refine World.Ext.over ?_ _ | refine World.Ext.drewN ?_ _ | refine World.Ext.drew ?_ | refine World.Ext.alloc ?_ _ | refine World.Ext.setCell ?_ (by simp) _)
  have e0 : W0.cell? ⟨w.heap.size, 0, none⟩ = some (.bool eight) := by rw [hW0]; simp [go_sem]
  have e1 : W0.cell? ⟨w.heap.size + 1, 0, none⟩ = some (.int .i64 least) := by rw [hW0]; simp [go_sem]
  have hsz0 : W0.heap.size = w.heap.size + 2 := by rw [hW0]; simp
  have hlen := hI.len
  have hHW : H * W ≤ 4096 := Nat.mul_le_mul hH hW
  have hHW0 : 0 < H * W := Nat.mul_pos hH1 hW1
  rw [Nat.mul_comm] at hlen
  have HCL := Lib.hid (clone_any b ab W H l W0 (by omega) (by omega) (hI.ext hx0))
  have HX0 := Lib.hid hx0
  have HE := Lib.hid (And.intro e0 e1)
  have HR := Lib.hid hR
  have HLEN := Lib.hid hlen
  clear hI hx0 e0 e1 hR hlen
  go_enter Try.func101, Try.ntmps101
  go_wp2_with fail
  rw [← hW0]
  clear hW0
  refine HCL.out.mono ?_
  rintro e w1 ⟨b1, g1, rfl, hx1, hi1, hb1, hg1⟩
  obtain ⟨w2, hw2⟩ : ∃ w2, w2 = w1.alloc (.cells #[.pointer (some ⟨b1, 0, none⟩)] 109) := ⟨_, rfl⟩
  have hx2 : w1.Ext w2 := by rw [hw2]; repeat (first | exact World.Ext.refl _ | exact ⟨_, rfl⟩ | assumption | refine World.Ext.over ?_ _ | refine World.Ext.drewN ?_ _ | refine World.Ext.drew ?_ | refine World.Ext.alloc ?_ _ | refine World.Ext.setCell ?_ (by simp) _)
  have hsz2 : w2.heap.size = w1.heap.size + 1 := by rw [hw2]; simp
  have hgl := hi1.px.lt
  have hbl := hi1.lt
  have hz1 := hx1.size
  have c1 : Hid (w2.cell? ⟨w1.heap.size, 0, none⟩ = some (.pointer (some ⟨b1, 0, none⟩))) := by rw [hw2]; show _ = _; simp [go_sem]
  have c2 := Lib.hid (hx2.cell (hx1.cell HE.out.2))
  have c3 := Lib.hid (hx2.cell (hx1.cell HE.out.1))
  have HXW := Lib.hid (HX0.out.trans (hx1.trans hx2))
  obtain ⟨w3, hw3⟩ : ∃ w3, w3 = w2.alloc (.cells #[.bool true] 4) := ⟨_, rfl⟩
  have hx3 : w2.Ext w3 := by rw [hw3]; repeat (first | exact World.Ext.refl _ | exact ⟨_, rfl⟩ | assumption | refine World.Ext.over ?_ _ | refine World.Ext.drewN ?_ _ | refine World.Ext.drew ?_ | refine World.Ext.alloc ?_ _ | refine World.Ext.setCell ?_ (by simp) _)
  have HP0 : Hid (∃ n, ThP w2 b1 g1 W H eight least res n (.pointer (some ⟨w1.heap.size + 1, 0, none⟩)) w3) :=
    ⟨_, w1.heap.size + 1, l, true, rfl, Nat.le_of_eq hsz2, ⟨hx3.wrote _, hi1.ext (hx2.trans hx3), by rw [hw3]; exact One.new _ _ _ _ hsz2.symm⟩, HR.out, rfl⟩
  clear hx1 hx2 hx3 hi1 HCL HE
  go_wp2
  rw [← hw2]
  rw [← hw3]
  clear hw2 hw3
  go_loopw [8] (fun v wr => ∃ n, Hid (ThP w2 b1 g1 W H eight least res n v wr)) (fun v wr => ThM w2 b1 g1 W H eight least res v wr)
  case atStart => exact HP0.out
  case round =>
    clear HP0
    obtain ⟨n1, HP1⟩ := hrel
    obtain ⟨n, hn, HP⟩ : ∃ n, Hid (ThM w2 b1 g1 W H eight least res u8 wr = n) ∧ Hid (ThP w2 b1 g1 W H eight least res n u8 wr) := ⟨_, rfl, leastN_at (p := fun n => ThP w2 b1 g1 W H eight least res n u8 wr) HP1.out⟩
    clear HP1 n1
    obtain ⟨pa, l', again, rfl, hlo, hS, hPW, hcnt⟩ := HP.out
    have HS := Lib.hid hS
    have HPW := Lib.hid hPW
    have HCNT := Lib.hid hcnt
    clear HP hS hPW hcnt
    obtain ⟨wo, rfl⟩ : ∃ wo : World, wo = wr := ⟨_, rfl⟩
    have ca := HS.out.one.cell
    have fa := HS.out.one.free
    have la := HS.out.one.lt
    have cb := HS.out.wrote.cell c1.out (by dsimp only; omega)
    have lb := World.block_lt_of_cell? _ _ cb
    dsimp only at lb
    cases again
    · have hres := HPW.out.stop
      subst hres
      have HRT : Hid (ImgRet w W H l' (.returned (.pointer (some ⟨b1, 0, none⟩))) wo) := ⟨b1, g1, rfl, HXW.out.wroteNew HS.out.wrote (fun k hk h => by have := HXW.out.size; omega), HS.out.img, by omega, by omega⟩
      clear hn HS HPW HCNT HR HLEN HXW
      go_wp2
      go_ret
      exact HRT.out
    · have hlen' : l'.length = H * W := by rw [HS.out.img.len, Nat.mul_comm]
      have HNX := Lib.hid HPW.out.next
      have HFL := Lib.hid ((th_falls W H eight least (H * W)).to hlen' (H * W) (Nat.le_refl _))
      obtain ⟨W5, hW5⟩ : ∃ W5, W5 = wo.setCell ⟨pa, 0, none⟩ (.bool false) := ⟨_, rfl⟩
      have HEA : Hid (Calls Try.prog 140 #[.pointer (some ⟨b1, 0, none⟩), .func (.func 191) #[] #[.pointer (some ⟨w1.heap.size, 0, none⟩), .pointer (some ⟨w.heap.size + 1, 0, none⟩), .pointer (some ⟨w.heap.size, 0, none⟩), .pointer (some ⟨pa, 0, none⟩)]] W5 fun e w' => e = .returned (.tuple #[]) ∧
          ThSt w2 pa b1 g1 W H (pasTo (thC W H eight least) noV l' (H * W)) (tokTo (thC W H eight least) noV l' (H * W)) w') :=
        each_any b1 _ W H _ (fun k w' => ThSt w2 pa b1 g1 W H (pasTo (thC W H eight least) noV l' k) (tokTo (thC W H eight least) noV l' k) w') W5 hW hH enters_thin1 (fun k w' h => ⟨h.img.c0, h.img.c1⟩)
          (fun x y w' hx hy h => (thin1_any w2 w1.heap.size (w.heap.size + 1) w.heap.size pa b1 g1 W H eight least _ _ x y w' hW hH hl hx hy h c1.out c2.out c3.out (by omega) (by omega) (by omega) hlo (by omega) (by omega)).mono fun _ _ ⟨q1, q2⟩ => ⟨q1, by rw [pasTo, tokTo]; exact q2⟩)
          (by rw [hW5]; exact HS.out.mark hlo (by omega) (by omega) false)
      have hne : ¬ w1.heap.size = pa := by omega
      have hne2 : ¬ pa = w1.heap.size := by omega
      have hCN := HCNT.out
      have hF2 := HFL.out.2
      simp only [if_true] at hCN
      have HLT : Hid ((pasTo (thC W H eight least) noV l' (H * W)).countP id + (if tokTo (thC W H eight least) noV l' (H * W) then 1 else 0) < n) := by show _ < _; omega
      clear HPW HFL HCNT hCN hF2 HS hlen' HR HLEN
      generalize pasTo (thC W H eight least) noV l' (H * W) = Lk at *
      generalize tokTo (thC W H eight least) noV l' (H * W) = Tk at *
      go_wp2_with fail
      rw [← hW5]
      clear hW5 ca fa la cb lb
      refine HEA.out.mono ?_
      rintro e w4 ⟨rfl, hS4⟩
      have ca := hS4.one.cell
      have la := hS4.one.lt
      have hsz4 := hS4.wrote.size
      have hx4 : w4.Ext (w4.alloc (.cells #[.bool Tk] 4)) := by repeat (first | exact World.Ext.refl _ | exact ⟨_, rfl⟩ | assumption | refine World.Ext.over ?_ _ | refine World.Ext.drewN ?_ _ | refine World.Ext.drew ?_ | refine World.Ext.alloc ?_ _ | refine World.Ext.setCell ?_ (by simp) _)
      have HPN : Hid (ThP w2 b1 g1 W H eight least res (Lk.countP id + (if Tk then 1 else 0)) (.pointer (some ⟨w4.heap.size, 0, none⟩)) (w4.alloc (.cells #[.bool Tk] 4))) :=
        ⟨w4.heap.size, Lk, Tk, rfl, hsz4, ⟨hS4.wrote.trans (hx4.wrote _), hS4.img.ext hx4, One.new _ _ _ _ rfl⟩, HNX.out, rfl⟩
      clear hS4 hx4 HNX HEA
      go_wp2
      go_roundw
      case rel => exact ⟨_, HPN⟩
      case measure => exact ThM_lt hn.out HPN.out HLT.out
end Go.Proofs.Ytlcofjicpbbdhaa
