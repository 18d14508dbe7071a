/- What the laws of the tenth workplace draw, and their small helpers. -/
import Derived.Test.YtmmanehdmnkekaaGenD
import Derived.Test.YtmmanehdmnkekaaRecP
namespace Go.Proofs.Ytmmanehdmnkekaa
open Go Go.RowKit
theorem rowGood_row {W : Nat} {l : List Bool} (h : l.length = W) : rowGood W (rowStr l) = true := by
  unfold rowGood
  rw [rowStr_size, h, decide_eq_true rfl, Bool.true_and, List.all_eq_true]
  intro x hx
  unfold rowStr at hx
  rw [strOfNums_data] at hx
  obtain ⟨z, hz, rfl⟩ := List.mem_map.1 hx
  obtain ⟨b, -, rfl⟩ := List.mem_map.1 hz
  cases b <;> rfl
theorem picOk_rows {W H : Nat} {l : List Bool} (hW1 : 1 ≤ W) (hW2 : W ≤ 16) (hH1 : 1 ≤ H) (hH2 : H ≤ 16) (hl : l.length = W * H) : picOk (picRows W H l) = true := by
  unfold picOk
  rw [picW_rows (by omega) hl, picRows_len, inB_true.2 (by omega), inB_true.2 (by omega), Bool.true_and, Bool.true_and, List.all_eq_true]
  intro s hs
  unfold picRows at hs
  obtain ⟨y, hy, rfl⟩ := List.mem_map.1 hs
  exact rowGood_row (rowAt_len W H l y hl (List.mem_range.1 hy))
/-- A new picture with a property is returned. -/
def NewPic (w : World) (P : List ByteArray → Prop) (e : Ending) (w' : World) : Prop :=
  ∃ (a : Option Addr) (c : Nat) (ss : List ByteArray), e = .returned (.agg #[.slice a ss.length c]) ∧ P ss ∧ w.Ext w' ∧ OwnOf Value.string ByteArray.empty w.heap.size w'.heap.size w' a ss
def PicIn (n : Nat) (ss : List ByteArray) : Prop := picOk ss = true ∧ ss.length ≤ n ∧ picW ss ≤ n
def PicOf (W H : Nat) (ss : List ByteArray) : Prop := picOk ss = true ∧ ss.length = H ∧ picW ss = W
set_option maxRecDepth 5000 in
theorem pic7_any (a : Option Addr) (c : Nat) (zs : List Int) (w : World) (h : CodeAt w a zs) :
    Calls Try.prog 28 #[.slice a zs.length c] w (NewPic w (PicIn 7)) := by
  obtain ⟨W0, hW0⟩ : ∃ W0, W0 = w.alloc (.cells #[.slice none 0 0] 38) := ⟨_, rfl⟩
  have hx0 : w.Ext W0 := by rw [hW0]; repeat (first | exact World.Ext.refl _ | exact ⟨_, rfl⟩ | assumption | refine World.Ext.over ?_ _ | refine World.Ext.drewN ?_ _ | refine World.Ext.drew ?_ | refine World.Ext.alloc ?_ _ | refine World.Ext.setCell ?_ (by simp) _)
  have hone : One W0 w.heap.size 38 (.slice none 0 0) := by rw [hW0]; exact One.new _ _ _ _ rfl
  have hlt := hone.lt
  have HF := Lib.hid (from_any a c zs w W0 hx0 h)
  have HP : Hid (∀ w' n' N, n' ≤ 2000000 → SrcSt w W0.heap.size n' w' → Calls Try.prog 73 #[.pointer (some ⟨W0.heap.size, 0, none⟩), .int .i64 N] w' (PickRet w W0.heap.size (n' + 2) w' N)) := fun w' n' N h1 h2 => pick_any w W0.heap.size n' N w' (by omega) h2
  have HONE := Lib.hid hone
  clear hone h
  go_enter Try.func28, Try.ntmps28
  go_wp2_with fail
  rw [← hW0]
  clear hW0
  refine HF.out.mono ?_
  rintro e w1 ⟨rfl, hx1, hs⟩
  have HS1 := Lib.hid hs
  have HO1 := Lib.hid (HONE.out.ext hx1)
  clear hx1 hs HF HONE
  go_wp2_with fail
  refine (HP.out w1 _ _ (by omega) HS1.out).mono ?_
  rintro e w2 ⟨x, rfl, x0, x1, hw, hs⟩
  have HO2 := Lib.hid (HO1.out.keep (hw.block _ HO1.out.lt (by omega)))
  have HS2 := Lib.hid hs
  clear hw hs HS1 HO1
  go_wp2_with fail
  refine (HP.out w2 _ _ (by omega) HS2.out).mono ?_
  rintro e w3 ⟨y, rfl, y0, y1, hw, hs⟩
  have HO3 := Lib.hid (HO2.out.keep (hw.block _ HO2.out.lt (by omega)))
  have HS3 := Lib.hid hs
  clear hw hs HS2 HO2 HP
  obtain ⟨X, hX⟩ : ∃ X : Nat, 1 + x = X := ⟨(1 + x).toNat, by omega⟩
  obtain ⟨Y, hY⟩ : ∃ Y : Nat, 1 + y = Y := ⟨(1 + y).toNat, by omega⟩
  have HD := Lib.hid (drawPicture_any w W0.heap.size _ X Y w3 (by omega) (by omega) (by omega) (by omega) (by omega) HS3.out)
  have hb : 1 ≤ X ∧ X ≤ 7 ∧ 1 ≤ Y ∧ Y ≤ 7 := by omega
  have HB := Lib.hid hb
  clear hb x0 x1 y0 y1
  go_wp2_with fail
  rw [show wrap64 (Y : Int) = (Y : Int) from by unfold wrap64; have := HB.out; omega]
  clear hX hY
  refine HD.out.mono ?_
  rintro e w4 ⟨a4, c4, l, hl, rfl, hw, hs, ho⟩
  have ho := GrowOf.own ByteArray.empty ho
  have HX4 : Hid (w.Ext w4) := hs.x
  have hlen := picRows_len X Y l
  obtain ⟨r1, r2, r3, HR⟩ := Res.store (lo := w3.heap.size) (.slice a4 Y c4) HX4.out (Nat.le_refl _) (HO3.out.keep (hw.block _ HO3.out.lt (by omega))) HO3.out.lt ho
  have HQ : Hid (PicIn 7 (picRows X Y l)) := ⟨picOk_rows HB.out.1 (by have := HB.out; omega) HB.out.2.2.1 (by have := HB.out; omega) hl, by rw [hlen]; exact HB.out.2.2.2, by rw [picW_rows (by have := HB.out; omega) hl]; exact HB.out.2.1⟩
  have HLEN := Lib.hid hlen
  clear hw hs ho hl HS3 HO3 HD hlen
  go_wp2
  exact bodyPost_ret (v := .agg #[.slice a4 Y c4]) (by simp [results, Try.results28, go_sem, r3]) rfl ⟨a4, c4, picRows X Y l, by rw [HLEN.out], HQ.out, HR.out.1, HR.out.2⟩
set_option maxRecDepth 5000 in
theorem pic8_any (a : Option Addr) (c : Nat) (zs : List Int) (w : World) (h : CodeAt w a zs) :
    Calls Try.prog 38 #[.slice a zs.length c] w (NewPic w (PicIn 8)) := by
  obtain ⟨W0, hW0⟩ : ∃ W0, W0 = w.alloc (.cells #[.slice none 0 0] 38) := ⟨_, rfl⟩
  have hx0 : w.Ext W0 := by rw [hW0]; repeat (first | exact World.Ext.refl _ | exact ⟨_, rfl⟩ | assumption | refine World.Ext.over ?_ _ | refine World.Ext.drewN ?_ _ | refine World.Ext.drew ?_ | refine World.Ext.alloc ?_ _ | refine World.Ext.setCell ?_ (by simp) _)
  have hone : One W0 w.heap.size 38 (.slice none 0 0) := by rw [hW0]; exact One.new _ _ _ _ rfl
  have hlt := hone.lt
  have HF := Lib.hid (from_any a c zs w W0 hx0 h)
  have HP : Hid (∀ w' n' N, n' ≤ 2000000 → SrcSt w W0.heap.size n' w' → Calls Try.prog 73 #[.pointer (some ⟨W0.heap.size, 0, none⟩), .int .i64 N] w' (PickRet w W0.heap.size (n' + 2) w' N)) := fun w' n' N h1 h2 => pick_any w W0.heap.size n' N w' (by omega) h2
  have HONE := Lib.hid hone
  clear hone h
  go_enter Try.func38, Try.ntmps38
  go_wp2_with fail
  rw [← hW0]
  clear hW0
  refine HF.out.mono ?_
  rintro e w1 ⟨rfl, hx1, hs⟩
  have HS1 := Lib.hid hs
  have HO1 := Lib.hid (HONE.out.ext hx1)
  clear hx1 hs HF HONE
  go_wp2_with fail
  refine (HP.out w1 _ _ (by omega) HS1.out).mono ?_
  rintro e w2 ⟨x, rfl, x0, x1, hw, hs⟩
  have HO2 := Lib.hid (HO1.out.keep (hw.block _ HO1.out.lt (by omega)))
  have HS2 := Lib.hid hs
  clear hw hs HS1 HO1
  go_wp2_with fail
  refine (HP.out w2 _ _ (by omega) HS2.out).mono ?_
  rintro e w3 ⟨y, rfl, y0, y1, hw, hs⟩
  have HO3 := Lib.hid (HO2.out.keep (hw.block _ HO2.out.lt (by omega)))
  have HS3 := Lib.hid hs
  clear hw hs HS2 HO2 HP
  obtain ⟨X, hX⟩ : ∃ X : Nat, 1 + x = X := ⟨(1 + x).toNat, by omega⟩
  obtain ⟨Y, hY⟩ : ∃ Y : Nat, 1 + y = Y := ⟨(1 + y).toNat, by omega⟩
  have HD := Lib.hid (drawPicture_any w W0.heap.size _ X Y w3 (by omega) (by omega) (by omega) (by omega) (by omega) HS3.out)
  have hb : 1 ≤ X ∧ X ≤ 8 ∧ 1 ≤ Y ∧ Y ≤ 8 := by omega
  have HB := Lib.hid hb
  clear hb x0 x1 y0 y1
  go_wp2_with fail
  rw [show wrap64 (Y : Int) = (Y : Int) from by unfold wrap64; have := HB.out; omega]
  clear hX hY
  refine HD.out.mono ?_
  rintro e w4 ⟨a4, c4, l, hl, rfl, hw, hs, ho⟩
  have ho := GrowOf.own ByteArray.empty ho
  have HX4 : Hid (w.Ext w4) := hs.x
  have hlen := picRows_len X Y l
  obtain ⟨r1, r2, r3, HR⟩ := Res.store (lo := w3.heap.size) (.slice a4 Y c4) HX4.out (Nat.le_refl _) (HO3.out.keep (hw.block _ HO3.out.lt (by omega))) HO3.out.lt ho
  have HQ : Hid (PicIn 8 (picRows X Y l)) := ⟨picOk_rows HB.out.1 (by have := HB.out; omega) HB.out.2.2.1 (by have := HB.out; omega) hl, by rw [hlen]; exact HB.out.2.2.2, by rw [picW_rows (by have := HB.out; omega) hl]; exact HB.out.2.1⟩
  have HLEN := Lib.hid hlen
  clear hw hs ho hl HS3 HO3 HD hlen
  go_wp2
  exact bodyPost_ret (v := .agg #[.slice a4 Y c4]) (by simp [results, Try.results38, go_sem, r3]) rfl ⟨a4, c4, picRows X Y l, by rw [HLEN.out], HQ.out, HR.out.1, HR.out.2⟩
def PixRet (w : World) (px : Bool) (e : Ending) (w' : World) : Prop := ∃ b ok : Bool, e = .returned (.tuple #[.bool b, .bool ok]) ∧ w.Ext w' ∧ (b && ok) = px
set_option maxRecDepth 5000 in
theorem pixelAt_any (a : Option Addr) (c : Nat) (ss : List ByteArray) (x y : Int) (w : World) (hb : PicBnd ss) (hm : RowS w a ss) :
    Calls Try.prog 100 #[.agg #[.slice a ss.length c], .int .i64 x, .int .i64 y] w (PixRet w (picOk ss && pxl (picW ss) ss.length (picL ss) x y)) := by
  obtain ⟨W0, hW0⟩ : ∃ W0, W0 = w.alloc (.cells #[.slice a ss.length c] 38) := ⟨_, rfl⟩
  have hx0 : w.Ext W0 := by rw [hW0]; repeat (first | exact World.Ext.refl _ | exact ⟨_, rfl⟩ | assumption | refine World.Ext.over ?_ _ | refine World.Ext.drewN ?_ _ | refine World.Ext.drew ?_ | refine World.Ext.alloc ?_ _ | refine World.Ext.setCell ?_ (by simp) _)
  have d0 : W0.cell? ⟨w.heap.size, 0, none⟩ = some (.slice a ss.length c) := by rw [hW0]; simp [go_sem]
  have HI := Lib.hid (l01Is_any w.heap.size a c ss W0 hb.1 hb.2 d0 (RowOf.ext hm hx0) _ rfl)
  have HX0 := Lib.hid hx0
  cases hok : picOk ss
  · rw [hok] at HI
    clear hb hm d0 hx0 hok
    go_enter Try.func100, Try.ntmps100
    go_wp2_with fail
    rw [← hW0]
    clear hW0
    refine HI.out.mono ?_
    rintro e w1 ⟨rfl, hx1⟩
    have HX1 := Lib.hid (HX0.out.trans hx1)
    clear hx1 HX0
    go_wp2
    exact bodyPost_ret (v := .tuple #[.bool false, .bool false]) (by simp [results, Try.results100, go_sem]) rfl ⟨false, false, rfl, HX1.out, rfl⟩
  · rw [hok] at HI
    obtain ⟨v1, v2, v3, v4, v5, -⟩ := picOk_spec hok
    have HHS : Hid (∀ w', W0.Ext w' → Calls Try.prog 193 #[.pointer (some ⟨w.heap.size, 0, none⟩), .int .i64 x, .int .i64 y] w' fun e w'' => e = .returned (.bool (hasB (picW ss) ss.length x y)) ∧ w'.Ext w'') := fun w' hx => l01Has_any w.heap.size a c ss x y w' (by omega) (by omega) (by omega) (hx.cell d0) ((RowOf.ext hm hx0).ext hx) _ rfl
    have HBK : Hid (∀ w', W0.Ext w' → Calls Try.prog 194 #[.pointer (some ⟨w.heap.size, 0, none⟩), .int .i64 x, .int .i64 y] w' fun e w'' => e = .returned (.bool (pxl (picW ss) ss.length (picL ss) x y)) ∧ w'.Ext w'') := fun w' hx => l01Black_any w.heap.size a c ss x y w' v5 (by omega) (by omega) (hx.cell d0) ((RowOf.ext hm hx0).ext hx) _ rfl
    have HOUT := Lib.hid (pxl_out (W := picW ss) (H := ss.length) (l := picL ss) (x := x) (y := y))
    clear hb hm d0 hx0 hok v5
    generalize pxl (picW ss) ss.length (picL ss) x y = px at *
    cases hh : hasB (picW ss) ss.length x y
    · rw [hh] at HHS HOUT
      have hpx := HOUT.out rfl
      subst hpx
      clear hh HOUT
      go_enter Try.func100, Try.ntmps100
      go_wp2_with fail
      rw [← hW0]
      clear hW0
      refine HI.out.mono ?_
      rintro e w1 ⟨rfl, hx1⟩
      go_wp2_with fail
      refine (HHS.out w1 hx1).mono ?_
      rintro e w2 ⟨rfl, hx2⟩
      have HX1 := Lib.hid (HX0.out.trans (hx1.trans hx2))
      clear hx1 hx2 HX0
      go_wp2
      exact bodyPost_ret (v := .tuple #[.bool false, .bool false]) (by simp [results, Try.results100, go_sem]) rfl ⟨false, false, rfl, HX1.out, rfl⟩
    · rw [hh] at HHS
      clear hh HOUT
      go_enter Try.func100, Try.ntmps100
      go_wp2_with fail
      rw [← hW0]
      clear hW0
      refine HI.out.mono ?_
      rintro e w1 ⟨rfl, hx1⟩
      go_wp2_with fail
      refine (HHS.out w1 hx1).mono ?_
      rintro e w2 ⟨rfl, hx2⟩
      go_wp2_with fail
      refine (HBK.out w2 (hx1.trans hx2)).mono ?_
      rintro e w3 ⟨rfl, hx3⟩
      have HX1 := Lib.hid (HX0.out.trans ((hx1.trans hx2).trans hx3))
      clear hx1 hx2 HX0 hx3
      go_wp2
      exact bodyPost_ret (v := .tuple #[.bool px, .bool true]) (by simp [results, Try.results100, go_sem]) rfl ⟨px, true, rfl, HX1.out, by simp⟩
theorem b10Black_any (a : Option Addr) (c : Nat) (ss : List ByteArray) (x y : Int) (w : World) (hok : picOk ss = true) (hb : PicBnd ss) (hm : RowS w a ss) :
    Calls Try.prog 29 #[.agg #[.slice a ss.length c], .int .i64 x, .int .i64 y] w fun e w' => e = .returned (.bool (pxl (picW ss) ss.length (picL ss) x y)) ∧ w.Ext w' := by
  obtain ⟨W0, hW0⟩ : ∃ W0, W0 = w.alloc (.cells #[.slice a ss.length c] 38) := ⟨_, rfl⟩
  have hx0 : w.Ext W0 := by rw [hW0]; repeat (first | exact World.Ext.refl _ | exact ⟨_, rfl⟩ | assumption | refine World.Ext.over ?_ _ | refine World.Ext.drewN ?_ _ | refine World.Ext.drew ?_ | refine World.Ext.alloc ?_ _ | refine World.Ext.setCell ?_ (by simp) _)
  have HP := Lib.hid (pixelAt_any a c ss x y W0 hb (RowOf.ext hm hx0))
  rw [hok, Bool.true_and] at HP
  have HX0 := Lib.hid hx0
  clear hx0 hm hb hok
  generalize pxl (picW ss) ss.length (picL ss) x y = px at *
  go_enter Try.func29, Try.ntmps29
  go_wp2_with fail
  rw [← hW0]
  clear hW0
  refine HP.out.mono ?_
  rintro e w1 ⟨b, ok, rfl, hx1, h⟩
  have HX1 := Lib.hid (HX0.out.trans hx1)
  clear hx1 HP
  cases ok
  · rw [Bool.and_false] at h
    subst h
    go_wp2
    go_ret
    exact ⟨rfl, HX1.out⟩
  · rw [Bool.and_true] at h
    subst h
    go_wp2
    go_ret
    exact ⟨rfl, HX1.out⟩
def LongRet (w : World) (m n n2 : Nat) (e : Ending) (w' : World) : Prop := ∃ t : Bool, e = .returned (.bool t) ∧ w.Ext w' ∧ (t = false → n ≤ m ∧ n2 ≤ m)
theorem long_any (a : Option Addr) (n c : Nat) (a2 : Option Addr) (n2 c2 : Nat) (w : World) (_ : n ≤ maxLen) (_ : n2 ≤ maxLen) :
    Calls Try.prog 12 #[.slice a n c, .slice a2 n2 c2] w (LongRet w 1048576 n n2) := by
  by_cases h1 : n ≤ 1048576
  · have h1' : ¬ (1048576 : Int) < (n : Int) := by omega
    by_cases h2 : n2 ≤ 1048576
    · have h2' : ¬ (1048576 : Int) < (n2 : Int) := by omega
      go_enter Try.func12, Try.ntmps12
      go_wp2
      go_ret
      exact ⟨false, rfl, .refl _, fun _ => ⟨h1, h2⟩⟩
    · have h2' : (1048576 : Int) < (n2 : Int) := by omega
      go_enter Try.func12, Try.ntmps12
      go_wp2
      go_ret
      exact ⟨true, rfl, .refl _, fun h => by cases h⟩
  · have h1' : (1048576 : Int) < (n : Int) := by omega
    go_enter Try.func12, Try.ntmps12
    go_wp2
    go_ret
    exact ⟨true, rfl, .refl _, fun h => by cases h⟩
theorem longR_any (a : Option Addr) (n c : Nat) (a2 : Option Addr) (n2 c2 : Nat) (w : World) (_ : n ≤ maxLen) (_ : n2 ≤ maxLen) :
    Calls Try.prog 20 #[.slice a n c, .slice a2 n2 c2] w (LongRet w 48 n n2) := by
  by_cases h1 : n ≤ 48
  · have h1' : ¬ (48 : Int) < (n : Int) := by omega
    by_cases h2 : n2 ≤ 48
    · have h2' : ¬ (48 : Int) < (n2 : Int) := by omega
      go_enter Try.func20, Try.ntmps20
      go_wp2
      go_ret
      exact ⟨false, rfl, .refl _, fun _ => ⟨h1, h2⟩⟩
    · have h2' : (48 : Int) < (n2 : Int) := by omega
      go_enter Try.func20, Try.ntmps20
      go_wp2
      go_ret
      exact ⟨true, rfl, .refl _, fun h => by cases h⟩
  · have h1' : (48 : Int) < (n : Int) := by omega
    go_enter Try.func20, Try.ntmps20
    go_wp2
    go_ret
    exact ⟨true, rfl, .refl _, fun h => by cases h⟩
def b10AtV (zs : List Int) (i n : Int) : Int := if n ≤ 1 then 0 else if i < zs.length then zs.getD i.toNat 0 % n else (i * 37 + 11) % n
theorem b10At_any (a : Option Addr) (c : Nat) (zs : List Int) (i : Nat) (n : Int) (w : World) (hi : i ≤ 1000) (h : CodeAt w a zs) :
    Calls Try.prog 56 #[.slice a zs.length c, .int .i64 i, .int .i64 n] w fun e w' => ∃ r : Int, e = .returned (.int .i64 r) ∧ w.Ext w' ∧ 0 ≤ r ∧ (r < n ∨ r = 0) := by
  by_cases h1 : n ≤ 1
  · go_enter Try.func56, Try.ntmps56
    go_wp2
    go_ret
    exact ⟨0, rfl, .refl _, by omega, .inr rfl⟩
  · have h1' : 1 < n := by omega
    by_cases h2 : i < zs.length
    · have h2' : (i : Int) < (zs.length : Int) := by omega
      obtain ⟨b, o, rfl, hc⟩ := h.1 i h2
      obtain ⟨z0, z1⟩ := h.2.1 _ (getD_memZ h2)
      have hl := h.2.2
      clear h
      generalize zs.getD i 0 = z at hc z0 z1
      have HM : Hid (0 ≤ z % n ∧ z % n < n) := ⟨Int.emod_nonneg _ (by omega), Int.emod_lt_of_pos _ (by omega)⟩
      go_enter Try.func56, Try.ntmps56
      go_wp2
      go_ret
      exact ⟨_, rfl, .refl _, HM.out.1, .inl HM.out.2⟩
    · have h2' : ¬ (i : Int) < (zs.length : Int) := by omega
      have HM : Hid (0 ≤ ((i : Int) * 37 + 11) % n ∧ ((i : Int) * 37 + 11) % n < n) := ⟨Int.emod_nonneg _ (by omega), Int.emod_lt_of_pos _ (by omega)⟩
      have hl := h.2.2
      clear h
      go_enter Try.func56, Try.ntmps56
      go_wp2
      go_ret
      exact ⟨_, rfl, .refl _, HM.out.1, .inl HM.out.2⟩
end Go.Proofs.Ytmmanehdmnkekaa
