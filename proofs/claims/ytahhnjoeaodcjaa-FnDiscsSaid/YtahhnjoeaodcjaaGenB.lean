/- What the laws of the tenth workplace draw, and their small helpers. -/
import Derived.Test.YtahhnjoeaodcjaaGenD
import Derived.Test.YtahhnjoeaodcjaaRecP
namespace Go.Proofs.Ytahhnjoeaodcjaa
open Go Go.RowKit
theorem rowGood_row {W : Nat} {l : List Bool} (h : l.length = W) : rowGood W (rowStr l) = true := by
  unfold rowGood
  rw [rowStr_size, h, decide_eq_true rfl, Bool.true_and, List.all_eq_true]
  intro x hx
  unfold rowStr at hx
  rw [strOfNums_data] at hx
  obtain ⟨z, hz, rfl⟩ := List.mem_map.1 hx
  obtain ⟨b, -, rfl⟩ := List.mem_map.1 hz
  cases b <;> rfl
theorem picOk_rows {W H : Nat} {l : List Bool} (hW1 : 1 ≤ W) (hW2 : W ≤ 16) (hH1 : 1 ≤ H) (hH2 : H ≤ 16) (hl : l.length = W * H) : picOk (picRows W H l) = true := by
  unfold picOk
  rw [picW_rows (by omega) hl, picRows_len, inB_true.2 (by omega), inB_true.2 (by omega), Bool.true_and, Bool.true_and, List.all_eq_true]
  intro s hs
  unfold picRows at hs
  obtain ⟨y, hy, rfl⟩ := List.mem_map.1 hs
  exact rowGood_row (rowAt_len W H l y hl (List.mem_range.1 hy))
/-- A new picture with a property is returned. -/
def NewPic (w : World) (P : List ByteArray → Prop) (e : Ending) (w' : World) : Prop :=
  ∃ (a : Option Addr) (c : Nat) (ss : List ByteArray), e = .returned (.agg #[.slice a ss.length c]) ∧ P ss ∧ w.Ext w' ∧ OwnOf Value.string ByteArray.empty w.heap.size w'.heap.size w' a ss
def PicIn (n : Nat) (ss : List ByteArray) : Prop := picOk ss = true ∧ ss.length ≤ n ∧ picW ss ≤ n
def PicOf (W H : Nat) (ss : List ByteArray) : Prop := picOk ss = true ∧ ss.length = H ∧ picW ss = W
set_option maxRecDepth 5000 in
theorem pic8_any (a : Option Addr) (c : Nat) (zs : List Int) (w : World) (h : CodeAt w a zs) :
    Calls Try.prog 65 #[.slice a zs.length c] w (NewPic w (PicIn 8)) := by
  obtain ⟨W0, hW0⟩ : ∃ W0, W0 = w.alloc (.cells #[.slice none 0 0] 26) := ⟨_, rfl⟩
  have hx0 : w.Ext W0 := by rw [hW0]; repeat (first | exact World.Ext.refl _ | exact ⟨_, rfl⟩ | assumption | refine World.Ext.over ?_ _ | refine World.Ext.drewN ?_ _ | refine World.Ext.drew ?_ | refine World.Ext.alloc ?_ _ | refine World.Ext.setCell ?_ (by simp) _)
  have hone : One W0 w.heap.size 26 (.slice none 0 0) := by rw [hW0]; exact One.new _ _ _ _ rfl
  have hlt := hone.lt
  have HF := Lib.hid (from_any a c zs w W0 hx0 h)
  have HP : Hid (∀ w' n' N, n' ≤ 2000000 → SrcSt w W0.heap.size n' w' → Calls Try.prog 161 #[.pointer (some ⟨W0.heap.size, 0, none⟩), .int .i64 N] w' (PickRet w W0.heap.size (n' + 2) w' N)) := fun w' n' N h1 h2 => pick_any w W0.heap.size n' N w' (by omega) h2
  have HONE := Lib.hid hone
  clear hone h
  go_enter Try.func65, Try.ntmps65
  go_wp2_with fail
  rw [← hW0]
  clear hW0
  refine HF.out.mono ?_
  rintro e w1 ⟨rfl, hx1, hs⟩
  have HS1 := Lib.hid hs
  have HO1 := Lib.hid (HONE.out.ext hx1)
  clear hx1 hs HF HONE
  go_wp2_with fail
  refine (HP.out w1 _ _ (by omega) HS1.out).mono ?_
  rintro e w2 ⟨x, rfl, x0, x1, hw, hs⟩
  have HO2 := Lib.hid (HO1.out.keep (hw.block _ HO1.out.lt (by omega)))
  have HS2 := Lib.hid hs
  clear hw hs HS1 HO1
  go_wp2_with fail
  refine (HP.out w2 _ _ (by omega) HS2.out).mono ?_
  rintro e w3 ⟨y, rfl, y0, y1, hw, hs⟩
  have HO3 := Lib.hid (HO2.out.keep (hw.block _ HO2.out.lt (by omega)))
  have HS3 := Lib.hid hs
  clear hw hs HS2 HO2 HP
  obtain ⟨X, hX⟩ : ∃ X : Nat, 1 + x = X := ⟨(1 + x).toNat, by omega⟩
  obtain ⟨Y, hY⟩ : ∃ Y : Nat, 1 + y = Y := ⟨(1 + y).toNat, by omega⟩
  have HD := Lib.hid (drawPicture_any w W0.heap.size _ X Y w3 (by omega) (by omega) (by omega) (by omega) (by omega) HS3.out)
  have hb : 1 ≤ X ∧ X ≤ 8 ∧ 1 ≤ Y ∧ Y ≤ 8 := by omega
  have HB := Lib.hid hb
  clear hb x0 x1 y0 y1
  go_wp2_with fail
  rw [show wrap64 (Y : Int) = (Y : Int) from by unfold wrap64; have := HB.out; omega]
  clear hX hY
  refine HD.out.mono ?_
  rintro e w4 ⟨a4, c4, l, hl, rfl, hw, hs, ho⟩
  have ho := GrowOf.own ByteArray.empty ho
  have HX4 : Hid (w.Ext w4) := hs.x
  have hlen := picRows_len X Y l
  obtain ⟨r1, r2, r3, HR⟩ := Res.store (lo := w3.heap.size) (.slice a4 Y c4) HX4.out (Nat.le_refl _) (HO3.out.keep (hw.block _ HO3.out.lt (by omega))) HO3.out.lt ho
  have HQ : Hid (PicIn 8 (picRows X Y l)) := ⟨picOk_rows HB.out.1 (by have := HB.out; omega) HB.out.2.2.1 (by have := HB.out; omega) hl, by rw [hlen]; exact HB.out.2.2.2, by rw [picW_rows (by have := HB.out; omega) hl]; exact HB.out.2.1⟩
  have HLEN := Lib.hid hlen
  clear hw hs ho hl HS3 HO3 HD hlen
  go_wp2
  exact bodyPost_ret (v := .agg #[.slice a4 Y c4]) (by simp [results, Try.results65, go_sem, r3]) rfl ⟨a4, c4, picRows X Y l, by rw [HLEN.out], HQ.out, HR.out.1, HR.out.2⟩
def LongRet (w : World) (m n n2 : Nat) (e : Ending) (w' : World) : Prop := ∃ t : Bool, e = .returned (.bool t) ∧ w.Ext w' ∧ (t = false → n ≤ m ∧ n2 ≤ m)
theorem long_any (a : Option Addr) (n c : Nat) (a2 : Option Addr) (n2 c2 : Nat) (w : World) (_ : n ≤ maxLen) (_ : n2 ≤ maxLen) :
    Calls Try.prog 76 #[.slice a n c, .slice a2 n2 c2] w (LongRet w 1048576 n n2) := by
  by_cases h1 : n ≤ 1048576
  · have h1' : ¬ (1048576 : Int) < (n : Int) := by omega
    by_cases h2 : n2 ≤ 1048576
    · have h2' : ¬ (1048576 : Int) < (n2 : Int) := by omega
      go_enter Try.func76, Try.ntmps76
      go_wp2
      go_ret
      exact ⟨false, rfl, .refl _, fun _ => ⟨h1, h2⟩⟩
    · have h2' : (1048576 : Int) < (n2 : Int) := by omega
      go_enter Try.func76, Try.ntmps76
      go_wp2
      go_ret
      exact ⟨true, rfl, .refl _, fun h => by cases h⟩
  · have h1' : (1048576 : Int) < (n : Int) := by omega
    go_enter Try.func76, Try.ntmps76
    go_wp2
    go_ret
    exact ⟨true, rfl, .refl _, fun h => by cases h⟩
theorem longR_any (a : Option Addr) (n c : Nat) (a2 : Option Addr) (n2 c2 : Nat) (w : World) (_ : n ≤ maxLen) (_ : n2 ≤ maxLen) :
    Calls Try.prog 14 #[.slice a n c, .slice a2 n2 c2] w (LongRet w 48 n n2) := by
  by_cases h1 : n ≤ 48
  · have h1' : ¬ (48 : Int) < (n : Int) := by omega
    by_cases h2 : n2 ≤ 48
    · have h2' : ¬ (48 : Int) < (n2 : Int) := by omega
      go_enter Try.func14, Try.ntmps14
      go_wp2
      go_ret
      exact ⟨false, rfl, .refl _, fun _ => ⟨h1, h2⟩⟩
    · have h2' : (48 : Int) < (n2 : Int) := by omega
      go_enter Try.func14, Try.ntmps14
      go_wp2
      go_ret
      exact ⟨true, rfl, .refl _, fun h => by cases h⟩
  · have h1' : (48 : Int) < (n : Int) := by omega
    go_enter Try.func14, Try.ntmps14
    go_wp2
    go_ret
    exact ⟨true, rfl, .refl _, fun h => by cases h⟩
def b10AtV (zs : List Int) (i n : Int) : Int := if n ≤ 1 then 0 else if i < zs.length then zs.getD i.toNat 0 % n else (i * 37 + 11) % n
theorem b10At_any (a : Option Addr) (c : Nat) (zs : List Int) (i : Nat) (n : Int) (w : World) (hi : i ≤ 1000) (h : CodeAt w a zs) :
    Calls Try.prog 84 #[.slice a zs.length c, .int .i64 i, .int .i64 n] w fun e w' => ∃ r : Int, e = .returned (.int .i64 r) ∧ w.Ext w' ∧ 0 ≤ r ∧ (r < n ∨ r = 0) := by
  by_cases h1 : n ≤ 1
  · go_enter Try.func84, Try.ntmps84
    go_wp2
    go_ret
    exact ⟨0, rfl, .refl _, by omega, .inr rfl⟩
  · have h1' : 1 < n := by omega
    by_cases h2 : i < zs.length
    · have h2' : (i : Int) < (zs.length : Int) := by omega
      obtain ⟨b, o, rfl, hc⟩ := h.1 i h2
      obtain ⟨z0, z1⟩ := h.2.1 _ (getD_memZ h2)
      have hl := h.2.2
      clear h
      generalize zs.getD i 0 = z at hc z0 z1
      have HM : Hid (0 ≤ z % n ∧ z % n < n) := ⟨Int.emod_nonneg _ (by omega), Int.emod_lt_of_pos _ (by omega)⟩
      go_enter Try.func84, Try.ntmps84
      go_wp2
      go_ret
      exact ⟨_, rfl, .refl _, HM.out.1, .inl HM.out.2⟩
    · have h2' : ¬ (i : Int) < (zs.length : Int) := by omega
      have HM : Hid (0 ≤ ((i : Int) * 37 + 11) % n ∧ ((i : Int) * 37 + 11) % n < n) := ⟨Int.emod_nonneg _ (by omega), Int.emod_lt_of_pos _ (by omega)⟩
      have hl := h.2.2
      clear h
      go_enter Try.func84, Try.ntmps84
      go_wp2
      go_ret
      exact ⟨_, rfl, .refl _, HM.out.1, .inl HM.out.2⟩
end Go.Proofs.Ytahhnjoeaodcjaa
