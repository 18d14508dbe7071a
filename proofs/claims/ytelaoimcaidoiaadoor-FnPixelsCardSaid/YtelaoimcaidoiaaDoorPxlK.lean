/- FnPixels: what its functions tell, in one form. -/
import Derived.Test.YtelaoimcaidoiaaDoorPxlP
import Derived.Test.YtelaoimcaidoiaaDoorPxlD
import Derived.Test.YtelaoimcaidoiaaDoorJoinF
namespace Go.Proofs.YtelaoimcaidoiaaDoor
open Go Go.RowKit
/-- A drawn picture, its room told. -/
def NewPicC (w : World) (P : List ByteArray → Prop) (e : Ending) (w' : World) : Prop :=
  ∃ (a : Option Addr) (c : Nat) (ss : List ByteArray), e = .returned (.agg #[.slice a ss.length c]) ∧ P ss ∧ ss.length ≤ c ∧ w.Ext w' ∧ OwnOf Value.string ByteArray.empty w.heap.size w'.heap.size w' a ss
set_option maxRecDepth 5000 in
theorem pic7C_any (a : Option Addr) (c : Nat) (zs : List Int) (w : World) (h : CodeAt w a zs) :
    Calls Tryd.prog 5 #[.slice a zs.length c] w (NewPicC w (PicIn 7)) := by
  obtain ⟨W0, hW0⟩ : ∃ W0, W0 = w.alloc (.cells #[.slice none 0 0] 26) := ⟨_, rfl⟩
  have hx0 : w.Ext W0 := by rw [hW0]; repeat (first | exact World.Ext.refl _ | exact ⟨_, rfl⟩ | assumption | refine World.Ext.over ?_ _ | refine World.Ext.drewN ?_ _ | refine World.Ext.drew ?_ | refine World.Ext.alloc ?_ _ | refine World.Ext.setCell ?_ (by simp) _)
  have hone : One W0 w.heap.size 26 (.slice none 0 0) := by rw [hW0]; exact One.new _ _ _ _ rfl
  have hlt := hone.lt
  have HF := Lib.hid (from_any a c zs w W0 hx0 h)
  have HP : Hid (∀ w' n' N, n' ≤ 2000000 → SrcSt w W0.heap.size n' w' → Calls Tryd.prog 21 #[.pointer (some ⟨W0.heap.size, 0, none⟩), .int .i64 N] w' (PickRet w W0.heap.size (n' + 2) w' N)) := fun w' n' N h1 h2 => pick_any w W0.heap.size n' N w' (by omega) h2
  have HONE := Lib.hid hone
  clear hone h
  go_enter Tryd.func5, Tryd.ntmps5
  go_wp2_with fail
  rw [← hW0]
  clear hW0
  refine HF.out.mono ?_
  rintro e w1 ⟨rfl, hx1, hs⟩
  have HS1 := Lib.hid hs
  have HO1 := Lib.hid (HONE.out.ext hx1)
  clear hx1 hs HF HONE
  go_wp2_with fail
  refine (HP.out w1 _ _ (by omega) HS1.out).mono ?_
  rintro e w2 ⟨x, rfl, x0, x1, hw, hs⟩
  have HO2 := Lib.hid (HO1.out.keep (hw.block _ HO1.out.lt (by omega)))
  have HS2 := Lib.hid hs
  clear hw hs HS1 HO1
  go_wp2_with fail
  refine (HP.out w2 _ _ (by omega) HS2.out).mono ?_
  rintro e w3 ⟨y, rfl, y0, y1, hw, hs⟩
  have HO3 := Lib.hid (HO2.out.keep (hw.block _ HO2.out.lt (by omega)))
  have HS3 := Lib.hid hs
  clear hw hs HS2 HO2 HP
  obtain ⟨X, hX⟩ : ∃ X : Nat, 1 + x = X := ⟨(1 + x).toNat, by omega⟩
  obtain ⟨Y, hY⟩ : ∃ Y : Nat, 1 + y = Y := ⟨(1 + y).toNat, by omega⟩
  have HD := Lib.hid (drawPicture_any w W0.heap.size _ X Y w3 (by omega) (by omega) (by omega) (by omega) (by omega) HS3.out)
  have hb : 1 ≤ X ∧ X ≤ 7 ∧ 1 ≤ Y ∧ Y ≤ 7 := by omega
  have HB := Lib.hid hb
  clear hb x0 x1 y0 y1
  go_wp2_with fail
  rw [show wrap64 (Y : Int) = (Y : Int) from by unfold wrap64; have := HB.out; omega]
  clear hX hY
  refine HD.out.mono ?_
  rintro e w4 ⟨a4, c4, l, hl, rfl, hw, hs, ho⟩
  have hlen := picRows_len X Y l
  have hcp : Y ≤ c4 := by
    obtain ⟨a', cap, e, hcap⟩ := ho.form
    rw [hlen] at e hcap
    cases e
    exact hcap
  have ho := GrowOf.own ByteArray.empty ho
  have HX4 : Hid (w.Ext w4) := hs.x
  obtain ⟨r1, r2, r3, HR⟩ := Res.store (lo := w3.heap.size) (.slice a4 Y c4) HX4.out (Nat.le_refl _) (HO3.out.keep (hw.block _ HO3.out.lt (by omega))) HO3.out.lt ho
  have HQ : Hid (PicIn 7 (picRows X Y l)) := ⟨picOk_rows HB.out.1 (by have := HB.out; omega) HB.out.2.2.1 (by have := HB.out; omega) hl, by rw [hlen]; exact HB.out.2.2.2, by rw [picW_rows (by have := HB.out; omega) hl]; exact HB.out.2.1⟩
  have HLEN := Lib.hid hlen
  have HCP := Lib.hid hcp
  clear hw hs ho hl HS3 HO3 HD hlen hcp
  go_wp2
  exact bodyPost_ret (v := .agg #[.slice a4 Y c4]) (by simp [results, Tryd.results5, go_sem, r3]) rfl ⟨a4, c4, picRows X Y l, by rw [HLEN.out], HQ.out, by rw [HLEN.out]; exact HCP.out, HR.out.1, HR.out.2⟩
def PicK (w : World) (H : Nat) (R : List ByteArray) (e : Ending) (w' : World) : Prop := ∃ a c, e = .returned (.tuple #[.agg #[.slice a H c], .bool true]) ∧ w.Ext w' ∧ RowS w' a R
theorem PicK.of {w w' : World} {H : Nat} {R : List ByteArray} {e : Ending} (hH : R.length = H) (h : PicRet2 w R true e w') : PicK w H R e w' := by
  subst hH
  obtain ⟨a, c, e, hx, ho⟩ := h
  exact ⟨a, c, e, hx, ho.row⟩
theorem turnK {W H : Nat} {R : List ByteArray} (hR : PicOf W H R) (k : Nat) (a : Option Addr) (c : Nat) (w : World) (hk : k < 4) (hm : RowS w a R) :
    Calls Tryd.prog 15 #[.agg #[.slice a H c], .int .i64 k] w (PicK w (trW k H W) (trnP k R)) := by
  have h := turnPic_any a c R k w hk hR.1 hm
  rw [hR.2.1] at h
  exact h.mono fun e w' h => PicK.of (trn_pic hR k).1.2.1 h
theorem shiftK {W H : Nat} {R : List ByteArray} (hR : PicOf W H R) (dx dy : Int) (a : Option Addr) (c : Nat) (w : World) (hd : -16 ≤ dx ∧ dx ≤ 16 ∧ -16 ≤ dy ∧ dy ≤ 16) (hm : RowS w a R) :
    Calls Tryd.prog 17 #[.agg #[.slice a H c], .int .i64 dx, .int .i64 dy] w (PicK w H (shP dx dy R)) := by
  have h := shiftPic_any a c R dx dy w hd hR.1 hm
  rw [hR.2.1] at h
  exact h.mono fun e w' h => PicK.of (sh_pic hR dx dy).1.2.1 h
theorem cropK {W H : Nat} {R : List ByteArray} (hR : PicOf W H R) (fx fy V U : Nat) (a : Option Addr) (c : Nat) (w : World) (hv : 1 ≤ V ∧ 1 ≤ U) (hf : fx + V ≤ W ∧ fy + U ≤ H) (hm : RowS w a R) :
    Calls Tryd.prog 18 #[.agg #[.slice a H c], .agg #[.int .i64 fx, .int .i64 fy], .int .i64 V, .int .i64 U] w (PicK w U (crP fx fy V U R)) := by
  have h := cropPic_any a c R fx fy V U w hv (by rw [hR.2.1, hR.2.2]; exact hf) hR.1 hm
  rw [hR.2.1] at h
  exact h.mono fun e w' h => PicK.of (by unfold crP; exact picRows_len _ _ _) h
theorem sameK {W H : Nat} {R : List ByteArray} (hR : PicOf W H R) (a b : Option Addr) (c d : Nat) (w : World) (ha : RowS w a R) (hb : RowS w b R) :
    Calls Tryd.prog 12 #[.agg #[.slice a H c], .agg #[.slice b H d]] w fun e w' => e = .returned (.bool true) ∧ w.Ext w' := by
  obtain ⟨v1, v2, -⟩ := picOk_spec hR.1
  have h := b10Same_any a b c d R R w (by omega) ha hb
  rw [decide_eq_true rfl, decide_eq_true (show 0 < R.length by omega), hR.2.1] at h
  exact h
theorem blackK {W H : Nat} {R : List ByteArray} (hR : PicOf W H R) (x y : Int) (a : Option Addr) (c : Nat) (w : World) (hm : RowS w a R) :
    Calls Tryd.prog 14 #[.agg #[.slice a H c], .int .i64 x, .int .i64 y] w fun e w' => e = .returned (.bool (pxl W H (picL R) x y)) ∧ w.Ext w' := by
  have h := b10Black_any a c R x y w hR.1 (pic_bnd hR.1) hm
  rw [hR.2.1, hR.2.2] at h
  exact h
theorem insideK {W H : Nat} {R S : List ByteArray} (hR : PicOf W H R) (hS : PicOf W H S) (hi' : ∀ x y : Nat, x < W → y < H → pxl W H (picL R) x y = true → pxl W H (picL S) x y = true) (a b : Option Addr) (c d : Nat) (w : World) (ha : RowS w a R) (hb : RowS w b S) :
    Calls Tryd.prog 19 #[.agg #[.slice a H c], .agg #[.slice b H d]] w fun e w' => e = .returned (.bool true) ∧ w.Ext w' := by
  obtain ⟨h1, h2, h3⟩ := hR
  obtain ⟨g1, g2, g3⟩ := hS
  have h := implInside_any a c R b d S w (pic_bnd h1) (pic_bnd g1) ha hb
  have hl : likeP R S = true := by
    unfold likeP
    rw [h1, g1, h2, h3, g2, g3]
    simp
  have hin : insB (picL R) (picL S) = true := by
    obtain ⟨v1, v2, v3, v4, v5, -⟩ := picOk_spec h1
    have hl := picL_len v5
    rw [h2, h3] at hl
    unfold insB
    rw [List.all_eq_true]
    intro i hi
    rw [List.mem_range, hl] at hi
    have hW : 0 < W := by omega
    have hx : i % W < W := Nat.mod_lt _ hW
    have hy : i / W < H := by rw [Nat.div_lt_iff_lt_mul hW]; exact hi
    have he : i / W * W + i % W = i := by rw [Nat.mul_comm]; exact Nat.div_add_mod i W
    have h5 := hi' (i % W) (i / W) hx hy
    rw [pxl_at _ _ _ _ _ hx hy, pxl_at _ _ _ _ _ hx hy, he] at h5
    cases h6 : (picL R).getD i false
    · rfl
    · rw [h5 h6]
      rfl
  rw [hl, hin, h2, g2] at h
  exact h
theorem boxRet_one {w w' : World} {ps : List (Int × Int)} {e : Ending} (h : BoxRet w ps e w') : ∃ lx ly hx hy, e = .returned (.tuple #[.agg #[.int .i64 lx, .int .i64 ly], .agg #[.int .i64 hx, .int .i64 hy], .bool (decide (0 < (ps.length : Int)))]) ∧ w.Ext w' ∧ (0 < ps.length → BoxIs ps ps.length lx ly hx hy) := by
  rcases h with ⟨h0, rfl, hx⟩ | ⟨h0, lx, ly, hx, hy, rfl, hx', hB⟩
  · exact ⟨0, 0, 0, 0, by rw [decide_eq_false (by omega)], hx, fun h => by omega⟩
  · exact ⟨lx, ly, hx, hy, by rw [decide_eq_true (by omega)], hx', fun _ => hB⟩
/-- Which sides were touched, as a number. -/
def tV (a b c d : Bool) : Int := (if a then 1 else 0) + (if b then 2 else 0) + (if c then 4 else 0) + (if d then 8 else 0)
theorem tV_or (a b c d : Bool) : bits .or .i64 (tV a b c d) 1 = tV true b c d ∧ bits .or .i64 (tV a b c d) 2 = tV a true c d ∧ bits .or .i64 (tV a b c d) 4 = tV a b true d ∧ bits .or .i64 (tV a b c d) 8 = tV a b c true := by
  cases a <;> cases b <;> cases c <;> cases d <;> decide
def anyT (p : Int × Int → Bool) (ps : List (Int × Int)) (k : Nat) : Bool := (ps.take k).any p
theorem anyT_next {p : Int × Int → Bool} {ps : List (Int × Int)} {k : Nat} (hk : k < ps.length) : anyT p ps (k + 1) = (anyT p ps k || p (ps.getD k (0, 0))) := any_take hk
theorem anyT_all {p : Int × Int → Bool} {ps : List (Int × Int)} (h : ∃ i, i < ps.length ∧ p (ps.getD i (0, 0)) = true) : anyT p ps ps.length = true := by
  obtain ⟨i, hi, hp⟩ := h
  unfold anyT
  rw [List.take_length, List.any_eq_true]
  refine ⟨ps.getD i (0, 0), ?_, hp⟩
  rw [List.getD_eq_getElem?_getD, List.getElem?_eq_getElem hi]
  exact List.getElem_mem _
/-- The spots make the picture. -/
theorem made_of {W H : Nat} {ss : List ByteArray} (h : PicOf W H ss) : picRows W H (mkl W H (inL (spotsTo W (picL ss) (H * W)))) = ss := self_of h fun x y hx hy => by
  unfold inL
  cases hp : pxl W H (picL ss) x y
  · rw [decide_eq_false_iff_not, spotsTo_mem]
    unfold pxP
    rw [hp]
    decide
  · rw [decide_eq_true_eq, spotsTo_mem]
    exact hp
theorem spots_in {W H : Nat} {l : List Bool} {q : Int × Int} (h : q ∈ spotsTo W l (H * W)) : 0 ≤ q.1 ∧ q.1 < W ∧ 0 ≤ q.2 ∧ q.2 < H := pxl_inP (spotsTo_mem.1 h)
end Go.Proofs.YtelaoimcaidoiaaDoor
