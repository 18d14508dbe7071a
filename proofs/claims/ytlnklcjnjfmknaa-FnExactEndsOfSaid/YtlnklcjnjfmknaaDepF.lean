/- DepthsOf and DistancesOf: the reference's and the program's. -/
import Derived.Test.YtlnklcjnjfmknaaDist
import Derived.Test.YtlnklcjnjfmknaaLMat
namespace Go.Proofs.Ytlnklcjnjfmknaa
open Go.RowKit
def optM (ok : Bool) (m : List (List Int)) : List (List Int) := if ok then m else []
/-- A table and whether there is one are returned, in new memory. -/
def MatRet2 (w : World) (m : List (List Int)) (ok : Bool) (e : Ending) (w' : World) : Prop := ∃ a c A C, e = .returned (.tuple #[.slice a m.length c, .bool ok]) ∧ w.Ext w' ∧ OwnMat w.heap.size w'.heap.size w' a A C m
theorem OwnMat.none (lo hi : Nat) (w : World) (a : Option Addr) : OwnMat lo hi w a (fun _ => Option.none) (fun _ => 0) [] := ⟨(fun r hr => by cases hr), (fun r hr => by cases hr), (fun r s b o b' o' hr => by cases hr)⟩
theorem MatRet2.no {w w' : World} (hx : w.Ext w') : MatRet2 w [] false (.returned (.tuple #[.slice none 0 0, .bool false])) w' := ⟨none, 0, _, _, rfl, hx, OwnMat.none _ _ _ _⟩
theorem MatRet2.yes {w w' : World} {m : List (List Int)} {a : Option Addr} {c : Nat} (h : MatRet w m (.returned (.slice a m.length c)) w') : MatRet2 w m true (.returned (.tuple #[.slice a m.length c, .bool true])) w' := by
  obtain ⟨a', c', A, C, e, hx, hm⟩ := h
  simp only [Ending.returned.injEq, Value.slice.injEq, true_and] at e
  obtain ⟨rfl, rfl⟩ := e
  exact ⟨a, c, A, C, rfl, hx, hm.mat (by decide)⟩
theorem offM_le (m : List (List Int)) (n : Nat) (h : ∀ r, r < m.length → (m.getD r []).length ≤ n) : ∀ k, k ≤ m.length → offM m k ≤ k * n
  | 0, _ => by simp [offM]
  | k + 1, hk => by
    have h1 := offM_le m n h k (by omega)
    have h2 := h k (by omega)
    rw [offM, Nat.succ_mul]
    omega
theorem optM_bnd (ok : Bool) (W H : Nat) (g : Nat → Nat → Int) (hW : W ≤ 64) (hH : H ≤ 64) : MatBnd (optM ok (grd W H g)) ∧ offM (optM ok (grd W H g)) (optM ok (grd W H g)).length ≤ 1048576 := by
  have hrow : ∀ r, ((grd W H g).getD r []).length ≤ 64 := fun r => by
    by_cases hr : r < H
    · rw [grd_row hr, grdRow_len]; exact hW
    · rw [List.getD_eq_getElem?_getD, List.getElem?_eq_none (by rw [grd_len]; omega)]; simp
  cases ok
  · refine ⟨⟨by simp [optM], fun r => by simp [optM]⟩, by simp [optM, offM]⟩
  · show MatBnd (grd W H g) ∧ offM (grd W H g) (grd W H g).length ≤ 1048576
    refine ⟨⟨by rw [grd_len]; omega, fun r => Nat.le_trans (hrow r) (by omega)⟩, ?_⟩
    have h := offM_le (grd W H g) 64 (fun r _ => hrow r) (grd W H g).length (Nat.le_refl _)
    rw [grd_len] at h ⊢
    have : H * 64 ≤ 64 * 64 := Nat.mul_le_mul_right 64 hH
    omega
def askOk (ss : List ByteArray) (kind : Int) : Bool := picOk ss && inB kind 0 2
theorem optM_bndA (ss : List ByteArray) (kind : Int) (g : Nat → Nat → Int) (b : Bool) : MatBnd (optM (askOk ss kind && b) (grd (picW ss) ss.length g)) ∧ offM (optM (askOk ss kind && b) (grd (picW ss) ss.length g)) (optM (askOk ss kind && b) (grd (picW ss) ss.length g)).length ≤ 1048576 := by
  cases h : picOk ss
  · have e : (askOk ss kind && b) = false := by unfold askOk; rw [h]; simp
    rw [e]
    exact ⟨⟨by simp [optM], fun r => by simp [optM]⟩, by simp [optM, offM]⟩
  · obtain ⟨q1, q2, q3, q4, _⟩ := picOk_spec h
    exact optM_bnd _ _ _ _ (by omega) (by omega)
set_option maxRecDepth 5000 in
set_option maxHeartbeats 800000 in
theorem specDepthsOf_any (a : Option Addr) (c : Nat) (ss : List ByteArray) (kind : Int) (w : World) (hb : PicBnd ss) (hm : RowS w a ss) :
    Calls Try.prog 16 #[.agg #[.slice a ss.length c], .int .i64 kind] w (MatRet2 w (optM (askOk ss kind) (grd (picW ss) ss.length (depI kind (picW ss) ss.length (picL ss)))) (askOk ss kind)) := by
  obtain ⟨W0, hW0⟩ : ∃ W0, W0 = w.alloc (.cells #[.slice a ss.length c] 29) := ⟨_, rfl⟩
  have hx0 : w.Ext W0 := by rw [hW0]; repeat (first | exact World.Ext.refl _ | exact ⟨_, rfl⟩ | assumption | refine World.Ext.over ?_ _ | refine World.Ext.drewN ?_ _ | refine World.Ext.drew ?_ | refine World.Ext.alloc ?_ _ | refine World.Ext.setCell ?_ (by simp) _)
  have hc0 : W0.cell? ⟨w.heap.size, 0, none⟩ = some (.slice a ss.length c) := by rw [hW0]; simp [go_sem]
  have HASK : Hid (Calls Try.prog 57 #[.pointer (some ⟨w.heap.size, 0, none⟩), .int .i64 kind] W0 fun e w'' => e = .returned (.bool (askOk ss kind)) ∧ W0.Ext w'') := l06Ask_any _ a c ss kind W0 hb hc0 (hm.ext hx0)
  have HX0 := Lib.hid hx0
  cases h : askOk ss kind
  · rw [h] at HASK
    show Calls _ _ _ _ (MatRet2 w [] false)
    clear h hb hm hc0 hx0
    go_enter Try.func16, Try.ntmps16
    go_wp2_with fail
    rw [← hW0]
    refine HASK.out.mono ?_
    rintro e w1 ⟨rfl, hx1⟩
    have HX := Lib.hid (HX0.out.trans hx1)
    clear hx1 hW0
    go_wp2
    go_ret2
    exact MatRet2.no HX.out
  · rw [h] at HASK
    unfold askOk at h
    rw [Bool.and_eq_true] at h
    obtain ⟨q1, q2, q3, q4, he, _⟩ := picOk_spec h.1
    have HD : Hid (∀ w', W0.Ext w' → Calls Try.prog 58 #[.pointer (some ⟨w.heap.size, 0, none⟩), .int .i64 kind] w' (MatRet w' (grd (picW ss) ss.length (depI kind (picW ss) ss.length (picL ss))))) := fun w' hx => l06Depths_any _ kind a c ss w' he (by omega) (by omega) (hx.cell hc0) (hm.ext (hx0.trans hx))
    show Calls _ _ _ _ (MatRet2 w (grd (picW ss) ss.length (depI kind (picW ss) ss.length (picL ss))) true)
    clear h hb hm hc0 hx0 q1 q2 q3 q4 he
    generalize grd (picW ss) ss.length (depI kind (picW ss) ss.length (picL ss)) = m at *
    go_enter Try.func16, Try.ntmps16
    go_wp2_with fail
    rw [← hW0]
    refine HASK.out.mono ?_
    rintro e w1 ⟨rfl, hx1⟩
    go_wp2_with fail
    refine (HD.out _ hx1).mono ?_
    rintro e w2 ⟨a2, c2, A2, C2, rfl, hx2, hm2⟩
    have HR : Hid (MatRet2 w m true (.returned (.tuple #[.slice a2 m.length c2, .bool true])) w2) := MatRet2.yes ⟨a2, c2, A2, C2, rfl, (HX0.out.trans hx1).trans hx2, hm2.lower ((HX0.out.trans hx1).size)⟩
    clear hx1 hx2 hm2 hW0
    go_wp2
    go_ret2
    exact HR.out
set_option maxRecDepth 5000 in
set_option maxHeartbeats 800000 in
theorem implDepthsOf_any (a : Option Addr) (c : Nat) (ss : List ByteArray) (kind : Int) (w : World) (hb : PicBnd ss) (hm : RowS w a ss) :
    Calls Try.prog 18 #[.agg #[.slice a ss.length c], .int .i64 kind] w (MatRet2 w (optM (askOk ss kind) (grd (picW ss) ss.length (depI kind (picW ss) ss.length (picL ss)))) (askOk ss kind)) := by
  obtain ⟨W0, hW0⟩ : ∃ W0, W0 = w.alloc (.cells #[.slice a ss.length c] 29) := ⟨_, rfl⟩
  have hx0 : w.Ext W0 := by rw [hW0]; repeat (first | exact World.Ext.refl _ | exact ⟨_, rfl⟩ | assumption | refine World.Ext.over ?_ _ | refine World.Ext.drewN ?_ _ | refine World.Ext.drew ?_ | refine World.Ext.alloc ?_ _ | refine World.Ext.setCell ?_ (by simp) _)
  have hc0 : W0.cell? ⟨w.heap.size, 0, none⟩ = some (.slice a ss.length c) := by rw [hW0]; simp [go_sem]
  have HIO : Hid (Calls Try.prog 60 #[.agg #[.slice a ss.length c]] W0 (ImgOf W0 ss (picOk ss))) := imageOf_any a c ss W0 hb.1 hb.2 (hm.ext hx0) _ rfl
  have HX0 := Lib.hid hx0
  have HK : Hid (∀ w, Calls Try.prog 61 #[.int .i64 kind] w fun e w' => e = .returned (.bool (inB kind 0 2)) ∧ w.Ext w') := fun w => kindOk_any kind w _ rfl
  clear hm hb hx0
  cases h : picOk ss
  · rw [h] at HIO
    have e : askOk ss kind = false := by unfold askOk; rw [h]; rfl
    rw [e]
    show Calls _ _ _ _ (MatRet2 w [] false)
    clear h hc0 e
    go_enter Try.func18, Try.ntmps18
    go_wp2_with fail
    rw [← hW0]
    refine HIO.out.mono ?_
    rintro e w1 ⟨rfl, hx1⟩
    have HX := Lib.hid (HX0.out.trans hx1)
    clear hx1 hW0
    go_wp2
    go_ret2
    exact MatRet2.no HX.out
  · rw [h] at HIO
    obtain ⟨q1, q2, q3, q4, _⟩ := picOk_spec h
    have e : askOk ss kind = inB kind 0 2 := by unfold askOk; rw [h]; rfl
    rw [e]
    cases hk : inB kind 0 2
    · rw [hk] at HK
      show Calls _ _ _ _ (MatRet2 w [] false)
      clear h hc0 e hk
      go_enter Try.func18, Try.ntmps18
      go_wp2_with fail
      rw [← hW0]
      refine HIO.out.mono ?_
      rintro e w1 ⟨b, ab, rfl, hx1, hi1, _⟩
      clear hi1
      go_wp2_with fail
      refine (HK.out _).mono ?_
      rintro e w2 ⟨rfl, hx2⟩
      have HX := Lib.hid (HX0.out.trans (hx1.trans hx2))
      clear hx1 hx2 hW0
      go_wp2
      go_ret2
      exact MatRet2.no HX.out
    · rw [hk] at HK
      show Calls _ _ _ _ (MatRet2 w (grd (picW ss) ss.length (depI kind (picW ss) ss.length (picL ss))) true)
      clear h hc0 e hk
      go_enter Try.func18, Try.ntmps18
      go_wp2_with fail
      rw [← hW0]
      refine HIO.out.mono ?_
      rintro e w1 ⟨b, ab, rfl, hx1, hi1, _⟩
      have HI := Lib.hid hi1
      clear hi1
      go_wp2_with fail
      refine (HK.out _).mono ?_
      rintro e w2 ⟨rfl, hx2⟩
      have HD := Lib.hid (depths_any b ab (picW ss) ss.length kind (picL ss) w2 (by omega) (by omega) (HI.out.ext hx2))
      have HX := Lib.hid (HX0.out.trans (hx1.trans hx2))
      clear hx1 hx2 hW0 HI
      generalize grd (picW ss) ss.length (depI kind (picW ss) ss.length (picL ss)) = m at *
      go_wp2_with fail
      refine HD.out.mono ?_
      rintro e w3 ⟨a2, c2, A2, C2, rfl, hx3, hm2⟩
      have HR : Hid (MatRet2 w m true (.returned (.tuple #[.slice a2 m.length c2, .bool true])) w3) := MatRet2.yes ⟨a2, c2, A2, C2, rfl, HX.out.trans hx3, hm2.lower HX.out.size⟩
      clear hx3 hm2
      go_wp2
      go_ret2
      exact HR.out
end Go.Proofs.Ytlnklcjnjfmknaa
