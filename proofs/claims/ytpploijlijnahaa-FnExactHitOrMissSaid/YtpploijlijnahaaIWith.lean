/- The program's pictures that are made of an image. -/
import Derived.Test.YtpploijlijnahaaIImgs
import Derived.Test.YtpploijlijnahaaSBoth
namespace Go
open Go.RowKit
theorem Res.store {α : Type} {f : α → Value} {d : α} {w W1 : World} {p : Nat} {T : TypeId} {v0 : Value} {lo : Nat} {a : Option Addr} {xs : List α} (v : Value) (hX : w.Ext W1) (hp : w.heap.size ≤ p) (hone : One W1 p T v0) (hlo : p < lo) (ho : OwnOf f d lo W1.heap.size W1 a xs) :
    W1.cell? ⟨p, 0, none⟩ = some v0 ∧ W1.frozen? ⟨p, 0, none⟩ = false ∧ (W1.setCell ⟨p, 0, none⟩ v).cell? ⟨p, 0, none⟩ = some v ∧ Hid (w.Ext (W1.setCell ⟨p, 0, none⟩ v) ∧ OwnOf f d w.heap.size (W1.setCell ⟨p, 0, none⟩ v).heap.size (W1.setCell ⟨p, 0, none⟩ v) a xs) :=
  ⟨hone.cell, hone.free, (hone.set v).cell, hX.setCell (p := ⟨p, 0, none⟩) hp v,
    (ho.wrote (S := fun b => b = p) (Wrote.setCell (S := fun b => b = p) (Wrote.refl _ W1) (p := ⟨p, 0, none⟩) rfl v) (fun k h1 h2 => by omega)).mono (lo' := w.heap.size) (hi' := (W1.setCell ⟨p, 0, none⟩ v).heap.size) (by omega) (by simp)⟩
end Go
namespace Go.Proofs.Ytpploijlijnahaa
open Go.RowKit
/-- What a picture is made of: a new image, or none. -/
def DoRet (w : World) (good : Bool) (W H : Nat) (l : List Bool) (e : Ending) (w' : World) : Prop :=
  if good then ImgRet w W H l e w' else e = .returned (.pointer none) ∧ w.Ext w'
theorem DoRet.no {w w' : World} {W H : Nat} {l : List Bool} {e : Ending} (h : DoRet w false W H l e w') : e = .returned (.pointer none) ∧ w.Ext w' := h
theorem DoRet.yes {w w' : World} {W H : Nat} {l : List Bool} {e : Ending} (h : DoRet w true W H l e w') : ImgRet w W H l e w' := h
def optRows (ok : Bool) (R : List ByteArray) : List ByteArray := if ok then R else []
set_option maxRecDepth 5000 in
set_option maxHeartbeats 1600000 in
theorem withImage_any (a : Option Addr) (c f : Nat) (caps : Array Value) (ss : List ByteArray) (good : Bool) (W H : Nat) (l : List Bool) (w : World) (hn : ss.length ≤ 1048576) (hsz : ∀ y, (ss.getD y ByteArray.empty).size ≤ 1048576) (hm : RowS w a ss) (he : Enters f) (hW1 : picOk ss = true → good = true → 1 ≤ W ∧ W ≤ 64 ∧ H ≤ 64)
    (hf : ∀ w' b ab, picOk ss = true → w.Ext w' → Img w' b ab (picW ss) ss.length (picL ss) → Calls Try.prog f (#[.pointer (some ⟨b, 0, none⟩)] ++ caps) w' (DoRet w' good W H l)) :
    Calls Try.prog 141 #[.agg #[.slice a ss.length c], .func (.func f) #[] caps] w (PicRet2 w (optRows (picOk ss && good) (picRows W H l)) (picOk ss && good)) := by
  have HIO : Hid (∀ w', w.Ext w' → Calls Try.prog 105 #[.agg #[.slice a ss.length c]] w' (ImgOf w' ss (picOk ss))) := fun w' hx => imageOf_any a c ss w' hn hsz (hm.ext hx) _ rfl
  unfold Enters at he
  cases h1 : picOk ss
  · rw [h1] at HIO
    clear hm h1 hn hsz hf hW1
    show Calls _ _ _ _ (PicRet2 w [] false)
    go_enter Try.func141, Try.ntmps141
    go_wp2_with fail
    refine (HIO.out _ (by repeat (first | exact World.Ext.refl _ | exact ⟨_, rfl⟩ | assumption | refine World.Ext.over ?_ _ | refine World.Ext.drewN ?_ _ | refine World.Ext.drew ?_ | refine World.Ext.alloc ?_ _ | refine World.Ext.setCell ?_ (by simp) _))).mono ?_
    rintro e w1 ⟨rfl, hx1⟩
    have hres := (One.new (w.alloc (.cells #[.slice a ss.length c] 30)) (.slice none 0 0) 30 (w.heap.size + 1) (by simp)).ext hx1
    have hx0 : w.Ext w1 := World.Ext.trans (by repeat (first | exact World.Ext.refl _ | exact ⟨_, rfl⟩ | assumption | refine World.Ext.over ?_ _ | refine World.Ext.drewN ?_ _ | refine World.Ext.drew ?_ | refine World.Ext.alloc ?_ _ | refine World.Ext.setCell ?_ (by simp) _)) hx1
    obtain ⟨r1, r2, r3, HR⟩ := Res.store (f := Value.string) (d := ByteArray.empty) (a := none) (xs := []) (lo := w.heap.size + 2) (.slice none 0 0) hx0 (by omega) hres (by omega) (OwnOf.nil _ _)
    clear hres hx0 hx1
    go_wp2
    exact bodyPost_ret (v := .tuple #[.agg #[.slice none 0 0], .bool false]) (by simp [results, Try.results141, go_sem, r3]) rfl ⟨none, 0, rfl, HR.out.1, OwnOf.nil _ _⟩
  · rw [h1] at HIO
    have HW1 := Lib.hid (hW1 h1)
    have HF : Hid (∀ w' b ab, w.Ext w' → Img w' b ab (picW ss) ss.length (picL ss) → Calls Try.prog f (#[.pointer (some ⟨b, 0, none⟩)] ++ caps) w' (DoRet w' good W H l)) := fun w' b ab => hf w' b ab h1
    clear hm h1 hn hsz hf hW1
    rw [Bool.true_and]
    go_enter Try.func141, Try.ntmps141
    go_wp2_with fail
    refine (HIO.out _ (by repeat (first | exact World.Ext.refl _ | exact ⟨_, rfl⟩ | assumption | refine World.Ext.over ?_ _ | refine World.Ext.drewN ?_ _ | refine World.Ext.drew ?_ | refine World.Ext.alloc ?_ _ | refine World.Ext.setCell ?_ (by simp) _))).mono ?_
    rintro e w1 ⟨b, ab, rfl, hx1, hi1, _⟩
    have hres := (One.new (w.alloc (.cells #[.slice a ss.length c] 30)) (.slice none 0 0) 30 (w.heap.size + 1) (by simp)).ext hx1
    have hx0 : w.Ext w1 := World.Ext.trans (by repeat (first | exact World.Ext.refl _ | exact ⟨_, rfl⟩ | assumption | refine World.Ext.over ?_ _ | refine World.Ext.drewN ?_ _ | refine World.Ext.drew ?_ | refine World.Ext.alloc ?_ _ | refine World.Ext.setCell ?_ (by simp) _)) hx1
    have HC := Lib.hid (HF.out w1 b ab hx0 hi1)
    have HRES := Lib.hid hres
    have HX0 := Lib.hid hx0
    clear hres hx0 hx1 hi1
    go_wp2_with fail
    refine HC.out.mono ?_
    cases good
    · intro e w2 hd
      obtain ⟨rfl, hx2⟩ := DoRet.no hd
      clear hd
      have hres2 := HRES.out.ext hx2
      obtain ⟨r1, r2, r3, HR⟩ := Res.store (f := Value.string) (d := ByteArray.empty) (a := none) (xs := []) (lo := w.heap.size + 2) (.slice none 0 0) (HX0.out.trans hx2) (by omega) hres2 (by omega) (OwnOf.nil _ _)
      clear hres2 hx2
      go_wp2
      exact bodyPost_ret (v := .tuple #[.agg #[.slice none 0 0], .bool false]) (by simp [results, Try.results141, go_sem, r3]) rfl ⟨none, 0, rfl, HR.out.1, OwnOf.nil _ _⟩
    · intro e w2 hd
      obtain ⟨b2, ab2, rfl, hx2, hi2, _⟩ := DoRet.yes hd
      clear hd
      obtain ⟨q1, q2, q3⟩ := HW1.out rfl
      have HT := Lib.hid (told_any b2 ab2 W H l w2 q1 q2 q3 hi2)
      have HRES2 := Lib.hid (HRES.out.ext hx2)
      have HX2 := Lib.hid (HX0.out.trans hx2)
      clear hi2 hx2
      go_wp2_with fail
      refine HT.out.mono ?_
      rintro e w3 ⟨a3, c3, rfl, hx3, ho3⟩
      have hlo : w.heap.size + 1 < w2.heap.size := HRES2.out.lt
      obtain ⟨r1, r2, r3, HR⟩ := Res.store (.slice a3 (picRows W H l).length c3) (HX2.out.trans hx3) (by omega) (HRES2.out.ext hx3) hlo ho3
      clear hx3 ho3
      go_wp2
      exact bodyPost_ret (v := .tuple #[.agg #[.slice a3 (picRows W H l).length c3], .bool true]) (by simp [results, Try.results141, go_sem, r3]) rfl ⟨a3, c3, rfl, HR.out.1, HR.out.2⟩
end Go.Proofs.Ytpploijlijnahaa
