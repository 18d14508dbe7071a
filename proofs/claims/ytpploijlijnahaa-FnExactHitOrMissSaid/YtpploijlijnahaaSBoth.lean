/- The reference's pictures that an element makes, if both are valid. -/
import Derived.Test.YtpploijlijnahaaSMake3
namespace Go.Proofs.Ytpploijlijnahaa
open Go.RowKit
/-- A picture and whether there is one are returned, in new memory. -/
def PicRet2 (w : World) (R : List ByteArray) (ok : Bool) (e : Ending) (w' : World) : Prop :=
  ∃ a c, e = .returned (.tuple #[.agg #[.slice a R.length c], .bool ok]) ∧ w.Ext w' ∧ OwnOf Value.string ByteArray.empty w.heap.size w'.heap.size w' a R
def rowsIf (ss : List ByteArray) (ok : Bool) (g : Nat → Nat → Bool) : List ByteArray := if ok then picRows (picW ss) ss.length (mkl (picW ss) ss.length g) else []
set_option maxRecDepth 5000 in
set_option maxHeartbeats 800000 in
theorem l03Both0_any (p pe : Nat) (a : Option Addr) (c : Nat) (ss : List ByteArray) (ae : Option Addr) (ce : Nat) (os : List (Int × Int)) (w : World) (hn : ss.length ≤ 1048576) (hsz : ∀ y, (ss.getD y ByteArray.empty).size ≤ 1048576)
    (hp : w.cell? ⟨p, 0, none⟩ = some (.slice a ss.length c)) (hm : RowS w a ss) (hpe : w.cell? ⟨pe, 0, none⟩ = some (.slice ae os.length ce)) (hme : RowP w ae os) (hon : os.length ≤ 1048576) :
    Calls Try.prog 71 #[.pointer (some ⟨p, 0, none⟩), .pointer (some ⟨pe, 0, none⟩), .int .i64 0] w (PicRet2 w (rowsIf ss (picOk ss && elemOk os) fun x y => someB (picW ss) ss.length (picL ss) os x y) (picOk ss && elemOk os)) := by
  have HM := Lib.hid hm
  have HME := Lib.hid hme
  have HP := Lib.hid hp
  have HPE := Lib.hid hpe
  have HIS : Hid (∀ w', w.Ext w' → Calls Try.prog 84 #[.pointer (some ⟨p, 0, none⟩)] w' fun e w'' => e = .returned (.bool (picOk ss)) ∧ w'.Ext w'') := fun w' hx => l01Is_any p a c ss w' hn hsz (hx.cell hp) (RowOf.ext hm hx) _ rfl
  have HIE : Hid (∀ w', w.Ext w' → Calls Try.prog 85 #[.pointer (some ⟨pe, 0, none⟩)] w' fun e w'' => e = .returned (.bool (elemOk os)) ∧ w'.Ext w'') := fun w' hx => l03Is_any pe ae ce os w' hon (hx.cell hpe) (hme.ext hx) _ rfl
  cases h1 : picOk ss
  · rw [h1] at HIS
    clear hm hme hp hpe h1 hn hsz hon
    show Calls _ _ _ _ (PicRet2 w [] false)
    go_enter Try.func71, Try.ntmps71
    go_wp2_with fail
    refine (HIS.out _ (by repeat (first | exact World.Ext.refl _ | exact ⟨_, rfl⟩ | assumption | refine World.Ext.over ?_ _ | refine World.Ext.drewN ?_ _ | refine World.Ext.drew ?_ | refine World.Ext.alloc ?_ _ | refine World.Ext.setCell ?_ (by simp) _))).mono ?_
    rintro e w' ⟨rfl, x1, rfl⟩
    go_wp2
    refine bodyPost_ret (v := .tuple #[.agg #[.slice none 0 0], .bool false]) (by simp [results, Try.results71, go_sem]) rfl ⟨none, 0, rfl, ?_, OwnOf.nil _ _⟩
    repeat (first | exact World.Ext.refl _ | exact ⟨_, rfl⟩ | assumption | refine World.Ext.over ?_ _ | refine World.Ext.drewN ?_ _ | refine World.Ext.drew ?_ | refine World.Ext.alloc ?_ _ | refine World.Ext.setCell ?_ (by simp) _)
  · rw [h1] at HIS
    cases h2 : elemOk os
    · rw [h2] at HIE
      clear hm hme hp hpe h1 h2 hn hsz hon
      show Calls _ _ _ _ (PicRet2 w [] false)
      go_enter Try.func71, Try.ntmps71
      go_wp2_with fail
      refine (HIS.out _ (by repeat (first | exact World.Ext.refl _ | exact ⟨_, rfl⟩ | assumption | refine World.Ext.over ?_ _ | refine World.Ext.drewN ?_ _ | refine World.Ext.drew ?_ | refine World.Ext.alloc ?_ _ | refine World.Ext.setCell ?_ (by simp) _))).mono ?_
      rintro e w' ⟨rfl, x1, rfl⟩
      go_wp2_with fail
      refine (HIE.out _ (by repeat (first | exact World.Ext.refl _ | exact ⟨_, rfl⟩ | assumption | refine World.Ext.over ?_ _ | refine World.Ext.drewN ?_ _ | refine World.Ext.drew ?_ | refine World.Ext.alloc ?_ _ | refine World.Ext.setCell ?_ (by simp) _))).mono ?_
      rintro e w' ⟨rfl, x2, rfl⟩
      go_wp2
      refine bodyPost_ret (v := .tuple #[.agg #[.slice none 0 0], .bool false]) (by simp [results, Try.results71, go_sem]) rfl ⟨none, 0, rfl, ?_, OwnOf.nil _ _⟩
      repeat (first | exact World.Ext.refl _ | exact ⟨_, rfl⟩ | assumption | refine World.Ext.over ?_ _ | refine World.Ext.drewN ?_ _ | refine World.Ext.drew ?_ | refine World.Ext.alloc ?_ _ | refine World.Ext.setCell ?_ (by simp) _)
    · rw [h2] at HIE
      obtain ⟨q1, q2, q3, q4, he, _⟩ := picOk_spec h1
      obtain ⟨_, e2, e3⟩ := elemOk_spec h2
      have HMK : Hid (∀ w', w.Ext w' → Calls Try.prog 107 #[.pointer (some ⟨p, 0, none⟩), .pointer (some ⟨pe, 0, none⟩), .int .i64 0] w' fun e w'' => ∃ a' c', e = .returned (.agg #[.slice a' ss.length c']) ∧ w'.Ext w'' ∧ OwnOf Value.string ByteArray.empty w'.heap.size w''.heap.size w'' a' (picRows (picW ss) ss.length (mkl (picW ss) ss.length fun x y => someB (picW ss) ss.length (picL ss) os x y))) := fun w' hx =>
        l03Make_any p pe 0 a c ss w' he q3 (by omega) (by omega) (hx.cell hp) (RowOf.ext hm hx) _ fun w'' hx'' x y hxW hyH =>
          l03Pixel0_any p pe a c ss ae ce os x y w'' he hn (by omega) ((hx.trans hx'').cell hp) (RowOf.ext hm (hx.trans hx'')) ((hx.trans hx'').cell hpe) (hme.ext (hx.trans hx'')) hon e3 (by omega) (by omega) _ rfl
      clear hm hme hp hpe h1 h2 hn hsz hon q1 q2 q3 q4 he e2 e3
      show Calls _ _ _ _ (PicRet2 w (picRows (picW ss) ss.length (mkl (picW ss) ss.length fun x y => someB (picW ss) ss.length (picL ss) os x y)) true)
      have HRL : Hid ((picRows (picW ss) ss.length (mkl (picW ss) ss.length fun x y => someB (picW ss) ss.length (picL ss) os x y)).length = ss.length) := picRows_len _ _ _
      generalize picRows (picW ss) ss.length (mkl (picW ss) ss.length fun x y => someB (picW ss) ss.length (picL ss) os x y) = R at *
      go_enter Try.func71, Try.ntmps71
      go_wp2_with fail
      refine (HIS.out _ (by repeat (first | exact World.Ext.refl _ | exact ⟨_, rfl⟩ | assumption | refine World.Ext.over ?_ _ | refine World.Ext.drewN ?_ _ | refine World.Ext.drew ?_ | refine World.Ext.alloc ?_ _ | refine World.Ext.setCell ?_ (by simp) _))).mono ?_
      rintro e w' ⟨rfl, x1, rfl⟩
      go_wp2_with fail
      refine (HIE.out _ (by repeat (first | exact World.Ext.refl _ | exact ⟨_, rfl⟩ | assumption | refine World.Ext.over ?_ _ | refine World.Ext.drewN ?_ _ | refine World.Ext.drew ?_ | refine World.Ext.alloc ?_ _ | refine World.Ext.setCell ?_ (by simp) _))).mono ?_
      rintro e w' ⟨rfl, x2, rfl⟩
      go_wp2_with fail
      refine (HMK.out _ (by repeat (first | exact World.Ext.refl _ | exact ⟨_, rfl⟩ | assumption | refine World.Ext.over ?_ _ | refine World.Ext.drewN ?_ _ | refine World.Ext.drew ?_ | refine World.Ext.alloc ?_ _ | refine World.Ext.setCell ?_ (by simp) _))).mono ?_
      rintro e w3 ⟨a3, c3, rfl, hx3, ho3⟩
      have hx0 : w.Ext (((w.alloc (.cells #[.slice none 0 0] 30)).over x1).over x2) := by repeat (first | exact World.Ext.refl _ | exact ⟨_, rfl⟩ | assumption | refine World.Ext.over ?_ _ | refine World.Ext.drewN ?_ _ | refine World.Ext.drew ?_ | refine World.Ext.alloc ?_ _ | refine World.Ext.setCell ?_ (by simp) _)
      have hres := (((One.new w (.slice none 0 0) 30 _ rfl).ext ⟨x1, rfl⟩).ext ⟨x2, rfl⟩).ext hx3
      have hlt : w.heap.size < (((w.alloc (.cells #[.slice none 0 0] 30)).over x1).over x2).heap.size := by simp; omega
      have hc4 := hres.cell
      have hf4 := hres.free
      have hx4 := (hx0.trans hx3).setCell (p := ⟨w.heap.size, 0, none⟩) (Nat.le_refl _) (.slice a3 ss.length c3)
      have ho4 := (ho3.wrote (S := fun b => b = w.heap.size) (Wrote.setCell (S := fun b => b = w.heap.size) (Wrote.refl _ w3) (p := ⟨w.heap.size, 0, none⟩) rfl (.slice a3 ss.length c3)) (fun k h1 h2 => by omega)).mono (lo' := w.heap.size) (hi' := (w3.setCell ⟨w.heap.size, 0, none⟩ (.slice a3 ss.length c3)).heap.size) (by omega) (by simp)
      have hr4 := (hres.set (.slice a3 ss.length c3)).cell
      have HX4 := Lib.hid hx4
      have HO4 := Lib.hid ho4
      clear hx4 ho4 hx3 ho3 hres hx0 hlt
      go_wp2
      exact bodyPost_ret (v := .tuple #[.agg #[.slice a3 ss.length c3], .bool true]) (by simp [results, Try.results71, go_sem, hr4]) rfl ⟨a3, c3, by rw [HRL.out], HX4.out, HO4.out⟩
set_option maxRecDepth 5000 in
set_option maxHeartbeats 800000 in
theorem l03Both1_any (p pe : Nat) (a : Option Addr) (c : Nat) (ss : List ByteArray) (ae : Option Addr) (ce : Nat) (os : List (Int × Int)) (w : World) (hn : ss.length ≤ 1048576) (hsz : ∀ y, (ss.getD y ByteArray.empty).size ≤ 1048576)
    (hp : w.cell? ⟨p, 0, none⟩ = some (.slice a ss.length c)) (hm : RowS w a ss) (hpe : w.cell? ⟨pe, 0, none⟩ = some (.slice ae os.length ce)) (hme : RowP w ae os) (hon : os.length ≤ 1048576) :
    Calls Try.prog 71 #[.pointer (some ⟨p, 0, none⟩), .pointer (some ⟨pe, 0, none⟩), .int .i64 1] w (PicRet2 w (rowsIf ss (picOk ss && elemOk os) fun x y => fitsB (picW ss) ss.length (picL ss) os x y) (picOk ss && elemOk os)) := by
  have HM := Lib.hid hm
  have HME := Lib.hid hme
  have HP := Lib.hid hp
  have HPE := Lib.hid hpe
  have HIS : Hid (∀ w', w.Ext w' → Calls Try.prog 84 #[.pointer (some ⟨p, 0, none⟩)] w' fun e w'' => e = .returned (.bool (picOk ss)) ∧ w'.Ext w'') := fun w' hx => l01Is_any p a c ss w' hn hsz (hx.cell hp) (RowOf.ext hm hx) _ rfl
  have HIE : Hid (∀ w', w.Ext w' → Calls Try.prog 85 #[.pointer (some ⟨pe, 0, none⟩)] w' fun e w'' => e = .returned (.bool (elemOk os)) ∧ w'.Ext w'') := fun w' hx => l03Is_any pe ae ce os w' hon (hx.cell hpe) (hme.ext hx) _ rfl
  cases h1 : picOk ss
  · rw [h1] at HIS
    clear hm hme hp hpe h1 hn hsz hon
    show Calls _ _ _ _ (PicRet2 w [] false)
    go_enter Try.func71, Try.ntmps71
    go_wp2_with fail
    refine (HIS.out _ (by repeat (first | exact World.Ext.refl _ | exact ⟨_, rfl⟩ | assumption | refine World.Ext.over ?_ _ | refine World.Ext.drewN ?_ _ | refine World.Ext.drew ?_ | refine World.Ext.alloc ?_ _ | refine World.Ext.setCell ?_ (by simp) _))).mono ?_
    rintro e w' ⟨rfl, x1, rfl⟩
    go_wp2
    refine bodyPost_ret (v := .tuple #[.agg #[.slice none 0 0], .bool false]) (by simp [results, Try.results71, go_sem]) rfl ⟨none, 0, rfl, ?_, OwnOf.nil _ _⟩
    repeat (first | exact World.Ext.refl _ | exact ⟨_, rfl⟩ | assumption | refine World.Ext.over ?_ _ | refine World.Ext.drewN ?_ _ | refine World.Ext.drew ?_ | refine World.Ext.alloc ?_ _ | refine World.Ext.setCell ?_ (by simp) _)
  · rw [h1] at HIS
    cases h2 : elemOk os
    · rw [h2] at HIE
      clear hm hme hp hpe h1 h2 hn hsz hon
      show Calls _ _ _ _ (PicRet2 w [] false)
      go_enter Try.func71, Try.ntmps71
      go_wp2_with fail
      refine (HIS.out _ (by repeat (first | exact World.Ext.refl _ | exact ⟨_, rfl⟩ | assumption | refine World.Ext.over ?_ _ | refine World.Ext.drewN ?_ _ | refine World.Ext.drew ?_ | refine World.Ext.alloc ?_ _ | refine World.Ext.setCell ?_ (by simp) _))).mono ?_
      rintro e w' ⟨rfl, x1, rfl⟩
      go_wp2_with fail
      refine (HIE.out _ (by repeat (first | exact World.Ext.refl _ | exact ⟨_, rfl⟩ | assumption | refine World.Ext.over ?_ _ | refine World.Ext.drewN ?_ _ | refine World.Ext.drew ?_ | refine World.Ext.alloc ?_ _ | refine World.Ext.setCell ?_ (by simp) _))).mono ?_
      rintro e w' ⟨rfl, x2, rfl⟩
      go_wp2
      refine bodyPost_ret (v := .tuple #[.agg #[.slice none 0 0], .bool false]) (by simp [results, Try.results71, go_sem]) rfl ⟨none, 0, rfl, ?_, OwnOf.nil _ _⟩
      repeat (first | exact World.Ext.refl _ | exact ⟨_, rfl⟩ | assumption | refine World.Ext.over ?_ _ | refine World.Ext.drewN ?_ _ | refine World.Ext.drew ?_ | refine World.Ext.alloc ?_ _ | refine World.Ext.setCell ?_ (by simp) _)
    · rw [h2] at HIE
      obtain ⟨q1, q2, q3, q4, he, _⟩ := picOk_spec h1
      obtain ⟨_, e2, e3⟩ := elemOk_spec h2
      have HMK : Hid (∀ w', w.Ext w' → Calls Try.prog 107 #[.pointer (some ⟨p, 0, none⟩), .pointer (some ⟨pe, 0, none⟩), .int .i64 1] w' fun e w'' => ∃ a' c', e = .returned (.agg #[.slice a' ss.length c']) ∧ w'.Ext w'' ∧ OwnOf Value.string ByteArray.empty w'.heap.size w''.heap.size w'' a' (picRows (picW ss) ss.length (mkl (picW ss) ss.length fun x y => fitsB (picW ss) ss.length (picL ss) os x y))) := fun w' hx =>
        l03Make_any p pe 1 a c ss w' he q3 (by omega) (by omega) (hx.cell hp) (RowOf.ext hm hx) _ fun w'' hx'' x y hxW hyH =>
          l03Pixel1_any p pe a c ss ae ce os x y w'' he hn (by omega) ((hx.trans hx'').cell hp) (RowOf.ext hm (hx.trans hx'')) ((hx.trans hx'').cell hpe) (hme.ext (hx.trans hx'')) hon e3 (by omega) (by omega) _ rfl
      clear hm hme hp hpe h1 h2 hn hsz hon q1 q2 q3 q4 he e2 e3
      show Calls _ _ _ _ (PicRet2 w (picRows (picW ss) ss.length (mkl (picW ss) ss.length fun x y => fitsB (picW ss) ss.length (picL ss) os x y)) true)
      have HRL : Hid ((picRows (picW ss) ss.length (mkl (picW ss) ss.length fun x y => fitsB (picW ss) ss.length (picL ss) os x y)).length = ss.length) := picRows_len _ _ _
      generalize picRows (picW ss) ss.length (mkl (picW ss) ss.length fun x y => fitsB (picW ss) ss.length (picL ss) os x y) = R at *
      go_enter Try.func71, Try.ntmps71
      go_wp2_with fail
      refine (HIS.out _ (by repeat (first | exact World.Ext.refl _ | exact ⟨_, rfl⟩ | assumption | refine World.Ext.over ?_ _ | refine World.Ext.drewN ?_ _ | refine World.Ext.drew ?_ | refine World.Ext.alloc ?_ _ | refine World.Ext.setCell ?_ (by simp) _))).mono ?_
      rintro e w' ⟨rfl, x1, rfl⟩
      go_wp2_with fail
      refine (HIE.out _ (by repeat (first | exact World.Ext.refl _ | exact ⟨_, rfl⟩ | assumption | refine World.Ext.over ?_ _ | refine World.Ext.drewN ?_ _ | refine World.Ext.drew ?_ | refine World.Ext.alloc ?_ _ | refine World.Ext.setCell ?_ (by simp) _))).mono ?_
      rintro e w' ⟨rfl, x2, rfl⟩
      go_wp2_with fail
      refine (HMK.out _ (by repeat (first | exact World.Ext.refl _ | exact ⟨_, rfl⟩ | assumption | refine World.Ext.over ?_ _ | refine World.Ext.drewN ?_ _ | refine World.Ext.drew ?_ | refine World.Ext.alloc ?_ _ | refine World.Ext.setCell ?_ (by simp) _))).mono ?_
      rintro e w3 ⟨a3, c3, rfl, hx3, ho3⟩
      have hx0 : w.Ext (((w.alloc (.cells #[.slice none 0 0] 30)).over x1).over x2) := by repeat (first | exact World.Ext.refl _ | exact ⟨_, rfl⟩ | assumption | refine World.Ext.over ?_ _ | refine World.Ext.drewN ?_ _ | refine World.Ext.drew ?_ | refine World.Ext.alloc ?_ _ | refine World.Ext.setCell ?_ (by simp) _)
      have hres := (((One.new w (.slice none 0 0) 30 _ rfl).ext ⟨x1, rfl⟩).ext ⟨x2, rfl⟩).ext hx3
      have hlt : w.heap.size < (((w.alloc (.cells #[.slice none 0 0] 30)).over x1).over x2).heap.size := by simp; omega
      have hc4 := hres.cell
      have hf4 := hres.free
      have hx4 := (hx0.trans hx3).setCell (p := ⟨w.heap.size, 0, none⟩) (Nat.le_refl _) (.slice a3 ss.length c3)
      have ho4 := (ho3.wrote (S := fun b => b = w.heap.size) (Wrote.setCell (S := fun b => b = w.heap.size) (Wrote.refl _ w3) (p := ⟨w.heap.size, 0, none⟩) rfl (.slice a3 ss.length c3)) (fun k h1 h2 => by omega)).mono (lo' := w.heap.size) (hi' := (w3.setCell ⟨w.heap.size, 0, none⟩ (.slice a3 ss.length c3)).heap.size) (by omega) (by simp)
      have hr4 := (hres.set (.slice a3 ss.length c3)).cell
      have HX4 := Lib.hid hx4
      have HO4 := Lib.hid ho4
      clear hx4 ho4 hx3 ho3 hres hx0 hlt
      go_wp2
      exact bodyPost_ret (v := .tuple #[.agg #[.slice a3 ss.length c3], .bool true]) (by simp [results, Try.results71, go_sem, hr4]) rfl ⟨a3, c3, by rw [HRL.out], HX4.out, HO4.out⟩
set_option maxRecDepth 5000 in
set_option maxHeartbeats 800000 in
theorem l03Both2_any (p pe : Nat) (a : Option Addr) (c : Nat) (ss : List ByteArray) (ae : Option Addr) (ce : Nat) (os : List (Int × Int)) (w : World) (hn : ss.length ≤ 1048576) (hsz : ∀ y, (ss.getD y ByteArray.empty).size ≤ 1048576)
    (hp : w.cell? ⟨p, 0, none⟩ = some (.slice a ss.length c)) (hm : RowS w a ss) (hpe : w.cell? ⟨pe, 0, none⟩ = some (.slice ae os.length ce)) (hme : RowP w ae os) (hon : os.length ≤ 1048576) :
    Calls Try.prog 71 #[.pointer (some ⟨p, 0, none⟩), .pointer (some ⟨pe, 0, none⟩), .int .i64 2] w (PicRet2 w (rowsIf ss (picOk ss && elemOk os) fun x y => openB (picW ss) ss.length (picL ss) os x y) (picOk ss && elemOk os)) := by
  have HM := Lib.hid hm
  have HME := Lib.hid hme
  have HP := Lib.hid hp
  have HPE := Lib.hid hpe
  have HIS : Hid (∀ w', w.Ext w' → Calls Try.prog 84 #[.pointer (some ⟨p, 0, none⟩)] w' fun e w'' => e = .returned (.bool (picOk ss)) ∧ w'.Ext w'') := fun w' hx => l01Is_any p a c ss w' hn hsz (hx.cell hp) (RowOf.ext hm hx) _ rfl
  have HIE : Hid (∀ w', w.Ext w' → Calls Try.prog 85 #[.pointer (some ⟨pe, 0, none⟩)] w' fun e w'' => e = .returned (.bool (elemOk os)) ∧ w'.Ext w'') := fun w' hx => l03Is_any pe ae ce os w' hon (hx.cell hpe) (hme.ext hx) _ rfl
  cases h1 : picOk ss
  · rw [h1] at HIS
    clear hm hme hp hpe h1 hn hsz hon
    show Calls _ _ _ _ (PicRet2 w [] false)
    go_enter Try.func71, Try.ntmps71
    go_wp2_with fail
    refine (HIS.out _ (by repeat (first | exact World.Ext.refl _ | exact ⟨_, rfl⟩ | assumption | refine World.Ext.over ?_ _ | refine World.Ext.drewN ?_ _ | refine World.Ext.drew ?_ | refine World.Ext.alloc ?_ _ | refine World.Ext.setCell ?_ (by simp) _))).mono ?_
    rintro e w' ⟨rfl, x1, rfl⟩
    go_wp2
    refine bodyPost_ret (v := .tuple #[.agg #[.slice none 0 0], .bool false]) (by simp [results, Try.results71, go_sem]) rfl ⟨none, 0, rfl, ?_, OwnOf.nil _ _⟩
    repeat (first | exact World.Ext.refl _ | exact ⟨_, rfl⟩ | assumption | refine World.Ext.over ?_ _ | refine World.Ext.drewN ?_ _ | refine World.Ext.drew ?_ | refine World.Ext.alloc ?_ _ | refine World.Ext.setCell ?_ (by simp) _)
  · rw [h1] at HIS
    cases h2 : elemOk os
    · rw [h2] at HIE
      clear hm hme hp hpe h1 h2 hn hsz hon
      show Calls _ _ _ _ (PicRet2 w [] false)
      go_enter Try.func71, Try.ntmps71
      go_wp2_with fail
      refine (HIS.out _ (by repeat (first | exact World.Ext.refl _ | exact ⟨_, rfl⟩ | assumption | refine World.Ext.over ?_ _ | refine World.Ext.drewN ?_ _ | refine World.Ext.drew ?_ | refine World.Ext.alloc ?_ _ | refine World.Ext.setCell ?_ (by simp) _))).mono ?_
      rintro e w' ⟨rfl, x1, rfl⟩
      go_wp2_with fail
      refine (HIE.out _ (by repeat (first | exact World.Ext.refl _ | exact ⟨_, rfl⟩ | assumption | refine World.Ext.over ?_ _ | refine World.Ext.drewN ?_ _ | refine World.Ext.drew ?_ | refine World.Ext.alloc ?_ _ | refine World.Ext.setCell ?_ (by simp) _))).mono ?_
      rintro e w' ⟨rfl, x2, rfl⟩
      go_wp2
      refine bodyPost_ret (v := .tuple #[.agg #[.slice none 0 0], .bool false]) (by simp [results, Try.results71, go_sem]) rfl ⟨none, 0, rfl, ?_, OwnOf.nil _ _⟩
      repeat (first | exact World.Ext.refl _ | exact ⟨_, rfl⟩ | assumption | refine World.Ext.over ?_ _ | refine World.Ext.drewN ?_ _ | refine World.Ext.drew ?_ | refine World.Ext.alloc ?_ _ | refine World.Ext.setCell ?_ (by simp) _)
    · rw [h2] at HIE
      obtain ⟨q1, q2, q3, q4, he, _⟩ := picOk_spec h1
      obtain ⟨_, e2, e3⟩ := elemOk_spec h2
      have HMK : Hid (∀ w', w.Ext w' → Calls Try.prog 107 #[.pointer (some ⟨p, 0, none⟩), .pointer (some ⟨pe, 0, none⟩), .int .i64 2] w' fun e w'' => ∃ a' c', e = .returned (.agg #[.slice a' ss.length c']) ∧ w'.Ext w'' ∧ OwnOf Value.string ByteArray.empty w'.heap.size w''.heap.size w'' a' (picRows (picW ss) ss.length (mkl (picW ss) ss.length fun x y => openB (picW ss) ss.length (picL ss) os x y))) := fun w' hx =>
        l03Make_any p pe 2 a c ss w' he q3 (by omega) (by omega) (hx.cell hp) (RowOf.ext hm hx) _ fun w'' hx'' x y hxW hyH =>
          l03Pixel2_any p pe a c ss ae ce os x y w'' he hn (by omega) ((hx.trans hx'').cell hp) (RowOf.ext hm (hx.trans hx'')) ((hx.trans hx'').cell hpe) (hme.ext (hx.trans hx'')) hon e3 (by omega) (by omega) _ rfl
      clear hm hme hp hpe h1 h2 hn hsz hon q1 q2 q3 q4 he e2 e3
      show Calls _ _ _ _ (PicRet2 w (picRows (picW ss) ss.length (mkl (picW ss) ss.length fun x y => openB (picW ss) ss.length (picL ss) os x y)) true)
      have HRL : Hid ((picRows (picW ss) ss.length (mkl (picW ss) ss.length fun x y => openB (picW ss) ss.length (picL ss) os x y)).length = ss.length) := picRows_len _ _ _
      generalize picRows (picW ss) ss.length (mkl (picW ss) ss.length fun x y => openB (picW ss) ss.length (picL ss) os x y) = R at *
      go_enter Try.func71, Try.ntmps71
      go_wp2_with fail
      refine (HIS.out _ (by repeat (first | exact World.Ext.refl _ | exact ⟨_, rfl⟩ | assumption | refine World.Ext.over ?_ _ | refine World.Ext.drewN ?_ _ | refine World.Ext.drew ?_ | refine World.Ext.alloc ?_ _ | refine World.Ext.setCell ?_ (by simp) _))).mono ?_
      rintro e w' ⟨rfl, x1, rfl⟩
      go_wp2_with fail
      refine (HIE.out _ (by repeat (first | exact World.Ext.refl _ | exact ⟨_, rfl⟩ | assumption | refine World.Ext.over ?_ _ | refine World.Ext.drewN ?_ _ | refine World.Ext.drew ?_ | refine World.Ext.alloc ?_ _ | refine World.Ext.setCell ?_ (by simp) _))).mono ?_
      rintro e w' ⟨rfl, x2, rfl⟩
      go_wp2_with fail
      refine (HMK.out _ (by repeat (first | exact World.Ext.refl _ | exact ⟨_, rfl⟩ | assumption | refine World.Ext.over ?_ _ | refine World.Ext.drewN ?_ _ | refine World.Ext.drew ?_ | refine World.Ext.alloc ?_ _ | refine World.Ext.setCell ?_ (by simp) _))).mono ?_
      rintro e w3 ⟨a3, c3, rfl, hx3, ho3⟩
      have hx0 : w.Ext (((w.alloc (.cells #[.slice none 0 0] 30)).over x1).over x2) := by repeat (first | exact World.Ext.refl _ | exact ⟨_, rfl⟩ | assumption | refine World.Ext.over ?_ _ | refine World.Ext.drewN ?_ _ | refine World.Ext.drew ?_ | refine World.Ext.alloc ?_ _ | refine World.Ext.setCell ?_ (by simp) _)
      have hres := (((One.new w (.slice none 0 0) 30 _ rfl).ext ⟨x1, rfl⟩).ext ⟨x2, rfl⟩).ext hx3
      have hlt : w.heap.size < (((w.alloc (.cells #[.slice none 0 0] 30)).over x1).over x2).heap.size := by simp; omega
      have hc4 := hres.cell
      have hf4 := hres.free
      have hx4 := (hx0.trans hx3).setCell (p := ⟨w.heap.size, 0, none⟩) (Nat.le_refl _) (.slice a3 ss.length c3)
      have ho4 := (ho3.wrote (S := fun b => b = w.heap.size) (Wrote.setCell (S := fun b => b = w.heap.size) (Wrote.refl _ w3) (p := ⟨w.heap.size, 0, none⟩) rfl (.slice a3 ss.length c3)) (fun k h1 h2 => by omega)).mono (lo' := w.heap.size) (hi' := (w3.setCell ⟨w.heap.size, 0, none⟩ (.slice a3 ss.length c3)).heap.size) (by omega) (by simp)
      have hr4 := (hres.set (.slice a3 ss.length c3)).cell
      have HX4 := Lib.hid hx4
      have HO4 := Lib.hid ho4
      clear hx4 ho4 hx3 ho3 hres hx0 hlt
      go_wp2
      exact bodyPost_ret (v := .tuple #[.agg #[.slice a3 ss.length c3], .bool true]) (by simp [results, Try.results71, go_sem, hr4]) rfl ⟨a3, c3, by rw [HRL.out], HX4.out, HO4.out⟩
set_option maxRecDepth 5000 in
set_option maxHeartbeats 800000 in
theorem l03Both3_any (p pe : Nat) (a : Option Addr) (c : Nat) (ss : List ByteArray) (ae : Option Addr) (ce : Nat) (os : List (Int × Int)) (w : World) (hn : ss.length ≤ 1048576) (hsz : ∀ y, (ss.getD y ByteArray.empty).size ≤ 1048576)
    (hp : w.cell? ⟨p, 0, none⟩ = some (.slice a ss.length c)) (hm : RowS w a ss) (hpe : w.cell? ⟨pe, 0, none⟩ = some (.slice ae os.length ce)) (hme : RowP w ae os) (hon : os.length ≤ 1048576) :
    Calls Try.prog 71 #[.pointer (some ⟨p, 0, none⟩), .pointer (some ⟨pe, 0, none⟩), .int .i64 3] w (PicRet2 w (rowsIf ss (picOk ss && elemOk os) fun x y => closeB (picW ss) ss.length (picL ss) os x y) (picOk ss && elemOk os)) := by
  have HM := Lib.hid hm
  have HME := Lib.hid hme
  have HP := Lib.hid hp
  have HPE := Lib.hid hpe
  have HIS : Hid (∀ w', w.Ext w' → Calls Try.prog 84 #[.pointer (some ⟨p, 0, none⟩)] w' fun e w'' => e = .returned (.bool (picOk ss)) ∧ w'.Ext w'') := fun w' hx => l01Is_any p a c ss w' hn hsz (hx.cell hp) (RowOf.ext hm hx) _ rfl
  have HIE : Hid (∀ w', w.Ext w' → Calls Try.prog 85 #[.pointer (some ⟨pe, 0, none⟩)] w' fun e w'' => e = .returned (.bool (elemOk os)) ∧ w'.Ext w'') := fun w' hx => l03Is_any pe ae ce os w' hon (hx.cell hpe) (hme.ext hx) _ rfl
  cases h1 : picOk ss
  · rw [h1] at HIS
    clear hm hme hp hpe h1 hn hsz hon
    show Calls _ _ _ _ (PicRet2 w [] false)
    go_enter Try.func71, Try.ntmps71
    go_wp2_with fail
    refine (HIS.out _ (by repeat (first | exact World.Ext.refl _ | exact ⟨_, rfl⟩ | assumption | refine World.Ext.over ?_ _ | refine World.Ext.drewN ?_ _ | refine World.Ext.drew ?_ | refine World.Ext.alloc ?_ _ | refine World.Ext.setCell ?_ (by simp) _))).mono ?_
    rintro e w' ⟨rfl, x1, rfl⟩
    go_wp2
    refine bodyPost_ret (v := .tuple #[.agg #[.slice none 0 0], .bool false]) (by simp [results, Try.results71, go_sem]) rfl ⟨none, 0, rfl, ?_, OwnOf.nil _ _⟩
    repeat (first | exact World.Ext.refl _ | exact ⟨_, rfl⟩ | assumption | refine World.Ext.over ?_ _ | refine World.Ext.drewN ?_ _ | refine World.Ext.drew ?_ | refine World.Ext.alloc ?_ _ | refine World.Ext.setCell ?_ (by simp) _)
  · rw [h1] at HIS
    cases h2 : elemOk os
    · rw [h2] at HIE
      clear hm hme hp hpe h1 h2 hn hsz hon
      show Calls _ _ _ _ (PicRet2 w [] false)
      go_enter Try.func71, Try.ntmps71
      go_wp2_with fail
      refine (HIS.out _ (by repeat (first | exact World.Ext.refl _ | exact ⟨_, rfl⟩ | assumption | refine World.Ext.over ?_ _ | refine World.Ext.drewN ?_ _ | refine World.Ext.drew ?_ | refine World.Ext.alloc ?_ _ | refine World.Ext.setCell ?_ (by simp) _))).mono ?_
      rintro e w' ⟨rfl, x1, rfl⟩
      go_wp2_with fail
      refine (HIE.out _ (by repeat (first | exact World.Ext.refl _ | exact ⟨_, rfl⟩ | assumption | refine World.Ext.over ?_ _ | refine World.Ext.drewN ?_ _ | refine World.Ext.drew ?_ | refine World.Ext.alloc ?_ _ | refine World.Ext.setCell ?_ (by simp) _))).mono ?_
      rintro e w' ⟨rfl, x2, rfl⟩
      go_wp2
      refine bodyPost_ret (v := .tuple #[.agg #[.slice none 0 0], .bool false]) (by simp [results, Try.results71, go_sem]) rfl ⟨none, 0, rfl, ?_, OwnOf.nil _ _⟩
      repeat (first | exact World.Ext.refl _ | exact ⟨_, rfl⟩ | assumption | refine World.Ext.over ?_ _ | refine World.Ext.drewN ?_ _ | refine World.Ext.drew ?_ | refine World.Ext.alloc ?_ _ | refine World.Ext.setCell ?_ (by simp) _)
    · rw [h2] at HIE
      obtain ⟨q1, q2, q3, q4, he, _⟩ := picOk_spec h1
      obtain ⟨_, e2, e3⟩ := elemOk_spec h2
      have HMK : Hid (∀ w', w.Ext w' → Calls Try.prog 107 #[.pointer (some ⟨p, 0, none⟩), .pointer (some ⟨pe, 0, none⟩), .int .i64 3] w' fun e w'' => ∃ a' c', e = .returned (.agg #[.slice a' ss.length c']) ∧ w'.Ext w'' ∧ OwnOf Value.string ByteArray.empty w'.heap.size w''.heap.size w'' a' (picRows (picW ss) ss.length (mkl (picW ss) ss.length fun x y => closeB (picW ss) ss.length (picL ss) os x y))) := fun w' hx =>
        l03Make_any p pe 3 a c ss w' he q3 (by omega) (by omega) (hx.cell hp) (RowOf.ext hm hx) _ fun w'' hx'' x y hxW hyH =>
          l03Pixel3_any p pe a c ss ae ce os x y w'' he hn (by omega) ((hx.trans hx'').cell hp) (RowOf.ext hm (hx.trans hx'')) ((hx.trans hx'').cell hpe) (hme.ext (hx.trans hx'')) hon e3 (by omega) (by omega) _ rfl
      clear hm hme hp hpe h1 h2 hn hsz hon q1 q2 q3 q4 he e2 e3
      show Calls _ _ _ _ (PicRet2 w (picRows (picW ss) ss.length (mkl (picW ss) ss.length fun x y => closeB (picW ss) ss.length (picL ss) os x y)) true)
      have HRL : Hid ((picRows (picW ss) ss.length (mkl (picW ss) ss.length fun x y => closeB (picW ss) ss.length (picL ss) os x y)).length = ss.length) := picRows_len _ _ _
      generalize picRows (picW ss) ss.length (mkl (picW ss) ss.length fun x y => closeB (picW ss) ss.length (picL ss) os x y) = R at *
      go_enter Try.func71, Try.ntmps71
      go_wp2_with fail
      refine (HIS.out _ (by repeat (first | exact World.Ext.refl _ | exact ⟨_, rfl⟩ | assumption | refine World.Ext.over ?_ _ | refine World.Ext.drewN ?_ _ | refine World.Ext.drew ?_ | refine World.Ext.alloc ?_ _ | refine World.Ext.setCell ?_ (by simp) _))).mono ?_
      rintro e w' ⟨rfl, x1, rfl⟩
      go_wp2_with fail
      refine (HIE.out _ (by repeat (first | exact World.Ext.refl _ | exact ⟨_, rfl⟩ | assumption | refine World.Ext.over ?_ _ | refine World.Ext.drewN ?_ _ | refine World.Ext.drew ?_ | refine World.Ext.alloc ?_ _ | refine World.Ext.setCell ?_ (by simp) _))).mono ?_
      rintro e w' ⟨rfl, x2, rfl⟩
      go_wp2_with fail
      refine (HMK.out _ (by repeat (first | exact World.Ext.refl _ | exact ⟨_, rfl⟩ | assumption | refine World.Ext.over ?_ _ | refine World.Ext.drewN ?_ _ | refine World.Ext.drew ?_ | refine World.Ext.alloc ?_ _ | refine World.Ext.setCell ?_ (by simp) _))).mono ?_
      rintro e w3 ⟨a3, c3, rfl, hx3, ho3⟩
      have hx0 : w.Ext (((w.alloc (.cells #[.slice none 0 0] 30)).over x1).over x2) := by repeat (first | exact World.Ext.refl _ | exact ⟨_, rfl⟩ | assumption | refine World.Ext.over ?_ _ | refine World.Ext.drewN ?_ _ | refine World.Ext.drew ?_ | refine World.Ext.alloc ?_ _ | refine World.Ext.setCell ?_ (by simp) _)
      have hres := (((One.new w (.slice none 0 0) 30 _ rfl).ext ⟨x1, rfl⟩).ext ⟨x2, rfl⟩).ext hx3
      have hlt : w.heap.size < (((w.alloc (.cells #[.slice none 0 0] 30)).over x1).over x2).heap.size := by simp; omega
      have hc4 := hres.cell
      have hf4 := hres.free
      have hx4 := (hx0.trans hx3).setCell (p := ⟨w.heap.size, 0, none⟩) (Nat.le_refl _) (.slice a3 ss.length c3)
      have ho4 := (ho3.wrote (S := fun b => b = w.heap.size) (Wrote.setCell (S := fun b => b = w.heap.size) (Wrote.refl _ w3) (p := ⟨w.heap.size, 0, none⟩) rfl (.slice a3 ss.length c3)) (fun k h1 h2 => by omega)).mono (lo' := w.heap.size) (hi' := (w3.setCell ⟨w.heap.size, 0, none⟩ (.slice a3 ss.length c3)).heap.size) (by omega) (by simp)
      have hr4 := (hres.set (.slice a3 ss.length c3)).cell
      have HX4 := Lib.hid hx4
      have HO4 := Lib.hid ho4
      clear hx4 ho4 hx3 ho3 hres hx0 hlt
      go_wp2
      exact bodyPost_ret (v := .tuple #[.agg #[.slice a3 ss.length c3], .bool true]) (by simp [results, Try.results71, go_sem, hr4]) rfl ⟨a3, c3, by rw [HRL.out], HX4.out, HO4.out⟩
end Go.Proofs.Ytpploijlijnahaa
