/- The reference's four pictures by an element. -/
import Derived.Test.YtpploijlijnahaaSBoth
namespace Go.Proofs.Ytpploijlijnahaa
open Go.RowKit
set_option maxHeartbeats 800000 in
theorem specDilate_any (a : Option Addr) (c : Nat) (ss : List ByteArray) (ae : Option Addr) (ce : Nat) (os : List (Int × Int)) (w : World) (hb : PicBnd ss) (hbe : PairBnd os) (hm : RowS w a ss) (hme : RowP w ae os) :
    Calls Try.prog 17 #[.agg #[.slice a ss.length c], .agg #[.slice ae os.length ce]] w (PicRet2 w (rowsIf ss (picOk ss && elemOk os) fun x y => someB (picW ss) ss.length (picL ss) os x y) (picOk ss && elemOk os)) := by
  have HC : Hid (∀ w', w.Ext w' → ∀ p pe : Nat, w'.cell? ⟨p, 0, none⟩ = some (.slice a ss.length c) → w'.cell? ⟨pe, 0, none⟩ = some (.slice ae os.length ce) →
      Calls Try.prog 71 #[.pointer (some ⟨p, 0, none⟩), .pointer (some ⟨pe, 0, none⟩), .int .i64 0] w' (PicRet2 w' (rowsIf ss (picOk ss && elemOk os) fun x y => someB (picW ss) ss.length (picL ss) os x y) (picOk ss && elemOk os))) :=
    fun w' hx p pe h1 h2 => l03Both0_any p pe a c ss ae ce os w' hb.1 hb.2 h1 (RowOf.ext hm hx) h2 (hme.ext hx) hbe
  clear hm hme hb hbe
  generalize rowsIf ss (picOk ss && elemOk os) (fun x y => someB (picW ss) ss.length (picL ss) os x y) = R at *
  generalize (picOk ss && elemOk os) = ok at *
  go_enter Try.func17, Try.ntmps17
  go_wp2_with fail
  refine (HC.out _ (by repeat (first | exact World.Ext.refl _ | exact ⟨_, rfl⟩ | assumption | refine World.Ext.over ?_ _ | refine World.Ext.drewN ?_ _ | refine World.Ext.drew ?_ | refine World.Ext.alloc ?_ _ | refine World.Ext.setCell ?_ (by simp) _)) _ _ (by simp [go_sem]) (by simp [go_sem])).mono ?_
  rintro e w3 ⟨a3, c3, rfl, hx3, ho3⟩
  have hx0 : w.Ext (((w.alloc (.cells #[.slice a ss.length c] 30)).alloc (.cells #[.slice ae os.length ce] 36)).alloc (.cells #[.slice none 0 0] 30)) := by repeat (first | exact World.Ext.refl _ | exact ⟨_, rfl⟩ | assumption | refine World.Ext.over ?_ _ | refine World.Ext.drewN ?_ _ | refine World.Ext.drew ?_ | refine World.Ext.alloc ?_ _ | refine World.Ext.setCell ?_ (by simp) _)
  have hres := (One.new ((w.alloc (.cells #[.slice a ss.length c] 30)).alloc (.cells #[.slice ae os.length ce] 36)) (.slice none 0 0) 30 (w.heap.size + 1 + 1) (by simp)).ext hx3
  have hlt : w.heap.size + 1 + 1 < (((w.alloc (.cells #[.slice a ss.length c] 30)).alloc (.cells #[.slice ae os.length ce] 36)).alloc (.cells #[.slice none 0 0] 30)).heap.size := by simp
  have hc4 := hres.cell
  have hf4 := hres.free
  have hx4 := (hx0.trans hx3).setCell (p := ⟨w.heap.size + 1 + 1, 0, none⟩) (by simp; omega) (.slice a3 R.length c3)
  have ho4 := (ho3.wrote (S := fun b => b = w.heap.size + 1 + 1) (Wrote.setCell (S := fun b => b = w.heap.size + 1 + 1) (Wrote.refl _ w3) (p := ⟨w.heap.size + 1 + 1, 0, none⟩) rfl (.slice a3 R.length c3)) (fun k h1 h2 => by omega)).mono (lo' := w.heap.size) (hi' := (w3.setCell ⟨w.heap.size + 1 + 1, 0, none⟩ (.slice a3 R.length c3)).heap.size) (by omega) (by simp)
  have hr4 := (hres.set (.slice a3 R.length c3)).cell
  have HX4 := Lib.hid hx4
  have HO4 := Lib.hid ho4
  clear hx4 ho4 hx3 ho3 hres hx0 hlt
  go_wp2
  exact bodyPost_ret (v := .tuple #[.agg #[.slice a3 R.length c3], .bool ok]) (by simp [results, Try.results17, go_sem, hr4]) rfl ⟨a3, c3, rfl, HX4.out, HO4.out⟩
set_option maxHeartbeats 800000 in
theorem specErode_any (a : Option Addr) (c : Nat) (ss : List ByteArray) (ae : Option Addr) (ce : Nat) (os : List (Int × Int)) (w : World) (hb : PicBnd ss) (hbe : PairBnd os) (hm : RowS w a ss) (hme : RowP w ae os) :
    Calls Try.prog 26 #[.agg #[.slice a ss.length c], .agg #[.slice ae os.length ce]] w (PicRet2 w (rowsIf ss (picOk ss && elemOk os) fun x y => fitsB (picW ss) ss.length (picL ss) os x y) (picOk ss && elemOk os)) := by
  have HC : Hid (∀ w', w.Ext w' → ∀ p pe : Nat, w'.cell? ⟨p, 0, none⟩ = some (.slice a ss.length c) → w'.cell? ⟨pe, 0, none⟩ = some (.slice ae os.length ce) →
      Calls Try.prog 71 #[.pointer (some ⟨p, 0, none⟩), .pointer (some ⟨pe, 0, none⟩), .int .i64 1] w' (PicRet2 w' (rowsIf ss (picOk ss && elemOk os) fun x y => fitsB (picW ss) ss.length (picL ss) os x y) (picOk ss && elemOk os))) :=
    fun w' hx p pe h1 h2 => l03Both1_any p pe a c ss ae ce os w' hb.1 hb.2 h1 (RowOf.ext hm hx) h2 (hme.ext hx) hbe
  clear hm hme hb hbe
  generalize rowsIf ss (picOk ss && elemOk os) (fun x y => fitsB (picW ss) ss.length (picL ss) os x y) = R at *
  generalize (picOk ss && elemOk os) = ok at *
  go_enter Try.func26, Try.ntmps26
  go_wp2_with fail
  refine (HC.out _ (by repeat (first | exact World.Ext.refl _ | exact ⟨_, rfl⟩ | assumption | refine World.Ext.over ?_ _ | refine World.Ext.drewN ?_ _ | refine World.Ext.drew ?_ | refine World.Ext.alloc ?_ _ | refine World.Ext.setCell ?_ (by simp) _)) _ _ (by simp [go_sem]) (by simp [go_sem])).mono ?_
  rintro e w3 ⟨a3, c3, rfl, hx3, ho3⟩
  have hx0 : w.Ext (((w.alloc (.cells #[.slice a ss.length c] 30)).alloc (.cells #[.slice ae os.length ce] 36)).alloc (.cells #[.slice none 0 0] 30)) := by repeat (first | exact World.Ext.refl _ | exact ⟨_, rfl⟩ | assumption | refine World.Ext.over ?_ _ | refine World.Ext.drewN ?_ _ | refine World.Ext.drew ?_ | refine World.Ext.alloc ?_ _ | refine World.Ext.setCell ?_ (by simp) _)
  have hres := (One.new ((w.alloc (.cells #[.slice a ss.length c] 30)).alloc (.cells #[.slice ae os.length ce] 36)) (.slice none 0 0) 30 (w.heap.size + 1 + 1) (by simp)).ext hx3
  have hlt : w.heap.size + 1 + 1 < (((w.alloc (.cells #[.slice a ss.length c] 30)).alloc (.cells #[.slice ae os.length ce] 36)).alloc (.cells #[.slice none 0 0] 30)).heap.size := by simp
  have hc4 := hres.cell
  have hf4 := hres.free
  have hx4 := (hx0.trans hx3).setCell (p := ⟨w.heap.size + 1 + 1, 0, none⟩) (by simp; omega) (.slice a3 R.length c3)
  have ho4 := (ho3.wrote (S := fun b => b = w.heap.size + 1 + 1) (Wrote.setCell (S := fun b => b = w.heap.size + 1 + 1) (Wrote.refl _ w3) (p := ⟨w.heap.size + 1 + 1, 0, none⟩) rfl (.slice a3 R.length c3)) (fun k h1 h2 => by omega)).mono (lo' := w.heap.size) (hi' := (w3.setCell ⟨w.heap.size + 1 + 1, 0, none⟩ (.slice a3 R.length c3)).heap.size) (by omega) (by simp)
  have hr4 := (hres.set (.slice a3 R.length c3)).cell
  have HX4 := Lib.hid hx4
  have HO4 := Lib.hid ho4
  clear hx4 ho4 hx3 ho3 hres hx0 hlt
  go_wp2
  exact bodyPost_ret (v := .tuple #[.agg #[.slice a3 R.length c3], .bool ok]) (by simp [results, Try.results26, go_sem, hr4]) rfl ⟨a3, c3, rfl, HX4.out, HO4.out⟩
set_option maxHeartbeats 800000 in
theorem specOpen_any (a : Option Addr) (c : Nat) (ss : List ByteArray) (ae : Option Addr) (ce : Nat) (os : List (Int × Int)) (w : World) (hb : PicBnd ss) (hbe : PairBnd os) (hm : RowS w a ss) (hme : RowP w ae os) :
    Calls Try.prog 28 #[.agg #[.slice a ss.length c], .agg #[.slice ae os.length ce]] w (PicRet2 w (rowsIf ss (picOk ss && elemOk os) fun x y => openB (picW ss) ss.length (picL ss) os x y) (picOk ss && elemOk os)) := by
  have HC : Hid (∀ w', w.Ext w' → ∀ p pe : Nat, w'.cell? ⟨p, 0, none⟩ = some (.slice a ss.length c) → w'.cell? ⟨pe, 0, none⟩ = some (.slice ae os.length ce) →
      Calls Try.prog 71 #[.pointer (some ⟨p, 0, none⟩), .pointer (some ⟨pe, 0, none⟩), .int .i64 2] w' (PicRet2 w' (rowsIf ss (picOk ss && elemOk os) fun x y => openB (picW ss) ss.length (picL ss) os x y) (picOk ss && elemOk os))) :=
    fun w' hx p pe h1 h2 => l03Both2_any p pe a c ss ae ce os w' hb.1 hb.2 h1 (RowOf.ext hm hx) h2 (hme.ext hx) hbe
  clear hm hme hb hbe
  generalize rowsIf ss (picOk ss && elemOk os) (fun x y => openB (picW ss) ss.length (picL ss) os x y) = R at *
  generalize (picOk ss && elemOk os) = ok at *
  go_enter Try.func28, Try.ntmps28
  go_wp2_with fail
  refine (HC.out _ (by repeat (first | exact World.Ext.refl _ | exact ⟨_, rfl⟩ | assumption | refine World.Ext.over ?_ _ | refine World.Ext.drewN ?_ _ | refine World.Ext.drew ?_ | refine World.Ext.alloc ?_ _ | refine World.Ext.setCell ?_ (by simp) _)) _ _ (by simp [go_sem]) (by simp [go_sem])).mono ?_
  rintro e w3 ⟨a3, c3, rfl, hx3, ho3⟩
  have hx0 : w.Ext (((w.alloc (.cells #[.slice a ss.length c] 30)).alloc (.cells #[.slice ae os.length ce] 36)).alloc (.cells #[.slice none 0 0] 30)) := by repeat (first | exact World.Ext.refl _ | exact ⟨_, rfl⟩ | assumption | refine World.Ext.over ?_ _ | refine World.Ext.drewN ?_ _ | refine World.Ext.drew ?_ | refine World.Ext.alloc ?_ _ | refine World.Ext.setCell ?_ (by simp) _)
  have hres := (One.new ((w.alloc (.cells #[.slice a ss.length c] 30)).alloc (.cells #[.slice ae os.length ce] 36)) (.slice none 0 0) 30 (w.heap.size + 1 + 1) (by simp)).ext hx3
  have hlt : w.heap.size + 1 + 1 < (((w.alloc (.cells #[.slice a ss.length c] 30)).alloc (.cells #[.slice ae os.length ce] 36)).alloc (.cells #[.slice none 0 0] 30)).heap.size := by simp
  have hc4 := hres.cell
  have hf4 := hres.free
  have hx4 := (hx0.trans hx3).setCell (p := ⟨w.heap.size + 1 + 1, 0, none⟩) (by simp; omega) (.slice a3 R.length c3)
  have ho4 := (ho3.wrote (S := fun b => b = w.heap.size + 1 + 1) (Wrote.setCell (S := fun b => b = w.heap.size + 1 + 1) (Wrote.refl _ w3) (p := ⟨w.heap.size + 1 + 1, 0, none⟩) rfl (.slice a3 R.length c3)) (fun k h1 h2 => by omega)).mono (lo' := w.heap.size) (hi' := (w3.setCell ⟨w.heap.size + 1 + 1, 0, none⟩ (.slice a3 R.length c3)).heap.size) (by omega) (by simp)
  have hr4 := (hres.set (.slice a3 R.length c3)).cell
  have HX4 := Lib.hid hx4
  have HO4 := Lib.hid ho4
  clear hx4 ho4 hx3 ho3 hres hx0 hlt
  go_wp2
  exact bodyPost_ret (v := .tuple #[.agg #[.slice a3 R.length c3], .bool ok]) (by simp [results, Try.results28, go_sem, hr4]) rfl ⟨a3, c3, rfl, HX4.out, HO4.out⟩
set_option maxHeartbeats 800000 in
theorem specClose_any (a : Option Addr) (c : Nat) (ss : List ByteArray) (ae : Option Addr) (ce : Nat) (os : List (Int × Int)) (w : World) (hb : PicBnd ss) (hbe : PairBnd os) (hm : RowS w a ss) (hme : RowP w ae os) :
    Calls Try.prog 30 #[.agg #[.slice a ss.length c], .agg #[.slice ae os.length ce]] w (PicRet2 w (rowsIf ss (picOk ss && elemOk os) fun x y => closeB (picW ss) ss.length (picL ss) os x y) (picOk ss && elemOk os)) := by
  have HC : Hid (∀ w', w.Ext w' → ∀ p pe : Nat, w'.cell? ⟨p, 0, none⟩ = some (.slice a ss.length c) → w'.cell? ⟨pe, 0, none⟩ = some (.slice ae os.length ce) →
      Calls Try.prog 71 #[.pointer (some ⟨p, 0, none⟩), .pointer (some ⟨pe, 0, none⟩), .int .i64 3] w' (PicRet2 w' (rowsIf ss (picOk ss && elemOk os) fun x y => closeB (picW ss) ss.length (picL ss) os x y) (picOk ss && elemOk os))) :=
    fun w' hx p pe h1 h2 => l03Both3_any p pe a c ss ae ce os w' hb.1 hb.2 h1 (RowOf.ext hm hx) h2 (hme.ext hx) hbe
  clear hm hme hb hbe
  generalize rowsIf ss (picOk ss && elemOk os) (fun x y => closeB (picW ss) ss.length (picL ss) os x y) = R at *
  generalize (picOk ss && elemOk os) = ok at *
  go_enter Try.func30, Try.ntmps30
  go_wp2_with fail
  refine (HC.out _ (by repeat (first | exact World.Ext.refl _ | exact ⟨_, rfl⟩ | assumption | refine World.Ext.over ?_ _ | refine World.Ext.drewN ?_ _ | refine World.Ext.drew ?_ | refine World.Ext.alloc ?_ _ | refine World.Ext.setCell ?_ (by simp) _)) _ _ (by simp [go_sem]) (by simp [go_sem])).mono ?_
  rintro e w3 ⟨a3, c3, rfl, hx3, ho3⟩
  have hx0 : w.Ext (((w.alloc (.cells #[.slice a ss.length c] 30)).alloc (.cells #[.slice ae os.length ce] 36)).alloc (.cells #[.slice none 0 0] 30)) := by repeat (first | exact World.Ext.refl _ | exact ⟨_, rfl⟩ | assumption | refine World.Ext.over ?_ _ | refine World.Ext.drewN ?_ _ | refine World.Ext.drew ?_ | refine World.Ext.alloc ?_ _ | refine World.Ext.setCell ?_ (by simp) _)
  have hres := (One.new ((w.alloc (.cells #[.slice a ss.length c] 30)).alloc (.cells #[.slice ae os.length ce] 36)) (.slice none 0 0) 30 (w.heap.size + 1 + 1) (by simp)).ext hx3
  have hlt : w.heap.size + 1 + 1 < (((w.alloc (.cells #[.slice a ss.length c] 30)).alloc (.cells #[.slice ae os.length ce] 36)).alloc (.cells #[.slice none 0 0] 30)).heap.size := by simp
  have hc4 := hres.cell
  have hf4 := hres.free
  have hx4 := (hx0.trans hx3).setCell (p := ⟨w.heap.size + 1 + 1, 0, none⟩) (by simp; omega) (.slice a3 R.length c3)
  have ho4 := (ho3.wrote (S := fun b => b = w.heap.size + 1 + 1) (Wrote.setCell (S := fun b => b = w.heap.size + 1 + 1) (Wrote.refl _ w3) (p := ⟨w.heap.size + 1 + 1, 0, none⟩) rfl (.slice a3 R.length c3)) (fun k h1 h2 => by omega)).mono (lo' := w.heap.size) (hi' := (w3.setCell ⟨w.heap.size + 1 + 1, 0, none⟩ (.slice a3 R.length c3)).heap.size) (by omega) (by simp)
  have hr4 := (hres.set (.slice a3 R.length c3)).cell
  have HX4 := Lib.hid hx4
  have HO4 := Lib.hid ho4
  clear hx4 ho4 hx3 ho3 hres hx0 hlt
  go_wp2
  exact bodyPost_ret (v := .tuple #[.agg #[.slice a3 R.length c3], .bool ok]) (by simp [results, Try.results30, go_sem, hr4]) rfl ⟨a3, c3, rfl, HX4.out, HO4.out⟩
end Go.Proofs.Ytpploijlijnahaa
