/- The program's four pictures by an element, and what the laws on them read. -/
import Derived.Test.YtpploijlijnahaaIWithE
import Derived.Test.YtpploijlijnahaaSDil
namespace Go.Proofs.Ytpploijlijnahaa
open Go.RowKit
theorem optRows_and (a b : Bool) (R : List ByteArray) : optRows (a && (b && true)) R = optRows (b && a) R := by cases a <;> cases b <;> rfl
theorem rowsIf_opt (ss : List ByteArray) (ok : Bool) (g : Nat → Nat → Bool) : rowsIf ss ok g = optRows ok (picRows (picW ss) ss.length (mkl (picW ss) ss.length g)) := rfl
theorem optRows_le (ok : Bool) (W H : Nat) (l : List Bool) (h : H ≤ 1048576) : (optRows ok (picRows W H l)).length ≤ 1048576 := by
  cases ok
  · simp [optRows]
  · simp [optRows, picRows_len, h]
theorem enters_dilated : Enters 75 := enters_of Try.func75 (by kernel_rfl) (by kernel_rfl)
set_option maxHeartbeats 800000 in
theorem implDilate_any (a : Option Addr) (c : Nat) (ss : List ByteArray) (ae : Option Addr) (ce : Nat) (os : List (Int × Int)) (w : World) (hb : PicBnd ss) (hbe : PairBnd os) (hm : RowS w a ss) (hme : RowP w ae os) :
    Calls Try.prog 20 #[.agg #[.slice a ss.length c], .agg #[.slice ae os.length ce]] w (PicRet2 w (rowsIf ss (picOk ss && elemOk os) fun x y => someB (picW ss) ss.length (picL ss) os x y) (picOk ss && elemOk os)) := by
  have hx0 : w.Ext (((w.alloc (.cells #[.slice a ss.length c] 30)).alloc (.cells #[.slice ae os.length ce] 36)).alloc (.cells #[.slice none 0 0] 30)) := by repeat (first | exact World.Ext.refl _ | exact ⟨_, rfl⟩ | assumption | refine World.Ext.over ?_ _ | refine World.Ext.drewN ?_ _ | refine World.Ext.drew ?_ | refine World.Ext.alloc ?_ _ | refine World.Ext.setCell ?_ (by simp) _)
  have hcr : One (((w.alloc (.cells #[.slice a ss.length c] 30)).alloc (.cells #[.slice ae os.length ce] 36)).alloc (.cells #[.slice none 0 0] 30)) (w.heap.size + 1 + 1) 30 (.slice none 0 0) := One.new _ _ _ _ (by simp)
  have HW := Lib.hid (withElement_any a c 75 #[] ss ae ce os true (picW ss) ss.length (mkl (picW ss) ss.length fun x y => someB (picW ss) ss.length (picL ss) os x y) _ hb.1 hb.2 (hm.ext hx0) hbe (hme.ext hx0) enters_dilated
    (fun h _ => by obtain ⟨q1, q2, q3, q4, _⟩ := picOk_spec h; omega)
    (fun w' b ab he hp hx hI => by
      obtain ⟨q1, q2, q3, q4, _⟩ := picOk_spec hp
      obtain ⟨_, _, e3⟩ := elemOk_spec he
      exact dilated_any b ab _ _ _ ae ce os w' (by omega) (by omega) hI hbe (hme.ext (hx0.trans hx)) e3))
  rw [optRows_and, Bool.and_true, Bool.and_comm (elemOk os), ← rowsIf_opt] at HW
  have H0 := Lib.hid (And.intro hx0 hcr)
  clear hb hbe hm hme hx0 hcr
  generalize rowsIf ss (picOk ss && elemOk os) (fun x y => someB (picW ss) ss.length (picL ss) os x y) = R at *
  generalize (picOk ss && elemOk os) = ok at *
  go_enter Try.func20, Try.ntmps20
  go_wp2_with fail
  refine HW.out.mono ?_
  rintro e w2 ⟨a3, c3, rfl, hx3, ho3⟩
  obtain ⟨r1, r2, r3, HR⟩ := Res.store (.slice a3 R.length c3) (H0.out.1.trans hx3) (by omega) (H0.out.2.ext hx3) H0.out.2.lt ho3
  clear hx3 ho3
  go_wp2
  exact bodyPost_ret (v := .tuple #[.agg #[.slice a3 R.length c3], .bool ok]) (by simp [results, Try.results20, go_sem, r3]) rfl ⟨a3, c3, rfl, HR.out.1, HR.out.2⟩
theorem enters_eroded : Enters 81 := enters_of Try.func81 (by kernel_rfl) (by kernel_rfl)
set_option maxHeartbeats 800000 in
theorem implErode_any (a : Option Addr) (c : Nat) (ss : List ByteArray) (ae : Option Addr) (ce : Nat) (os : List (Int × Int)) (w : World) (hb : PicBnd ss) (hbe : PairBnd os) (hm : RowS w a ss) (hme : RowP w ae os) :
    Calls Try.prog 27 #[.agg #[.slice a ss.length c], .agg #[.slice ae os.length ce]] w (PicRet2 w (rowsIf ss (picOk ss && elemOk os) fun x y => fitsB (picW ss) ss.length (picL ss) os x y) (picOk ss && elemOk os)) := by
  have hx0 : w.Ext (((w.alloc (.cells #[.slice a ss.length c] 30)).alloc (.cells #[.slice ae os.length ce] 36)).alloc (.cells #[.slice none 0 0] 30)) := by repeat (first | exact World.Ext.refl _ | exact ⟨_, rfl⟩ | assumption | refine World.Ext.over ?_ _ | refine World.Ext.drewN ?_ _ | refine World.Ext.drew ?_ | refine World.Ext.alloc ?_ _ | refine World.Ext.setCell ?_ (by simp) _)
  have hcr : One (((w.alloc (.cells #[.slice a ss.length c] 30)).alloc (.cells #[.slice ae os.length ce] 36)).alloc (.cells #[.slice none 0 0] 30)) (w.heap.size + 1 + 1) 30 (.slice none 0 0) := One.new _ _ _ _ (by simp)
  have HW := Lib.hid (withElement_any a c 81 #[] ss ae ce os true (picW ss) ss.length (mkl (picW ss) ss.length fun x y => fitsB (picW ss) ss.length (picL ss) os x y) _ hb.1 hb.2 (hm.ext hx0) hbe (hme.ext hx0) enters_eroded
    (fun h _ => by obtain ⟨q1, q2, q3, q4, _⟩ := picOk_spec h; omega)
    (fun w' b ab he hp hx hI => by
      obtain ⟨q1, q2, q3, q4, _⟩ := picOk_spec hp
      obtain ⟨_, _, e3⟩ := elemOk_spec he
      exact eroded_any b ab _ _ _ ae ce os w' (by omega) (by omega) hI hbe (hme.ext (hx0.trans hx)) e3))
  rw [optRows_and, Bool.and_true, Bool.and_comm (elemOk os), ← rowsIf_opt] at HW
  have H0 := Lib.hid (And.intro hx0 hcr)
  clear hb hbe hm hme hx0 hcr
  generalize rowsIf ss (picOk ss && elemOk os) (fun x y => fitsB (picW ss) ss.length (picL ss) os x y) = R at *
  generalize (picOk ss && elemOk os) = ok at *
  go_enter Try.func27, Try.ntmps27
  go_wp2_with fail
  refine HW.out.mono ?_
  rintro e w2 ⟨a3, c3, rfl, hx3, ho3⟩
  obtain ⟨r1, r2, r3, HR⟩ := Res.store (.slice a3 R.length c3) (H0.out.1.trans hx3) (by omega) (H0.out.2.ext hx3) H0.out.2.lt ho3
  clear hx3 ho3
  go_wp2
  exact bodyPost_ret (v := .tuple #[.agg #[.slice a3 R.length c3], .bool ok]) (by simp [results, Try.results27, go_sem, r3]) rfl ⟨a3, c3, rfl, HR.out.1, HR.out.2⟩
theorem enters_opened : Enters 82 := enters_of Try.func82 (by kernel_rfl) (by kernel_rfl)
set_option maxHeartbeats 800000 in
theorem implOpen_any (a : Option Addr) (c : Nat) (ss : List ByteArray) (ae : Option Addr) (ce : Nat) (os : List (Int × Int)) (w : World) (hb : PicBnd ss) (hbe : PairBnd os) (hm : RowS w a ss) (hme : RowP w ae os) :
    Calls Try.prog 29 #[.agg #[.slice a ss.length c], .agg #[.slice ae os.length ce]] w (PicRet2 w (rowsIf ss (picOk ss && elemOk os) fun x y => openB (picW ss) ss.length (picL ss) os x y) (picOk ss && elemOk os)) := by
  have hx0 : w.Ext (((w.alloc (.cells #[.slice a ss.length c] 30)).alloc (.cells #[.slice ae os.length ce] 36)).alloc (.cells #[.slice none 0 0] 30)) := by repeat (first | exact World.Ext.refl _ | exact ⟨_, rfl⟩ | assumption | refine World.Ext.over ?_ _ | refine World.Ext.drewN ?_ _ | refine World.Ext.drew ?_ | refine World.Ext.alloc ?_ _ | refine World.Ext.setCell ?_ (by simp) _)
  have hcr : One (((w.alloc (.cells #[.slice a ss.length c] 30)).alloc (.cells #[.slice ae os.length ce] 36)).alloc (.cells #[.slice none 0 0] 30)) (w.heap.size + 1 + 1) 30 (.slice none 0 0) := One.new _ _ _ _ (by simp)
  have HW := Lib.hid (withElement_any a c 82 #[] ss ae ce os true (picW ss) ss.length (mkl (picW ss) ss.length fun x y => openB (picW ss) ss.length (picL ss) os x y) _ hb.1 hb.2 (hm.ext hx0) hbe (hme.ext hx0) enters_opened
    (fun h _ => by obtain ⟨q1, q2, q3, q4, _⟩ := picOk_spec h; omega)
    (fun w' b ab he hp hx hI => by
      obtain ⟨q1, q2, q3, q4, _⟩ := picOk_spec hp
      obtain ⟨_, _, e3⟩ := elemOk_spec he
      exact opened_any b ab _ _ _ ae ce os w' (by omega) (by omega) hI hbe (hme.ext (hx0.trans hx)) e3))
  rw [optRows_and, Bool.and_true, Bool.and_comm (elemOk os), ← rowsIf_opt] at HW
  have H0 := Lib.hid (And.intro hx0 hcr)
  clear hb hbe hm hme hx0 hcr
  generalize rowsIf ss (picOk ss && elemOk os) (fun x y => openB (picW ss) ss.length (picL ss) os x y) = R at *
  generalize (picOk ss && elemOk os) = ok at *
  go_enter Try.func29, Try.ntmps29
  go_wp2_with fail
  refine HW.out.mono ?_
  rintro e w2 ⟨a3, c3, rfl, hx3, ho3⟩
  obtain ⟨r1, r2, r3, HR⟩ := Res.store (.slice a3 R.length c3) (H0.out.1.trans hx3) (by omega) (H0.out.2.ext hx3) H0.out.2.lt ho3
  clear hx3 ho3
  go_wp2
  exact bodyPost_ret (v := .tuple #[.agg #[.slice a3 R.length c3], .bool ok]) (by simp [results, Try.results29, go_sem, r3]) rfl ⟨a3, c3, rfl, HR.out.1, HR.out.2⟩
theorem enters_closed : Enters 83 := enters_of Try.func83 (by kernel_rfl) (by kernel_rfl)
set_option maxHeartbeats 800000 in
theorem implClose_any (a : Option Addr) (c : Nat) (ss : List ByteArray) (ae : Option Addr) (ce : Nat) (os : List (Int × Int)) (w : World) (hb : PicBnd ss) (hbe : PairBnd os) (hm : RowS w a ss) (hme : RowP w ae os) :
    Calls Try.prog 31 #[.agg #[.slice a ss.length c], .agg #[.slice ae os.length ce]] w (PicRet2 w (rowsIf ss (picOk ss && elemOk os) fun x y => closeB (picW ss) ss.length (picL ss) os x y) (picOk ss && elemOk os)) := by
  have hx0 : w.Ext (((w.alloc (.cells #[.slice a ss.length c] 30)).alloc (.cells #[.slice ae os.length ce] 36)).alloc (.cells #[.slice none 0 0] 30)) := by repeat (first | exact World.Ext.refl _ | exact ⟨_, rfl⟩ | assumption | refine World.Ext.over ?_ _ | refine World.Ext.drewN ?_ _ | refine World.Ext.drew ?_ | refine World.Ext.alloc ?_ _ | refine World.Ext.setCell ?_ (by simp) _)
  have hcr : One (((w.alloc (.cells #[.slice a ss.length c] 30)).alloc (.cells #[.slice ae os.length ce] 36)).alloc (.cells #[.slice none 0 0] 30)) (w.heap.size + 1 + 1) 30 (.slice none 0 0) := One.new _ _ _ _ (by simp)
  have HW := Lib.hid (withElement_any a c 83 #[] ss ae ce os true (picW ss) ss.length (mkl (picW ss) ss.length fun x y => closeB (picW ss) ss.length (picL ss) os x y) _ hb.1 hb.2 (hm.ext hx0) hbe (hme.ext hx0) enters_closed
    (fun h _ => by obtain ⟨q1, q2, q3, q4, _⟩ := picOk_spec h; omega)
    (fun w' b ab he hp hx hI => by
      obtain ⟨q1, q2, q3, q4, _⟩ := picOk_spec hp
      obtain ⟨_, _, e3⟩ := elemOk_spec he
      exact closed_any b ab _ _ _ ae ce os w' (by omega) (by omega) hI hbe (hme.ext (hx0.trans hx)) e3))
  rw [optRows_and, Bool.and_true, Bool.and_comm (elemOk os), ← rowsIf_opt] at HW
  have H0 := Lib.hid (And.intro hx0 hcr)
  clear hb hbe hm hme hx0 hcr
  generalize rowsIf ss (picOk ss && elemOk os) (fun x y => closeB (picW ss) ss.length (picL ss) os x y) = R at *
  generalize (picOk ss && elemOk os) = ok at *
  go_enter Try.func31, Try.ntmps31
  go_wp2_with fail
  refine HW.out.mono ?_
  rintro e w2 ⟨a3, c3, rfl, hx3, ho3⟩
  obtain ⟨r1, r2, r3, HR⟩ := Res.store (.slice a3 R.length c3) (H0.out.1.trans hx3) (by omega) (H0.out.2.ext hx3) H0.out.2.lt ho3
  clear hx3 ho3
  go_wp2
  exact bodyPost_ret (v := .tuple #[.agg #[.slice a3 R.length c3], .bool ok]) (by simp [results, Try.results31, go_sem, r3]) rfl ⟨a3, c3, rfl, HR.out.1, HR.out.2⟩
end Go.Proofs.Ytpploijlijnahaa
