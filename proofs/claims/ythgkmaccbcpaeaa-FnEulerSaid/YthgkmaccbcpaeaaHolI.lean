/- CountHoles and EulerNumber, the program's. -/
import Derived.Test.YthgkmaccbcpaeaaHolF
import Derived.Test.YthgkmaccbcpaeaaAreF
namespace Go.Proofs.Ythgkmaccbcpaeaa
open Go Go.RowKit
set_option maxRecDepth 5000 in
set_option maxHeartbeats 1600000 in
theorem implCountHoles_any (a : Option Addr) (c : Nat) (ss : List ByteArray) (eight : Bool) (n : Nat) (hn : HolN (picW ss) ss.length (picL ss) eight n) (w : World) (hb : PicBnd ss) (hm : RowS w a ss) :
    Calls Try.prog 42 #[.agg #[.slice a ss.length c], .bool eight] w fun e w' => e = .returned (.tuple #[.int .i64 (optI (picOk ss) ((n : Int) - 1)), .bool (picOk ss)]) ∧ w.Ext w' := by
  obtain ⟨W0, hW0⟩ : ∃ W0, W0 = w.alloc (.cells #[.slice a ss.length c] 26) := ⟨_, rfl⟩
  have hx0 : w.Ext W0 := by rw [hW0]; repeat (first | exact World.Ext.refl _ | exact ⟨_, rfl⟩ | assumption | refine World.Ext.over ?_ _ | refine World.Ext.drewN ?_ _ | refine World.Ext.drew ?_ | refine World.Ext.alloc ?_ _ | refine World.Ext.setCell ?_ (by simp) _)
  have HIO : Hid (Calls Try.prog 72 #[.agg #[.slice a ss.length c]] W0 (ImgOf W0 ss (picOk ss))) := imageOf_any a c ss W0 hb.1 hb.2 (hm.ext hx0) _ rfl
  have HX0 := Lib.hid hx0
  cases h : picOk ss
  · rw [h] at HIO
    clear hb hm hx0 h hn
    show Calls _ _ _ _ (fun e w' => e = .returned (.tuple #[.int .i64 0, .bool false]) ∧ w.Ext w')
    go_enter Try.func42, Try.ntmps42
    go_wp2_with fail
    rw [← hW0]
    refine HIO.out.mono ?_
    rintro e w1 ⟨rfl, hx1⟩
    have HX := Lib.hid (HX0.out.trans hx1)
    clear hx1 hW0
    go_wp2
    go_ret2
    exact ⟨rfl, HX.out⟩
  · rw [h] at HIO
    obtain ⟨v1, v2, v3, v4, e1, -⟩ := picOk_spec h
    have HHO : Hid (∀ w' b ab, Img w' b ab (picW ss) ss.length (picL ss) → Calls Try.prog 117 #[.pointer (some ⟨b, 0, none⟩), .bool eight] w' fun e w'' => e = .returned (.int .i64 ((n : Int) - 1)) ∧ w'.Ext w'') := fun w' b ab hI => holes_any b ab _ _ _ eight n hn w' (by omega) (by omega) hI
    clear hb hm hx0 h hn v1 v2 v3 v4 e1
    show Calls _ _ _ _ (fun e w' => e = .returned (.tuple #[.int .i64 ((n : Int) - 1), .bool true]) ∧ w.Ext w')
    go_enter Try.func42, Try.ntmps42
    go_wp2_with fail
    rw [← hW0]
    refine HIO.out.mono ?_
    rintro e w1 ⟨b1, ab1, rfl, hx1, hi1, -, -⟩
    have HIM := Lib.hid hi1
    have HX1 := Lib.hid (HX0.out.trans hx1)
    clear hi1 hx1 hW0
    go_wp2_with fail
    refine (HHO.out w1 b1 ab1 HIM.out).mono ?_
    rintro e w3 ⟨rfl, hx3⟩
    have HX := Lib.hid (HX1.out.trans hx3)
    clear hx3
    go_wp2
    go_ret2
    exact ⟨rfl, HX.out⟩
set_option maxRecDepth 5000 in
set_option maxHeartbeats 1600000 in
theorem implEulerNumber_any (a : Option Addr) (c : Nat) (ss : List ByteArray) (eight : Bool) (m n : Nat) (hk : LabN (picW ss) ss.length (picL ss) eight m) (hn : HolN (picW ss) ss.length (picL ss) eight n) (w : World) (hb : PicBnd ss) (hm : RowS w a ss) :
    Calls Try.prog 43 #[.agg #[.slice a ss.length c], .bool eight] w fun e w' => e = .returned (.tuple #[.int .i64 (optI (picOk ss) ((m : Int) - ((n : Int) - 1))), .bool (picOk ss)]) ∧ w.Ext w' := by
  obtain ⟨W0, hW0⟩ : ∃ W0, W0 = w.alloc (.cells #[.slice a ss.length c] 26) := ⟨_, rfl⟩
  have hx0 : w.Ext W0 := by rw [hW0]; repeat (first | exact World.Ext.refl _ | exact ⟨_, rfl⟩ | assumption | refine World.Ext.over ?_ _ | refine World.Ext.drewN ?_ _ | refine World.Ext.drew ?_ | refine World.Ext.alloc ?_ _ | refine World.Ext.setCell ?_ (by simp) _)
  have HIO : Hid (Calls Try.prog 72 #[.agg #[.slice a ss.length c]] W0 (ImgOf W0 ss (picOk ss))) := imageOf_any a c ss W0 hb.1 hb.2 (hm.ext hx0) _ rfl
  have HX0 := Lib.hid hx0
  cases h : picOk ss
  · rw [h] at HIO
    clear hb hm hx0 h hn hk
    show Calls _ _ _ _ (fun e w' => e = .returned (.tuple #[.int .i64 0, .bool false]) ∧ w.Ext w')
    go_enter Try.func43, Try.ntmps43
    go_wp2_with fail
    rw [← hW0]
    refine HIO.out.mono ?_
    rintro e w1 ⟨rfl, hx1⟩
    have HX := Lib.hid (HX0.out.trans hx1)
    clear hx1 hW0
    go_wp2
    go_ret2
    exact ⟨rfl, HX.out⟩
  · rw [h] at HIO
    obtain ⟨v1, v2, v3, v4, e1, -⟩ := picOk_spec h
    have hm4 : m ≤ 4096 := Nat.le_trans hk.few (Nat.mul_le_mul (show ss.length ≤ 64 by omega) (show picW ss ≤ 64 by omega))
    have hn4 : n ≤ 4096 := Nat.le_trans (LabN.few hn) (Nat.mul_le_mul (show ss.length + 2 ≤ 64 by omega) (show picW ss + 2 ≤ 64 by omega))
    obtain ⟨F, hF⟩ := hk
    have HLB : Hid (∀ w' b ab, Img w' b ab (picW ss) ss.length (picL ss) → Calls Try.prog 114 #[.pointer (some ⟨b, 0, none⟩), .bool eight] w' (LabRet w' F m)) := fun w' b ab hI => labels_any b ab _ _ _ eight F m w' (by omega) (by omega) hI hF
    have HHO : Hid (∀ w' b ab, Img w' b ab (picW ss) ss.length (picL ss) → Calls Try.prog 117 #[.pointer (some ⟨b, 0, none⟩), .bool eight] w' fun e w'' => e = .returned (.int .i64 ((n : Int) - 1)) ∧ w'.Ext w'') := fun w' b ab hI => holes_any b ab _ _ _ eight n hn w' (by omega) (by omega) hI
    clear hb hm hx0 h hn v1 v2 v3 v4 e1 hF
    show Calls _ _ _ _ (fun e w' => e = .returned (.tuple #[.int .i64 ((m : Int) - ((n : Int) - 1)), .bool true]) ∧ w.Ext w')
    go_enter Try.func43, Try.ntmps43
    go_wp2_with fail
    rw [← hW0]
    refine HIO.out.mono ?_
    rintro e w1 ⟨b1, ab1, rfl, hx1, hi1, -, -⟩
    have HIM := Lib.hid hi1
    have HX1 := Lib.hid (HX0.out.trans hx1)
    clear hi1 hx1 hW0
    go_wp2_with fail
    refine (HLB.out w1 b1 ab1 HIM.out).mono ?_
    rintro e w2 ⟨bm, rfl, hx2, -, -⟩
    go_wp2_with fail
    refine (HHO.out w2 b1 ab1 (HIM.out.ext hx2)).mono ?_
    rintro e w3 ⟨rfl, hx3⟩
    have HX := Lib.hid (HX1.out.trans (hx2.trans hx3))
    clear hx2 hx3
    go_wp2
    go_ret2
    exact ⟨rfl, HX.out⟩
end Go.Proofs.Ythgkmaccbcpaeaa
