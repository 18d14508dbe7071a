/- Numbers of black pixels; DistancesOf. -/
import Derived.Test.YtpdmfnndegcjjaaDepF
namespace Go.Proofs.Ytpdmfnndegcjjaa
open Go.RowKit
theorem spotsTo_count {W : Nat} {l : List Bool} {k : Nat} : (spotsTo W l (k + 1)).length = (spotsTo W l k).length + (if l.getD k false then 1 else 0) := by
  unfold spotsTo
  rw [List.range_succ, List.filter_append, List.map_append, List.length_append]
  cases h : l.getD k false
  · rw [List.filter_cons_of_neg (by rw [h]; decide)]; simp
  · rw [List.filter_cons_of_pos (by rw [h])]; simp
set_option maxHeartbeats 400000 in
theorem count_any (b ab W H : Nat) (l : List Bool) (w : World) (hW : W ≤ 64) (hH : H ≤ 64) (hI : Img w b ab W H l) :
    Calls Try.prog 152 #[.pointer (some ⟨b, 0, none⟩)] w fun e w' => e = .returned (.int .i64 (spotsTo W l (H * W)).length) ∧ w.Ext w' := by
  have HS := Lib.hid (spots_any b ab W H l w hW hH hI)
  have hn : (spotsTo W l (H * W)).length ≤ 4096 := Nat.le_trans (spotsTo_len _ _ _) (Nat.mul_le_mul hH hW)
  clear hI
  generalize spotsTo W l (H * W) = ps at *
  go_enter Try.func152, Try.ntmps152
  go_wp2_with fail
  refine HS.out.mono ?_
  rintro e w1 ⟨a, c, rfl, hx, ho⟩
  clear ho
  go_wp2
  go_ret
  exact ⟨rfl, hx⟩
def someOk (ss : List ByteArray) (kind : Int) : Bool := askOk ss kind && decide (0 < (spotsTo (picW ss) (picL ss) (ss.length * picW ss)).length)
def disI (kind : Int) (W H : Nat) (l : List Bool) (x y : Nat) : Int := nearTo kind W l (x, y) (H * W)
/-- An image and its black pixels are returned, if there are any. -/
def BlackRet (w : World) (ss : List ByteArray) (ps : List (Int × Int)) (ok : Bool) (e : Ending) (w' : World) : Prop :=
  if ok then ∃ b ab a c, e = .returned (.tuple #[.pointer (some ⟨b, 0, none⟩), .slice a ps.length c, .bool true]) ∧ w.Ext w' ∧ Img w' b ab (picW ss) ss.length (picL ss) ∧ RowP w' a ps
  else e = .returned (.tuple #[.pointer none, .slice none 0 0, .bool false]) ∧ w.Ext w'
theorem BlackRet.yes {w w' : World} {ss : List ByteArray} {ps : List (Int × Int)} {b ab : Nat} {a : Option Addr} {c : Nat} (hx : w.Ext w') (hi : Img w' b ab (picW ss) ss.length (picL ss)) (hr : RowP w' a ps) : BlackRet w ss ps true (.returned (.tuple #[.pointer (some ⟨b, 0, none⟩), .slice a ps.length c, .bool true])) w' := ⟨b, ab, a, c, rfl, hx, hi, hr⟩
theorem BlackRet.no {w w' : World} {ss : List ByteArray} {ps : List (Int × Int)} (hx : w.Ext w') : BlackRet w ss ps false (.returned (.tuple #[.pointer none, .slice none 0 0, .bool false])) w' := ⟨rfl, hx⟩
set_option maxRecDepth 5000 in
set_option maxHeartbeats 800000 in
theorem withBlack_any (a : Option Addr) (c : Nat) (ss : List ByteArray) (kind : Int) (w : World) (hb : PicBnd ss) (hm : RowS w a ss) :
    Calls Try.prog 201 #[.agg #[.slice a ss.length c], .int .i64 kind] w (BlackRet w ss (spotsTo (picW ss) (picL ss) (ss.length * picW ss)) (someOk ss kind)) := by
  obtain ⟨W0, hW0⟩ : ∃ W0, W0 = w.alloc (.cells #[.slice a ss.length c] 26) := ⟨_, rfl⟩
  have hx0 : w.Ext W0 := by rw [hW0]; repeat (first | exact World.Ext.refl _ | exact ⟨_, rfl⟩ | assumption | refine World.Ext.over ?_ _ | refine World.Ext.drewN ?_ _ | refine World.Ext.drew ?_ | refine World.Ext.alloc ?_ _ | refine World.Ext.setCell ?_ (by simp) _)
  have HIO : Hid (Calls Try.prog 109 #[.agg #[.slice a ss.length c]] W0 (ImgOf W0 ss (picOk ss))) := imageOf_any a c ss W0 hb.1 hb.2 (hm.ext hx0) _ rfl
  have HX0 := Lib.hid hx0
  have HK : Hid (∀ w, Calls Try.prog 192 #[.int .i64 kind] w fun e w' => e = .returned (.bool (inB kind 0 2)) ∧ w.Ext w') := fun w => kindOk_any kind w _ rfl
  clear hm hb hx0
  cases h : picOk ss
  · rw [h] at HIO
    have e : someOk ss kind = false := by unfold someOk askOk; rw [h]; rfl
    rw [e]
    clear h e
    go_enter Try.func201, Try.ntmps201
    go_wp2_with fail
    rw [← hW0]
    refine HIO.out.mono ?_
    rintro e w1 ⟨rfl, hx1⟩
    have HX := Lib.hid (HX0.out.trans hx1)
    clear hx1 hW0
    go_wp2
    go_ret3
    exact BlackRet.no HX.out
  · rw [h] at HIO
    obtain ⟨q1, q2, q3, q4, _⟩ := picOk_spec h
    cases hk : inB kind 0 2
    · rw [hk] at HK
      have e : someOk ss kind = false := by unfold someOk askOk; rw [hk]; simp
      rw [e]
      clear h e hk
      go_enter Try.func201, Try.ntmps201
      go_wp2_with fail
      rw [← hW0]
      refine HIO.out.mono ?_
      rintro e w1 ⟨b, ab, rfl, hx1, hi1, _⟩
      clear hi1
      go_wp2_with fail
      refine (HK.out _).mono ?_
      rintro e w2 ⟨rfl, hx2⟩
      have HX := Lib.hid (HX0.out.trans (hx1.trans hx2))
      clear hx1 hx2 hW0
      go_wp2
      go_ret3
      exact BlackRet.no HX.out
    · rw [hk] at HK
      have e : someOk ss kind = decide (0 < (spotsTo (picW ss) (picL ss) (ss.length * picW ss)).length) := by unfold someOk askOk; rw [hk, h]; rfl
      rw [e]
      clear h e hk
      have HC : Hid (∀ w' b ab, Img w' b ab (picW ss) ss.length (picL ss) → Calls Try.prog 152 #[.pointer (some ⟨b, 0, none⟩)] w' fun e w'' => e = .returned (.int .i64 (spotsTo (picW ss) (picL ss) (ss.length * picW ss)).length) ∧ w'.Ext w'') := fun w' b ab hI => count_any b ab _ _ _ w' (by omega) (by omega) hI
      have HS : Hid (∀ w' b ab, Img w' b ab (picW ss) ss.length (picL ss) → Calls Try.prog 100 #[.pointer (some ⟨b, 0, none⟩)] w' (PairsRet w' (spotsTo (picW ss) (picL ss) (ss.length * picW ss)))) := fun w' b ab hI => spots_any b ab _ _ _ w' (by omega) (by omega) hI
      generalize spotsTo (picW ss) (picL ss) (ss.length * picW ss) = ps at *
      by_cases hpos : 0 < ps.length
      · have hne : ((ps.length : Int) == 0) = false := by rw [beq_eq_false_iff_ne]; omega
        rw [decide_eq_true hpos]
        go_enter Try.func201, Try.ntmps201
        go_wp2_with fail
        rw [← hW0]
        refine HIO.out.mono ?_
        rintro e w1 ⟨b, ab, rfl, hx1, hi1, _⟩
        have HI := Lib.hid hi1
        clear hi1
        go_wp2_with fail
        refine (HK.out _).mono ?_
        rintro e w2 ⟨rfl, hx2⟩
        go_wp2_with fail
        refine (HC.out _ b ab (HI.out.ext hx2)).mono ?_
        rintro e w3 ⟨rfl, hx3⟩
        go_wp2_with fail
        refine (HS.out _ b ab ((HI.out.ext hx2).ext hx3)).mono ?_
        rintro e w4 ⟨a4, c4, rfl, hx4, ho4⟩
        have HR := Lib.hid (And.intro (HX0.out.trans (hx1.trans (hx2.trans (hx3.trans hx4)))) (And.intro ((HI.out.ext hx2).ext (hx3.trans hx4)) ho4.row))
        clear hx1 hx2 hx3 hx4 ho4 hW0
        go_wp2
        go_ret3
        exact BlackRet.yes HR.out.1 HR.out.2.1 HR.out.2.2
      · have h0 : ps.length = 0 := by omega
        have hne : ((ps.length : Int) == 0) = true := by rw [h0]; rfl
        rw [decide_eq_false hpos]
        clear h0
        go_enter Try.func201, Try.ntmps201
        go_wp2_with fail
        rw [← hW0]
        refine HIO.out.mono ?_
        rintro e w1 ⟨b, ab, rfl, hx1, hi1, _⟩
        have HI := Lib.hid hi1
        clear hi1
        go_wp2_with fail
        refine (HK.out _).mono ?_
        rintro e w2 ⟨rfl, hx2⟩
        go_wp2_with fail
        refine (HC.out _ b ab (HI.out.ext hx2)).mono ?_
        rintro e w3 ⟨rfl, hx3⟩
        have HX := Lib.hid (HX0.out.trans (hx1.trans (hx2.trans hx3)))
        clear hx1 hx2 hx3 hW0
        go_wp2
        go_ret3
        exact BlackRet.no HX.out
end Go.Proofs.Ytpdmfnndegcjjaa
