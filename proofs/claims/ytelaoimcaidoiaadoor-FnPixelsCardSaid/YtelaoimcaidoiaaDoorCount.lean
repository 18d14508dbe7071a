/- Numbers of black pixels; DistancesOf. -/
import Derived.Test.YtelaoimcaidoiaaDoorDepF
namespace Go.Proofs.YtelaoimcaidoiaaDoor
open Go.RowKit
theorem spotsTo_count {W : Nat} {l : List Bool} {k : Nat} : (spotsTo W l (k + 1)).length = (spotsTo W l k).length + (if l.getD k false then 1 else 0) := by
  unfold spotsTo
  rw [List.range_succ, List.filter_append, List.map_append, List.length_append]
  cases h : l.getD k false
  · rw [List.filter_cons_of_neg (by rw [h]; decide)]; simp
  · rw [List.filter_cons_of_pos (by rw [h])]; simp
set_option maxHeartbeats 400000 in
theorem count_any (b ab W H : Nat) (l : List Bool) (w : World) (hW : W ≤ 64) (hH : H ≤ 64) (hI : Img w b ab W H l) :
    Calls Tryd.prog 32 #[.pointer (some ⟨b, 0, none⟩)] w fun e w' => e = .returned (.int .i64 (spotsTo W l (H * W)).length) ∧ w.Ext w' := by
  have HS := Lib.hid (spots_any b ab W H l w hW hH hI)
  have hn : (spotsTo W l (H * W)).length ≤ 4096 := Nat.le_trans (spotsTo_len _ _ _) (Nat.mul_le_mul hH hW)
  clear hI
  generalize spotsTo W l (H * W) = ps at *
  go_enter Tryd.func32, Tryd.ntmps32
  go_wp2_with fail
  refine HS.out.mono ?_
  rintro e w1 ⟨a, c, rfl, hx, ho⟩
  clear ho
  go_wp2
  go_ret
  exact ⟨rfl, hx⟩
def someOk (ss : List ByteArray) (kind : Int) : Bool := askOk ss kind && decide (0 < (spotsTo (picW ss) (picL ss) (ss.length * picW ss)).length)
def disI (kind : Int) (W H : Nat) (l : List Bool) (x y : Nat) : Int := nearTo kind W l (x, y) (H * W)
/-- An image and its black pixels are returned, if there are any. -/
def BlackRet (w : World) (ss : List ByteArray) (ps : List (Int × Int)) (ok : Bool) (e : Ending) (w' : World) : Prop :=
  if ok then ∃ b ab a c, e = .returned (.tuple #[.pointer (some ⟨b, 0, none⟩), .slice a ps.length c, .bool true]) ∧ w.Ext w' ∧ Img w' b ab (picW ss) ss.length (picL ss) ∧ RowP w' a ps
  else e = .returned (.tuple #[.pointer none, .slice none 0 0, .bool false]) ∧ w.Ext w'
theorem BlackRet.yes {w w' : World} {ss : List ByteArray} {ps : List (Int × Int)} {b ab : Nat} {a : Option Addr} {c : Nat} (hx : w.Ext w') (hi : Img w' b ab (picW ss) ss.length (picL ss)) (hr : RowP w' a ps) : BlackRet w ss ps true (.returned (.tuple #[.pointer (some ⟨b, 0, none⟩), .slice a ps.length c, .bool true])) w' := ⟨b, ab, a, c, rfl, hx, hi, hr⟩
theorem BlackRet.no {w w' : World} {ss : List ByteArray} {ps : List (Int × Int)} (hx : w.Ext w') : BlackRet w ss ps false (.returned (.tuple #[.pointer none, .slice none 0 0, .bool false])) w' := ⟨rfl, hx⟩
end Go.Proofs.YtelaoimcaidoiaaDoor
