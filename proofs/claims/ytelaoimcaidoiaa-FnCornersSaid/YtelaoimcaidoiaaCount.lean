/- Numbers of black pixels; DistancesOf. -/
import Derived.Test.YtelaoimcaidoiaaDepF
namespace Go.Proofs.Ytelaoimcaidoiaa
open Go.RowKit
theorem spotsTo_count {W : Nat} {l : List Bool} {k : Nat} : (spotsTo W l (k + 1)).length = (spotsTo W l k).length + (if l.getD k false then 1 else 0) := by
  unfold spotsTo
  rw [List.range_succ, List.filter_append, List.map_append, List.length_append]
  cases h : l.getD k false
  · rw [List.filter_cons_of_neg (by rw [h]; decide)]; simp
  · rw [List.filter_cons_of_pos (by rw [h])]; simp
def someOk (ss : List ByteArray) (kind : Int) : Bool := askOk ss kind && decide (0 < (spotsTo (picW ss) (picL ss) (ss.length * picW ss)).length)
def disI (kind : Int) (W H : Nat) (l : List Bool) (x y : Nat) : Int := nearTo kind W l (x, y) (H * W)
/-- An image and its black pixels are returned, if there are any. -/
def BlackRet (w : World) (ss : List ByteArray) (ps : List (Int × Int)) (ok : Bool) (e : Ending) (w' : World) : Prop :=
  if ok then ∃ b ab a c, e = .returned (.tuple #[.pointer (some ⟨b, 0, none⟩), .slice a ps.length c, .bool true]) ∧ w.Ext w' ∧ Img w' b ab (picW ss) ss.length (picL ss) ∧ RowP w' a ps
  else e = .returned (.tuple #[.pointer none, .slice none 0 0, .bool false]) ∧ w.Ext w'
theorem BlackRet.yes {w w' : World} {ss : List ByteArray} {ps : List (Int × Int)} {b ab : Nat} {a : Option Addr} {c : Nat} (hx : w.Ext w') (hi : Img w' b ab (picW ss) ss.length (picL ss)) (hr : RowP w' a ps) : BlackRet w ss ps true (.returned (.tuple #[.pointer (some ⟨b, 0, none⟩), .slice a ps.length c, .bool true])) w' := ⟨b, ab, a, c, rfl, hx, hi, hr⟩
theorem BlackRet.no {w w' : World} {ss : List ByteArray} {ps : List (Int × Int)} (hx : w.Ext w') : BlackRet w ss ps false (.returned (.tuple #[.pointer none, .slice none 0 0, .bool false])) w' := ⟨rfl, hx⟩
end Go.Proofs.Ytelaoimcaidoiaa
