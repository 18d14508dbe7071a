/- Numbers of components: the reference's side. -/
import Derived.Test.YthgkmaccbcpaeaaListS
import Derived.Test.YthgkmaccbcpaeaaLab
import Derived.Test.YthgkmaccbcpaeaaRecF
namespace Go.Proofs.Ythgkmaccbcpaeaa
open Go.RowKit
/-- The numbers under way: of all that was there behind W3, just block g has been written. -/
def LsSt (W3 : World) (g : Nat) (xs : List Int) (wr : World) : Prop := Wrote (fun k => k = g ∨ W3.heap.size ≤ k) W3 wr ∧ BlkOf (Value.int .i64) wr g 2 xs
theorem LsSt.ext {W3 : World} {g : Nat} {xs : List Int} {wr w' : World} (h : LsSt W3 g xs wr) (hx : wr.Ext w') : LsSt W3 g xs w' := ⟨h.1.trans (hx.wrote _), h.2.ext hx⟩
theorem LsSt.set {W3 : World} {g : Nat} {xs : List Int} {wr : World} (h : LsSt W3 g xs wr) (k : Nat) (v : Int) : LsSt W3 g (xs.set k v) (wr.setCell ⟨g, k, none⟩ (.int .i64 v)) := ⟨h.1.setCell (p := ⟨g, k, none⟩) (.inl rfl) _, h.2.set k v⟩
end Go.Proofs.Ythgkmaccbcpaeaa
