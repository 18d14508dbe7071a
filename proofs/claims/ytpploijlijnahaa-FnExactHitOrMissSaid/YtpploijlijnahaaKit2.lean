/- Worlds that extend a base world: facts of the base world as rules of the walk. -/
import Derived.Test.YtpploijlijnahaaLPairs
import Derived.Test.YtpploijlijnahaaIValid
namespace Go
open Go.RowKit
@[simp, go_sem] theorem World.ext_refl (w : World) : w.Ext w := .refl w
@[simp, go_sem] theorem World.ext_over {w w' : World} (x : World) (h : w.Ext w') : w.Ext (w'.over x) := h.over x
@[simp, go_sem] theorem World.ext_drew {w w' : World} (h : w.Ext w') : w.Ext w'.drew := h.drew
@[simp, go_sem] theorem World.ext_drewN {w w' : World} (n : Nat) (h : w.Ext w') : w.Ext (w'.drewN n) := h.drewN n
@[simp, go_sem] theorem World.ext_alloc {w w' : World} (o : Obj) (h : w.Ext w') : w.Ext (w'.alloc o) := h.alloc o
theorem World.Ext.rule {w : World} {a : Addr} {v : Value} (h : w.cell? a = some v) : ∀ w', w.Ext w' → w'.cell? a = some v := fun _ hx => hx.cell h
end Go
namespace Go.Proofs.Ytpploijlijnahaa
open Go.RowKit
def spotV (p : Int × Int) : Value := .agg #[.int .i64 p.1, .int .i64 p.2]
end Go.Proofs.Ytpploijlijnahaa
