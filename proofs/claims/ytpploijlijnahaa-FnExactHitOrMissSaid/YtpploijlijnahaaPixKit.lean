/- What stays while the reference makes the pixels of a picture. -/
import Derived.Test.YtpploijlijnahaaSNear
import Derived.Test.YtpploijlijnahaaIWith
namespace Go
open Go.RowKit
structure PixSt (w : World) (p : Nat) (T : TypeId) (wr : World) : Prop where
  x : w.Ext wr
  one : One wr p T (.slice none 0 0)
theorem PixSt.ext {w : World} {p : Nat} {T : TypeId} {w1 w2 : World} (h : PixSt w p T w1) (hx : w1.Ext w2) : PixSt w p T w2 := ⟨h.x.trans hx, h.one.ext hx⟩
theorem PixSt.push {α : Type} {f : α → Value} {w : World} {p : Nat} {T e : TypeId} {w3 w1 : World} {v : Value} {xs : List α} {o : Obj} (h : PixSt w p T w3) (hg : GrowOf f w.heap.size e w3 v xs) (hne : e ≠ T) (hgrow : (w3.alloc o).grownBy w1 v.ownBlock) : PixSt w p T w1 :=
  ⟨hg.pushExt h.x hgrow, (h.one.ext ((World.Ext.refl _).alloc o)).grown hgrow (hg.ne h.one hne)⟩
theorem cell_one_at {w : World} {v : Value} {e : TypeId} {p : Nat} (hp : p = w.heap.size) : ∀ (j : Nat) (u : Value), [v][j]? = some u → (w.alloc (.cells #[v] e)).cell? ((⟨p, 0, none⟩ : Addr).add j) = some u := by
  subst hp
  exact cell_one_new _ _ _
end Go
namespace Go.Proofs.Ytpploijlijnahaa
open Go.RowKit
theorem Try.infoBoolP : (Try.prog.info? 4).map (fun i => (i.zero, i.size, i.bytes)) = some (some (.bool false), 1, 1) := by kernel_rfl
end Go.Proofs.Ytpploijlijnahaa
