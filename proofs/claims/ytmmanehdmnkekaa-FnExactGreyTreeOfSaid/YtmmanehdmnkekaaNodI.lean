/- The program's nodes. -/
import Derived.Test.YtmmanehdmnkekaaNodT
import Derived.Test.YtmmanehdmnkekaaSprI
import Derived.Test.YtmmanehdmnkekaaGreyK
import Derived.Test.YtmmanehdmnkekaaLabI
namespace Go.Proofs.Ytmmanehdmnkekaa
open Go Go.RowKit
/-- A grey picture in memory. -/
structure GrAt (w : World) (p : Nat) (W H : Nat) (l : List Int) : Prop where
  ex : ∃ a c A C m, w.cell? ⟨p, 0, none⟩ = some (.slice a m.length c) ∧ MatAt w a A C m ∧ m.length = H ∧ (∀ r, r < m.length → (m.getD r []).length = W) ∧ m.flatten = l
theorem GrAt.ext {w w' : World} {p W H : Nat} {l : List Int} (h : GrAt w p W H l) (hx : w.Ext w') : GrAt w' p W H l :=
  let ⟨a, c, A, C, m, h1, h2, h3⟩ := h.ex
  ⟨a, c, A, C, m, hx.cell h1, h2.ext hx, h3⟩
theorem GrAt.at {w : World} {p W H : Nat} {l : List Int} (h : GrAt w p W H l) (hW : W ≤ 64) (hH : H ≤ 64) {x y : Nat} (hx : x < W) (hy : y < H) :
    Calls Try.prog 80 #[.pointer (some ⟨p, 0, none⟩), .agg #[.int .i64 x, .int .i64 y]] w fun e w' => e = .returned (.int .i64 (l.getD (y * W + x) 0)) ∧ w.Ext w' := by
  obtain ⟨a, c, A, C, m, h1, h2, h3, h4, h5⟩ := h.ex
  have hr := h4 y (by omega)
  have e := flat_at W m y x h4 (by omega) hx
  rw [h5] at e
  rw [e]
  exact gAt_any p a c A C m x y w (by omega) (by omega) (by omega) (by omega) h1 h2
theorem GrAt.has {w : World} {p W H : Nat} {l : List Int} (h : GrAt w p W H l) (hH0 : 0 < H) (hW : W ≤ 64) (hH : H ≤ 64) (x y : Int) :
    Calls Try.prog 219 #[.pointer (some ⟨p, 0, none⟩), .agg #[.int .i64 x, .int .i64 y]] w fun e w' => e = .returned (.bool (hasB W H x y)) ∧ w.Ext w' := by
  obtain ⟨a, c, A, C, m, h1, h2, h3, h4, h5⟩ := h.ex
  have hr := h4 0 (by omega)
  have h := gHas_any p a c A C m x y w (by omega) (by omega) (by omega) h1 h2
  rw [h3, hr] at h
  exact h
theorem GrAt.spots {w : World} {p W H : Nat} {l : List Int} (h : GrAt w p W H l) (hW : W ≤ 64) (hH : H ≤ 64) :
    Calls Try.prog 155 #[.pointer (some ⟨p, 0, none⟩)] w (PairsRet w (gridP W H)) := by
  obtain ⟨a, c, A, C, m, h1, h2, h3, h4, h5⟩ := h.ex
  have h := gSpots_any p a c A C m W w h4 (by omega) hW h1 h2
  rw [h3] at h
  exact h
set_option maxRecDepth 5000 in
set_option maxHeartbeats 1600000 in
theorem nodes1_any (p b1 b7 W H : Nat) (l : List Int) (t x y : Int) (w : World) (hH0 : 0 < H) (hW : W ≤ 64) (hH : H ≤ 64) (hg : GrAt w p W H l) (h1 : w.cell? ⟨b1, 0, none⟩ = some (.pointer (some ⟨p, 0, none⟩))) (h7 : w.cell? ⟨b7, 0, none⟩ = some (.int .i64 t)) :
    Calls Try.prog 218 #[.agg #[.int .i64 x, .int .i64 y], .pointer (some ⟨b1, 0, none⟩), .pointer (some ⟨b7, 0, none⟩)] w fun e w' => e = .returned (.bool (lvR W H l t (x, y))) ∧ w.Ext w' := by
  obtain ⟨W0, hW0⟩ : ∃ W0, W0 = w.alloc (.cells #[.int .i64 x, .int .i64 y] 58) := ⟨_, rfl⟩
  have hx0 : w.Ext W0 := by rw [hW0]; repeat (first | exact World.Ext.refl _ | exact ⟨_, rfl⟩ | assumption | refine World.Ext.over ?_ _ | refine World.Ext.drewN ?_ _ | refine World.Ext.drew ?_ | refine World.Ext.alloc ?_ _ | refine World.Ext.setCell ?_ (by simp) _)
  have d0 : W0.cell? ⟨w.heap.size, 0, none⟩ = some (.int .i64 x) := by rw [hW0]; simp [go_sem]
  have d1 : W0.cell? ⟨w.heap.size, 1, none⟩ = some (.int .i64 y) := by rw [hW0]; simp [go_sem]
  have e1 := hx0.cell h1
  have e7 := hx0.cell h7
  have HX0 := Lib.hid hx0
  have HH := Lib.hid (fun x1 => (hg.ext (hx0.trans ⟨x1, rfl⟩ : w.Ext (W0.over x1))).has hH0 hW hH x y)
  have l1 := World.block_lt_of_cell? _ _ e1
  have l7 := World.block_lt_of_cell? _ _ e7
  have l0 := World.block_lt_of_cell? _ _ d0
  have HL : Hid (lvR W H l t (x, y) = (hasB W H x y && decide (t ≤ nbV W l x y))) := rfl
  cases hh : hasB W H x y
  · have hf : lvR W H l t (x, y) = false := by rw [HL.out, hh]; rfl
    rw [hf]
    rw [hh] at HH
    clear hg h1 h7 hx0 hf HL hh
    go_enter Try.func218, Try.ntmps218
    go_wp2_with fail
    rw [← hW0]
    clear hW0
    refine wp_region_over_lit (by kernel_rfl) (by kernel_rfl) ?_; (repeat (go_big_quiet_step ((go_at_call 219; exact Calls.over_of (HH.out _))))); refine wpQuiet_nil ?_; rintro _ ⟨x1, rfl⟩
    have HX : Hid (w.Ext (W0.over x1)) := HX0.out.trans ⟨x1, rfl⟩
    clear d0 d1 e1 e7
    go_wp2
    go_ret
    exact ⟨rfl, HX.out⟩
  · obtain ⟨q1, q2, q3, q4⟩ := hasB_true.1 hh
    obtain ⟨X, rfl⟩ : ∃ X : Nat, x = X := ⟨x.toNat, by omega⟩
    obtain ⟨Y, rfl⟩ : ∃ Y : Nat, y = Y := ⟨y.toNat, by omega⟩
    have HA := Lib.hid (fun x1 => (hg.ext (hx0.trans ⟨x1, rfl⟩ : w.Ext (W0.over x1))).at hW hH (x := X) (y := Y) (by omega) (by omega))
    have e : nbV W l X Y = l.getD (Y * W + X) 0 := by
      unfold nbV
      rw [← Int.natCast_mul, ← Int.natCast_add, Int.toNat_natCast]
    have hf : lvR W H l t ((X : Int), (Y : Int)) = decide (t ≤ l.getD (Y * W + X) 0) := by rw [HL.out, hh, e, Bool.true_and]
    rw [hf]
    rw [hh] at HH
    clear hg h1 h7 hx0 hf HL hh e q1 q2 q3 q4
    generalize l.getD (Y * W + X) 0 = z at *
    go_enter Try.func218, Try.ntmps218
    go_wp2_with fail
    rw [← hW0]
    clear hW0
    refine wp_region_over_lit (by kernel_rfl) (by kernel_rfl) ?_; (repeat (go_big_quiet_step ((first | (go_at_call 219; exact Calls.over_of (HH.out _)) | (go_at_call 80; exact Calls.over_of (HA.out _)))))); refine wpQuiet_nil ?_; rintro _ ⟨x1, rfl⟩
    have HX : Hid (w.Ext (W0.over x1)) := HX0.out.trans ⟨x1, rfl⟩
    clear d0 d1 e1 e7
    go_wp2
    go_ret
    exact ⟨by simp, HX.out⟩
theorem enters_nodes1 : Enters 218 := enters_of Try.func218 (by kernel_rfl) (by kernel_rfl)
theorem spotOrder_ext (xa ya xb yb : Int) (w : World) : Calls Try.prog 111 #[.agg #[.int .i64 xa, .int .i64 ya], .agg #[.int .i64 xb, .int .i64 yb]] w fun e w' => e = .returned (.int .i64 (ordJ (xa, ya) (xb, yb))) ∧ w.Ext w' :=
  (spotOrder_grow xa ya xb yb w _ rfl).mono fun _ _ ⟨he, _, _, hw⟩ => ⟨he, grow_ext' hw (.refl _)⟩
/-- A node in a box. -/
def Nbx (w : World) (b : Nat) (t x y : Int) (m : Nat) : Prop := w.heap[b]? = some (.cells #[.int .i64 t, .int .i64 x, .int .i64 y, .map (some m)] 196 (0, 0))
section
variable {w w' : World} {b m : Nat} {t x y : Int}
theorem Nbx.lt (h : Nbx w b t x y m) : b < w.heap.size := (Array.getElem?_eq_some_iff.1 h).1
theorem Nbx.keep (h : Nbx w b t x y m) (hk : w'.heap[b]? = w.heap[b]?) : Nbx w' b t x y m := by unfold Nbx at *; rw [hk, h]
theorem Nbx.ext (h : Nbx w b t x y m) (hx : w.Ext w') : Nbx w' b t x y m := h.keep (hx.block h.lt)
theorem Nbx.cells (h : Nbx w b t x y m) : w.cell? ⟨b, 0, none⟩ = some (.int .i64 t) ∧ w.cell? ⟨b, 1, none⟩ = some (.int .i64 x) ∧ w.cell? ⟨b, 2, none⟩ = some (.int .i64 y) ∧ w.cell? ⟨b, 3, none⟩ = some (.map (some m)) := by unfold Nbx at h; simp [World.cell?, h]
theorem Nbx.free (h : Nbx w b t x y m) (i : Nat) : w.frozen? ⟨b, i, none⟩ = false := by unfold Nbx at h; simp [World.frozen?, h]
theorem Nbx.new (w : World) (t x y : Int) (m : Nat) (hb : b = w.heap.size) : Nbx (w.alloc (.cells #[.int .i64 t, .int .i64 x, .int .i64 y, .map (some m)] 196)) b t x y m := by
  subst hb
  unfold Nbx
  show (w.heap.push _)[w.heap.size]? = _
  simp
theorem Nbx.put (h : Nbx w b t x y m) (u v : Int) : Nbx ((w.setCell ⟨b, 1, none⟩ (.int .i64 u)).setCell ⟨b, 2, none⟩ (.int .i64 v)) b t u v m := by
  unfold Nbx at *
  simp [World.setCell, Array.getElem?_modify, h]
end
def dnG (D : Int × Int → Bool) (p : Int × Int) : Option Value := if D p = true then some (.bool true) else none
theorem dnG_val {D : Int × Int → Bool} (p : Int × Int) : (dnG D p).getD (.bool false) = .bool (D p) := by
  unfold dnG
  cases D p <;> rfl
theorem MapS.lookD {w : World} {bm : Nat} {D : Int × Int → Bool} (h : MapS w Try.prog 58 bm (dnG D)) {x y : Int} (hx : -1000 ≤ x ∧ x ≤ 1000) (hy : -1000 ≤ y ∧ y ≤ 1000) :
    (Instr.lookup 194 (.map (some bm)) (.agg #[.int .i64 x, .int .i64 y]) false).run Try.prog w = .ok (.bool (D (x, y))) w := by
  have := h.look Try.spotKey boolMap (zeroBool w) (p := (x, y)) (spotKeyOf (spotWf hx hy))
  rw [dnG_val] at this
  exact this
/-- What is reached from a node's first spot, as a map. -/
def PartAt (w : World) (b W H : Nat) (l : List Int) (t : Int) (q : Nat) : Prop := ∃ es, MapS w Try.prog 58 b (mapG es) ∧ es.Nodup ∧ ∀ p, p ∈ es ↔ Rch (lvR W H l t) (nbA false) [spN W q] p
theorem PartAt.keep {w w' : World} {b W H q : Nat} {l : List Int} {t : Int} (h : PartAt w b W H l t q) (hk : w'.heap[b]? = w.heap[b]?) : PartAt w' b W H l t q := let ⟨es, h1, h2⟩ := h; ⟨es, h1.keep hk, h2⟩
theorem PartAt.lt {w : World} {b W H q : Nat} {l : List Int} {t : Int} (h : PartAt w b W H l t q) : b < w.heap.size := let ⟨_, h1, _⟩ := h; h1.lt
structure NdSt (wA : World) (bmD : Nat) (a14 : Option Addr) (W H : Nat) (l : List Int) (v : Value) (D : Int × Int → Bool) (ds : List NdV) (wr : World) : Prop where
  x : wA.Ext wr
  row : RowP wr a14 (gridP W H)
  rb : ∀ b o, a14 = some ⟨b, o, none⟩ → wA.heap.size ≤ b ∧ b < wr.heap.size ∧ b ≠ bmD ∧ v.ownBlock ≠ some b
  map : MapS wr Try.prog 58 bmD (dnG D)
  lo : wA.heap.size ≤ bmD
  out : GrowN wA.heap.size wr v ds
  par : ∀ d, d ∈ ds → NdIs W H d ∧ wA.heap.size ≤ d.2.2.2 ∧ d.2.2.2 ≠ bmD ∧ PartAt wr d.2.2.2 W H l d.1 (ndKey W d).2
section
variable {wA : World} {bmD : Nat} {a14 : Option Addr} {W H : Nat} {l : List Int} {v : Value} {D D' : Int × Int → Bool} {ds : List NdV} {wr w' : World}
theorem NdSt.keep {S : Nat → Prop} (h : NdSt wA bmD a14 W H l v D ds wr) (hw : Wrote S wr w') (h1 : ∀ k, S k → wA.heap.size ≤ k) (h2 : ∀ b o, a14 = some ⟨b, o, none⟩ → ¬ S b) (h3 : ∀ k, v.ownBlock = some k → ¬ S k) (h4 : ∀ d, d ∈ ds → ¬ S d.2.2.2) (hm : MapS w' Try.prog 58 bmD (dnG D')) : NdSt wA bmD a14 W H l v D' ds w' where
  x := h.x.wroteNew hw fun k hk hs => by have := h1 k hs; omega
  row := h.row.keep fun b o e => hw.block b (h.rb b o e).2.1 (h2 b o e)
  rb := fun b o e => let ⟨a1, a2, a3⟩ := h.rb b o e; ⟨a1, Nat.lt_of_lt_of_le a2 hw.size, a3⟩
  map := hm
  lo := h.lo
  out := World.ownsRow.keep h.out fun k hk => hw.block k (World.ownsRow.lt h.out k hk).2 (h3 k hk)
  par := fun d hd => let ⟨a1, a2, a3, a4⟩ := h.par d hd; ⟨a1, a2, a3, a4.keep (hw.block _ a4.lt (h4 d hd))⟩
theorem NdSt.ext (h : NdSt wA bmD a14 W H l v D ds wr) (hx : wr.Ext w') : NdSt wA bmD a14 W H l v D ds w' :=
  h.keep (hx.wrote fun _ => False) (fun _ h => h.elim) (fun _ _ _ h => h) (fun _ _ h => h) (fun _ _ h => h) (h.map.ext hx)
theorem NdSt.push {wa w1 : World} {v' : Value} {d : NdV} (h : NdSt wA bmD a14 W H l v D ds wr) (hx : wr.Ext wa) (hg : wa.grownBy w1 v.ownBlock) (ho : w1.ownsRow wA.heap.size 196 4 v' (ds.length + 1) (ds.flatMap encNd ++ encNd d)) (hat : v'.ownBlock = v.ownBlock ∨ v'.ownBlock = some wa.heap.size)
    (h1 : NdIs W H d) (h2 : wA.heap.size ≤ d.2.2.2) (h3 : d.2.2.2 ≠ bmD) (h4 : PartAt wr d.2.2.2 W H l d.1 (ndKey W d).2) : NdSt wA bmD a14 W H l v' D (ds ++ [d]) w1 := by
  have ha := h.ext hx
  have hsz := hx.size
  have hrow : ∀ {w : World} {b : Nat} {g : Int × Int → Option Value}, MapS w Try.prog 58 b g → GrowN wA.heap.size w v ds → some b ≠ v.ownBlock := fun {w b g} hm hr => hm.neRow hr
  refine ⟨?_, ?_, fun b o e => ?_, ?_, h.lo, ?_, fun d' hd' => ?_⟩
  · exact ha.x.grown hg fun k hk => (World.ownsRow.lt ha.out k hk).1
  · exact ha.row.keep fun b o e => hg.block b (ha.rb b o e).2.1 fun e' => (ha.rb b o e).2.2.2 e'.symm
  · obtain ⟨a1, a2, a3, a4⟩ := h.rb b o e
    refine ⟨a1, by have := hg.size; omega, a3, ?_⟩
    rcases hat with hat | hat
    · rw [hat]; exact a4
    · rw [hat]; intro e'; cases e'; omega
  · exact ha.map.grown hg (hrow ha.map ha.out)
  · unfold GrowN
    rw [List.length_append, List.length_singleton, List.flatMap_append]
    simpa using ho
  · rw [List.mem_append, List.mem_singleton] at hd'
    rcases hd' with hd' | rfl
    · obtain ⟨a1, a2, a3, a4⟩ := ha.par d' hd'
      obtain ⟨es, q1, q2⟩ := a4
      exact ⟨a1, a2, a3, es, q1.grown hg (hrow q1 ha.out), q2⟩
    · obtain ⟨es, q1, q2⟩ := h4
      have q3 := q1.ext hx
      exact ⟨h1, h2, h3, es, q3.grown hg (hrow q3 ha.out), q2⟩
end
structure RgSt (w7 : World) (bmD r b9 bm2 W H : Nat) (l : List Int) (k : Nat) (es : List (Int × Int)) (left : Int × Int → Bool) (cnt m : Nat) (wr : World) : Prop where
  wrote : Wrote (fun q => q = bmD ∨ q = r ∨ q = b9 ∨ w7.heap.size ≤ q) w7 wr
  map : MapS wr Try.prog 58 bmD (dnG (dnL W H l k es left))
  rg : RangeS wr Try.prog 58 bm2 r (mapG es) left cnt
  box : Nbx wr b9 (l.getD k 0) (spN W m).1 (spN W m).2 bm2
  mn : MinL W H es left k m
theorem RgSt.ext {w7 wr w' : World} {bmD r b9 bm2 W H k cnt m : Nat} {l : List Int} {es : List (Int × Int)} {left : Int × Int → Bool} (h : RgSt w7 bmD r b9 bm2 W H l k es left cnt m wr) (hx : wr.Ext w') : RgSt w7 bmD r b9 bm2 W H l k es left cnt m w' :=
  ⟨h.wrote.trans (hx.wrote _), h.map.ext hx, h.rg.ext hx, h.box.ext hx, h.mn⟩
end Go.Proofs.Ytmmanehdmnkekaa
