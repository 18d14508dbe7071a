/- The reference's drawing: bytes are read one after another. What is drawn is left open but for its bounds. -/
import Derived.Test.YtkpgelhmeokemaaGreatDoorPic
import Derived.Test.YtkpgelhmeokemaaGreatDoorKit
import Derived.Test.YtkpgelhmeokemaaGreatDoorListS
import Derived.Test.YtkpgelhmeokemaaGreatDoorRecP
import Derived.Deep.DeepCutAuto
import Derived.Deep.CutBlock
namespace Go
open Go.RowKit
/-- A block of three cells. -/
def Tri (w : World) (p : Nat) (e : TypeId) (u v x : Value) : Prop := w.heap[p]? = some (.cells #[u, v, x] e (0, 0))
section
variable {w w' : World} {p : Nat} {e : TypeId} {u v x : Value}
theorem Tri.cell0 (h : Tri w p e u v x) : w.cell? ⟨p, 0, none⟩ = some u := by unfold Tri at h; simp [World.cell?, h]
theorem Tri.cell1 (h : Tri w p e u v x) : w.cell? ⟨p, 1, none⟩ = some v := by unfold Tri at h; simp [World.cell?, h]
theorem Tri.cell2 (h : Tri w p e u v x) : w.cell? ⟨p, 2, none⟩ = some x := by unfold Tri at h; simp [World.cell?, h]
theorem Tri.free (h : Tri w p e u v x) (i : Nat) : w.frozen? ⟨p, i, none⟩ = false := by unfold Tri at h; simp [World.frozen?, h]
theorem Tri.lt (h : Tri w p e u v x) : p < w.heap.size := (Array.getElem?_eq_some_iff.1 h).1
theorem Tri.keep (h : Tri w p e u v x) (hk : w'.heap[p]? = w.heap[p]?) : Tri w' p e u v x := by unfold Tri at *; rw [hk, h]
theorem Tri.ext (h : Tri w p e u v x) (hx : w.Ext w') : Tri w' p e u v x := h.keep (hx.block h.lt)
theorem Tri.set1 (h : Tri w p e u v x) (a : Value) : Tri (w.setCell ⟨p, 1, none⟩ a) p e u a x := by
  unfold Tri at *
  simp [World.setCell, Array.getElem?_modify, h]
theorem Tri.set2 (h : Tri w p e u v x) (a : Value) : Tri (w.setCell ⟨p, 2, none⟩ a) p e u v a := by
  unfold Tri at *
  simp [World.setCell, Array.getElem?_modify, h]
theorem Tri.new (w : World) (u v x : Value) (e : TypeId) (p : Nat) (hp : p = w.heap.size) : Tri (w.alloc (.cells #[u, v, x] e)) p e u v x := by
  subst hp
  show (w.heap.push _)[w.heap.size]? = _
  simp
end
end Go
namespace Go.Proofs.YtkpgelhmeokemaaGreatDoor
open Go Go.RowKit
theorem getD_memZ {l : List Int} {i : Nat} (h : i < l.length) : l.getD i 0 ∈ l := by
  rw [List.getD_eq_getElem?_getD, List.getElem?_eq_getElem h]
  exact List.getElem_mem h
theorem wrap_u64_range (x : Int) : 0 ≤ IntKind.u64.wrap x ∧ IntKind.u64.wrap x < 18446744073709551616 := by
  have : IntKind.u64.wrap x = x % 18446744073709551616 := by simp [IntKind.wrap, IntKind.bits, IntKind.signed]
  rw [this]
  omega
theorem rnd_range (sd : Int) (h0 : 0 ≤ sd) (h1 : sd < 18446744073709551616) : 0 ≤ wrap64 (bits .and .u64 (sd / 1099511627776) 255) ∧ wrap64 (bits .and .u64 (sd / 1099511627776) 255) ≤ 255 := by
  have h := bits_mask .u64 64 (by decide) (fun n h0 h1 => by rw [show IntKind.u64.wrap n = n % 18446744073709551616 by simp [IntKind.wrap, IntKind.bits, IntKind.signed]]; omega) 8 (by decide) (sd / 1099511627776) (by omega) (by omega)
  rw [show ((2 : Int) ^ 8 - 1) = 255 by decide, show ((2 : Int) ^ 8) = 256 by decide] at h
  rw [h]
  unfold wrap64
  omega
/-- A source of bytes, of which at most n are read, in a world behind the base. -/
structure SrcSt (wB : World) (p n : Nat) (w : World) : Prop where
  x : wB.Ext w
  lo : wB.heap.size ≤ p
  src : ∃ (a : Option Addr) (c m : Nat) (seed : Int) (zs : List Int), Tri w p 74 (.slice a zs.length c) (.int .i64 m) (.int .u64 seed) ∧ m ≤ n ∧ 0 ≤ seed ∧ seed < 18446744073709551616 ∧ zs.length ≤ maxLen ∧ RowU wB a zs ∧ ∀ z, z ∈ zs → 0 ≤ z ∧ z ≤ 255
theorem SrcSt.ext {wB : World} {p n : Nat} {w w' : World} (h : SrcSt wB p n w) (hx : w.Ext w') : SrcSt wB p n w' := by
  obtain ⟨a, c, m, seed, zs, h1, h2⟩ := h.src
  exact ⟨h.x.trans hx, h.lo, a, c, m, seed, zs, h1.ext hx, h2⟩
theorem SrcSt.lt {wB : World} {p n : Nat} {w : World} (h : SrcSt wB p n w) : p < w.heap.size := by
  obtain ⟨a, c, m, seed, zs, h1, h2⟩ := h.src
  exact h1.lt
theorem SrcSt.wrote {wB : World} {p n : Nat} {w w' : World} {S : Nat → Prop} (h : SrcSt wB p n w) (hw : Wrote S w w') (hs : ∀ k, S k → k < w.heap.size → wB.heap.size ≤ k ∧ k ≠ p) : SrcSt wB p n w' := by
  obtain ⟨a, c, m, seed, zs, h1, h2⟩ := h.src
  exact ⟨h.x.wroteNew hw fun k hk hS => by have := h.x.size; have := hs k hS (by omega); omega, h.lo, a, c, m, seed, zs, h1.keep (hw.block _ h1.lt fun hS => (hs p hS h1.lt).2 rfl), h2⟩
theorem SrcSt.more {wB : World} {p n n' : Nat} {w : World} (h : SrcSt wB p n w) (hn : n ≤ n') : SrcSt wB p n' w := by
  obtain ⟨a, c, m, seed, zs, h1, h2, h3⟩ := h.src
  exact ⟨h.x, h.lo, a, c, m, seed, zs, h1, by omega, h3⟩
set_option maxRecDepth 5000 in
set_option maxHeartbeats 1600000 in
theorem next_any (wB : World) (p n : Nat) (w : World) (hn : n ≤ 1000000000) (h : SrcSt wB p n w) :
    Calls Tryz.prog 37 #[.pointer (some ⟨p, 0, none⟩)] w fun e w' => ∃ r : Int, e = .returned (.int .i64 r) ∧ 0 ≤ r ∧ r ≤ 255 ∧ Wrote (fun k => k = p) w w' ∧ SrcSt wB p (n + 1) w' := by
  obtain ⟨a, c, m, seed, zs, h1, h2, h3, h4, h5, h6, h7⟩ := h.src
  have c0 := h1.cell0
  have c1 := h1.cell1
  have c2 := h1.cell2
  have f1 := h1.free 1
  have f2 := h1.free 2
  have HT := Lib.hid h1
  have HX := Lib.hid h.x
  have HLO := Lib.hid h.lo
  have HR := Lib.hid h6
  have HZ := Lib.hid h7
  clear h1 h h6 h7
  go_enter Tryz.func37, Tryz.ntmps37
  go_wp2_with fail
  refine wp_region_over_lit (by kernel_rfl) (by kernel_rfl) ?_; (repeat (go_big_quiet_step (fail))); refine wpQuiet_nil ?_; rintro _ ⟨x1, rfl⟩
  replace HT := Lib.hid (HT.out.ext ⟨x1, rfl⟩)
  have HW1 : Hid (Wrote (fun k => k = p) w (w.over x1)) := (World.Ext.wrote ⟨x1, rfl⟩ _)
  clear c0 c1 c2 f1 f2
  generalize w.over x1 = w1 at *
  have c0 := HT.out.cell0
  have c1 := HT.out.cell1
  by_cases hlt : m < zs.length
  · have hlt' : (m : Int) < (zs.length : Int) := by omega
    obtain ⟨b, o, rfl, hcz⟩ := HR.out m hlt
    replace hcz := (HX.out.wroteNew HW1.out fun k hk hs => by have := HLO.out; omega).cell hcz
    obtain ⟨z0, z1⟩ := HZ.out _ (getD_memZ hlt)
    generalize zs.getD m 0 = z at hcz z0 z1
    go_wp2_with fail
    refine wp_region_over_lit (by kernel_rfl) (by kernel_rfl) ?_; (repeat (go_big_quiet_step (fail))); refine wpQuiet_nil ?_; rintro _ ⟨x1, rfl⟩
    replace HT := Lib.hid (HT.out.ext ⟨x1, rfl⟩)
    replace HW1 := Lib.hid (HW1.out.trans (World.Ext.wrote ⟨x1, rfl⟩ _ : Wrote (fun k => k = p) w1 (w1.over x1)))
    clear c0 c1 hcz
    generalize w1.over x1 = w2 at *
    have c1 := HT.out.cell1
    have c2 := HT.out.cell2
    have f1 := HT.out.free 1
    have f2 := HT.out.free 2
    go_wp2
    have HS : Hid (∃ sd : Int, 0 ≤ sd ∧ sd < 18446744073709551616 ∧ Tri ((w2.setCell ⟨p, 1, none⟩ (.int .i64 (m + 1))).setCell ⟨p, 2, none⟩ (.int .u64 (IntKind.u64.wrap (IntKind.u64.wrap (IntKind.u64.wrap (seed * 6364136223846793005) + z) + 1442695040888963407)))) p 74 (.slice (some ⟨b, o, none⟩) zs.length c) (.int .i64 (m + 1)) (.int .u64 sd)) := ⟨_, (wrap_u64_range _).1, (wrap_u64_range _).2, (HT.out.set1 _).set2 _⟩
    have HW3 : Hid (Wrote (fun k => k = p) w ((w2.setCell ⟨p, 1, none⟩ (.int .i64 (m + 1))).setCell ⟨p, 2, none⟩ (.int .u64 (IntKind.u64.wrap (IntKind.u64.wrap (IntKind.u64.wrap (seed * 6364136223846793005) + z) + 1442695040888963407))))) := (HW1.out.setCell (p := ⟨p, 1, none⟩) rfl _).setCell (p := ⟨p, 2, none⟩) rfl _
    clear c1 c2 f1 f2 HT HW1
    generalize (w2.setCell ⟨p, 1, none⟩ (.int .i64 (m + 1))).setCell ⟨p, 2, none⟩ (.int .u64 (IntKind.u64.wrap (IntKind.u64.wrap (IntKind.u64.wrap (seed * 6364136223846793005) + z) + 1442695040888963407))) = w3 at *
    obtain ⟨sd, hs0, hs1, ht⟩ := HS.out
    have HT := Lib.hid ht
    clear HS ht
    have c0 := HT.out.cell0
    have c1 := HT.out.cell1
    have hle : (m : Int) + 1 ≤ (zs.length : Int) := by omega
    refine wp_region_over_lit (by kernel_rfl) (by kernel_rfl) ?_; (repeat (go_big_quiet_step (fail))); refine wpQuiet_nil ?_; rintro _ ⟨x1, rfl⟩
    have HX4 : Hid (Wrote (fun k => k = p) w (w3.over x1) ∧ Tri (w3.over x1) p 74 (.slice (some ⟨b, o, none⟩) zs.length c) (.int .i64 ((m + 1 : Nat) : Int)) (.int .u64 sd)) := ⟨HW3.out.trans (World.Ext.wrote ⟨x1, rfl⟩ _), HT.out.ext ⟨x1, rfl⟩⟩
    clear c0 c1
    generalize w3.over x1 = w4 at *
    go_wp2
    go_ret
    exact ⟨z, rfl, z0, z1, HX4.out.1, HX.out.wroteNew HX4.out.1 fun k hk hs => by have := HLO.out; omega, HLO.out, _, c, m + 1, sd, zs, HX4.out.2, by omega, hs0, hs1, h5, HR.out, HZ.out⟩
  · have hlt' : ¬ (m : Int) < (zs.length : Int) := by omega
    have c2 := HT.out.cell2
    have f1 := HT.out.free 1
    have f2 := HT.out.free 2
    go_wp2
    have HS : Hid (∃ sd : Int, 0 ≤ sd ∧ sd < 18446744073709551616 ∧ Tri ((w1.setCell ⟨p, 1, none⟩ (.int .i64 (m + 1))).setCell ⟨p, 2, none⟩ (.int .u64 (IntKind.u64.wrap (IntKind.u64.wrap (IntKind.u64.wrap (seed * 6364136223846793005)) + 1442695040888963407)))) p 74 (.slice a zs.length c) (.int .i64 (m + 1)) (.int .u64 sd)) := ⟨_, (wrap_u64_range _).1, (wrap_u64_range _).2, (HT.out.set1 _).set2 _⟩
    have HW3 : Hid (Wrote (fun k => k = p) w ((w1.setCell ⟨p, 1, none⟩ (.int .i64 (m + 1))).setCell ⟨p, 2, none⟩ (.int .u64 (IntKind.u64.wrap (IntKind.u64.wrap (IntKind.u64.wrap (seed * 6364136223846793005)) + 1442695040888963407))))) := (HW1.out.setCell (p := ⟨p, 1, none⟩) rfl _).setCell (p := ⟨p, 2, none⟩) rfl _
    clear c1 c2 f1 f2 HT HW1
    generalize (w1.setCell ⟨p, 1, none⟩ (.int .i64 (m + 1))).setCell ⟨p, 2, none⟩ (.int .u64 (IntKind.u64.wrap (IntKind.u64.wrap (IntKind.u64.wrap (seed * 6364136223846793005)) + 1442695040888963407))) = w3 at *
    obtain ⟨sd, hs0, hs1, ht⟩ := HS.out
    have HT := Lib.hid ht
    clear HS ht
    have c0 := HT.out.cell0
    have c1 := HT.out.cell1
    have hle : ¬ (m : Int) + 1 ≤ (zs.length : Int) := by omega
    refine wp_region_over_lit (by kernel_rfl) (by kernel_rfl) ?_; (repeat (go_big_quiet_step (fail))); refine wpQuiet_nil ?_; rintro _ ⟨x1, rfl⟩
    have HX4 : Hid (Wrote (fun k => k = p) w (w3.over x1) ∧ Tri (w3.over x1) p 74 (.slice a zs.length c) (.int .i64 ((m + 1 : Nat) : Int)) (.int .u64 sd)) := ⟨HW3.out.trans (World.Ext.wrote ⟨x1, rfl⟩ _), HT.out.ext ⟨x1, rfl⟩⟩
    clear c0 c1
    generalize w3.over x1 = w4 at *
    have c2 := HX4.out.2.cell2
    have HRN := Lib.hid (rnd_range sd hs0 hs1)
    go_wp2
    go_ret
    exact ⟨_, rfl, HRN.out.1, HRN.out.2, HX4.out.1, HX.out.wroteNew HX4.out.1 fun k hk hs => by have := HLO.out; omega, HLO.out, a, c, m + 1, sd, zs, HX4.out.2, by omega, hs0, hs1, h5, HR.out, HZ.out⟩
def PickRet (wB : World) (p n : Nat) (w : World) (N : Int) (e : Ending) (w' : World) : Prop := ∃ r : Int, e = .returned (.int .i64 r) ∧ 0 ≤ r ∧ (r < N ∨ r = 0) ∧ Wrote (fun k => k = p) w w' ∧ SrcSt wB p n w'
set_option maxRecDepth 5000 in
theorem pick_any (wB : World) (p n : Nat) (N : Int) (w : World) (hn : n ≤ 900000000) (h : SrcSt wB p n w) :
    Calls Tryz.prog 15 #[.pointer (some ⟨p, 0, none⟩), .int .i64 N] w (PickRet wB p (n + 2) w N) := by
  have HN : Hid (∀ w' k, k ≤ n + 1 → SrcSt wB p k w' → Calls Tryz.prog 37 #[.pointer (some ⟨p, 0, none⟩)] w' fun e w'' => ∃ r : Int, e = .returned (.int .i64 r) ∧ 0 ≤ r ∧ r ≤ 255 ∧ Wrote (fun k => k = p) w' w'' ∧ SrcSt wB p (k + 1) w'') := fun w' k hk h' => next_any wB p k w' (by omega) h'
  have HS := Lib.hid h
  clear h hn
  by_cases h1 : N ≤ 1
  · go_enter Tryz.func15, Tryz.ntmps15
    go_wp2
    go_ret
    exact ⟨0, rfl, by omega, by omega, Wrote.refl _ _, HS.out.more (by omega)⟩
  · by_cases h2 : N ≤ 200
    · have h2' : ¬ 200 < N := by omega
      go_enter Tryz.func15, Tryz.ntmps15
      go_wp2_with fail
      refine (HN.out w n (by omega) HS.out).mono ?_
      rintro e w1 ⟨r, rfl, r0, r1, hw, hs⟩
      have HW := Lib.hid hw
      have HS1 := Lib.hid hs
      clear hw hs HN HS
      have hm0 : 0 ≤ r % N := Int.emod_nonneg _ (by omega)
      have hm1 : r % N < N := Int.emod_lt_of_pos _ (by omega)
      have HM := Lib.hid (And.intro hm0 hm1)
      clear hm0 hm1
      go_wp2
      go_ret
      exact ⟨_, rfl, HM.out.1, .inl HM.out.2, HW.out, HS1.out.more (by omega)⟩
    · have h2' : 200 < N := by omega
      go_enter Tryz.func15, Tryz.ntmps15
      go_wp2_with fail
      refine (HN.out w n (by omega) HS.out).mono ?_
      rintro e w1 ⟨r, rfl, r0, r1, hw, hs⟩
      have HW := Lib.hid hw
      have HS1 := Lib.hid hs
      clear hw hs
      go_wp2_with fail
      refine (HN.out w1 (n + 1) (by omega) HS1.out).mono ?_
      rintro e w2 ⟨q, rfl, q0, q1, hw, hs⟩
      have HW2 := Lib.hid (HW.out.trans hw)
      have HS2 := Lib.hid hs
      clear hw hs HN HS HW HS1
      have hm0 : 0 ≤ (r * 256 + q) % N := Int.emod_nonneg _ (by omega)
      have hm1 : (r * 256 + q) % N < N := Int.emod_lt_of_pos _ (by omega)
      have HM := Lib.hid (And.intro hm0 hm1)
      clear hm0 hm1
      go_wp2
      go_ret
      exact ⟨_, rfl, HM.out.1, .inl HM.out.2, HW2.out, HS2.out⟩
theorem one_any (wB : World) (p n : Nat) (N : Int) (w : World) (hn : n ≤ 900000000) (h : SrcSt wB p n w) :
    Calls Tryz.prog 38 #[.pointer (some ⟨p, 0, none⟩), .int .i64 N] w fun e w' => ∃ b : Bool, e = .returned (.bool b) ∧ Wrote (fun k => k = p) w w' ∧ SrcSt wB p (n + 2) w' := by
  have HP := Lib.hid (pick_any wB p n N w hn h)
  clear h hn
  go_enter Tryz.func38, Tryz.ntmps38
  go_wp2_with fail
  refine HP.out.mono ?_
  rintro e w1 ⟨r, rfl, r0, -, hw, hs⟩
  have HW := Lib.hid hw
  have HS1 := Lib.hid hs
  clear hw hs HP
  go_wp2
  go_ret
  exact ⟨_, rfl, HW.out, HS1.out⟩
/-- The bytes of an argument. -/
def CodeAt (w : World) (a : Option Addr) (zs : List Int) : Prop := RowU w a zs ∧ (∀ z, z ∈ zs → 0 ≤ z ∧ z ≤ 255) ∧ zs.length ≤ maxLen
theorem CodeAt.ext {w w' : World} {a : Option Addr} {zs : List Int} (h : CodeAt w a zs) (hx : w.Ext w') : CodeAt w' a zs := ⟨RowOf.ext h.1 hx, h.2⟩
theorem from_any (a : Option Addr) (c : Nat) (zs : List Int) (wB w : World) (hb : wB.Ext w) (h : CodeAt wB a zs) :
    Calls Tryz.prog 14 #[.slice a zs.length c] w fun e w' => e = .returned (.pointer (some ⟨w.heap.size, 0, none⟩)) ∧ w.Ext w' ∧ SrcSt wB w.heap.size 0 w' := by
  have HB := Lib.hid hb
  have HC := Lib.hid h
  clear hb h
  go_enter Tryz.func14, Tryz.ntmps14
  go_wp2
  go_ret
  exact ⟨rfl, by repeat (first | exact World.Ext.refl _ | exact ⟨_, rfl⟩ | assumption | refine World.Ext.over ?_ _ | refine World.Ext.drewN ?_ _ | refine World.Ext.drew ?_ | refine World.Ext.alloc ?_ _ | refine World.Ext.setCell ?_ (by simp) _), HB.out.trans (by repeat (first | exact World.Ext.refl _ | exact ⟨_, rfl⟩ | assumption | refine World.Ext.over ?_ _ | refine World.Ext.drewN ?_ _ | refine World.Ext.drew ?_ | refine World.Ext.alloc ?_ _ | refine World.Ext.setCell ?_ (by simp) _)), HB.out.size, a, c, 0, 0, zs, Tri.new _ _ _ _ _ _ rfl, by omega, by omega, by omega, HC.out.2.2, HC.out.1, HC.out.2.1⟩
end Go.Proofs.YtkpgelhmeokemaaGreatDoor

/- The reference makes a picture: its rows are the call's own. -/
namespace Go.Proofs.YtkpgelhmeokemaaGreatDoor
open Go Go.RowKit
end Go.Proofs.YtkpgelhmeokemaaGreatDoor

/- The reference draws a picture: which one is left open. -/
namespace Go.Proofs.YtkpgelhmeokemaaGreatDoor
open Go Go.RowKit
theorem _root_.Go.GrowOf.lower {α : Type} {f : α → Value} {lo lo' : Nat} {e : TypeId} {w : World} {v : Value} {xs : List α} (h : GrowOf f lo e w v xs) (hl : lo' ≤ lo) : GrowOf f lo' e w v xs := by
  obtain ⟨h1, h2⟩ := h
  refine ⟨h1, ?_⟩
  rcases h2 with h0 | ⟨g, c, cur, hv, hb, r⟩
  · exact .inl h0
  · exact .inr ⟨g, c, cur, hv, Nat.le_trans hl hb, r⟩
/-- A picture that is drawn: its pixels in a block of the call's own. -/
structure DrSt (wB w0 : World) (p q g m n : Nat) (wr : World) : Prop where
  wrote : Wrote (fun k => k = p) w0 wr
  src : SrcSt wB p n wr
  one : One wr q 31 (.slice none 0 0)
  px : ∃ l : List Bool, l.length = m ∧ BlkOf Value.bool wr g 4 l
  ap : p < w0.heap.size ∧ w0.heap.size ≤ q ∧ q < g
section
variable {wB w0 : World} {p q g m n : Nat} {wr w' : World}
theorem DrSt.call (h : DrSt wB w0 p q g m n wr) (hw : Wrote (fun k => k = p) wr w') {n' : Nat} (hs : SrcSt wB p n' w') : DrSt wB w0 p q g m n' w' := by
  obtain ⟨l, h1, h2⟩ := h.px
  obtain ⟨a1, a2, a3⟩ := h.ap
  exact ⟨h.wrote.trans hw, hs, h.one.keep (hw.block q h.one.lt (by omega)), ⟨l, h1, h2.keep (hw.block g h2.lt (by omega))⟩, h.ap⟩
theorem DrSt.ext (h : DrSt wB w0 p q g m n wr) (hx : wr.Ext w') : DrSt wB w0 p q g m n w' := h.call (hx.wrote _) (h.src.ext hx)
theorem DrSt.more (h : DrSt wB w0 p q g m n wr) {n' : Nat} (hn : n ≤ n') : DrSt wB w0 p q g m n' wr := ⟨h.wrote, h.src.more hn, h.one, h.px, h.ap⟩
theorem DrSt.at (h : DrSt wB w0 p q g m n wr) {i : Nat} (hi : i < m) :
    ∃ v : Bool, wr.cell? ⟨g, i, none⟩ = some (.bool v) ∧ wr.frozen? ⟨g, i, none⟩ = false ∧ ∀ b : Bool, DrSt wB w0 p q g m n (wr.setCell ⟨g, i, none⟩ (.bool b)) := by
  obtain ⟨l, h1, h2⟩ := h.px
  obtain ⟨a1, a2, a3⟩ := h.ap
  refine ⟨l.getD i false, h2.cell false (by omega), h2.free i, fun b => ?_⟩
  have hw : Wrote (fun k => k = g) wr (wr.setCell ⟨g, i, none⟩ (.bool b)) := Wrote.setCell (S := fun k => k = g) (Wrote.refl _ wr) (p := ⟨g, i, none⟩) rfl _
  refine ⟨?_, h.src.wrote hw fun k hk hl => ?_, h.one.other (by simp only; omega) _, ⟨l.set i b, by rw [List.length_set, h1], h2.set i b⟩, h.ap⟩
  · exact ((h.wrote.mono (T := fun k => k = p ∨ w0.heap.size ≤ k) fun k _ hk => .inl hk).setCell (p := ⟨g, i, none⟩) (.inr (show w0.heap.size ≤ g by omega)) _).mono fun k hk hs => by omega
  · have := h.src.x.size
    have := h.src.lo
    omega
theorem DrSt.start (h : SrcSt wB p n w0) {g : Nat} (hg : (w0.alloc (.cells #[.slice none 0 0] 31)).Ext wr) (hb : BlkOf Value.bool wr g 4 (List.replicate m false)) (hlt : w0.heap.size < g) : DrSt wB w0 p w0.heap.size g m n wr :=
  have hx : w0.Ext wr := World.Ext.trans (by repeat (first | exact World.Ext.refl _ | exact ⟨_, rfl⟩ | assumption | refine World.Ext.over ?_ _ | refine World.Ext.drewN ?_ _ | refine World.Ext.drew ?_ | refine World.Ext.alloc ?_ _ | refine World.Ext.setCell ?_ (by simp) _)) hg
  ⟨hx.wrote _, h.ext hx, (One.new _ _ _ _ rfl).ext hg, ⟨_, by simp, hb⟩, h.lt, Nat.le_refl _, hlt⟩
end
theorem DrSt.store {wB w0 : World} {p q g m n : Nat} {wr w3 : World} {a : Option Addr} {xs : List ByteArray} (h : DrSt wB w0 p q g m n wr) (hx : wr.Ext w3) {n3 c3 : Nat} (ho : GrowOf Value.string wr.heap.size 9 w3 (.slice a n3 c3) xs) (v : Value) :
    w3.cell? ⟨q, 0, none⟩ = some (.slice none 0 0) ∧ w3.frozen? ⟨q, 0, none⟩ = false ∧ (w3.setCell ⟨q, 0, none⟩ v).cell? ⟨q, 0, none⟩ = some v ∧
      Hid (Wrote (fun k => k = p) w0 (w3.setCell ⟨q, 0, none⟩ v) ∧ SrcSt wB p n (w3.setCell ⟨q, 0, none⟩ v) ∧ GrowOf Value.string w0.heap.size 9 (w3.setCell ⟨q, 0, none⟩ v) (.slice a n3 c3) xs) := by
  have h3 := h.ext hx
  obtain ⟨a1, a2, a3⟩ := h.ap
  have hq := h.one.lt
  have hw : Wrote (fun k => k = q) w3 (w3.setCell ⟨q, 0, none⟩ v) := Wrote.setCell (S := fun k => k = q) (Wrote.refl _ w3) (p := ⟨q, 0, none⟩) rfl _
  refine ⟨h3.one.cell, h3.one.free, (h3.one.set v).cell, ?_, h3.src.wrote hw fun k hk hl => ?_, GrowOf.lower (GrowOf.setCell ho (GrowOf.ne ho h3.one (by decide)) v) ?_⟩
  · exact ((h3.wrote.mono (T := fun k => k = p ∨ w0.heap.size ≤ k) fun k _ hk => .inl hk).setCell (p := ⟨q, 0, none⟩) (.inr (show w0.heap.size ≤ q by omega)) _).mono fun k hk hs => by omega
  · have := h3.src.x.size
    have := h3.src.lo
    have := h.src.x.size
    omega
  · omega
/-- What a drawn picture is. -/
def DrawRet (wB w : World) (p n W H : Nat) (e : Ending) (w' : World) : Prop :=
  ∃ (a : Option Addr) (c : Nat) (l : List Bool), l.length = W * H ∧ e = .returned (.agg #[.slice a H c]) ∧ Wrote (fun k => k = p) w w' ∧ SrcSt wB p n w' ∧ GrowOf Value.string w.heap.size 9 w' (.slice a H c) (picRows W H l)
end Go.Proofs.YtkpgelhmeokemaaGreatDoor

/- What the laws of the tenth workplace draw, and their small helpers. -/
namespace Go.Proofs.YtkpgelhmeokemaaGreatDoor
open Go Go.RowKit
theorem rowGood_row {W : Nat} {l : List Bool} (h : l.length = W) : rowGood W (rowStr l) = true := by
  unfold rowGood
  rw [rowStr_size, h, decide_eq_true rfl, Bool.true_and, List.all_eq_true]
  intro x hx
  unfold rowStr at hx
  rw [strOfNums_data] at hx
  obtain ⟨z, hz, rfl⟩ := List.mem_map.1 hx
  obtain ⟨b, -, rfl⟩ := List.mem_map.1 hz
  cases b <;> rfl
theorem picOk_rows {W H : Nat} {l : List Bool} (hW1 : 1 ≤ W) (hW2 : W ≤ 16) (hH1 : 1 ≤ H) (hH2 : H ≤ 16) (hl : l.length = W * H) : picOk (picRows W H l) = true := by
  unfold picOk
  rw [picW_rows (by omega) hl, picRows_len, inB_true.2 (by omega), inB_true.2 (by omega), Bool.true_and, Bool.true_and, List.all_eq_true]
  intro s hs
  unfold picRows at hs
  obtain ⟨y, hy, rfl⟩ := List.mem_map.1 hs
  exact rowGood_row (rowAt_len W H l y hl (List.mem_range.1 hy))
/-- A new picture with a property is returned. -/
def NewPic (w : World) (P : List ByteArray → Prop) (e : Ending) (w' : World) : Prop :=
  ∃ (a : Option Addr) (c : Nat) (ss : List ByteArray), e = .returned (.agg #[.slice a ss.length c]) ∧ P ss ∧ w.Ext w' ∧ OwnOf Value.string ByteArray.empty w.heap.size w'.heap.size w' a ss
def PicIn (n : Nat) (ss : List ByteArray) : Prop := picOk ss = true ∧ ss.length ≤ n ∧ picW ss ≤ n
def PicOf (W H : Nat) (ss : List ByteArray) : Prop := picOk ss = true ∧ ss.length = H ∧ picW ss = W
def PixRet (w : World) (px : Bool) (e : Ending) (w' : World) : Prop := ∃ b ok : Bool, e = .returned (.tuple #[.bool b, .bool ok]) ∧ w.Ext w' ∧ (b && ok) = px
def LongRet (w : World) (m n n2 : Nat) (e : Ending) (w' : World) : Prop := ∃ t : Bool, e = .returned (.bool t) ∧ w.Ext w' ∧ (t = false → n ≤ m ∧ n2 ≤ m)
theorem long_any (a : Option Addr) (n c : Nat) (a2 : Option Addr) (n2 c2 : Nat) (w : World) (_ : n ≤ maxLen) (_ : n2 ≤ maxLen) :
    Calls Tryz.prog 4 #[.slice a n c, .slice a2 n2 c2] w (LongRet w 1048576 n n2) := by
  by_cases h1 : n ≤ 1048576
  · have h1' : ¬ (1048576 : Int) < (n : Int) := by omega
    by_cases h2 : n2 ≤ 1048576
    · have h2' : ¬ (1048576 : Int) < (n2 : Int) := by omega
      go_enter Tryz.func4, Tryz.ntmps4
      go_wp2
      go_ret
      exact ⟨false, rfl, .refl _, fun _ => ⟨h1, h2⟩⟩
    · have h2' : (1048576 : Int) < (n2 : Int) := by omega
      go_enter Tryz.func4, Tryz.ntmps4
      go_wp2
      go_ret
      exact ⟨true, rfl, .refl _, fun h => by cases h⟩
  · have h1' : (1048576 : Int) < (n : Int) := by omega
    go_enter Tryz.func4, Tryz.ntmps4
    go_wp2
    go_ret
    exact ⟨true, rfl, .refl _, fun h => by cases h⟩
def b10AtV (zs : List Int) (i n : Int) : Int := if n ≤ 1 then 0 else if i < zs.length then zs.getD i.toNat 0 % n else (i * 37 + 11) % n
end Go.Proofs.YtkpgelhmeokemaaGreatDoor
