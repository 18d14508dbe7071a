/- The reference's drawing: bytes are read one after another. What is drawn is left open but for its bounds. -/
import Derived.Test.YtelaoimcaidoiaaPic
import Derived.Test.YtelaoimcaidoiaaKit
import Derived.Test.YtelaoimcaidoiaaListS
import Derived.Test.YtelaoimcaidoiaaRecP
import Derived.Deep.DeepCutAuto
import Derived.Deep.CutBlock
namespace Go
open Go.RowKit
/-- A block of three cells. -/
def Tri (w : World) (p : Nat) (e : TypeId) (u v x : Value) : Prop := w.heap[p]? = some (.cells #[u, v, x] e (0, 0))
section
variable {w w' : World} {p : Nat} {e : TypeId} {u v x : Value}
theorem Tri.cell0 (h : Tri w p e u v x) : w.cell? ⟨p, 0, none⟩ = some u := by unfold Tri at h; simp [World.cell?, h]
theorem Tri.cell1 (h : Tri w p e u v x) : w.cell? ⟨p, 1, none⟩ = some v := by unfold Tri at h; simp [World.cell?, h]
theorem Tri.cell2 (h : Tri w p e u v x) : w.cell? ⟨p, 2, none⟩ = some x := by unfold Tri at h; simp [World.cell?, h]
theorem Tri.free (h : Tri w p e u v x) (i : Nat) : w.frozen? ⟨p, i, none⟩ = false := by unfold Tri at h; simp [World.frozen?, h]
theorem Tri.lt (h : Tri w p e u v x) : p < w.heap.size := (Array.getElem?_eq_some_iff.1 h).1
theorem Tri.keep (h : Tri w p e u v x) (hk : w'.heap[p]? = w.heap[p]?) : Tri w' p e u v x := by unfold Tri at *; rw [hk, h]
theorem Tri.ext (h : Tri w p e u v x) (hx : w.Ext w') : Tri w' p e u v x := h.keep (hx.block h.lt)
theorem Tri.set1 (h : Tri w p e u v x) (a : Value) : Tri (w.setCell ⟨p, 1, none⟩ a) p e u a x := by
  unfold Tri at *
  simp [World.setCell, Array.getElem?_modify, h]
theorem Tri.set2 (h : Tri w p e u v x) (a : Value) : Tri (w.setCell ⟨p, 2, none⟩ a) p e u v a := by
  unfold Tri at *
  simp [World.setCell, Array.getElem?_modify, h]
theorem Tri.new (w : World) (u v x : Value) (e : TypeId) (p : Nat) (hp : p = w.heap.size) : Tri (w.alloc (.cells #[u, v, x] e)) p e u v x := by
  subst hp
  show (w.heap.push _)[w.heap.size]? = _
  simp
end
end Go
namespace Go.Proofs.Ytelaoimcaidoiaa
open Go Go.RowKit
theorem getD_memZ {l : List Int} {i : Nat} (h : i < l.length) : l.getD i 0 ∈ l := by
  rw [List.getD_eq_getElem?_getD, List.getElem?_eq_getElem h]
  exact List.getElem_mem h
theorem wrap_u64_range (x : Int) : 0 ≤ IntKind.u64.wrap x ∧ IntKind.u64.wrap x < 18446744073709551616 := by
  have : IntKind.u64.wrap x = x % 18446744073709551616 := by simp [IntKind.wrap, IntKind.bits, IntKind.signed]
  rw [this]
  omega
theorem rnd_range (sd : Int) (h0 : 0 ≤ sd) (h1 : sd < 18446744073709551616) : 0 ≤ wrap64 (bits .and .u64 (sd / 1099511627776) 255) ∧ wrap64 (bits .and .u64 (sd / 1099511627776) 255) ≤ 255 := by
  have h := bits_mask .u64 64 (by decide) (fun n h0 h1 => by rw [show IntKind.u64.wrap n = n % 18446744073709551616 by simp [IntKind.wrap, IntKind.bits, IntKind.signed]]; omega) 8 (by decide) (sd / 1099511627776) (by omega) (by omega)
  rw [show ((2 : Int) ^ 8 - 1) = 255 by decide, show ((2 : Int) ^ 8) = 256 by decide] at h
  rw [h]
  unfold wrap64
  omega
/-- A source of bytes, of which at most n are read, in a world behind the base. -/
structure SrcSt (wB : World) (p n : Nat) (w : World) : Prop where
  x : wB.Ext w
  lo : wB.heap.size ≤ p
  src : ∃ (a : Option Addr) (c m : Nat) (seed : Int) (zs : List Int), Tri w p 67 (.slice a zs.length c) (.int .i64 m) (.int .u64 seed) ∧ m ≤ n ∧ 0 ≤ seed ∧ seed < 18446744073709551616 ∧ zs.length ≤ maxLen ∧ RowU wB a zs ∧ ∀ z, z ∈ zs → 0 ≤ z ∧ z ≤ 255
theorem SrcSt.ext {wB : World} {p n : Nat} {w w' : World} (h : SrcSt wB p n w) (hx : w.Ext w') : SrcSt wB p n w' := by
  obtain ⟨a, c, m, seed, zs, h1, h2⟩ := h.src
  exact ⟨h.x.trans hx, h.lo, a, c, m, seed, zs, h1.ext hx, h2⟩
theorem SrcSt.lt {wB : World} {p n : Nat} {w : World} (h : SrcSt wB p n w) : p < w.heap.size := by
  obtain ⟨a, c, m, seed, zs, h1, h2⟩ := h.src
  exact h1.lt
theorem SrcSt.wrote {wB : World} {p n : Nat} {w w' : World} {S : Nat → Prop} (h : SrcSt wB p n w) (hw : Wrote S w w') (hs : ∀ k, S k → k < w.heap.size → wB.heap.size ≤ k ∧ k ≠ p) : SrcSt wB p n w' := by
  obtain ⟨a, c, m, seed, zs, h1, h2⟩ := h.src
  exact ⟨h.x.wroteNew hw fun k hk hS => by have := h.x.size; have := hs k hS (by omega); omega, h.lo, a, c, m, seed, zs, h1.keep (hw.block _ h1.lt fun hS => (hs p hS h1.lt).2 rfl), h2⟩
theorem SrcSt.more {wB : World} {p n n' : Nat} {w : World} (h : SrcSt wB p n w) (hn : n ≤ n') : SrcSt wB p n' w := by
  obtain ⟨a, c, m, seed, zs, h1, h2, h3⟩ := h.src
  exact ⟨h.x, h.lo, a, c, m, seed, zs, h1, by omega, h3⟩
set_option maxRecDepth 5000 in
set_option maxHeartbeats 1600000 in
theorem next_any (wB : World) (p n : Nat) (w : World) (hn : n ≤ 1000000000) (h : SrcSt wB p n w) :
    Calls Try.prog 33 #[.pointer (some ⟨p, 0, none⟩)] w fun e w' => ∃ r : Int, e = .returned (.int .i64 r) ∧ 0 ≤ r ∧ r ≤ 255 ∧ Wrote (fun k => k = p) w w' ∧ SrcSt wB p (n + 1) w' := by
  obtain ⟨a, c, m, seed, zs, h1, h2, h3, h4, h5, h6, h7⟩ := h.src
  have c0 := h1.cell0
  have c1 := h1.cell1
  have c2 := h1.cell2
  have f1 := h1.free 1
  have f2 := h1.free 2
  have HT := Lib.hid h1
  have HX := Lib.hid h.x
  have HLO := Lib.hid h.lo
  have HR := Lib.hid h6
  have HZ := Lib.hid h7
  clear h1 h h6 h7
  go_enter Try.func33, Try.ntmps33
  go_wp2_with fail
  refine wp_region_over_lit (by kernel_rfl) (by kernel_rfl) ?_; (repeat (go_big_quiet_step (fail))); refine wpQuiet_nil ?_; rintro _ ⟨x1, rfl⟩
  replace HT := Lib.hid (HT.out.ext ⟨x1, rfl⟩)
  have HW1 : Hid (Wrote (fun k => k = p) w (w.over x1)) := (World.Ext.wrote ⟨x1, rfl⟩ _)
  clear c0 c1 c2 f1 f2
  generalize w.over x1 = w1 at *
  have c0 := HT.out.cell0
  have c1 := HT.out.cell1
  by_cases hlt : m < zs.length
  · have hlt' : (m : Int) < (zs.length : Int) := by omega
    obtain ⟨b, o, rfl, hcz⟩ := HR.out m hlt
    replace hcz := (HX.out.wroteNew HW1.out fun k hk hs => by have := HLO.out; omega).cell hcz
    obtain ⟨z0, z1⟩ := HZ.out _ (getD_memZ hlt)
    generalize zs.getD m 0 = z at hcz z0 z1
    go_wp2_with fail
    refine wp_region_over_lit (by kernel_rfl) (by kernel_rfl) ?_; (repeat (go_big_quiet_step (fail))); refine wpQuiet_nil ?_; rintro _ ⟨x1, rfl⟩
    replace HT := Lib.hid (HT.out.ext ⟨x1, rfl⟩)
    replace HW1 := Lib.hid (HW1.out.trans (World.Ext.wrote ⟨x1, rfl⟩ _ : Wrote (fun k => k = p) w1 (w1.over x1)))
    clear c0 c1 hcz
    generalize w1.over x1 = w2 at *
    have c1 := HT.out.cell1
    have c2 := HT.out.cell2
    have f1 := HT.out.free 1
    have f2 := HT.out.free 2
    go_wp2
    have HS : Hid (∃ sd : Int, 0 ≤ sd ∧ sd < 18446744073709551616 ∧ Tri ((w2.setCell ⟨p, 1, none⟩ (.int .i64 (m + 1))).setCell ⟨p, 2, none⟩ (.int .u64 (IntKind.u64.wrap (IntKind.u64.wrap (IntKind.u64.wrap (seed * 6364136223846793005) + z) + 1442695040888963407)))) p 67 (.slice (some ⟨b, o, none⟩) zs.length c) (.int .i64 (m + 1)) (.int .u64 sd)) := ⟨_, (wrap_u64_range _).1, (wrap_u64_range _).2, (HT.out.set1 _).set2 _⟩
    have HW3 : Hid (Wrote (fun k => k = p) w ((w2.setCell ⟨p, 1, none⟩ (.int .i64 (m + 1))).setCell ⟨p, 2, none⟩ (.int .u64 (IntKind.u64.wrap (IntKind.u64.wrap (IntKind.u64.wrap (seed * 6364136223846793005) + z) + 1442695040888963407))))) := (HW1.out.setCell (p := ⟨p, 1, none⟩) rfl _).setCell (p := ⟨p, 2, none⟩) rfl _
    clear c1 c2 f1 f2 HT HW1
    generalize (w2.setCell ⟨p, 1, none⟩ (.int .i64 (m + 1))).setCell ⟨p, 2, none⟩ (.int .u64 (IntKind.u64.wrap (IntKind.u64.wrap (IntKind.u64.wrap (seed * 6364136223846793005) + z) + 1442695040888963407))) = w3 at *
    obtain ⟨sd, hs0, hs1, ht⟩ := HS.out
    have HT := Lib.hid ht
    clear HS ht
    have c0 := HT.out.cell0
    have c1 := HT.out.cell1
    have hle : (m : Int) + 1 ≤ (zs.length : Int) := by omega
    refine wp_region_over_lit (by kernel_rfl) (by kernel_rfl) ?_; (repeat (go_big_quiet_step (fail))); refine wpQuiet_nil ?_; rintro _ ⟨x1, rfl⟩
    have HX4 : Hid (Wrote (fun k => k = p) w (w3.over x1) ∧ Tri (w3.over x1) p 67 (.slice (some ⟨b, o, none⟩) zs.length c) (.int .i64 ((m + 1 : Nat) : Int)) (.int .u64 sd)) := ⟨HW3.out.trans (World.Ext.wrote ⟨x1, rfl⟩ _), HT.out.ext ⟨x1, rfl⟩⟩
    clear c0 c1
    generalize w3.over x1 = w4 at *
    go_wp2
    go_ret
    exact ⟨z, rfl, z0, z1, HX4.out.1, HX.out.wroteNew HX4.out.1 fun k hk hs => by have := HLO.out; omega, HLO.out, _, c, m + 1, sd, zs, HX4.out.2, by omega, hs0, hs1, h5, HR.out, HZ.out⟩
  · have hlt' : ¬ (m : Int) < (zs.length : Int) := by omega
    have c2 := HT.out.cell2
    have f1 := HT.out.free 1
    have f2 := HT.out.free 2
    go_wp2
    have HS : Hid (∃ sd : Int, 0 ≤ sd ∧ sd < 18446744073709551616 ∧ Tri ((w1.setCell ⟨p, 1, none⟩ (.int .i64 (m + 1))).setCell ⟨p, 2, none⟩ (.int .u64 (IntKind.u64.wrap (IntKind.u64.wrap (IntKind.u64.wrap (seed * 6364136223846793005)) + 1442695040888963407)))) p 67 (.slice a zs.length c) (.int .i64 (m + 1)) (.int .u64 sd)) := ⟨_, (wrap_u64_range _).1, (wrap_u64_range _).2, (HT.out.set1 _).set2 _⟩
    have HW3 : Hid (Wrote (fun k => k = p) w ((w1.setCell ⟨p, 1, none⟩ (.int .i64 (m + 1))).setCell ⟨p, 2, none⟩ (.int .u64 (IntKind.u64.wrap (IntKind.u64.wrap (IntKind.u64.wrap (seed * 6364136223846793005)) + 1442695040888963407))))) := (HW1.out.setCell (p := ⟨p, 1, none⟩) rfl _).setCell (p := ⟨p, 2, none⟩) rfl _
    clear c1 c2 f1 f2 HT HW1
    generalize (w1.setCell ⟨p, 1, none⟩ (.int .i64 (m + 1))).setCell ⟨p, 2, none⟩ (.int .u64 (IntKind.u64.wrap (IntKind.u64.wrap (IntKind.u64.wrap (seed * 6364136223846793005)) + 1442695040888963407))) = w3 at *
    obtain ⟨sd, hs0, hs1, ht⟩ := HS.out
    have HT := Lib.hid ht
    clear HS ht
    have c0 := HT.out.cell0
    have c1 := HT.out.cell1
    have hle : ¬ (m : Int) + 1 ≤ (zs.length : Int) := by omega
    refine wp_region_over_lit (by kernel_rfl) (by kernel_rfl) ?_; (repeat (go_big_quiet_step (fail))); refine wpQuiet_nil ?_; rintro _ ⟨x1, rfl⟩
    have HX4 : Hid (Wrote (fun k => k = p) w (w3.over x1) ∧ Tri (w3.over x1) p 67 (.slice a zs.length c) (.int .i64 ((m + 1 : Nat) : Int)) (.int .u64 sd)) := ⟨HW3.out.trans (World.Ext.wrote ⟨x1, rfl⟩ _), HT.out.ext ⟨x1, rfl⟩⟩
    clear c0 c1
    generalize w3.over x1 = w4 at *
    have c2 := HX4.out.2.cell2
    have HRN := Lib.hid (rnd_range sd hs0 hs1)
    go_wp2
    go_ret
    exact ⟨_, rfl, HRN.out.1, HRN.out.2, HX4.out.1, HX.out.wroteNew HX4.out.1 fun k hk hs => by have := HLO.out; omega, HLO.out, a, c, m + 1, sd, zs, HX4.out.2, by omega, hs0, hs1, h5, HR.out, HZ.out⟩
def PickRet (wB : World) (p n : Nat) (w : World) (N : Int) (e : Ending) (w' : World) : Prop := ∃ r : Int, e = .returned (.int .i64 r) ∧ 0 ≤ r ∧ (r < N ∨ r = 0) ∧ Wrote (fun k => k = p) w w' ∧ SrcSt wB p n w'
set_option maxRecDepth 5000 in
theorem pick_any (wB : World) (p n : Nat) (N : Int) (w : World) (hn : n ≤ 900000000) (h : SrcSt wB p n w) :
    Calls Try.prog 14 #[.pointer (some ⟨p, 0, none⟩), .int .i64 N] w (PickRet wB p (n + 2) w N) := by
  have HN : Hid (∀ w' k, k ≤ n + 1 → SrcSt wB p k w' → Calls Try.prog 33 #[.pointer (some ⟨p, 0, none⟩)] w' fun e w'' => ∃ r : Int, e = .returned (.int .i64 r) ∧ 0 ≤ r ∧ r ≤ 255 ∧ Wrote (fun k => k = p) w' w'' ∧ SrcSt wB p (k + 1) w'') := fun w' k hk h' => next_any wB p k w' (by omega) h'
  have HS := Lib.hid h
  clear h hn
  by_cases h1 : N ≤ 1
  · go_enter Try.func14, Try.ntmps14
    go_wp2
    go_ret
    exact ⟨0, rfl, by omega, by omega, Wrote.refl _ _, HS.out.more (by omega)⟩
  · by_cases h2 : N ≤ 200
    · have h2' : ¬ 200 < N := by omega
      go_enter Try.func14, Try.ntmps14
      go_wp2_with fail
      refine (HN.out w n (by omega) HS.out).mono ?_
      rintro e w1 ⟨r, rfl, r0, r1, hw, hs⟩
      have HW := Lib.hid hw
      have HS1 := Lib.hid hs
      clear hw hs HN HS
      have hm0 : 0 ≤ r % N := Int.emod_nonneg _ (by omega)
      have hm1 : r % N < N := Int.emod_lt_of_pos _ (by omega)
      have HM := Lib.hid (And.intro hm0 hm1)
      clear hm0 hm1
      go_wp2
      go_ret
      exact ⟨_, rfl, HM.out.1, .inl HM.out.2, HW.out, HS1.out.more (by omega)⟩
    · have h2' : 200 < N := by omega
      go_enter Try.func14, Try.ntmps14
      go_wp2_with fail
      refine (HN.out w n (by omega) HS.out).mono ?_
      rintro e w1 ⟨r, rfl, r0, r1, hw, hs⟩
      have HW := Lib.hid hw
      have HS1 := Lib.hid hs
      clear hw hs
      go_wp2_with fail
      refine (HN.out w1 (n + 1) (by omega) HS1.out).mono ?_
      rintro e w2 ⟨q, rfl, q0, q1, hw, hs⟩
      have HW2 := Lib.hid (HW.out.trans hw)
      have HS2 := Lib.hid hs
      clear hw hs HN HS HW HS1
      have hm0 : 0 ≤ (r * 256 + q) % N := Int.emod_nonneg _ (by omega)
      have hm1 : (r * 256 + q) % N < N := Int.emod_lt_of_pos _ (by omega)
      have HM := Lib.hid (And.intro hm0 hm1)
      clear hm0 hm1
      go_wp2
      go_ret
      exact ⟨_, rfl, HM.out.1, .inl HM.out.2, HW2.out, HS2.out⟩
theorem one_any (wB : World) (p n : Nat) (N : Int) (w : World) (hn : n ≤ 900000000) (h : SrcSt wB p n w) :
    Calls Try.prog 34 #[.pointer (some ⟨p, 0, none⟩), .int .i64 N] w fun e w' => ∃ b : Bool, e = .returned (.bool b) ∧ Wrote (fun k => k = p) w w' ∧ SrcSt wB p (n + 2) w' := by
  have HP := Lib.hid (pick_any wB p n N w hn h)
  clear h hn
  go_enter Try.func34, Try.ntmps34
  go_wp2_with fail
  refine HP.out.mono ?_
  rintro e w1 ⟨r, rfl, r0, -, hw, hs⟩
  have HW := Lib.hid hw
  have HS1 := Lib.hid hs
  clear hw hs HP
  go_wp2
  go_ret
  exact ⟨_, rfl, HW.out, HS1.out⟩
/-- The bytes of an argument. -/
def CodeAt (w : World) (a : Option Addr) (zs : List Int) : Prop := RowU w a zs ∧ (∀ z, z ∈ zs → 0 ≤ z ∧ z ≤ 255) ∧ zs.length ≤ maxLen
theorem CodeAt.ext {w w' : World} {a : Option Addr} {zs : List Int} (h : CodeAt w a zs) (hx : w.Ext w') : CodeAt w' a zs := ⟨RowOf.ext h.1 hx, h.2⟩
theorem from_any (a : Option Addr) (c : Nat) (zs : List Int) (wB w : World) (hb : wB.Ext w) (h : CodeAt wB a zs) :
    Calls Try.prog 13 #[.slice a zs.length c] w fun e w' => e = .returned (.pointer (some ⟨w.heap.size, 0, none⟩)) ∧ w.Ext w' ∧ SrcSt wB w.heap.size 0 w' := by
  have HB := Lib.hid hb
  have HC := Lib.hid h
  clear hb h
  go_enter Try.func13, Try.ntmps13
  go_wp2
  go_ret
  exact ⟨rfl, by repeat (first | exact World.Ext.refl _ | exact ⟨_, rfl⟩ | assumption | refine World.Ext.over ?_ _ | refine World.Ext.drewN ?_ _ | refine World.Ext.drew ?_ | refine World.Ext.alloc ?_ _ | refine World.Ext.setCell ?_ (by simp) _), HB.out.trans (by repeat (first | exact World.Ext.refl _ | exact ⟨_, rfl⟩ | assumption | refine World.Ext.over ?_ _ | refine World.Ext.drewN ?_ _ | refine World.Ext.drew ?_ | refine World.Ext.alloc ?_ _ | refine World.Ext.setCell ?_ (by simp) _)), HB.out.size, a, c, 0, 0, zs, Tri.new _ _ _ _ _ _ rfl, by omega, by omega, by omega, HC.out.2.2, HC.out.1, HC.out.2.1⟩
end Go.Proofs.Ytelaoimcaidoiaa

/- The reference makes a picture: its rows are the call's own. -/
namespace Go.Proofs.Ytelaoimcaidoiaa
open Go Go.RowKit
set_option maxRecDepth 5000 in
set_option maxHeartbeats 1600000 in
theorem l01MakeG_any (a : Option Addr) (c W H : Nat) (l : List Bool) (w : World) (hW : 1 ≤ W) (hW2 : W ≤ 64) (hH : H ≤ 64) (hl : l.length = W * H) (hr : RowB w a l) :
    Calls Try.prog 36 #[.int .i64 W, .slice a l.length c] w fun e w' => ∃ a' c', e = .returned (.agg #[.slice a' H c']) ∧ w.Ext w' ∧ GrowOf Value.string w.heap.size 9 w' (.slice a' H c') (picRows W H l) := by
  obtain ⟨iu, hiu, hu0, hu1, hu2⟩ := info_parts Try.infoU8
  obtain ⟨is, his, hs0, hs1, hs2⟩ := info_parts Try.infoStr
  have hlm : l.length ≤ 4096 := by rw [hl]; exact Nat.le_trans (Nat.mul_le_mul hW2 hH) (by decide)
  have HL := Lib.hid hl
  have HR := Lib.hid hr
  obtain ⟨hp4, hp5, hg0, hx0⟩ := makeStart w 26 9
  have HS : Hid (Rowed w w.heap.size (w.heap.size + 1 + 1) 26 9 W l 0 _) := ⟨hx0, Nat.le_refl _, by omega, by omega, hp4, _, hp5, hg0⟩
  clear hl hr hp4 hp5 hg0 hx0
  go_enter Try.func36, Try.ntmps36
  go_wp2
  obtain ⟨p4, hp4⟩ : ∃ p4, p4 = w.heap.size := ⟨_, rfl⟩
  obtain ⟨p5, hp5⟩ : ∃ p5, p5 = w.heap.size + 1 + 1 := ⟨_, rfl⟩
  rw [← hp5] at HS ⊢
  rw [← hp4] at HS ⊢
  generalize ((w.alloc (.cells #[.slice none 0 0] 26)).alloc (.cells #[] 9)).alloc (.cells #[.slice (some ⟨p4 + 1, 0, none⟩) 0 0] 26) = W0 at HS ⊢
  clear hp4 hp5
  go_loopw [6, 7, 8, 9] (fun f _ _ _ wr => ∃ y F : Nat, y ≤ H ∧ Hid (F = y * W) ∧ f = .int .i64 F ∧ Hid (Rowed w p4 p5 26 9 W l y wr)) (fun f _ _ _ _ => l.length - (intOf f).toNat)
  case atStart => exact ⟨0, 0, Nat.zero_le _, by simp [Hid], rfl, HS⟩
  case round =>
    obtain ⟨y, F, hy, HF, rfl, HW⟩ := hrel
    obtain ⟨wo, rfl⟩ : ∃ wo : World, wo = wr := ⟨_, rfl⟩
    by_cases hlt : y < H
    · have hrow := rowAt_len W H l y HL.out hlt
      have hFW : F + W ≤ l.length := by
        rw [HF.out, HL.out]
        have := Nat.mul_le_mul_right W hlt
        rw [Nat.succ_mul] at this
        rw [Nat.mul_comm W H]; exact this
      have hlt' : (F : Int) < (l.length : Int) := by omega
      have hg0 := GrowOf.empty (f := Value.int .u8) (lo := wo.heap.size) (e := 5) wo (Nat.le_refl _)
      have hx0 : wo.Ext (wo.alloc (.cells #[] 5)) := by repeat (first | exact World.Ext.refl _ | exact ⟨_, rfl⟩ | assumption | refine World.Ext.over ?_ _ | refine World.Ext.drewN ?_ _ | refine World.Ext.drew ?_ | refine World.Ext.alloc ?_ _ | refine World.Ext.setCell ?_ (by simp) _)
      have HG0 := Lib.hid hg0
      have HX0 := Lib.hid hx0
      clear hg0 hx0
      go_wp2
      go_loopw [7, 8, 9] (fun v i _ w2 => ∃ x : Nat, x ≤ W ∧ i = .int .i64 x ∧ Hid (wo.Ext w2) ∧ Hid (GrowOf (Value.int .u8) wo.heap.size 5 w2 v (((l.drop F).take x).map byteOf))) (fun _ i _ _ => W - (intOf i).toNat)
      case atStart => exact ⟨0, Nat.zero_le _, rfl, HX0, HG0⟩
      case round =>
        obtain ⟨x, hx, rfl, HX, HG⟩ := hrel
        by_cases hltx : x < W
        · obtain ⟨b, o, rfl, hc⟩ := ((RowOf.ext HR.out HW.out.ext).ext HX.out) (F + x) (by omega)
          have hlen : (((l.drop F).take x).map byteOf).length = x := by simp; omega
          have hown := HG.out
          have hbyte := row_bytes l F x (by omega)
          have hd0 : (0 : Int) ≤ (F : Int) + (x : Int) := by omega
          have hd1 : (F : Int) + (x : Int) < (l.length : Int) := by omega
          have hltx' : (x : Int) < (W : Int) := by omega
          have HLEN := Lib.hid hlen
          unfold GrowOf at hown
          rw [hlen] at hown
          have hlx : x + 1 ≤ maxLen := by unfold maxLen; omega
          have hlb : (x + 1) * 1 ≤ 140737488355328 := by omega
          have HLX := Lib.hid hlx
          have HLB := Lib.hid hlb
          have hle : ∀ o : Obj, wo.heap.size ≤ (wr.alloc o).heap.size := fun o => (HX.out.alloc o).size
          have hnext : ∀ (o : Obj) (v' : Value) (w1 : World), (wr.alloc o).grownBy w1 u7.ownBlock → w1.ownsRow wo.heap.size 5 1 v' (x + 1) ((((l.drop F).take x).map byteOf).map (Value.int .u8) ++ [Value.int .u8 (byteOf (l.getD (F + x) false))]) →
              wo.Ext w1 ∧ GrowOf (Value.int .u8) wo.heap.size 5 w1 v' (((l.drop F).take (x + 1)).map byteOf) := fun o v' w1 hgrow hown' => by
            refine ⟨HG.out.pushExt HX.out hgrow, ?_⟩
            rw [← hbyte]
            exact GrowOf.push (by rw [hlen]; exact hown')
          have HNEXT := Lib.hid hnext
          have HLE := Lib.hid hle
          clear hlx hlb hlen hbyte hnext hle
          cases hv : l.getD (F + x) false
          · rw [hv] at hc HNEXT
            clear hv
            go_wp2_with (at_builtin; refine wpList_append_own _ rfl _ _ 22 rfl wo.heap.size 5 iu (.int .u8 0) 1 1 Try.underlying22 hiu hu0 hu1 hu2 rfl (by decide) _ _ _ rfl (hown.alloc _) ⟨wr.heap.size, 0, none⟩ 1 1 [.int .u8 46] rfl rfl (cell_one_new _ _ _) (by simp [Value.oneCell']) HLX.out HLB.out (HLE.out _) (fun v' w1 hown' hgrow _ => ?_))
            obtain ⟨hx1, hg1⟩ := HNEXT.out _ _ _ hgrow hown'
            have HX1 := Lib.hid hx1
            have HG1 := Lib.hid hg1
            clear hx1 hg1 hgrow hown' hown hc
            go_wp2
            go_roundw
            case rel => exact ⟨x + 1, by omega, by go_num, HX1, HG1⟩
            case measure => simp [intOf]; omega
          · rw [hv] at hc HNEXT
            clear hv
            go_wp2_with (at_builtin; refine wpList_append_own _ rfl _ _ 22 rfl wo.heap.size 5 iu (.int .u8 0) 1 1 Try.underlying22 hiu hu0 hu1 hu2 rfl (by decide) _ _ _ rfl (hown.alloc _) ⟨wr.heap.size, 0, none⟩ 1 1 [.int .u8 35] rfl rfl (cell_one_new _ _ _) (by simp [Value.oneCell']) HLX.out HLB.out (HLE.out _) (fun v' w1 hown' hgrow _ => ?_))
            obtain ⟨hx1, hg1⟩ := HNEXT.out _ _ _ hgrow hown'
            have HX1 := Lib.hid hx1
            have HG1 := Lib.hid hg1
            clear hx1 hg1 hgrow hown' hown hc
            go_wp2
            go_roundw
            case rel => exact ⟨x + 1, by omega, by go_num, HX1, HG1⟩
            case measure => simp [intOf]; omega
        · have : x = W := by omega
          subst this
          have hbl : (((l.drop F).take x).map byteOf).length = x := by simp; omega
          obtain ⟨g, cap, rfl, hg1, hg2, hcell⟩ := HG.out.some (by omega)
          rw [hbl] at hcell ⊢
          have hcv := run_convert_bytes_arg (P := Try.prog) wr 22 5 Try.underlying22 Try.underlying5 g 0 x cap (((l.drop F).take x).map byteOf) hbl
            (by intro i hi; rw [Nat.zero_add]; exact hcell 0 i hi) 9 Try.underlying9
          have hstr : strOfNums (((l.drop F).take x).map byteOf) = rowStr (rowAt x l y) := by rw [HF.out]; rfl
          rw [hstr] at hcv
          have hM := HW.out.move HX.out
          obtain ⟨v, hv, hgv⟩ := hM.str
          have hown := hgv
          unfold GrowOf at hown
          rw [picRows_len] at hown
          have hy1 : y + 1 ≤ maxLen := by unfold maxLen; omega
          have hy2 : (y + 1) * 16 ≤ 140737488355328 := by omega
          have hnext : ∀ (o : Obj) (v' : Value) (w1 : World), (wr.alloc o).grownBy w1 v.ownBlock → w1.ownsRow w.heap.size 9 1 v' (y + 1) ((picRows x y l).map Value.string ++ [Value.string (rowStr (rowAt x l y))]) →
              (∃ a1 c1, v' = .slice a1 (y + 1) c1) ∧ (w1.cell? ⟨p5, 0, none⟩ = some v ∧ w1.frozen? ⟨p5, 0, none⟩ = false) ∧ Rowed w p4 p5 26 9 x l (y + 1) (w1.setCell ⟨p5, 0, none⟩ v') := fun o v' w1 hgrow hown' => by
            have h5 := (hv.ext ((World.Ext.refl _).alloc o)).grown hgrow (hgv.ne hv (by decide))
            have hfm : ∃ a1 c1, v' = .slice a1 (y + 1) c1 := by
              obtain ⟨a1, c1, h1, _⟩ := GrowOf.form (f := Value.string) (xs := picRows x y l ++ [rowStr (rowAt x l y)]) (GrowOf.push (by rw [picRows_len]; exact hown'))
              exact ⟨a1, c1, by rw [h1]; simp [picRows_len]⟩
            exact ⟨hfm, ⟨h5.cell, h5.free⟩, hM.next (by decide) hv hgv hgrow (by rw [picRows_len]; exact hown')⟩
          have hle : ∀ o : Obj, w.heap.size ≤ (wr.alloc o).heap.size := fun o => (hM.ext.alloc o).size
          have hc5 := hv.cell
          have HNEXT := Lib.hid hnext
          have HLE := Lib.hid hle
          have HY1 := Lib.hid hy1
          have HY2 := Lib.hid hy2
          have HMF : Hid (F + x = (y + 1) * x) := by show _ = _; rw [HF.out, Nat.succ_mul]
          clear hnext hle hy1 hy2 hM hv hgv hcell hbl hg1 hg2 hrow
          generalize rowStr (rowAt x l y) = st at *
          go_wp2_with ((at_builtin; refine wpList_append_own _ rfl _ _ 24 rfl w.heap.size 9 is (.string ByteArray.empty) 1 16 Try.underlying24 his hs0 hs1 hs2 rfl (by decide) _ _ _ rfl (hown.alloc _) ⟨wr.heap.size, 0, none⟩ 1 1 [.string st] rfl rfl (cell_one_new _ _ _) (by simp [Value.oneCell']) HY1.out HY2.out (HLE.out _) (fun v' w1 hown' hgrow _ => ?_)); obtain ⟨⟨a1, c1, rfl⟩, ⟨hc6, hf6⟩, hR⟩ := HNEXT.out _ _ _ hgrow hown'; have HRN := Lib.hid hR; clear hR hown' hgrow hc5)
          go_roundw
          case rel => exact ⟨y + 1, F + x, by omega, HMF, by go_num, HRN⟩
          case measure => simp [intOf]; omega
    · have : y = H := by omega
      subst this
      have hF : F = l.length := by rw [HF.out, HL.out, Nat.mul_comm]
      subst hF
      obtain ⟨v, hv, hgv⟩ := HW.out.str
      obtain ⟨a', c', rfl, _⟩ := hgv.form
      rw [picRows_len] at *
      have hc5 := hv.cell
      have hc4 := HW.out.res.cell
      have hf4 := HW.out.res.free
      have hres := HW.out.res
      have hx4 := HW.out.ext.setCell (p := ⟨p4, 0, none⟩) HW.out.le4 (.slice a' y c')
      have ho4 := (hgv.setCell (a := ⟨p4, 0, none⟩) (hgv.ne hres (by decide)) (.slice a' y c'))
      have hr4 := (hres.set (.slice a' y c')).cell
      have HX4 := Lib.hid hx4
      have HO4 := Lib.hid ho4
      clear hx4 ho4 hv hgv hres
      go_wp2
      exact bodyPost_ret (v := .agg #[.slice a' y c']) (by simp [results, Try.results36, go_sem, hr4]) rfl ⟨a', c', rfl, HX4.out, HO4.out⟩
end Go.Proofs.Ytelaoimcaidoiaa

/- The reference draws a picture: which one is left open. -/
namespace Go.Proofs.Ytelaoimcaidoiaa
open Go Go.RowKit
theorem _root_.Go.GrowOf.lower {α : Type} {f : α → Value} {lo lo' : Nat} {e : TypeId} {w : World} {v : Value} {xs : List α} (h : GrowOf f lo e w v xs) (hl : lo' ≤ lo) : GrowOf f lo' e w v xs := by
  obtain ⟨h1, h2⟩ := h
  refine ⟨h1, ?_⟩
  rcases h2 with h0 | ⟨g, c, cur, hv, hb, r⟩
  · exact .inl h0
  · exact .inr ⟨g, c, cur, hv, Nat.le_trans hl hb, r⟩
/-- A picture that is drawn: its pixels in a block of the call's own. -/
structure DrSt (wB w0 : World) (p q g m n : Nat) (wr : World) : Prop where
  wrote : Wrote (fun k => k = p) w0 wr
  src : SrcSt wB p n wr
  one : One wr q 26 (.slice none 0 0)
  px : ∃ l : List Bool, l.length = m ∧ BlkOf Value.bool wr g 4 l
  ap : p < w0.heap.size ∧ w0.heap.size ≤ q ∧ q < g
section
variable {wB w0 : World} {p q g m n : Nat} {wr w' : World}
theorem DrSt.call (h : DrSt wB w0 p q g m n wr) (hw : Wrote (fun k => k = p) wr w') {n' : Nat} (hs : SrcSt wB p n' w') : DrSt wB w0 p q g m n' w' := by
  obtain ⟨l, h1, h2⟩ := h.px
  obtain ⟨a1, a2, a3⟩ := h.ap
  exact ⟨h.wrote.trans hw, hs, h.one.keep (hw.block q h.one.lt (by omega)), ⟨l, h1, h2.keep (hw.block g h2.lt (by omega))⟩, h.ap⟩
theorem DrSt.ext (h : DrSt wB w0 p q g m n wr) (hx : wr.Ext w') : DrSt wB w0 p q g m n w' := h.call (hx.wrote _) (h.src.ext hx)
theorem DrSt.more (h : DrSt wB w0 p q g m n wr) {n' : Nat} (hn : n ≤ n') : DrSt wB w0 p q g m n' wr := ⟨h.wrote, h.src.more hn, h.one, h.px, h.ap⟩
theorem DrSt.at (h : DrSt wB w0 p q g m n wr) {i : Nat} (hi : i < m) :
    ∃ v : Bool, wr.cell? ⟨g, i, none⟩ = some (.bool v) ∧ wr.frozen? ⟨g, i, none⟩ = false ∧ ∀ b : Bool, DrSt wB w0 p q g m n (wr.setCell ⟨g, i, none⟩ (.bool b)) := by
  obtain ⟨l, h1, h2⟩ := h.px
  obtain ⟨a1, a2, a3⟩ := h.ap
  refine ⟨l.getD i false, h2.cell false (by omega), h2.free i, fun b => ?_⟩
  have hw : Wrote (fun k => k = g) wr (wr.setCell ⟨g, i, none⟩ (.bool b)) := Wrote.setCell (S := fun k => k = g) (Wrote.refl _ wr) (p := ⟨g, i, none⟩) rfl _
  refine ⟨?_, h.src.wrote hw fun k hk hl => ?_, h.one.other (by simp only; omega) _, ⟨l.set i b, by rw [List.length_set, h1], h2.set i b⟩, h.ap⟩
  · exact ((h.wrote.mono (T := fun k => k = p ∨ w0.heap.size ≤ k) fun k _ hk => .inl hk).setCell (p := ⟨g, i, none⟩) (.inr (show w0.heap.size ≤ g by omega)) _).mono fun k hk hs => by omega
  · have := h.src.x.size
    have := h.src.lo
    omega
theorem DrSt.start (h : SrcSt wB p n w0) {g : Nat} (hg : (w0.alloc (.cells #[.slice none 0 0] 26)).Ext wr) (hb : BlkOf Value.bool wr g 4 (List.replicate m false)) (hlt : w0.heap.size < g) : DrSt wB w0 p w0.heap.size g m n wr :=
  have hx : w0.Ext wr := World.Ext.trans (by repeat (first | exact World.Ext.refl _ | exact ⟨_, rfl⟩ | assumption | refine World.Ext.over ?_ _ | refine World.Ext.drewN ?_ _ | refine World.Ext.drew ?_ | refine World.Ext.alloc ?_ _ | refine World.Ext.setCell ?_ (by simp) _)) hg
  ⟨hx.wrote _, h.ext hx, (One.new _ _ _ _ rfl).ext hg, ⟨_, by simp, hb⟩, h.lt, Nat.le_refl _, hlt⟩
end
theorem DrSt.store {wB w0 : World} {p q g m n : Nat} {wr w3 : World} {a : Option Addr} {xs : List ByteArray} (h : DrSt wB w0 p q g m n wr) (hx : wr.Ext w3) {n3 c3 : Nat} (ho : GrowOf Value.string wr.heap.size 9 w3 (.slice a n3 c3) xs) (v : Value) :
    w3.cell? ⟨q, 0, none⟩ = some (.slice none 0 0) ∧ w3.frozen? ⟨q, 0, none⟩ = false ∧ (w3.setCell ⟨q, 0, none⟩ v).cell? ⟨q, 0, none⟩ = some v ∧
      Hid (Wrote (fun k => k = p) w0 (w3.setCell ⟨q, 0, none⟩ v) ∧ SrcSt wB p n (w3.setCell ⟨q, 0, none⟩ v) ∧ GrowOf Value.string w0.heap.size 9 (w3.setCell ⟨q, 0, none⟩ v) (.slice a n3 c3) xs) := by
  have h3 := h.ext hx
  obtain ⟨a1, a2, a3⟩ := h.ap
  have hq := h.one.lt
  have hw : Wrote (fun k => k = q) w3 (w3.setCell ⟨q, 0, none⟩ v) := Wrote.setCell (S := fun k => k = q) (Wrote.refl _ w3) (p := ⟨q, 0, none⟩) rfl _
  refine ⟨h3.one.cell, h3.one.free, (h3.one.set v).cell, ?_, h3.src.wrote hw fun k hk hl => ?_, GrowOf.lower (GrowOf.setCell ho (GrowOf.ne ho h3.one (by decide)) v) ?_⟩
  · exact ((h3.wrote.mono (T := fun k => k = p ∨ w0.heap.size ≤ k) fun k _ hk => .inl hk).setCell (p := ⟨q, 0, none⟩) (.inr (show w0.heap.size ≤ q by omega)) _).mono fun k hk hs => by omega
  · have := h3.src.x.size
    have := h3.src.lo
    have := h.src.x.size
    omega
  · omega
/-- What a drawn picture is. -/
def DrawRet (wB w : World) (p n W H : Nat) (e : Ending) (w' : World) : Prop :=
  ∃ (a : Option Addr) (c : Nat) (l : List Bool), l.length = W * H ∧ e = .returned (.agg #[.slice a H c]) ∧ Wrote (fun k => k = p) w w' ∧ SrcSt wB p n w' ∧ GrowOf Value.string w.heap.size 9 w' (.slice a H c) (picRows W H l)
set_option maxRecDepth 5000 in
set_option maxHeartbeats 1600000 in
theorem drawPicture_any (wB : World) (p n W H : Nat) (w : World) (hW1 : 1 ≤ W) (hH1 : 1 ≤ H) (hW2 : W ≤ 16) (hH2 : H ≤ 16) (hn : n ≤ 1000000) (h : SrcSt wB p n w) :
    Calls Try.prog 15 #[.pointer (some ⟨p, 0, none⟩), .int .i64 W, .int .i64 H] w (DrawRet wB w p (n + 3000) W H) := by
  obtain ⟨i0, hi, hz0, hz1, hz2⟩ := info_parts Try.infoBool'
  have HP : Hid (∀ w' n' N, n' ≤ 2000000 → SrcSt wB p n' w' → Calls Try.prog 14 #[.pointer (some ⟨p, 0, none⟩), .int .i64 N] w' (PickRet wB p (n' + 2) w' N)) := fun w' n' N h1 h2 => pick_any wB p n' N w' (by omega) h2
  have HO : Hid (∀ w' n' N, n' ≤ 2000000 → SrcSt wB p n' w' → Calls Try.prog 34 #[.pointer (some ⟨p, 0, none⟩), .int .i64 N] w' fun e w'' => ∃ b : Bool, e = .returned (.bool b) ∧ Wrote (fun k => k = p) w' w'' ∧ SrcSt wB p (n' + 2) w'') := fun w' n' N h1 h2 => one_any wB p n' N w' (by omega) h2
  have HSRC := Lib.hid h
  have hm : W * H ≤ 256 := Nat.mul_le_mul hW2 hH2
  have hm1 : 1 ≤ W * H := Nat.mul_pos hW1 hH1
  have hmi : (W : Int) * (H : Int) = ((W * H : Nat) : Int) := by rw [Int.natCast_mul]
  have hmb : (W : Int) * (H : Int) ≤ 4096 := by rw [hmi]; omega
  have hmb0 : 0 ≤ (W : Int) * (H : Int) := by rw [hmi]; omega
  obtain ⟨m, hmm⟩ : ∃ m, m = W * H := ⟨_, rfl⟩
  rw [← hmm] at hm hm1 hmi
  have C1 : Hid (i0.bytes * m ≤ 281474976710656) := by show _ ≤ _; rw [hz2]; omega
  have C2 : Hid (m ≤ maxLen) := by show _ ≤ _; unfold maxLen; omega
  have HMI := Lib.hid hmi
  have HMM := Lib.hid hmm
  clear h hmm hmi
  obtain ⟨W0, hW0⟩ : ∃ W0, W0 = w.alloc (.cells #[.slice none 0 0] 26) := ⟨_, rfl⟩
  have HX0 : Hid (w.Ext W0) := by show World.Ext _ _; rw [hW0]; repeat (first | exact World.Ext.refl _ | exact ⟨_, rfl⟩ | assumption | refine World.Ext.over ?_ _ | refine World.Ext.drewN ?_ _ | refine World.Ext.drew ?_ | refine World.Ext.alloc ?_ _ | refine World.Ext.setCell ?_ (by simp) _)
  have hsz0 : W0.heap.size = w.heap.size + 1 := by rw [hW0]; simp
  go_enter Try.func15, Try.ntmps15
  go_upto_region 1 with fail
  rw [← hW0]
  have HW0 : Hid (∀ w', W0.Ext w' → (w.alloc (.cells #[.slice none 0 0] 26)).Ext w') := fun w' h => by rw [← hW0]; exact h
  clear hW0
  go_wp2_with (at_make; refine wpList_make_full _ rfl _ _ 69 rfl 0 4 i0 (.bool false) 1 Try.underlying69 hi hz0 hz1 .i64 .i64 _ _ m rfl rfl HMI.out HMI.out C1.out C2.out (Nat.zero_le _) (fun w1 hown hgrow => ?_); go_loud (have hS0 : DrSt wB w p w.heap.size W0.heap.size m n w1 := DrSt.start HSRC.out (HW0.out _ (World.Ext.made hgrow)) (blk_of_made (f := Value.bool) false rfl hown) (by omega)); have HS0 := Lib.hid hS0; clear hS0 hown hgrow HW0)
  refine (HP.out w1 n 5 (by omega) HS0.out.src).mono ?_
  rintro e w2 ⟨r, rfl, r0, r1, hw, hs⟩
  have HS := Lib.hid (HS0.out.call hw hs)
  clear hw hs HS0
  rw [hsz0] at HS
  clear hsz0 HX0 HSRC C1 C2 hi hz0 hz1 hz2
  go_upto_block 0 with fail
  go_cut [] (fun wx => Hid (DrSt wB w p w.heap.size (w.heap.size + 1) m (n + 1002) wx))
  case first =>
    have hr : r = 0 ∨ r = 1 ∨ r = 2 ∨ r = 3 ∨ r = 4 := by omega
    clear r0 r1 hmb hmb0 HMI
    rcases hr with rfl | rfl | rfl | rfl | rfl
    · go_wp2
      go_loopw [30] (fun i wr => ∃ k : Nat, k ≤ m ∧ i = .int .i64 k ∧ Hid (DrSt wB w p w.heap.size (w.heap.size + 1) m (n + 2 + 2 * k + 0) wr)) (fun i _ => m - (intOf i).toNat)
      case atStart => exact ⟨0, Nat.zero_le _, rfl, HS⟩
      case round =>
        clear HS
        obtain ⟨k, hk, rfl, HS⟩ := hrel
        by_cases hlt : k < m
        · have hlt' : (k : Int) < (m : Int) := by omega
          have hk0 : (0 : Int) ≤ (k : Int) := by omega
          go_wp2_with fail
          refine (HO.out wr (n + 2 + 2 * k + 0) _ (by omega) HS.out.src).mono ?_
          rintro e w3 ⟨b, rfl, hw, hs⟩
          have HS3 := Lib.hid (HS.out.call hw hs)
          clear hw hs HS
          obtain ⟨v, hc, hf, hset⟩ := HS3.out.at hlt
          have HS4 := Lib.hid ((hset (b)).more (n' := n + 2 + 2 * (k + 1) + 0) (by omega))
          clear hset HS3
          go_wp2
          go_roundw
          case rel => exact ⟨k + 1, by omega, by go_num, HS4⟩
          case measure => simp [intOf]; omega
        · have : k = m := by omega
          subst this
          have HS4 := Lib.hid (HS.out.more (n' := n + 1002) (by omega))
          clear HS
          go_wp2
          go_meet
          exact HS4
    · go_wp2
      go_loopw [43] (fun i wr => ∃ k : Nat, k ≤ m ∧ i = .int .i64 k ∧ Hid (DrSt wB w p w.heap.size (w.heap.size + 1) m (n + 2 + 2 * k + 0) wr)) (fun i _ => m - (intOf i).toNat)
      case atStart => exact ⟨0, Nat.zero_le _, rfl, HS⟩
      case round =>
        clear HS
        obtain ⟨k, hk, rfl, HS⟩ := hrel
        by_cases hlt : k < m
        · have hlt' : (k : Int) < (m : Int) := by omega
          have hk0 : (0 : Int) ≤ (k : Int) := by omega
          go_wp2_with fail
          refine (HO.out wr (n + 2 + 2 * k + 0) _ (by omega) HS.out.src).mono ?_
          rintro e w3 ⟨b, rfl, hw, hs⟩
          have HS3 := Lib.hid (HS.out.call hw hs)
          clear hw hs HS
          obtain ⟨v, hc, hf, hset⟩ := HS3.out.at hlt
          have HS4 := Lib.hid ((hset (b)).more (n' := n + 2 + 2 * (k + 1) + 0) (by omega))
          clear hset HS3
          go_wp2
          go_roundw
          case rel => exact ⟨k + 1, by omega, by go_num, HS4⟩
          case measure => simp [intOf]; omega
        · have : k = m := by omega
          subst this
          have HS4 := Lib.hid (HS.out.more (n' := n + 1002) (by omega))
          clear HS
          go_wp2
          go_meet
          exact HS4
    · go_wp2
      go_loopw [56] (fun i wr => ∃ k : Nat, k ≤ m ∧ i = .int .i64 k ∧ Hid (DrSt wB w p w.heap.size (w.heap.size + 1) m (n + 2 + 2 * k + 0) wr)) (fun i _ => m - (intOf i).toNat)
      case atStart => exact ⟨0, Nat.zero_le _, rfl, HS⟩
      case round =>
        clear HS
        obtain ⟨k, hk, rfl, HS⟩ := hrel
        by_cases hlt : k < m
        · have hlt' : (k : Int) < (m : Int) := by omega
          have hk0 : (0 : Int) ≤ (k : Int) := by omega
          go_wp2_with fail
          refine (HO.out wr (n + 2 + 2 * k + 0) _ (by omega) HS.out.src).mono ?_
          rintro e w3 ⟨b, rfl, hw, hs⟩
          have HS3 := Lib.hid (HS.out.call hw hs)
          clear hw hs HS
          obtain ⟨v, hc, hf, hset⟩ := HS3.out.at hlt
          have HS4 := Lib.hid ((hset (!b)).more (n' := n + 2 + 2 * (k + 1) + 0) (by omega))
          clear hset HS3
          go_wp2
          go_roundw
          case rel => exact ⟨k + 1, by omega, by go_num, HS4⟩
          case measure => simp [intOf]; omega
        · have : k = m := by omega
          subst this
          have HS4 := Lib.hid (HS.out.more (n' := n + 1002) (by omega))
          clear HS
          go_wp2
          go_meet
          exact HS4
    · go_wp2_with fail
      refine (HO.out w2 (n + 2) _ (by omega) HS.out.src).mono ?_
      rintro e w3 ⟨c, rfl, hw, hs⟩
      have HS3 := Lib.hid (HS.out.call hw hs)
      clear hw hs HS
      have HS := Lib.hid (HS3.out.more (n' := n + 2 + 2 * 0 + 2) (by omega))
      clear HS3
      go_wp2
      go_loopw [72] (fun i wr => ∃ k : Nat, k ≤ m ∧ i = .int .i64 k ∧ Hid (DrSt wB w p w.heap.size (w.heap.size + 1) m (n + 2 + 2 * k + 2) wr)) (fun i _ => m - (intOf i).toNat)
      case atStart => exact ⟨0, Nat.zero_le _, rfl, HS⟩
      case round =>
        clear HS
        obtain ⟨k, hk, rfl, HS⟩ := hrel
        by_cases hlt : k < m
        · have hlt' : (k : Int) < (m : Int) := by omega
          have hk0 : (0 : Int) ≤ (k : Int) := by omega
          have HS3 := HS
          clear HS
          obtain ⟨v, hc, hf, hset⟩ := HS3.out.at hlt
          have HS4 := Lib.hid ((hset (c)).more (n' := n + 2 + 2 * (k + 1) + 2) (by omega))
          clear hset HS3
          go_wp2
          go_roundw
          case rel => exact ⟨k + 1, by omega, by go_num, HS4⟩
          case measure => simp [intOf]; omega
        · have : k = m := by omega
          subst this
          have HS4 := Lib.hid (HS.out.more (n' := n + 1002) (by omega))
          clear HS
          go_wp2
          go_meet
          exact HS4
    · have HS4 := Lib.hid (HS.out.more (n' := n + 1002) (by omega))
      clear HS
      go_wp2
      go_meet
      exact HS4
  case rest =>
    obtain ⟨wo, rfl⟩ : ∃ wo : World, wo = wc := ⟨_, rfl⟩
    have HS := hcut
    clear hcut
    have HIN : Hid (∀ a b c w', Calls Try.prog 35 #[.int .i64 a, .int .i64 b, .int .i64 c] w' fun e w'' => ∃ t : Bool, e = .returned (.bool t) ∧ w'.Ext w'') := fun a b c w' => (l00In_any a b c w' _ rfl).mono fun e w'' h => ⟨_, h.1, h.2⟩
    have HWMI := HMI
    clear r0 r1 hmb hmb0 HMI
    go_wp2_with fail
    refine (HP.out wo (n + 1002) _ (by omega) HS.out.src).mono ?_
    rintro e w3 ⟨r, rfl, r0, r1, hw, hs⟩
    have HS3 := Lib.hid (HS.out.call hw hs)
    clear hw hs HS
    obtain ⟨k, rfl⟩ : ∃ k : Nat, r = k := ⟨r.toNat, by omega⟩
    have hk3 : k ≤ 3 := by omega
    clear r0 r1
    go_wp2
    go_loopw [13] (fun i wr => ∃ j : Nat, j ≤ k ∧ i = .int .i64 j ∧ Hid (DrSt wB w p w.heap.size (w.heap.size + 1) m (n + 1004 + 10 * (k - j)) wr)) (fun i _ => (intOf i).toNat)
    case atStart => exact ⟨k, Nat.le_refl _, rfl, by rw [Nat.sub_self]; exact HS3⟩
    case round =>
      clear HS3
      obtain ⟨j, hj, rfl, HS⟩ := hrel
      by_cases hlt : 0 < j
      · have hlt' : (0 : Int) < (j : Int) := by omega
        go_wp2_with fail
        refine (HP.out wr (n + 1004 + 10 * (k - j)) _ (by omega) HS.out.src).mono ?_
        rintro e w4 ⟨x, rfl, x0, x1, hw, hs⟩
        have HS4 := Lib.hid (HS.out.call hw hs)
        have x2 : x < (W : Int) := by omega
        clear hw hs HS x1
        go_wp2_with fail
        refine (HP.out w4 _ _ (by omega) HS4.out.src).mono ?_
        rintro e w5 ⟨y, rfl, y0, y1, hw, hs⟩
        have HS5 := Lib.hid (HS4.out.call hw hs)
        have y2 : y < (H : Int) := by omega
        clear hw hs HS4 y1
        go_wp2_with fail
        refine (HP.out w5 _ _ (by omega) HS5.out.src).mono ?_
        rintro e w6 ⟨v, rfl, v0, v1, hw, hs⟩
        have HS6 := Lib.hid (HS5.out.call hw hs)
        have v2 : v < (W : Int) := by omega
        clear hw hs HS5 v1
        go_wp2_with fail
        refine (HP.out w6 _ _ (by omega) HS6.out.src).mono ?_
        rintro e w7 ⟨u, rfl, u0, u1, hw, hs⟩
        have HS7 := Lib.hid (HS6.out.call hw hs)
        have u2 : u < (H : Int) := by omega
        clear hw hs HS6 u1
        go_wp2_with fail
        refine (HO.out w7 _ _ (by omega) HS7.out.src).mono ?_
        rintro e w8 ⟨bk, rfl, hw, hs⟩
        have HS8 := Lib.hid ((HS7.out.call hw hs).more (n' := n + 1004 + 10 * (k - (j - 1))) (by omega))
        clear hw hs HS7
        go_wp2
        go_loopw [109] (fun i wr => ∃ c : Nat, c ≤ m ∧ i = .int .i64 c ∧ Hid (DrSt wB w p w.heap.size (w.heap.size + 1) m (n + 1004 + 10 * (k - (j - 1))) wr)) (fun i _ => m - (intOf i).toNat)
        case atStart => exact ⟨0, Nat.zero_le _, rfl, HS8⟩
        case round =>
          clear HS8
          obtain ⟨c, hc, rfl, HS⟩ := hrel
          by_cases hltc : c < m
          · have hltc' : (c : Int) < (m : Int) := by omega
            have hc0 : (0 : Int) ≤ (c : Int) := by omega
            go_wp2_with fail
            refine (HIN.out _ _ _ _).mono ?_
            rintro e w9 ⟨t, rfl, hx⟩
            have HS9 := Lib.hid (HS.out.ext hx)
            clear hx HS
            cases t
            · go_wp2
              go_roundw
              case rel => exact ⟨c + 1, by omega, by go_num, HS9⟩
              case measure => simp [intOf]; omega
            · go_wp2_with fail
              refine (HIN.out _ _ _ _).mono ?_
              rintro e w10 ⟨t, rfl, hx⟩
              have HS10 := Lib.hid (HS9.out.ext hx)
              clear hx HS9
              cases t
              · go_wp2
                go_roundw
                case rel => exact ⟨c + 1, by omega, by go_num, HS10⟩
                case measure => simp [intOf]; omega
              · obtain ⟨z, hcz, hfz, hset⟩ := HS10.out.at hltc
                have HS11 := Lib.hid (hset (!bk))
                clear hset HS10
                go_wp2
                go_roundw
                case rel => exact ⟨c + 1, by omega, by go_num, HS11⟩
                case measure => simp [intOf]; omega
          · have : c = m := by omega
            subst this
            go_wp2
            go_roundw
            case rel => exact ⟨j - 1, by omega, by go_num, HS⟩
            case measure => simp [intOf]; omega
      · have : j = 0 := by omega
        subst this
        obtain ⟨l, hl, hb⟩ := HS.out.px
        have HMK := Lib.hid (l01MakeG_any (some ⟨w.heap.size + 1, 0, none⟩) m W H l wr hW1 (by omega) (by omega) (by rw [hl, HMM.out]) (hb.own false (Nat.le_refl _) (Nat.le_refl _) (lo := w.heap.size + 1)).row)
        rw [hl] at HMK
        have HL : Hid (l.length = W * H) := by show _ = _; rw [hl, HMM.out]
        clear hb hl
        go_wp2_with fail
        refine HMK.out.mono ?_
        rintro e w4 ⟨a4, c4, rfl, hx4, ho4⟩
        obtain ⟨r1, r2, r3, HR⟩ := HS.out.store hx4 ho4 (.slice a4 H c4)
        clear hx4 ho4 HS HMK
        go_wp2
        exact bodyPost_ret (v := .agg #[.slice a4 H c4]) (by simp [results, Try.results15, go_sem, r3]) rfl ⟨a4, c4, l, HL.out, rfl, HR.out.1, HR.out.2.1.more (by omega), HR.out.2.2⟩
end Go.Proofs.Ytelaoimcaidoiaa

/- What the laws of the tenth workplace draw, and their small helpers. -/
namespace Go.Proofs.Ytelaoimcaidoiaa
open Go Go.RowKit
theorem rowGood_row {W : Nat} {l : List Bool} (h : l.length = W) : rowGood W (rowStr l) = true := by
  unfold rowGood
  rw [rowStr_size, h, decide_eq_true rfl, Bool.true_and, List.all_eq_true]
  intro x hx
  unfold rowStr at hx
  rw [strOfNums_data] at hx
  obtain ⟨z, hz, rfl⟩ := List.mem_map.1 hx
  obtain ⟨b, -, rfl⟩ := List.mem_map.1 hz
  cases b <;> rfl
theorem picOk_rows {W H : Nat} {l : List Bool} (hW1 : 1 ≤ W) (hW2 : W ≤ 16) (hH1 : 1 ≤ H) (hH2 : H ≤ 16) (hl : l.length = W * H) : picOk (picRows W H l) = true := by
  unfold picOk
  rw [picW_rows (by omega) hl, picRows_len, inB_true.2 (by omega), inB_true.2 (by omega), Bool.true_and, Bool.true_and, List.all_eq_true]
  intro s hs
  unfold picRows at hs
  obtain ⟨y, hy, rfl⟩ := List.mem_map.1 hs
  exact rowGood_row (rowAt_len W H l y hl (List.mem_range.1 hy))
/-- A new picture with a property is returned. -/
def NewPic (w : World) (P : List ByteArray → Prop) (e : Ending) (w' : World) : Prop :=
  ∃ (a : Option Addr) (c : Nat) (ss : List ByteArray), e = .returned (.agg #[.slice a ss.length c]) ∧ P ss ∧ w.Ext w' ∧ OwnOf Value.string ByteArray.empty w.heap.size w'.heap.size w' a ss
def PicIn (n : Nat) (ss : List ByteArray) : Prop := picOk ss = true ∧ ss.length ≤ n ∧ picW ss ≤ n
def PicOf (W H : Nat) (ss : List ByteArray) : Prop := picOk ss = true ∧ ss.length = H ∧ picW ss = W
set_option maxRecDepth 5000 in
theorem pic8_any (a : Option Addr) (c : Nat) (zs : List Int) (w : World) (h : CodeAt w a zs) :
    Calls Try.prog 5 #[.slice a zs.length c] w (NewPic w (PicIn 8)) := by
  obtain ⟨W0, hW0⟩ : ∃ W0, W0 = w.alloc (.cells #[.slice none 0 0] 26) := ⟨_, rfl⟩
  have hx0 : w.Ext W0 := by rw [hW0]; repeat (first | exact World.Ext.refl _ | exact ⟨_, rfl⟩ | assumption | refine World.Ext.over ?_ _ | refine World.Ext.drewN ?_ _ | refine World.Ext.drew ?_ | refine World.Ext.alloc ?_ _ | refine World.Ext.setCell ?_ (by simp) _)
  have hone : One W0 w.heap.size 26 (.slice none 0 0) := by rw [hW0]; exact One.new _ _ _ _ rfl
  have hlt := hone.lt
  have HF := Lib.hid (from_any a c zs w W0 hx0 h)
  have HP : Hid (∀ w' n' N, n' ≤ 2000000 → SrcSt w W0.heap.size n' w' → Calls Try.prog 14 #[.pointer (some ⟨W0.heap.size, 0, none⟩), .int .i64 N] w' (PickRet w W0.heap.size (n' + 2) w' N)) := fun w' n' N h1 h2 => pick_any w W0.heap.size n' N w' (by omega) h2
  have HONE := Lib.hid hone
  clear hone h
  go_enter Try.func5, Try.ntmps5
  go_wp2_with fail
  rw [← hW0]
  clear hW0
  refine HF.out.mono ?_
  rintro e w1 ⟨rfl, hx1, hs⟩
  have HS1 := Lib.hid hs
  have HO1 := Lib.hid (HONE.out.ext hx1)
  clear hx1 hs HF HONE
  go_wp2_with fail
  refine (HP.out w1 _ _ (by omega) HS1.out).mono ?_
  rintro e w2 ⟨x, rfl, x0, x1, hw, hs⟩
  have HO2 := Lib.hid (HO1.out.keep (hw.block _ HO1.out.lt (by omega)))
  have HS2 := Lib.hid hs
  clear hw hs HS1 HO1
  go_wp2_with fail
  refine (HP.out w2 _ _ (by omega) HS2.out).mono ?_
  rintro e w3 ⟨y, rfl, y0, y1, hw, hs⟩
  have HO3 := Lib.hid (HO2.out.keep (hw.block _ HO2.out.lt (by omega)))
  have HS3 := Lib.hid hs
  clear hw hs HS2 HO2 HP
  obtain ⟨X, hX⟩ : ∃ X : Nat, 1 + x = X := ⟨(1 + x).toNat, by omega⟩
  obtain ⟨Y, hY⟩ : ∃ Y : Nat, 1 + y = Y := ⟨(1 + y).toNat, by omega⟩
  have HD := Lib.hid (drawPicture_any w W0.heap.size _ X Y w3 (by omega) (by omega) (by omega) (by omega) (by omega) HS3.out)
  have hb : 1 ≤ X ∧ X ≤ 8 ∧ 1 ≤ Y ∧ Y ≤ 8 := by omega
  have HB := Lib.hid hb
  clear hb x0 x1 y0 y1
  go_wp2_with fail
  rw [show wrap64 (Y : Int) = (Y : Int) from by unfold wrap64; have := HB.out; omega]
  clear hX hY
  refine HD.out.mono ?_
  rintro e w4 ⟨a4, c4, l, hl, rfl, hw, hs, ho⟩
  have ho := GrowOf.own ByteArray.empty ho
  have HX4 : Hid (w.Ext w4) := hs.x
  have hlen := picRows_len X Y l
  obtain ⟨r1, r2, r3, HR⟩ := Res.store (lo := w3.heap.size) (.slice a4 Y c4) HX4.out (Nat.le_refl _) (HO3.out.keep (hw.block _ HO3.out.lt (by omega))) HO3.out.lt ho
  have HQ : Hid (PicIn 8 (picRows X Y l)) := ⟨picOk_rows HB.out.1 (by have := HB.out; omega) HB.out.2.2.1 (by have := HB.out; omega) hl, by rw [hlen]; exact HB.out.2.2.2, by rw [picW_rows (by have := HB.out; omega) hl]; exact HB.out.2.1⟩
  have HLEN := Lib.hid hlen
  clear hw hs ho hl HS3 HO3 HD hlen
  go_wp2
  exact bodyPost_ret (v := .agg #[.slice a4 Y c4]) (by simp [results, Try.results5, go_sem, r3]) rfl ⟨a4, c4, picRows X Y l, by rw [HLEN.out], HQ.out, HR.out.1, HR.out.2⟩
def PixRet (w : World) (px : Bool) (e : Ending) (w' : World) : Prop := ∃ b ok : Bool, e = .returned (.tuple #[.bool b, .bool ok]) ∧ w.Ext w' ∧ (b && ok) = px
def LongRet (w : World) (m n n2 : Nat) (e : Ending) (w' : World) : Prop := ∃ t : Bool, e = .returned (.bool t) ∧ w.Ext w' ∧ (t = false → n ≤ m ∧ n2 ≤ m)
theorem longR_any (a : Option Addr) (n c : Nat) (a2 : Option Addr) (n2 c2 : Nat) (w : World) (_ : n ≤ maxLen) (_ : n2 ≤ maxLen) :
    Calls Try.prog 4 #[.slice a n c, .slice a2 n2 c2] w (LongRet w 48 n n2) := by
  by_cases h1 : n ≤ 48
  · have h1' : ¬ (48 : Int) < (n : Int) := by omega
    by_cases h2 : n2 ≤ 48
    · have h2' : ¬ (48 : Int) < (n2 : Int) := by omega
      go_enter Try.func4, Try.ntmps4
      go_wp2
      go_ret
      exact ⟨false, rfl, .refl _, fun _ => ⟨h1, h2⟩⟩
    · have h2' : (48 : Int) < (n2 : Int) := by omega
      go_enter Try.func4, Try.ntmps4
      go_wp2
      go_ret
      exact ⟨true, rfl, .refl _, fun h => by cases h⟩
  · have h1' : (48 : Int) < (n : Int) := by omega
    go_enter Try.func4, Try.ntmps4
    go_wp2
    go_ret
    exact ⟨true, rfl, .refl _, fun h => by cases h⟩
def b10AtV (zs : List Int) (i n : Int) : Int := if n ≤ 1 then 0 else if i < zs.length then zs.getD i.toNat 0 % n else (i * 37 + 11) % n
end Go.Proofs.Ytelaoimcaidoiaa
