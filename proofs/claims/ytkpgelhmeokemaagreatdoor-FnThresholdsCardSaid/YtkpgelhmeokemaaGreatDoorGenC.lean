/- The reference draws a grey picture: which one is left open. -/
import Derived.Test.YtkpgelhmeokemaaGreatDoorGenA
import Derived.Test.YtkpgelhmeokemaaGreatDoorGreyK
import Derived.Test.YtkpgelhmeokemaaGreatDoorRowK
import Derived.Test.YtkpgelhmeokemaaGreatDoorLGr
namespace Go.Proofs.YtkpgelhmeokemaaGreatDoor
open Go Go.RowKit
theorem tableOk_grl {W H : Nat} {xs : List Int} {N : Int} (hW1 : 1 ≤ W) (hW2 : W ≤ 16) (hH1 : 1 ≤ H) (hH2 : H ≤ 16) (hx : ∀ k, k < H * W → 0 ≤ xs.getD k 0 ∧ xs.getD k 0 ≤ N) : tableOk (grl W H xs) N = true := by
  unfold tableOk
  rw [grl_len, grl_row (by omega : 0 < H), inB_true.2 (by omega), inB_true.2 (by omega), Bool.true_and, Bool.true_and, all_getD (d := [])]
  intro i hi
  rw [grl_len] at hi
  unfold rowOk
  rw [grl_row hi, decide_eq_true rfl, Bool.true_and, all_getD (d := 0)]
  intro j hj
  rw [grl_row hi] at hj
  rw [grl_at hj hi]
  have hb := Nat.mul_le_mul_right W (show i + 1 ≤ H by omega)
  rw [Nat.succ_mul] at hb
  exact inB_true.2 (hx _ (by omega))
/-- A grey picture that is drawn: its numbers in a row of the call's own. -/
structure DgSt (wB w0 : World) (p q k n : Nat) (N : Int) (v : Value) (wr : World) : Prop where
  wrote : Wrote (fun k => k = p) w0 wr
  src : SrcSt wB p n wr
  one : One wr q 26 (.slice none 0 0)
  xs : ∃ xs : List Int, xs.length = k ∧ (∀ z, z ∈ xs → 0 ≤ z ∧ z ≤ N) ∧ GrowOf (Value.int .i64) (q + 1) 2 wr v xs
  ap : p < w0.heap.size ∧ w0.heap.size ≤ q
section
variable {wB w0 : World} {p q k n : Nat} {N : Int} {v : Value} {wr w' : World}
theorem DgSt.call (h : DgSt wB w0 p q k n N v wr) (hw : Wrote (fun k => k = p) wr w') {n' : Nat} (hs : SrcSt wB p n' w') : DgSt wB w0 p q k n' N v w' := by
  obtain ⟨xs, h1, h2, h3⟩ := h.xs
  obtain ⟨a1, a2⟩ := h.ap
  refine ⟨h.wrote.trans hw, hs, h.one.keep (hw.block q h.one.lt (by omega)), ⟨xs, h1, h2, ?_⟩, h.ap⟩
  exact GrowOf.keep h3 fun j hj => by
    obtain ⟨b1, b2⟩ := GrowOf.block h3 hj
    exact hw.block j b2 (by omega)
theorem DgSt.ext (h : DgSt wB w0 p q k n N v wr) (hx : wr.Ext w') : DgSt wB w0 p q k n N v w' := h.call (hx.wrote _) (h.src.ext hx)
theorem DgSt.more (h : DgSt wB w0 p q k n N v wr) {n' : Nat} (hn : n ≤ n') : DgSt wB w0 p q k n' N v wr := ⟨h.wrote, h.src.more hn, h.one, h.xs, h.ap⟩
theorem DgSt.at (h : DgSt wB w0 p q k n N v wr) {i : Nat} (hi : i < k) : ∃ (g c : Nat) (z : Int), v = .slice (some ⟨g, 0, none⟩) k c ∧ wr.cell? ⟨g, i, none⟩ = some (.int .i64 z) ∧ 0 ≤ z ∧ z ≤ N := by
  obtain ⟨xs, h1, h2, h3⟩ := h.xs
  obtain ⟨g, c, e, -, -, h4⟩ := GrowOf.some h3 (by omega)
  rw [h1] at e
  obtain ⟨b1, b2⟩ := h2 _ (getD_memZ (l := xs) (i := i) (by omega))
  exact ⟨g, c, _, e, h4 0 i (by omega), b1, b2⟩
theorem DgSt.own (h : DgSt wB w0 p q k n N v wr) : ∃ pre : List Value, wr.ownsRow (q + 1) 2 1 v k pre ∧
    ∀ (z : Int) (o : Obj) (v' : Value) (w1 : World), 0 ≤ z → z ≤ N → (wr.alloc o).grownBy w1 v.ownBlock → w1.ownsRow (q + 1) 2 1 v' (k + 1) (pre ++ [.int .i64 z]) → DgSt wB w0 p q (k + 1) n N v' w1 := by
  obtain ⟨xs, h1, h2, h3⟩ := h.xs
  obtain ⟨a1, a2⟩ := h.ap
  have ho := h3
  unfold GrowOf at ho
  rw [h1] at ho
  refine ⟨_, ho, fun z o v' w1 z0 z1 hg hown => ?_⟩
  have hx : wr.Ext (wr.alloc o) := by repeat (first | exact World.Ext.refl _ | exact ⟨_, rfl⟩ | assumption | refine World.Ext.over ?_ _ | refine World.Ext.drewN ?_ _ | refine World.Ext.drew ?_ | refine World.Ext.alloc ?_ _ | refine World.Ext.setCell ?_ (by simp) _)
  have hw : Wrote (fun k => q < k) wr w1 := Wrote.grown (hx.wrote _) hg fun j hj => .inl (by have := (GrowOf.block h3 hj).1; omega)
  have hl := h.src.lo
  refine ⟨?_, h.src.wrote hw fun j hj hl2 => by omega, h.one.keep (hw.block q h.one.lt (by omega)), ⟨xs ++ [z], by simp [h1], fun y hy => ?_, ?_⟩, h.ap⟩
  · exact Wrote.grown (h.wrote.trans (hx.wrote _)) hg fun j hj => .inr (by have := (GrowOf.block h3 hj).1; omega)
  · rcases List.mem_append.1 hy with hy | hy
    · exact h2 y hy
    · rw [List.mem_singleton.1 hy]; exact ⟨z0, z1⟩
  · refine GrowOf.push ?_
    rw [h1]
    exact hown
theorem DgSt.store {w3 : World} {a : Option Addr} {A : Nat → Option Addr} {C : Nat → Nat} {m : List (List Int)} (h : DgSt wB w0 p q k n N v wr) (hx : wr.Ext w3) (ho : OwnMat wr.heap.size w3.heap.size w3 a A C m) (u : Value) :
    w3.cell? ⟨q, 0, none⟩ = some (.slice none 0 0) ∧ w3.frozen? ⟨q, 0, none⟩ = false ∧ (w3.setCell ⟨q, 0, none⟩ u).cell? ⟨q, 0, none⟩ = some u ∧
      Hid (Wrote (fun k => k = p) w0 (w3.setCell ⟨q, 0, none⟩ u) ∧ SrcSt wB p n (w3.setCell ⟨q, 0, none⟩ u) ∧ OwnMat w0.heap.size (w3.setCell ⟨q, 0, none⟩ u).heap.size (w3.setCell ⟨q, 0, none⟩ u) a A C m) := by
  have h3 := h.ext hx
  obtain ⟨a1, a2⟩ := h.ap
  have hq := h.one.lt
  have hw : Wrote (fun k => k = q) w3 (w3.setCell ⟨q, 0, none⟩ u) := Wrote.setCell (S := fun k => k = q) (Wrote.refl _ w3) (p := ⟨q, 0, none⟩) rfl _
  refine ⟨h3.one.cell, h3.one.free, (h3.one.set u).cell, ?_, h3.src.wrote hw fun k hk hl => ?_, (ho.wrote hw fun k h1 h2 e => by omega).mono (by omega) hw.size⟩
  · exact ((h3.wrote.mono (T := fun k => k = p ∨ w0.heap.size ≤ k) fun k _ hk => .inl hk).setCell (p := ⟨q, 0, none⟩) (.inr (show w0.heap.size ≤ q by omega)) _).mono fun k hk hs => by omega
  · have := h3.src.x.size
    have := h3.src.lo
    have := h.src.x.size
    omega
theorem DgSt.start (N : Int) (h : SrcSt wB p n w0) : DgSt wB w0 p w0.heap.size 0 n N (.slice (some ⟨w0.heap.size + 1, 0, none⟩) 0 0) ((w0.alloc (.cells #[.slice none 0 0] 26)).alloc (.cells #[] 2)) := by
  have hx : w0.Ext ((w0.alloc (.cells #[.slice none 0 0] 26)).alloc (.cells #[] 2)) := by repeat (first | exact World.Ext.refl _ | exact ⟨_, rfl⟩ | assumption | refine World.Ext.over ?_ _ | refine World.Ext.drewN ?_ _ | refine World.Ext.drew ?_ | refine World.Ext.alloc ?_ _ | refine World.Ext.setCell ?_ (by simp) _)
  refine ⟨hx.wrote _, h.ext hx, (One.new w0 _ _ _ rfl).ext (by repeat (first | exact World.Ext.refl _ | exact ⟨_, rfl⟩ | assumption | refine World.Ext.over ?_ _ | refine World.Ext.drewN ?_ _ | refine World.Ext.drew ?_ | refine World.Ext.alloc ?_ _ | refine World.Ext.setCell ?_ (by simp) _)), ⟨[], rfl, fun z hz => (by cases hz), ?_⟩, h.lt, Nat.le_refl _⟩
  have hg := GrowOf.empty (f := Value.int .i64) (lo := w0.heap.size + 1) (e := 2) (w0.alloc (.cells #[.slice none 0 0] 26)) (by simp)
  rw [show (w0.alloc (.cells #[.slice none 0 0] 26)).heap.size = w0.heap.size + 1 by simp] at hg
  exact hg
end
/-- What a drawn grey picture is. -/
def GreyIn (W H : Nat) (N : Int) (m : List (List Int)) : Prop := tableOk m N = true ∧ m.length = H ∧ (m.getD 0 []).length = W
def DgRet (wB w : World) (p n W H : Nat) (N : Int) (e : Ending) (w' : World) : Prop :=
  ∃ (a : Option Addr) (c : Nat) (A : Nat → Option Addr) (C : Nat → Nat) (m : List (List Int)), GreyIn W H N m ∧ e = .returned (.agg #[.slice a m.length c]) ∧ Wrote (fun k => k = p) w w' ∧ SrcSt wB p n w' ∧ OwnMat w.heap.size w'.heap.size w' a A C m
set_option maxRecDepth 5000 in
set_option maxHeartbeats 1600000 in
theorem drawSized_any (wB : World) (p n W H : Nat) (N : Int) (w : World) (hW1 : 1 ≤ W) (hH1 : 1 ≤ H) (hW2 : W ≤ 16) (hH2 : H ≤ 16) (hN0 : 0 ≤ N) (hN : N ≤ 99) (hn : n ≤ 1000000) (h : SrcSt wB p n w) :
    Calls Tryz.prog 16 #[.pointer (some ⟨p, 0, none⟩), .int .i64 W, .int .i64 H, .int .i64 N] w (DgRet wB w p (n + 3000) W H N) := by
  obtain ⟨i0, hi, hz0, hz1, hz2⟩ := info_parts Tryz.infoI64
  have HP : Hid (∀ w' n' N, n' ≤ 2000000 → SrcSt wB p n' w' → Calls Tryz.prog 15 #[.pointer (some ⟨p, 0, none⟩), .int .i64 N] w' (PickRet wB p (n' + 2) w' N)) := fun w' n' N h1 h2 => pick_any wB p n' N w' (by omega) h2
  have HO : Hid (∀ w' n' N, n' ≤ 2000000 → SrcSt wB p n' w' → Calls Tryz.prog 38 #[.pointer (some ⟨p, 0, none⟩), .int .i64 N] w' fun e w'' => ∃ b : Bool, e = .returned (.bool b) ∧ Wrote (fun k => k = p) w' w'' ∧ SrcSt wB p (n' + 2) w'') := fun w' n' N h1 h2 => one_any wB p n' N w' (by omega) h2
  have hm : W * H ≤ 256 := Nat.mul_le_mul hW2 hH2
  have hmi : (W : Int) * (H : Int) = ((W * H : Nat) : Int) := by rw [Int.natCast_mul]
  have hmb : (W : Int) * (H : Int) ≤ 4096 := by rw [hmi]; omega
  have hmb0 : 0 ≤ (W : Int) * (H : Int) := by rw [hmi]; omega
  have HS0 : Hid (DgSt wB w p w.heap.size 0 n N (.slice (some ⟨w.heap.size + 1, 0, none⟩) 0 0) ((w.alloc (.cells #[.slice none 0 0] 26)).alloc (.cells #[] 2))) := DgSt.start N h
  obtain ⟨m, hmm⟩ : ∃ m, m = W * H := ⟨_, rfl⟩
  rw [← hmm] at hm hmi
  have HMM := Lib.hid hmm
  clear h hmm
  obtain ⟨W0, hW0⟩ : ∃ W0, W0 = (w.alloc (.cells #[.slice none 0 0] 26)).alloc (.cells #[] 2) := ⟨_, rfl⟩
  rw [← hW0] at HS0
  have hlo : w.heap.size < W0.heap.size := by rw [hW0]; simp; omega
  go_enter Tryz.func16, Tryz.ntmps16
  go_upto_region 2 with fail
  rw [← hW0]
  clear hW0
  go_wp2_with fail
  refine (HO.out _ n 2 (by omega) HS0.out.src).mono ?_
  rintro e w1 ⟨like, rfl, hw, hs⟩
  have HS1 := Lib.hid ((HS0.out.call hw hs).more (n' := n + 2 + 4 * 0) (by omega))
  clear hw hs HS0
  go_wp2
  go_loopw [9, 11, 12] (fun v i _ wr => ∃ k : Nat, k ≤ m ∧ i = .int .i64 k ∧ Hid (DgSt wB w p w.heap.size k (n + 2 + 4 * k) N v wr)) (fun _ i _ _ => m - (intOf i).toNat)
  case atStart => exact ⟨0, Nat.zero_le _, rfl, HS1⟩
  case round =>
    clear HS1
    obtain ⟨k, hk, rfl, HS⟩ := hrel
    by_cases hlt : k < m
    · have hlt' : (k : Int) < (m : Int) := by omega
      have hk0 : (0 : Int) ≤ (k : Int) := by omega
      go_wp2_with fail
      refine (HP.out wr _ _ (by omega) HS.out.src).mono ?_
      rintro e w2 ⟨z, rfl, z0, z1, hw, hs⟩
      have HS2 := Lib.hid (HS.out.call hw hs)
      have zN : z ≤ N := by omega
      clear hw hs HS z1
      cases like
      · skip
        obtain ⟨pre, hown, hnext⟩ := HS2.out.own
        have HNEXT : Hid (∀ (o : Obj) (v' : Value) (w1 : World), (w2.alloc o).grownBy w1 (u9).ownBlock → w1.ownsRow (w.heap.size + 1) 2 1 v' (k + 1) (pre ++ [.int .i64 z]) → DgSt wB w p w.heap.size (k + 1) (n + 2 + 4 * (k + 1)) N v' w1) := fun o v' w1 h1 h2 => (hnext z o v' w1 z0 zN h1 h2).more (by omega)
        have HB1 : Hid (k + 1 ≤ maxLen) := by show _ ≤ _; unfold maxLen; omega
        have HB2 : Hid ((k + 1) * 8 ≤ 140737488355328) := by show _ ≤ _; omega
        have HLE : ∀ o' : Obj, w.heap.size + 1 ≤ (w2.alloc o').heap.size := fun o' => by have := HS2.out.one.lt; simp; omega
        clear hnext HS2
        go_wp2_with ((at_builtin; refine wpList_append_own _ rfl _ _ 57 rfl (w.heap.size + 1) 2 i0 (.int .i64 0) 1 8 Tryz.underlying57 hi hz0 hz1 hz2 rfl (by decide) _ _ _ rfl (hown.alloc _) ⟨w2.heap.size, 0, none⟩ 1 1 [.int .i64 z] rfl rfl (cell_one_new _ _ _) (by simp [Value.oneCell']) HB1.out HB2.out (HLE _) (fun v' w1 hown' hgrow _ => ?_)); have HS4 := Lib.hid (HNEXT.out _ _ _ hgrow hown'); clear hgrow hown' hown)
        go_roundw
        case rel => exact ⟨k + 1, by omega, by go_num, HS4⟩
        case measure => simp [intOf]; omega
      · by_cases hp : 0 < k
        · have hp' : (0 : Int) < (k : Int) := by omega
          go_wp2_with fail
          refine (HO.out w2 _ _ (by omega) HS2.out.src).mono ?_
          rintro e w3 ⟨b, rfl, hw, hs⟩
          have HS3 := Lib.hid (HS2.out.call hw hs)
          clear hw hs HS2
          cases b
          · obtain ⟨g, c, y, rfl, hc, y0, yN⟩ := HS3.out.at (i := k - 1) (by omega)
            have hc' : w3.cell? ⟨g, 0 + (k - 1), none⟩ = some (.int .i64 y) := by rw [Nat.zero_add]; exact hc
            have hk1 : (0 : Int) ≤ (k : Int) - 1 := by omega
            have hk2 : (k : Int) - 1 < (k : Int) := by omega
            have hk3 : ((k : Int) - 1).toNat = k - 1 := by omega
            obtain ⟨pre, hown, hnext⟩ := HS3.out.own
            have HNEXT : Hid (∀ (o : Obj) (v' : Value) (w1 : World), (w3.alloc o).grownBy w1 (Value.slice (some ⟨g, 0, none⟩) k c).ownBlock → w1.ownsRow (w.heap.size + 1) 2 1 v' (k + 1) (pre ++ [.int .i64 y]) → DgSt wB w p w.heap.size (k + 1) (n + 2 + 4 * (k + 1)) N v' w1) := fun o v' w1 h1 h2 => (hnext y o v' w1 y0 yN h1 h2).more (by omega)
            have HB1 : Hid (k + 1 ≤ maxLen) := by show _ ≤ _; unfold maxLen; omega
            have HB2 : Hid ((k + 1) * 8 ≤ 140737488355328) := by show _ ≤ _; omega
            have HLE : ∀ o' : Obj, w.heap.size + 1 ≤ (w3.alloc o').heap.size := fun o' => by have := HS3.out.one.lt; simp; omega
            clear hnext HS3
            go_wp2_with ((at_builtin; refine wpList_append_own _ rfl _ _ 57 rfl (w.heap.size + 1) 2 i0 (.int .i64 0) 1 8 Tryz.underlying57 hi hz0 hz1 hz2 rfl (by decide) _ _ _ rfl (hown.alloc _) ⟨w3.heap.size, 0, none⟩ 1 1 [.int .i64 y] rfl rfl (cell_one_new _ _ _) (by simp [Value.oneCell']) HB1.out HB2.out (HLE _) (fun v' w1 hown' hgrow _ => ?_)); have HS4 := Lib.hid (HNEXT.out _ _ _ hgrow hown'); clear hgrow hown' hown)
            go_roundw
            case rel => exact ⟨k + 1, by omega, by go_num, HS4⟩
            case measure => simp [intOf]; omega
          · skip
            obtain ⟨pre, hown, hnext⟩ := HS3.out.own
            have HNEXT : Hid (∀ (o : Obj) (v' : Value) (w1 : World), (w3.alloc o).grownBy w1 (u9).ownBlock → w1.ownsRow (w.heap.size + 1) 2 1 v' (k + 1) (pre ++ [.int .i64 z]) → DgSt wB w p w.heap.size (k + 1) (n + 2 + 4 * (k + 1)) N v' w1) := fun o v' w1 h1 h2 => (hnext z o v' w1 z0 zN h1 h2).more (by omega)
            have HB1 : Hid (k + 1 ≤ maxLen) := by show _ ≤ _; unfold maxLen; omega
            have HB2 : Hid ((k + 1) * 8 ≤ 140737488355328) := by show _ ≤ _; omega
            have HLE : ∀ o' : Obj, w.heap.size + 1 ≤ (w3.alloc o').heap.size := fun o' => by have := HS3.out.one.lt; simp; omega
            clear hnext HS3
            go_wp2_with ((at_builtin; refine wpList_append_own _ rfl _ _ 57 rfl (w.heap.size + 1) 2 i0 (.int .i64 0) 1 8 Tryz.underlying57 hi hz0 hz1 hz2 rfl (by decide) _ _ _ rfl (hown.alloc _) ⟨w3.heap.size, 0, none⟩ 1 1 [.int .i64 z] rfl rfl (cell_one_new _ _ _) (by simp [Value.oneCell']) HB1.out HB2.out (HLE _) (fun v' w1 hown' hgrow _ => ?_)); have HS4 := Lib.hid (HNEXT.out _ _ _ hgrow hown'); clear hgrow hown' hown)
            go_roundw
            case rel => exact ⟨k + 1, by omega, by go_num, HS4⟩
            case measure => simp [intOf]; omega
        · have hp' : ¬ (0 : Int) < (k : Int) := by omega
          obtain ⟨pre, hown, hnext⟩ := HS2.out.own
          have HNEXT : Hid (∀ (o : Obj) (v' : Value) (w1 : World), (w2.alloc o).grownBy w1 (u9).ownBlock → w1.ownsRow (w.heap.size + 1) 2 1 v' (k + 1) (pre ++ [.int .i64 z]) → DgSt wB w p w.heap.size (k + 1) (n + 2 + 4 * (k + 1)) N v' w1) := fun o v' w1 h1 h2 => (hnext z o v' w1 z0 zN h1 h2).more (by omega)
          have HB1 : Hid (k + 1 ≤ maxLen) := by show _ ≤ _; unfold maxLen; omega
          have HB2 : Hid ((k + 1) * 8 ≤ 140737488355328) := by show _ ≤ _; omega
          have HLE : ∀ o' : Obj, w.heap.size + 1 ≤ (w2.alloc o').heap.size := fun o' => by have := HS2.out.one.lt; simp; omega
          clear hnext HS2
          go_wp2_with ((at_builtin; refine wpList_append_own _ rfl _ _ 57 rfl (w.heap.size + 1) 2 i0 (.int .i64 0) 1 8 Tryz.underlying57 hi hz0 hz1 hz2 rfl (by decide) _ _ _ rfl (hown.alloc _) ⟨w2.heap.size, 0, none⟩ 1 1 [.int .i64 z] rfl rfl (cell_one_new _ _ _) (by simp [Value.oneCell']) HB1.out HB2.out (HLE _) (fun v' w1 hown' hgrow _ => ?_)); have HS4 := Lib.hid (HNEXT.out _ _ _ hgrow hown'); clear hgrow hown' hown)
          go_roundw
          case rel => exact ⟨k + 1, by omega, by go_num, HS4⟩
          case measure => simp [intOf]; omega
    · have hkm : k = m := by omega
      subst hkm
      obtain ⟨xs, x1, x2, x3⟩ := HS.out.xs
      obtain ⟨g, cap, e9, -, -, -⟩ := GrowOf.some x3 (by rw [x1, HMM.out]; exact Nat.mul_pos hW1 hH1)
      rw [x1] at e9
      subst e9
      obtain ⟨a8, cap8, e8, hcap⟩ := GrowOf.form x3
      rw [x1] at hcap e8
      have hcap2 : k ≤ cap := by
        simp only [Value.slice.injEq] at e8
        omega
      have HRW : Hid (Calls Tryz.prog 39 #[.int .i64 W, .slice (some ⟨g, 0, none⟩) k cap] wr (MatRet wr (grl W H xs))) := by
        have hh := l07Rows_any g 0 cap W H xs wr hW1 (by omega) (by omega) (by rw [x1, HMM.out, Nat.mul_comm]) (by rw [x1]; exact hcap2) (GrowOf.own 0 x3).row
        rw [x1] at hh
        exact hh
      have hgr : (grl W H xs).length = H := grl_len _ _ _
      have HIN : Hid (GreyIn W H N (grl W H xs)) := ⟨tableOk_grl hW1 hW2 hH1 hH2 fun j hj => x2 _ (getD_memZ (by rw [x1, HMM.out, Nat.mul_comm]; exact hj)), grl_len _ _ _, grl_row (by omega)⟩
      clear x1 x2 x3 e8 hcap hcap2
      generalize grl W H xs = R at *
      go_wp2_with fail
      refine HRW.out.mono ?_
      rintro e w3 ⟨a7, c7, A7, C7, rfl, hx7, ho7⟩
      obtain ⟨r1, r2, r3, HR⟩ := HS.out.store hx7 (ho7.mat (by decide)) (.slice a7 H c7)
      have HQ : Hid (DgRet wB w p (n + 3000) W H N (.returned (.agg #[.slice a7 H c7])) (w3.setCell ⟨w.heap.size, 0, none⟩ (.slice a7 H c7))) :=
        ⟨a7, c7, A7, C7, R, HIN.out, by rw [hgr], HR.out.1, HR.out.2.1.more (by omega), HR.out.2.2⟩
      rw [hgr]
      clear hx7 ho7 HS HR hgr HIN
      go_wp2
      exact bodyPost_ret (v := .agg #[.slice a7 H c7]) (by simp [results, Tryz.results16, go_sem, r3]) rfl HQ.out
/-- A new grey picture with a property is returned. -/
def NewGrey (w : World) (P : List (List Int) → Prop) (e : Ending) (w' : World) : Prop :=
  ∃ (a : Option Addr) (c : Nat) (A : Nat → Option Addr) (C : Nat → Nat) (m : List (List Int)), e = .returned (.agg #[.slice a m.length c]) ∧ P m ∧ w.Ext w' ∧ OwnMat w.heap.size w'.heap.size w' a A C m
def GreyTo (n : Nat) (N : Int) (m : List (List Int)) : Prop := tableOk m N = true ∧ m.length ≤ n ∧ (m.getD 0 []).length ≤ n
theorem tableOk_more {m : List (List Int)} {N N' : Int} (h : tableOk m N = true) (hN : N ≤ N') : tableOk m N' = true := by
  obtain ⟨h1, h2, h3, h4, h5, h6⟩ := tableOk_spec h
  unfold tableOk
  rw [inB_true.2 (by omega), inB_true.2 (by omega), Bool.true_and, Bool.true_and, all_getD (d := [])]
  intro i hi
  unfold rowOk
  rw [h5 i hi, decide_eq_true rfl, Bool.true_and, all_getD (d := 0)]
  intro j hj
  obtain ⟨q1, q2⟩ := h6 i j hi hj
  exact inB_true.2 (by omega)
set_option maxRecDepth 5000 in
theorem b10Grey_any (a : Option Addr) (c : Nat) (zs : List Int) (w : World) (h : CodeAt w a zs) :
    Calls Tryz.prog 5 #[.slice a zs.length c] w (NewGrey w (GreyTo 6 8)) := by
  obtain ⟨W0, hW0⟩ : ∃ W0, W0 = w.alloc (.cells #[.slice none 0 0] 26) := ⟨_, rfl⟩
  have hx0 : w.Ext W0 := by rw [hW0]; repeat (first | exact World.Ext.refl _ | exact ⟨_, rfl⟩ | assumption | refine World.Ext.over ?_ _ | refine World.Ext.drewN ?_ _ | refine World.Ext.drew ?_ | refine World.Ext.alloc ?_ _ | refine World.Ext.setCell ?_ (by simp) _)
  have hone : One W0 w.heap.size 26 (.slice none 0 0) := by rw [hW0]; exact One.new _ _ _ _ rfl
  have hlt := hone.lt
  have HF := Lib.hid (from_any a c zs w W0 hx0 h)
  have HP : Hid (∀ w' n' N, n' ≤ 2000000 → SrcSt w W0.heap.size n' w' → Calls Tryz.prog 15 #[.pointer (some ⟨W0.heap.size, 0, none⟩), .int .i64 N] w' (PickRet w W0.heap.size (n' + 2) w' N)) := fun w' n' N h1 h2 => pick_any w W0.heap.size n' N w' (by omega) h2
  have HONE := Lib.hid hone
  clear hone h
  go_enter Tryz.func5, Tryz.ntmps5
  go_wp2_with fail
  rw [← hW0]
  clear hW0
  refine HF.out.mono ?_
  rintro e w1 ⟨rfl, hx1, hs⟩
  have HS1 := Lib.hid hs
  have HO1 := Lib.hid (HONE.out.ext hx1)
  clear hx1 hs HF HONE
  go_wp2_with fail
  refine (HP.out w1 _ _ (by omega) HS1.out).mono ?_
  rintro e w2 ⟨x, rfl, x0, x1, hw, hs⟩
  have HO2 := Lib.hid (HO1.out.keep (hw.block _ HO1.out.lt (by omega)))
  have HS2 := Lib.hid hs
  clear hw hs HS1 HO1
  go_wp2_with fail
  refine (HP.out w2 _ _ (by omega) HS2.out).mono ?_
  rintro e w3 ⟨y, rfl, y0, y1, hw, hs⟩
  have HO3 := Lib.hid (HO2.out.keep (hw.block _ HO2.out.lt (by omega)))
  have HS3 := Lib.hid hs
  clear hw hs HS2 HO2
  go_wp2_with fail
  refine (HP.out w3 _ _ (by omega) HS3.out).mono ?_
  rintro e w4 ⟨z, rfl, z0, z1, hw, hs⟩
  have HO4 := Lib.hid (HO3.out.keep (hw.block _ HO3.out.lt (by omega)))
  have HS4 := Lib.hid hs
  clear hw hs HS3 HO3 HP
  obtain ⟨X, hX⟩ : ∃ X : Nat, 1 + x = X := ⟨(1 + x).toNat, by omega⟩
  obtain ⟨Y, hY⟩ : ∃ Y : Nat, 1 + y = Y := ⟨(1 + y).toNat, by omega⟩
  obtain ⟨Z, hZ⟩ : ∃ Z : Int, 1 + z = Z := ⟨_, rfl⟩
  have HD := Lib.hid (drawSized_any w W0.heap.size _ X Y Z w4 (by omega) (by omega) (by omega) (by omega) (by omega) (by omega) (by omega) HS4.out)
  have hb : 1 ≤ X ∧ X ≤ 6 ∧ 1 ≤ Y ∧ Y ≤ 6 ∧ 1 ≤ Z ∧ Z ≤ 8 := by omega
  have HB := Lib.hid hb
  clear hb x0 x1 y0 y1 z0 z1
  go_wp2_with fail
  rw [show wrap64 Z = Z from by unfold wrap64; have := HB.out; omega]
  clear hX hY hZ
  refine HD.out.mono ?_
  rintro e w5 ⟨a5, c5, A5, C5, m, ⟨hm1, hm2, hm3⟩, rfl, hw, hs, ho⟩
  have HX5 : Hid (w.Ext w5) := hs.x
  obtain ⟨r1, r2, r3, HR⟩ := Res.storeM (lo := w4.heap.size) (.slice a5 m.length c5) HX5.out (Nat.le_refl _) (HO4.out.keep (hw.block _ HO4.out.lt (by omega))) HO4.out.lt ho
  have HQ : Hid (GreyTo 6 8 m) := ⟨tableOk_more hm1 HB.out.2.2.2.2.2, by rw [hm2]; exact HB.out.2.2.2.1, by rw [hm3]; exact HB.out.2.1⟩
  clear hw hs ho hm1 hm2 hm3 HS4 HO4 HD
  go_wp2
  exact bodyPost_ret (v := .agg #[.slice a5 m.length c5]) (by simp [results, Tryz.results5, go_sem, r3]) rfl ⟨a5, c5, A5, C5, m, rfl, HQ.out, HR.out.1, HR.out.2⟩
end Go.Proofs.YtkpgelhmeokemaaGreatDoor
