/- The reference draws a picture: which one is left open. -/
import Derived.Test.YtmmanehdmnkekaaGenS
import Derived.Test.YtmmanehdmnkekaaRecP
import Derived.Test.YtmmanehdmnkekaaGenM
import Derived.Deep.DeepCutAuto
import Derived.Deep.CutBlock
namespace Go.Proofs.Ytmmanehdmnkekaa
open Go Go.RowKit
theorem _root_.Go.GrowOf.lower {α : Type} {f : α → Value} {lo lo' : Nat} {e : TypeId} {w : World} {v : Value} {xs : List α} (h : GrowOf f lo e w v xs) (hl : lo' ≤ lo) : GrowOf f lo' e w v xs := by
  obtain ⟨h1, h2⟩ := h
  refine ⟨h1, ?_⟩
  rcases h2 with h0 | ⟨g, c, cur, hv, hb, r⟩
  · exact .inl h0
  · exact .inr ⟨g, c, cur, hv, Nat.le_trans hl hb, r⟩
/-- A picture that is drawn: its pixels in a block of the call's own. -/
structure DrSt (wB w0 : World) (p q g m n : Nat) (wr : World) : Prop where
  wrote : Wrote (fun k => k = p) w0 wr
  src : SrcSt wB p n wr
  one : One wr q 38 (.slice none 0 0)
  px : ∃ l : List Bool, l.length = m ∧ BlkOf Value.bool wr g 4 l
  ap : p < w0.heap.size ∧ w0.heap.size ≤ q ∧ q < g
section
variable {wB w0 : World} {p q g m n : Nat} {wr w' : World}
theorem DrSt.call (h : DrSt wB w0 p q g m n wr) (hw : Wrote (fun k => k = p) wr w') {n' : Nat} (hs : SrcSt wB p n' w') : DrSt wB w0 p q g m n' w' := by
  obtain ⟨l, h1, h2⟩ := h.px
  obtain ⟨a1, a2, a3⟩ := h.ap
  exact ⟨h.wrote.trans hw, hs, h.one.keep (hw.block q h.one.lt (by omega)), ⟨l, h1, h2.keep (hw.block g h2.lt (by omega))⟩, h.ap⟩
theorem DrSt.ext (h : DrSt wB w0 p q g m n wr) (hx : wr.Ext w') : DrSt wB w0 p q g m n w' := h.call (hx.wrote _) (h.src.ext hx)
theorem DrSt.more (h : DrSt wB w0 p q g m n wr) {n' : Nat} (hn : n ≤ n') : DrSt wB w0 p q g m n' wr := ⟨h.wrote, h.src.more hn, h.one, h.px, h.ap⟩
theorem DrSt.at (h : DrSt wB w0 p q g m n wr) {i : Nat} (hi : i < m) :
    ∃ v : Bool, wr.cell? ⟨g, i, none⟩ = some (.bool v) ∧ wr.frozen? ⟨g, i, none⟩ = false ∧ ∀ b : Bool, DrSt wB w0 p q g m n (wr.setCell ⟨g, i, none⟩ (.bool b)) := by
  obtain ⟨l, h1, h2⟩ := h.px
  obtain ⟨a1, a2, a3⟩ := h.ap
  refine ⟨l.getD i false, h2.cell false (by omega), h2.free i, fun b => ?_⟩
  have hw : Wrote (fun k => k = g) wr (wr.setCell ⟨g, i, none⟩ (.bool b)) := Wrote.setCell (S := fun k => k = g) (Wrote.refl _ wr) (p := ⟨g, i, none⟩) rfl _
  refine ⟨?_, h.src.wrote hw fun k hk hl => ?_, h.one.other (by simp only; omega) _, ⟨l.set i b, by rw [List.length_set, h1], h2.set i b⟩, h.ap⟩
  · exact ((h.wrote.mono (T := fun k => k = p ∨ w0.heap.size ≤ k) fun k _ hk => .inl hk).setCell (p := ⟨g, i, none⟩) (.inr (show w0.heap.size ≤ g by omega)) _).mono fun k hk hs => by omega
  · have := h.src.x.size
    have := h.src.lo
    omega
theorem DrSt.start (h : SrcSt wB p n w0) {g : Nat} (hg : (w0.alloc (.cells #[.slice none 0 0] 38)).Ext wr) (hb : BlkOf Value.bool wr g 4 (List.replicate m false)) (hlt : w0.heap.size < g) : DrSt wB w0 p w0.heap.size g m n wr :=
  have hx : w0.Ext wr := World.Ext.trans (by repeat (first | exact World.Ext.refl _ | exact ⟨_, rfl⟩ | assumption | refine World.Ext.over ?_ _ | refine World.Ext.drewN ?_ _ | refine World.Ext.drew ?_ | refine World.Ext.alloc ?_ _ | refine World.Ext.setCell ?_ (by simp) _)) hg
  ⟨hx.wrote _, h.ext hx, (One.new _ _ _ _ rfl).ext hg, ⟨_, by simp, hb⟩, h.lt, Nat.le_refl _, hlt⟩
end
theorem DrSt.store {wB w0 : World} {p q g m n : Nat} {wr w3 : World} {a : Option Addr} {xs : List ByteArray} (h : DrSt wB w0 p q g m n wr) (hx : wr.Ext w3) {n3 c3 : Nat} (ho : GrowOf Value.string wr.heap.size 9 w3 (.slice a n3 c3) xs) (v : Value) :
    w3.cell? ⟨q, 0, none⟩ = some (.slice none 0 0) ∧ w3.frozen? ⟨q, 0, none⟩ = false ∧ (w3.setCell ⟨q, 0, none⟩ v).cell? ⟨q, 0, none⟩ = some v ∧
      Hid (Wrote (fun k => k = p) w0 (w3.setCell ⟨q, 0, none⟩ v) ∧ SrcSt wB p n (w3.setCell ⟨q, 0, none⟩ v) ∧ GrowOf Value.string w0.heap.size 9 (w3.setCell ⟨q, 0, none⟩ v) (.slice a n3 c3) xs) := by
  have h3 := h.ext hx
  obtain ⟨a1, a2, a3⟩ := h.ap
  have hq := h.one.lt
  have hw : Wrote (fun k => k = q) w3 (w3.setCell ⟨q, 0, none⟩ v) := Wrote.setCell (S := fun k => k = q) (Wrote.refl _ w3) (p := ⟨q, 0, none⟩) rfl _
  refine ⟨h3.one.cell, h3.one.free, (h3.one.set v).cell, ?_, h3.src.wrote hw fun k hk hl => ?_, GrowOf.lower (GrowOf.setCell ho (GrowOf.ne ho h3.one (by decide)) v) ?_⟩
  · exact ((h3.wrote.mono (T := fun k => k = p ∨ w0.heap.size ≤ k) fun k _ hk => .inl hk).setCell (p := ⟨q, 0, none⟩) (.inr (show w0.heap.size ≤ q by omega)) _).mono fun k hk hs => by omega
  · have := h3.src.x.size
    have := h3.src.lo
    have := h.src.x.size
    omega
  · omega
/-- What a drawn picture is. -/
def DrawRet (wB w : World) (p n W H : Nat) (e : Ending) (w' : World) : Prop :=
  ∃ (a : Option Addr) (c : Nat) (l : List Bool), l.length = W * H ∧ e = .returned (.agg #[.slice a H c]) ∧ Wrote (fun k => k = p) w w' ∧ SrcSt wB p n w' ∧ GrowOf Value.string w.heap.size 9 w' (.slice a H c) (picRows W H l)
set_option maxRecDepth 5000 in
set_option maxHeartbeats 1600000 in
theorem drawPicture_any (wB : World) (p n W H : Nat) (w : World) (hW1 : 1 ≤ W) (hH1 : 1 ≤ H) (hW2 : W ≤ 16) (hH2 : H ≤ 16) (hn : n ≤ 1000000) (h : SrcSt wB p n w) :
    Calls Try.prog 99 #[.pointer (some ⟨p, 0, none⟩), .int .i64 W, .int .i64 H] w (DrawRet wB w p (n + 3000) W H) := by
  obtain ⟨i0, hi, hz0, hz1, hz2⟩ := info_parts Try.infoBool'
  have HP : Hid (∀ w' n' N, n' ≤ 2000000 → SrcSt wB p n' w' → Calls Try.prog 73 #[.pointer (some ⟨p, 0, none⟩), .int .i64 N] w' (PickRet wB p (n' + 2) w' N)) := fun w' n' N h1 h2 => pick_any wB p n' N w' (by omega) h2
  have HO : Hid (∀ w' n' N, n' ≤ 2000000 → SrcSt wB p n' w' → Calls Try.prog 175 #[.pointer (some ⟨p, 0, none⟩), .int .i64 N] w' fun e w'' => ∃ b : Bool, e = .returned (.bool b) ∧ Wrote (fun k => k = p) w' w'' ∧ SrcSt wB p (n' + 2) w'') := fun w' n' N h1 h2 => one_any wB p n' N w' (by omega) h2
  have HSRC := Lib.hid h
  have hm : W * H ≤ 256 := Nat.mul_le_mul hW2 hH2
  have hm1 : 1 ≤ W * H := Nat.mul_pos hW1 hH1
  have hmi : (W : Int) * (H : Int) = ((W * H : Nat) : Int) := by rw [Int.natCast_mul]
  have hmb : (W : Int) * (H : Int) ≤ 4096 := by rw [hmi]; omega
  have hmb0 : 0 ≤ (W : Int) * (H : Int) := by rw [hmi]; omega
  obtain ⟨m, hmm⟩ : ∃ m, m = W * H := ⟨_, rfl⟩
  rw [← hmm] at hm hm1 hmi
  have C1 : Hid (i0.bytes * m ≤ 281474976710656) := by show _ ≤ _; rw [hz2]; omega
  have C2 : Hid (m ≤ maxLen) := by show _ ≤ _; unfold maxLen; omega
  have HMI := Lib.hid hmi
  have HMM := Lib.hid hmm
  clear h hmm hmi
  obtain ⟨W0, hW0⟩ : ∃ W0, W0 = w.alloc (.cells #[.slice none 0 0] 38) := ⟨_, rfl⟩
  have HX0 : Hid (w.Ext W0) := by show World.Ext _ _; rw [hW0]; repeat (first | exact World.Ext.refl _ | exact ⟨_, rfl⟩ | assumption | refine World.Ext.over ?_ _ | refine World.Ext.drewN ?_ _ | refine World.Ext.drew ?_ | refine World.Ext.alloc ?_ _ | refine World.Ext.setCell ?_ (by simp) _)
  have hsz0 : W0.heap.size = w.heap.size + 1 := by rw [hW0]; simp
  go_enter Try.func99, Try.ntmps99
  go_upto_region 1 with fail
  rw [← hW0]
  have HW0 : Hid (∀ w', W0.Ext w' → (w.alloc (.cells #[.slice none 0 0] 38)).Ext w') := fun w' h => by rw [← hW0]; exact h
  clear hW0
  go_wp2_with (at_make; refine wpList_make_full _ rfl _ _ 124 rfl 0 4 i0 (.bool false) 1 Try.underlying124 hi hz0 hz1 .i64 .i64 _ _ m rfl rfl HMI.out HMI.out C1.out C2.out (Nat.zero_le _) (fun w1 hown hgrow => ?_); go_loud (have hS0 : DrSt wB w p w.heap.size W0.heap.size m n w1 := DrSt.start HSRC.out (HW0.out _ (World.Ext.made hgrow)) (blk_of_made (f := Value.bool) false rfl hown) (by omega)); have HS0 := Lib.hid hS0; clear hS0 hown hgrow HW0)
  refine (HP.out w1 n 5 (by omega) HS0.out.src).mono ?_
  rintro e w2 ⟨r, rfl, r0, r1, hw, hs⟩
  have HS := Lib.hid (HS0.out.call hw hs)
  clear hw hs HS0
  rw [hsz0] at HS
  clear hsz0 HX0 HSRC C1 C2 hi hz0 hz1 hz2
  go_upto_block 0 with fail
  go_cut [] (fun wx => Hid (DrSt wB w p w.heap.size (w.heap.size + 1) m (n + 1002) wx))
  case first =>
    have hr : r = 0 ∨ r = 1 ∨ r = 2 ∨ r = 3 ∨ r = 4 := by omega
    clear r0 r1 hmb hmb0 HMI
    rcases hr with rfl | rfl | rfl | rfl | rfl
    · go_wp2
      go_loopw [30] (fun i wr => ∃ k : Nat, k ≤ m ∧ i = .int .i64 k ∧ Hid (DrSt wB w p w.heap.size (w.heap.size + 1) m (n + 2 + 2 * k + 0) wr)) (fun i _ => m - (intOf i).toNat)
      case atStart => exact ⟨0, Nat.zero_le _, rfl, HS⟩
      case round =>
        clear HS
        obtain ⟨k, hk, rfl, HS⟩ := hrel
        by_cases hlt : k < m
        · have hlt' : (k : Int) < (m : Int) := by omega
          have hk0 : (0 : Int) ≤ (k : Int) := by omega
          go_wp2_with fail
          refine (HO.out wr (n + 2 + 2 * k + 0) _ (by omega) HS.out.src).mono ?_
          rintro e w3 ⟨b, rfl, hw, hs⟩
          have HS3 := Lib.hid (HS.out.call hw hs)
          clear hw hs HS
          obtain ⟨v, hc, hf, hset⟩ := HS3.out.at hlt
          have HS4 := Lib.hid ((hset (b)).more (n' := n + 2 + 2 * (k + 1) + 0) (by omega))
          clear hset HS3
          go_wp2
          go_roundw
          case rel => exact ⟨k + 1, by omega, by go_num, HS4⟩
          case measure => simp [intOf]; omega
        · have : k = m := by omega
          subst this
          have HS4 := Lib.hid (HS.out.more (n' := n + 1002) (by omega))
          clear HS
          go_wp2
          go_meet
          exact HS4
    · go_wp2
      go_loopw [43] (fun i wr => ∃ k : Nat, k ≤ m ∧ i = .int .i64 k ∧ Hid (DrSt wB w p w.heap.size (w.heap.size + 1) m (n + 2 + 2 * k + 0) wr)) (fun i _ => m - (intOf i).toNat)
      case atStart => exact ⟨0, Nat.zero_le _, rfl, HS⟩
      case round =>
        clear HS
        obtain ⟨k, hk, rfl, HS⟩ := hrel
        by_cases hlt : k < m
        · have hlt' : (k : Int) < (m : Int) := by omega
          have hk0 : (0 : Int) ≤ (k : Int) := by omega
          go_wp2_with fail
          refine (HO.out wr (n + 2 + 2 * k + 0) _ (by omega) HS.out.src).mono ?_
          rintro e w3 ⟨b, rfl, hw, hs⟩
          have HS3 := Lib.hid (HS.out.call hw hs)
          clear hw hs HS
          obtain ⟨v, hc, hf, hset⟩ := HS3.out.at hlt
          have HS4 := Lib.hid ((hset (b)).more (n' := n + 2 + 2 * (k + 1) + 0) (by omega))
          clear hset HS3
          go_wp2
          go_roundw
          case rel => exact ⟨k + 1, by omega, by go_num, HS4⟩
          case measure => simp [intOf]; omega
        · have : k = m := by omega
          subst this
          have HS4 := Lib.hid (HS.out.more (n' := n + 1002) (by omega))
          clear HS
          go_wp2
          go_meet
          exact HS4
    · go_wp2
      go_loopw [56] (fun i wr => ∃ k : Nat, k ≤ m ∧ i = .int .i64 k ∧ Hid (DrSt wB w p w.heap.size (w.heap.size + 1) m (n + 2 + 2 * k + 0) wr)) (fun i _ => m - (intOf i).toNat)
      case atStart => exact ⟨0, Nat.zero_le _, rfl, HS⟩
      case round =>
        clear HS
        obtain ⟨k, hk, rfl, HS⟩ := hrel
        by_cases hlt : k < m
        · have hlt' : (k : Int) < (m : Int) := by omega
          have hk0 : (0 : Int) ≤ (k : Int) := by omega
          go_wp2_with fail
          refine (HO.out wr (n + 2 + 2 * k + 0) _ (by omega) HS.out.src).mono ?_
          rintro e w3 ⟨b, rfl, hw, hs⟩
          have HS3 := Lib.hid (HS.out.call hw hs)
          clear hw hs HS
          obtain ⟨v, hc, hf, hset⟩ := HS3.out.at hlt
          have HS4 := Lib.hid ((hset (!b)).more (n' := n + 2 + 2 * (k + 1) + 0) (by omega))
          clear hset HS3
          go_wp2
          go_roundw
          case rel => exact ⟨k + 1, by omega, by go_num, HS4⟩
          case measure => simp [intOf]; omega
        · have : k = m := by omega
          subst this
          have HS4 := Lib.hid (HS.out.more (n' := n + 1002) (by omega))
          clear HS
          go_wp2
          go_meet
          exact HS4
    · go_wp2_with fail
      refine (HO.out w2 (n + 2) _ (by omega) HS.out.src).mono ?_
      rintro e w3 ⟨c, rfl, hw, hs⟩
      have HS3 := Lib.hid (HS.out.call hw hs)
      clear hw hs HS
      have HS := Lib.hid (HS3.out.more (n' := n + 2 + 2 * 0 + 2) (by omega))
      clear HS3
      go_wp2
      go_loopw [72] (fun i wr => ∃ k : Nat, k ≤ m ∧ i = .int .i64 k ∧ Hid (DrSt wB w p w.heap.size (w.heap.size + 1) m (n + 2 + 2 * k + 2) wr)) (fun i _ => m - (intOf i).toNat)
      case atStart => exact ⟨0, Nat.zero_le _, rfl, HS⟩
      case round =>
        clear HS
        obtain ⟨k, hk, rfl, HS⟩ := hrel
        by_cases hlt : k < m
        · have hlt' : (k : Int) < (m : Int) := by omega
          have hk0 : (0 : Int) ≤ (k : Int) := by omega
          have HS3 := HS
          clear HS
          obtain ⟨v, hc, hf, hset⟩ := HS3.out.at hlt
          have HS4 := Lib.hid ((hset (c)).more (n' := n + 2 + 2 * (k + 1) + 2) (by omega))
          clear hset HS3
          go_wp2
          go_roundw
          case rel => exact ⟨k + 1, by omega, by go_num, HS4⟩
          case measure => simp [intOf]; omega
        · have : k = m := by omega
          subst this
          have HS4 := Lib.hid (HS.out.more (n' := n + 1002) (by omega))
          clear HS
          go_wp2
          go_meet
          exact HS4
    · have HS4 := Lib.hid (HS.out.more (n' := n + 1002) (by omega))
      clear HS
      go_wp2
      go_meet
      exact HS4
  case rest =>
    obtain ⟨wo, rfl⟩ : ∃ wo : World, wo = wc := ⟨_, rfl⟩
    have HS := hcut
    clear hcut
    have HIN : Hid (∀ a b c w', Calls Try.prog 162 #[.int .i64 a, .int .i64 b, .int .i64 c] w' fun e w'' => ∃ t : Bool, e = .returned (.bool t) ∧ w'.Ext w'') := fun a b c w' => (l00In_any a b c w' _ rfl).mono fun e w'' h => ⟨_, h.1, h.2⟩
    have HWMI := HMI
    clear r0 r1 hmb hmb0 HMI
    go_wp2_with fail
    refine (HP.out wo (n + 1002) _ (by omega) HS.out.src).mono ?_
    rintro e w3 ⟨r, rfl, r0, r1, hw, hs⟩
    have HS3 := Lib.hid (HS.out.call hw hs)
    clear hw hs HS
    obtain ⟨k, rfl⟩ : ∃ k : Nat, r = k := ⟨r.toNat, by omega⟩
    have hk3 : k ≤ 3 := by omega
    clear r0 r1
    go_wp2
    go_loopw [13] (fun i wr => ∃ j : Nat, j ≤ k ∧ i = .int .i64 j ∧ Hid (DrSt wB w p w.heap.size (w.heap.size + 1) m (n + 1004 + 10 * (k - j)) wr)) (fun i _ => (intOf i).toNat)
    case atStart => exact ⟨k, Nat.le_refl _, rfl, by rw [Nat.sub_self]; exact HS3⟩
    case round =>
      clear HS3
      obtain ⟨j, hj, rfl, HS⟩ := hrel
      by_cases hlt : 0 < j
      · have hlt' : (0 : Int) < (j : Int) := by omega
        go_wp2_with fail
        refine (HP.out wr (n + 1004 + 10 * (k - j)) _ (by omega) HS.out.src).mono ?_
        rintro e w4 ⟨x, rfl, x0, x1, hw, hs⟩
        have HS4 := Lib.hid (HS.out.call hw hs)
        have x2 : x < (W : Int) := by omega
        clear hw hs HS x1
        go_wp2_with fail
        refine (HP.out w4 _ _ (by omega) HS4.out.src).mono ?_
        rintro e w5 ⟨y, rfl, y0, y1, hw, hs⟩
        have HS5 := Lib.hid (HS4.out.call hw hs)
        have y2 : y < (H : Int) := by omega
        clear hw hs HS4 y1
        go_wp2_with fail
        refine (HP.out w5 _ _ (by omega) HS5.out.src).mono ?_
        rintro e w6 ⟨v, rfl, v0, v1, hw, hs⟩
        have HS6 := Lib.hid (HS5.out.call hw hs)
        have v2 : v < (W : Int) := by omega
        clear hw hs HS5 v1
        go_wp2_with fail
        refine (HP.out w6 _ _ (by omega) HS6.out.src).mono ?_
        rintro e w7 ⟨u, rfl, u0, u1, hw, hs⟩
        have HS7 := Lib.hid (HS6.out.call hw hs)
        have u2 : u < (H : Int) := by omega
        clear hw hs HS6 u1
        go_wp2_with fail
        refine (HO.out w7 _ _ (by omega) HS7.out.src).mono ?_
        rintro e w8 ⟨bk, rfl, hw, hs⟩
        have HS8 := Lib.hid ((HS7.out.call hw hs).more (n' := n + 1004 + 10 * (k - (j - 1))) (by omega))
        clear hw hs HS7
        go_wp2
        go_loopw [109] (fun i wr => ∃ c : Nat, c ≤ m ∧ i = .int .i64 c ∧ Hid (DrSt wB w p w.heap.size (w.heap.size + 1) m (n + 1004 + 10 * (k - (j - 1))) wr)) (fun i _ => m - (intOf i).toNat)
        case atStart => exact ⟨0, Nat.zero_le _, rfl, HS8⟩
        case round =>
          clear HS8
          obtain ⟨c, hc, rfl, HS⟩ := hrel
          by_cases hltc : c < m
          · have hltc' : (c : Int) < (m : Int) := by omega
            have hc0 : (0 : Int) ≤ (c : Int) := by omega
            go_wp2_with fail
            refine (HIN.out _ _ _ _).mono ?_
            rintro e w9 ⟨t, rfl, hx⟩
            have HS9 := Lib.hid (HS.out.ext hx)
            clear hx HS
            cases t
            · go_wp2
              go_roundw
              case rel => exact ⟨c + 1, by omega, by go_num, HS9⟩
              case measure => simp [intOf]; omega
            · go_wp2_with fail
              refine (HIN.out _ _ _ _).mono ?_
              rintro e w10 ⟨t, rfl, hx⟩
              have HS10 := Lib.hid (HS9.out.ext hx)
              clear hx HS9
              cases t
              · go_wp2
                go_roundw
                case rel => exact ⟨c + 1, by omega, by go_num, HS10⟩
                case measure => simp [intOf]; omega
              · obtain ⟨z, hcz, hfz, hset⟩ := HS10.out.at hltc
                have HS11 := Lib.hid (hset (!bk))
                clear hset HS10
                go_wp2
                go_roundw
                case rel => exact ⟨c + 1, by omega, by go_num, HS11⟩
                case measure => simp [intOf]; omega
          · have : c = m := by omega
            subst this
            go_wp2
            go_roundw
            case rel => exact ⟨j - 1, by omega, by go_num, HS⟩
            case measure => simp [intOf]; omega
      · have : j = 0 := by omega
        subst this
        obtain ⟨l, hl, hb⟩ := HS.out.px
        have HMK := Lib.hid (l01MakeG_any (some ⟨w.heap.size + 1, 0, none⟩) m W H l wr hW1 (by omega) (by omega) (by rw [hl, HMM.out]) (hb.own false (Nat.le_refl _) (Nat.le_refl _) (lo := w.heap.size + 1)).row)
        rw [hl] at HMK
        have HL : Hid (l.length = W * H) := by show _ = _; rw [hl, HMM.out]
        clear hb hl
        go_wp2_with fail
        refine HMK.out.mono ?_
        rintro e w4 ⟨a4, c4, rfl, hx4, ho4⟩
        obtain ⟨r1, r2, r3, HR⟩ := HS.out.store hx4 ho4 (.slice a4 H c4)
        clear hx4 ho4 HS HMK
        go_wp2
        exact bodyPost_ret (v := .agg #[.slice a4 H c4]) (by simp [results, Try.results99, go_sem, r3]) rfl ⟨a4, c4, l, HL.out, rfl, HR.out.1, HR.out.2.1.more (by omega), HR.out.2.2⟩
end Go.Proofs.Ytmmanehdmnkekaa
