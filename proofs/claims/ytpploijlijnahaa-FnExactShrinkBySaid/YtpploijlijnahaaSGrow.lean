/- The reference's GrowBy. -/
import Derived.Test.YtpploijlijnahaaPixKit
namespace Go.Proofs.Ytpploijlijnahaa
open Go.RowKit
set_option maxHeartbeats 400000 in
theorem l06Kind_any (k : Int) (w : World) : Calls Try.prog 182 #[.int .i64 k] w fun e w' => e = .returned (.bool (inB k 0 2)) ∧ w.Ext w' := by
  have HC := Lib.hid (fun w => l00In_any k 0 2 w _ rfl)
  generalize inB k 0 2 = t at HC ⊢
  go_enter Try.func182, Try.ntmps182
  go_wp2_with fail
  refine (HC.out _).mono ?_
  rintro e w1 ⟨rfl, hx⟩
  go_wp2
  go_ret
  exact ⟨rfl, hx⟩
set_option maxHeartbeats 400000 in
theorem l06By_any (k : Int) (w : World) : Calls Try.prog 138 #[.int .i64 k] w fun e w' => e = .returned (.bool (inB k 0 512)) ∧ w.Ext w' := by
  have HC := Lib.hid (fun w => l00In_any k 0 512 w _ rfl)
  generalize inB k 0 512 = t at HC ⊢
  go_enter Try.func138, Try.ntmps138
  go_wp2_with fail
  refine (HC.out _).mono ?_
  rintro e w1 ⟨rfl, hx⟩
  go_wp2
  go_ret
  exact ⟨rfl, hx⟩
set_option maxHeartbeats 400000 in
theorem l06Ask_any (p : Nat) (a : Option Addr) (c : Nat) (ss : List ByteArray) (k : Int) (w : World) (hb : PicBnd ss) (hp : w.cell? ⟨p, 0, none⟩ = some (.slice a ss.length c)) (hm : RowS w a ss) :
    Calls Try.prog 137 #[.pointer (some ⟨p, 0, none⟩), .int .i64 k] w fun e w' => e = .returned (.bool (picOk ss && inB k 0 2)) ∧ w.Ext w' := by
  have HIS := Lib.hid (l01Is_any p a c ss w hb.1 hb.2 hp hm _ rfl)
  have HK := Lib.hid (l06Kind_any k)
  generalize picOk ss = t at HIS ⊢
  generalize inB k 0 2 = u at HK ⊢
  clear hb hp hm
  go_enter Try.func137, Try.ntmps137
  go_wp2_with fail
  refine HIS.out.mono ?_
  rintro e w1 ⟨rfl, hx⟩
  cases t
  · go_wp2
    go_ret
    exact ⟨rfl, hx⟩
  · go_wp2_with fail
    refine (HK.out _).mono ?_
    rintro e w2 ⟨rfl, hx2⟩
    go_wp2
    go_ret
    exact ⟨rfl, hx.trans hx2⟩
def growB (kind d : Int) (W H : Nat) (l : List Bool) (x y : Nat) : Bool := decide (0 ≤ nearTo kind W l (x, y) (H * W)) && decide (nearTo kind W l (x, y) (H * W) ≤ d)
def growOk (ss : List ByteArray) (kind d : Int) : Bool := (picOk ss && inB kind 0 2) && inB d 0 512
set_option maxRecDepth 5000 in
set_option maxHeartbeats 1600000 in
theorem specGrowBy_any (a : Option Addr) (c : Nat) (ss : List ByteArray) (kind d : Int) (w : World) (hb : PicBnd ss) (hm : RowS w a ss) :
    Calls Try.prog 65 #[.agg #[.slice a ss.length c], .int .i64 kind, .int .i64 d] w (PicRet2 w (rowsIf ss (growOk ss kind d) (growB kind d (picW ss) ss.length (picL ss))) (growOk ss kind d)) := by
  obtain ⟨ib, hib, hb0, hb1, hb2⟩ := info_parts Try.infoBoolP
  obtain ⟨W0, hW0⟩ : ∃ W0, W0 = (w.alloc (.cells #[.slice a ss.length c] 30)).alloc (.cells #[.slice none 0 0] 30) := ⟨_, rfl⟩
  have hx0 : w.Ext W0 := by rw [hW0]; repeat (first | exact World.Ext.refl _ | exact ⟨_, rfl⟩ | assumption | refine World.Ext.over ?_ _ | refine World.Ext.drewN ?_ _ | refine World.Ext.drew ?_ | refine World.Ext.alloc ?_ _ | refine World.Ext.setCell ?_ (by simp) _)
  have hc0 : W0.cell? ⟨w.heap.size, 0, none⟩ = some (.slice a ss.length c) := by rw [hW0]; simp [go_sem]
  have hr0 : One W0 (w.heap.size + 1) 30 (.slice none 0 0) := by rw [hW0]; exact One.new _ _ _ _ (by simp)
  have HASK : Hid (∀ w', W0.Ext w' → Calls Try.prog 137 #[.pointer (some ⟨w.heap.size, 0, none⟩), .int .i64 kind] w' fun e w'' => e = .returned (.bool (picOk ss && inB kind 0 2)) ∧ w'.Ext w'') := fun w' hx => l06Ask_any _ a c ss kind w' hb (hx.cell hc0) (hm.ext (hx0.trans hx))
  have HBY := Lib.hid (l06By_any d)
  cases h1 : growOk ss kind d
  · show Calls _ _ _ _ (PicRet2 w [] false)
    unfold growOk at h1
    have HR0 := Lib.hid hr0
    have HX0 := Lib.hid hx0
    have HH1 := Lib.hid h1
    clear hm hb hc0 hr0 hx0 h1
    cases hq : (picOk ss && inB kind 0 2)
    · rw [hq] at HASK
      clear hq HH1 HBY
      go_enter Try.func65, Try.ntmps65
      go_wp2_with fail
      rw [← hW0]
      refine (HASK.out _ (.refl _)).mono ?_
      rintro e w1 ⟨rfl, hx1⟩
      obtain ⟨r1, r2, r3, HR⟩ := Res.store (f := Value.string) (d := ByteArray.empty) (a := none) (xs := []) (lo := w.heap.size + 2) (.slice none 0 0) (HX0.out.trans hx1) (by omega) (HR0.out.ext hx1) (by omega) (OwnOf.nil _ _)
      clear hx1 hW0
      go_wp2
      exact bodyPost_ret (v := .tuple #[.agg #[.slice none 0 0], .bool false]) (by simp [results, Try.results65, go_sem, r3]) rfl ⟨none, 0, rfl, HR.out.1, OwnOf.nil _ _⟩
    · have hd := HH1.out
      rw [hq, Bool.true_and] at hd
      rw [hq] at HASK
      rw [hd] at HBY
      clear hq HH1 hd
      go_enter Try.func65, Try.ntmps65
      go_wp2_with fail
      rw [← hW0]
      refine (HASK.out _ (.refl _)).mono ?_
      rintro e w1 ⟨rfl, hx1⟩
      go_wp2_with fail
      refine (HBY.out _).mono ?_
      rintro e w2 ⟨rfl, hx2⟩
      obtain ⟨r1, r2, r3, HR⟩ := Res.store (f := Value.string) (d := ByteArray.empty) (a := none) (xs := []) (lo := w.heap.size + 2) (.slice none 0 0) (HX0.out.trans (hx1.trans hx2)) (by omega) (HR0.out.ext (hx1.trans hx2)) (by omega) (OwnOf.nil _ _)
      clear hx1 hx2 hW0
      go_wp2
      exact bodyPost_ret (v := .tuple #[.agg #[.slice none 0 0], .bool false]) (by simp [results, Try.results65, go_sem, r3]) rfl ⟨none, 0, rfl, HR.out.1, OwnOf.nil _ _⟩
  · show Calls _ _ _ _ (PicRet2 w (picRows (picW ss) ss.length (mkl (picW ss) ss.length (growB kind d (picW ss) ss.length (picL ss)))) true)
    unfold growOk at h1
    rw [Bool.and_eq_true, Bool.and_eq_true] at h1
    obtain ⟨⟨hok, hk⟩, hd⟩ := h1
    rw [hok, hk] at HASK
    rw [hd] at HBY
    obtain ⟨q1, q2, q3, q4, he, _⟩ := picOk_spec hok
    have HWS : Hid (∀ w', W0.Ext w' → Calls Try.prog 87 #[.pointer (some ⟨w.heap.size, 0, none⟩)] w' fun e w'' => e = .returned (.int .i64 (picW ss)) ∧ w'.Ext w'') := fun w' hx => l01Width_any _ a c ss w' he.1 (by omega) (by omega) (hx.cell hc0) (RowOf.ext hm (hx0.trans hx))
    have HHS : Hid (∀ w', W0.Ext w' → Calls Try.prog 86 #[.pointer (some ⟨w.heap.size, 0, none⟩)] w' fun e w'' => e = .returned (.int .i64 ss.length) ∧ w'.Ext w'') := fun w' hx => l01Height_any _ a c ss.length w' (by omega) (hx.cell hc0)
    have HNE : Hid (∀ w', W0.Ext w' → ∀ x y : Nat, x < picW ss → y < ss.length → Calls Try.prog 139 #[.pointer (some ⟨w.heap.size, 0, none⟩), .int .i64 kind, .int .i64 x, .int .i64 y] w' (NearRet w' (nearTo kind (picW ss) (picL ss) (x, y) (ss.length * picW ss)))) := fun w' hx x y h1 h2 => l06Nearest_any _ kind x y a c ss w' he (by omega) (by omega) (hx.cell hc0) (RowOf.ext hm (hx0.trans hx)) (by omega) (by omega)
    have HLEN : Hid ((mkl (picW ss) ss.length (growB kind d (picW ss) ss.length (picL ss))).length = ss.length * picW ss) := mkl_len _ _ _
    have HAT : Hid (∀ x y, x < picW ss → y < ss.length → (mkl (picW ss) ss.length (growB kind d (picW ss) ss.length (picL ss))).getD (y * picW ss + x) false = (decide (0 ≤ nearTo kind (picW ss) (picL ss) (x, y) (ss.length * picW ss)) && decide (nearTo kind (picW ss) (picL ss) (x, y) (ss.length * picW ss) ≤ d))) := fun x y hx hy => mkl_at _ _ _ _ _ hx hy
    have hsum : ss.length * picW ss ≤ 4096 := Nat.mul_le_mul (by omega : _ ≤ 64) (by omega : _ ≤ 64)
    have HSUM := Lib.hid hsum
    have hW1 : 1 ≤ picW ss := q3
    have hW2 : picW ss ≤ 64 := by omega
    have hH2 : ss.length ≤ 64 := by omega
    have HR0 := Lib.hid hr0
    have HRL : Hid ((picRows (picW ss) ss.length (mkl (picW ss) ss.length (growB kind d (picW ss) ss.length (picL ss)))).length = ss.length) := picRows_len _ _ _
    clear hm hb hc0 hr0 hok hk hd q1 q2 q3 q4 he hsum
    generalize mkl (picW ss) ss.length (growB kind d (picW ss) ss.length (picL ss)) = L at *
    generalize picL ss = l at *
    generalize picW ss = W at *
    generalize ss.length = H at *
    go_enter Try.func65, Try.ntmps65
    go_wp2_with fail
    rw [← hW0]
    refine (HASK.out _ (.refl _)).mono ?_
    rintro e w1 ⟨rfl, hx1⟩
    go_wp2_with fail
    refine (HBY.out _).mono ?_
    rintro e w2 ⟨rfl, hx2⟩
    have hx12 := hx1.trans hx2
    have HST : Hid (PixSt W0 (w.heap.size + 1) 30 (w2.alloc (.cells #[] 4))) := ⟨hx12.alloc _, (HR0.out.ext hx12).ext ((World.Ext.refl _).alloc _)⟩
    have HGR0 : Hid (GrowOf Value.bool W0.heap.size 4 (w2.alloc (.cells #[] 4)) (.slice (some ⟨w2.heap.size, 0, none⟩) 0 0) (L.take 0)) := GrowOf.empty _ hx12.size
    clear hx1 hx2 hx12 hW0
    go_wp2
    generalize w2.alloc (.cells #[] 4) = W2 at HST HGR0 ⊢
    go_loopw [8, 9, 10] (fun v i _ wr => ∃ y : Nat, y ≤ H ∧ i = .int .i64 y ∧ Hid (PixSt W0 (w.heap.size + 1) 30 wr) ∧ Hid (GrowOf Value.bool W0.heap.size 4 wr v (L.take (y * W)))) (fun _ i _ _ => H - (intOf i).toNat)
    case atStart => exact ⟨0, Nat.zero_le _, rfl, HST, by rw [Nat.zero_mul]; exact HGR0⟩
    case round =>
      obtain ⟨y, hy, rfl, HS, HG⟩ := hrel
      clear HST HGR0
      obtain ⟨wo, rfl⟩ : ∃ wo : World, wo = wr := ⟨_, rfl⟩
      obtain ⟨lst, rfl⟩ : ∃ lst : Value, lst = u8 := ⟨_, rfl⟩
      by_cases hlty : y < H
      · have hlty' : (y : Int) < (H : Int) := by omega
        go_wp2_with fail
        refine (HHS.out wo HS.out.x).mono ?_
        rintro e w1 ⟨rfl, hx1⟩
        have HS1 := Lib.hid (HS.out.ext hx1)
        have HG1 := Lib.hid (HG.out.ext hx1)
        clear hx1 HS HG
        go_wp2
        go_loopw [8, 10] (fun v i wr => ∃ x : Nat, x ≤ W ∧ i = .int .i64 x ∧ Hid (PixSt W0 (w.heap.size + 1) 30 wr) ∧ Hid (GrowOf Value.bool W0.heap.size 4 wr v (L.take (y * W + x)))) (fun _ i _ => W - (intOf i).toNat)
        case atStart => exact ⟨0, Nat.zero_le _, rfl, HS1, HG1⟩
        case round =>
          obtain ⟨x, hx, rfl, HS, HG⟩ := hrel
          clear HS1 HG1
          by_cases hltx : x < W
          · have hltx' : (x : Int) < (W : Int) := by omega
            go_wp2_with fail
            refine (HWS.out _ HS.out.x).mono ?_
            rintro e w2 ⟨rfl, hx2⟩
            have HS2 := Lib.hid (HS.out.ext hx2)
            have HG2 := Lib.hid (HG.out.ext hx2)
            clear hx2 HS HG
            go_wp2_with fail
            refine (HNE.out _ HS2.out.x x y hltx hlty).mono ?_
            rintro e w3 ⟨bx, by', rfl, hx3⟩
            have HS3 := Lib.hid ((HS2.out.ext hx3).ext ((World.Ext.refl _).alloc (.cells #[.int .i64 bx, .int .i64 by'] 52)))
            have HG3 := Lib.hid ((HG2.out.ext hx3).ext ((World.Ext.refl _).alloc (.cells #[.int .i64 bx, .int .i64 by'] 52)))
            clear hx3 HS2 HG2
            obtain ⟨m, hmm⟩ : ∃ m, m = nearTo kind W l (↑x, ↑y) (H * W) := ⟨_, rfl⟩
            have HM := Lib.hid hmm
            rw [← hmm]
            clear hmm
            by_cases h0 : 0 ≤ m
            · have h0' : decide (0 ≤ m) = true := by simpa using h0
              by_cases h1 : m ≤ d
              · have HV : Hid ((decide (0 ≤ nearTo kind W l (↑x, ↑y) (H * W)) && decide (nearTo kind W l (↑x, ↑y) (H * W) ≤ d)) = true) := by show _ = _; rw [← HM.out]; simp [h0, h1]
                have hk : y * W + x < L.length := by
                  rw [HLEN.out]
                  have := Nat.mul_le_mul_right W hlty
                  rw [Nat.succ_mul] at this
                  omega
                have hlen : (L.take (y * W + x)).length = y * W + x := by simp; omega
                have hkl : y * W + x < 4096 := by have h1 := HSUM.out; have h2 := HLEN.out; omega
                have hsucc := take_next hk
                rw [HAT.out x y hltx hlty] at hsucc
                rw [HV.out] at hsucc
                have hown := HG3.out
                unfold GrowOf at hown
                rw [hlen] at hown
                have hnext : ∀ (o' : Obj) (v' : Value) (w1 : World), ((w3.alloc (.cells #[.int .i64 bx, .int .i64 by'] 52)).alloc o').grownBy w1 u8.ownBlock → w1.ownsRow W0.heap.size 4 1 v' (y * W + x + 1) ((L.take (y * W + x)).map Value.bool ++ [Value.bool (true)]) →
                    Hid (PixSt W0 (w.heap.size + 1) 30 w1) ∧ Hid (GrowOf Value.bool W0.heap.size 4 w1 v' (L.take (y * W + (x + 1)))) := fun o' v' w1 hgrow hown' => by
                  refine ⟨HS3.out.push HG3.out (by decide) hgrow, ?_⟩
                  show GrowOf _ _ _ _ _ _
                  rw [← Nat.add_assoc, hsucc]
                  exact GrowOf.push (by rw [hlen]; exact hown')
                have HNEXT := Lib.hid hnext
                have HLE : ∀ o' : Obj, W0.heap.size ≤ ((w3.alloc (.cells #[.int .i64 bx, .int .i64 by'] 52)).alloc o').heap.size := fun o' => (HS3.out.x.alloc o').size
                have HB1 : Hid (y * W + x + 1 ≤ maxLen) := by show _ ≤ _; unfold maxLen; omega
                have HB2 : Hid ((y * W + x + 1) * 1 ≤ 140737488355328) := by show _ ≤ _; omega
                clear hnext hlen hsucc hk HS3 HG3
                generalize hkk : y * W + x = kk at *
                clear hkk
                go_wp2_with ((at_builtin; refine wpList_append_own _ rfl _ _ 101 rfl W0.heap.size 4 ib (.bool false) 1 1 Try.underlying101 hib hb0 hb1 hb2 rfl (by decide) _ _ _ rfl (hown.alloc _) ⟨w3.heap.size + 1, 0, none⟩ 1 1 [.bool (true)] rfl rfl (cell_one_at (by simp)) (by simp [Value.oneCell']) HB1.out HB2.out (HLE _) (fun v' w1 hown' hgrow _ => ?_)); obtain ⟨HS4, HG4⟩ := HNEXT.out _ _ _ hgrow hown'; clear hgrow hown' hown)
                go_roundw
                case rel => exact ⟨x + 1, by omega, by go_num, HS4, HG4⟩
                case measure => simp [intOf]; omega
              · have HV : Hid ((decide (0 ≤ nearTo kind W l (↑x, ↑y) (H * W)) && decide (nearTo kind W l (↑x, ↑y) (H * W) ≤ d)) = false) := by show _ = _; rw [← HM.out]; simp [h1]
                have h1' : decide (m ≤ d) = false := by simpa using h1
                have hk : y * W + x < L.length := by
                  rw [HLEN.out]
                  have := Nat.mul_le_mul_right W hlty
                  rw [Nat.succ_mul] at this
                  omega
                have hlen : (L.take (y * W + x)).length = y * W + x := by simp; omega
                have hkl : y * W + x < 4096 := by have h1 := HSUM.out; have h2 := HLEN.out; omega
                have hsucc := take_next hk
                rw [HAT.out x y hltx hlty] at hsucc
                rw [HV.out] at hsucc
                have hown := HG3.out
                unfold GrowOf at hown
                rw [hlen] at hown
                have hnext : ∀ (o' : Obj) (v' : Value) (w1 : World), ((w3.alloc (.cells #[.int .i64 bx, .int .i64 by'] 52)).alloc o').grownBy w1 u8.ownBlock → w1.ownsRow W0.heap.size 4 1 v' (y * W + x + 1) ((L.take (y * W + x)).map Value.bool ++ [Value.bool (false)]) →
                    Hid (PixSt W0 (w.heap.size + 1) 30 w1) ∧ Hid (GrowOf Value.bool W0.heap.size 4 w1 v' (L.take (y * W + (x + 1)))) := fun o' v' w1 hgrow hown' => by
                  refine ⟨HS3.out.push HG3.out (by decide) hgrow, ?_⟩
                  show GrowOf _ _ _ _ _ _
                  rw [← Nat.add_assoc, hsucc]
                  exact GrowOf.push (by rw [hlen]; exact hown')
                have HNEXT := Lib.hid hnext
                have HLE : ∀ o' : Obj, W0.heap.size ≤ ((w3.alloc (.cells #[.int .i64 bx, .int .i64 by'] 52)).alloc o').heap.size := fun o' => (HS3.out.x.alloc o').size
                have HB1 : Hid (y * W + x + 1 ≤ maxLen) := by show _ ≤ _; unfold maxLen; omega
                have HB2 : Hid ((y * W + x + 1) * 1 ≤ 140737488355328) := by show _ ≤ _; omega
                clear hnext hlen hsucc hk HS3 HG3
                generalize hkk : y * W + x = kk at *
                clear hkk
                go_wp2_with ((at_builtin; refine wpList_append_own _ rfl _ _ 101 rfl W0.heap.size 4 ib (.bool false) 1 1 Try.underlying101 hib hb0 hb1 hb2 rfl (by decide) _ _ _ rfl (hown.alloc _) ⟨w3.heap.size + 1, 0, none⟩ 1 1 [.bool (false)] rfl rfl (cell_one_at (by simp)) (by simp [Value.oneCell']) HB1.out HB2.out (HLE _) (fun v' w1 hown' hgrow _ => ?_)); obtain ⟨HS4, HG4⟩ := HNEXT.out _ _ _ hgrow hown'; clear hgrow hown' hown)
                go_roundw
                case rel => exact ⟨x + 1, by omega, by go_num, HS4, HG4⟩
                case measure => simp [intOf]; omega
            · have HV : Hid ((decide (0 ≤ nearTo kind W l (↑x, ↑y) (H * W)) && decide (nearTo kind W l (↑x, ↑y) (H * W) ≤ d)) = false) := by show _ = _; rw [← HM.out]; simp [h0]
              have h1' : m < 0 := by omega
              have h0' : decide (0 ≤ m) = false := by simpa using h0
              have hk : y * W + x < L.length := by
                rw [HLEN.out]
                have := Nat.mul_le_mul_right W hlty
                rw [Nat.succ_mul] at this
                omega
              have hlen : (L.take (y * W + x)).length = y * W + x := by simp; omega
              have hkl : y * W + x < 4096 := by have h1 := HSUM.out; have h2 := HLEN.out; omega
              have hsucc := take_next hk
              rw [HAT.out x y hltx hlty] at hsucc
              rw [HV.out] at hsucc
              have hown := HG3.out
              unfold GrowOf at hown
              rw [hlen] at hown
              have hnext : ∀ (o' : Obj) (v' : Value) (w1 : World), ((w3.alloc (.cells #[.int .i64 bx, .int .i64 by'] 52)).alloc o').grownBy w1 u8.ownBlock → w1.ownsRow W0.heap.size 4 1 v' (y * W + x + 1) ((L.take (y * W + x)).map Value.bool ++ [Value.bool (false)]) →
                  Hid (PixSt W0 (w.heap.size + 1) 30 w1) ∧ Hid (GrowOf Value.bool W0.heap.size 4 w1 v' (L.take (y * W + (x + 1)))) := fun o' v' w1 hgrow hown' => by
                refine ⟨HS3.out.push HG3.out (by decide) hgrow, ?_⟩
                show GrowOf _ _ _ _ _ _
                rw [← Nat.add_assoc, hsucc]
                exact GrowOf.push (by rw [hlen]; exact hown')
              have HNEXT := Lib.hid hnext
              have HLE : ∀ o' : Obj, W0.heap.size ≤ ((w3.alloc (.cells #[.int .i64 bx, .int .i64 by'] 52)).alloc o').heap.size := fun o' => (HS3.out.x.alloc o').size
              have HB1 : Hid (y * W + x + 1 ≤ maxLen) := by show _ ≤ _; unfold maxLen; omega
              have HB2 : Hid ((y * W + x + 1) * 1 ≤ 140737488355328) := by show _ ≤ _; omega
              clear hnext hlen hsucc hk HS3 HG3
              generalize hkk : y * W + x = kk at *
              clear hkk
              go_wp2_with ((at_builtin; refine wpList_append_own _ rfl _ _ 101 rfl W0.heap.size 4 ib (.bool false) 1 1 Try.underlying101 hib hb0 hb1 hb2 rfl (by decide) _ _ _ rfl (hown.alloc _) ⟨w3.heap.size + 1, 0, none⟩ 1 1 [.bool (false)] rfl rfl (cell_one_at (by simp)) (by simp [Value.oneCell']) HB1.out HB2.out (HLE _) (fun v' w1 hown' hgrow _ => ?_)); obtain ⟨HS4, HG4⟩ := HNEXT.out _ _ _ hgrow hown'; clear hgrow hown' hown)
              go_roundw
              case rel => exact ⟨x + 1, by omega, by go_num, HS4, HG4⟩
              case measure => simp [intOf]; omega
          · have : x = W := by omega
            subst this
            have HG5 : Hid (GrowOf Value.bool W0.heap.size 4 wr u8 (L.take ((y + 1) * x))) := by show GrowOf _ _ _ _ _ _; rw [Nat.succ_mul]; exact HG.out
            go_wp2_with fail
            refine (HWS.out _ HS.out.x).mono ?_
            rintro e w2 ⟨rfl, hx2⟩
            have HS2 := Lib.hid (HS.out.ext hx2)
            have HG2 := Lib.hid (HG5.out.ext hx2)
            clear hx2 HS HG HG5
            go_wp2
            go_roundw
            case rel => exact ⟨y + 1, by omega, by go_num, HS2, HG2⟩
            case measure => simp [intOf]; omega
      · have : y = H := by omega
        subst this
        go_wp2_with fail
        refine (HHS.out wo HS.out.x).mono ?_
        rintro e w1 ⟨rfl, hx1⟩
        have HS1 := Lib.hid (HS.out.ext hx1)
        have hg1 := HG.out.ext hx1
        rw [← HLEN.out, List.take_length] at hg1
        obtain ⟨a2, c2, rfl, _⟩ := hg1.form
        have HB2 := Lib.hid (hg1.own false).row
        clear hx1 HS HG hg1
        go_wp2_with fail
        refine (HWS.out _ HS1.out.x).mono ?_
        rintro e w2 ⟨rfl, hx2⟩
        have HS2 := Lib.hid (HS1.out.ext hx2)
        go_wp2_with fail
        refine (l01Make_any _ _ _ y L _ hW1 hW2 hH2 (by rw [HLEN.out, Nat.mul_comm]) (RowOf.ext HB2.out hx2)).mono ?_
        rintro e w3 ⟨a3, c3, rfl, hx3, ho3⟩
        obtain ⟨r1, r2, r3, HR⟩ := Res.store (.slice a3 y c3) (hx0.trans (HS2.out.x.trans hx3)) (by omega) (HS2.out.one.ext hx3) HS2.out.one.lt ho3
        clear hx3 hx2 ho3 HS1 HS2 HB2
        go_wp2
        exact bodyPost_ret (v := .tuple #[.agg #[.slice a3 y c3], .bool true]) (by simp [results, Try.results65, go_sem, r3]) rfl ⟨a3, c3, by rw [HRL.out], HR.out.1, HR.out.2⟩
end Go.Proofs.Ytpploijlijnahaa
