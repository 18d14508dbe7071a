/- HitOrMiss: the reference's and the program's. -/
import Derived.Test.YtpploijlijnahaaMorF
import Derived.Test.YtpploijlijnahaaPixKit
namespace Go.Proofs.Ytpploijlijnahaa
open Go.RowKit
def homOk (ss : List ByteArray) (os ms : List (Int × Int)) : Bool := (picOk ss && elemOk os) && elemOk ms
theorem homB_take {W H : Nat} {l : List Bool} {ms : List (Int × Int)} {x y : Int} {k : Nat} (hk : k < ms.length) : (ms.take (k + 1)).all (fun o => npxl W H l (x + o.1) (y + o.2)) = ((ms.take k).all (fun o => npxl W H l (x + o.1) (y + o.2)) && npxl W H l (x + (ms.getD k (0, 0)).1) (y + (ms.getD k (0, 0)).2)) := by
  rw [List.take_succ_eq_append_getElem hk, List.all_append, List.getD_eq_getElem?_getD, List.getElem?_eq_getElem hk]
  simp
theorem homB_stop {W H : Nat} {l : List Bool} {os ms : List (Int × Int)} {x y : Int} {k : Nat} (h : (fitsB W H l os x y && (ms.take k).all fun o => npxl W H l (x + o.1) (y + o.2)) = false) : homB W H l os ms x y = false := by
  unfold homB
  have e : ms.all (fun o => npxl W H l (x + o.1) (y + o.2)) = ((ms.take k).all (fun o => npxl W H l (x + o.1) (y + o.2)) && (ms.drop k).all fun o => npxl W H l (x + o.1) (y + o.2)) := by
    rw [← List.all_append, List.take_append_drop]
  rw [e, ← Bool.and_assoc, h, Bool.false_and]
set_option maxRecDepth 5000 in
set_option maxHeartbeats 3200000 in
theorem specHitOrMiss_any (a : Option Addr) (c : Nat) (ss : List ByteArray) (ae : Option Addr) (ce : Nat) (os : List (Int × Int)) (af : Option Addr) (cf : Nat) (ms : List (Int × Int)) (w : World) (hb : PicBnd ss) (hbe : PairBnd os) (hbf : PairBnd ms) (hm : RowS w a ss) (hme : RowP w ae os) (hmf : RowP w af ms) :
    Calls Try.prog 32 #[.agg #[.slice a ss.length c], .agg #[.slice ae os.length ce], .agg #[.slice af ms.length cf]] w (PicRet2 w (rowsIf ss (homOk ss os ms) fun x y => homB (picW ss) ss.length (picL ss) os ms x y) (homOk ss os ms)) := by
  obtain ⟨ib, hib, hb0, hb1, hb2⟩ := info_parts Try.infoBoolP
  obtain ⟨W0, hW0⟩ : ∃ W0, W0 = (((w.alloc (.cells #[.slice a ss.length c] 30)).alloc (.cells #[.slice ae os.length ce] 36)).alloc (.cells #[.slice af ms.length cf] 36)).alloc (.cells #[.slice none 0 0] 30) := ⟨_, rfl⟩
  have hx0 : w.Ext W0 := by rw [hW0]; repeat (first | exact World.Ext.refl _ | exact ⟨_, rfl⟩ | assumption | refine World.Ext.over ?_ _ | refine World.Ext.drewN ?_ _ | refine World.Ext.drew ?_ | refine World.Ext.alloc ?_ _ | refine World.Ext.setCell ?_ (by simp) _)
  have hc0 : W0.cell? ⟨w.heap.size, 0, none⟩ = some (.slice a ss.length c) := by rw [hW0]; simp [go_sem]
  have hc1 : W0.cell? ⟨w.heap.size + 1, 0, none⟩ = some (.slice ae os.length ce) := by rw [hW0]; simp [go_sem]
  have hc2 : W0.cell? ⟨w.heap.size + 1 + 1, 0, none⟩ = some (.slice af ms.length cf) := by rw [hW0]; simp [go_sem]
  have hr0 : One W0 (w.heap.size + 1 + 1 + 1) 30 (.slice none 0 0) := by rw [hW0]; exact One.new _ _ _ _ (by simp)
  have HIS : Hid (∀ w', W0.Ext w' → Calls Try.prog 84 #[.pointer (some ⟨w.heap.size, 0, none⟩)] w' fun e w'' => e = .returned (.bool (picOk ss)) ∧ w'.Ext w'') := fun w' hx => l01Is_any _ a c ss w' hb.1 hb.2 (hx.cell hc0) (hm.ext (hx0.trans hx)) _ rfl
  have HE1 : Hid (∀ w', W0.Ext w' → Calls Try.prog 85 #[.pointer (some ⟨w.heap.size + 1, 0, none⟩)] w' fun e w'' => e = .returned (.bool (elemOk os)) ∧ w'.Ext w'') := fun w' hx => l03Is_any _ ae ce os w' hbe (hx.cell hc1) (hme.ext (hx0.trans hx)) _ rfl
  have HE2 : Hid (∀ w', W0.Ext w' → Calls Try.prog 85 #[.pointer (some ⟨w.heap.size + 1 + 1, 0, none⟩)] w' fun e w'' => e = .returned (.bool (elemOk ms)) ∧ w'.Ext w'') := fun w' hx => l03Is_any _ af cf ms w' hbf (hx.cell hc2) (hmf.ext (hx0.trans hx)) _ rfl
  cases h1 : homOk ss os ms
  · show Calls _ _ _ _ (PicRet2 w [] false)
    unfold homOk at h1
    have HR0 := Lib.hid hr0
    have HX0 := Lib.hid hx0
    have HH1 := Lib.hid h1
    clear hm hb hc0 hr0 hx0 h1 hc1 hc2 hme hmf hbe hbf
    cases k1 : picOk ss
    · rw [k1] at HIS
      clear k1 HH1
      go_enter Try.func32, Try.ntmps32
      go_wp2_with fail
      rw [← hW0]
      refine (HIS.out _ (.refl _)).mono ?_
      rintro e w1 ⟨rfl, hx1⟩
      obtain ⟨r1, r2, r3, HR⟩ := Res.store (f := Value.string) (d := ByteArray.empty) (a := none) (xs := []) (lo := w.heap.size + 4) (.slice none 0 0) (HX0.out.trans hx1) (by omega) (HR0.out.ext hx1) (by omega) (OwnOf.nil _ _)
      clear hx1 hW0
      go_wp2
      exact bodyPost_ret (v := .tuple #[.agg #[.slice none 0 0], .bool false]) (by simp [results, Try.results32, go_sem, r3]) rfl ⟨none, 0, rfl, HR.out.1, OwnOf.nil _ _⟩
    · rw [k1] at HIS
      cases k2 : elemOk os
      · rw [k2] at HE1
        clear k1 k2 HH1
        go_enter Try.func32, Try.ntmps32
        go_wp2_with fail
        rw [← hW0]
        refine (HIS.out _ (.refl _)).mono ?_
        rintro e w1 ⟨rfl, hx1⟩
        go_wp2_with fail
        refine (HE1.out _ hx1).mono ?_
        rintro e w2 ⟨rfl, hx2⟩
        obtain ⟨r1, r2, r3, HR⟩ := Res.store (f := Value.string) (d := ByteArray.empty) (a := none) (xs := []) (lo := w.heap.size + 4) (.slice none 0 0) (HX0.out.trans (hx1.trans hx2)) (by omega) (HR0.out.ext (hx1.trans hx2)) (by omega) (OwnOf.nil _ _)
        clear hx1 hx2 hW0
        go_wp2
        exact bodyPost_ret (v := .tuple #[.agg #[.slice none 0 0], .bool false]) (by simp [results, Try.results32, go_sem, r3]) rfl ⟨none, 0, rfl, HR.out.1, OwnOf.nil _ _⟩
      · rw [k2] at HE1
        have k3 : elemOk ms = false := by have := HH1.out; rw [k1, k2] at this; simpa using this
        rw [k3] at HE2
        clear k1 k2 HH1 k3
        go_enter Try.func32, Try.ntmps32
        go_wp2_with fail
        rw [← hW0]
        refine (HIS.out _ (.refl _)).mono ?_
        rintro e w1 ⟨rfl, hx1⟩
        go_wp2_with fail
        refine (HE1.out _ hx1).mono ?_
        rintro e w2 ⟨rfl, hx2⟩
        go_wp2_with fail
        refine (HE2.out _ (hx1.trans hx2)).mono ?_
        rintro e w3 ⟨rfl, hx3⟩
        obtain ⟨r1, r2, r3, HR⟩ := Res.store (f := Value.string) (d := ByteArray.empty) (a := none) (xs := []) (lo := w.heap.size + 4) (.slice none 0 0) (HX0.out.trans ((hx1.trans hx2).trans hx3)) (by omega) (HR0.out.ext ((hx1.trans hx2).trans hx3)) (by omega) (OwnOf.nil _ _)
        clear hx1 hx2 hx3 hW0
        go_wp2
        exact bodyPost_ret (v := .tuple #[.agg #[.slice none 0 0], .bool false]) (by simp [results, Try.results32, go_sem, r3]) rfl ⟨none, 0, rfl, HR.out.1, OwnOf.nil _ _⟩
  · show Calls _ _ _ _ (PicRet2 w (picRows (picW ss) ss.length (mkl (picW ss) ss.length fun x y => homB (picW ss) ss.length (picL ss) os ms x y)) true)
    unfold homOk at h1
    rw [Bool.and_eq_true, Bool.and_eq_true] at h1
    obtain ⟨⟨hok, hk⟩, hd⟩ := h1
    rw [hok] at HIS
    rw [hk] at HE1
    rw [hd] at HE2
    obtain ⟨q1, q2, q3, q4, he, _⟩ := picOk_spec hok
    obtain ⟨_, e2, e3⟩ := elemOk_spec hk
    obtain ⟨_, f2, f3⟩ := elemOk_spec hd
    have HWS : Hid (∀ w', W0.Ext w' → Calls Try.prog 87 #[.pointer (some ⟨w.heap.size, 0, none⟩)] w' fun e w'' => e = .returned (.int .i64 (picW ss)) ∧ w'.Ext w'') := fun w' hx => l01Width_any _ a c ss w' he.1 (by omega) (by omega) (hx.cell hc0) (RowOf.ext hm (hx0.trans hx))
    have HHS : Hid (∀ w', W0.Ext w' → Calls Try.prog 86 #[.pointer (some ⟨w.heap.size, 0, none⟩)] w' fun e w'' => e = .returned (.int .i64 ss.length) ∧ w'.Ext w'') := fun w' hx => l01Height_any _ a c ss.length w' (by omega) (hx.cell hc0)
    have HFI : Hid (∀ w', W0.Ext w' → ∀ x y : Nat, x < picW ss → y < ss.length → Calls Try.prog 88 #[.pointer (some ⟨w.heap.size, 0, none⟩), .pointer (some ⟨w.heap.size + 1, 0, none⟩), .int .i64 x, .int .i64 y] w' fun e w'' => e = .returned (.bool (fitsB (picW ss) ss.length (picL ss) os x y)) ∧ w'.Ext w'') := fun w' hx x y h1 h2 =>
      l03Fits_any _ _ a c ss ae ce os x y w' he (by omega) (by omega) (hx.cell hc0) (hm.ext (hx0.trans hx)) (hx.cell hc1) (hme.ext (hx0.trans hx)) hbe e3 (by omega) (by omega) _ rfl
    have HBL : Hid (∀ w', W0.Ext w' → ∀ x y : Int, Calls Try.prog 89 #[.pointer (some ⟨w.heap.size, 0, none⟩), .int .i64 x, .int .i64 y] w' fun e w'' => e = .returned (.bool (pxl (picW ss) ss.length (picL ss) x y)) ∧ w'.Ext w'') := fun w' hx x y => l01Black_any _ a c ss x y w' he (by omega) (by omega) (hx.cell hc0) (hm.ext (hx0.trans hx)) _ rfl
    have HMS : Hid (∀ w', W0.Ext w' → RowP w' af ms) := fun w' hx => hmf.ext (hx0.trans hx)
    have HC2 : Hid (∀ w', W0.Ext w' → w'.cell? ⟨w.heap.size + 1 + 1, 0, none⟩ = some (.slice af ms.length cf)) := fun w' hx => hx.cell hc2
    have HSM := Lib.hid f3
    have hml : ms.length ≤ 50 := f2
    have HLEN : Hid ((mkl (picW ss) ss.length fun x y => homB (picW ss) ss.length (picL ss) os ms x y).length = ss.length * picW ss) := mkl_len _ _ _
    have HAT : Hid (∀ x y, x < picW ss → y < ss.length → (mkl (picW ss) ss.length fun x y => homB (picW ss) ss.length (picL ss) os ms x y).getD (y * picW ss + x) false = homB (picW ss) ss.length (picL ss) os ms x y) := fun x y hx hy => mkl_at _ _ _ _ _ hx hy
    have hsum : ss.length * picW ss ≤ 4096 := Nat.mul_le_mul (by omega : _ ≤ 64) (by omega : _ ≤ 64)
    have HSUM := Lib.hid hsum
    have hW1 : 1 ≤ picW ss := q3
    have hW2 : picW ss ≤ 64 := by omega
    have hH2 : ss.length ≤ 64 := by omega
    have HR0 := Lib.hid hr0
    have HRL : Hid ((picRows (picW ss) ss.length (mkl (picW ss) ss.length fun x y => homB (picW ss) ss.length (picL ss) os ms x y)).length = ss.length) := picRows_len _ _ _
    have hl2 : W0.heap.size = w.heap.size + 4 := by rw [hW0]; simp
    clear hm hb hc0 hr0 hok hk hd q1 q2 q3 q4 he hsum hc1 hc2 hme hmf hbe hbf e2 e3 f2 f3
    generalize (mkl (picW ss) ss.length fun x y => homB (picW ss) ss.length (picL ss) os ms x y) = L at *
    generalize picL ss = l at *
    generalize picW ss = W at *
    generalize ss.length = H at *
    go_enter Try.func32, Try.ntmps32
    go_wp2_with fail
    rw [← hW0]
    refine (HIS.out _ (.refl _)).mono ?_
    rintro e w1 ⟨rfl, hx1⟩
    go_wp2_with fail
    refine (HE1.out _ hx1).mono ?_
    rintro e w2 ⟨rfl, hx2⟩
    go_wp2_with fail
    refine (HE2.out _ (hx1.trans hx2)).mono ?_
    rintro e w3 ⟨rfl, hx3⟩
    have hx12 := (hx1.trans hx2).trans hx3
    have HST : Hid (PixSt W0 (w.heap.size + 1 + 1 + 1) 30 (w3.alloc (.cells #[] 4))) := ⟨hx12.alloc _, (HR0.out.ext hx12).ext ((World.Ext.refl _).alloc _)⟩
    have HGR0 : Hid (GrowOf Value.bool W0.heap.size 4 (w3.alloc (.cells #[] 4)) (.slice (some ⟨w3.heap.size, 0, none⟩) 0 0) (L.take 0)) := GrowOf.empty _ hx12.size
    have HL2 := Lib.hid hl2
    clear hx1 hx2 hx12 hW0 hx3 HIS HE1 HE2 hl2
    go_wp2
    generalize w3.alloc (.cells #[] 4) = W2 at HST HGR0 ⊢
    go_loopw [8, 9, 10, 11, 12] (fun v i _ _ _ wr => ∃ y : Nat, y ≤ H ∧ i = .int .i64 y ∧ Hid (PixSt W0 (w.heap.size + 1 + 1 + 1) 30 wr) ∧ Hid (GrowOf Value.bool W0.heap.size 4 wr v (L.take (y * W)))) (fun _ i _ _ _ _ => H - (intOf i).toNat)
    case atStart => exact ⟨0, Nat.zero_le _, rfl, HST, by rw [Nat.zero_mul]; exact HGR0⟩
    case round =>
      obtain ⟨y, hy, rfl, HS, HG⟩ := hrel
      clear HST HGR0
      obtain ⟨wo, rfl⟩ : ∃ wo : World, wo = wr := ⟨_, rfl⟩
      obtain ⟨lst, rfl⟩ : ∃ lst : Value, lst = u8 := ⟨_, rfl⟩
      by_cases hlty : y < H
      · have hlty' : (y : Int) < (H : Int) := by omega
        go_wp2_with fail
        refine (HHS.out wo HS.out.x).mono ?_
        rintro e w1 ⟨rfl, hx1⟩
        have HS1 := Lib.hid (HS.out.ext hx1)
        have HG1 := Lib.hid (HG.out.ext hx1)
        clear hx1 HS HG
        go_wp2
        go_loopw [8, 10, 11, 12] (fun v i _ _ wr => ∃ x : Nat, x ≤ W ∧ i = .int .i64 x ∧ Hid (PixSt W0 (w.heap.size + 1 + 1 + 1) 30 wr) ∧ Hid (GrowOf Value.bool W0.heap.size 4 wr v (L.take (y * W + x)))) (fun _ i _ _ _ => W - (intOf i).toNat)
        case atStart => exact ⟨0, Nat.zero_le _, rfl, HS1, HG1⟩
        case round =>
          obtain ⟨x, hx, rfl, HS, HG⟩ := hrel
          clear HS1 HG1
          by_cases hltx : x < W
          · have hltx' : (x : Int) < (W : Int) := by omega
            go_wp2_with fail
            refine (HWS.out _ HS.out.x).mono ?_
            rintro e w2 ⟨rfl, hx2⟩
            have HS2 := Lib.hid (HS.out.ext hx2)
            have HG2 := Lib.hid (HG.out.ext hx2)
            clear hx2 HS HG
            go_wp2_with fail
            refine (HFI.out _ HS2.out.x x y hltx hlty).mono ?_
            rintro e w4 ⟨rfl, hx4⟩
            have HS4 := Lib.hid (HS2.out.ext hx4)
            have HG4 := Lib.hid (HG2.out.ext hx4)
            clear hx4 HS2 HG2
            have HF0 : Hid (fitsB W H l os x y = (fitsB W H l os x y && (ms.take 0).all fun o => npxl W H l (x + o.1) (y + o.2))) := by show _ = _; simp
            obtain ⟨f0, hf0⟩ : ∃ f0, f0 = fitsB W H l os x y := ⟨_, rfl⟩
            rw [← hf0]
            have HF1 : Hid (f0 = (fitsB W H l os x y && (ms.take 0).all fun o => npxl W H l (x + o.1) (y + o.2))) := by rw [hf0]; exact HF0.out
            clear hf0 HF0
            go_wp2
            go_loopw [11, 12] (fun f i wr => ∃ (t : Bool) (k : Nat), k ≤ ms.length ∧ i = .int .i64 k ∧ f = .bool t ∧ Hid (t = (fitsB W H l os x y && (ms.take k).all fun o => npxl W H l (x + o.1) (y + o.2))) ∧ Hid (w4.Ext wr)) (fun _ i _ => ms.length - (intOf i).toNat)
            case atStart => exact ⟨f0, 0, Nat.zero_le _, rfl, rfl, HF1, .refl _⟩
            case round =>
              obtain ⟨t, k, hk, rfl, rfl, HT, HX⟩ := hrel
              clear HF1
              have c2 := HC2.out _ (HS4.out.x.trans HX.out)
              by_cases hlt : k < ms.length
              · have hlt' : (k : Int) < (ms.length : Int) := by omega
                have hk0 : (0 : Int) ≤ (k : Int) := by omega
                cases t
                · have HV : Hid (homB W H l os ms x y = false) := homB_stop HT.out.symm
                  have HS3 := Lib.hid (HS4.out.ext HX.out)
                  have HG3 := Lib.hid (HG4.out.ext HX.out)
                  clear HT HX
                  have hk : y * W + x < L.length := by
                    rw [HLEN.out]
                    have := Nat.mul_le_mul_right W hlty
                    rw [Nat.succ_mul] at this
                    omega
                  have hlen : (L.take (y * W + x)).length = y * W + x := by simp; omega
                  have hkl : y * W + x < 4096 := by have h1 := HSUM.out; have h2 := HLEN.out; omega
                  have hsucc := take_next hk
                  rw [HAT.out x y hltx hlty] at hsucc
                  rw [HV.out] at hsucc
                  have hown := HG3.out
                  unfold GrowOf at hown
                  rw [hlen] at hown
                  have hnext : ∀ (o' : Obj) (v' : Value) (w1 : World), (wr.alloc o').grownBy w1 u8.ownBlock → w1.ownsRow W0.heap.size 4 1 v' (y * W + x + 1) ((L.take (y * W + x)).map Value.bool ++ [Value.bool (false)]) →
                      Hid (PixSt W0 (w.heap.size + 1 + 1 + 1) 30 w1) ∧ Hid (GrowOf Value.bool W0.heap.size 4 w1 v' (L.take (y * W + (x + 1)))) := fun o' v' w1 hgrow hown' => by
                    refine ⟨HS3.out.push HG3.out (by decide) hgrow, ?_⟩
                    show GrowOf _ _ _ _ _ _
                    rw [← Nat.add_assoc, hsucc]
                    exact GrowOf.push (by rw [hlen]; exact hown')
                  have HNEXT := Lib.hid hnext
                  have HLE : ∀ o' : Obj, W0.heap.size ≤ (wr.alloc o').heap.size := fun o' => (HS3.out.x.alloc o').size
                  have HB1 : Hid (y * W + x + 1 ≤ maxLen) := by show _ ≤ _; unfold maxLen; omega
                  have HB2 : Hid ((y * W + x + 1) * 1 ≤ 140737488355328) := by show _ ≤ _; omega
                  clear hnext hlen hsucc hk HS3 HG3
                  generalize hkk : y * W + x = kk at *
                  clear hkk
                  go_wp2_with ((at_builtin; refine wpList_append_own _ rfl _ _ 101 rfl W0.heap.size 4 ib (.bool false) 1 1 Try.underlying101 hib hb0 hb1 hb2 rfl (by decide) _ _ _ rfl (hown.alloc _) ⟨wr.heap.size, 0, none⟩ 1 1 [.bool (false)] rfl rfl (cell_one_at (by simp)) (by simp [Value.oneCell']) HB1.out HB2.out (HLE _) (fun v' w1 hown' hgrow _ => ?_)); obtain ⟨HS4, HG4⟩ := HNEXT.out _ _ _ hgrow hown'; clear hgrow hown' hown)
                  go_roundw
                  case rel => exact ⟨x + 1, by omega, by go_num, HS4, HG4⟩
                  case measure => simp [intOf]; omega
                · obtain ⟨b, o, rfl, hc1, hc2⟩ := (HMS.out _ (HS4.out.x.trans HX.out)).at hlt
                  obtain ⟨o1, o2, o3, o4⟩ := HSM.out k hlt
                  have HTK := Lib.hid (homB_take (W := W) (H := H) (l := l) (x := x) (y := y) hlt)
                  have lb := World.block_lt_of_cell? _ _ c2
                  have lb2 := World.block_lt_of_cell? _ _ hc1
                  have HBK := Lib.hid (fun w' hx => HBL.out w' hx (x + (ms.getD k (0, 0)).1) (y + (ms.getD k (0, 0)).2))
                  have HNX : Hid (∀ t', (!pxl W H l (x + (ms.getD k (0, 0)).1) (y + (ms.getD k (0, 0)).2)) = t' → t' = (fitsB W H l os x y && (ms.take (k + 1)).all fun o => npxl W H l (x + o.1) (y + o.2))) := fun t' ht => by
                    rw [HTK.out, ← Bool.and_assoc, ← HT.out, Bool.true_and]
                    exact ht.symm
                  generalize ms.getD k (0, 0) = q at hc1 hc2 HBK HNX o1 o2 o3 o4
                  obtain ⟨qx, qy⟩ := q
                  dsimp only at hc1 hc2 HBK HNX o1 o2 o3 o4
                  have hw1 : IntKind.i64.wrap ((x : Int) + qx) = (x : Int) + qx := IntWalk.i64_in _ (by omega)
                  have hw2 : IntKind.i64.wrap ((y : Int) + qy) = (y : Int) + qy := IntWalk.i64_in _ (by omega)
                  have HXX := Lib.hid (HS4.out.x.trans HX.out)
                  obtain ⟨pb, hpb⟩ : ∃ pb, pb = pxl W H l (↑x + qx) (↑y + qy) := ⟨_, rfl⟩
                  rw [← hpb] at HBK HNX
                  clear HTK HT hpb
                  go_wp2_with fail
                  refine wp_region_over_lit (by kernel_rfl) (by kernel_rfl) ?_; (repeat (go_big_quiet_step ((go_at_call 89; exact Calls.over_of (HBK.out _ (HXX.out.over _)))))); refine wpQuiet_nil ?_; rintro _ ⟨x1, rfl⟩
                  have HX3 := Lib.hid (HX.out.over x1)
                  clear hw1 hw2 hc1 hc2 HX HXX c2
                  go_wp2
                  go_roundw
                  case rel => exact ⟨!pb, k + 1, by omega, by go_num, rfl, HNX.out _ rfl, HX3⟩
                  case measure => simp [intOf]; omega
              · have : k = ms.length := by omega
                subst this
                have HV : Hid (homB W H l os ms x y = t) := by
                  have := HT.out
                  rw [List.take_length] at this
                  exact this.symm
                have HS3 := Lib.hid (HS4.out.ext HX.out)
                have HG3 := Lib.hid (HG4.out.ext HX.out)
                clear HT HX
                have hk : y * W + x < L.length := by
                  rw [HLEN.out]
                  have := Nat.mul_le_mul_right W hlty
                  rw [Nat.succ_mul] at this
                  omega
                have hlen : (L.take (y * W + x)).length = y * W + x := by simp; omega
                have hkl : y * W + x < 4096 := by have h1 := HSUM.out; have h2 := HLEN.out; omega
                have hsucc := take_next hk
                rw [HAT.out x y hltx hlty] at hsucc
                rw [HV.out] at hsucc
                have hown := HG3.out
                unfold GrowOf at hown
                rw [hlen] at hown
                have hnext : ∀ (o' : Obj) (v' : Value) (w1 : World), (wr.alloc o').grownBy w1 u8.ownBlock → w1.ownsRow W0.heap.size 4 1 v' (y * W + x + 1) ((L.take (y * W + x)).map Value.bool ++ [Value.bool (t)]) →
                    Hid (PixSt W0 (w.heap.size + 1 + 1 + 1) 30 w1) ∧ Hid (GrowOf Value.bool W0.heap.size 4 w1 v' (L.take (y * W + (x + 1)))) := fun o' v' w1 hgrow hown' => by
                  refine ⟨HS3.out.push HG3.out (by decide) hgrow, ?_⟩
                  show GrowOf _ _ _ _ _ _
                  rw [← Nat.add_assoc, hsucc]
                  exact GrowOf.push (by rw [hlen]; exact hown')
                have HNEXT := Lib.hid hnext
                have HLE : ∀ o' : Obj, W0.heap.size ≤ (wr.alloc o').heap.size := fun o' => (HS3.out.x.alloc o').size
                have HB1 : Hid (y * W + x + 1 ≤ maxLen) := by show _ ≤ _; unfold maxLen; omega
                have HB2 : Hid ((y * W + x + 1) * 1 ≤ 140737488355328) := by show _ ≤ _; omega
                clear hnext hlen hsucc hk HS3 HG3
                generalize hkk : y * W + x = kk at *
                clear hkk
                go_wp2_with ((at_builtin; refine wpList_append_own _ rfl _ _ 101 rfl W0.heap.size 4 ib (.bool false) 1 1 Try.underlying101 hib hb0 hb1 hb2 rfl (by decide) _ _ _ rfl (hown.alloc _) ⟨wr.heap.size, 0, none⟩ 1 1 [.bool (t)] rfl rfl (cell_one_at (by simp)) (by simp [Value.oneCell']) HB1.out HB2.out (HLE _) (fun v' w1 hown' hgrow _ => ?_)); obtain ⟨HS4, HG4⟩ := HNEXT.out _ _ _ hgrow hown'; clear hgrow hown' hown)
                go_roundw
                case rel => exact ⟨x + 1, by omega, by go_num, HS4, HG4⟩
                case measure => simp [intOf]; omega
          · have : x = W := by omega
            subst this
            have HG5 : Hid (GrowOf Value.bool W0.heap.size 4 wr u8 (L.take ((y + 1) * x))) := by show GrowOf _ _ _ _ _ _; rw [Nat.succ_mul]; exact HG.out
            go_wp2_with fail
            refine (HWS.out _ HS.out.x).mono ?_
            rintro e w2 ⟨rfl, hx2⟩
            have HS2 := Lib.hid (HS.out.ext hx2)
            have HG2 := Lib.hid (HG5.out.ext hx2)
            clear hx2 HS HG HG5
            go_wp2
            go_roundw
            case rel => exact ⟨y + 1, by omega, by go_num, HS2, HG2⟩
            case measure => simp [intOf]; omega
      · have : y = H := by omega
        subst this
        go_wp2_with fail
        refine (HHS.out wo HS.out.x).mono ?_
        rintro e w1 ⟨rfl, hx1⟩
        have HS1 := Lib.hid (HS.out.ext hx1)
        have hg1 := HG.out.ext hx1
        rw [← HLEN.out, List.take_length] at hg1
        obtain ⟨a2, c2, rfl, _⟩ := hg1.form
        have HB2 := Lib.hid (hg1.own false).row
        clear hx1 HS HG hg1
        go_wp2_with fail
        refine (HWS.out _ HS1.out.x).mono ?_
        rintro e w2 ⟨rfl, hx2⟩
        have HS2 := Lib.hid (HS1.out.ext hx2)
        go_wp2_with fail
        refine (l01Make_any _ _ _ y L _ hW1 hW2 hH2 (by rw [HLEN.out, Nat.mul_comm]) (RowOf.ext HB2.out hx2)).mono ?_
        rintro e w3 ⟨a3, c3, rfl, hx3, ho3⟩
        obtain ⟨r1, r2, r3, HR⟩ := Res.store (.slice a3 y c3) (hx0.trans (HS2.out.x.trans hx3)) (by omega) (HS2.out.one.ext hx3) HS2.out.one.lt ho3
        clear hx3 hx2 ho3 HS1 HS2 HB2
        go_wp2
        exact bodyPost_ret (v := .tuple #[.agg #[.slice a3 y c3], .bool true]) (by simp [results, Try.results32, go_sem, r3]) rfl ⟨a3, c3, by rw [HRL.out], HR.out.1, HR.out.2⟩
theorem enters_hom1 : Enters 91 := enters_of Try.func91 (by kernel_rfl) (by kernel_rfl)
theorem homOk_and (ss : List ByteArray) (os ms : List (Int × Int)) (h : elemOk ms = true) : homOk ss os ms = (elemOk os && (picOk ss && true)) := by unfold homOk; rw [h, Bool.and_true, Bool.and_true, Bool.and_comm]
set_option maxRecDepth 5000 in
set_option maxHeartbeats 1600000 in
theorem implHitOrMiss_any (a : Option Addr) (c : Nat) (ss : List ByteArray) (ae : Option Addr) (ce : Nat) (os : List (Int × Int)) (af : Option Addr) (cf : Nat) (ms : List (Int × Int)) (w : World) (hb : PicBnd ss) (hbe : PairBnd os) (hbf : PairBnd ms) (hm : RowS w a ss) (hme : RowP w ae os) (hmf : RowP w af ms) :
    Calls Try.prog 33 #[.agg #[.slice a ss.length c], .agg #[.slice ae os.length ce], .agg #[.slice af ms.length cf]] w (PicRet2 w (rowsIf ss (homOk ss os ms) fun x y => homB (picW ss) ss.length (picL ss) os ms x y) (homOk ss os ms)) := by
  obtain ⟨W0, hW0⟩ : ∃ W0, W0 = (((w.alloc (.cells #[.slice a ss.length c] 30)).alloc (.cells #[.slice ae os.length ce] 36)).alloc (.cells #[.slice af ms.length cf] 36)).alloc (.cells #[.slice none 0 0] 30) := ⟨_, rfl⟩
  have hx0 : w.Ext W0 := by rw [hW0]; repeat (first | exact World.Ext.refl _ | exact ⟨_, rfl⟩ | assumption | refine World.Ext.over ?_ _ | refine World.Ext.drewN ?_ _ | refine World.Ext.drew ?_ | refine World.Ext.alloc ?_ _ | refine World.Ext.setCell ?_ (by simp) _)
  have hc0 : W0.cell? ⟨w.heap.size, 0, none⟩ = some (.slice a ss.length c) := by rw [hW0]; simp [go_sem]
  have hc1 : W0.cell? ⟨w.heap.size + 1, 0, none⟩ = some (.slice ae os.length ce) := by rw [hW0]; simp [go_sem]
  have hc2 : W0.cell? ⟨w.heap.size + 1 + 1, 0, none⟩ = some (.slice af ms.length cf) := by rw [hW0]; simp [go_sem]
  have hr0 : One W0 (w.heap.size + 1 + 1 + 1) 30 (.slice none 0 0) := by rw [hW0]; exact One.new _ _ _ _ (by simp)
  have HVE : Hid (Calls Try.prog 37 #[.agg #[.slice af ms.length cf]] W0 fun e w'' => e = .returned (.bool (elemOk ms)) ∧ W0.Ext w'') := validElement_any af cf ms W0 hbf (hmf.ext hx0) _ rfl
  have H0 := Lib.hid (And.intro hx0 (And.intro hc0 (And.intro hc1 (And.intro hc2 hr0))))
  clear hx0 hc0 hc1 hc2 hr0
  cases hd : elemOk ms
  · rw [hd] at HVE
    have e : homOk ss os ms = false := by unfold homOk; rw [hd]; simp
    rw [e]
    show Calls _ _ _ _ (PicRet2 w [] false)
    clear hm hb hbe hbf hme hmf hd e
    go_enter Try.func33, Try.ntmps33
    go_wp2_with fail
    rw [← hW0]
    refine HVE.out.mono ?_
    rintro e w1 ⟨rfl, hx1⟩
    obtain ⟨r1, r2, r3, HR⟩ := Res.store (f := Value.string) (d := ByteArray.empty) (a := none) (xs := []) (lo := w.heap.size + 4) (.slice none 0 0) (H0.out.1.trans hx1) (by omega) (H0.out.2.2.2.2.ext hx1) (by omega) (OwnOf.nil _ _)
    clear hx1 hW0 H0
    go_wp2
    exact bodyPost_ret (v := .tuple #[.agg #[.slice none 0 0], .bool false]) (by simp [results, Try.results33, go_sem, r3]) rfl ⟨none, 0, rfl, HR.out.1, OwnOf.nil _ _⟩
  · rw [hd] at HVE
    obtain ⟨_, f2, f3⟩ := elemOk_spec hd
    have HWI : Hid (∀ w1, W0.Ext w1 → Calls Try.prog 74 #[.agg #[.slice a ss.length c], .agg #[.slice ae os.length ce], .func (.func 91) #[] #[.pointer (some ⟨w.heap.size + 1 + 1, 0, none⟩)]] w1 (PicRet2 w1 (rowsIf ss (homOk ss os ms) fun x y => homB (picW ss) ss.length (picL ss) os ms x y) (homOk ss os ms))) := fun w1 hx1 => by
      rw [homOk_and ss os ms hd, rowsIf_opt]
      exact withElement_any a c 91 #[.pointer (some ⟨w.heap.size + 1 + 1, 0, none⟩)] ss ae ce os true (picW ss) ss.length _ w1 hb.1 hb.2 (hm.ext (H0.out.1.trans hx1)) hbe (hme.ext (H0.out.1.trans hx1)) enters_hom1
        (fun h _ => by obtain ⟨q1, q2, q3, q4, _⟩ := picOk_spec h; omega)
        (fun w' b ab he hp hx hI => by
          obtain ⟨q1, q2, q3, q4, _⟩ := picOk_spec hp
          obtain ⟨_, _, e3⟩ := elemOk_spec he
          exact hom_any _ b ab _ _ _ ae ce os af cf ms w' (by omega) (by omega) hI hbe (hme.ext (H0.out.1.trans (hx1.trans hx))) e3 hbf (hmf.ext (H0.out.1.trans (hx1.trans hx))) f3 ((hx1.trans hx).cell H0.out.2.2.2.1))
    clear hm hb hbe hbf hme hmf hd f2 f3
    generalize (rowsIf ss (homOk ss os ms) fun x y => homB (picW ss) ss.length (picL ss) os ms x y) = R at *
    generalize homOk ss os ms = ok at *
    go_enter Try.func33, Try.ntmps33
    go_wp2_with fail
    rw [← hW0]
    refine HVE.out.mono ?_
    rintro e w1 ⟨rfl, hx1⟩
    have cp := hx1.cell H0.out.2.1
    have ce1 := hx1.cell H0.out.2.2.1
    have HW := Lib.hid (HWI.out w1 hx1)
    have HR1 := Lib.hid (H0.out.2.2.2.2.ext hx1)
    have HX1 := Lib.hid (H0.out.1.trans hx1)
    clear hx1 HWI H0 hW0
    go_wp2_with fail
    refine HW.out.mono ?_
    rintro e w3 ⟨a3, c3, rfl, hx3, ho3⟩
    obtain ⟨r1, r2, r3, HR⟩ := Res.store (.slice a3 R.length c3) (HX1.out.trans hx3) (by omega) (HR1.out.ext hx3) HR1.out.lt ho3
    clear hx3 ho3
    go_wp2
    exact bodyPost_ret (v := .tuple #[.agg #[.slice a3 R.length c3], .bool ok]) (by simp [results, Try.results33, go_sem, r3]) rfl ⟨a3, c3, rfl, HR.out.1, HR.out.2⟩
end Go.Proofs.Ytpploijlijnahaa
