/- Quadtrees: the implementation's text of an image. -/
import Derived.Test.YtlcofjicpbbdhaaTreeI
namespace Go.Proofs.Ytlcofjicpbbdhaa
open Go Go.RowKit
def qX (x h k : Nat) : Nat := x + (k % 2) * h
def qY (y h k : Nat) : Nat := y + (k / 2) * h
/-- Four squares lie there. -/
def QrAt (w : World) (g x y h : Nat) : Prop := ∀ k, k < 4 → w.cell? ⟨g, k * 3, none⟩ = some (.int .i64 ((qX x h k : Nat) : Int)) ∧ w.cell? ⟨g, k * 3 + 1, none⟩ = some (.int .i64 ((qY y h k : Nat) : Int)) ∧ w.cell? ⟨g, k * 3 + 2, none⟩ = some (.int .i64 (h : Int))
theorem QrAt.ext {w w' : World} {g x y h : Nat} (hq : QrAt w g x y h) (hx : w.Ext w') : QrAt w' g x y h := fun k hk => by
  obtain ⟨h1, h2, h3⟩ := hq k hk
  exact ⟨hx.cell h1, hx.cell h2, hx.cell h3⟩
set_option maxHeartbeats 800000 in
theorem quarters_any (x y h : Nat) (xi yi mi : Int) (hxi : xi = x) (hyi : yi = y) (hmi : mi = 2 * (h : Int)) (hx : x ≤ 100) (hy : y ≤ 100) (hh : h ≤ 100) (w : World) :
    Calls Try.prog 250 #[.agg #[.int .i64 xi, .int .i64 yi, .int .i64 mi]] w fun e w' => ∃ g, e = .returned (.slice (some ⟨g, 0, none⟩) 4 4) ∧ w.Ext w' ∧ w.heap.size ≤ g ∧ QrAt w' g x y h := by
  have hdiv : mi / 2 = (h : Int) := by omega
  have hm0 : 0 ≤ mi := by omega
  have hm1 : mi ≤ 200 := by omega
  have hx0 : 0 ≤ xi := by omega
  have hx1 : xi ≤ 100 := by omega
  have hy0 : 0 ≤ yi := by omega
  have hy1 : yi ≤ 100 := by omega
  have HXI := Lib.hid hxi
  have HYI := Lib.hid hyi
  have HDIV := Lib.hid hdiv
  clear hxi hyi hmi hdiv
  go_enter Try.func250, Try.ntmps250
  go_wp2
  go_ret
  refine ⟨_, rfl, by repeat (first | exact World.Ext.refl _ | exact ⟨_, rfl⟩ | assumption | refine World.Ext.over ?_ _ | refine World.Ext.drewN ?_ _ | refine World.Ext.drew ?_ | refine World.Ext.alloc ?_ _ | refine World.Ext.setCell ?_ (by simp) _), by simp, ?_⟩
  rw [HDIV.out, HXI.out, HYI.out]
  intro k hk
  match k, hk with
  | 0, _ => simp [go_sem, qX, qY]
  | 1, _ => simp [go_sem, qX, qY]
  | 2, _ => simp [go_sem, qX, qY]
  | 3, _ => simp [go_sem, qX, qY]
/-- Quarters' texts, and what the loop has of them. -/
def qTx (f : Nat → Nat → Bool) (n x y k : Nat) : List UInt8 := qtext f n (qX x (2 ^ n) k) (qY y (2 ^ n) k)
def catQ (t : Nat → List UInt8) : Nat → List UInt8
  | 0 => []
  | k + 1 => catQ t k ++ t k
def allQ (t : Nat → List UInt8) : Nat → Bool
  | 0 => true
  | k + 1 => allQ t k && (t k == t 0) && ((t k).length == 1)
theorem catQ_four (t : Nat → List UInt8) : catQ t 4 = t 0 ++ t 1 ++ t 2 ++ t 3 := by simp [catQ]
theorem qtext_loop (f : Nat → Nat → Bool) (n x y : Nat) : qtext f (n + 1) x y = if allQ (qTx f n x y) 4 then qTx f n x y 0 else 40 :: (catQ (qTx f n x y) 4 ++ [41]) := by
  rw [qtext_four, catQ_four]
  have e0 : qTx f n x y 0 = qtext f n x y := by simp [qTx, qX, qY]
  have e1 : qTx f n x y 1 = qtext f n (x + 2 ^ n) y := by simp [qTx, qX, qY]
  have e2 : qTx f n x y 2 = qtext f n x (y + 2 ^ n) := by simp [qTx, qX, qY]
  have e3 : qTx f n x y 3 = qtext f n (x + 2 ^ n) (y + 2 ^ n) := by simp [qTx, qX, qY]
  rw [e0, e1, e2, e3]
  have h : (allQ (qTx f n x y) 4 = true) ↔ ((qtext f n x y).length = 1 ∧ qtext f n (x + 2 ^ n) y = qtext f n x y ∧ qtext f n x (y + 2 ^ n) = qtext f n x y ∧ qtext f n (x + 2 ^ n) (y + 2 ^ n) = qtext f n x y) := by
    simp only [allQ, Bool.and_eq_true, beq_iff_eq, e0, e1, e2, e3]
    constructor
    · rintro ⟨⟨⟨⟨⟨⟨⟨⟨-, -⟩, h1⟩, h2⟩, -⟩, h3⟩, -⟩, h4⟩, -⟩
      exact ⟨h1, h2, h3, h4⟩
    · rintro ⟨h1, h2, h3, h4⟩
      rw [h2, h3, h4]
      simp [h1]
  by_cases hc : allQ (qTx f n x y) 4 = true
  · rw [if_pos hc, if_pos (h.1 hc)]
  · rw [if_neg hc, if_neg fun h' => hc (h.2 h')]
    unfold nodeT
    simp
theorem catQ_len (t : Nat → List UInt8) (B : Nat) (h : ∀ k, (t k).length ≤ B) : ∀ k, (catQ t k).length ≤ k * B
  | 0 => by simp [catQ]
  | k + 1 => by
    have h1 := catQ_len t B h k
    have h2 := h k
    rw [catQ, List.length_append, Nat.succ_mul]
    omega
theorem txB_app (a b : List UInt8) : txB a ++ txB b = txB (a ++ b) := ByteArray.mk_append_mk a b
theorem txB_toList (a : List UInt8) : (txB a).toList = a := ByteArray.toList_mk a
set_option maxRecDepth 5000 in
set_option maxHeartbeats 3200000 in
theorem treeText_any (b ab m : Nat) (l : List Bool) (hm : m ≤ 16) : ∀ (n : Nat) (xi yi hi : Int) (x y : Nat) (w : World), n ≤ 4 → xi = x → yi = y → hi = ((2 ^ n : Nat) : Int) → x + 2 ^ n ≤ m → y + 2 ^ n ≤ m → Img w b ab m m l →
    Calls Try.prog 230 #[.pointer (some ⟨b, 0, none⟩), .agg #[.int .i64 xi, .int .i64 yi, .int .i64 hi]] w fun e w' => e = .returned (.string (txB (qtext (lF m l) n x y))) ∧ w.Ext w' := by
  intro n
  induction n with
  | zero =>
    intro xi yi hi x y w _ hxi hyi hhi hx hy hI
    subst hxi hyi hhi
    have HG : Hid (∀ w', w.Ext w' → Calls Try.prog 97 #[.pointer (some ⟨b, 0, none⟩), .int .i64 x, .int .i64 y] w' fun e w'' => e = .returned (.bool (lF m l x y)) ∧ w'.Ext w'') := fun w' hx2 =>
      get_any b ab m m l _ _ w' (by omega) (by omega) (hI.ext hx2) _ (pxl_at _ _ _ _ _ (by omega) (by omega))
    have e0 : qtext (lF m l) 0 x y = [tokB (lF m l x y)] := rfl
    rw [e0]
    clear hI e0
    generalize lF m l x y = t at *
    go_enter Try.func230, Try.ntmps230
    go_wp2_with fail
    refine (HG.out _ ?_).mono ?_
    · repeat (first | exact World.Ext.refl _ | exact ⟨_, rfl⟩ | assumption | refine World.Ext.over ?_ _ | refine World.Ext.drewN ?_ _ | refine World.Ext.drew ?_ | refine World.Ext.alloc ?_ _ | refine World.Ext.setCell ?_ (by simp) _)
    rintro e w1 ⟨rfl, hx1⟩
    have HX1 : Hid (w.Ext w1) := World.Ext.trans (by repeat (first | exact World.Ext.refl _ | exact ⟨_, rfl⟩ | assumption | refine World.Ext.over ?_ _ | refine World.Ext.drewN ?_ _ | refine World.Ext.drew ?_ | refine World.Ext.alloc ?_ _ | refine World.Ext.setCell ?_ (by simp) _)) hx1
    clear hx1
    cases t
    all_goals
      go_wp2_with fail
      go_ret
      exact ⟨rfl, HX1.out⟩
  | succ n ih =>
    intro xi yi mi x y w hn4 hxi hyi hmi hx hy hI
    obtain ⟨h, hh⟩ : ∃ h : Nat, h = 2 ^ n := ⟨_, rfl⟩
    have e2 : (2 : Nat) ^ (n + 1) = 2 * h := by rw [Nat.pow_succ, hh]; omega
    have hpos : 0 < h := by rw [hh]; exact Nat.two_pow_pos n
    rw [e2] at hmi hx hy
    have hqx : ∀ k, qX x h k + h ≤ m ∧ qY y h k ≤ y + (k / 2) * h := fun k => by
      refine ⟨?_, Nat.le_refl _⟩
      unfold qX
      have : k % 2 < 2 := Nat.mod_lt _ (by decide)
      have : (k % 2) * h ≤ 1 * h := Nat.mul_le_mul_right _ (by omega)
      omega
    have hqy : ∀ k, k < 4 → qY y h k + h ≤ m := fun k hk => by
      unfold qY
      have : (k / 2) * h ≤ 1 * h := Nat.mul_le_mul_right _ (by omega)
      omega
    have IH : Hid (∀ k, k < 4 → ∀ w', w.Ext w' → Calls Try.prog 230 #[.pointer (some ⟨b, 0, none⟩), .agg #[.int .i64 ((qX x h k : Nat) : Int), .int .i64 ((qY y h k : Nat) : Int), .int .i64 (h : Int)]] w' fun e w'' => (∃ A, e = .returned (.string A) ∧ A.size ≤ 426 ∧ Hid (A = txB (qTx (lF m l) n x y k))) ∧ w'.Ext w'') :=
      fun k hk w' hx2 => (ih _ _ _ (qX x h k) (qY y h k) w' (by omega) rfl rfl (by rw [hh]) (by rw [← hh]; exact (hqx k).1) (by rw [← hh]; exact hqy k hk) (hI.ext hx2)).mono fun e w'' hq => by
        obtain ⟨rfl, hx⟩ := hq
        refine ⟨⟨_, rfl, ?_, ?_⟩, hx⟩
        · rw [txB_size]
          exact Nat.le_trans (qtext_le _ _ _ _) (Lq_4 (by omega))
        · show _ = _
          unfold qTx
          rw [hh]
    have HQ : Hid (∀ w', Calls Try.prog 250 #[.agg #[.int .i64 xi, .int .i64 yi, .int .i64 mi]] w' fun e w'' => ∃ g, e = .returned (.slice (some ⟨g, 0, none⟩) 4 4) ∧ w'.Ext w'' ∧ w'.heap.size ≤ g ∧ QrAt w'' g x y h) := fun w' => quarters_any x y h xi yi mi hxi hyi (by omega) (by omega) (by omega) (by omega) w'
    have hne : ¬ mi = 1 := by omega
    rw [qtext_loop]
    have hQB : Hid (∀ k, (qTx (lF m l) n x y k).length ≤ 426) := fun k => Nat.le_trans (qtext_le _ _ _ _) (Lq_4 (by omega))
    have hQP : Hid (0 < (qTx (lF m l) n x y 0).length) := qtext_pos _ _ _ _
    clear ih hI hqx hqy hmi hxi hyi hx hy hh e2
    generalize qTx (lF m l) n x y = t at *
    obtain ⟨RS, HRS⟩ : ∃ RS, Hid (RS = txB (if allQ t 4 = true then t 0 else 40 :: (catQ t 4 ++ [41]))) := ⟨_, Lib.hid rfl⟩
    rw [← HRS.out]
    go_enter Try.func230, Try.ntmps230
    go_wp2_with fail
    refine (HQ.out _).mono ?_
    rintro e w1 ⟨g, rfl, hx1, -, hqr⟩
    have HX1 : Hid (w.Ext w1) := World.Ext.trans (by repeat (first | exact World.Ext.refl _ | exact ⟨_, rfl⟩ | assumption | refine World.Ext.over ?_ _ | refine World.Ext.drewN ?_ _ | refine World.Ext.drew ?_ | refine World.Ext.alloc ?_ _ | refine World.Ext.setCell ?_ (by simp) _)) hx1
    have HQR := Lib.hid hqr
    clear hx1 hqr HQ
    go_wp2_with fail
    go_loopw [5, 6, 7, 23] (fun v5 v6 v7 v wr => ∃ (k : Nat) (S F : ByteArray), k ≤ 4 ∧ v = .int .i64 k ∧ v5 = .string S ∧ v6 = .string F ∧ v7 = .bool (allQ t k) ∧ Hid (S = txB (catQ t k)) ∧ Hid (k = 0 → F = ⟨#[]⟩) ∧ Hid (0 < k → F = txB (t 0)) ∧ Hid (w1.Ext wr)) (fun _ _ _ v _ => 4 - (intOf v).toNat)
    case atStart => exact ⟨0, ⟨#[]⟩, ⟨#[]⟩, by omega, rfl, rfl, rfl, rfl, rfl, fun _ => rfl, fun h => absurd h (by decide), .refl _⟩
    case round =>
      obtain ⟨k, S, F, hk, rfl, rfl, rfl, rfl, HS, HF0, HF1, HX⟩ := hrel
      obtain ⟨w2, rfl⟩ : ∃ w2 : World, w2 = wr := ⟨_, rfl⟩
      have hSz : S.size ≤ 1704 := by
        rw [HS.out, txB_size]
        have h1 := catQ_len t 426 hQB.out k
        omega
      by_cases hlt : k < 4
      · have hlt' : (k : Int) < 4 := by omega
        have hk0 : (0 : Int) ≤ (k : Int) := by omega
        obtain ⟨q0, q1, q2⟩ := (HQR.out.ext HX.out) k hlt
        have HI := Lib.hid (fun w' hx => IH.out k hlt w' hx)
        have HPX : Hid (w.Ext w2) := HX1.out.trans HX.out
        generalize qX x h k = X at *
        generalize qY y h k = Y at *
        go_wp2_with fail
        refine (HI.out _ (World.Ext.alloc HPX.out _)).mono ?_
        rintro e w3 ⟨⟨A, rfl, hA, HA⟩, hx3⟩
        have HX3 : Hid (w1.Ext w3) := World.Ext.trans (HX.out.alloc _) hx3
        have HS' : Hid (S ++ A = txB (catQ t (k + 1))) := by show _ = _; rw [HS.out, HA.out, txB_app]; rfl
        clear hx3 HX q0 q1 q2 HI HPX
        by_cases hk0' : k = 0
        · subst hk0'
          have hF := HF0.out rfl
          subst hF
          have HF' : Hid (A = txB (t 0)) := HA
          have HN : Hid (allQ t (0 + 1) = (true && (A.toList == A.toList) && ((A.size : Int) == 1))) := by
            show _ = _
            rw [beq_self_eq_true, HA.out, txB_size]
            simp only [allQ, beq_self_eq_true, Bool.true_and]
            rw [Bool.eq_iff_iff, beq_iff_eq, beq_iff_eq]
            omega
          have hb0 : allQ t 0 = true := rfl
          rw [hb0]
          simp only [beq_self_eq_true, Bool.true_and] at HN
          clear HF0 HF1 HS
          go_wp2_with fail
          go_roundw
          case rel => exact ⟨1, S ++ A, A, by omega, rfl, rfl, rfl, by rw [HN.out], HS', fun h => absurd h (by decide), fun _ => HA, HX3⟩
          case measure => simp [intOf]
        · have hF : F = txB (t 0) := HF1.out (by omega)
          have hFe : (F.toList == ([] : List UInt8)) = false := by
            rw [hF, txB_toList]
            cases e : t 0 with
            | nil => have := hQP.out; rw [e] at this; cases this
            | cons a b => rfl
          have HF := Lib.hid hF
          obtain ⟨c1, hc1⟩ : ∃ c, (A.toList == F.toList) = c := ⟨_, rfl⟩
          obtain ⟨c2, hc2⟩ : ∃ c, ((A.size : Int) == 1) = c := ⟨_, rfl⟩
          obtain ⟨c0, hc0⟩ : ∃ c, allQ t k = c := ⟨_, rfl⟩
          have HN : Hid (allQ t (k + 1) = (c0 && c1 && c2)) := by
            show _ = _
            rw [← hc0, ← hc1, ← hc2, hF, HA.out, txB_toList, txB_toList, txB_size, show allQ t (k + 1) = (allQ t k && (t k == t 0) && ((t k).length == 1)) from rfl]
            congr 1
            rw [Bool.eq_iff_iff, beq_iff_eq, beq_iff_eq]
            omega
          rw [hc0]
          clear hF HF0 HF1 HS HA hc0
          cases c0 <;> cases c1 <;> cases c2
          all_goals
            go_wp2_with fail
            go_roundw
            case rel => exact ⟨k + 1, S ++ A, F, by omega, by go_num, rfl, rfl, by rw [HN.out]; rfl, HS', fun h => absurd h (by omega), fun _ => HF.out, HX3⟩
            case measure => simp [intOf]; omega
      · have hk4 : k = 4 := by omega
        subst hk4
        have hF := HF1.out (by decide)
        have HF := Lib.hid hF
        clear hF HF0 HF1
        cases hall : allQ t 4
        · have HR : Hid ((⟨#[40]⟩ : ByteArray) ++ S ++ ⟨#[41]⟩ = RS) := by
            show _ = _
            rw [HRS.out, hall, HS.out, if_neg (by decide)]
            show txB [40] ++ txB (catQ t 4) ++ txB [41] = _
            rw [txB_app, txB_app]
            simp
          clear hall HS
          go_wp2_with fail
          go_ret
          exact ⟨by rw [← HR.out]; rfl, HX1.out.trans HX.out⟩
        · have HR : Hid (F = RS) := by
            show _ = _
            rw [HRS.out, hall, if_pos rfl, HF.out]
          clear hall HS
          go_wp2_with fail
          go_ret
          exact ⟨by rw [← HR.out]; rfl, HX1.out.trans HX.out⟩
theorem keep2S {w : World} {p b : Nat} {u v x : Value} (h : b ≠ p) (k : w.cell? ⟨b, 0, none⟩ = some x) : ((w.setCell ⟨p, 0, none⟩ u).setCell ⟨p, 1, none⟩ v).cell? ⟨b, 0, none⟩ = some x := by
  rw [World.cell?_of_block (a := ⟨b, 0, none⟩) (Below.heap_setCell _ _ _ _ h), World.cell?_of_block (a := ⟨b, 0, none⟩) (Below.heap_setCell _ _ _ _ h)]
  exact k
set_option maxRecDepth 5000 in
set_option maxHeartbeats 1600000 in
theorem treeOf_any (b ab m n : Nat) (g : Nat → Nat → Bool) (l : List Bool) (hm : m = 2 ^ n) (hn : n ≤ 4) (hl : ∀ i j, i < m → j < m → lF m l i j = g i j) (w : World) (hI : Img w b ab m m l) :
    Calls Try.prog 173 #[.pointer (some ⟨b, 0, none⟩)] w fun e w' => e = .returned (.agg #[.int .i64 m, .string (txG n g)]) ∧ w.Ext w' := by
  have hm16 : m ≤ 16 := by rw [hm]; exact Nat.pow_le_pow_right (by decide) hn
  obtain ⟨W0, hW0⟩ : ∃ W0, W0 = w.alloc (.cells #[.int .i64 0, .string ⟨#[]⟩] 91) := ⟨_, rfl⟩
  have hx0 : w.Ext W0 := by rw [hW0]; repeat (first | exact World.Ext.refl _ | exact ⟨_, rfl⟩ | assumption | refine World.Ext.over ?_ _ | refine World.Ext.drewN ?_ _ | refine World.Ext.drew ?_ | refine World.Ext.alloc ?_ _ | refine World.Ext.setCell ?_ (by simp) _)
  have htwo : Two W0 w.heap.size 91 (.int .i64 0) (.string ⟨#[]⟩) := by rw [hW0]; exact Two.new _ _ _ _ _ rfl
  have HTX : Hid (∀ w', W0.Ext w' → Calls Try.prog 230 #[.pointer (some ⟨b, 0, none⟩), .agg #[.int .i64 0, .int .i64 0, .int .i64 m]] w' fun e w'' => e = .returned (.string (txG n g)) ∧ w'.Ext w'') := fun w' hx => by
    have h := treeText_any b ab m l hm16 n 0 0 m 0 0 w' hn rfl rfl (by rw [hm]) (by omega) (by omega) (hI.ext (hx0.trans hx))
    rw [show txB (qtext (lF m l) n 0 0) = txG n g from txG_congr fun i j hi hj => hl i j (by omega) (by omega)] at h
    exact h
  have c0 := (hI.ext hx0).c0
  have hb : b ≠ w.heap.size := by have := hI.lt; omega
  have HX0 := Lib.hid hx0
  have HO := Lib.hid htwo
  clear hx0 htwo hI hl hm
  generalize txG n g = tx at *
  go_enter Try.func173, Try.ntmps173
  go_wp2_with fail
  rw [← hW0]
  clear hW0
  go_region_held3 (fun w' => w'.cell? ⟨b, 0, none⟩ = some (.int .i64 m))
    (first | exact hk8 | (refine World.Ext.cell ?_ c0 <;> ((repeat (first | exact World.Ext.refl _ | exact ⟨_, rfl⟩ | assumption | refine World.Ext.over ?_ _ | refine World.Ext.drewN ?_ _ | refine World.Ext.drew ?_ | refine World.Ext.alloc ?_ _ | refine World.Ext.setCell ?_ ?_ _ | (simp; done))); done)))
    (first | (go_at_call 230; go_loud (refine (HTX.out _ ((World.Ext.refl W0).drew)).mono ?_; rintro e w6 ⟨rfl, hx6⟩; have E6 : W0.Ext w6 := ((World.Ext.refl W0).drew).trans hx6; obtain ⟨s0, s1, s2, s3, s4, s5, HR⟩ := Res.store2 (.int .i64 (m : Int)) (.string tx) (HX0.out.trans E6) (Nat.le_refl _) (HO.out.ext E6); have hk8 := keep2S (u := .int .i64 (m : Int)) (v := .string tx) hb (E6.cell c0); clear hx6)))
  go_wp2
  exact bodyPost_ret (v := .agg #[.int .i64 (m : Int), .string tx]) (by simp [results, Try.results173, go_sem, s4, s5]) rfl ⟨rfl, HR.out⟩
end Go.Proofs.Ytlcofjicpbbdhaa
