/- Quadtrees: the implementation's small functions. -/
import Derived.Test.YtkpgelhmeokemaaQtA
namespace Go.Proofs.Ytkpgelhmeokemaa
open Go Go.RowKit
def lF (m : Nat) (l : List Bool) (i j : Nat) : Bool := l.getD (j * m + i) false
def TurnedRet (w : World) (k : Int) (m : Nat) (l : List Bool) (e : Ending) (w' : World) : Prop :=
  if inB k 0 3 then ImgRet w m m (mkl m m (trnF k.toNat m (lF m l))) e w' else e = .returned (.pointer none) ∧ w.Ext w'
theorem TurnedRet.yes {w w' : World} {k : Int} {m : Nat} {l : List Bool} {e : Ending} (hk : inB k 0 3 = true) (h : ImgRet w m m (mkl m m (trnF k.toNat m (lF m l))) e w') : TurnedRet w k m l e w' := by unfold TurnedRet; rw [if_pos hk]; exact h
theorem TurnedRet.no {w w' : World} {k : Int} {m : Nat} {l : List Bool} {e : Ending} (hk : inB k 0 3 = false) (h : e = .returned (.pointer none) ∧ w.Ext w') : TurnedRet w k m l e w' := by unfold TurnedRet; rw [if_neg (by rw [hk]; decide)]; exact h
end Go.Proofs.Ytkpgelhmeokemaa

/- Quadtrees: the implementation's text of an image. -/
namespace Go.Proofs.Ytkpgelhmeokemaa
open Go Go.RowKit
def qX (x h k : Nat) : Nat := x + (k % 2) * h
def qY (y h k : Nat) : Nat := y + (k / 2) * h
/-- Four squares lie there. -/
def QrAt (w : World) (g x y h : Nat) : Prop := ∀ k, k < 4 → w.cell? ⟨g, k * 3, none⟩ = some (.int .i64 ((qX x h k : Nat) : Int)) ∧ w.cell? ⟨g, k * 3 + 1, none⟩ = some (.int .i64 ((qY y h k : Nat) : Int)) ∧ w.cell? ⟨g, k * 3 + 2, none⟩ = some (.int .i64 (h : Int))
theorem QrAt.ext {w w' : World} {g x y h : Nat} (hq : QrAt w g x y h) (hx : w.Ext w') : QrAt w' g x y h := fun k hk => by
  obtain ⟨h1, h2, h3⟩ := hq k hk
  exact ⟨hx.cell h1, hx.cell h2, hx.cell h3⟩
set_option maxHeartbeats 800000 in
theorem quarters_any (x y h : Nat) (xi yi mi : Int) (hxi : xi = x) (hyi : yi = y) (hmi : mi = 2 * (h : Int)) (hx : x ≤ 100) (hy : y ≤ 100) (hh : h ≤ 100) (w : World) :
    Calls Try.prog 118 #[.agg #[.int .i64 xi, .int .i64 yi, .int .i64 mi]] w fun e w' => ∃ g, e = .returned (.slice (some ⟨g, 0, none⟩) 4 4) ∧ w.Ext w' ∧ w.heap.size ≤ g ∧ QrAt w' g x y h := by
  have hdiv : mi / 2 = (h : Int) := by omega
  have hm0 : 0 ≤ mi := by omega
  have hm1 : mi ≤ 200 := by omega
  have hx0 : 0 ≤ xi := by omega
  have hx1 : xi ≤ 100 := by omega
  have hy0 : 0 ≤ yi := by omega
  have hy1 : yi ≤ 100 := by omega
  have HXI := Lib.hid hxi
  have HYI := Lib.hid hyi
  have HDIV := Lib.hid hdiv
  clear hxi hyi hmi hdiv
  go_enter Try.func118, Try.ntmps118
  go_wp2
  go_ret
  refine ⟨_, rfl, by repeat (first | exact World.Ext.refl _ | exact ⟨_, rfl⟩ | assumption | refine World.Ext.over ?_ _ | refine World.Ext.drewN ?_ _ | refine World.Ext.drew ?_ | refine World.Ext.alloc ?_ _ | refine World.Ext.setCell ?_ (by simp) _), by simp, ?_⟩
  rw [HDIV.out, HXI.out, HYI.out]
  intro k hk
  match k, hk with
  | 0, _ => simp [go_sem, qX, qY]
  | 1, _ => simp [go_sem, qX, qY]
  | 2, _ => simp [go_sem, qX, qY]
  | 3, _ => simp [go_sem, qX, qY]
/-- Quarters' texts, and what the loop has of them. -/
def qTx (f : Nat → Nat → Bool) (n x y k : Nat) : List UInt8 := qtext f n (qX x (2 ^ n) k) (qY y (2 ^ n) k)
def catQ (t : Nat → List UInt8) : Nat → List UInt8
  | 0 => []
  | k + 1 => catQ t k ++ t k
def allQ (t : Nat → List UInt8) : Nat → Bool
  | 0 => true
  | k + 1 => allQ t k && (t k == t 0) && ((t k).length == 1)
theorem catQ_four (t : Nat → List UInt8) : catQ t 4 = t 0 ++ t 1 ++ t 2 ++ t 3 := by simp [catQ]
theorem qtext_loop (f : Nat → Nat → Bool) (n x y : Nat) : qtext f (n + 1) x y = if allQ (qTx f n x y) 4 then qTx f n x y 0 else 40 :: (catQ (qTx f n x y) 4 ++ [41]) := by
  rw [qtext_four, catQ_four]
  have e0 : qTx f n x y 0 = qtext f n x y := by simp [qTx, qX, qY]
  have e1 : qTx f n x y 1 = qtext f n (x + 2 ^ n) y := by simp [qTx, qX, qY]
  have e2 : qTx f n x y 2 = qtext f n x (y + 2 ^ n) := by simp [qTx, qX, qY]
  have e3 : qTx f n x y 3 = qtext f n (x + 2 ^ n) (y + 2 ^ n) := by simp [qTx, qX, qY]
  rw [e0, e1, e2, e3]
  have h : (allQ (qTx f n x y) 4 = true) ↔ ((qtext f n x y).length = 1 ∧ qtext f n (x + 2 ^ n) y = qtext f n x y ∧ qtext f n x (y + 2 ^ n) = qtext f n x y ∧ qtext f n (x + 2 ^ n) (y + 2 ^ n) = qtext f n x y) := by
    simp only [allQ, Bool.and_eq_true, beq_iff_eq, e0, e1, e2, e3]
    constructor
    · rintro ⟨⟨⟨⟨⟨⟨⟨⟨-, -⟩, h1⟩, h2⟩, -⟩, h3⟩, -⟩, h4⟩, -⟩
      exact ⟨h1, h2, h3, h4⟩
    · rintro ⟨h1, h2, h3, h4⟩
      rw [h2, h3, h4]
      simp [h1]
  by_cases hc : allQ (qTx f n x y) 4 = true
  · rw [if_pos hc, if_pos (h.1 hc)]
  · rw [if_neg hc, if_neg fun h' => hc (h.2 h')]
    unfold nodeT
    simp
theorem catQ_len (t : Nat → List UInt8) (B : Nat) (h : ∀ k, (t k).length ≤ B) : ∀ k, (catQ t k).length ≤ k * B
  | 0 => by simp [catQ]
  | k + 1 => by
    have h1 := catQ_len t B h k
    have h2 := h k
    rw [catQ, List.length_append, Nat.succ_mul]
    omega
theorem txB_app (a b : List UInt8) : txB a ++ txB b = txB (a ++ b) := ByteArray.mk_append_mk a b
theorem txB_toList (a : List UInt8) : (txB a).toList = a := ByteArray.toList_mk a
set_option maxRecDepth 5000 in
set_option maxHeartbeats 3200000 in
theorem treeText_any (b ab m : Nat) (l : List Bool) (hm : m ≤ 16) : ∀ (n : Nat) (xi yi hi : Int) (x y : Nat) (w : World), n ≤ 4 → xi = x → yi = y → hi = ((2 ^ n : Nat) : Int) → x + 2 ^ n ≤ m → y + 2 ^ n ≤ m → Img w b ab m m l →
    Calls Try.prog 84 #[.pointer (some ⟨b, 0, none⟩), .agg #[.int .i64 xi, .int .i64 yi, .int .i64 hi]] w fun e w' => e = .returned (.string (txB (qtext (lF m l) n x y))) ∧ w.Ext w' := by
  intro n
  induction n with
  | zero =>
    intro xi yi hi x y w _ hxi hyi hhi hx hy hI
    subst hxi hyi hhi
    have HG : Hid (∀ w', w.Ext w' → Calls Try.prog 85 #[.pointer (some ⟨b, 0, none⟩), .int .i64 x, .int .i64 y] w' fun e w'' => e = .returned (.bool (lF m l x y)) ∧ w'.Ext w'') := fun w' hx2 =>
      get_any b ab m m l _ _ w' (by omega) (by omega) (hI.ext hx2) _ (pxl_at _ _ _ _ _ (by omega) (by omega))
    have e0 : qtext (lF m l) 0 x y = [tokB (lF m l x y)] := rfl
    rw [e0]
    clear hI e0
    generalize lF m l x y = t at *
    go_enter Try.func84, Try.ntmps84
    go_wp2_with fail
    refine (HG.out _ ?_).mono ?_
    · repeat (first | exact World.Ext.refl _ | exact ⟨_, rfl⟩ | assumption | refine World.Ext.over ?_ _ | refine World.Ext.drewN ?_ _ | refine World.Ext.drew ?_ | refine World.Ext.alloc ?_ _ | refine World.Ext.setCell ?_ (by simp) _)
    rintro e w1 ⟨rfl, hx1⟩
    have HX1 : Hid (w.Ext w1) := World.Ext.trans (by repeat (first | exact World.Ext.refl _ | exact ⟨_, rfl⟩ | assumption | refine World.Ext.over ?_ _ | refine World.Ext.drewN ?_ _ | refine World.Ext.drew ?_ | refine World.Ext.alloc ?_ _ | refine World.Ext.setCell ?_ (by simp) _)) hx1
    clear hx1
    cases t
    all_goals
      go_wp2_with fail
      go_ret
      exact ⟨rfl, HX1.out⟩
  | succ n ih =>
    intro xi yi mi x y w hn4 hxi hyi hmi hx hy hI
    obtain ⟨h, hh⟩ : ∃ h : Nat, h = 2 ^ n := ⟨_, rfl⟩
    have e2 : (2 : Nat) ^ (n + 1) = 2 * h := by rw [Nat.pow_succ, hh]; omega
    have hpos : 0 < h := by rw [hh]; exact Nat.two_pow_pos n
    rw [e2] at hmi hx hy
    have hqx : ∀ k, qX x h k + h ≤ m ∧ qY y h k ≤ y + (k / 2) * h := fun k => by
      refine ⟨?_, Nat.le_refl _⟩
      unfold qX
      have : k % 2 < 2 := Nat.mod_lt _ (by decide)
      have : (k % 2) * h ≤ 1 * h := Nat.mul_le_mul_right _ (by omega)
      omega
    have hqy : ∀ k, k < 4 → qY y h k + h ≤ m := fun k hk => by
      unfold qY
      have : (k / 2) * h ≤ 1 * h := Nat.mul_le_mul_right _ (by omega)
      omega
    have IH : Hid (∀ k, k < 4 → ∀ w', w.Ext w' → Calls Try.prog 84 #[.pointer (some ⟨b, 0, none⟩), .agg #[.int .i64 ((qX x h k : Nat) : Int), .int .i64 ((qY y h k : Nat) : Int), .int .i64 (h : Int)]] w' fun e w'' => (∃ A, e = .returned (.string A) ∧ A.size ≤ 426 ∧ Hid (A = txB (qTx (lF m l) n x y k))) ∧ w'.Ext w'') :=
      fun k hk w' hx2 => (ih _ _ _ (qX x h k) (qY y h k) w' (by omega) rfl rfl (by rw [hh]) (by rw [← hh]; exact (hqx k).1) (by rw [← hh]; exact hqy k hk) (hI.ext hx2)).mono fun e w'' hq => by
        obtain ⟨rfl, hx⟩ := hq
        refine ⟨⟨_, rfl, ?_, ?_⟩, hx⟩
        · rw [txB_size]
          exact Nat.le_trans (qtext_le _ _ _ _) (Lq_4 (by omega))
        · show _ = _
          unfold qTx
          rw [hh]
    have HQ : Hid (∀ w', Calls Try.prog 118 #[.agg #[.int .i64 xi, .int .i64 yi, .int .i64 mi]] w' fun e w'' => ∃ g, e = .returned (.slice (some ⟨g, 0, none⟩) 4 4) ∧ w'.Ext w'' ∧ w'.heap.size ≤ g ∧ QrAt w'' g x y h) := fun w' => quarters_any x y h xi yi mi hxi hyi (by omega) (by omega) (by omega) (by omega) w'
    have hne : ¬ mi = 1 := by omega
    rw [qtext_loop]
    have hQB : Hid (∀ k, (qTx (lF m l) n x y k).length ≤ 426) := fun k => Nat.le_trans (qtext_le _ _ _ _) (Lq_4 (by omega))
    have hQP : Hid (0 < (qTx (lF m l) n x y 0).length) := qtext_pos _ _ _ _
    clear ih hI hqx hqy hmi hxi hyi hx hy hh e2
    generalize qTx (lF m l) n x y = t at *
    obtain ⟨RS, HRS⟩ : ∃ RS, Hid (RS = txB (if allQ t 4 = true then t 0 else 40 :: (catQ t 4 ++ [41]))) := ⟨_, Lib.hid rfl⟩
    rw [← HRS.out]
    go_enter Try.func84, Try.ntmps84
    go_wp2_with fail
    refine (HQ.out _).mono ?_
    rintro e w1 ⟨g, rfl, hx1, -, hqr⟩
    have HX1 : Hid (w.Ext w1) := World.Ext.trans (by repeat (first | exact World.Ext.refl _ | exact ⟨_, rfl⟩ | assumption | refine World.Ext.over ?_ _ | refine World.Ext.drewN ?_ _ | refine World.Ext.drew ?_ | refine World.Ext.alloc ?_ _ | refine World.Ext.setCell ?_ (by simp) _)) hx1
    have HQR := Lib.hid hqr
    clear hx1 hqr HQ
    go_wp2_with fail
    go_loopw [5, 6, 7, 23] (fun v5 v6 v7 v wr => ∃ (k : Nat) (S F : ByteArray), k ≤ 4 ∧ v = .int .i64 k ∧ v5 = .string S ∧ v6 = .string F ∧ v7 = .bool (allQ t k) ∧ Hid (S = txB (catQ t k)) ∧ Hid (k = 0 → F = ⟨#[]⟩) ∧ Hid (0 < k → F = txB (t 0)) ∧ Hid (w1.Ext wr)) (fun _ _ _ v _ => 4 - (intOf v).toNat)
    case atStart => exact ⟨0, ⟨#[]⟩, ⟨#[]⟩, by omega, rfl, rfl, rfl, rfl, rfl, fun _ => rfl, fun h => absurd h (by decide), .refl _⟩
    case round =>
      obtain ⟨k, S, F, hk, rfl, rfl, rfl, rfl, HS, HF0, HF1, HX⟩ := hrel
      obtain ⟨w2, rfl⟩ : ∃ w2 : World, w2 = wr := ⟨_, rfl⟩
      have hSz : S.size ≤ 1704 := by
        rw [HS.out, txB_size]
        have h1 := catQ_len t 426 hQB.out k
        omega
      by_cases hlt : k < 4
      · have hlt' : (k : Int) < 4 := by omega
        have hk0 : (0 : Int) ≤ (k : Int) := by omega
        obtain ⟨q0, q1, q2⟩ := (HQR.out.ext HX.out) k hlt
        have HI := Lib.hid (fun w' hx => IH.out k hlt w' hx)
        have HPX : Hid (w.Ext w2) := HX1.out.trans HX.out
        generalize qX x h k = X at *
        generalize qY y h k = Y at *
        go_wp2_with fail
        refine (HI.out _ (World.Ext.alloc HPX.out _)).mono ?_
        rintro e w3 ⟨⟨A, rfl, hA, HA⟩, hx3⟩
        have HX3 : Hid (w1.Ext w3) := World.Ext.trans (HX.out.alloc _) hx3
        have HS' : Hid (S ++ A = txB (catQ t (k + 1))) := by show _ = _; rw [HS.out, HA.out, txB_app]; rfl
        clear hx3 HX q0 q1 q2 HI HPX
        by_cases hk0' : k = 0
        · subst hk0'
          have hF := HF0.out rfl
          subst hF
          have HF' : Hid (A = txB (t 0)) := HA
          have HN : Hid (allQ t (0 + 1) = (true && (A.toList == A.toList) && ((A.size : Int) == 1))) := by
            show _ = _
            rw [beq_self_eq_true, HA.out, txB_size]
            simp only [allQ, beq_self_eq_true, Bool.true_and]
            rw [Bool.eq_iff_iff, beq_iff_eq, beq_iff_eq]
            omega
          have hb0 : allQ t 0 = true := rfl
          rw [hb0]
          simp only [beq_self_eq_true, Bool.true_and] at HN
          clear HF0 HF1 HS
          go_wp2_with fail
          go_roundw
          case rel => exact ⟨1, S ++ A, A, by omega, rfl, rfl, rfl, by rw [HN.out], HS', fun h => absurd h (by decide), fun _ => HA, HX3⟩
          case measure => simp [intOf]
        · have hF : F = txB (t 0) := HF1.out (by omega)
          have hFe : (F.toList == ([] : List UInt8)) = false := by
            rw [hF, txB_toList]
            cases e : t 0 with
            | nil => have := hQP.out; rw [e] at this; cases this
            | cons a b => rfl
          have HF := Lib.hid hF
          obtain ⟨c1, hc1⟩ : ∃ c, (A.toList == F.toList) = c := ⟨_, rfl⟩
          obtain ⟨c2, hc2⟩ : ∃ c, ((A.size : Int) == 1) = c := ⟨_, rfl⟩
          obtain ⟨c0, hc0⟩ : ∃ c, allQ t k = c := ⟨_, rfl⟩
          have HN : Hid (allQ t (k + 1) = (c0 && c1 && c2)) := by
            show _ = _
            rw [← hc0, ← hc1, ← hc2, hF, HA.out, txB_toList, txB_toList, txB_size, show allQ t (k + 1) = (allQ t k && (t k == t 0) && ((t k).length == 1)) from rfl]
            congr 1
            rw [Bool.eq_iff_iff, beq_iff_eq, beq_iff_eq]
            omega
          rw [hc0]
          clear hF HF0 HF1 HS HA hc0
          cases c0 <;> cases c1 <;> cases c2
          all_goals
            go_wp2_with fail
            go_roundw
            case rel => exact ⟨k + 1, S ++ A, F, by omega, by go_num, rfl, rfl, by rw [HN.out]; rfl, HS', fun h => absurd h (by omega), fun _ => HF.out, HX3⟩
            case measure => simp [intOf]; omega
      · have hk4 : k = 4 := by omega
        subst hk4
        have hF := HF1.out (by decide)
        have HF := Lib.hid hF
        clear hF HF0 HF1
        cases hall : allQ t 4
        · have HR : Hid ((⟨#[40]⟩ : ByteArray) ++ S ++ ⟨#[41]⟩ = RS) := by
            show _ = _
            rw [HRS.out, hall, HS.out, if_neg (by decide)]
            show txB [40] ++ txB (catQ t 4) ++ txB [41] = _
            rw [txB_app, txB_app]
            simp
          clear hall HS
          go_wp2_with fail
          go_ret
          exact ⟨by rw [← HR.out]; rfl, HX1.out.trans HX.out⟩
        · have HR : Hid (F = RS) := by
            show _ = _
            rw [HRS.out, hall, if_pos rfl, HF.out]
          clear hall HS
          go_wp2_with fail
          go_ret
          exact ⟨by rw [← HR.out]; rfl, HX1.out.trans HX.out⟩
theorem keep2S {w : World} {p b : Nat} {u v x : Value} (h : b ≠ p) (k : w.cell? ⟨b, 0, none⟩ = some x) : ((w.setCell ⟨p, 0, none⟩ u).setCell ⟨p, 1, none⟩ v).cell? ⟨b, 0, none⟩ = some x := by
  rw [World.cell?_of_block (a := ⟨b, 0, none⟩) (Below.heap_setCell _ _ _ _ h), World.cell?_of_block (a := ⟨b, 0, none⟩) (Below.heap_setCell _ _ _ _ h)]
  exact k
set_option maxRecDepth 5000 in
set_option maxHeartbeats 1600000 in
theorem treeOf_any (b ab m n : Nat) (g : Nat → Nat → Bool) (l : List Bool) (hm : m = 2 ^ n) (hn : n ≤ 4) (hl : ∀ i j, i < m → j < m → lF m l i j = g i j) (w : World) (hI : Img w b ab m m l) :
    Calls Try.prog 38 #[.pointer (some ⟨b, 0, none⟩)] w fun e w' => e = .returned (.agg #[.int .i64 m, .string (txG n g)]) ∧ w.Ext w' := by
  have hm16 : m ≤ 16 := by rw [hm]; exact Nat.pow_le_pow_right (by decide) hn
  obtain ⟨W0, hW0⟩ : ∃ W0, W0 = w.alloc (.cells #[.int .i64 0, .string ⟨#[]⟩] 29) := ⟨_, rfl⟩
  have hx0 : w.Ext W0 := by rw [hW0]; repeat (first | exact World.Ext.refl _ | exact ⟨_, rfl⟩ | assumption | refine World.Ext.over ?_ _ | refine World.Ext.drewN ?_ _ | refine World.Ext.drew ?_ | refine World.Ext.alloc ?_ _ | refine World.Ext.setCell ?_ (by simp) _)
  have htwo : Two W0 w.heap.size 29 (.int .i64 0) (.string ⟨#[]⟩) := by rw [hW0]; exact Two.new _ _ _ _ _ rfl
  have HTX : Hid (∀ w', W0.Ext w' → Calls Try.prog 84 #[.pointer (some ⟨b, 0, none⟩), .agg #[.int .i64 0, .int .i64 0, .int .i64 m]] w' fun e w'' => e = .returned (.string (txG n g)) ∧ w'.Ext w'') := fun w' hx => by
    have h := treeText_any b ab m l hm16 n 0 0 m 0 0 w' hn rfl rfl (by rw [hm]) (by omega) (by omega) (hI.ext (hx0.trans hx))
    rw [show txB (qtext (lF m l) n 0 0) = txG n g from txG_congr fun i j hi hj => hl i j (by omega) (by omega)] at h
    exact h
  have c0 := (hI.ext hx0).c0
  have hb : b ≠ w.heap.size := by have := hI.lt; omega
  have HX0 := Lib.hid hx0
  have HO := Lib.hid htwo
  clear hx0 htwo hI hl hm
  generalize txG n g = tx at *
  go_enter Try.func38, Try.ntmps38
  go_wp2_with fail
  rw [← hW0]
  clear hW0
  go_region_held3 (fun w' => w'.cell? ⟨b, 0, none⟩ = some (.int .i64 m))
    (first | exact hk8 | (refine World.Ext.cell ?_ c0 <;> ((repeat (first | exact World.Ext.refl _ | exact ⟨_, rfl⟩ | assumption | refine World.Ext.over ?_ _ | refine World.Ext.drewN ?_ _ | refine World.Ext.drew ?_ | refine World.Ext.alloc ?_ _ | refine World.Ext.setCell ?_ ?_ _ | (simp; done))); done)))
    (first | (go_at_call 84; go_loud (refine (HTX.out _ ((World.Ext.refl W0).drew)).mono ?_; rintro e w6 ⟨rfl, hx6⟩; have E6 : W0.Ext w6 := ((World.Ext.refl W0).drew).trans hx6; obtain ⟨s0, s1, s2, s3, s4, s5, HR⟩ := Res.store2 (.int .i64 (m : Int)) (.string tx) (HX0.out.trans E6) (Nat.le_refl _) (HO.out.ext E6); have hk8 := keep2S (u := .int .i64 (m : Int)) (v := .string tx) hb (E6.cell c0); clear hx6)))
  go_wp2
  exact bodyPost_ret (v := .agg #[.int .i64 (m : Int), .string tx]) (by simp [results, Try.results38, go_sem, s4, s5]) rfl ⟨rfl, HR.out⟩
end Go.Proofs.Ytkpgelhmeokemaa

/- Quadtrees: the implementation reads a tree. -/
namespace Go.Proofs.Ytkpgelhmeokemaa
open Go Go.RowKit
set_option maxHeartbeats 800000 in
theorem indexI2_any (a : Option Addr) (c : Nat) (xs : List Int) (v : Int) (w : World) (hn : xs.length ≤ 100000) (hr : RowI w a xs) :
    Calls Try.prog 117 #[.slice a xs.length c, .int .i64 v] w fun e w' => (∃ r : Int, e = .returned (.int .i64 r) ∧ decide (0 ≤ r) = decide (v ∈ xs)) ∧ w.Ext w' := by
  have HR := Lib.hid hr
  clear hr
  go_enter Try.func117, Try.ntmps117
  go_wp2
  go_loopw [5, 8] (fun _ m wr => ∃ k : Nat, k ≤ xs.length ∧ m = .int .i64 k ∧ Hid (∀ j, j < k → xs.getD j 0 ≠ v) ∧ w.Ext wr) (fun _ m _ => xs.length - (intOf m).toNat)
  case atStart => exact ⟨0, Nat.zero_le _, rfl, fun j hj => absurd hj (by omega), .refl _⟩
  case round =>
    obtain ⟨k, hk, rfl, HB, hx⟩ := hrel
    by_cases hlt : k < xs.length
    · have hlt' : (k : Int) < (xs.length : Int) := by omega
      have hk0 : (0 : Int) ≤ (k : Int) := by omega
      obtain ⟨b2, o2, rfl, c2⟩ := HR.out k hlt
      replace c2 := hx.cell c2
      by_cases e : v = xs.getD k 0
      · have HM : Hid (v ∈ xs) := by
          show v ∈ xs
          rw [e, List.getD_eq_getElem?_getD, List.getElem?_eq_getElem hlt]
          exact List.getElem_mem hlt
        rw [← e] at c2
        clear e
        go_wp2
        go_ret
        exact ⟨⟨_, rfl, by rw [decide_eq_true (by omega), decide_eq_true HM.out]⟩, hx⟩
      · have HB2 : Hid (∀ j, j < k + 1 → xs.getD j 0 ≠ v) := fun j hj => by
          by_cases h : j < k
          · exact HB.out j h
          · have : j = k := by omega
            subst this
            exact fun h => e h.symm
        have f1 : (v == xs.getD k 0) = false := by rw [beq_eq_false_iff_ne]; exact e
        generalize xs.getD k 0 = m2 at *
        clear HB
        go_wp2
        go_roundw
        case rel => exact ⟨k + 1, by omega, by go_num, HB2, hx⟩
        case measure => simp [intOf]; omega
    · have : k = xs.length := by omega
      subst this
      go_wp2
      go_ret
      refine ⟨⟨_, rfl, ?_⟩, hx⟩
      rw [decide_eq_false (by omega), decide_eq_false]
      intro hm
      obtain ⟨j, hj, e⟩ := List.getElem_of_mem hm
      exact HB.out j hj (by rw [List.getD_eq_getElem?_getD, List.getElem?_eq_getElem hj]; exact e)
set_option maxHeartbeats 800000 in
theorem containsI2_any (a : Option Addr) (c : Nat) (xs : List Int) (v : Int) (w : World) (hn : xs.length ≤ 100000) (hr : RowI w a xs) :
    Calls Try.prog 83 #[.slice a xs.length c, .int .i64 v] w fun e w' => e = .returned (.bool (decide (v ∈ xs))) ∧ w.Ext w' := by
  have HI := Lib.hid (indexI2_any a c xs v w hn hr)
  clear hr hn
  generalize decide (v ∈ xs) = t at *
  go_enter Try.func83, Try.ntmps83
  go_wp2_with fail
  refine HI.out.mono ?_
  rintro e w1 ⟨⟨r, rfl, h⟩, hx⟩
  have H := Lib.hid h
  have HX := Lib.hid hx
  clear h hx HI
  go_wp2_with fail
  go_ret
  exact ⟨ret_bool H.out, HX.out⟩
set_option maxHeartbeats 800000 in
theorem sideOk_any (z : Int) (w : World) : Calls Try.prog 37 #[.int .i64 z] w fun e w' => e = .returned (.bool (sdOk z)) ∧ w.Ext w' := by
  obtain ⟨W0, hW0⟩ : ∃ W0, W0 = w.alloc (.cells #[.int .i64 1, .int .i64 2, .int .i64 4, .int .i64 8, .int .i64 16] 2) := ⟨_, rfl⟩
  have hx0 : w.Ext W0 := by rw [hW0]; repeat (first | exact World.Ext.refl _ | exact ⟨_, rfl⟩ | assumption | refine World.Ext.over ?_ _ | refine World.Ext.drewN ?_ _ | refine World.Ext.drew ?_ | refine World.Ext.alloc ?_ _ | refine World.Ext.setCell ?_ (by simp) _)
  have hr : RowI W0 (some ⟨w.heap.size, 0, none⟩) [1, 2, 4, 8, 16] := by
    intro i hi
    refine ⟨w.heap.size, 0, rfl, ?_⟩
    rw [hW0]
    have hi : i < 5 := hi
    match i, hi with
    | 0, _ => simp [go_sem]
    | 1, _ => simp [go_sem]
    | 2, _ => simp [go_sem]
    | 3, _ => simp [go_sem]
    | 4, _ => simp [go_sem]
  have HC := Lib.hid (containsI2_any (some ⟨w.heap.size, 0, none⟩) 5 [1, 2, 4, 8, 16] z W0 (by simp) hr)
  rw [show decide (z ∈ ([1, 2, 4, 8, 16] : List Int)) = sdOk z by rw [Bool.eq_iff_iff, decide_eq_true_iff]; simp [sdOk, or_assoc]] at HC
  have HX0 := Lib.hid hx0
  clear hr hx0
  generalize sdOk z = t at *
  go_enter Try.func37, Try.ntmps37
  go_wp2_with fail
  rw [← hW0]
  clear hW0
  refine HC.out.mono ?_
  rintro e w1 ⟨rfl, hx1⟩
  have HX1 := Lib.hid (HX0.out.trans hx1)
  clear hx1
  go_wp2_with fail
  go_ret
  exact ⟨rfl, HX1.out⟩
/-- Leaves. -/
structure Lf where
  x : Nat
  y : Nat
  m : Nat
  b : Bool
  p : ByteArray
def lfV (f : Lf) : List Value := [.int .i64 f.x, .int .i64 f.y, .int .i64 f.m, .bool f.b, .string f.p]
def lfC (ls : List Lf) : List Value := ls.flatMap lfV
theorem lfC_len : ∀ ls : List Lf, (lfC ls).length = ls.length * 5
  | [] => rfl
  | f :: ls => by
    have h := lfC_len ls
    unfold lfC at h ⊢
    rw [List.flatMap_cons, List.length_append, h, List.length_cons]
    simp [lfV]; omega
theorem lfC_app (a b : List Lf) : lfC (a ++ b) = lfC a ++ lfC b := List.flatMap_append
def pth (p : ByteArray) (k : Nat) : ByteArray := p ++ txB [UInt8.ofNat (48 + k)]
def QT.lvs : QT → Nat → Nat → Nat → ByteArray → List Lf
  | .leaf b, n, x, y, p => [⟨x, y, 2 ^ n, b, p⟩]
  | .node a b c d, n, x, y, p => a.lvs (n - 1) (qX x (2 ^ (n - 1)) 0) (qY y (2 ^ (n - 1)) 0) (pth p 0) ++ b.lvs (n - 1) (qX x (2 ^ (n - 1)) 1) (qY y (2 ^ (n - 1)) 1) (pth p 1) ++
      c.lvs (n - 1) (qX x (2 ^ (n - 1)) 2) (qY y (2 ^ (n - 1)) 2) (pth p 2) ++ d.lvs (n - 1) (qX x (2 ^ (n - 1)) 3) (qY y (2 ^ (n - 1)) 3) (pth p 3)
/-- Reading without what could be shorter. -/
def rd (s : ByteArray) (n k : Nat) : Option (QT × Nat) := (parse s n k).bind fun p => if p.1.red then some p else none
def chn (s : ByteArray) (n k : Nat) : Nat → Option (List QT × Nat)
  | 0 => some ([], k + 1)
  | j + 1 => (chn s n k j).bind fun q => (rd s n q.2).map fun p => (q.1 ++ [p.1], p.2)
theorem chn_stop {s : ByteArray} {n k j : Nat} {Ts : List QT} {a : Nat} (h : chn s n k j = some (Ts, a)) (hr : rd s n a = none) : ∀ i, chn s n k (j + 1 + i) = none
  | 0 => by show (chn s n k j).bind _ = none; rw [h]; show (rd s n a).map _ = none; rw [hr]; rfl
  | i + 1 => by show (chn s n k (j + 1 + i)).bind _ = none; rw [chn_stop h hr i]; rfl
theorem chn_next {s : ByteArray} {n k j : Nat} {Ts : List QT} {a : Nat} {T : QT} {a' : Nat} (h : chn s n k j = some (Ts, a)) (hr : rd s n a = some (T, a')) : chn s n k (j + 1) = some (Ts ++ [T], a') := by
  show (chn s n k j).bind _ = _; rw [h]; show (rd s n a).map _ = _; rw [hr]; rfl
theorem rd_some {s : ByteArray} {n k : Nat} {T : QT} {k' : Nat} (h : rd s n k = some (T, k')) : parse s n k = some (T, k') ∧ T.red = true := by
  unfold rd at h
  cases e : parse s n k with
  | none => rw [e] at h; cases h
  | some p =>
    rw [e] at h
    dsimp only [Option.bind_some] at h
    split at h
    · cases h; exact ⟨rfl, by assumption⟩
    · cases h
theorem rd_none {s : ByteArray} {n k : Nat} (h : rd s n k = none) : parse s n k = none ∨ ∃ T k', parse s n k = some (T, k') ∧ T.red = false := by
  unfold rd at h
  cases e : parse s n k with
  | none => exact .inl rfl
  | some p =>
    rw [e] at h
    dsimp only [Option.bind_some] at h
    split at h
    · cases h
    · rename_i hr
      exact .inr ⟨p.1, p.2, rfl, by simpa using hr⟩
theorem chn_inv {s : ByteArray} {n k j : Nat} {Ts : List QT} {a : Nat} (h : chn s n k (j + 1) = some (Ts, a)) : ∃ Ts' a' T, chn s n k j = some (Ts', a') ∧ rd s n a' = some (T, a) ∧ Ts = Ts' ++ [T] := by
  have h' : ((chn s n k j).bind fun q => (rd s n q.2).map fun p => (q.1 ++ [p.1], p.2)) = some (Ts, a) := h
  cases e : chn s n k j with
  | none => rw [e] at h'; cases h'
  | some q =>
    rw [e] at h'
    dsimp only [Option.bind_some] at h'
    cases e2 : rd s n q.2 with
    | none => rw [e2] at h'; cases h'
    | some p =>
      rw [e2] at h'
      cases h'
      exact ⟨q.1, q.2, p.1, rfl, e2, rfl⟩
theorem chn_four {s : ByteArray} {n k : Nat} {Ts : List QT} {e : Nat} (h : chn s n k 4 = some (Ts, e)) : ∃ a b c d a1 a2 a3, Ts = [a, b, c, d] ∧ rd s n (k + 1) = some (a, a1) ∧ rd s n a1 = some (b, a2) ∧ rd s n a2 = some (c, a3) ∧ rd s n a3 = some (d, e) := by
  obtain ⟨T3, a3, d, h3, r3, rfl⟩ := chn_inv h
  obtain ⟨T2, a2, c, h2, r2, rfl⟩ := chn_inv h3
  obtain ⟨T1, a1, b, h1, r1, rfl⟩ := chn_inv h2
  obtain ⟨T0, a0, a, h0, r0, rfl⟩ := chn_inv h1
  cases h0
  exact ⟨a, b, c, d, a1, a2, a3, rfl, r0, r1, r2, r3⟩
theorem rd_node {s : ByteArray} {n k : Nat} (hb : byt s k = 40) {T : QT} {k' : Nat} (h : rd s (n + 1) k = some (T, k')) : ∃ a b c d e, chn s n k 4 = some ([a, b, c, d], e) ∧ byt s e = 41 ∧ T = .node a b c d ∧ k' = e + 1 ∧ four true a b c d = false ∧ four false a b c d = false := by
  obtain ⟨hp, hr⟩ := rd_some h
  rw [parse_node hb] at hp
  unfold nodeF at hp
  cases e1 : parse s n (k + 1) with
  | none => simp [e1, nxtF] at hp
  | some p1 =>
    cases e2 : parse s n p1.2 with
    | none => simp [e1, e2, nxtF] at hp
    | some p2 =>
      cases e3 : parse s n p2.2 with
      | none => simp [e1, e2, e3, nxtF] at hp
      | some p3 =>
        cases e4 : parse s n p3.2 with
        | none => simp [e1, e2, e3, e4, nxtF] at hp
        | some p4 =>
          simp [e1, e2, e3, e4, nxtF, pT] at hp
          obtain ⟨hb4, rfl, rfl⟩ := hp
          simp only [QT.red, Bool.and_eq_true, Bool.not_eq_true'] at hr
          obtain ⟨⟨⟨⟨⟨r1, r2⟩, r3⟩, r4⟩, f1⟩, f2⟩ := hr
          have d1 : rd s n (k + 1) = some (p1.1, p1.2) := by unfold rd; rw [e1]; simp [r1]
          have d2 : rd s n p1.2 = some (p2.1, p2.2) := by unfold rd; rw [e2]; simp [r2]
          have d3 : rd s n p2.2 = some (p3.1, p3.2) := by unfold rd; rw [e3]; simp [r3]
          have d4 : rd s n p3.2 = some (p4.1, p4.2) := by unfold rd; rw [e4]; simp [r4]
          have c0 : chn s n k 0 = some ([], k + 1) := rfl
          have c4 := chn_next (chn_next (chn_next (chn_next c0 d1) d2) d3) d4
          exact ⟨p1.1, p2.1, p3.1, p4.1, p4.2, c4, hb4, rfl, rfl, f1, f2⟩
theorem rd_yes {s : ByteArray} {n k : Nat} (hb : byt s k = 40) {a b c d : QT} {e : Nat} (h : chn s n k 4 = some ([a, b, c, d], e)) (h41 : byt s e = 41) (f1 : four true a b c d = false) (f2 : four false a b c d = false) : rd s (n + 1) k = some (.node a b c d, e + 1) := by
  obtain ⟨a', b', c', d', a1, a2, a3, hl, r0, r1, r2, r3⟩ := chn_four h
  cases hl
  obtain ⟨q0, s0⟩ := rd_some r0
  obtain ⟨q1, s1⟩ := rd_some r1
  obtain ⟨q2, s2⟩ := rd_some r2
  obtain ⟨q3, s3⟩ := rd_some r3
  unfold rd
  rw [parse_node hb]
  unfold nodeF
  simp [q0, q1, q2, q3, nxtF, pT, h41, QT.red, s0, s1, s2, s3, f1, f2]
theorem rd_none_of {s : ByteArray} {n k : Nat} (hb : byt s k = 40) (h : ∀ a b c d e, chn s n k 4 = some ([a, b, c, d], e) → byt s e ≠ 41 ∨ four true a b c d = true ∨ four false a b c d = true) : rd s (n + 1) k = none := by
  cases e : rd s (n + 1) k with
  | none => rfl
  | some p =>
    obtain ⟨a, b, c, d, e', h1, h2, -, -, h3, h4⟩ := rd_node (T := p.1) (k' := p.2) hb e
    rcases h a b c d e' h1 with h5 | h5 | h5
    · exact absurd h2 h5
    · rw [h3] at h5; cases h5
    · rw [h4] at h5; cases h5
/-- The text of four quarters. -/
theorem chn_cut {s : ByteArray} {n k : Nat} (hb : byt s k = 40) {a b c d : QT} {e : Nat} (h : chn s n k 4 = some ([a, b, c, d], e)) : k + 5 ≤ e ∧ e ≤ s.size ∧ cut s k e = 40 :: (a.text ++ b.text ++ c.text ++ d.text) := by
  obtain ⟨a', b', c', d', a1, a2, a3, hl, r0, r1, r2, r3⟩ := chn_four h
  cases hl
  obtain ⟨-, l1, m1, t1⟩ := parse_ok s n _ _ _ (rd_some r0).1
  obtain ⟨-, l2, m2, t2⟩ := parse_ok s n _ _ _ (rd_some r1).1
  obtain ⟨-, l3, m3, t3⟩ := parse_ok s n _ _ _ (rd_some r2).1
  obtain ⟨-, l4, m4, t4⟩ := parse_ok s n _ _ _ (rd_some r3).1
  obtain ⟨h1, h2⟩ := cut_one (c := 40) hb (by decide)
  refine ⟨by omega, m4, ?_⟩
  rw [cut_app (b := k + 1) (by omega) (by omega), cut_app (a := k + 1) (b := a1) (by omega) (by omega), cut_app (a := a1) (b := a2) (by omega) (by omega), cut_app (a := a2) (b := a3) (by omega) (by omega), h2, t1, t2, t3, t4]
  simp
theorem four_text (v : Bool) (a b c d : QT) : ((40 :: (a.text ++ b.text ++ c.text ++ d.text)) == [40, tokB v, tokB v, tokB v, tokB v]) = four v a b c d := by
  rw [Bool.eq_iff_iff, beq_iff_eq]
  have ha := a.text_pos
  have hb := b.text_pos
  have hc := c.text_pos
  have hd := d.text_pos
  constructor
  · intro h
    have hl := congrArg List.length h
    simp only [List.length_cons, List.length_append, List.length_nil] at hl
    obtain ⟨ta, ea⟩ := List.length_eq_one_iff.1 (show a.text.length = 1 by omega)
    obtain ⟨tb, eb⟩ := List.length_eq_one_iff.1 (show b.text.length = 1 by omega)
    obtain ⟨tc, ec⟩ := List.length_eq_one_iff.1 (show c.text.length = 1 by omega)
    obtain ⟨td, ed⟩ := List.length_eq_one_iff.1 (show d.text.length = 1 by omega)
    rw [ea, eb, ec, ed] at h
    simp only [List.cons_append, List.nil_append, List.cons.injEq, true_and, and_true] at h
    obtain ⟨h1, h2, h3, h4⟩ := h
    unfold four
    rw [QT.isB_of (by rw [ea, h1]), QT.isB_of (by rw [eb, h2]), QT.isB_of (by rw [ec, h3]), QT.isB_of (by rw [ed, h4])]
    rfl
  · intro h
    simp only [four, Bool.and_eq_true] at h
    obtain ⟨⟨⟨i1, i2⟩, i3⟩, i4⟩ := h
    rw [QT.of_isB i1, QT.of_isB i2, QT.of_isB i3, QT.of_isB i4]
    rfl
/-- The leaves of the quarters so far. -/
def lvC (n x y : Nat) (p : ByteArray) (Ts : List QT) : List Lf := Ts.zipIdx.flatMap fun q => q.1.lvs n (qX x (2 ^ n) q.2) (qY y (2 ^ n) q.2) (pth p q.2)
theorem lvC_next (n x y : Nat) (p : ByteArray) (Ts : List QT) (T : QT) : lvC n x y p (Ts ++ [T]) = lvC n x y p Ts ++ T.lvs n (qX x (2 ^ n) Ts.length) (qY y (2 ^ n) Ts.length) (pth p Ts.length) := by
  unfold lvC
  rw [List.zipIdx_append, List.flatMap_append]
  simp
theorem lvC_four (n x y : Nat) (p : ByteArray) (a b c d : QT) : lvC n x y p [a, b, c, d] = (QT.node a b c d).lvs (n + 1) x y p := by
  simp [lvC, QT.lvs, List.zipIdx]
def Cq : Nat → Nat
  | 0 => 1
  | n + 1 => 4 * Cq n
theorem Cq_pos : ∀ n, 1 ≤ Cq n
  | 0 => Nat.le_refl _
  | n + 1 => by have := Cq_pos n; unfold Cq; omega
theorem lvs_len : ∀ (T : QT) (n x y : Nat) (p : ByteArray), T.fits n → 1 ≤ (T.lvs n x y p).length ∧ (T.lvs n x y p).length ≤ Cq n
  | .leaf b, n, x, y, p, _ => ⟨Nat.le_refl _, Cq_pos n⟩
  | .node a b c d, 0, _, _, _, h => h.elim
  | .node a b c d, n + 1, x, y, p, h => by
    have h1 := lvs_len a n (qX x (2 ^ n) 0) (qY y (2 ^ n) 0) (pth p 0) h.1
    have h2 := lvs_len b n (qX x (2 ^ n) 1) (qY y (2 ^ n) 1) (pth p 1) h.2.1
    have h3 := lvs_len c n (qX x (2 ^ n) 2) (qY y (2 ^ n) 2) (pth p 2) h.2.2.1
    have h4 := lvs_len d n (qX x (2 ^ n) 3) (qY y (2 ^ n) 3) (pth p 3) h.2.2.2
    simp only [QT.lvs, Nat.add_sub_cancel, List.length_append]
    unfold Cq
    omega
end Go.Proofs.Ytkpgelhmeokemaa

/- Quadtrees: the implementation's walk of reading. -/
namespace Go.Proofs.Ytkpgelhmeokemaa
open Go Go.RowKit
def SqRet (w : World) (r : Option (QT × Nat)) (n x y : Nat) (p : ByteArray) (e : Ending) (w' : World) : Prop := match r with
  | some q => ∃ v, e = .returned (.tuple #[v, .int .i64 (q.2 : Int)]) ∧ w.Ext w' ∧ w'.ownsRow w.heap.size 88 5 v (q.1.lvs n x y p).length (lfC (q.1.lvs n x y p))
  | none => e = .returned (.tuple #[.slice none 0 0, .int .i64 (-1)]) ∧ w.Ext w'
theorem SqRet.no {w w' : World} {n x y : Nat} {p : ByteArray} (hx : w.Ext w') : SqRet w none n x y p (.returned (.tuple #[.slice none 0 0, .int .i64 (-1)])) w' := ⟨rfl, hx⟩
set_option maxRecDepth 5000 in
set_option maxHeartbeats 1600000 in
theorem readLeaf_any (s : ByteArray) (hs : s.size ≤ 1048576) (n k x y : Nat) (xi yi mi : Int) (p : ByteArray) (w : World) (hk : k ≤ s.size) (hn : n ≤ 4) (hxi : xi = x) (hyi : yi = y) (hmi : mi = ((2 ^ n : Nat) : Int)) (h40 : n = 0 ∨ byt s k ≠ 40) :
    Calls Try.prog 86 #[.string s, .int .i64 k, .agg #[.int .i64 xi, .int .i64 yi, .int .i64 mi], .string p] w (SqRet w (rd s n k) n x y p) := by
  by_cases hk1 : s.size ≤ k
  · have e : rd s n k = none := by
      have hb : byt s k = 0 := by unfold byt; rw [dif_neg (by omega)]
      cases n <;> simp [rd, parse, leafF, hb]
    rw [e]
    have hk' : (s.size : Int) ≤ (k : Int) := by omega
    clear h40 e hmi hxi hyi
    go_enter Try.func86, Try.ntmps86
    go_wp2_with fail
    go_ret2
    refine SqRet.no ?_
    repeat (first | exact World.Ext.refl _ | exact ⟨_, rfl⟩ | assumption | refine World.Ext.over ?_ _ | refine World.Ext.drewN ?_ _ | refine World.Ext.drew ?_ | refine World.Ext.alloc ?_ _ | refine World.Ext.setCell ?_ (by simp) _)
  have hk2 : k < s.size := by omega
  have hk3 : (k : Int) < (s.size : Int) := by omega
  have hk0 : (0 : Int) ≤ (k : Int) := by omega
  have hbt := byt_at hk2
  obtain ⟨c, hc⟩ : ∃ c, s[k]'hk2 = c := ⟨_, rfl⟩
  rw [hc] at hbt
  by_cases hc4 : byt s k = 35 ∨ byt s k = 46
  · obtain ⟨b, hb⟩ : ∃ b : Bool, c.toNat = if b then 35 else 46 := by
      rcases hc4 with h | h
      · exact ⟨true, by rw [if_pos rfl]; omega⟩
      · exact ⟨false, by rw [if_neg (by decide)]; omega⟩
    have e : rd s n k = some (.leaf b, k + 1) := by
      cases b
      · have h46 : byt s k = 46 := by rw [hbt, hb]; rfl
        cases n <;> simp [rd, parse, leafF, h46, QT.red]
      · have h35 : byt s k = 35 := by rw [hbt, hb]; rfl
        cases n <;> simp [rd, parse, leafF, h35, QT.red]
    rw [e]
    obtain ⟨W0, hW0⟩ : ∃ W0, W0 = w.alloc (.cells #[.int .i64 xi, .int .i64 yi, .int .i64 mi] 86) := ⟨_, rfl⟩
    have hx0 : w.Ext W0 := by rw [hW0]; repeat (first | exact World.Ext.refl _ | exact ⟨_, rfl⟩ | assumption | refine World.Ext.over ?_ _ | refine World.Ext.drewN ?_ _ | refine World.Ext.drew ?_ | refine World.Ext.alloc ?_ _ | refine World.Ext.setCell ?_ (by simp) _)
    have d0 : W0.cell? ⟨w.heap.size, 0, none⟩ = some (.int .i64 xi) := by rw [hW0]; simp [go_sem]
    have d1 : W0.cell? ⟨w.heap.size, 1, none⟩ = some (.int .i64 yi) := by rw [hW0]; simp [go_sem]
    have d2 : W0.cell? ⟨w.heap.size, 2, none⟩ = some (.int .i64 mi) := by rw [hW0]; simp [go_sem]
    have HR : Hid (∀ w', W0.Ext w' → w'.heap[W0.heap.size]? = some (.cells #[.int .i64 xi, .int .i64 yi, .int .i64 mi, .bool b, .string p] 88 (0, 0)) → SqRet w (some (.leaf b, k + 1)) n x y p (.returned (.tuple #[.slice (some ⟨W0.heap.size, 0, none⟩) 1 1, .int .i64 ((k : Int) + 1)])) w') := fun w' hx hh =>
      ⟨_, rfl, hx0.trans hx, rfl, .inr ⟨W0.heap.size, 1, _, rfl, hx0.size, hh, Nat.le_refl _, by decide, rfl, by
        simp [lfC, lfV, QT.lvs, hxi, hyi, hmi]⟩⟩
    have hw1 : IntKind.i64.wrap ((k : Int) + 1) = (k : Int) + 1 := IntWalk.i64_in _ (by omega)
    clear h40 e hmi hxi hyi hbt hc4 hx0
    cases b
    · have hcn : c.toNat = 46 := by rw [hb]; rfl
      clear hb
      go_enter Try.func86, Try.ntmps86
      go_wp2_with fail
      rw [← hW0]
      clear hW0
      go_region_held3 (fun w' => w'.cell? ⟨w.heap.size, 0, none⟩ = some (.int .i64 xi) ∧ w'.cell? ⟨w.heap.size, 1, none⟩ = some (.int .i64 yi) ∧ w'.cell? ⟨w.heap.size, 2, none⟩ = some (.int .i64 mi))
        (refine ⟨World.Ext.cell ?_ d0, World.Ext.cell ?_ d1, World.Ext.cell ?_ d2⟩ <;> ((repeat (first | exact World.Ext.refl _ | exact ⟨_, rfl⟩ | assumption | refine World.Ext.over ?_ _ | refine World.Ext.drewN ?_ _ | refine World.Ext.drew ?_ | refine World.Ext.alloc ?_ _ | refine World.Ext.setCell ?_ ?_ _ | (simp; done))); done))
        (fail)
      clear d0 d1 d2
      go_wp2_with fail
      go_ret2
      refine HR.out _ ?_ ?_
      · (repeat (first | exact World.Ext.refl _ | exact ⟨_, rfl⟩ | assumption | refine World.Ext.over ?_ _ | refine World.Ext.drewN ?_ _ | refine World.Ext.drew ?_ | refine World.Ext.alloc ?_ _ | refine World.Ext.setCell ?_ ?_ _ | (simp; done)))
      · show (W0.heap.push _)[W0.heap.size]? = _
        simp
    · have hcn : c.toNat = 35 := by rw [hb]; rfl
      clear hb
      go_enter Try.func86, Try.ntmps86
      go_wp2_with fail
      rw [← hW0]
      clear hW0
      go_region_held3 (fun w' => w'.cell? ⟨w.heap.size, 0, none⟩ = some (.int .i64 xi) ∧ w'.cell? ⟨w.heap.size, 1, none⟩ = some (.int .i64 yi) ∧ w'.cell? ⟨w.heap.size, 2, none⟩ = some (.int .i64 mi))
        (refine ⟨World.Ext.cell ?_ d0, World.Ext.cell ?_ d1, World.Ext.cell ?_ d2⟩ <;> ((repeat (first | exact World.Ext.refl _ | exact ⟨_, rfl⟩ | assumption | refine World.Ext.over ?_ _ | refine World.Ext.drewN ?_ _ | refine World.Ext.drew ?_ | refine World.Ext.alloc ?_ _ | refine World.Ext.setCell ?_ ?_ _ | (simp; done))); done))
        (fail)
      clear d0 d1 d2
      go_wp2_with fail
      go_ret2
      refine HR.out _ ?_ ?_
      · (repeat (first | exact World.Ext.refl _ | exact ⟨_, rfl⟩ | assumption | refine World.Ext.over ?_ _ | refine World.Ext.drewN ?_ _ | refine World.Ext.drew ?_ | refine World.Ext.alloc ?_ _ | refine World.Ext.setCell ?_ ?_ _ | (simp; done)))
      · show (W0.heap.push _)[W0.heap.size]? = _
        simp
  · have e : rd s n k = none := by
      have h1 : byt s k ≠ 35 := fun h => hc4 (.inl h)
      have h2 : byt s k ≠ 46 := fun h => hc4 (.inr h)
      rcases h40 with rfl | h
      · simp [rd, parse, leafF, h1, h2]
      · cases n <;> simp [rd, parse, leafF, h1, h2, h]
    rw [e]
    have hcn1 : ((c.toNat : Int) == 35) = false := by rw [beq_eq_false_iff_ne]; omega
    have hcn2 : ((c.toNat : Int) == 46) = false := by rw [beq_eq_false_iff_ne]; omega
    have hm : mi = 1 ∨ ¬ (c.toNat : Int) = 40 := by
      rcases h40 with rfl | h
      · exact .inl hmi
      · exact .inr (by omega)
    clear h40 e hmi hxi hyi hbt hc4
    by_cases h4 : (c.toNat : Int) = 40
    · have hm1 := hm.resolve_right fun h => h h4
      subst hm1
      have h5 : ((c.toNat : Int) != 40) = false := by rw [bne_eq_false_iff_eq]; exact h4
      clear hm h4
      go_enter Try.func86, Try.ntmps86
      go_wp2_with fail
      go_ret2
      refine SqRet.no ?_
      repeat (first | exact World.Ext.refl _ | exact ⟨_, rfl⟩ | assumption | refine World.Ext.over ?_ _ | refine World.Ext.drewN ?_ _ | refine World.Ext.drew ?_ | refine World.Ext.alloc ?_ _ | refine World.Ext.setCell ?_ (by simp) _)
    · have h5 : ((c.toNat : Int) != 40) = true := by rw [bne_iff_ne]; exact h4
      clear hm h4
      go_enter Try.func86, Try.ntmps86
      go_wp2_with fail
      go_ret2
      refine SqRet.no ?_
      repeat (first | exact World.Ext.refl _ | exact ⟨_, rfl⟩ | assumption | refine World.Ext.over ?_ _ | refine World.Ext.drewN ?_ _ | refine World.Ext.drew ?_ | refine World.Ext.alloc ?_ _ | refine World.Ext.setCell ?_ (by simp) _)
theorem alloc2_at (w : World) (o1 o2 : Obj) : ((w.alloc o1).alloc o2).heap[w.heap.size + 1]? = some o2 := by
  rw [show w.heap.size + 1 = (w.alloc o1).heap.size by simp]
  exact heap_alloc_new _ _
set_option maxHeartbeats 800000 in
theorem quarters2_any (x y h : Nat) (xi yi mi : Int) (hxi : xi = x) (hyi : yi = y) (hmi : mi = 2 * (h : Int)) (hx : x ≤ 100) (hy : y ≤ 100) (hh : h ≤ 100) (w : World) :
    Calls Try.prog 118 #[.agg #[.int .i64 xi, .int .i64 yi, .int .i64 mi]] w fun e w' => ∃ g, e = .returned (.slice (some ⟨g, 0, none⟩) 4 4) ∧ w.Ext w' ∧ w.heap.size ≤ g ∧ QrAt w' g x y h ∧ ∃ cs fr, w'.heap[g]? = some (.cells cs 86 fr) := by
  have hdiv : mi / 2 = (h : Int) := by omega
  have hm0 : 0 ≤ mi := by omega
  have hm1 : mi ≤ 200 := by omega
  have hx0 : 0 ≤ xi := by omega
  have hx1 : xi ≤ 100 := by omega
  have hy0 : 0 ≤ yi := by omega
  have hy1 : yi ≤ 100 := by omega
  have HXI := Lib.hid hxi
  have HYI := Lib.hid hyi
  have HDIV := Lib.hid hdiv
  clear hxi hyi hmi hdiv
  go_enter Try.func118, Try.ntmps118
  go_wp2
  go_ret
  refine ⟨_, rfl, by repeat (first | exact World.Ext.refl _ | exact ⟨_, rfl⟩ | assumption | refine World.Ext.over ?_ _ | refine World.Ext.drewN ?_ _ | refine World.Ext.drew ?_ | refine World.Ext.alloc ?_ _ | refine World.Ext.setCell ?_ (by simp) _), by simp, ?_, ⟨_, _, alloc2_at _ _ _⟩⟩
  rw [HDIV.out, HXI.out, HYI.out]
  intro k hk
  match k, hk with
  | 0, _ => simp [go_sem, qX, qY]
  | 1, _ => simp [go_sem, qX, qY]
  | 2, _ => simp [go_sem, qX, qY]
  | 3, _ => simp [go_sem, qX, qY]
theorem Try.infoLeafM : (Try.prog.info? 88).map (fun i => (i.zero, i.size, i.bytes)) = some (some (.agg #[.int .i64 0, .int .i64 0, .int .i64 0, .bool false, .string ByteArray.empty]), 5, 48) := by kernel_rfl
theorem lfC_one (ls : List Lf) : ∀ u ∈ lfC ls, u.oneCell' = true := by
  intro u hu
  unfold lfC at hu
  obtain ⟨f, -, hf⟩ := List.mem_flatMap.1 hu
  simp only [lfV, List.mem_cons, List.not_mem_nil, or_false] at hf
  rcases hf with rfl | rfl | rfl | rfl | rfl <;> rfl
/-- The list of leaves under way. -/
structure SqSt (w : World) (gq x y h : Nat) (v : Value) (ls : List Lf) (wr : World) : Prop where
  wx : w.Ext wr
  q : QrAt wr gq x y h
  tag : ∃ cs fr, wr.heap[gq]? = some (.cells cs 86 fr)
  own : wr.ownsRow w.heap.size 88 5 v ls.length (lfC ls)
theorem SqSt.ext {w : World} {gq x y h : Nat} {v : Value} {ls : List Lf} {wr w' : World} (hS : SqSt w gq x y h v ls wr) (hx : wr.Ext w') : SqSt w gq x y h v ls w' := by
  obtain ⟨cs, fr, ht⟩ := hS.tag
  exact ⟨hS.wx.trans hx, hS.q.ext hx, ⟨cs, fr, by rw [hx.block (Array.getElem?_eq_some_iff.1 ht).1, ht]⟩, World.ownsRow.ext hS.own hx⟩
theorem SqSt.push {w : World} {gq x y h : Nat} {v v' : Value} {ls ls2 : List Lf} {wr w' : World} (hS : SqSt w gq x y h v ls wr) (hown : w'.ownsRow w.heap.size 88 5 v' (ls.length + ls2.length) (lfC ls ++ lfC ls2)) (hgrow : wr.grownBy w' v.ownBlock) : SqSt w gq x y h v' (ls ++ ls2) w' := by
  obtain ⟨cs, fr, ht⟩ := hS.tag
  have hlt : gq < wr.heap.size := (Array.getElem?_eq_some_iff.1 ht).1
  have hne := World.ownsRow.ne hS.own ht (by decide)
  have hb := hgrow.block gq hlt hne
  refine ⟨hS.wx.grown hgrow fun k hk => ((World.ownsRow.lt hS.own) k hk).1, fun k hk => ?_, ⟨cs, fr, by rw [hb, ht]⟩, by rw [List.length_append, lfC_app]; exact hown⟩
  obtain ⟨h1, h2, h3⟩ := hS.q k hk
  exact ⟨by rw [World.cell?_of_block (a := ⟨gq, k * 3, none⟩) hb]; exact h1, by rw [World.cell?_of_block (a := ⟨gq, k * 3 + 1, none⟩) hb]; exact h2, by rw [World.cell?_of_block (a := ⟨gq, k * 3 + 2, none⟩) hb]; exact h3⟩
theorem ext_list (s : ByteArray) (k a : Nat) : (s.extract k a).toList = cut s k a := by
  rw [ByteArray.toList_eq]
  unfold cut
  rw [ByteArray.data_extract]
  simp
theorem Cq_3 {n : Nat} (h : n ≤ 3) : Cq n ≤ 64 := by
  match n, h with
  | 0, _ => decide
  | 1, _ => decide
  | 2, _ => decide
  | 3, _ => decide
theorem encU0 : Utf8.encode 48 = txB [UInt8.ofNat (48 + 0)] := by rfl
theorem encU1 : Utf8.encode 49 = txB [UInt8.ofNat (48 + 1)] := by rfl
theorem encU2 : Utf8.encode 50 = txB [UInt8.ofNat (48 + 2)] := by rfl
theorem encU3 : Utf8.encode 51 = txB [UInt8.ofNat (48 + 3)] := by rfl
set_option maxRecDepth 5000 in
set_option maxHeartbeats 3200000 in
theorem readSquare_any (s : ByteArray) (hs : s.size ≤ 1048576) : ∀ (n k x y : Nat) (xi yi mi : Int) (p : ByteArray) (w : World), n ≤ 4 → k ≤ s.size → xi = x → yi = y → mi = ((2 ^ n : Nat) : Int) → x + 2 ^ n ≤ 16 → y + 2 ^ n ≤ 16 → p.size + n ≤ 4 →
    Calls Try.prog 86 #[.string s, .int .i64 k, .agg #[.int .i64 xi, .int .i64 yi, .int .i64 mi], .string p] w (SqRet w (rd s n k) n x y p) := by
  intro n
  induction n with
  | zero =>
    intro k x y xi yi mi p w hn hk hxi hyi hmi _ _ _
    exact readLeaf_any s hs 0 k x y xi yi mi p w hk hn hxi hyi hmi (.inl rfl)
  | succ n ih =>
    intro k x y xi yi mi p w hn hk hxi hyi hmi hx hy hps
    by_cases hb : byt s k = 40
    case neg => exact readLeaf_any s hs (n + 1) k x y xi yi mi p w hk hn hxi hyi hmi (.inr hb)
    have hk2 : k < s.size := by
      by_cases hk : k < s.size
      · exact hk
      · unfold byt at hb; rw [dif_neg hk] at hb; cases hb
    have hbt := byt_at hk2
    obtain ⟨c, hc⟩ : ∃ c, s[k]'hk2 = c := ⟨_, rfl⟩
    rw [hc] at hbt
    have hcn : c.toNat = 40 := by omega
    obtain ⟨h, hh⟩ : ∃ h : Nat, h = 2 ^ n := ⟨_, rfl⟩
    have e2 : (2 : Nat) ^ (n + 1) = 2 * h := by rw [Nat.pow_succ, hh]; omega
    have hpos : 0 < h := by rw [hh]; exact Nat.two_pow_pos n
    rw [e2] at hmi hx hy
    have IH : Hid (∀ j, j < 4 → ∀ (a : Nat) (q : ByteArray) (w' : World), a ≤ s.size → q.size = p.size + 1 → Calls Try.prog 86 #[.string s, .int .i64 a, .agg #[.int .i64 ((qX x h j : Nat) : Int), .int .i64 ((qY y h j : Nat) : Int), .int .i64 (h : Int)], .string q] w' (SqRet w' (rd s n a) n (qX x h j) (qY y h j) q)) := fun j hj a q w' ha hq => by
      have h1 : (j % 2) * h ≤ 1 * h := Nat.mul_le_mul_right _ (by omega)
      have h2 : (j / 2) * h ≤ 1 * h := Nat.mul_le_mul_right _ (by omega)
      exact ih a (qX x h j) (qY y h j) _ _ h q w' (by omega) ha rfl rfl (by rw [hh]) (by rw [← hh]; unfold qX; omega) (by rw [← hh]; unfold qY; omega) (by omega)
    have HQ : Hid (∀ w', Calls Try.prog 118 #[.agg #[.int .i64 xi, .int .i64 yi, .int .i64 mi]] w' fun e w'' => ∃ g, e = .returned (.slice (some ⟨g, 0, none⟩) 4 4) ∧ w'.Ext w'' ∧ w'.heap.size ≤ g ∧ QrAt w'' g x y h ∧ ∃ cs fr, w''.heap[g]? = some (.cells cs 86 fr)) := fun w' => quarters2_any x y h xi yi mi hxi hyi (by omega) (by omega) (by omega) (by omega) w'
    have hne : (mi == 1) = false := by rw [beq_eq_false_iff_ne]; omega
    have HB := Lib.hid hb
    have HH := Lib.hid hh
    have hk3 : (k : Int) < (s.size : Int) := by omega
    have hk0 : (0 : Int) ≤ (k : Int) := by omega
    obtain ⟨W0, hW0⟩ : ∃ W0, W0 = (w.alloc (.cells #[.int .i64 xi, .int .i64 yi, .int .i64 mi] 86)).alloc (.cells #[] 88) := ⟨_, rfl⟩
    have hx0 : w.Ext W0 := by rw [hW0]; repeat (first | exact World.Ext.refl _ | exact ⟨_, rfl⟩ | assumption | refine World.Ext.over ?_ _ | refine World.Ext.drewN ?_ _ | refine World.Ext.drew ?_ | refine World.Ext.alloc ?_ _ | refine World.Ext.setCell ?_ (by simp) _)
    have hown0 : W0.ownsRow w.heap.size 88 5 (.slice (some ⟨w.heap.size + 1, 0, none⟩) 0 0) 0 [] := by
      have h := World.ownsRow_made (base := w.heap.size) (e := 88) (size := 5) (w.alloc (.cells #[.int .i64 xi, .int .i64 yi, .int .i64 mi] 86)) #[] 0 (by simp) (Nat.zero_le _) rfl
      rw [hW0]
      simpa using h
    have HX0 := Lib.hid hx0
    have HOWN0 := Lib.hid hown0
    obtain ⟨R, hR⟩ : ∃ R, R = rd s (n + 1) k := ⟨_, rfl⟩
    rw [← hR]
    have HR := Lib.hid hR
    have hn3 : n ≤ 3 := by omega
    obtain ⟨i0, hi, hz0, hz1, hz2⟩ := info_parts Try.infoLeafM
    clear hR ih hbt hb hmi hxi hyi e2 hh hx0 hown0
    go_enter Try.func86, Try.ntmps86
    go_wp2_with fail
    rw [← hW0]
    refine (HQ.out _).mono ?_
    rintro e w1 ⟨gq, rfl, hx1, -, hqr, htag⟩
    have HS0 : Hid (SqSt w gq x y h (.slice (some ⟨w.heap.size + 1, 0, none⟩) 0 0) (lvC n x y p []) w1) := ⟨HX0.out.trans hx1, hqr, htag, World.ownsRow.ext HOWN0.out hx1⟩
    clear hx1 hqr htag HQ HOWN0 HX0 hW0
    go_wp2_with fail
    go_loopw [1, 10, 57] (fun v1 v10 v wr => ∃ (j a : Nat) (Ts : List QT), j ≤ 4 ∧ v = .int .i64 j ∧ v1 = .int .i64 a ∧ a ≤ s.size ∧ Hid (Ts.length = j) ∧ Hid (chn s n k j = some (Ts, a)) ∧ Hid ((lvC n x y p Ts).length ≤ j * 64) ∧ Hid (SqSt w gq x y h v10 (lvC n x y p Ts) wr)) (fun _ _ v _ => 4 - (intOf v).toNat)
    case atStart => exact ⟨0, k + 1, [], by omega, rfl, by go_num, by omega, rfl, rfl, Nat.zero_le _, HS0⟩
    case round =>
      obtain ⟨j, a, Ts, hj, rfl, rfl, ha, HTL, HCH, HLL, HS⟩ := hrel
      clear HS0
      obtain ⟨w2, rfl⟩ : ∃ w2 : World, w2 = wr := ⟨_, rfl⟩
      by_cases hlt : j < 4
      · have hlt' : (j : Int) < 4 := by omega
        have hj0 : (0 : Int) ≤ (j : Int) := by omega
        obtain ⟨q0, q1, q2⟩ := HS.out.q j hlt
        have HI := Lib.hid (IH.out j hlt)
        have HNO : Hid (rd s n a = none → R = none) := fun hr => by
          rw [HR.out]
          refine rd_none_of HB.out fun a1 b1 c1 d1 e1 h1 => ?_
          have h2 := chn_stop HCH.out hr (3 - j)
          rw [show j + 1 + (3 - j) = 4 by omega, h1] at h2
          cases h2
        have HNX : Hid (∀ (T : QT) (a' : Nat), rd s n a = some (T, a') → a' ≤ s.size ∧ 1 ≤ (T.lvs n (qX x h j) (qY y h j) (pth p j)).length ∧ (T.lvs n (qX x h j) (qY y h j) (pth p j)).length ≤ 64 ∧ Hid ((Ts ++ [T]).length = j + 1) ∧ Hid (chn s n k (j + 1) = some (Ts ++ [T], a')) ∧
            Hid (lvC n x y p (Ts ++ [T]) = lvC n x y p Ts ++ T.lvs n (qX x h j) (qY y h j) (pth p j))) := fun T a' hr => by
          obtain ⟨f1, -, f3, -⟩ := parse_ok s n a T a' (rd_some hr).1
          obtain ⟨l1, l2⟩ := lvs_len T n (qX x h j) (qY y h j) (pth p j) f1
          refine ⟨f3, l1, Nat.le_trans l2 (Cq_3 hn3), by show _ = _; rw [List.length_append, HTL.out]; rfl, chn_next HCH.out hr, ?_⟩
          show _ = _
          rw [lvC_next, HTL.out, ← HH.out]
        have hjj : j = 0 ∨ j = 1 ∨ j = 2 ∨ j = 3 := by omega
        generalize qX x h j = X at *
        generalize qY y h j = Y at *
        rcases hjj with rfl | rfl | rfl | rfl
        · have hu : (Utf8.encode 48).size = 1 := by rw [encU0]; rfl
          have hp4 : p.size ≤ 4 := by omega
          have HE := Lib.hid (show p ++ Utf8.encode 48 = pth p 0 by rw [encU0]; rfl)
          go_wp2_with fail
          rw [HE.out]
          refine (HI.out a (pth p 0) _ ha (by unfold pth; rw [ByteArray.size_append, txB_size]; rfl)).mono ?_
          intro e w3 hret
          cases hr : rd s n a with
          | none =>
            rw [hr] at hret
            obtain ⟨rfl, hx3⟩ := hret
            have hRn := HNO.out hr
            subst hRn
            have HX3 : Hid (w.Ext w3) := (HS.out.wx.alloc _).trans hx3
            clear hx3 hr HNO HNX
            go_wp2_with fail
            go_ret2
            exact SqRet.no HX3.out
          | some q =>
            obtain ⟨T, a'⟩ := q
            rw [hr] at hret
            obtain ⟨v3, rfl, hx3, hown3⟩ := hret
            obtain ⟨ha', hl1, hl2, HTL', HCH', HLV⟩ := HNX.out T a' hr
            have HS3 := Lib.hid (HS.out.ext (((World.Ext.refl w2).alloc _).trans hx3))
            clear hr HNO HNX HI HCH HTL hx3
            generalize T.lvs n X Y (pth p 0) = ls2 at *
            have HNEWS : Hid (∀ (i : Nat) (u : Value), (lfC ls2)[i]? = some u → ∀ g3 cap3, v3 = .slice (some ⟨g3, 0, none⟩) ls2.length cap3 → w3.cell? ((⟨g3, 0, none⟩ : Addr).add i) = some u) := fun i u hu g3 cap3 hv => by
              subst hv
              have hlt : i < ls2.length * 5 := by rw [← lfC_len]; exact (List.getElem?_eq_some_iff.1 hu).1
              obtain ⟨b5, o5, h5, -, -, h6, -⟩ := World.ownsRow.own hown3 hlt
              cases h5
              rw [Addr.add_mk, h6, hu]
            obtain ⟨g3, cap3, rfl⟩ : ∃ g3 cap3, v3 = .slice (some ⟨g3, 0, none⟩) ls2.length cap3 := by
              rcases hown3.2 with ⟨-, h0⟩ | ⟨g3, cap3, cur, h3, -⟩
              · omega
              · exact ⟨g3, cap3, h3⟩
            have HNW : Hid (∀ (i : Nat) (u : Value), (lfC ls2)[i]? = some u → w3.cell? ((⟨g3, 0, none⟩ : Addr).add i) = some u) := fun i u hu => HNEWS.out i u hu g3 cap3 rfl
            have HLQ := Lib.hid (lfC_len ls2)
            have HONE := Lib.hid (lfC_one ls2)
            have hll := HLL.out
            have HB1 : Hid ((lvC n x y p Ts).length + ls2.length ≤ maxLen) := by show _ ≤ _; unfold maxLen; omega
            have HB2 : Hid (((lvC n x y p Ts).length + ls2.length) * 48 ≤ 140737488355328) := by show _ ≤ _; omega
            have HLE := Lib.hid (HS3.out.wx.size)
            have hown := HS3.out.own
            have HLL' : Hid ((lvC n x y p (Ts ++ [T])).length ≤ (0 + 1) * 64) := by show _ ≤ _; rw [HLV.out, List.length_append]; omega
            have HNEXT : Hid (∀ v' w', w'.ownsRow w.heap.size 88 5 v' ((lvC n x y p Ts).length + ls2.length) (lfC (lvC n x y p Ts) ++ lfC ls2) → w3.grownBy w' u10.ownBlock → Hid (SqSt w gq x y h v' (lvC n x y p (Ts ++ [T])) w')) := fun v' w' h1 h2 => by
              show SqSt _ _ _ _ _ _ _ _
              rw [HLV.out]
              exact HS3.out.push h1 h2
            clear hown3 HNEWS HS HS3 hll HLL HLV
            generalize lvC n x y p Ts = ls1 at *
            go_wp2_with (at_builtin; refine wpList_append_own _ rfl _ _ 82 rfl w.heap.size 88 i0 (.agg #[.int .i64 0, .int .i64 0, .int .i64 0, .bool false, .string ByteArray.empty]) 5 48 Try.underlying82 hi hz0 hz1 hz2 rfl (by decide) _ _ _ rfl hown ⟨g3, 0, none⟩ ls2.length _ (lfC ls2) rfl HLQ.out HNW.out HONE.out HB1.out HB2.out HLE.out (fun v' w1 hown' hgrow _ => ?_); have HS4 := HNEXT.out _ _ hown' hgrow; clear hown' hgrow hown)
            go_roundw
            case rel => exact ⟨0 + 1, a', Ts ++ [T], by omega, by go_num, rfl, ha', HTL', HCH', HLL', HS4⟩
            case measure => simp [intOf]
        · have hu : (Utf8.encode 49).size = 1 := by rw [encU1]; rfl
          have hp4 : p.size ≤ 4 := by omega
          have HE := Lib.hid (show p ++ Utf8.encode 49 = pth p 1 by rw [encU1]; rfl)
          go_wp2_with fail
          rw [HE.out]
          refine (HI.out a (pth p 1) _ ha (by unfold pth; rw [ByteArray.size_append, txB_size]; rfl)).mono ?_
          intro e w3 hret
          cases hr : rd s n a with
          | none =>
            rw [hr] at hret
            obtain ⟨rfl, hx3⟩ := hret
            have hRn := HNO.out hr
            subst hRn
            have HX3 : Hid (w.Ext w3) := (HS.out.wx.alloc _).trans hx3
            clear hx3 hr HNO HNX
            go_wp2_with fail
            go_ret2
            exact SqRet.no HX3.out
          | some q =>
            obtain ⟨T, a'⟩ := q
            rw [hr] at hret
            obtain ⟨v3, rfl, hx3, hown3⟩ := hret
            obtain ⟨ha', hl1, hl2, HTL', HCH', HLV⟩ := HNX.out T a' hr
            have HS3 := Lib.hid (HS.out.ext (((World.Ext.refl w2).alloc _).trans hx3))
            clear hr HNO HNX HI HCH HTL hx3
            generalize T.lvs n X Y (pth p 1) = ls2 at *
            have HNEWS : Hid (∀ (i : Nat) (u : Value), (lfC ls2)[i]? = some u → ∀ g3 cap3, v3 = .slice (some ⟨g3, 0, none⟩) ls2.length cap3 → w3.cell? ((⟨g3, 0, none⟩ : Addr).add i) = some u) := fun i u hu g3 cap3 hv => by
              subst hv
              have hlt : i < ls2.length * 5 := by rw [← lfC_len]; exact (List.getElem?_eq_some_iff.1 hu).1
              obtain ⟨b5, o5, h5, -, -, h6, -⟩ := World.ownsRow.own hown3 hlt
              cases h5
              rw [Addr.add_mk, h6, hu]
            obtain ⟨g3, cap3, rfl⟩ : ∃ g3 cap3, v3 = .slice (some ⟨g3, 0, none⟩) ls2.length cap3 := by
              rcases hown3.2 with ⟨-, h0⟩ | ⟨g3, cap3, cur, h3, -⟩
              · omega
              · exact ⟨g3, cap3, h3⟩
            have HNW : Hid (∀ (i : Nat) (u : Value), (lfC ls2)[i]? = some u → w3.cell? ((⟨g3, 0, none⟩ : Addr).add i) = some u) := fun i u hu => HNEWS.out i u hu g3 cap3 rfl
            have HLQ := Lib.hid (lfC_len ls2)
            have HONE := Lib.hid (lfC_one ls2)
            have hll := HLL.out
            have HB1 : Hid ((lvC n x y p Ts).length + ls2.length ≤ maxLen) := by show _ ≤ _; unfold maxLen; omega
            have HB2 : Hid (((lvC n x y p Ts).length + ls2.length) * 48 ≤ 140737488355328) := by show _ ≤ _; omega
            have HLE := Lib.hid (HS3.out.wx.size)
            have hown := HS3.out.own
            have HLL' : Hid ((lvC n x y p (Ts ++ [T])).length ≤ (1 + 1) * 64) := by show _ ≤ _; rw [HLV.out, List.length_append]; omega
            have HNEXT : Hid (∀ v' w', w'.ownsRow w.heap.size 88 5 v' ((lvC n x y p Ts).length + ls2.length) (lfC (lvC n x y p Ts) ++ lfC ls2) → w3.grownBy w' u10.ownBlock → Hid (SqSt w gq x y h v' (lvC n x y p (Ts ++ [T])) w')) := fun v' w' h1 h2 => by
              show SqSt _ _ _ _ _ _ _ _
              rw [HLV.out]
              exact HS3.out.push h1 h2
            clear hown3 HNEWS HS HS3 hll HLL HLV
            generalize lvC n x y p Ts = ls1 at *
            go_wp2_with (at_builtin; refine wpList_append_own _ rfl _ _ 82 rfl w.heap.size 88 i0 (.agg #[.int .i64 0, .int .i64 0, .int .i64 0, .bool false, .string ByteArray.empty]) 5 48 Try.underlying82 hi hz0 hz1 hz2 rfl (by decide) _ _ _ rfl hown ⟨g3, 0, none⟩ ls2.length _ (lfC ls2) rfl HLQ.out HNW.out HONE.out HB1.out HB2.out HLE.out (fun v' w1 hown' hgrow _ => ?_); have HS4 := HNEXT.out _ _ hown' hgrow; clear hown' hgrow hown)
            go_roundw
            case rel => exact ⟨1 + 1, a', Ts ++ [T], by omega, by go_num, rfl, ha', HTL', HCH', HLL', HS4⟩
            case measure => simp [intOf]
        · have hu : (Utf8.encode 50).size = 1 := by rw [encU2]; rfl
          have hp4 : p.size ≤ 4 := by omega
          have HE := Lib.hid (show p ++ Utf8.encode 50 = pth p 2 by rw [encU2]; rfl)
          go_wp2_with fail
          rw [HE.out]
          refine (HI.out a (pth p 2) _ ha (by unfold pth; rw [ByteArray.size_append, txB_size]; rfl)).mono ?_
          intro e w3 hret
          cases hr : rd s n a with
          | none =>
            rw [hr] at hret
            obtain ⟨rfl, hx3⟩ := hret
            have hRn := HNO.out hr
            subst hRn
            have HX3 : Hid (w.Ext w3) := (HS.out.wx.alloc _).trans hx3
            clear hx3 hr HNO HNX
            go_wp2_with fail
            go_ret2
            exact SqRet.no HX3.out
          | some q =>
            obtain ⟨T, a'⟩ := q
            rw [hr] at hret
            obtain ⟨v3, rfl, hx3, hown3⟩ := hret
            obtain ⟨ha', hl1, hl2, HTL', HCH', HLV⟩ := HNX.out T a' hr
            have HS3 := Lib.hid (HS.out.ext (((World.Ext.refl w2).alloc _).trans hx3))
            clear hr HNO HNX HI HCH HTL hx3
            generalize T.lvs n X Y (pth p 2) = ls2 at *
            have HNEWS : Hid (∀ (i : Nat) (u : Value), (lfC ls2)[i]? = some u → ∀ g3 cap3, v3 = .slice (some ⟨g3, 0, none⟩) ls2.length cap3 → w3.cell? ((⟨g3, 0, none⟩ : Addr).add i) = some u) := fun i u hu g3 cap3 hv => by
              subst hv
              have hlt : i < ls2.length * 5 := by rw [← lfC_len]; exact (List.getElem?_eq_some_iff.1 hu).1
              obtain ⟨b5, o5, h5, -, -, h6, -⟩ := World.ownsRow.own hown3 hlt
              cases h5
              rw [Addr.add_mk, h6, hu]
            obtain ⟨g3, cap3, rfl⟩ : ∃ g3 cap3, v3 = .slice (some ⟨g3, 0, none⟩) ls2.length cap3 := by
              rcases hown3.2 with ⟨-, h0⟩ | ⟨g3, cap3, cur, h3, -⟩
              · omega
              · exact ⟨g3, cap3, h3⟩
            have HNW : Hid (∀ (i : Nat) (u : Value), (lfC ls2)[i]? = some u → w3.cell? ((⟨g3, 0, none⟩ : Addr).add i) = some u) := fun i u hu => HNEWS.out i u hu g3 cap3 rfl
            have HLQ := Lib.hid (lfC_len ls2)
            have HONE := Lib.hid (lfC_one ls2)
            have hll := HLL.out
            have HB1 : Hid ((lvC n x y p Ts).length + ls2.length ≤ maxLen) := by show _ ≤ _; unfold maxLen; omega
            have HB2 : Hid (((lvC n x y p Ts).length + ls2.length) * 48 ≤ 140737488355328) := by show _ ≤ _; omega
            have HLE := Lib.hid (HS3.out.wx.size)
            have hown := HS3.out.own
            have HLL' : Hid ((lvC n x y p (Ts ++ [T])).length ≤ (2 + 1) * 64) := by show _ ≤ _; rw [HLV.out, List.length_append]; omega
            have HNEXT : Hid (∀ v' w', w'.ownsRow w.heap.size 88 5 v' ((lvC n x y p Ts).length + ls2.length) (lfC (lvC n x y p Ts) ++ lfC ls2) → w3.grownBy w' u10.ownBlock → Hid (SqSt w gq x y h v' (lvC n x y p (Ts ++ [T])) w')) := fun v' w' h1 h2 => by
              show SqSt _ _ _ _ _ _ _ _
              rw [HLV.out]
              exact HS3.out.push h1 h2
            clear hown3 HNEWS HS HS3 hll HLL HLV
            generalize lvC n x y p Ts = ls1 at *
            go_wp2_with (at_builtin; refine wpList_append_own _ rfl _ _ 82 rfl w.heap.size 88 i0 (.agg #[.int .i64 0, .int .i64 0, .int .i64 0, .bool false, .string ByteArray.empty]) 5 48 Try.underlying82 hi hz0 hz1 hz2 rfl (by decide) _ _ _ rfl hown ⟨g3, 0, none⟩ ls2.length _ (lfC ls2) rfl HLQ.out HNW.out HONE.out HB1.out HB2.out HLE.out (fun v' w1 hown' hgrow _ => ?_); have HS4 := HNEXT.out _ _ hown' hgrow; clear hown' hgrow hown)
            go_roundw
            case rel => exact ⟨2 + 1, a', Ts ++ [T], by omega, by go_num, rfl, ha', HTL', HCH', HLL', HS4⟩
            case measure => simp [intOf]
        · have hu : (Utf8.encode 51).size = 1 := by rw [encU3]; rfl
          have hp4 : p.size ≤ 4 := by omega
          have HE := Lib.hid (show p ++ Utf8.encode 51 = pth p 3 by rw [encU3]; rfl)
          go_wp2_with fail
          rw [HE.out]
          refine (HI.out a (pth p 3) _ ha (by unfold pth; rw [ByteArray.size_append, txB_size]; rfl)).mono ?_
          intro e w3 hret
          cases hr : rd s n a with
          | none =>
            rw [hr] at hret
            obtain ⟨rfl, hx3⟩ := hret
            have hRn := HNO.out hr
            subst hRn
            have HX3 : Hid (w.Ext w3) := (HS.out.wx.alloc _).trans hx3
            clear hx3 hr HNO HNX
            go_wp2_with fail
            go_ret2
            exact SqRet.no HX3.out
          | some q =>
            obtain ⟨T, a'⟩ := q
            rw [hr] at hret
            obtain ⟨v3, rfl, hx3, hown3⟩ := hret
            obtain ⟨ha', hl1, hl2, HTL', HCH', HLV⟩ := HNX.out T a' hr
            have HS3 := Lib.hid (HS.out.ext (((World.Ext.refl w2).alloc _).trans hx3))
            clear hr HNO HNX HI HCH HTL hx3
            generalize T.lvs n X Y (pth p 3) = ls2 at *
            have HNEWS : Hid (∀ (i : Nat) (u : Value), (lfC ls2)[i]? = some u → ∀ g3 cap3, v3 = .slice (some ⟨g3, 0, none⟩) ls2.length cap3 → w3.cell? ((⟨g3, 0, none⟩ : Addr).add i) = some u) := fun i u hu g3 cap3 hv => by
              subst hv
              have hlt : i < ls2.length * 5 := by rw [← lfC_len]; exact (List.getElem?_eq_some_iff.1 hu).1
              obtain ⟨b5, o5, h5, -, -, h6, -⟩ := World.ownsRow.own hown3 hlt
              cases h5
              rw [Addr.add_mk, h6, hu]
            obtain ⟨g3, cap3, rfl⟩ : ∃ g3 cap3, v3 = .slice (some ⟨g3, 0, none⟩) ls2.length cap3 := by
              rcases hown3.2 with ⟨-, h0⟩ | ⟨g3, cap3, cur, h3, -⟩
              · omega
              · exact ⟨g3, cap3, h3⟩
            have HNW : Hid (∀ (i : Nat) (u : Value), (lfC ls2)[i]? = some u → w3.cell? ((⟨g3, 0, none⟩ : Addr).add i) = some u) := fun i u hu => HNEWS.out i u hu g3 cap3 rfl
            have HLQ := Lib.hid (lfC_len ls2)
            have HONE := Lib.hid (lfC_one ls2)
            have hll := HLL.out
            have HB1 : Hid ((lvC n x y p Ts).length + ls2.length ≤ maxLen) := by show _ ≤ _; unfold maxLen; omega
            have HB2 : Hid (((lvC n x y p Ts).length + ls2.length) * 48 ≤ 140737488355328) := by show _ ≤ _; omega
            have HLE := Lib.hid (HS3.out.wx.size)
            have hown := HS3.out.own
            have HLL' : Hid ((lvC n x y p (Ts ++ [T])).length ≤ (3 + 1) * 64) := by show _ ≤ _; rw [HLV.out, List.length_append]; omega
            have HNEXT : Hid (∀ v' w', w'.ownsRow w.heap.size 88 5 v' ((lvC n x y p Ts).length + ls2.length) (lfC (lvC n x y p Ts) ++ lfC ls2) → w3.grownBy w' u10.ownBlock → Hid (SqSt w gq x y h v' (lvC n x y p (Ts ++ [T])) w')) := fun v' w' h1 h2 => by
              show SqSt _ _ _ _ _ _ _ _
              rw [HLV.out]
              exact HS3.out.push h1 h2
            clear hown3 HNEWS HS HS3 hll HLL HLV
            generalize lvC n x y p Ts = ls1 at *
            go_wp2_with (at_builtin; refine wpList_append_own _ rfl _ _ 82 rfl w.heap.size 88 i0 (.agg #[.int .i64 0, .int .i64 0, .int .i64 0, .bool false, .string ByteArray.empty]) 5 48 Try.underlying82 hi hz0 hz1 hz2 rfl (by decide) _ _ _ rfl hown ⟨g3, 0, none⟩ ls2.length _ (lfC ls2) rfl HLQ.out HNW.out HONE.out HB1.out HB2.out HLE.out (fun v' w1 hown' hgrow _ => ?_); have HS4 := HNEXT.out _ _ hown' hgrow; clear hown' hgrow hown)
            go_roundw
            case rel => exact ⟨3 + 1, a', Ts ++ [T], by omega, by go_num, rfl, ha', HTL', HCH', HLL', HS4⟩
            case measure => simp [intOf]
      · have hj4 : j = 4 := by omega
        subst hj4
        obtain ⟨A, B, C, D, a1, a2, a3, rfl, r0, r1, r2, r3⟩ := chn_four HCH.out
        obtain ⟨hc1, hc2, hc3⟩ := chn_cut HB.out HCH.out
        have HC3 := Lib.hid hc3
        by_cases hae : a = s.size
        · have hRn : R = none := by
            rw [HR.out]
            refine rd_none_of HB.out fun a1 b1 c1 d1 e1 h1 => .inl ?_
            rw [HCH.out] at h1
            cases h1
            unfold byt
            rw [dif_neg (by omega)]
            decide
          subst hRn
          have HXX := Lib.hid HS.out.wx
          have hae' : (a : Int) = (s.size : Int) := by omega
          have ha1 : ¬ (a : Int) < (s.size : Int) := by omega
          have ha2 : ¬ (s.size : Int) < (a : Int) := by omega
          clear r0 r1 r2 r3 hc3 hae
          go_wp2_with fail
          go_ret2
          exact SqRet.no HXX.out
        · have ha1 : (a : Int) < (s.size : Int) := by omega
          have ha3 : a < s.size := by omega
          have hbt4 := byt_at ha3
          obtain ⟨c4, hc4⟩ : ∃ c, s[a]'ha3 = c := ⟨_, rfl⟩
          rw [hc4] at hbt4
          have HXX := Lib.hid HS.out.wx
          have HEX := ext_list s k a
          rw [hc3] at HEX
          have f1 := four_text true A B C D
          have f2 := four_text false A B C D
          rw [← HEX] at f1 f2
          obtain ⟨b1, hb1⟩ : ∃ b, four true A B C D = b := ⟨_, rfl⟩
          obtain ⟨b2, hb2⟩ : ∃ b, four false A B C D = b := ⟨_, rfl⟩
          obtain ⟨b0, hb0⟩ : ∃ b, ((c4.toNat : Int) != 41) = b := ⟨_, rfl⟩
          rw [hb1] at f1
          rw [hb2] at f2
          have HNOT : Hid ((b0 || b1 || b2) = true → R = none) := fun hor => by
            rw [HR.out]
            refine rd_none_of HB.out fun a1 b1' c1 d1 e1 h1 => ?_
            rw [HCH.out] at h1
            cases h1
            cases hx0 : b0
            · cases hx1 : b1
              · rw [hx0, hx1] at hor
                exact .inr (.inr (by rw [hb2]; simpa using hor))
              · exact .inr (.inl (by rw [hb1, hx1]))
            · rw [hx0, bne_iff_ne] at hb0
              exact .inl (by omega)
          have HYES : Hid ((b0 || b1 || b2) = false → R = some (.node A B C D, a + 1) ∧ SqRet w (some (.node A B C D, a + 1)) (n + 1) x y p (.returned (.tuple #[u10, .int .i64 ((a : Int) + 1)])) w2) := fun hor => by
            simp only [Bool.or_eq_false_iff] at hor
            obtain ⟨⟨h0, h1⟩, h2⟩ := hor
            rw [h0, bne_eq_false_iff_eq] at hb0
            refine ⟨by rw [HR.out]; exact rd_yes HB.out HCH.out (by omega) (by rw [hb1, h1]) (by rw [hb2, h2]), u10, rfl, HXX.out, ?_⟩
            have h5 := HS.out.own
            rw [lvC_four] at h5
            exact h5
          have e35 : ([40, tokB true, tokB true, tokB true, tokB true] : List UInt8) = [40, 35, 35, 35, 35] := rfl
          have e46 : ([40, tokB false, tokB false, tokB false, tokB false] : List UInt8) = [40, 46, 46, 46, 46] := rfl
          rw [e35] at f1
          rw [e46] at f2
          clear r0 r1 r2 r3 hc3 HC3 HEX hb1 hb2 e35 e46 hbt4 HS
          cases b0 <;> cases b1 <;> cases b2
          case false.false.false =>
            obtain ⟨hR, HY⟩ := HYES.out rfl
            have HY := Lib.hid HY
            subst hR
            clear HNOT HYES
            go_wp2_with fail
            go_ret2
            exact HY.out
          all_goals
            have hRn := HNOT.out rfl
            subst hRn
            clear HNOT HYES
            go_wp2_with fail
            go_ret2
            exact SqRet.no HXX.out
end Go.Proofs.Ytkpgelhmeokemaa
