/- Quadtrees: the implementation's TurnTree. -/
import Derived.Test.YtlcofjicpbbdhaaTreeO
namespace Go.Proofs.Ytlcofjicpbbdhaa
open Go Go.RowKit
theorem OfRet.none {w w' : World} {z : Int} {s : ByteArray} {e : Ending} (h : OfRet w z s e w') (ho : opn z s = .none) : e = .returned (.tuple #[.pointer .none, .bool false]) ∧ w.Ext w' := by unfold OfRet at h; rw [ho] at h; exact h
theorem OfRet.some {w w' : World} {z : Int} {s : ByteArray} {e : Ending} {n m : Nat} {T : QT} (h : OfRet w z s e w') (ho : opn z s = .some (n, T)) (hm : m = 2 ^ n) : ∃ b ab l, e = .returned (.tuple #[.pointer (.some ⟨b, 0, .none⟩), .bool true]) ∧ w.Ext w' ∧ Img w' b ab m m l ∧ ∀ i j, i < m → j < m → lF m l i j = T.on n 0 0 i j := by
  unfold OfRet at h; rw [ho] at h; subst hm; exact h
set_option maxRecDepth 5000 in
set_option maxHeartbeats 1600000 in
theorem implTurnT_any (z : Int) (s : ByteArray) (k : Int) (w : World) (hs : s.size ≤ 1048576) :
    Calls Try.prog 73 #[.agg #[.int .i64 z, .string s], .int .i64 k] w (TreeRet w (turnO z s k)) := by
  obtain ⟨W0, hW0⟩ : ∃ W0, W0 = (w.alloc (.cells #[.int .i64 z, .string s] 91)).alloc (.cells #[.int .i64 0, .string ⟨#[]⟩] 91) := ⟨_, rfl⟩
  have hx0 : w.Ext W0 := by rw [hW0]; repeat (first | exact World.Ext.refl _ | exact ⟨_, rfl⟩ | assumption | refine World.Ext.over ?_ _ | refine World.Ext.drewN ?_ _ | refine World.Ext.drew ?_ | refine World.Ext.alloc ?_ _ | refine World.Ext.setCell ?_ (by simp) _)
  have htwo : Two W0 (w.heap.size + 1) 91 (.int .i64 0) (.string ⟨#[]⟩) := by rw [hW0]; exact Two.new _ _ _ _ _ (by simp)
  have HOP := Lib.hid (ofTree_any z s W0 hs)
  have HX0 := Lib.hid hx0
  have HO := Lib.hid htwo
  clear hx0 htwo
  cases hop : opn z s with
  | none =>
    have hno : turnO z s k = none := by unfold turnO; rw [hop]; split <;> rfl
    rw [hno]
    have HR0 := Lib.hid hop
    clear hop hno
    go_enter Try.func73, Try.ntmps73
    go_wp2_with fail
    rw [← hW0]
    clear hW0
    refine HOP.out.mono ?_
    intro e w1 h
    obtain ⟨rfl, hx1⟩ := h.none HR0.out
    obtain ⟨s0, s1, s2, s3, s4, s5, HR⟩ := Res.store2 (.int .i64 0) (.string ⟨#[]⟩) (HX0.out.trans hx1) (by omega) (HO.out.ext hx1)
    clear hx1 h
    go_wp2_with fail
    exact bodyPost_ret (v := .tuple #[.agg #[.int .i64 0, .string ⟨#[]⟩], .bool false]) (by simp [results, Try.results73, go_sem, s4, s5]) rfl ⟨rfl, HR.out⟩
  | some q =>
    obtain ⟨n, T⟩ := q
    obtain ⟨hn4, hzn, -⟩ := opn_some hop
    obtain ⟨m, hm⟩ : ∃ m : Nat, m = 2 ^ n := ⟨_, rfl⟩
    rw [← hm] at hzn
    have hm16 : m ≤ 16 := by rw [hm]; exact Nat.pow_le_pow_right (by decide) hn4
    have HR0 := Lib.hid hop
    have HM := Lib.hid hm
    have HTN : Hid (∀ (w' : World) (b ab : Nat) (l : List Bool), Img w' b ab m m l → Calls Try.prog 172 #[.pointer (some ⟨b, 0, none⟩), .int .i64 k] w' (TurnedRet w' k m l)) := fun w' b ab l hI => turned_any b ab m l k w' (by omega) hI
    cases hk : inB k 0 3
    · have hno : turnO z s k = none := by unfold turnO; rw [if_neg (by rw [hk]; decide)]
      rw [hno]
      have HK := Lib.hid hk
      clear hop hno hk hzn hm
      go_enter Try.func73, Try.ntmps73
      go_wp2_with fail
      rw [← hW0]
      clear hW0
      refine HOP.out.mono ?_
      intro e w1 h
      obtain ⟨b, ab, l, rfl, hx1, hI, -⟩ := h.some HR0.out HM.out
      have HC := Lib.hid (HTN.out w1 b ab l hI)
      have HX1 := Lib.hid (HX0.out.trans hx1)
      have HO1 := Lib.hid (HO.out.ext hx1)
      clear hx1 h hI HTN HX0 HO HOP
      go_wp2_with fail
      refine HC.out.mono ?_
      intro e w2 h
      unfold TurnedRet at h
      rw [if_neg (by rw [HK.out]; decide)] at h
      obtain ⟨rfl, hx2⟩ := h
      obtain ⟨s0, s1, s2, s3, s4, s5, HR⟩ := Res.store2 (.int .i64 0) (.string ⟨#[]⟩) (HX1.out.trans hx2) (by omega) (HO1.out.ext hx2)
      clear hx2
      go_wp2_with fail
      exact bodyPost_ret (v := .tuple #[.agg #[.int .i64 0, .string ⟨#[]⟩], .bool false]) (by simp [results, Try.results73, go_sem, s4, s5]) rfl ⟨rfl, HR.out⟩
    · have hres : turnO z s k = some (z, txG n (trnF k.toNat m fun i j => T.on n 0 0 i j)) := by unfold turnO; rw [if_pos hk, hop, hm]; rfl
      have HTR : Hid (∀ (w' : World) (b ab : Nat) (l : List Bool), (∀ i j, i < m → j < m → lF m l i j = T.on n 0 0 i j) → Img w' b ab m m (mkl m m (trnF k.toNat m (lF m l))) → Calls Try.prog 173 #[.pointer (some ⟨b, 0, none⟩)] w' fun e w'' => e = .returned (.agg #[.int .i64 z, .string (txG n (trnF k.toNat m fun i j => T.on n 0 0 i j))]) ∧ w'.Ext w'') := fun w' b ab l hl hI => by
        rw [hzn]
        exact treeOf_any b ab m n _ _ hm hn4 (fun i j hi hj => by
          rw [← trnF_congr hl hi hj]
          exact mkl_at m m _ i j hi hj) w' hI
      rw [hres]
      have HK := Lib.hid hk
      clear hop hres hk hzn hm
      generalize txG n (trnF k.toNat m fun i j => T.on n 0 0 i j) = tx at *
      go_enter Try.func73, Try.ntmps73
      go_wp2_with fail
      rw [← hW0]
      clear hW0
      refine HOP.out.mono ?_
      intro e w1 h
      obtain ⟨b, ab, l, rfl, hx1, hI, hl⟩ := h.some HR0.out HM.out
      have HI1 := Lib.hid hI
      have HL := Lib.hid hl
      have HX1 := Lib.hid (HX0.out.trans hx1)
      have HO1 := Lib.hid (HO.out.ext hx1)
      clear hx1 h hI hl HX0 HO HOP
      go_wp2_with fail
      refine (HTN.out w1 b ab l HI1.out).mono ?_
      intro e w2 h
      unfold TurnedRet at h
      rw [if_pos HK.out] at h
      obtain ⟨b2, ab2, rfl, hx2, -, -, -⟩ := h
      have HI2 := Lib.hid (HI1.out.ext hx2)
      have HX2 := Lib.hid (HX1.out.trans hx2)
      have HO2 := Lib.hid (HO1.out.ext hx2)
      clear hx2 HX1 HO1 HI1
      go_wp2_with fail
      refine (HTN.out w2 b ab l HI2.out).mono ?_
      intro e w3 h
      unfold TurnedRet at h
      rw [if_pos HK.out] at h
      obtain ⟨b3, ab3, rfl, hx3, hI3, -, -⟩ := h
      have HI3 := Lib.hid hI3
      have HX3 := Lib.hid (HX2.out.trans hx3)
      have HO3 := Lib.hid (HO2.out.ext hx3)
      clear hx3 hI3 HX2 HO2 HI2
      go_wp2_with fail
      refine (HTR.out w3 b3 ab3 l HL.out HI3.out).mono ?_
      rintro e w4 ⟨rfl, hx4⟩
      obtain ⟨s0, s1, s2, s3, s4, s5, HR⟩ := Res.store2 (.int .i64 z) (.string tx) (HX3.out.trans hx4) (by omega) (HO3.out.ext hx4)
      clear hx4
      go_wp2_with fail
      exact bodyPost_ret (v := .tuple #[.agg #[.int .i64 z, .string tx], .bool true]) (by simp [results, Try.results73, go_sem, s4, s5]) rfl ⟨rfl, HR.out⟩
theorem optT_le {o : Option (Int × ByteArray)} (h : ∀ q, o = some q → q.2.size ≤ 426) : (optT o).2.size ≤ maxLen := by
  cases o with
  | none => show 0 ≤ maxLen; exact Nat.zero_le _
  | some q =>
    have := h q rfl
    show q.2.size ≤ maxLen
    unfold maxLen
    omega
theorem turn_bnd (z : Int) (s : ByteArray) (k : Int) : (optT (turnO z s k)).2.size ≤ maxLen := optT_le fun q h => by
  unfold turnO at h
  split at h
  · cases ho : opn z s with
    | none => rw [ho] at h; cases h
    | some p =>
      rw [ho] at h
      cases h
      exact txG_size _ (opn_some (n := p.1) (T := p.2) ho).1
  · cases h
end Go.Proofs.Ytlcofjicpbbdhaa
