/- Quadtrees: the implementation's CombineTrees. -/
import Derived.Test.YtpdmfnndegcjjaaQtC
namespace Go.Proofs.Ytpdmfnndegcjjaa
open Go Go.RowKit
theorem enters_comb1 : Enters 161 := enters_of Try.func161 (by kernel_rfl) (by kernel_rfl)
theorem keep2P {w : World} {p b2 b : Nat} {u v x y z : Value} (h : b2 ≠ p) (h' : b ≠ p) (k : w.cell? ⟨b2, 0, none⟩ = some x) (k1 : w.cell? ⟨b, 0, none⟩ = some y) (k2 : w.cell? ⟨b, 1, none⟩ = some z) :
    ((w.setCell ⟨p, 0, none⟩ u).setCell ⟨p, 1, none⟩ v).cell? ⟨b2, 0, none⟩ = some x ∧ ((w.setCell ⟨p, 0, none⟩ u).setCell ⟨p, 1, none⟩ v).cell? ⟨b, 0, none⟩ = some y ∧ ((w.setCell ⟨p, 0, none⟩ u).setCell ⟨p, 1, none⟩ v).cell? ⟨b, 1, none⟩ = some z := by
  have e : ∀ (c : Nat) (i : Nat), c ≠ p → ((w.setCell ⟨p, 0, none⟩ u).setCell ⟨p, 1, none⟩ v).cell? ⟨c, i, none⟩ = w.cell? ⟨c, i, none⟩ := fun c i hc => by
    rw [World.cell?_of_block (a := ⟨c, i, none⟩) (Below.heap_setCell _ _ _ _ hc), World.cell?_of_block (a := ⟨c, i, none⟩) (Below.heap_setCell _ _ _ _ hc)]
  exact ⟨by rw [e _ _ h]; exact k, by rw [e _ _ h']; exact k1, by rw [e _ _ h']; exact k2⟩
set_option maxRecDepth 5000 in
set_option maxHeartbeats 3200000 in
theorem implCombT_any (k z : Int) (s : ByteArray) (z' : Int) (s' : ByteArray) (w : World) (hs : s.size ≤ 1048576) (hs' : s'.size ≤ 1048576) :
    Calls Try.prog 63 #[.int .i64 k, .agg #[.int .i64 z, .string s], .agg #[.int .i64 z', .string s']] w (TreeRet w (combO k z s z' s')) := by
  obtain ⟨W0, hW0⟩ : ∃ W0, W0 = (((w.alloc (.cells #[.int .i64 k] 2)).alloc (.cells #[.int .i64 z, .string s] 72)).alloc (.cells #[.int .i64 z', .string s'] 72)).alloc (.cells #[.int .i64 0, .string ⟨#[]⟩] 72) := ⟨_, rfl⟩
  have hx0 : w.Ext W0 := by rw [hW0]; repeat (first | exact World.Ext.refl _ | exact ⟨_, rfl⟩ | assumption | refine World.Ext.over ?_ _ | refine World.Ext.drewN ?_ _ | refine World.Ext.drew ?_ | refine World.Ext.alloc ?_ _ | refine World.Ext.setCell ?_ (by simp) _)
  have dk : W0.cell? ⟨w.heap.size, 0, none⟩ = some (.int .i64 k) := by rw [hW0]; simp [go_sem]
  have d0 : W0.cell? ⟨w.heap.size + 1, 0, none⟩ = some (.int .i64 z) := by rw [hW0]; simp [go_sem]
  have d2 : W0.cell? ⟨w.heap.size + 1 + 1, 0, none⟩ = some (.int .i64 z') := by rw [hW0]; simp [go_sem]
  have d3 : W0.cell? ⟨w.heap.size + 1 + 1, 1, none⟩ = some (.string s') := by rw [hW0]; simp [go_sem]
  have htwo : Two W0 (w.heap.size + 1 + 1 + 1) 72 (.int .i64 0) (.string ⟨#[]⟩) := by rw [hW0]; exact Two.new _ _ _ _ _ (by simp)
  have HOP := Lib.hid (ofTree_any z s W0 hs)
  have HOP2 := Lib.hid (fun w' => ofTree_any z' s' w' hs')
  have HIN : Hid (∀ w', Calls Try.prog 106 #[.int .i64 k, .int .i64 0, .int .i64 3] w' fun e w'' => e = .returned (.bool (inB k 0 3)) ∧ w'.Ext w'') := fun w' => in_any _ _ _ w' _ rfl
  have HD : Hid (∀ w', W0.Ext w' → w'.cell? ⟨w.heap.size, 0, none⟩ = some (.int .i64 k) ∧ w'.cell? ⟨w.heap.size + 1, 0, none⟩ = some (.int .i64 z) ∧ w'.cell? ⟨w.heap.size + 1 + 1, 0, none⟩ = some (.int .i64 z') ∧ w'.cell? ⟨w.heap.size + 1 + 1, 1, none⟩ = some (.string s')) := fun w' hx => ⟨hx.cell dk, hx.cell d0, hx.cell d2, hx.cell d3⟩
  have HX0 := Lib.hid hx0
  have HO := Lib.hid htwo
  clear hx0 htwo dk d0 d2 d3
  have HO1 : Hid (∀ w1 e, OfRet W0 z s e w1 → ∃ v, e = .returned (.tuple #[.pointer v, .bool (opn z s).isSome]) ∧ W0.Ext w1) := fun w1 e h => by
    cases ho : opn z s with
    | none => obtain ⟨rfl, hx⟩ := h.none ho; exact ⟨_, rfl, hx⟩
    | some q => obtain ⟨b, ab, l, rfl, hx, -, -⟩ := h.some (n := q.1) (T := q.2) ho rfl; exact ⟨_, rfl, hx⟩
  have HO2 : Hid (∀ w2 w1 e, OfRet w2 z' s' e w1 → ∃ v, e = .returned (.tuple #[.pointer v, .bool (opn z' s').isSome]) ∧ w2.Ext w1) := fun w2 w1 e h => by
    cases ho : opn z' s' with
    | none => obtain ⟨rfl, hx⟩ := h.none ho; exact ⟨_, rfl, hx⟩
    | some q => obtain ⟨b, ab, l, rfl, hx, -, -⟩ := h.some (n := q.1) (T := q.2) ho rfl; exact ⟨_, rfl, hx⟩
  by_cases hno : combO k z s z' s' = none
  · rw [hno]
    have HB : Hid ((opn z s).isSome = true → (opn z' s').isSome = true → z = z' → inB k 0 3 = false) := fun h1 h2 h3 => by
      obtain ⟨q, hq⟩ := Option.isSome_iff_exists.1 h1
      obtain ⟨q', hq'⟩ := Option.isSome_iff_exists.1 h2
      unfold combO at hno
      split at hno
      · rw [hq, hq'] at hno; cases hno
      · rename_i h
        cases hk : inB k 0 3
        · rfl
        · exact absurd ⟨hk, h3⟩ h
    clear hno
    go_enter Try.func63, Try.ntmps63
    go_wp2_with fail
    rw [← hW0]
    clear hW0
    refine HOP.out.mono ?_
    intro e w1 h
    obtain ⟨v, rfl, hx1⟩ := HO1.out w1 e h
    obtain ⟨w2, hw2⟩ : ∃ w2, w2 = w1.alloc (.cells #[.pointer v] 121) := ⟨_, rfl⟩
    have hx2 : w1.Ext w2 := by rw [hw2]; repeat (first | exact World.Ext.refl _ | exact ⟨_, rfl⟩ | assumption | refine World.Ext.over ?_ _ | refine World.Ext.drewN ?_ _ | refine World.Ext.drew ?_ | refine World.Ext.alloc ?_ _ | refine World.Ext.setCell ?_ (by simp) _)
    have HX2 := Lib.hid (hx1.trans hx2)
    obtain ⟨tk, t0, t2, t3⟩ := HD.out w2 HX2.out
    clear hx1 hx2 h HOP HO1
    obtain ⟨o1, ho1⟩ : ∃ o, o = (opn z s).isSome := ⟨_, rfl⟩
    rw [← ho1] at HB ⊢
    clear ho1
    subst hw2
    go_wp2_with fail
    refine (HOP2.out _).mono ?_
    intro e w3 h
    obtain ⟨v', rfl, hx3⟩ := HO2.out _ w3 e h
    obtain ⟨w4, hw4⟩ : ∃ w4, w4 = w3.alloc (.cells #[.pointer v'] 121) := ⟨_, rfl⟩
    have hx4 : w3.Ext w4 := by rw [hw4]; repeat (first | exact World.Ext.refl _ | exact ⟨_, rfl⟩ | assumption | refine World.Ext.over ?_ _ | refine World.Ext.drewN ?_ _ | refine World.Ext.drew ?_ | refine World.Ext.alloc ?_ _ | refine World.Ext.setCell ?_ (by simp) _)
    have HX4 := Lib.hid (HX2.out.trans (hx3.trans hx4))
    have HO4 := Lib.hid (HO.out.ext HX4.out)
    clear tk t0 t2 t3 h hx3 hx4 HX2 HO HOP2 HO2
    obtain ⟨tk, t0, t2, t3⟩ := HD.out w4 HX4.out
    obtain ⟨o2, ho2⟩ : ∃ o, o = (opn z' s').isSome := ⟨_, rfl⟩
    rw [← ho2] at HB ⊢
    clear ho2
    by_cases hzz : z = z'
    · cases o1 <;> cases o2
      case true.true =>
        have hk := HB.out rfl rfl hzz
        rw [hk] at HIN
        subst hzz
        clear hk HB
        subst hw4
        go_wp2_with fail
        refine (HIN.out _).mono ?_
        rintro e w5 ⟨rfl, hx5⟩
        obtain ⟨s0, s1, s2, s3, s4, s5, HR⟩ := Res.store2 (.int .i64 0) (.string ⟨#[]⟩) (HX0.out.trans (HX4.out.trans hx5)) (by omega) (HO4.out.ext hx5)
        clear hx5 tk t0 t2 t3
        go_wp2_with fail
        exact bodyPost_ret (v := .tuple #[.agg #[.int .i64 0, .string ⟨#[]⟩], .bool false]) (by simp [results, Try.results63, go_sem, s4, s5]) rfl ⟨rfl, HR.out⟩
      all_goals
        obtain ⟨s0, s1, s2, s3, s4, s5, HR⟩ := Res.store2 (.int .i64 0) (.string ⟨#[]⟩) (HX0.out.trans HX4.out) (by omega) HO4.out
        subst hw4
        clear HB
        go_wp2_with fail
        exact bodyPost_ret (v := .tuple #[.agg #[.int .i64 0, .string ⟨#[]⟩], .bool false]) (by simp [results, Try.results63, go_sem, s4, s5]) rfl ⟨rfl, HR.out⟩
    · have hzz2 : (z != z') = true := by rw [bne_iff_ne]; exact hzz
      clear HB
      obtain ⟨s0, s1, s2, s3, s4, s5, HR⟩ := Res.store2 (.int .i64 0) (.string ⟨#[]⟩) (HX0.out.trans HX4.out) (by omega) HO4.out
      subst hw4
      cases o1 <;> cases o2
      all_goals
        go_wp2_with fail
        exact bodyPost_ret (v := .tuple #[.agg #[.int .i64 0, .string ⟨#[]⟩], .bool false]) (by simp [results, Try.results63, go_sem, s4, s5]) rfl ⟨rfl, HR.out⟩
  · obtain ⟨hk, rfl, n, T, T', hop, hop', hres⟩ := combO_some hno
    obtain ⟨hn4, hzn, -⟩ := opn_some hop
    obtain ⟨m, hm⟩ : ∃ m : Nat, m = 2 ^ n := ⟨_, rfl⟩
    rw [← hm] at hzn
    have hm16 : m ≤ 16 := by rw [hm]; exact Nat.pow_le_pow_right (by decide) hn4
    have HMD : Hid (∀ (w' : World) (p2 p8 p10 b ab b' ab' : Nat) (l l' : List Bool), (∀ i j, i < m → j < m → lF m l i j = T.on n 0 0 i j) → (∀ i j, i < m → j < m → lF m l' i j = T'.on n 0 0 i j) → w'.cell? ⟨p2, 0, none⟩ = some (.int .i64 k) → w'.cell? ⟨p8, 0, none⟩ = some (.pointer (some ⟨b, 0, none⟩)) → w'.cell? ⟨p10, 0, none⟩ = some (.pointer (some ⟨b', 0, none⟩)) → Img w' b ab m m l → Img w' b' ab' m m l' →
        Calls Try.prog 103 #[.int .i64 m, .int .i64 m, .func (.func 161) #[] #[.pointer (some ⟨p2, 0, none⟩), .pointer (some ⟨p8, 0, none⟩), .pointer (some ⟨p10, 0, none⟩)]] w' (ImgRet w' m m (mkl m m fun i j => joinB k.toNat (T.on n 0 0 i j) (T'.on n 0 0 i j)))) := fun w' p2 p8 p10 b ab b' ab' l l' hl hl' c2 c8 c10 hI hI' =>
      made_any m m _ _ _ w' (by omega) (by omega) enters_comb1 fun w'' hx x y h1 h2 => by
        rw [← hl x y h1 h2, ← hl' x y h1 h2]
        exact comb1_any p2 p8 p10 b ab b' ab' m k l l' x y w'' hk (by omega) (hx.cell c2) (hx.cell c8) (hx.cell c10) (hI.ext hx) (hI'.ext hx) h1 h2
    have HTR : Hid (∀ (w' : World) (b ab : Nat), Img w' b ab m m (mkl m m fun i j => joinB k.toNat (T.on n 0 0 i j) (T'.on n 0 0 i j)) → Calls Try.prog 158 #[.pointer (some ⟨b, 0, none⟩)] w' fun e w'' => e = .returned (.agg #[.int .i64 z, .string (txG n fun i j => joinB k.toNat (T.on n 0 0 i j) (T'.on n 0 0 i j))]) ∧ w'.Ext w'') := fun w' b ab hI => by
      rw [hzn]
      exact treeOf_any b ab m n _ _ hm hn4 (fun i j hi hj => mkl_at m m _ i j hi hj) w' hI
    rw [hres]
    rw [hk] at HIN
    have HR1 := Lib.hid hop
    have HR2 := Lib.hid hop'
    have HM := Lib.hid hm
    clear hno hop hop' hres hk hzn hm HO1 HO2
    generalize (txG n fun i j => joinB k.toNat (T.on n 0 0 i j) (T'.on n 0 0 i j)) = tx at *
    generalize (mkl m m fun i j => joinB k.toNat (T.on n 0 0 i j) (T'.on n 0 0 i j)) = L at *
    go_enter Try.func63, Try.ntmps63
    go_wp2_with fail
    rw [← hW0]
    clear hW0
    refine HOP.out.mono ?_
    intro e w1 h
    obtain ⟨b, ab, l, rfl, hx1, hI, hl⟩ := h.some HR1.out HM.out
    obtain ⟨w2, hw2⟩ : ∃ w2, w2 = w1.alloc (.cells #[.pointer (some ⟨b, 0, none⟩)] 121) := ⟨_, rfl⟩
    have hx2 : w1.Ext w2 := by rw [hw2]; repeat (first | exact World.Ext.refl _ | exact ⟨_, rfl⟩ | assumption | refine World.Ext.over ?_ _ | refine World.Ext.drewN ?_ _ | refine World.Ext.drew ?_ | refine World.Ext.alloc ?_ _ | refine World.Ext.setCell ?_ (by simp) _)
    have HX2 := Lib.hid (hx1.trans hx2)
    have K8 : Hid (w2.cell? ⟨w1.heap.size, 0, none⟩ = some (.pointer (some ⟨b, 0, none⟩))) := by show _ = _; rw [hw2]; simp [go_sem]
    have HI := Lib.hid (hI.ext hx2)
    have HL := Lib.hid hl
    obtain ⟨tk, t0, t2, t3⟩ := HD.out w2 HX2.out
    have hl1 : w.heap.size + 1 + 1 + 1 < w1.heap.size := (HO.out.ext hx1).lt
    clear hx1 hx2 h HOP hI hl
    subst hw2
    go_wp2_with fail
    refine (HOP2.out _).mono ?_
    intro e w3 h
    obtain ⟨b', ab', l', rfl, hx3, hI', hl'⟩ := h.some HR2.out HM.out
    obtain ⟨w4, hw4⟩ : ∃ w4, w4 = w3.alloc (.cells #[.pointer (some ⟨b', 0, none⟩)] 121) := ⟨_, rfl⟩
    have hx4 : w3.Ext w4 := by rw [hw4]; repeat (first | exact World.Ext.refl _ | exact ⟨_, rfl⟩ | assumption | refine World.Ext.over ?_ _ | refine World.Ext.drewN ?_ _ | refine World.Ext.drew ?_ | refine World.Ext.alloc ?_ _ | refine World.Ext.setCell ?_ (by simp) _)
    have HX4 := Lib.hid (HX2.out.trans (hx3.trans hx4))
    have HO4 := Lib.hid (HO.out.ext HX4.out)
    have k8 := (hx3.trans hx4).cell K8.out
    have k10 : w4.cell? ⟨w3.heap.size, 0, none⟩ = some (.pointer (some ⟨b', 0, none⟩)) := by rw [hw4]; simp [go_sem]
    have HI4 := Lib.hid (HI.out.ext (hx3.trans hx4))
    have HI4' := Lib.hid (hI'.ext hx4)
    have HL' := Lib.hid hl'
    have K8' := Lib.hid k8
    have K10 := Lib.hid k10
    clear tk t0 t2 t3 h hx3 hx4 HX2 HO HOP2 hI' hl' K8 HI k8 k10
    obtain ⟨tk, t0, t2, t3⟩ := HD.out w4 HX4.out
    subst hw4
    go_wp2_with fail
    refine (HIN.out _).mono ?_
    rintro e w5 ⟨rfl, hx5⟩
    have u2 := hx5.cell tk
    have u8 := hx5.cell K8'.out
    have u10 := hx5.cell K10.out
    have HI5 := Lib.hid (HI4.out.ext hx5)
    have HI5' := Lib.hid (HI4'.out.ext hx5)
    have i0 := HI5.out.c0
    have i1 := HI5.out.c1
    have HX5 := Lib.hid (HX0.out.trans (HX4.out.trans hx5))
    have HO5 := Lib.hid (HO4.out.ext hx5)
    have n8 : w1.heap.size ≠ w.heap.size + 1 + 1 + 1 := by omega
    have nb : b ≠ w.heap.size + 1 + 1 + 1 := by
      intro e
      obtain ⟨_, h2⟩ := HI5.out.str
      have h3 : w5.heap[w.heap.size + 1 + 1 + 1]? = some _ := HO5.out
      rw [e, h3] at h2
      cases h2
    clear tk t0 t2 t3 hx5 HX4 HO4 HI4 HI4' K8' K10 HIN
    go_wp2_with fail
    go_region_held3 (fun w' => w'.cell? ⟨w1.heap.size, 0, none⟩ = some (.pointer (some ⟨b, 0, none⟩)) ∧ w'.cell? ⟨b, 0, none⟩ = some (.int .i64 m) ∧ w'.cell? ⟨b, 1, none⟩ = some (.int .i64 m))
      (first | exact hk8 | (refine ⟨World.Ext.cell ?_ u8, World.Ext.cell ?_ i0, World.Ext.cell ?_ i1⟩ <;> ((repeat (first | exact World.Ext.refl _ | exact ⟨_, rfl⟩ | assumption | refine World.Ext.over ?_ _ | refine World.Ext.drewN ?_ _ | refine World.Ext.drew ?_ | refine World.Ext.alloc ?_ _ | refine World.Ext.setCell ?_ ?_ _ | (simp; done))); done)))
      (first
        | (go_at_call 103; go_loud (refine (HMD.out _ w.heap.size w1.heap.size _ b ab b' ab' l l' HL.out HL'.out (((World.Ext.refl w5).drew).cell u2) (((World.Ext.refl w5).drew).cell u8) (((World.Ext.refl w5).drew).cell u10) (HI5.out.ext ((World.Ext.refl w5).drew)) (HI5'.out.ext ((World.Ext.refl w5).drew))).mono ?_; rintro e w6 ⟨b6, ab6, rfl, hx6, hi6, -, -⟩; have E6 : w5.Ext w6 := ((World.Ext.refl w5).drew).trans hx6; have HI6 := Lib.hid hi6; clear hx6 hi6))
        | (go_at_call 158; go_loud (refine (HTR.out _ b6 ab6 HI6.out).mono ?_; rintro e w7 ⟨rfl, hx7⟩; have E7 : w5.Ext w7 := E6.trans hx7; obtain ⟨s0, s1, s2, s3, s4, s5, HR⟩ := Res.store2 (.int .i64 z) (.string tx) (HX5.out.trans E7) (by omega) (HO5.out.ext E7); have hk8 := keep2P (u := .int .i64 z) (v := .string tx) n8 nb (E7.cell u8) (E7.cell i0) (E7.cell i1); clear hx7)))
    go_wp2
    exact bodyPost_ret (v := .tuple #[.agg #[.int .i64 z, .string tx], .bool true]) (by simp [results, Try.results63, go_sem, s4, s5]) rfl ⟨rfl, HR.out⟩
theorem comb_bnd (k z : Int) (s : ByteArray) (z' : Int) (s' : ByteArray) : (optT (combO k z s z' s')).2.size ≤ maxLen := optT_le fun q h => by
  obtain ⟨-, -, n, T, T', h1, -, h3⟩ := combO_some (show combO k z s z' s' ≠ none by rw [h]; exact fun e => by cases e)
  rw [h3] at h
  cases h
  exact txG_size _ (opn_some h1).1
end Go.Proofs.Ytpdmfnndegcjjaa
