/- Quadtrees: the reference's CombineTrees. -/
import Derived.Test.YtlcofjicpbbdhaaTreeY
namespace Go.Proofs.Ytlcofjicpbbdhaa
open Go Go.RowKit
def combO (k z : Int) (s : ByteArray) (z' : Int) (s' : ByteArray) : Option (Int × ByteArray) :=
  if inB k 0 3 = true ∧ z = z' then (opn z s).bind fun q => (opn z' s').map fun q' => (z, txG q.1 fun i j => joinB k.toNat (q.2.on q.1 0 0 i j) (q'.2.on q'.1 0 0 i j)) else none
theorem combO_some {k z z' : Int} {s s' : ByteArray} (h : combO k z s z' s' ≠ none) : inB k 0 3 = true ∧ z = z' ∧ ∃ n T T', opn z s = some (n, T) ∧ opn z' s' = some (n, T') ∧ combO k z s z' s' = some (z, txG n fun i j => joinB k.toNat (T.on n 0 0 i j) (T'.on n 0 0 i j)) := by
  unfold combO at h ⊢
  split at h
  · rename_i hc
    refine ⟨hc.1, hc.2, ?_⟩
    cases h1 : opn z s with
    | none => rw [h1] at h; exact absurd rfl h
    | some q =>
      cases h2 : opn z' s' with
      | none => rw [h1, h2] at h; exact absurd rfl h
      | some q' =>
        obtain ⟨-, -, -, e1, -⟩ := opn_some (n := q.1) (T := q.2) h1
        obtain ⟨-, -, -, e2, -⟩ := opn_some (n := q'.1) (T := q'.2) h2
        have e : q'.1 = q.1 := by rw [e1, e2, hc.2]
        refine ⟨q.1, q.2, q'.2, rfl, by rw [← e], ?_⟩
        rw [if_pos hc]
        show some (z, txG q.1 fun i j => joinB k.toNat (q.2.on q.1 0 0 i j) (q'.2.on q'.1 0 0 i j)) = _
        rw [e]
  · exact absurd rfl h
theorem l01Join_any (k : Int) (hk : inB k 0 3 = true) (p q : Nat) (a : Option Addr) (c : Nat) (ss : List ByteArray) (a' : Option Addr) (c' : Nat) (tt : List ByteArray) (m : Nat) (w : World) (he : Even ss) (he' : Even tt) (hm1 : 1 ≤ m) (hm16 : m ≤ 16) (hW : picW ss = m) (hH : ss.length = m) (hW' : picW tt = m) (hH' : tt.length = m)
    (hp : w.cell? ⟨p, 0, none⟩ = some (.slice a m c)) (hr : RowS w a ss) (hq : w.cell? ⟨q, 0, none⟩ = some (.slice a' m c')) (hr' : RowS w a' tt) :
    Calls Try.prog 174 #[.int .i64 k, .pointer (some ⟨p, 0, none⟩), .pointer (some ⟨q, 0, none⟩)] w (PicVal w (picRows m m (mkl m m fun i j => joinB k.toNat (fS ss i j) (fS tt i j)))) := by
  obtain ⟨h0, h1⟩ := inB_true.1 hk
  rcases (show k = 0 ∨ k = 1 ∨ k = 2 ∨ k = 3 by omega) with rfl | rfl | rfl | rfl
  · exact l01Join0_any p q a c ss a' c' tt m w he he' hm1 hm16 hW hH hW' hH' hp hr hq hr'
  · exact l01Join1_any p q a c ss a' c' tt m w he he' hm1 hm16 hW hH hW' hH' hp hr hq hr'
  · exact l01Join2_any p q a c ss a' c' tt m w he he' hm1 hm16 hW hH hW' hH' hp hr hq hr'
  · exact l01Join3_any p q a c ss a' c' tt m w he he' hm1 hm16 hW hH hW' hH' hp hr hq hr'
set_option maxRecDepth 5000 in
set_option maxHeartbeats 3200000 in
theorem specCombT_any (k z : Int) (s : ByteArray) (z' : Int) (s' : ByteArray) (w : World) (hs : s.size ≤ 1048576) (hs' : s'.size ≤ 1048576) :
    Calls Try.prog 75 #[.int .i64 k, .agg #[.int .i64 z, .string s], .agg #[.int .i64 z', .string s']] w (TreeRet w (combO k z s z' s')) := by
  obtain ⟨W0, hW0⟩ : ∃ W0, W0 = ((w.alloc (.cells #[.int .i64 z, .string s] 91)).alloc (.cells #[.int .i64 z', .string s'] 91)).alloc (.cells #[.int .i64 0, .string ⟨#[]⟩] 91) := ⟨_, rfl⟩
  have hx0 : w.Ext W0 := by rw [hW0]; repeat (first | exact World.Ext.refl _ | exact ⟨_, rfl⟩ | assumption | refine World.Ext.over ?_ _ | refine World.Ext.drewN ?_ _ | refine World.Ext.drew ?_ | refine World.Ext.alloc ?_ _ | refine World.Ext.setCell ?_ (by simp) _)
  have d0 : W0.cell? ⟨w.heap.size, 0, none⟩ = some (.int .i64 z) := by rw [hW0]; simp [go_sem]
  have d1 : W0.cell? ⟨w.heap.size, 1, none⟩ = some (.string s) := by rw [hW0]; simp [go_sem]
  have d2 : W0.cell? ⟨w.heap.size + 1, 0, none⟩ = some (.int .i64 z') := by rw [hW0]; simp [go_sem]
  have d3 : W0.cell? ⟨w.heap.size + 1, 1, none⟩ = some (.string s') := by rw [hW0]; simp [go_sem]
  have htwo : Two W0 (w.heap.size + 1 + 1) 91 (.int .i64 0) (.string ⟨#[]⟩) := by rw [hW0]; exact Two.new _ _ _ _ _ (by simp)
  have HOP := Lib.hid (l02Open_any w.heap.size z s W0 d0 d1 hs)
  have HOP2 : Hid (∀ w', W0.Ext w' → Calls Try.prog 168 #[.pointer (some ⟨w.heap.size + 1, 0, none⟩)] w' (OpenRet w' z' s')) := fun w' hx => l02Open_any (w.heap.size + 1) z' s' w' (hx.cell d2) (hx.cell d3) hs'
  have HIN : Hid (∀ w', Calls Try.prog 144 #[.int .i64 k, .int .i64 0, .int .i64 3] w' fun e w'' => e = .returned (.bool (inB k 0 3)) ∧ w'.Ext w'') := fun w' => l00In_any _ _ _ w' _ rfl
  have HD : Hid (∀ w', W0.Ext w' → w'.cell? ⟨w.heap.size, 0, none⟩ = some (.int .i64 z) ∧ w'.cell? ⟨w.heap.size + 1, 0, none⟩ = some (.int .i64 z')) := fun w' hx => ⟨hx.cell d0, hx.cell d2⟩
  have HX0 := Lib.hid hx0
  have HO := Lib.hid htwo
  clear hx0 htwo d0 d1 d2 d3
  by_cases hno : combO k z s z' s' = none
  · rw [hno]
    have HB : Hid ((opn z s).isSome = true → (opn z' s').isSome = true → z = z' → inB k 0 3 = false) := fun h1 h2 h3 => by
      obtain ⟨q, hq⟩ := Option.isSome_iff_exists.1 h1
      obtain ⟨q', hq'⟩ := Option.isSome_iff_exists.1 h2
      unfold combO at hno
      split at hno
      · rw [hq, hq'] at hno; cases hno
      · rename_i h
        cases hk : inB k 0 3
        · rfl
        · exact absurd ⟨hk, h3⟩ h
    show Calls _ _ _ _ (TreeRet w none)
    clear hno
    go_enter Try.func75, Try.ntmps75
    go_wp2_with fail
    rw [← hW0]
    refine HOP.out.mono ?_
    rintro e w1 ⟨R, a1, c1, rfl, hx1, -, -⟩
    obtain ⟨w2, hw2⟩ : ∃ w2, w2 = w1.alloc (.cells #[.slice a1 R.length c1] 26) := ⟨_, rfl⟩
    have hx2 : w1.Ext w2 := by rw [hw2]; repeat (first | exact World.Ext.refl _ | exact ⟨_, rfl⟩ | assumption | refine World.Ext.over ?_ _ | refine World.Ext.drewN ?_ _ | refine World.Ext.drew ?_ | refine World.Ext.alloc ?_ _ | refine World.Ext.setCell ?_ (by simp) _)
    have HX2 := Lib.hid (hx1.trans hx2)
    clear hx1 hx2 hW0 HOP
    obtain ⟨o1, ho1⟩ : ∃ o, o = (opn z s).isSome := ⟨_, rfl⟩
    rw [← ho1] at HB ⊢
    clear ho1
    go_wp2_with fail
    rw [← hw2]
    clear hw2
    refine (HOP2.out _ HX2.out).mono ?_
    rintro e w3 ⟨R', a3, c3, rfl, hx3, -, -⟩
    obtain ⟨w4, hw4⟩ : ∃ w4, w4 = w3.alloc (.cells #[.slice a3 R'.length c3] 26) := ⟨_, rfl⟩
    have hx4 : w3.Ext w4 := by rw [hw4]; repeat (first | exact World.Ext.refl _ | exact ⟨_, rfl⟩ | assumption | refine World.Ext.over ?_ _ | refine World.Ext.drewN ?_ _ | refine World.Ext.drew ?_ | refine World.Ext.alloc ?_ _ | refine World.Ext.setCell ?_ (by simp) _)
    have HX4 := Lib.hid (HX2.out.trans (hx3.trans hx4))
    have HO4 := Lib.hid (HO.out.ext HX4.out)
    obtain ⟨t0, t2⟩ := HD.out w4 HX4.out
    clear hx3 hx4 HX2 HO HOP2
    obtain ⟨o2, ho2⟩ : ∃ o, o = (opn z' s').isSome := ⟨_, rfl⟩
    rw [← ho2] at HB ⊢
    clear ho2
    by_cases hzz : z = z'
    · cases o1 <;> cases o2
      case true.true =>
        have hk := HB.out rfl rfl hzz
        rw [hk] at HIN
        subst hzz
        clear hk HB
        subst hw4
        go_wp2_with fail
        refine (HIN.out _).mono ?_
        rintro e w5 ⟨rfl, hx5⟩
        obtain ⟨s0, s1, s2, s3, s4, s5, HR⟩ := Res.store2 (.int .i64 0) (.string ⟨#[]⟩) (HX0.out.trans (HX4.out.trans hx5)) (by omega) (HO4.out.ext hx5)
        clear hx5 t0 t2
        go_wp2_with fail
        exact bodyPost_ret (v := .tuple #[.agg #[.int .i64 0, .string ⟨#[]⟩], .bool false]) (by simp [results, Try.results75, go_sem, s4, s5]) rfl ⟨rfl, HR.out⟩
      all_goals
        obtain ⟨s0, s1, s2, s3, s4, s5, HR⟩ := Res.store2 (.int .i64 0) (.string ⟨#[]⟩) (HX0.out.trans HX4.out) (by omega) HO4.out
        subst hw4
        clear HB
        go_wp2_with fail
        exact bodyPost_ret (v := .tuple #[.agg #[.int .i64 0, .string ⟨#[]⟩], .bool false]) (by simp [results, Try.results75, go_sem, s4, s5]) rfl ⟨rfl, HR.out⟩
    · have hzz2 : (z != z') = true := by rw [bne_iff_ne]; exact hzz
      clear HB
      obtain ⟨s0, s1, s2, s3, s4, s5, HR⟩ := Res.store2 (.int .i64 0) (.string ⟨#[]⟩) (HX0.out.trans HX4.out) (by omega) HO4.out
      subst hw4
      cases o1 <;> cases o2
      all_goals
        go_wp2_with fail
        exact bodyPost_ret (v := .tuple #[.agg #[.int .i64 0, .string ⟨#[]⟩], .bool false]) (by simp [results, Try.results75, go_sem, s4, s5]) rfl ⟨rfl, HR.out⟩
  · obtain ⟨hk, rfl, n, T, T', hop, hop', hres⟩ := combO_some hno
    obtain ⟨hn4, hzn, -⟩ := opn_some hop
    obtain ⟨m, hm⟩ : ∃ m : Nat, m = 2 ^ n := ⟨_, rfl⟩
    rw [← hm] at hzn
    have hm16 : m ≤ 16 := by rw [hm]; exact Nat.pow_le_pow_right (by decide) hn4
    have hm1 : 1 ≤ m := by rw [hm]; exact Nat.two_pow_pos n
    obtain ⟨ev1, ev2, ev3, ev4⟩ := even_opn n T
    obtain ⟨fv1, fv2, fv3, fv4⟩ := even_opn n T'
    rw [← hm] at ev2 ev3 ev4 fv2 fv3 fv4
    have hge : mkl m m (fun i j => joinB k.toNat (fS (opnR n T) i j) (fS (opnR n T') i j)) = mkl m m fun i j => joinB k.toNat (T.on n 0 0 i j) (T'.on n 0 0 i j) := mkl_eq fun i j hi hj => by
      rw [fS_opn n T (by omega) (by omega), fS_opn n T' (by omega) (by omega)]
    have HTN : Hid (∀ (w' : World) (p : Nat) (a : Option Addr) (c : Nat) (p' : Nat) (a' : Option Addr) (c' : Nat), w'.cell? ⟨p, 0, none⟩ = some (.slice a m c) → RowS w' a (opnR n T) → w'.cell? ⟨p', 0, none⟩ = some (.slice a' m c') → RowS w' a' (opnR n T') →
        Calls Try.prog 174 #[.int .i64 k, .pointer (some ⟨p, 0, none⟩), .pointer (some ⟨p', 0, none⟩)] w' (PicVal w' (picRows m m (mkl m m fun i j => joinB k.toNat (T.on n 0 0 i j) (T'.on n 0 0 i j))))) := fun w' p a c p' a' c' hc hr hc' hr' => by
      rw [← hge]
      exact l01Join_any k hk p p' a c (opnR n T) a' c' (opnR n T') m w' ev1 fv1 hm1 hm16 ev2 ev3 fv2 fv3 hc hr hc' hr'
    have HTR : Hid (∀ (w' : World) (p : Nat) (a : Option Addr) (c : Nat), w'.cell? ⟨p, 0, none⟩ = some (.slice a m c) → RowS w' a (picRows m m (mkl m m fun i j => joinB k.toNat (T.on n 0 0 i j) (T'.on n 0 0 i j))) → Calls Try.prog 170 #[.pointer (some ⟨p, 0, none⟩)] w' fun e w'' => e = .returned (.agg #[.int .i64 z, .string (txG n fun i j => joinB k.toNat (T.on n 0 0 i j) (T'.on n 0 0 i j))]) ∧ w'.Ext w'') := fun w' p a c hc hr => by
      rw [hzn]
      exact l02Tree_any p a c n m _ hm hn4 w' hc hr
    have HRL := Lib.hid (picRows_len m m (mkl m m fun i j => joinB k.toNat (T.on n 0 0 i j) (T'.on n 0 0 i j)))
    rw [hk] at HIN
    rw [hres]
    have HOR := Lib.hid hop
    have HOR' := Lib.hid hop'
    have HEV := Lib.hid ev3
    have HFV := Lib.hid fv3
    clear hno hop hop' hge hres hk ev1 ev2 ev3 ev4 fv1 fv2 fv3 fv4 hzn hm
    generalize (txG n fun i j => joinB k.toNat (T.on n 0 0 i j) (T'.on n 0 0 i j)) = tx at *
    generalize picRows m m (mkl m m fun i j => joinB k.toNat (T.on n 0 0 i j) (T'.on n 0 0 i j)) = RR at *
    go_enter Try.func75, Try.ntmps75
    go_wp2_with fail
    rw [← hW0]
    refine HOP.out.mono ?_
    rintro e w1 ⟨R, a1, c1, rfl, hx1, ho1, hR⟩
    have hRe := hR n T HOR.out
    subst hRe
    obtain ⟨w2, hw2⟩ : ∃ w2, w2 = w1.alloc (.cells #[.slice a1 m c1] 26) := ⟨_, rfl⟩
    have hx2 : w1.Ext w2 := by rw [hw2]; repeat (first | exact World.Ext.refl _ | exact ⟨_, rfl⟩ | assumption | refine World.Ext.over ?_ _ | refine World.Ext.drewN ?_ _ | refine World.Ext.drew ?_ | refine World.Ext.alloc ?_ _ | refine World.Ext.setCell ?_ (by simp) _)
    have HX2 := Lib.hid (hx1.trans hx2)
    have k6 : w2.cell? ⟨w1.heap.size, 0, none⟩ = some (.slice a1 m c1) := by rw [hw2]; simp [go_sem]
    have HR1 := Lib.hid (RowOf.ext ho1.row hx2)
    have K6 := Lib.hid k6
    clear hx1 hx2 hW0 HOP ho1 hR k6
    rw [HEV.out, HOR.out]
    go_wp2_with fail
    rw [← hw2]
    clear hw2
    refine (HOP2.out _ HX2.out).mono ?_
    rintro e w3 ⟨R', a3, c3, rfl, hx3, ho3, hR'⟩
    have hRe' := hR' n T' HOR'.out
    subst hRe'
    obtain ⟨w4, hw4⟩ : ∃ w4, w4 = w3.alloc (.cells #[.slice a3 m c3] 26) := ⟨_, rfl⟩
    have hx4 : w3.Ext w4 := by rw [hw4]; repeat (first | exact World.Ext.refl _ | exact ⟨_, rfl⟩ | assumption | refine World.Ext.over ?_ _ | refine World.Ext.drewN ?_ _ | refine World.Ext.drew ?_ | refine World.Ext.alloc ?_ _ | refine World.Ext.setCell ?_ (by simp) _)
    have HX4 := Lib.hid (HX2.out.trans (hx3.trans hx4))
    have HO4 := Lib.hid (HO.out.ext HX4.out)
    have K6' := Lib.hid ((hx3.trans hx4).cell K6.out)
    have HR1' := Lib.hid (RowOf.ext HR1.out (hx3.trans hx4))
    have k8 : w4.cell? ⟨w3.heap.size, 0, none⟩ = some (.slice a3 m c3) := by rw [hw4]; simp [go_sem]
    have HR3 := Lib.hid (RowOf.ext ho3.row hx4)
    obtain ⟨t0, t2⟩ := HD.out w4 HX4.out
    have K8 := Lib.hid k8
    clear hx3 hx4 HX2 HO HOP2 ho3 hR' K6 HR1 k8
    rw [HFV.out, HOR'.out]
    subst hw4
    go_wp2_with fail
    refine (HIN.out _).mono ?_
    rintro e w5 ⟨rfl, hx5⟩
    have HX5 := Lib.hid (HX0.out.trans (HX4.out.trans hx5))
    have HO5 := Lib.hid (HO4.out.ext hx5)
    have HC := Lib.hid (HTN.out w5 w1.heap.size a1 c1 w3.heap.size a3 c3 (hx5.cell K6'.out) (RowOf.ext HR1'.out hx5) (hx5.cell K8.out) (RowOf.ext HR3.out hx5))
    clear hx5 HX4 HO4 K6' HR1' K8 HR3 t0 t2
    go_wp2_with fail
    refine HC.out.mono ?_
    rintro e w6 ⟨a6, c6, rfl, hx6, ho6⟩
    rw [HRL.out]
    obtain ⟨w7, hw7⟩ : ∃ w7, w7 = w6.alloc (.cells #[.slice a6 m c6] 26) := ⟨_, rfl⟩
    have hx7 : w6.Ext w7 := by rw [hw7]; repeat (first | exact World.Ext.refl _ | exact ⟨_, rfl⟩ | assumption | refine World.Ext.over ?_ _ | refine World.Ext.drewN ?_ _ | refine World.Ext.drew ?_ | refine World.Ext.alloc ?_ _ | refine World.Ext.setCell ?_ (by simp) _)
    have k12 : w7.cell? ⟨w6.heap.size, 0, none⟩ = some (.slice a6 m c6) := by rw [hw7]; simp [go_sem]
    have HX7 := Lib.hid (HX5.out.trans (hx6.trans hx7))
    have HO7 := Lib.hid (HO5.out.ext (hx6.trans hx7))
    have HC2 := Lib.hid (HTR.out w7 w6.heap.size a6 c6 k12 (RowOf.ext ho6.row hx7))
    clear hx6 hx7 ho6 HX5 HO5 HC k12
    go_wp2_with fail
    rw [← hw7]
    clear hw7
    refine HC2.out.mono ?_
    rintro e w8 ⟨rfl, hx8⟩
    obtain ⟨s0, s1, s2, s3, s4, s5, HR⟩ := Res.store2 (.int .i64 z) (.string tx) (HX7.out.trans hx8) (by omega) (HO7.out.ext hx8)
    clear hx8
    go_wp2_with fail
    exact bodyPost_ret (v := .tuple #[.agg #[.int .i64 z, .string tx], .bool true]) (by simp [results, Try.results75, go_sem, s4, s5]) rfl ⟨rfl, HR.out⟩
end Go.Proofs.Ytlcofjicpbbdhaa
