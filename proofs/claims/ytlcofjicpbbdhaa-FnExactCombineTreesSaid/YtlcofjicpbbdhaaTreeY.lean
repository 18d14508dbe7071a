/- Quadtrees: the reference's TurnTree and CombineTrees. -/
import Derived.Test.YtlcofjicpbbdhaaTreeV
namespace Go
open Go.RowKit Go.Proofs.Ytlcofjicpbbdhaa
theorem Res.store2 {w W1 : World} {p : Nat} {T : TypeId} {u v : Value} (a b : Value) (hX : w.Ext W1) (hp : w.heap.size ≤ p) (h : Two W1 p T u v) :
    W1.cell? ⟨p, 0, none⟩ = some u ∧ W1.frozen? ⟨p, 0, none⟩ = false ∧ W1.cell? ⟨p, 1, none⟩ = some v ∧ W1.frozen? ⟨p, 1, none⟩ = false ∧
    ((W1.setCell ⟨p, 0, none⟩ a).setCell ⟨p, 1, none⟩ b).cell? ⟨p, 0, none⟩ = some a ∧ ((W1.setCell ⟨p, 0, none⟩ a).setCell ⟨p, 1, none⟩ b).cell? ⟨p, 1, none⟩ = some b ∧
    Hid (w.Ext ((W1.setCell ⟨p, 0, none⟩ a).setCell ⟨p, 1, none⟩ b)) :=
  ⟨h.cell0, h.free 0, h.cell1, h.free 1, (h.set a b).cell0, (h.set a b).cell1, (hX.setCell (p := ⟨p, 0, none⟩) hp a).setCell (p := ⟨p, 1, none⟩) hp b⟩
end Go
namespace Go.Proofs.Ytlcofjicpbbdhaa
open Go Go.RowKit
theorem fS_mk {m : Nat} {g : Nat → Nat → Bool} (hm : 0 < m) {i j : Nat} (hi : i < m) (hj : j < m) : fS (picRows m m (mkl m m g)) i j = g i j := by
  have hl : (mkl m m g).length = m * m := mkl_len _ _ _
  unfold fS
  rw [picW_rows hm hl, picRows_len, picL_rows hl, pxl_at _ _ _ _ _ hi hj, mkl_at _ _ _ _ _ hi hj]
/-- The text of a picture with these pixels. -/
def txG (n : Nat) (g : Nat → Nat → Bool) : ByteArray := txB (qtext g n 0 0)
theorem txG_size {n : Nat} (g : Nat → Nat → Bool) (h : n ≤ 4) : (txG n g).size ≤ 426 := by
  unfold txG
  rw [txB_size]
  exact Nat.le_trans (qtext_le _ _ _ _) (Lq_4 h)
theorem txG_congr {n : Nat} {f g : Nat → Nat → Bool} (h : ∀ i j, i < 2 ^ n → j < 2 ^ n → f i j = g i j) : txG n f = txG n g := by
  unfold txG
  rw [qtext_congr n 0 0 fun i j _ hi _ hj => h i j (by omega) (by omega)]
set_option maxHeartbeats 800000 in
theorem l02Tree_any (p : Nat) (a : Option Addr) (c n m : Nat) (g : Nat → Nat → Bool) (hm : m = 2 ^ n) (hn : n ≤ 4) (w : World) (hp : w.cell? ⟨p, 0, none⟩ = some (.slice a m c)) (hr : RowS w a (picRows m m (mkl m m g))) :
    Calls Try.prog 170 #[.pointer (some ⟨p, 0, none⟩)] w fun e w' => e = .returned (.agg #[.int .i64 m, .string (txG n g)]) ∧ w.Ext w' := by
  have hm1 : 0 < m := by rw [hm]; exact Nat.two_pow_pos n
  have hm16 : m ≤ 16 := by rw [hm]; exact Nat.pow_le_pow_right (by decide) hn
  have hl : (mkl m m g).length = m * m := mkl_len _ _ _
  have hev := even_rows hm1 hl
  have hpw := picW_rows hm1 hl
  have hpl := picRows_len m m (mkl m m g)
  obtain ⟨W0, hW0⟩ : ∃ W0, W0 = w.alloc (.cells #[.int .i64 0, .string ⟨#[]⟩] 91) := ⟨_, rfl⟩
  have hx0 : w.Ext W0 := by rw [hW0]; repeat (first | exact World.Ext.refl _ | exact ⟨_, rfl⟩ | assumption | refine World.Ext.over ?_ _ | refine World.Ext.drewN ?_ _ | refine World.Ext.drew ?_ | refine World.Ext.alloc ?_ _ | refine World.Ext.setCell ?_ (by simp) _)
  have htwo : Two W0 w.heap.size 91 (.int .i64 0) (.string ⟨#[]⟩) := by rw [hW0]; exact Two.new _ _ _ _ _ rfl
  have HWS : Hid (∀ w', w.Ext w' → Calls Try.prog 82 #[.pointer (some ⟨p, 0, none⟩)] w' fun e w'' => e = .returned (.int .i64 m) ∧ w'.Ext w'') := fun w' hx => by
    have h := l01Width_any p a c _ w' hev.1 (by omega) (by omega) (by rw [hpl]; exact hx.cell hp) (RowOf.ext hr hx)
    rw [hpw] at h
    exact h
  have HTX : Hid (∀ w', w.Ext w' → Calls Try.prog 224 #[.pointer (some ⟨p, 0, none⟩), .int .i64 0, .int .i64 0, .int .i64 m] w' fun e w'' => e = .returned (.string (txG n g)) ∧ w'.Ext w'') := fun w' hx => by
    have h := l02Text_any p a c _ hev (by omega) (by omega) n 0 0 m 0 0 w' hn rfl rfl (by rw [hm]) (by omega) (by omega) (by rw [hpl]; exact hx.cell hp) (RowOf.ext hr hx)
    rw [show txB (qtext (fS (picRows m m (mkl m m g))) n 0 0) = txG n g from txG_congr fun i j hi hj => fS_mk hm1 (by omega) (by omega)] at h
    exact h
  have HX0 := Lib.hid hx0
  have HO := Lib.hid htwo
  clear hx0 htwo hp hr hev hpw hpl hl hm
  generalize txG n g = tx at *
  go_enter Try.func170, Try.ntmps170
  go_wp2_with fail
  rw [← hW0]
  refine (HWS.out _ HX0.out).mono ?_
  rintro e w1 ⟨rfl, hx1⟩
  have HX1 := Lib.hid (HX0.out.trans hx1)
  have HO1 := Lib.hid (HO.out.ext hx1)
  clear hx1 hW0 HX0 HO
  go_wp2_with fail
  refine (HTX.out _ HX1.out).mono ?_
  rintro e w2 ⟨rfl, hx2⟩
  obtain ⟨s0, s1, s2, s3, s4, s5, HR⟩ := Res.store2 (.int .i64 (m : Int)) (.string tx) (HX1.out.trans hx2) (Nat.le_refl _) (HO1.out.ext hx2)
  clear hx2 HX1 HO1
  go_wp2
  exact bodyPost_ret (v := .agg #[.int .i64 (m : Int), .string tx]) (by simp [results, Try.results170, go_sem, s4, s5]) rfl ⟨rfl, HR.out⟩
theorem l01Turn_any (p : Nat) (a : Option Addr) (c : Nat) (ss : List ByteArray) (m : Nat) (k : Int) (hk : inB k 0 3 = true) (w : World) (he : Even ss) (hm1 : 1 ≤ m) (hm16 : m ≤ 16) (hW : picW ss = m) (hH : ss.length = m) (hp : w.cell? ⟨p, 0, none⟩ = some (.slice a m c)) (hr : RowS w a ss) :
    Calls Try.prog 169 #[.pointer (some ⟨p, 0, none⟩), .int .i64 k] w (PicVal w (picRows m m (mkl m m (trnF k.toNat m (fS ss))))) := by
  obtain ⟨h0, h1⟩ := inB_true.1 hk
  rcases (show k = 0 ∨ k = 1 ∨ k = 2 ∨ k = 3 by omega) with rfl | rfl | rfl | rfl
  · exact l01Turn0_any p a c ss m w he hm1 hm16 hW hH hp hr
  · exact l01Turn1_any p a c ss m w he hm1 hm16 hW hH hp hr
  · exact l01Turn2_any p a c ss m w he hm1 hm16 hW hH hp hr
  · exact l01Turn3_any p a c ss m w he hm1 hm16 hW hH hp hr
/-- What TurnTree gives. -/
def turnO (z : Int) (s : ByteArray) (k : Int) : Option (Int × ByteArray) := if inB k 0 3 then (opn z s).map fun q => (z, txG q.1 (trnF k.toNat (2 ^ q.1) fun i j => q.2.on q.1 0 0 i j)) else none
def optT (o : Option (Int × ByteArray)) : Int × ByteArray := o.getD (0, ⟨#[]⟩)
theorem trnF_congr {k m : Nat} {f g : Nat → Nat → Bool} (h : ∀ i j, i < m → j < m → f i j = g i j) {x y : Nat} (hx : x < m) (hy : y < m) : trnF k m f x y = trnF k m g x y := by
  unfold trnF
  split
  · exact h _ _ (by omega) hy
  · exact h _ _ hx (by omega)
  · exact h _ _ hy hx
  · exact h _ _ hy (by omega)
theorem mkl_eq {m : Nat} {f g : Nat → Nat → Bool} (h : ∀ i j, i < m → j < m → f i j = g i j) : mkl m m f = mkl m m g := by
  rcases Nat.eq_zero_or_pos m with e | e
  · subst e; rfl
  · exact ((mkl_pt m f).congr h).mk e
def TreeRet (w : World) (o : Option (Int × ByteArray)) (e : Ending) (w' : World) : Prop := e = .returned (.tuple #[.agg #[.int .i64 (optT o).1, .string (optT o).2], .bool o.isSome]) ∧ w.Ext w'
set_option maxRecDepth 5000 in
set_option maxHeartbeats 1600000 in
theorem specTurnT_any (z : Int) (s : ByteArray) (k : Int) (w : World) (hs : s.size ≤ 1048576) :
    Calls Try.prog 71 #[.agg #[.int .i64 z, .string s], .int .i64 k] w (TreeRet w (turnO z s k)) := by
  obtain ⟨W0, hW0⟩ : ∃ W0, W0 = (w.alloc (.cells #[.int .i64 z, .string s] 91)).alloc (.cells #[.int .i64 0, .string ⟨#[]⟩] 91) := ⟨_, rfl⟩
  have hx0 : w.Ext W0 := by rw [hW0]; repeat (first | exact World.Ext.refl _ | exact ⟨_, rfl⟩ | assumption | refine World.Ext.over ?_ _ | refine World.Ext.drewN ?_ _ | refine World.Ext.drew ?_ | refine World.Ext.alloc ?_ _ | refine World.Ext.setCell ?_ (by simp) _)
  have d0 : W0.cell? ⟨w.heap.size, 0, none⟩ = some (.int .i64 z) := by rw [hW0]; simp [go_sem]
  have d1 : W0.cell? ⟨w.heap.size, 1, none⟩ = some (.string s) := by rw [hW0]; simp [go_sem]
  have htwo : Two W0 (w.heap.size + 1) 91 (.int .i64 0) (.string ⟨#[]⟩) := by rw [hW0]; exact Two.new _ _ _ _ _ (by simp)
  have HOP := Lib.hid (l02Open_any w.heap.size z s W0 d0 d1 hs)
  have HIN : Hid (∀ w', Calls Try.prog 144 #[.int .i64 k, .int .i64 0, .int .i64 3] w' fun e w'' => e = .returned (.bool (inB k 0 3)) ∧ w'.Ext w'') := fun w' => l00In_any _ _ _ w' _ rfl
  have HX0 := Lib.hid hx0
  have HO := Lib.hid htwo
  clear hx0 htwo d0 d1
  by_cases hno : turnO z s k = none
  · rw [hno]
    have hb : (opn z s).isSome = false ∨ inB k 0 3 = false := by
      unfold turnO at hno
      split at hno
      · left
        cases ho : opn z s
        · rfl
        · rw [ho] at hno; cases hno
      · rename_i h
        right
        simpa using h
    show Calls _ _ _ _ (TreeRet w none)
    go_enter Try.func71, Try.ntmps71
    go_wp2_with fail
    rw [← hW0]
    refine HOP.out.mono ?_
    rintro e w1 ⟨R, a1, c1, rfl, hx1, -, -⟩
    obtain ⟨w2, hw2⟩ : ∃ w2, w2 = w1.alloc (.cells #[.slice a1 R.length c1] 26) := ⟨_, rfl⟩
    have hx2 : w1.Ext w2 := by rw [hw2]; repeat (first | exact World.Ext.refl _ | exact ⟨_, rfl⟩ | assumption | refine World.Ext.over ?_ _ | refine World.Ext.drewN ?_ _ | refine World.Ext.drew ?_ | refine World.Ext.alloc ?_ _ | refine World.Ext.setCell ?_ (by simp) _)
    have HX2 := Lib.hid (HX0.out.trans (hx1.trans hx2))
    have HO2 := Lib.hid (HO.out.ext (hx1.trans hx2))
    clear hx1 hx2 hW0 HX0 HO HOP hno
    cases ho : (opn z s).isSome
    · obtain ⟨s0, s1, s2, s3, s4, s5, HR⟩ := Res.store2 (.int .i64 0) (.string ⟨#[]⟩) HX2.out (by omega) HO2.out
      subst hw2
      clear ho hb
      go_wp2_with fail
      exact bodyPost_ret (v := .tuple #[.agg #[.int .i64 0, .string ⟨#[]⟩], .bool false]) (by simp [results, Try.results71, go_sem, s4, s5]) rfl ⟨rfl, HR.out⟩
    · have hk : inB k 0 3 = false := hb.resolve_left (by rw [ho]; decide)
      rw [hk] at HIN
      clear ho hb hk
      go_wp2_with fail
      rw [← hw2]
      clear hw2
      refine (HIN.out _).mono ?_
      rintro e w3 ⟨rfl, hx3⟩
      obtain ⟨s0, s1, s2, s3, s4, s5, HR⟩ := Res.store2 (.int .i64 0) (.string ⟨#[]⟩) (HX2.out.trans hx3) (by omega) (HO2.out.ext hx3)
      clear hx3
      go_wp2_with fail
      exact bodyPost_ret (v := .tuple #[.agg #[.int .i64 0, .string ⟨#[]⟩], .bool false]) (by simp [results, Try.results71, go_sem, s4, s5]) rfl ⟨rfl, HR.out⟩
  · obtain ⟨hk, n, T, hop⟩ : inB k 0 3 = true ∧ ∃ n T, opn z s = some (n, T) := by
      unfold turnO at hno
      split at hno
      · rename_i h
        refine ⟨h, ?_⟩
        cases ho : opn z s with
        | none => rw [ho] at hno; exact absurd rfl hno
        | some q => exact ⟨q.1, q.2, rfl⟩
      · exact absurd rfl hno
    obtain ⟨hn4, hzn, -⟩ := opn_some hop
    obtain ⟨m, hm⟩ : ∃ m : Nat, m = 2 ^ n := ⟨_, rfl⟩
    rw [← hm] at hzn
    have hm16 : m ≤ 16 := by rw [hm]; exact Nat.pow_le_pow_right (by decide) hn4
    have hm1 : 1 ≤ m := by rw [hm]; exact Nat.two_pow_pos n
    have hres : turnO z s k = some (z, txG n (trnF k.toNat m fun i j => T.on n 0 0 i j)) := by unfold turnO; rw [if_pos hk, hop, hm]; rfl
    obtain ⟨ev1, ev2, ev3, ev4⟩ := even_opn n T
    rw [← hm] at ev2 ev3 ev4
    have hge : mkl m m (trnF k.toNat m (fS (opnR n T))) = mkl m m (trnF k.toNat m fun i j => T.on n 0 0 i j) := mkl_eq fun i j hi hj => trnF_congr (fun i j hi hj => fS_opn n T (by omega) (by omega)) hi hj
    have HTN : Hid (∀ (w' : World) (p : Nat) (a : Option Addr) (c : Nat), w'.cell? ⟨p, 0, none⟩ = some (.slice a m c) → RowS w' a (opnR n T) → Calls Try.prog 169 #[.pointer (some ⟨p, 0, none⟩), .int .i64 k] w' (PicVal w' (picRows m m (mkl m m (trnF k.toNat m fun i j => T.on n 0 0 i j))))) := fun w' p a c hc hr => by
      rw [← hge]
      exact l01Turn_any p a c (opnR n T) m k hk w' ev1 hm1 hm16 ev2 ev3 hc hr
    have HTR : Hid (∀ (w' : World) (p : Nat) (a : Option Addr) (c : Nat), w'.cell? ⟨p, 0, none⟩ = some (.slice a m c) → RowS w' a (picRows m m (mkl m m (trnF k.toNat m fun i j => T.on n 0 0 i j))) → Calls Try.prog 170 #[.pointer (some ⟨p, 0, none⟩)] w' fun e w'' => e = .returned (.agg #[.int .i64 z, .string (txG n (trnF k.toNat m fun i j => T.on n 0 0 i j))]) ∧ w'.Ext w'') := fun w' p a c hc hr => by
      rw [hzn]
      exact l02Tree_any p a c n m _ hm hn4 w' hc hr
    have HRL := Lib.hid (picRows_len m m (mkl m m (trnF k.toNat m fun i j => T.on n 0 0 i j)))
    rw [hk] at HIN
    rw [hres]
    have HOR := Lib.hid hop
    have HEV := Lib.hid ev3
    clear hno hop hge hres hk ev1 ev2 ev3 ev4 hzn hm
    generalize txG n (trnF k.toNat m fun i j => T.on n 0 0 i j) = tx at *
    generalize picRows m m (mkl m m (trnF k.toNat m fun i j => T.on n 0 0 i j)) = RR at *
    go_enter Try.func71, Try.ntmps71
    go_wp2_with fail
    rw [← hW0]
    refine HOP.out.mono ?_
    rintro e w1 ⟨R, a1, c1, rfl, hx1, ho1, hR⟩
    have hRe := hR n T HOR.out
    subst hRe
    obtain ⟨w2, hw2⟩ : ∃ w2, w2 = w1.alloc (.cells #[.slice a1 m c1] 26) := ⟨_, rfl⟩
    have hx2 : w1.Ext w2 := by rw [hw2]; repeat (first | exact World.Ext.refl _ | exact ⟨_, rfl⟩ | assumption | refine World.Ext.over ?_ _ | refine World.Ext.drewN ?_ _ | refine World.Ext.drew ?_ | refine World.Ext.alloc ?_ _ | refine World.Ext.setCell ?_ (by simp) _)
    have HX2 := Lib.hid (HX0.out.trans (hx1.trans hx2))
    have HO2 := Lib.hid (HO.out.ext (hx1.trans hx2))
    have k6 : w2.cell? ⟨w1.heap.size, 0, none⟩ = some (.slice a1 m c1) := by rw [hw2]; simp [go_sem]
    have HR1 := Lib.hid (RowOf.ext ho1.row hx2)
    clear hx1 hx2 hW0 HX0 HO HOP ho1 hR
    rw [HEV.out, HOR.out]
    go_wp2_with fail
    rw [← hw2]
    clear hw2
    refine (HIN.out _).mono ?_
    rintro e w3 ⟨rfl, hx3⟩
    have HX3 := Lib.hid (HX2.out.trans hx3)
    have HO3 := Lib.hid (HO2.out.ext hx3)
    have HC := Lib.hid (HTN.out w3 w1.heap.size a1 c1 (hx3.cell k6) (RowOf.ext HR1.out hx3))
    clear hx3 k6 HR1 HX2 HO2
    go_wp2_with fail
    refine HC.out.mono ?_
    rintro e w4 ⟨a4, c4, rfl, hx4, ho4⟩
    rw [HRL.out]
    obtain ⟨w5, hw5⟩ : ∃ w5, w5 = w4.alloc (.cells #[.slice a4 m c4] 26) := ⟨_, rfl⟩
    have hx5 : w4.Ext w5 := by rw [hw5]; repeat (first | exact World.Ext.refl _ | exact ⟨_, rfl⟩ | assumption | refine World.Ext.over ?_ _ | refine World.Ext.drewN ?_ _ | refine World.Ext.drew ?_ | refine World.Ext.alloc ?_ _ | refine World.Ext.setCell ?_ (by simp) _)
    have k8 : w5.cell? ⟨w4.heap.size, 0, none⟩ = some (.slice a4 m c4) := by rw [hw5]; simp [go_sem]
    have HX5 := Lib.hid (HX3.out.trans (hx4.trans hx5))
    have HO5 := Lib.hid (HO3.out.ext (hx4.trans hx5))
    have HC2 := Lib.hid (HTR.out w5 w4.heap.size a4 c4 k8 (RowOf.ext ho4.row hx5))
    clear hx4 hx5 ho4 HX3 HO3 HC k8
    go_wp2_with fail
    rw [← hw5]
    clear hw5
    refine HC2.out.mono ?_
    rintro e w6 ⟨rfl, hx6⟩
    obtain ⟨s0, s1, s2, s3, s4, s5, HR⟩ := Res.store2 (.int .i64 z) (.string tx) (HX5.out.trans hx6) (by omega) (HO5.out.ext hx6)
    clear hx6
    go_wp2_with fail
    exact bodyPost_ret (v := .tuple #[.agg #[.int .i64 z, .string tx], .bool true]) (by simp [results, Try.results71, go_sem, s4, s5]) rfl ⟨rfl, HR.out⟩
end Go.Proofs.Ytlcofjicpbbdhaa
