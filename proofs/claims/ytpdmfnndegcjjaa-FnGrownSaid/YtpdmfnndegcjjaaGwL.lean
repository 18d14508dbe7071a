/- FnGrown's walk. -/
import Derived.Test.YtpdmfnndegcjjaaAprF
import Derived.Test.YtpdmfnndegcjjaaDisF
import Derived.Test.YtpdmfnndegcjjaaShfF
import Derived.Test.YtpdmfnndegcjjaaJoinF
namespace Go.Proofs.Ytpdmfnndegcjjaa
open Go Go.RowKit
set_option maxRecDepth 5000 in
theorem r8Like_any (a : Option Addr) (c : Nat) (zs : List Int) (W H : Nat) (w : World) (hW1 : 1 ≤ W) (hW16 : W ≤ 16) (hH1 : 1 ≤ H) (hH16 : H ≤ 16) (h : CodeAt w a zs) :
    Calls Try.prog 86 #[.slice a zs.length c, .int .i64 W, .int .i64 H] w (NewPic w (PicOf W H)) := by
  obtain ⟨W0, hW0⟩ : ∃ W0, W0 = w.alloc (.cells #[.slice none 0 0] 26) := ⟨_, rfl⟩
  have hx0 : w.Ext W0 := by rw [hW0]; repeat (first | exact World.Ext.refl _ | exact ⟨_, rfl⟩ | assumption | refine World.Ext.over ?_ _ | refine World.Ext.drewN ?_ _ | refine World.Ext.drew ?_ | refine World.Ext.alloc ?_ _ | refine World.Ext.setCell ?_ (by simp) _)
  have hone : One W0 w.heap.size 26 (.slice none 0 0) := by rw [hW0]; exact One.new _ _ _ _ rfl
  have hlt := hone.lt
  have HF := Lib.hid (from_any a c zs w W0 hx0 h)
  have HONE := Lib.hid hone
  clear hone h
  go_enter Try.func86, Try.ntmps86
  go_wp2_with fail
  rw [← hW0]
  clear hW0
  refine HF.out.mono ?_
  rintro e w1 ⟨rfl, hx1, hs⟩
  have HS3 := Lib.hid hs
  have HO3 := Lib.hid (HONE.out.ext hx1)
  have HD := Lib.hid (drawPicture_any w W0.heap.size _ W H w1 hW1 hH1 hW16 hH16 (by omega) HS3.out)
  clear hx1 hs HF HONE
  go_wp2_with fail
  refine HD.out.mono ?_
  rintro e w4 ⟨a4, c4, l, hl, rfl, hw, hs, ho⟩
  have ho := GrowOf.own ByteArray.empty ho
  have HX4 : Hid (w.Ext w4) := hs.x
  have hlen := picRows_len W H l
  obtain ⟨r1, r2, r3, HR⟩ := Res.store (lo := w1.heap.size) (.slice a4 H c4) HX4.out (Nat.le_refl _) (HO3.out.keep (hw.block _ HO3.out.lt (by omega))) HO3.out.lt ho
  have HQ : Hid (PicOf W H (picRows W H l)) := ⟨picOk_rows hW1 hW16 hH1 hH16 hl, hlen, picW_rows (by omega) hl⟩
  have HLEN := Lib.hid hlen
  clear hw hs ho hl HS3 HO3 HD hlen
  go_wp2
  exact bodyPost_ret (v := .agg #[.slice a4 H c4]) (by simp [results, Try.results86, go_sem, r3]) rfl ⟨a4, c4, picRows W H l, by rw [HLEN.out], HQ.out, HR.out.1, HR.out.2⟩
/-- A drawn number. -/
def AtRet3 (w : World) (n : Nat) (e : Ending) (w' : World) : Prop := ∃ r : Nat, e = .returned (.int .i64 r) ∧ w.Ext w' ∧ r < n
theorem pic_bndM {W H : Nat} {s : List ByteArray} (hs : PicOf W H s) (hW : W ≤ 16) (hH : H ≤ 16) : PicBnd s := ⟨by rw [hs.2.1]; omega, fun y => by
  by_cases hy : y < s.length
  · rw [(picOk_spec hs.1).2.2.2.2.1.2 y hy, hs.2.2]; omega
  · rw [List.getD_eq_getElem?_getD, List.getElem?_eq_none (by omega)]; simp⟩
theorem made_rows {W H : Nat} (hW1 : 1 ≤ W) (hW : W ≤ 16) (hH1 : 1 ≤ H) (hH : H ≤ 16) (g : Nat → Nat → Bool) : PicOf W H (picRows W H (mkl W H g)) ∧ ∀ x y, x < W → y < H → pxl W H (picL (picRows W H (mkl W H g))) x y = g x y := by
  have hl : (mkl W H g).length = W * H := by rw [mkl_len, Nat.mul_comm]
  refine ⟨⟨picOk_rows hW1 hW hH1 hH hl, picRows_len _ _ _, picW_rows (by omega) hl⟩, fun x y hx hy => ?_⟩
  rw [picL_rows hl, pxl_at _ _ _ _ _ hx hy, mkl_at _ _ _ _ _ hx hy]
theorem far_small {kind : Int} {p q : Int × Int} (hp : 0 ≤ p.1 ∧ p.1 ≤ 15 ∧ 0 ≤ p.2 ∧ p.2 ≤ 15) (hq : 0 ≤ q.1 ∧ q.1 ≤ 15 ∧ 0 ≤ q.2 ∧ q.2 ≤ 15) : farI kind p q ≤ 512 := by
  have ha : 0 ≤ mxI (p.1 - q.1) (q.1 - p.1) ∧ mxI (p.1 - q.1) (q.1 - p.1) ≤ 15 := by unfold mxI; split <;> omega
  have hb : 0 ≤ mxI (p.2 - q.2) (q.2 - p.2) ∧ mxI (p.2 - q.2) (q.2 - p.2) ≤ 15 := by unfold mxI; split <;> omega
  unfold farI farD
  generalize mxI (p.1 - q.1) (q.1 - p.1) = x at *
  generalize mxI (p.2 - q.2) (q.2 - p.2) = y at *
  split
  · omega
  · split
    · unfold mxI; split <;> omega
    · have h1 := Int.mul_le_mul ha.2 ha.2 ha.1 (by omega : (0 : Int) ≤ 15)
      have h2 := Int.mul_le_mul hb.2 hb.2 hb.1 (by omega : (0 : Int) ≤ 15)
      omega
theorem spot_small {W H : Nat} {L : List Bool} {s : Int × Int} (hW : W ≤ 16) (hH : H ≤ 16) (h : s ∈ spotsTo W L (H * W)) : 0 ≤ s.1 ∧ s.1 ≤ 15 ∧ 0 ≤ s.2 ∧ s.2 ≤ 15 := by
  rw [spotsTo_mem] at h
  unfold pxP at h
  have h2 : hasB W H s.1 s.2 = true := by
    cases hh : hasB W H s.1 s.2
    · rw [pxl_out hh] at h; cases h
    · rfl
  have := hasB_true.1 h2
  omega
theorem apr_small {kind : Int} {W H : Nat} {L L2 : List Bool} (hW : W ≤ 16) (hH : H ≤ 16) : aprL kind (spotsTo W L (H * W)) (spotsTo W L2 (H * W)) ≤ 512 := aprL_le (by decide) fun s hs => by
  rcases leastF (kind := kind) (p := s) (spotsTo W L2 (H * W)) with ⟨-, h2⟩ | ⟨-, ⟨q, hq, e⟩, -⟩
  · omega
  · rw [← e]
    exact far_small (spot_small hW hH hs) (spot_small hW hH hq)
/-- What the law asks of two pictures of one size. -/
structure GwOk (W H : Nat) (kind : Int) (by_ : Nat) (ss tt : List ByteArray) : Prop where
  zero : picRows W H (mkl W H (growB kind 0 W H (picL ss))) = ss
  still : picRows W H (mkl W H (shrB kind 0 W H (picL ss))) = ss
  six : ∀ x y, 0 < (spotsTo W (picL ss) (H * W)).length → growB kind by_ W H (picL ss) x y = decide (disI kind W H (picL ss) x y ≤ by_)
  none : ∀ x y, ¬ 0 < (spotsTo W (picL ss) (H * W)).length → growB kind by_ W H (picL ss) x y = false
  comm : aprI kind tt ss = aprI kind ss tt
  small : 0 < (spotsTo W (picL ss) (H * W)).length → 0 < (spotsTo W (picL tt) (H * W)).length → 0 ≤ aprI kind ss tt ∧ aprI kind ss tt ≤ 512
  wide : 0 < (spotsTo W (picL ss) (H * W)).length → insB (picL tt) (picL (picRows W H (mkl W H (growB kind (aprI kind ss tt) W H (picL ss))))) = true
  broad : 0 < (spotsTo W (picL tt) (H * W)).length → insB (picL ss) (picL (picRows W H (mkl W H (growB kind (aprI kind ss tt) W H (picL tt))))) = true
  same : 0 < (spotsTo W (picL ss) (H * W)).length → 0 < (spotsTo W (picL tt) (H * W)).length → (aprI kind ss tt == 0) = decide (ss = tt)
theorem gwOk {W H : Nat} {kind : Int} {by_ : Nat} {ss tt : List ByteArray} (hs : PicOf W H ss) (ht : PicOf W H tt) (hW1 : 1 ≤ W) (hW : W ≤ 16) (hH : H ≤ 16) : GwOk W H kind by_ ss tt := by
  obtain ⟨k1, k2, k3⟩ := hs
  obtain ⟨m1, m2, m3⟩ := ht
  have ls : (picL ss).length = W * H := by rw [picL_len (picOk_spec k1).2.2.2.2.1, k2, k3, Nat.mul_comm]
  have lt : (picL tt).length = W * H := by rw [picL_len (picOk_spec m1).2.2.2.2.1, m2, m3, Nat.mul_comm]
  have sf := pic_self k1
  have tf := pic_self m1
  rw [k2, k3] at sf
  rw [m2, m3] at tf
  have mk : ∀ (g : Nat → Nat → Bool) (L : List Bool), L.length = W * H → (∀ x y, x < W → y < H → g x y = L.getD (y * W + x) false) → mkl W H g = L := fun g L hl hg => by
    apply List.ext_getElem (by rw [mkl_len, hl, Nat.mul_comm])
    intro k h1 h2
    have h1' : k < W * H := by rw [mkl_len, Nat.mul_comm] at h1; exact h1
    have hx : k % W < W := Nat.mod_lt _ (by omega)
    have hy : k / W < H := Nat.div_lt_of_lt_mul h1'
    have hk : k / W * W + k % W = k := by rw [Nat.mul_comm]; exact Nat.div_add_mod k W
    have e1 := mkl_at W H g _ _ hx hy
    rw [hg _ _ hx hy, hk, List.getD_eq_getElem?_getD, List.getElem?_eq_getElem h1, List.getD_eq_getElem?_getD, List.getElem?_eq_getElem h2] at e1
    exact e1
  have ai : aprI kind ss tt = mxI (aprL kind (spotsTo W (picL ss) (H * W)) (spotsTo W (picL tt) (H * W))) (aprL kind (spotsTo W (picL tt) (H * W)) (spotsTo W (picL ss) (H * W))) := by unfold aprI; rw [k2, k3, m2, m3]
  have ai2 : aprI kind tt ss = mxI (aprL kind (spotsTo W (picL tt) (H * W)) (spotsTo W (picL ss) (H * W))) (aprL kind (spotsTo W (picL ss) (H * W)) (spotsTo W (picL tt) (H * W))) := by unfold aprI; rw [k2, k3, m2, m3]
  have ne : ∀ {L : List Bool}, 0 < (spotsTo W L (H * W)).length → spotsTo W L (H * W) ≠ [] := fun h e => by rw [e] at h; cases h
  have gr : ∀ (L L2 : List Bool) (d : Int), L2.length = W * H → 0 < (spotsTo W L (H * W)).length → aprL kind (spotsTo W L2 (H * W)) (spotsTo W L (H * W)) ≤ d → insB L2 (picL (picRows W H (mkl W H (growB kind d W H L)))) = true := fun L L2 d h2 h3 h4 => by
    have hl : (mkl W H (growB kind d W H L)).length = W * H := by rw [mkl_len, Nat.mul_comm]
    rw [picL_rows hl]
    unfold insB
    rw [insideB_at]
    intro i hi hb
    rw [h2] at hi
    have hx : i % W < W := Nat.mod_lt _ (by omega)
    have hy : i / W < H := Nat.div_lt_of_lt_mul hi
    have hk : i / W * W + i % W = i := by rw [Nat.mul_comm]; exact Nat.div_add_mod i W
    have e1 := mkl_at W H (growB kind d W H L) _ _ hx hy
    rw [hk] at e1
    rw [e1]
    exact grow_apart hx hy (ne h3) h4 (by rw [hk]; exact hb)
  refine ⟨?_, ?_, fun x y h => ?_, fun x y h => ?_, ?_, fun h1 h2 => ?_, fun h => ?_, fun h => ?_, fun h1 h2 => ?_⟩
  · rw [mk _ _ ls fun x y hx hy => grow_zero hx hy, sf]
  · rw [mk _ _ ls fun x y hx hy => shrink_zero hx hy, sf]
  · unfold growB disI
    have h0 : 0 ≤ nearTo kind W (picL ss) (x, y) (H * W) := by
      unfold nearTo
      rcases leastF (kind := kind) (p := ((x : Int), (y : Int))) (spotsTo W (picL ss) (H * W)) with ⟨e, -⟩ | ⟨h2, -⟩
      · exact absurd e (ne h)
      · exact h2
    rw [decide_eq_true h0, Bool.true_and]
  · unfold growB
    have e : spotsTo W (picL ss) (H * W) = [] := List.eq_nil_of_length_eq_zero (by omega)
    unfold nearTo
    rw [e]
    rfl
  · rw [ai, ai2]
    unfold mxI; split <;> split <;> omega
  · rw [ai]
    have n1 := aprL_nn kind (spotsTo W (picL ss) (H * W)) (spotsTo W (picL tt) (H * W))
    have n2 := aprL_nn kind (spotsTo W (picL tt) (H * W)) (spotsTo W (picL ss) (H * W))
    have s1 := apr_small (kind := kind) (L := picL ss) (L2 := picL tt) hW hH
    have s2 := apr_small (kind := kind) (L := picL tt) (L2 := picL ss) hW hH
    unfold mxI; split <;> omega
  · exact gr _ _ _ lt h (by rw [ai]; unfold mxI; split <;> omega)
  · exact gr _ _ _ ls h (by rw [ai]; unfold mxI; split <;> omega)
  · rw [Bool.eq_iff_iff, beq_iff_eq, decide_eq_true_eq, ai, apart_eq ls lt (ne h1) (ne h2)]
    constructor
    · intro h
      rw [← sf, ← tf, h]
    · intro h
      rw [h]
end Go.Proofs.Ytpdmfnndegcjjaa
