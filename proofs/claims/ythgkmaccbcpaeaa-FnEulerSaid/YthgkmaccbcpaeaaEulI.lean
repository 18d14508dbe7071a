/- FnEuler: what the law's functions tell of a picture, for one kind of neighbours. -/
import Derived.Test.YthgkmaccbcpaeaaQuaI
import Derived.Test.YthgkmaccbcpaeaaHolI
import Derived.Test.YthgkmaccbcpaeaaJoinF
import Derived.Test.YthgkmaccbcpaeaaSamB
import Derived.Test.YthgkmaccbcpaeaaGenV
namespace Go.Proofs.Ythgkmaccbcpaeaa
open Go Go.RowKit
def wantN (xs : List Int) (least : Int) (k : Nat) : Int := sI (fun j => if least ≤ xs.getD j 0 then xs.getD j 0 else 0) k
def sumX (xs : List Int) (k : Nat) : Int := sI (fun j => xs.getD j 0) k
theorem rows_ofE {W H : Nat} (hW1 : 1 ≤ W) (hW : W ≤ 16) (hH1 : 1 ≤ H) (hH : H ≤ 16) (g : Nat → Nat → Bool) : PicOf W H (picRows W H (mkl W H g)) ∧ picL (picRows W H (mkl W H g)) = mkl W H g := by
  have hl : (mkl W H g).length = W * H := by rw [mkl_len, Nat.mul_comm]
  exact ⟨⟨picOk_rows hW1 hW hH1 hH hl, picRows_len _ _ _, picW_rows (by omega) hl⟩, picL_rows hl⟩
theorem like_ofE {W H : Nat} {ss tt : List ByteArray} (h1 : PicOf W H ss) (h2 : PicOf W H tt) : likeP ss tt = true := by unfold likeP; rw [h1.1, h2.1, h1.2.1, h1.2.2, h2.2.1, h2.2.2]; simp
def QuadsRet (w : World) (q1 q3 qd : Int) (e : Ending) (w' : World) : Prop := ∃ b o c, e = .returned (.tuple #[.slice (some ⟨b, o, none⟩) 3 c, .bool true]) ∧ w.Ext w' ∧ w'.cell? ⟨b, o, none⟩ = some (.int .i64 q1) ∧ w'.cell? ⟨b, o + 1, none⟩ = some (.int .i64 q3) ∧ w'.cell? ⟨b, o + 2, none⟩ = some (.int .i64 qd)
def NumRet (w : World) (n : Int) (e : Ending) (w' : World) : Prop := e = .returned (.tuple #[.int .i64 n, .bool true]) ∧ w.Ext w'
def YesRet (w : World) (e : Ending) (w' : World) : Prop := e = .returned (.bool true) ∧ w.Ext w'
set_option maxRecDepth 5000 in
set_option maxHeartbeats 1600000 in
theorem implAreasE_any (a : Option Addr) (c : Nat) (ss : List ByteArray) (eight : Bool) (F : Int × Int → Nat) (n : Nat) (hF : LabP ss eight F n) (w : World) (hb : PicBnd ss) (hm : RowS w a ss) :
    Calls Try.prog 44 #[.agg #[.slice a ss.length c], .bool eight] w (IntsRet2 w (optZ (picOk ss) (areL (picW ss) ss.length F n)) (picOk ss)) := by
  obtain ⟨W0, hW0⟩ : ∃ W0, W0 = w.alloc (.cells #[.slice a ss.length c] 26) := ⟨_, rfl⟩
  have hx0 : w.Ext W0 := by rw [hW0]; repeat (first | exact World.Ext.refl _ | exact ⟨_, rfl⟩ | assumption | refine World.Ext.over ?_ _ | refine World.Ext.drewN ?_ _ | refine World.Ext.drew ?_ | refine World.Ext.alloc ?_ _ | refine World.Ext.setCell ?_ (by simp) _)
  have HIO : Hid (Calls Try.prog 72 #[.agg #[.slice a ss.length c]] W0 (ImgOf W0 ss (picOk ss))) := imageOf_any a c ss W0 hb.1 hb.2 (hm.ext hx0) _ rfl
  have HX0 := Lib.hid hx0
  cases h : picOk ss
  · rw [h] at HIO
    clear hb hm hx0 h hF
    show Calls _ _ _ _ (IntsRet2 w [] false)
    go_enter Try.func44, Try.ntmps44
    go_wp2_with fail
    rw [← hW0]
    refine HIO.out.mono ?_
    rintro e w1 ⟨rfl, hx1⟩
    have HR : Hid (IntsRet2 w [] false (.returned (.tuple #[.slice none 0 0, .bool false])) w1) := ⟨none, 0, rfl, HX0.out.trans hx1, OwnOf.nil _ _⟩
    clear hx1 hW0
    go_wp2
    go_ret2
    exact HR.out
  · rw [h] at HIO
    obtain ⟨v1, v2, v3, v4, e1, -⟩ := picOk_spec h
    have HAR : Hid (∀ w' b ab, Img w' b ab (picW ss) ss.length (picL ss) → Calls Try.prog 118 #[.pointer (some ⟨b, 0, none⟩), .bool eight] w' (IntsRet w' (areL (picW ss) ss.length F n))) := fun w' b ab hI => areas_any b ab _ _ _ eight F n w' (by omega) (by omega) hI hF
    clear hb hm hx0 h hF v1 v2 v3 v4 e1
    show Calls _ _ _ _ (IntsRet2 w (areL (picW ss) ss.length F n) true)
    generalize areL (picW ss) ss.length F n = R at *
    go_enter Try.func44, Try.ntmps44
    go_wp2_with fail
    rw [← hW0]
    refine HIO.out.mono ?_
    rintro e w1 ⟨b1, ab1, rfl, hx1, hi1, -, -⟩
    have HC := Lib.hid (HAR.out w1 b1 ab1 hi1)
    have HX1 := Lib.hid (HX0.out.trans hx1)
    clear hi1 hx1 hW0
    go_wp2_with fail
    refine HC.out.mono ?_
    rintro e w3 ⟨a3, c3, rfl, hx3, ho3⟩
    have HR : Hid (IntsRet2 w R true (.returned (.tuple #[.slice a3 R.length c3, .bool true])) w3) := ⟨a3, c3, rfl, HX1.out.trans hx3, ho3.mono HX1.out.size (Nat.le_refl _)⟩
    clear hx3 ho3
    go_wp2
    go_ret2
    exact HR.out
structure EuC (pa : Option Addr) (H pc : Nat) (ss : List ByteArray) (e8 : Bool) (n : Nat) (hol : Int) (xs : List Int) (M : List (List Int)) (L : List ByteArray) (K : Int → List ByteArray) (q1 q3 qd cb : Int) : Prop where
  c1 : ∀ w', RowS w' pa ss → Calls Try.prog 41 #[.agg #[.slice pa H pc], .bool e8] w' (CmpRet w' M n true)
  c2 : ∀ w', RowS w' pa ss → Calls Try.prog 42 #[.agg #[.slice pa H pc], .bool e8] w' (NumRet w' hol)
  c3 : ∀ w', RowS w' pa ss → Calls Try.prog 43 #[.agg #[.slice pa H pc], .bool e8] w' (NumRet w' ((n : Int) - hol))
  c4 : ∀ w', RowS w' pa ss → Calls Try.prog 44 #[.agg #[.slice pa H pc], .bool e8] w' (IntsRet2 w' xs true)
  c5 : ∀ w', RowS w' pa ss → Calls Try.prog 45 #[.agg #[.slice pa H pc], .bool e8] w' (PicRet2 w' L (decide (0 < n)))
  c6 : ∀ least : Int, 0 ≤ least → least ≤ 8 → ∀ w', RowS w' pa ss → Calls Try.prog 47 #[.agg #[.slice pa H pc], .bool e8, .int .i64 least] w' (PicRet2 w' (K least) true)
  k1 : ∀ least : Int, ∀ w' x c, RowS w' x (K least) → Calls Try.prog 33 #[.agg #[.slice x H c]] w' (NumRet w' (wantN xs least n))
  k2 : ∀ least : Int, ∀ w' x c, RowS w' x (K least) → RowS w' pa ss → Calls Try.prog 48 #[.agg #[.slice x H c], .agg #[.slice pa H pc]] w' (YesRet w')
  l1 : 0 < n → ∀ w' x c, RowS w' x L → Calls Try.prog 33 #[.agg #[.slice x H c]] w' (NumRet w' (mxR xs n))
  l2 : 0 < n → ∀ w' x c, RowS w' x L → RowS w' pa ss → Calls Try.prog 48 #[.agg #[.slice x H c], .agg #[.slice pa H pc]] w' (YesRet w')
  lenK : ∀ least, (K least).length = H
  lenL : 0 < n → L.length = H
  len : xs.length = n
  few : n ≤ 144
  holb : -1 ≤ hol ∧ hol ≤ 256
  form : 4 * ((n : Int) - hol) = q1 - q3 + (if e8 then -2 else 2) * qd
  pos : ∀ j, j < n → 1 ≤ xs.getD j 0 ∧ xs.getD j 0 ≤ 144
  sum : sumX xs n = cb
theorem wantN_le {xs : List Int} {n : Nat} (h : ∀ j, j < n → 1 ≤ xs.getD j 0 ∧ xs.getD j 0 ≤ 144) (least : Int) : ∀ k, k ≤ n → 0 ≤ wantN xs least k ∧ wantN xs least k ≤ 144 * k
  | 0, _ => by show (0 : Int) ≤ 0 ∧ (0 : Int) ≤ 144 * (0 : Nat); decide
  | k + 1, hk => by
    have h1 := wantN_le h least k (by omega)
    have h2 := h k (by omega)
    show 0 ≤ wantN xs least k + (if least ≤ xs.getD k 0 then xs.getD k 0 else 0) ∧ wantN xs least k + (if least ≤ xs.getD k 0 then xs.getD k 0 else 0) ≤ _
    split <;> omega
theorem sumX_le {xs : List Int} {n : Nat} (h : ∀ j, j < n → 1 ≤ xs.getD j 0 ∧ xs.getD j 0 ≤ 144) : ∀ k, k ≤ n → 0 ≤ sumX xs k ∧ sumX xs k ≤ 144 * k
  | 0, _ => by show (0 : Int) ≤ 0 ∧ (0 : Int) ≤ 144 * (0 : Nat); decide
  | k + 1, hk => by
    have h1 := sumX_le h k (by omega)
    have h2 := h k (by omega)
    show 0 ≤ sumX xs k + xs.getD k 0 ∧ sumX xs k + xs.getD k 0 ≤ _
    omega
set_option maxHeartbeats 800000 in
theorem EuC.ex {pa : Option Addr} {W H pc : Nat} {ss : List ByteArray} (hp : PicOf W H ss) (hW : W ≤ 12) (hH : H ≤ 12) (e8 : Bool) :
    ∃ n hol xs M L K, EuC pa H pc ss e8 n hol xs M L K (qs one1 (pxl W H (picL ss)) W H) (qs three1 (pxl W H (picL ss)) W H) (qs diag1 (pxl W H (picL ss)) W H) ((spotsTo W (picL ss) (H * W)).length : Nat) := by
  obtain ⟨g1, g2, g3, g4, g5, -⟩ := picOk_spec hp.1
  have hb := pic_bndM hp (by omega) (by omega)
  obtain ⟨hok, e1, e2⟩ := hp
  obtain ⟨F, n, hF⟩ := LabP.ex ss e8
  obtain ⟨m, hm⟩ := HolN.ex W H (picL ss) e8
  have hF2 : LabW W H (picL ss) e8 F n := by
    unfold LabP at hF
    rw [e1, e2] at hF
    exact hF
  have hn : n ≤ 144 := Nat.le_trans (Nat.le_trans hF2.few.1 (spotsTo_len _ _ _)) (Nat.mul_le_mul hH hW)
  have hmN : m ≤ 196 := Nat.le_trans (LabN.few hm) (Nat.mul_le_mul (show H + 2 ≤ 14 by omega) (show W + 2 ≤ 14 by omega))
  obtain ⟨bb, hbb⟩ : ∃ bb, 0 < n → BestTo (areL W H F n) n bb := by
    by_cases h0 : 0 < n
    · obtain ⟨b, h⟩ := BestTo.ex (areL W H F n) n h0
      exact ⟨b, fun _ => h⟩
    · exact ⟨0, fun h => absurd h h0⟩
  have hW1 : 1 ≤ W := by omega
  have hH1 : 1 ≤ H := by omega
  have hll : (picL ss).length = H * W := by rw [picL_len g5, e1, e2]
  have cbl : ∀ (G : Nat → Nat → Bool) w' x c, RowS w' x (picRows W H (mkl W H G)) → Calls Try.prog 33 #[.agg #[.slice x H c]] w' (NumRet w' ((spotsTo W (mkl W H G) (H * W)).length : Nat)) := fun G w' x c h => by
    obtain ⟨r1, r2⟩ := rows_ofE hW1 (by omega) hH1 (by omega) G
    have q := countBlack_any x c _ w' (pic_bndM r1 (by omega) (by omega)) r1.1 h
    rw [r1.2.1, r1.2.2, r2] at q
    exact q
  have ins : ∀ (G : Nat → Nat → Bool), (∀ x y, x < W → y < H → G x y = true → (picL ss).getD (y * W + x) false = true) → ∀ w' x c, RowS w' x (picRows W H (mkl W H G)) → RowS w' pa ss → Calls Try.prog 48 #[.agg #[.slice x H c], .agg #[.slice pa H pc]] w' (YesRet w') := fun G hG w' x c h h2 => by
    obtain ⟨r1, r2⟩ := rows_ofE hW1 (by omega) hH1 (by omega) G
    have q := implInside_any x c _ pa pc ss w' (pic_bndM r1 (by omega) (by omega)) hb h h2
    have hin : insB (mkl W H G) (picL ss) = true := insideB_at.2 fun i hi hg => by
      rw [mkl_len] at hi
      have e3 : i / W * W + i % W = i := by rw [Nat.mul_comm]; exact Nat.div_add_mod _ _
      have x1 : i % W < W := Nat.mod_lt _ (by omega)
      have y1 : i / W < H := by rw [Nat.div_lt_iff_lt_mul (by omega)]; exact hi
      have q := mkl_at W H G (i % W) (i / W) x1 y1
      rw [e3, hg] at q
      have q2 := hG _ _ x1 y1 q.symm
      rw [e3] at q2
      exact q2
    rw [like_ofE r1 ⟨hok, e1, e2⟩, r2, hin, r1.2.1, e1] at q
    exact q
  refine ⟨n, (m : Int) - 1, areL W H F n, grd W H (cmpG F), if 0 < n then picRows W H (mkl W H (keptG F fun k => k == bb + 1)) else [], fun least => picRows W H (mkl W H (keptG F (areK W H F n least))), ?_⟩
  refine ⟨fun w' h => ?_, fun w' h => ?_, fun w' h => ?_, fun w' h => ?_, fun w' h => ?_, fun least h0 h1 w' h => ?_, fun least w' x c h => ?_, fun least w' x c h h2 => ?_, fun h0 w' x c h => ?_, fun h0 w' x c h h2 => ?_, fun least => picRows_len _ _ _, fun h0 => by rw [if_pos h0]; exact picRows_len _ _ _, areL_len _ _ _ _, hn, by omega, ?_, fun j hj => ?_, all_sum hF2⟩
  · have q := implCmp_any pa pc ss e8 F n hF w' hb h
    unfold optM optI at q
    rw [hok, if_pos rfl, if_pos rfl, e1, e2] at q
    exact q
  · have q := implCountHoles_any pa pc ss e8 m (by rw [e1, e2]; exact hm) w' hb h
    unfold optI at q
    rw [hok, if_pos rfl, e1] at q
    exact q
  · have q := implEulerNumber_any pa pc ss e8 n m (by rw [e1, e2]; exact ⟨F, hF2⟩) (by rw [e1, e2]; exact hm) w' hb h
    unfold optI at q
    rw [hok, if_pos rfl, e1] at q
    exact q
  · have q := implAreasE_any pa pc ss e8 F n hF w' hb h
    unfold optZ at q
    rw [hok, if_pos rfl, e1, e2] at q
    exact q
  · have q := implLarge_any pa pc ss e8 F n bb hF (by rw [e1, e2]; exact hbb) w' hb h
    unfold largeOk optRows at q
    rw [hok, e1, e2, Bool.true_and] at q
    simp only [decide_eq_true_eq] at q
    exact q
  · have q := implKeep_any pa pc ss e8 least F n hF w' hb h
    unfold keepOk optRows at q
    rw [hok, inB_true.2 (by omega), Bool.true_and, if_pos rfl, e1, e2] at q
    exact q
  · have q := cbl _ w' x c h
    have e3 := kept_sum hF2 (areK W H F n least)
    rw [← e3] at q
    have e4 : sI (fun j => if areK W H F n least (j + 1) = true then (areL W H F n).getD j 0 else 0) n = wantN (areL W H F n) least n := sI_congr fun j _ => by
      unfold areK
      rw [Nat.add_sub_cancel]
      simp only [decide_eq_true_eq]
    rw [e4] at q
    exact q
  · exact ins _ (fun x y hx hy hk => keep_in hF2 _ x y hx hy hk) w' x c h h2
  · rw [if_pos h0] at h
    have q := cbl _ w' x c h
    rw [large_count hF2 (hbb h0)] at q
    exact q
  · rw [if_pos h0] at h
    exact ins _ (fun x y hx hy hk => keep_in hF2 _ x y hx hy hk) w' x c h h2
  · exact eul_main hF2 hm
  · refine ⟨are_pos hF2 hj, ?_⟩
    have := (cntL_le (pixN W F) (H * W) hj).2
    have h3 : H * W ≤ 144 := Nat.mul_le_mul hH hW
    show (cntL (pixN W F) n (H * W)).getD j 0 ≤ 144
    omega
end Go.Proofs.Ythgkmaccbcpaeaa
