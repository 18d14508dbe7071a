/- FnBorders, plain: how many steps there are. -/
import Derived.Test.YthgkmaccbcpaeaaUmA
import Derived.Test.YthgkmaccbcpaeaaRnA
import Derived.Test.YthgkmaccbcpaeaaBdA
import Derived.Test.YthgkmaccbcpaeaaBfB
import Derived.Test.YthgkmaccbcpaeaaBdC
import Derived.Test.YthgkmaccbcpaeaaRunT
namespace Go.Proofs.Ythgkmaccbcpaeaa
open Go Go.RowKit
section
variable {f : Int → Int → Bool} {W H : Nat}
theorem one_place (hb : InBx f W H) {e : Edg} (h : EOk f e) : sI (fun y => sI (fun x => isE e ⟨(x : Int), (y : Int) + 1, 3⟩ + isE e ⟨(x : Int), (y : Int), 1⟩ + (isE e ⟨(x : Int), (y : Int), 0⟩ + isE e ⟨(x : Int) + 1, (y : Int), 2⟩)) (W + 1)) (H + 1) = 1 := by
  have h1 := hb _ _ h.px.1
  have h2 := hb.edge h
  have hk := h.1
  obtain ⟨a, b, k⟩ := e
  dsimp only at hk h2
  obtain ⟨X, Y, hX, hY, hXW, hYH, hone, hoff⟩ : ∃ X Y : Nat, (X : Int) = (if k = 2 then a - 1 else a) ∧ (Y : Int) = (if k = 3 then b - 1 else b) ∧ X < W + 1 ∧ Y < H + 1 ∧
      isE (⟨a, b, k⟩ : Edg) ⟨(X : Int), (Y : Int) + 1, 3⟩ + isE (⟨a, b, k⟩ : Edg) ⟨(X : Int), (Y : Int), 1⟩ + (isE (⟨a, b, k⟩ : Edg) ⟨(X : Int), (Y : Int), 0⟩ + isE (⟨a, b, k⟩ : Edg) ⟨(X : Int) + 1, (Y : Int), 2⟩) = 1 ∧
      ∀ x y : Nat, ¬ (x = X ∧ y = Y) → isE (⟨a, b, k⟩ : Edg) ⟨(x : Int), (y : Int) + 1, 3⟩ + isE (⟨a, b, k⟩ : Edg) ⟨(x : Int), (y : Int), 1⟩ + (isE (⟨a, b, k⟩ : Edg) ⟨(x : Int), (y : Int), 0⟩ + isE (⟨a, b, k⟩ : Edg) ⟨(x : Int) + 1, (y : Int), 2⟩) = 0 := by
    rcases k4 hk with rfl | rfl | rfl | rfl
    all_goals simp [pxO] at h1
    · refine ⟨a.toNat, b.toNat, by simp; omega, by simp; omega, by omega, by omega, ?_, fun x y hn => ?_⟩
      · rw [isE_mk, isE_mk, isE_mk, isE_mk, if_neg (by omega), if_neg (by omega), if_pos (by omega), if_neg (by omega)]; rfl
      · rw [isE_mk, isE_mk, isE_mk, isE_mk, if_neg (by omega), if_neg (by omega), if_neg (by omega), if_neg (by omega)]; rfl
    · refine ⟨a.toNat, b.toNat, by simp; omega, by simp; omega, by omega, by omega, ?_, fun x y hn => ?_⟩
      · rw [isE_mk, isE_mk, isE_mk, isE_mk, if_neg (by omega), if_pos (by omega), if_neg (by omega), if_neg (by omega)]; rfl
      · rw [isE_mk, isE_mk, isE_mk, isE_mk, if_neg (by omega), if_neg (by omega), if_neg (by omega), if_neg (by omega)]; rfl
    · refine ⟨(a - 1).toNat, b.toNat, by simp; omega, by simp; omega, by omega, by omega, ?_, fun x y hn => ?_⟩
      · rw [isE_mk, isE_mk, isE_mk, isE_mk, if_neg (by omega), if_neg (by omega), if_neg (by omega), if_pos (by omega)]; rfl
      · rw [isE_mk, isE_mk, isE_mk, isE_mk, if_neg (by omega), if_neg (by omega), if_neg (by omega), if_neg (by omega)]; rfl
    · refine ⟨a.toNat, (b - 1).toNat, by simp; omega, by simp; omega, by omega, by omega, ?_, fun x y hn => ?_⟩
      · rw [isE_mk, isE_mk, isE_mk, isE_mk, if_pos (by omega), if_neg (by omega), if_neg (by omega), if_neg (by omega)]; rfl
      · rw [isE_mk, isE_mk, isE_mk, isE_mk, if_neg (by omega), if_neg (by omega), if_neg (by omega), if_neg (by omega)]; rfl
  rw [sI_single hYH fun y _ hne => sI_zero fun x _ => hoff x y (by omega), sI_single hXW fun x _ hne => hoff x Y (by omega)]
  exact hone
theorem sumN_cast (g : Nat → Nat) : ∀ n, ((sumN g n : Nat) : Int) = sI (fun i => (g i : Int)) n
  | 0 => rfl
  | n + 1 => by
    show ((sumN g n + g n : Nat) : Int) = sI (fun i => (g i : Int)) n + (g n : Int)
    rw [Int.natCast_add, sumN_cast g n]
theorem edges_many (hb : InBx f W H) (hW : W ≤ 16) (hH : H ≤ 16) : ((edgL f W H).length : Int) = sI (fun y => sI (fun x => ((diffN (f (x : Int) (y : Int)) (f ((x : Int) - 1) (y : Int)) + diffN (f (x : Int) (y : Int)) (f (x : Int) ((y : Int) - 1)) : Nat) : Int)) (W + 1)) (H + 1) := by
  rw [← sumE_len, sumE_congr (h := fun e => sI (fun y => sI (fun x => isE e ⟨(x : Int), (y : Int) + 1, 3⟩ + isE e ⟨(x : Int), (y : Int), 1⟩ + (isE e ⟨(x : Int), (y : Int), 0⟩ + isE e ⟨(x : Int) + 1, (y : Int), 2⟩)) (W + 1)) (H + 1)) fun e he => (one_place hb ((mem_edgL hb hW hH).1 he)).symm]
  rw [sumE_sI]
  refine sI_congr fun y _ => ?_
  rw [sumE_sI]
  refine sI_congr fun x _ => ?_
  have add : ∀ (g h : Edg → Int) (L : List Edg), sumE (fun e => g e + h e) L = sumE g L + sumE h L := fun g h L => by
    induction L with
    | nil => rfl
    | cons a L ih => show g a + h a + sumE (fun e => g e + h e) L = g a + sumE g L + (h a + sumE h L); rw [ih]; omega
  rw [add, add, add, sumE_isE (edgL_nodup hb hW hH), sumE_isE (edgL_nodup hb hW hH), sumE_isE (edgL_nodup hb hW hH), sumE_isE (edgL_nodup hb hW hH)]
  have mk : ∀ (u v : Int) (k : Nat), k < 4 → ((⟨u, v, k⟩ : Edg) ∈ edgL f W H ↔ f (pxO ⟨u, v, k⟩).1 (pxO ⟨u, v, k⟩).2 = true ∧ f (pxX ⟨u, v, k⟩).1 (pxX ⟨u, v, k⟩).2 = false) := fun u v k hk => by
    rw [mem_edgL hb hW hH]
    exact ⟨fun h => h.px, fun h => EOk.of_px hk h.1 h.2⟩
  have m3 := mk (x : Int) ((y : Int) + 1) 3 (by omega)
  have m1 := mk (x : Int) (y : Int) 1 (by omega)
  have m0 := mk (x : Int) (y : Int) 0 (by omega)
  have m2 := mk ((x : Int) + 1) (y : Int) 2 (by omega)
  simp [pxO, pxX] at m3 m1 m0 m2
  have dn : ∀ a b : Bool, ((diffN a b : Nat) : Int) = (if a = true ∧ b = false then 1 else 0) + (if b = true ∧ a = false then 1 else 0) := by decide
  rw [Int.natCast_add, dn, dn]
  simp only [m3, m1, m0, m2]
theorem edges_own {l : List Bool} (hb : InBx (pxl W H l) W H) (hW : W ≤ 16) (hH : H ≤ 16) : ((edgL (pxl W H l) W H).length : Int) = ((ownN W H l : Nat) : Int) := by
  rw [edges_many hb hW hH]
  unfold ownN
  rw [sumN_cast]
  refine sI_congr fun y _ => ?_
  rw [sumN_cast]
end
end Go.Proofs.Ythgkmaccbcpaeaa

/- FnBorders, plain: a border's own start; sums over all borders. -/
namespace Go.Proofs.Ythgkmaccbcpaeaa
open Go Go.RowKit
theorem sumE_getD (g : Nat → Int) (B : List Nat) : sumE g B = sI (fun j => g (B.getD j 0)) B.length := by
  have h : ∀ k, k ≤ B.length → sumE g (B.take k) = sI (fun j => g (B.getD j 0)) k := fun k => by
    induction k with
    | zero => intro _; rfl
    | succ k ih =>
      intro hk
      rw [List.take_succ_eq_append_getElem (by omega), sumE_append, ih (by omega)]
      show _ + (g _ + 0) = _ + g (B.getD k 0)
      rw [Int.add_zero, List.getD_eq_getElem?_getD, List.getElem?_eq_getElem (by omega)]
      rfl
  have := h B.length (Nat.le_refl _)
  rwa [List.take_length] at this
theorem count_sum {W H : Nat} {l : List Bool} (_ : l.length = W * H) (_ : 1 ≤ W) : (((spotsTo W l (H * W)).length : Nat) : Int) = sI (fun y => sI (fun x => bI (pxl W H l (x : Int) (y : Int))) W) H := by
  have cnt : ∀ k, ((spotsTo W l k).length : Int) = sI (fun i => bI (l.getD i false)) k := fun k => by
    unfold spotsTo
    rw [List.length_map]
    induction k with
    | zero => rfl
    | succ k ih =>
      rw [List.range_succ, List.filter_append, List.length_append, Int.natCast_add, ih]
      show _ + _ = _ + bI (l.getD k false)
      congr 1
      rw [List.filter_cons]
      cases hk : l.getD k false
      · rfl
      · rfl
  rw [cnt]
  have rows : ∀ m n, m ≤ W → n ≤ H → sI (fun i => bI (l.getD i false)) (n * W + m) = sI (fun i => bI (l.getD i false)) (n * W) + sI (fun x => bI (l.getD (n * W + x) false)) m := fun m n hm _ => by
    induction m with
    | zero => show _ = _ + 0; rw [Int.add_zero]; rfl
    | succ m ih =>
      show sI _ (n * W + m) + bI (l.getD (n * W + m) false) = _ + (sI _ m + _)
      rw [ih (by omega), Int.add_assoc]
  have all : ∀ n, n ≤ H → sI (fun i => bI (l.getD i false)) (n * W) = sI (fun y => sI (fun x => bI (pxl W H l (x : Int) (y : Int))) W) n := fun n => by
    induction n with
    | zero => intro _; rw [Nat.zero_mul]; rfl
    | succ n ih =>
      intro hn
      rw [Nat.add_mul, Nat.one_mul, rows W n (Nat.le_refl _) (by omega), ih (by omega)]
      show _ + _ = _ + sI _ W
      congr 1
      exact sI_congr fun x hx => by rw [pxl_at _ _ _ _ _ hx (by omega)]
  exact all H (Nat.le_refl _)
set_option maxRecDepth 20000 in
/-- The border at a border's own start. -/
theorem bat_start {ss : List ByteArray} (hok : picOk ss = true) {i : Nat} (hi : i < (bTo (pxl (picW ss) ss.length (picL ss)) (picW ss) (ss.length * picW ss)).length) :
    bAtOk ss (stE (picW ss) ((bTo (pxl (picW ss) ss.length (picL ss)) (picW ss) (ss.length * picW ss)).getD i 0)).x (stE (picW ss) ((bTo (pxl (picW ss) ss.length (picL ss)) (picW ss) (ss.length * picW ss)).getD i 0)).y = true ∧
    bAtR ss (stE (picW ss) ((bTo (pxl (picW ss) ss.length (picL ss)) (picW ss) (ss.length * picW ss)).getD i 0)).x (stE (picW ss) ((bTo (pxl (picW ss) ss.length (picL ss)) (picW ss) (ss.length * picW ss)).getD i 0)).y =
      ((stE (picW ss) ((bTo (pxl (picW ss) ss.length (picL ss)) (picW ss) (ss.length * picW ss)).getD i 0)).x, (stE (picW ss) ((bTo (pxl (picW ss) ss.length (picL ss)) (picW ss) (ss.length * picW ss)).getD i 0)).y, wrd (pxl (picW ss) ss.length (picL ss)) (stE (picW ss) ((bTo (pxl (picW ss) ss.length (picL ss)) (picW ss) (ss.length * picW ss)).getD i 0))) := by
  obtain ⟨v1, v2, v3, v4, -, -⟩ := picOk_spec hok
  have hb := inBx_pxl (picW ss) ss.length (picL ss)
  have hap := bTo_apart (f := pxl (picW ss) ss.length (picL ss)) (W := picW ss) (ss.length * picW ss)
  have hmem := fun j => @bTo_mem (pxl (picW ss) ss.length (picL ss)) (picW ss) (ss.length * picW ss) j
  unfold bAtR bAtI bordA brds
  have hOk : ∀ x y : Int, EOk (pxl (picW ss) ss.length (picL ss)) ⟨x, y, 0⟩ → bAtOk ss x y = true := fun x y h => by
    have h2 := h.px
    simp [pxO, pxX] at h2
    unfold bAtOk
    rw [hok, h2.1, h2.2]
    rfl
  generalize pxl (picW ss) ss.length (picL ss) = f at *
  generalize bTo f (picW ss) (ss.length * picW ss) = B at *
  generalize picW ss = W at *
  have hgi : B.getD i 0 = B[i] := by rw [List.getD_eq_getElem?_getD, List.getElem?_eq_getElem hi]; rfl
  have hE : EOk f (stE W B[i]) := isSt_ok (hmem _ (List.getElem_mem hi)).2
  have hE0 : (⟨(stE W B[i]).x, (stE W B[i]).y, 0⟩ : Edg) = stE W B[i] := rfl
  rw [hgi]
  have h1 := hOk _ _ (by rw [hE0]; exact hE)
  refine ⟨h1, ?_⟩
  rw [if_pos h1]
  have hf : (B.findIdx fun j => inOrb f (stE W j) ⟨(stE W B[i]).x, (stE W B[i]).y, 0⟩) = i := by
    rw [hE0]
    have h2 : inOrb f (stE W B[i]) (stE W B[i]) = true := inOrb_of hb (by omega) (by omega) hE 0
    rcases Nat.lt_trichotomy (B.findIdx fun j => inOrb f (stE W j) (stE W B[i])) i with h3 | h3 | h3
    · exfalso
      have h4 : (B.findIdx fun j => inOrb f (stE W j) (stE W B[i])) < B.length := by omega
      have h5 := List.findIdx_getElem (xs := B) (p := fun j => inOrb f (stE W j) (stE W B[i])) (w := h4)
      have h6 := (List.pairwise_iff_getElem.1 hap _ i h4 hi h3).2
      exact absurd (h5.symm.trans h6) (by decide)
    · exact h3
    · exfalso
      have := List.not_of_lt_findIdx h3
      rw [h2] at this
      cases this
  rw [hf, List.getD_eq_getElem?_getD, List.getElem?_map, List.getElem?_eq_getElem hi]
  rfl
end Go.Proofs.Ythgkmaccbcpaeaa

/- FnBorders: what the functions tell of the borders. -/
namespace Go.Proofs.Ythgkmaccbcpaeaa
open Go Go.RowKit
theorem pic_bndB {ss : List ByteArray} (h : picOk ss = true) : PicBnd ss := by
  obtain ⟨v1, v2, v3, v4, v5, -⟩ := picOk_spec h
  refine ⟨by omega, fun y => ?_⟩
  by_cases hy : y < ss.length
  · rw [v5.2 y hy]; omega
  · rw [List.getD_eq_getElem?_getD, List.getElem?_eq_none (by omega)]; simp
def YesRetB (w : World) (b : Bool) (e : Ending) (w' : World) : Prop := e = .returned (.bool b) ∧ w.Ext w'
/-- What the law's functions tell of the borders of a picture. -/
structure BoC (pa : Option Addr) (H pc : Nat) (ss : List ByteArray) (bs : List Bord) (n : Nat) (X Y : Nat → Int) (S : Nat → ByteArray) (A T : Nat → Int) (N : Nat → Nat) (cb ce : Int) : Prop where
  b : ∀ w', RowS w' pa ss → Calls Try.prog 30 #[.agg #[.slice pa H pc]] w' (BordsRet2 w' bs true)
  len : bs.length = n
  few : n ≤ 64
  at_ : ∀ j, j < n → bs.getD j bd0 = (X j, Y j, S j)
  sa : ∀ j, j < n → ∀ w', Calls Try.prog 34 #[.agg #[.int .i64 (X j), .int .i64 (Y j), .string (S j)]] w' (NumRetA w' (A j))
  tu : ∀ j, j < n → ∀ w', Calls Try.prog 35 #[.agg #[.int .i64 (X j), .int .i64 (Y j), .string (S j)]] w' (NumRetA w' (T j))
  ib : ∀ j, j < n → ∀ w', Calls Try.prog 36 #[.agg #[.int .i64 (X j), .int .i64 (Y j), .string (S j)]] w' (YesRetB w' true)
  sg : ∀ j, j < n → (T j = 4 ∧ 0 < A j) ∨ (T j = -4 ∧ A j < 0)
  ab : ∀ j, j < n → -10000 ≤ A j ∧ A j ≤ 10000
  sz : ∀ j, j < n → (S j).size = N j ∧ 4 ≤ N j ∧ N j ≤ 600
  xb : ∀ j, j < n → 0 ≤ X j ∧ X j ≤ 16 ∧ 0 ≤ Y j ∧ Y j ≤ 16
  b1 : ∀ j, j < n → ∀ w', RowS w' pa ss → Calls Try.prog 37 #[.agg #[.slice pa H pc], .int .i64 (X j), .int .i64 (Y j)] w' (YesRetB w' true)
  b2 : ∀ j, j < n → ∀ w', RowS w' pa ss → Calls Try.prog 37 #[.agg #[.slice pa H pc], .int .i64 (X j), .int .i64 (Y j - 1)] w' (YesRetB w' false)
  l0 : ∀ j, j < n → ∃ hs : 0 < (S j).size, (((S j)[0]'hs).toNat : Nat) = 114
  ba : ∀ j, j < n → ∀ w', RowS w' pa ss → Calls Try.prog 38 #[.agg #[.slice pa H pc], .agg #[.int .i64 (X j), .int .i64 (Y j)]] w' fun e w'' => e = .returned (.tuple #[.agg #[.int .i64 (X j), .int .i64 (Y j), .string (S j)], .bool true]) ∧ w'.Ext w''
  ca : sI A n = cb
  cs : sI (fun j => ((N j : Nat) : Int)) n = ce
  po : ∀ w' a c, RowBd w' a bs → Calls Try.prog 31 #[.int .i64 (picW ss), .int .i64 H, .slice a n c] w' (PicRet2 w' ss true)
  el : ∀ w', RowS w' pa ss → Calls Try.prog 32 #[.agg #[.slice pa H pc]] w' (NumRetA w' ce)
  ct : ∀ w', RowS w' pa ss → Calls Try.prog 33 #[.agg #[.slice pa H pc]] w' (NumRetA w' cb)
  sm : ∀ w' a c, RowS w' a ss → RowS w' pa ss → Calls Try.prog 17 #[.agg #[.slice a H c], .agg #[.slice pa H pc]] w' (YesRetB w' true)
set_option maxRecDepth 20000 in
set_option maxHeartbeats 1600000 in
theorem BoC.ex {pa : Option Addr} {pc : Nat} {ss : List ByteArray} (hok : picOk ss = true) (hW8 : picW ss ≤ 8) (hH8 : ss.length ≤ 8) : ∃ bs n X Y S A T N cb ce, BoC pa ss.length pc ss bs n X Y S A T N cb ce := by
  obtain ⟨g1, g2, g3, g4, g5, -⟩ := picOk_spec hok
  have hb := pic_bndB hok
  have hbx := inBx_pxl (picW ss) ss.length (picL ss)
  have hbx16 : InBx (pxl (picW ss) ss.length (picL ss)) 16 16 := inBx_up hbx (by omega) (by omega)
  have hll : (picL ss).length = picW ss * ss.length := by rw [picL_len g5, Nat.mul_comm]
  obtain ⟨f, hf⟩ : ∃ f, f = pxl (picW ss) ss.length (picL ss) := ⟨_, rfl⟩
  obtain ⟨B, hB⟩ : ∃ B, B = bTo f (picW ss) (ss.length * picW ss) := ⟨_, rfl⟩
  obtain ⟨E, hE⟩ : ∃ E : Nat → Edg, E = fun j => stE (picW ss) (B.getD j 0) := ⟨_, rfl⟩
  rw [← hf] at hbx hbx16
  have hst : ∀ b, b ∈ B → isSt f (picW ss) b = true := by rw [hB]; exact fun b hb => (bTo_mem hb).2
  have hEok : ∀ j, j < B.length → EOk f (E j) := fun j hj => by
    rw [hE]
    exact isSt_ok (hst _ (by rw [List.getD_eq_getElem?_getD, List.getElem?_eq_getElem hj]; exact List.getElem_mem _))
  have hbl : (bordA ss).length = B.length := by unfold bordA brds; rw [List.length_map, hB, hf]
  have hper : ∀ j, j < B.length → 4 ≤ per f (E j) ∧ per f (E j) ≤ 600 := fun j hj => per_len hbx hW8 hH8 (hEok j hj)
  have hring := fun j (hj : j < B.length) => orb_ring hbx (show picW ss ≤ 16 by omega) (show ss.length ≤ 16 by omega) (hEok j hj)
  refine ⟨bordA ss, B.length, fun j => (E j).x, fun j => (E j).y, fun j => wrd f (E j), fun j => areS (fun i => itr f i (E j)) (per f (E j)), fun j => turnS (fun i => itr f i (E j)) (per f (E j)), fun j => per f (E j), ((spotsTo (picW ss) (picL ss) (ss.length * picW ss)).length : Nat), ((edgL f (picW ss) ss.length).length : Nat), ?_⟩
  refine ⟨fun w' h => ?_, hbl, ?_, fun j hj => ?_, fun j hj w' => ?_, fun j hj w' => ?_, fun j hj w' => ?_, fun j hj => ?_, fun j hj => ?_, fun j hj => ?_, fun j hj => ?_, fun j hj w' h => ?_, fun j hj w' h => ?_, fun j hj => ?_, fun j hj w' h => ?_, ?_, ?_, fun w' a c h => ?_, fun w' h => ?_, fun w' h => ?_, fun w' a c h1 h2 => ?_⟩
  · have q := implBorders_any pa pc ss w' hb h
    unfold optBd at q
    rw [hok, if_pos rfl] at q
    exact q
  · rw [hB]
    exact Nat.le_trans (bTo_len _ _ _) (Nat.mul_le_mul hH8 hW8)
  · unfold bordA brds
    rw [← hf, ← hB, List.getD_eq_getElem?_getD, List.getElem?_map, List.getElem?_eq_getElem hj, hE]
    simp only [Option.map_some, Option.getD_some, List.getD_eq_getElem?_getD, List.getElem?_eq_getElem hj]
    rfl
  · exact signedArea_any f (E j) w' hbx16 (hEok j hj) (hper j hj).1 (hper j hj).2
  · exact turning_any f (E j) w' hbx16 (hEok j hj) (hper j hj).1 (hper j hj).2
  · exact isBord_any f (E j) w' hbx16 (hEok j hj) (hper j hj).1 (hper j hj).2
  · exact area_sign hbx (hring j hj).1 (hring j hj).2
  · have h1 := areS_bnd hbx16 (hEok j hj) (per f (E j))
    have h2 := (hper j hj).2
    generalize areS (fun i => itr f i (E j)) (per f (E j)) = z at *
    omega
  · exact ⟨wrd_size _ _, hper j hj⟩
  · exact hbx16.edge (hEok j hj)
  · have q := r8Black_any pa pc ss (E j).x (E j).y w' hok h
    have h2 := (hEok j hj).px.1
    have h3 : pxO (E j) = ((E j).x, (E j).y) := by rw [hE]; rfl
    rw [h3] at h2
    rw [← hf, h2] at q
    exact q
  · have q := r8Black_any pa pc ss (E j).x ((E j).y - 1) w' hok h
    have h2 := (hEok j hj).px.2
    have h3 : pxX (E j) = ((E j).x, (E j).y - 1) := by rw [hE]; rfl
    rw [h3] at h2
    rw [← hf, h2] at q
    exact q
  · obtain ⟨hs, he⟩ := wrd_at (f := f) (e := E j) (i := 0) (by have := (hper j hj).1; omega)
    refine ⟨hs, ?_⟩
    rw [he]
    have h3 : (itr f 0 (E j)).k = 0 := by rw [hE]; rfl
    rw [h3]
    rfl
  · have q := implBat_any pa pc ss (E j).x (E j).y w' hb h
    have hj2 := hj
    rw [hB, hf] at hj2
    obtain ⟨h1, h2⟩ := bat_start hok hj2
    rw [← hf, ← hB] at h1 h2
    have e1 : E j = stE (picW ss) (B.getD j 0) := by rw [hE]
    rw [← e1] at h1 h2
    rw [h1, h2] at q
    exact q
  · have h1 := area_all hbx (show picW ss ≤ 16 by omega) (show ss.length ≤ 16 by omega)
    rw [← hB, sumE_getD] at h1
    rw [count_sum hll g3, ← hf, ← h1, hE]
  · have h1 := steps_all (f := f) (W := picW ss) (H := ss.length)
    rw [← hB, sumE_getD] at h1
    rw [← h1, hE]
  · have q := pob_any a c (picW ss) ss.length (picL ss) w' hll g3 hW8 g1 hH8 h
    have e1 : (brds (pxl (picW ss) ss.length (picL ss)) (picW ss) (ss.length * picW ss)).length = B.length := hbl
    rw [e1, pic_self hok] at q
    exact q
  · have q := edgeLength_any pa pc ss w' hb hok h
    rw [edges_same, ← edges_own (by rw [← hf]; exact hbx) (by omega) (by omega), ← hf] at q
    exact q
  · exact countBlack_any pa pc ss w' hb hok h
  · have q := r8Same_any a pa c pc ss ss w' (by omega) h1 h2
    rw [decide_eq_true rfl] at q
    exact q
end Go.Proofs.Ythgkmaccbcpaeaa
