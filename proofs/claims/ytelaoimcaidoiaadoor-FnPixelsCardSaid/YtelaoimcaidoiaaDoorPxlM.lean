/- FnPixels: what the functions tell of one picture. -/
import Derived.Test.YtelaoimcaidoiaaDoorPxlK
namespace Go.Proofs.YtelaoimcaidoiaaDoor
open Go Go.RowKit
def trI (ss : List ByteArray) : Nat → List ByteArray
  | 0 => ss
  | j + 1 => trnP 3 (trI ss j)
def hI (W H j : Nat) : Nat := if j % 2 = 0 then H else W
def wI (W H j : Nat) : Nat := if j % 2 = 0 then W else H
theorem trI_pic {W H : Nat} {ss : List ByteArray} (h : PicOf W H ss) : ∀ j, PicOf (wI W H j) (hI W H j) (trI ss j)
  | 0 => h
  | j + 1 => by
    have h1 := (trn_pic (trI_pic h j) 3).1
    have e1 : trW 3 (wI W H j) (hI W H j) = wI W H (j + 1) := by
      unfold trW wI hI
      rw [if_neg (by omega)]
      by_cases e : j % 2 = 0
      · rw [if_pos e, if_neg (by omega)]
      · rw [if_neg e, if_pos (by omega)]
    have e2 : trW 3 (hI W H j) (wI W H j) = hI W H (j + 1) := by
      unfold trW wI hI
      rw [if_neg (by omega)]
      by_cases e : j % 2 = 0
      · rw [if_pos e, if_neg (by omega)]
      · rw [if_neg e, if_pos (by omega)]
    rw [e1, e2] at h1
    exact h1
def YesP (w : World) (b : Bool) (e : Ending) (w' : World) : Prop := e = .returned (.bool b) ∧ w.Ext w'
structure PxC (pa : Option Addr) (pc W H : Nat) (ss : List ByteArray) (l : List Bool) (SP : List (Int × Int)) (T : ByteArray) : Prop where
  wh : 1 ≤ W ∧ W ≤ 7 ∧ 1 ≤ H ∧ H ≤ 7
  sp : ∀ w', RowS w' pa ss → Calls Tryd.prog 6 #[.agg #[.slice pa H pc]] w' fun e w'' => ∃ a' c', e = .returned (.tuple #[.slice a' SP.length c', .bool true]) ∧ w'.Ext w'' ∧ RowP w'' a' SP
  pf : ∀ w' a c, RowP w' a SP → Calls Tryd.prog 7 #[.int .i64 W, .int .i64 H, .slice a SP.length c] w' (PicK w' H ss)
  tx : ∀ w', RowS w' pa ss → Calls Tryd.prog 8 #[.agg #[.slice pa H pc]] w' fun e w'' => e = .returned (.tuple #[.string T, .bool true]) ∧ w'.Ext w''
  rd : ∀ w', Mx w' → Calls Tryd.prog 9 #[.string T] w' (PicK w' H ss)
  ct : ∀ w', RowS w' pa ss → Calls Tryd.prog 10 #[.agg #[.slice pa H pc]] w' fun e w'' => e = .returned (.tuple #[.int .i64 SP.length, .bool true]) ∧ w'.Ext w''
  bx : ∀ w', RowS w' pa ss → Calls Tryd.prog 11 #[.agg #[.slice pa H pc]] w' fun e w'' => ∃ lx ly hx hy, e = .returned (.tuple #[.agg #[.int .i64 lx, .int .i64 ly], .agg #[.int .i64 hx, .int .i64 hy], .bool (decide (0 < (SP.length : Int)))]) ∧ w'.Ext w'' ∧ (0 < SP.length → BoxIs SP SP.length lx ly hx hy)
  sm : ∀ w' a b c d, RowS w' a ss → RowS w' b ss → Calls Tryd.prog 12 #[.agg #[.slice a H c], .agg #[.slice b H d]] w' (YesP w' true)
  vp : ∀ w', RowS w' pa ss → Calls Tryd.prog 13 #[.agg #[.slice pa H pc]] w' (YesP w' true)
  bk : ∀ w' x y, RowS w' pa ss → Calls Tryd.prog 14 #[.agg #[.slice pa H pc], .int .i64 x, .int .i64 y] w' (YesP w' (pxl W H l x y))
  t3 : ∀ w' j a c, RowS w' a (trI ss j) → Calls Tryd.prog 15 #[.agg #[.slice a (hI W H j) c], .int .i64 3] w' (PicK w' (hI W H (j + 1)) (trI ss (j + 1)))
  c0 : ∀ w' a c, RowS w' a (trI ss 1) → Calls Tryd.prog 14 #[.agg #[.slice a W c], .int .i64 0, .int .i64 0] w' (YesP w' (pxl W H l 0 ((H : Int) - 1)))
  t4 : trI ss 4 = ss
  ka : ∀ w' (k : Nat), k < 3 → RowS w' pa ss → Calls Tryd.prog 15 #[.agg #[.slice pa H pc], .int .i64 k] w' (PicK w' (trW k H W) (trnP k ss))
  kb : ∀ w' (k : Nat) a c, k < 3 → RowS w' a (trnP k ss) → Calls Tryd.prog 15 #[.agg #[.slice a (trW k H W) c], .int .i64 k] w' (PicK w' H ss)
  s1 : ∀ w' dx dy, -4 ≤ dx ∧ dx ≤ 4 ∧ -4 ≤ dy ∧ dy ≤ 4 → RowS w' pa ss → Calls Tryd.prog 17 #[.agg #[.slice pa H pc], .int .i64 dx, .int .i64 dy] w' (PicK w' H (shP dx dy ss))
  s2 : ∀ w' dx dy a c, -4 ≤ dx ∧ dx ≤ 4 ∧ -4 ≤ dy ∧ dy ≤ 4 → RowS w' a (shP dx dy ss) → Calls Tryd.prog 17 #[.agg #[.slice a H c], .int .i64 (-dx), .int .i64 (-dy)] w' (PicK w' H (shP (-dx) (-dy) (shP dx dy ss)))
  ins : ∀ w' dx dy a c, RowS w' a (shP (-dx) (-dy) (shP dx dy ss)) → RowS w' pa ss → Calls Tryd.prog 19 #[.agg #[.slice a H c], .agg #[.slice pa H pc]] w' (YesP w' true)
  cr : ∀ w' (x y : Nat), x < W → y < H → RowS w' pa ss → Calls Tryd.prog 18 #[.agg #[.slice pa H pc], .agg #[.int .i64 x, .int .i64 y], .int .i64 ((W : Int) - x), .int .i64 ((H : Int) - y)] w' (PicK w' (H - y) (crP x y (W - x) (H - y) ss))
  b1 : ∀ w' (x y : Nat) a c, x < W → y < H → RowS w' a (crP x y (W - x) (H - y) ss) → Calls Tryd.prog 14 #[.agg #[.slice a (H - y) c], .int .i64 0, .int .i64 0] w' (YesP w' (pxl W H l x y))
  b2 : ∀ w' dx dy (x y : Nat) a c, x < W → y < H → RowS w' a (shP dx dy ss) → Calls Tryd.prog 14 #[.agg #[.slice a H c], .int .i64 x, .int .i64 y] w' (YesP w' (pxl W H l ((x : Int) - dx) ((y : Int) - dy)))
  blk : ∀ i, i < SP.length → pxl W H l (SP.getD i (0, 0)).1 (SP.getD i (0, 0)).2 = true
  bnd : ∀ i, i < SP.length → 0 ≤ (SP.getD i (0, 0)).1 ∧ (SP.getD i (0, 0)).1 < W ∧ 0 ≤ (SP.getD i (0, 0)).2 ∧ (SP.getD i (0, 0)).2 < H
  few : SP.length ≤ 64
set_option maxRecDepth 20000 in
set_option maxHeartbeats 1600000 in
theorem PxC.ex {pa : Option Addr} {pc : Nat} {ss : List ByteArray} (hp : PicIn 7 ss) (hc : ss.length ≤ pc) : ∃ W H l SP T, W = picW ss ∧ H = ss.length ∧ PxC pa pc W H ss l SP T := by
  obtain ⟨hok, h6, h7⟩ := hp
  obtain ⟨v1, v2, v3, v4, v5, -⟩ := picOk_spec hok
  have hO : PicOf (picW ss) ss.length ss := ⟨hok, rfl, rfl⟩
  have hmem : ∀ i, i < (spotsTo (picW ss) (picL ss) (ss.length * picW ss)).length → (spotsTo (picW ss) (picL ss) (ss.length * picW ss)).getD i (0, 0) ∈ spotsTo (picW ss) (picL ss) (ss.length * picW ss) := fun i hi => by
    rw [List.getD_eq_getElem?_getD, List.getElem?_eq_getElem hi]
    exact List.getElem_mem _
  refine ⟨picW ss, ss.length, picL ss, spotsTo (picW ss) (picL ss) (ss.length * picW ss), pixT ss, rfl, rfl, ?_⟩
  refine ⟨by omega, fun w' h => spotsOf_any pa pc ss w' hok h, fun w' a c h => ?_, fun w' h => pictureText_any pa pc ss w' hok hc h, fun w' h => (readPicture_any ss w' hok h).mono fun e w'' q => PicK.of rfl q,
    fun w' h => countBlack_any pa pc ss w' (pic_bnd hok) hok h, fun w' h => (boxOf_any pa pc ss w' hok h).mono fun e w'' q => boxRet_one q, fun w' a b c d h1 h2 => sameK hO a b c d w' h1 h2, fun w' h => validPic_any pa pc ss w' hok h,
    fun w' x y h => blackK hO x y pa pc w' h, fun w' j a c h => ?_, fun w' a c h => ?_, trn_four hO, fun w' k hk h => turnK hO k pa pc w' (by omega) h, fun w' k a c hk h => ?_, fun w' dx dy hd h => shiftK hO dx dy pa pc w' (by omega) h,
    fun w' dx dy a c hd h => shiftK (sh_pic hO dx dy).1 (-dx) (-dy) a c w' (by omega) h, fun w' dx dy a c h1 h2 => insideK (sh_pic (sh_pic hO dx dy).1 (-dx) (-dy)).1 hO (fun x y hx hy hq => sh_back hO dx dy hx hy hq) a pa c pc w' h1 h2,
    fun w' x y hx hy h => ?_, fun w' x y a c hx hy h => ?_, fun w' dx dy x y a c hx hy h => ?_, fun i hi => spotsTo_mem.1 (hmem i hi), fun i hi => spots_in (hmem i hi), ?_⟩
  · have q := pictureFrom_any (picW ss) ss.length a c _ w' v3 v1 (by omega) (by omega) (by
      have := spotsTo_len (picW ss) (picL ss) (ss.length * picW ss)
      have : ss.length * picW ss ≤ 7 * 7 := Nat.mul_le_mul h6 h7
      omega) (fun q hq => spots_in hq) h
    rw [made_of hO] at q
    exact q.mono fun e w'' q => PicK.of rfl q
  · have q := turnK (trI_pic hO j) 3 a c w' (by omega) h
    have e : trW 3 (hI (picW ss) ss.length j) (wI (picW ss) ss.length j) = hI (picW ss) ss.length (j + 1) := (trn_pic (trI_pic hO j) 3).1.2.1.symm.trans (trI_pic hO (j + 1)).2.1
    rw [e] at q
    exact q
  · have q := blackK (trI_pic hO 1) 0 0 a c w' h
    have e : pxl (wI (picW ss) ss.length 1) (hI (picW ss) ss.length 1) (picL (trI ss 1)) 0 0 = pxl (picW ss) ss.length (picL ss) 0 ((ss.length : Int) - 1) := by
      have e1 := trn_at hO 3 (x := 0) (y := 0) (by unfold trW; rw [if_neg (by omega)]; omega) (by unfold trW; rw [if_neg (by omega)]; omega)
      have e2 : trP 3 (picW ss) ss.length (picL ss) (0 : Int).toNat (0 : Int).toNat = pxl (picW ss) ss.length (picL ss) 0 ((ss.length : Int) - 1) := by
        unfold trP
        simp
      rw [← e2, ← e1]
      rfl
    rw [e] at q
    exact q
  · have q := turnK (trn_pic hO k).1 k a c w' (by omega) h
    rw [trn_twice hO hk] at q
    have e : trW k (trW k ss.length (picW ss)) (trW k (picW ss) ss.length) = ss.length := by
      unfold trW
      split <;> rfl
    rw [e] at q
    exact q
  · have q := cropK hO x y (picW ss - x) (ss.length - y) pa pc w' (by omega) (by omega) h
    rw [show ((picW ss - x : Nat) : Int) = (picW ss : Int) - x by omega, show ((ss.length - y : Nat) : Int) = (ss.length : Int) - y by omega] at q
    exact q
  · have hR := rowsP (W := picW ss - x) (H := ss.length - y) (by omega) (by omega) (by omega) (by omega) fun i j => pxl (picW ss) ss.length (picL ss) ((x : Int) + (i : Int)) ((y : Int) + (j : Int))
    have q := blackK hR.1 0 0 a c w' h
    rw [hR.2, pxl_mkI (by omega) (by omega)] at q
    simp at q
    exact q
  · have hR := sh_pic hO dx dy
    have q := blackK hR.1 x y a c w' h
    rw [hR.2, pxl_mkl hx hy] at q
    exact q
  · have := spotsTo_len (picW ss) (picL ss) (ss.length * picW ss)
    have : ss.length * picW ss ≤ 7 * 7 := Nat.mul_le_mul h6 h7
    omega
end Go.Proofs.YtelaoimcaidoiaaDoor
