/- Areas of components, both sides. -/
import Derived.Test.YthgkmaccbcpaeaaLabI
import Derived.Test.YthgkmaccbcpaeaaLabS
namespace Go.Proofs.Ythgkmaccbcpaeaa
open Go Go.RowKit
/-- How often the numbers 1 .. n come among the first k. -/
def cntL (h : Nat → Nat) (n k : Nat) : List Int := (List.range n).map fun j => (((List.range k).countP fun i => h i == j + 1 : Nat) : Int)
theorem cntL_len (h : Nat → Nat) (n k : Nat) : (cntL h n k).length = n := by simp [cntL]
theorem cntL_at (h : Nat → Nat) {n j : Nat} (k : Nat) (hj : j < n) : (cntL h n k).getD j 0 = (((List.range k).countP fun i => h i == j + 1 : Nat) : Int) := by
  unfold cntL
  rw [List.getD_eq_getElem?_getD, List.getElem?_map, List.getElem?_range hj]
  rfl
theorem cntL_zero (h : Nat → Nat) (n : Nat) : cntL h n 0 = List.replicate n 0 := by
  unfold cntL
  apply List.ext_getElem?
  intro k
  rw [List.getElem?_map, List.getElem?_replicate]
  by_cases hk : k < n
  · rw [List.getElem?_range hk, if_pos hk]; rfl
  · rw [List.getElem?_eq_none (by simp; omega), if_neg hk]; rfl
theorem cntL_no {h : Nat → Nat} {n k : Nat} (e : h k = 0) : cntL h n (k + 1) = cntL h n k := by
  unfold cntL
  refine List.map_congr_left fun j _ => ?_
  rw [List.range_succ, List.countP_append]
  simp [e]
theorem cntL_yes {h : Nat → Nat} {n k v : Nat} (e : h k = v + 1) (hv : v < n) : (cntL h n k).set v ((cntL h n k).getD v 0 + 1) = cntL h n (k + 1) := by
  apply List.ext_getElem?
  intro j
  rw [List.getElem?_set]
  by_cases ej : v = j
  · subst ej
    rw [if_pos rfl, if_pos (by rw [cntL_len]; exact hv), cntL_at h k hv]
    unfold cntL
    rw [List.getElem?_map, List.getElem?_range hv, Option.map_some, List.range_succ, List.countP_append]
    simp [e]
  · rw [if_neg ej]
    unfold cntL
    rw [List.getElem?_map, List.getElem?_map]
    by_cases hj : j < n
    · rw [List.getElem?_range hj, Option.map_some, Option.map_some, List.range_succ, List.countP_append]
      have : (h k == j + 1) = false := by rw [e]; simp; omega
      simp [this]
    · rw [List.getElem?_eq_none (by simp; omega)]; rfl
theorem cntL_le (h : Nat → Nat) {n j : Nat} (k : Nat) (hj : j < n) : 0 ≤ (cntL h n k).getD j 0 ∧ (cntL h n k).getD j 0 ≤ k := by
  rw [cntL_at h k hj]
  have h1 := List.countP_le_length (p := fun i => h i == j + 1) (l := List.range k)
  rw [List.length_range] at h1
  omega
/-- The number of pixel i. -/
def pixN (W : Nat) (f : Int × Int → Nat) (i : Nat) : Nat := f (((i % W : Nat) : Int), ((i / W : Nat) : Int))
/-- The areas. -/
def areL (W H : Nat) (f : Int × Int → Nat) (n : Nat) : List Int := cntL (pixN W f) n (H * W)
def IntsRet (w : World) (xs : List Int) (e : Ending) (w' : World) : Prop := ∃ a c, e = .returned (.slice a xs.length c) ∧ w.Ext w' ∧ OwnOf (Value.int .i64) 0 w.heap.size w'.heap.size w' a xs
theorem countP_one {L : List (Int × Int)} {p : Int × Int} {A B : Int × Int → Bool} (hnd : L.Nodup) (hp : p ∈ L) (hA : A p = false) (hB1 : B p = true) (hB : ∀ q, q ≠ p → B q = A q) : L.countP B = L.countP A + 1 := by
  induction L with
  | nil => cases hp
  | cons a L ih =>
    obtain ⟨h1, h2⟩ := List.nodup_cons.1 hnd
    rw [List.countP_cons, List.countP_cons]
    by_cases e : a = p
    · subst e
      have : L.countP B = L.countP A := List.countP_congr fun q hq => by rw [hB q (by rintro rfl; exact h1 hq)]
      rw [this, hA, hB1]
      simp
    · have := ih h2 (by
        rcases List.mem_cons.1 hp with h | h
        · exact absurd h.symm e
        · exact h)
      rw [this, hB a e]
      omega
theorem boxL_nodup (x0 y0 : Int) (W H : Nat) : (boxL x0 y0 W H).Nodup := by
  unfold boxL
  rw [List.Nodup, List.pairwise_map]
  refine List.Pairwise.imp (fun {i j} hne e => hne ?_) List.nodup_range
  simp only [Prod.mk.injEq] at e
  have h1 : i % W = j % W := by omega
  have h2 : i / W = j / W := by omega
  rw [← Nat.div_add_mod i W, ← Nat.div_add_mod j W, h1, h2]
/-- Counted are those that have come. -/
def cntB (BL : List (Int × Int)) (f : Int × Int → Nat) (left : Int × Int → Bool) (n : Nat) : List Int := (List.range n).map fun j => ((BL.countP fun q => f q == j + 1 && !left q : Nat) : Int)
theorem cntB_len (BL : List (Int × Int)) (f : Int × Int → Nat) (left : Int × Int → Bool) (n : Nat) : (cntB BL f left n).length = n := by simp [cntB]
theorem cntB_at (BL : List (Int × Int)) (f : Int × Int → Nat) (left : Int × Int → Bool) {n j : Nat} (hj : j < n) : (cntB BL f left n).getD j 0 = ((BL.countP fun q => f q == j + 1 && !left q : Nat) : Int) := by
  unfold cntB
  rw [List.getD_eq_getElem?_getD, List.getElem?_map, List.getElem?_range hj]
  rfl
theorem cntB_le (BL : List (Int × Int)) (f : Int × Int → Nat) (left : Int × Int → Bool) {n j : Nat} (hj : j < n) : 0 ≤ (cntB BL f left n).getD j 0 ∧ (cntB BL f left n).getD j 0 ≤ BL.length := by
  rw [cntB_at BL f left hj]
  have h1 := List.countP_le_length (p := fun q => f q == j + 1 && !left q) (l := BL)
  omega
theorem cntB_start (BL : List (Int × Int)) (f : Int × Int → Nat) (left : Int × Int → Bool) (n : Nat) (h : ∀ q, 0 < f q → left q = true) : cntB BL f left n = List.replicate n 0 := by
  unfold cntB
  apply List.ext_getElem?
  intro k
  rw [List.getElem?_map, List.getElem?_replicate]
  by_cases hk : k < n
  · rw [List.getElem?_range hk, if_pos hk, Option.map_some, List.countP_eq_zero.2]
    · rfl
    · intro q _ hq
      simp only [Bool.and_eq_true, beq_iff_eq, Bool.not_eq_true'] at hq
      rw [h q (by omega)] at hq
      cases hq.2
  · rw [List.getElem?_eq_none (by simp; omega), if_neg hk]; rfl
theorem cntB_step {BL : List (Int × Int)} {f : Int × Int → Nat} {left : Int × Int → Bool} {n v : Nat} {p : Int × Int} (hnd : BL.Nodup) (hp : p ∈ BL) (hl : left p = true) (hf : f p = v + 1) (hv : v < n) :
    (cntB BL f left n).set v ((cntB BL f left n).getD v 0 + 1) = cntB BL f (fun q => left q && !(q == p)) n := by
  apply List.ext_getElem?
  intro j
  rw [List.getElem?_set]
  by_cases ej : v = j
  · subst ej
    rw [if_pos rfl, if_pos (by rw [cntB_len]; exact hv), cntB_at BL f left hv]
    unfold cntB
    rw [List.getElem?_map, List.getElem?_range hv, Option.map_some]
    rw [countP_one (A := fun q => f q == v + 1 && !left q) (B := fun q => f q == v + 1 && !(left q && !(q == p))) hnd hp (by simp [hl]) (by simp [hf]) (fun q hq => by rw [beq_eq_false_iff_ne.2 hq]; simp)]
    rfl
  · rw [if_neg ej]
    unfold cntB
    rw [List.getElem?_map, List.getElem?_map]
    by_cases hj : j < n
    · rw [List.getElem?_range hj, Option.map_some, Option.map_some]
      congr 2
      refine List.countP_congr fun q _ => ?_
      by_cases e : q = p
      · subst e
        simp [hf]
        omega
      · simp [e]
    · rw [List.getElem?_eq_none (by simp; omega)]; rfl
theorem cntB_done (W H : Nat) (f : Int × Int → Nat) (left : Int × Int → Bool) (n : Nat) (h : ∀ q, left q = false) : cntB (boxL 0 0 W H) f left n = areL W H f n := by
  unfold cntB areL cntL boxL
  refine List.map_congr_left fun j _ => ?_
  rw [List.countP_map]
  congr 1
  refine List.countP_congr fun i _ => ?_
  simp [h, pixN]
/-- The areas under way. -/
def ArSt2 (W3 : World) (g : Nat) (xs : List Int) (wr : World) : Prop := LsSt W3 g xs wr
theorem LsSt.grown {W3 : World} {g r : Nat} {xs : List Int} {wr w' : World} (h : LsSt W3 g xs wr) (hg : wr.grownBy w' (some r)) (h1 : r ≠ g) (h2 : W3.heap.size ≤ r) : LsSt W3 g xs w' :=
  ⟨h.1.trans ⟨hg.os, hg.tape, hg.output, hg.size, fun k hk hs => hg.block k hk (by simp only [ne_eq, Option.some.injEq]; exact fun e => hs (.inr (by omega)))⟩, h.2.keep (hg.block g h.2.lt (by simp only [ne_eq, Option.some.injEq]; omega))⟩
set_option maxRecDepth 5000 in
set_option maxHeartbeats 1600000 in
theorem areas_any (b ab W H : Nat) (l : List Bool) (eight : Bool) (F : Int × Int → Nat) (n : Nat) (w : World) (hW : W ≤ 64) (hH : H ≤ 64) (hI : Img w b ab W H l)
    (hF : LabK (pxP W H l) (nbA eight) (spotsTo W l (H * W)) (spotsTo W l (H * W)).length F n) :
    Calls Try.prog 118 #[.pointer (some ⟨b, 0, none⟩), .bool eight] w (IntsRet w (areL W H F n)) := by
  obtain ⟨i0, hi, hz0, hz1, hz2⟩ := info_parts Try.infoI64
  have HLB := Lib.hid (labels_any b ab W H l eight F n w hW hH hI hF)
  have hn : n ≤ 4096 := Nat.le_trans (Nat.le_trans hF.few.1 (spotsTo_len _ _ _)) (Nat.mul_le_mul hH hW)
  have HFN : Hid (∀ q, F q ≤ n) := hF.few.2
  have HBX : Hid (∀ q, 0 < F q → q ∈ boxL 0 0 W H) := fun q hq => pxP_box (hF.right q hq)
  have HND := Lib.hid (boxL_nodup 0 0 W H)
  have HBL : Hid ((boxL 0 0 W H).length ≤ 4096) := by show _ ≤ _; rw [boxL_len]; exact Nat.mul_le_mul hH hW
  have HDN : Hid (∀ left : Int × Int → Bool, (∀ q, left q = false) → cntB (boxL 0 0 W H) F left n = areL W H F n) := fun left h => cntB_done W H F left n h
  clear hI hF
  generalize areL W H F n = RES at *
  generalize boxL 0 0 W H = BL at *
  have C1 : Hid (i0.bytes * n ≤ 281474976710656) := by show _ ≤ _; rw [hz2]; omega
  have C2 : Hid (n ≤ maxLen) := by show _ ≤ _; unfold maxLen; omega
  go_enter Try.func118, Try.ntmps118
  go_wp2_with fail
  refine HLB.out.mono ?_
  rintro e w2 ⟨bm, rfl, hx2, hbm, hM⟩
  have HX2 := Lib.hid hx2
  have HM2 := Lib.hid hM
  clear hx2 hM
  have hlm2 : bm < w2.heap.size := HM2.out.lt
  have hg3 : w.heap.size ≤ w2.heap.size := HX2.out.size
  go_wp2_with (first
    | (at_make; refine wpList_make_full _ rfl _ _ 41 rfl 0 2 i0 (.int .i64 0) 1 Try.underlying41 hi hz0 hz1 .i64 .i64 _ _ n rfl rfl rfl rfl C1.out C2.out (Nat.zero_le _) (fun w3 hown hgrow => ?_); have hB3 : BlkOf (Value.int .i64) w3 w2.heap.size 2 (List.replicate n 0) := blk_of_made (f := Value.int .i64) 0 rfl hown; have hx3 : w2.Ext w3 := World.Ext.made hgrow; have HX3 : Hid (w.Ext w3) := HX2.out.trans hx3; have HM3 := Lib.hid (HM2.out.ext hx3); have HB3 := Lib.hid hB3; have hg33 : w2.heap.size < w3.heap.size := hB3.lt; clear hown hgrow hB3 hx3)
    | (at_range; refine wpList_range_S _ rfl _ 161 rfl 45 2 int64Map bm (labM F) rfl HM3.out (fun w7 cnt hrg hg7 hsz7 => ?_)))
  have hbmg : bm ≠ w2.heap.size := by omega
  generalize w2.heap.size = g at *
  have HRG : Hid (RangeS w7 Try.prog 45 bm w3.heap.size (labM F) (fun p => (labM F p).isSome) cnt) := hrg
  have hx7 : w3.Ext w7 := World.Ext.made hg7
  have HS7 : Hid (LsSt w3 g (cntB BL F (fun p => (labM F p).isSome) n) w7) := by
    refine ⟨hx7.wrote _, ?_⟩
    rw [cntB_start BL F _ n fun q hq => by unfold labM; rw [if_pos hq]; rfl]
    exact HB3.out.ext hx7
  clear HM2 HX2
  have hr1 : w3.heap.size ≠ g := by omega
  have hr3 : w3.heap.size ≤ w3.heap.size := Nat.le_refl _
  clear hrg hg7 hx7 HB3 HM3 hsz7
  generalize hr : w3.heap.size = r at hr1 hr3 HRG ⊢
  go_wp2
  go_frame
  go_loopw [9] (fun _ wr => ∃ (left : Int × Int → Bool) (cnt : Nat), Hid (RangeS wr Try.prog 45 bm r (labM F) left cnt) ∧ Hid (LsSt w3 g (cntB BL F left n) wr)) (fun _ wr => wr.rangeLeft bm r)
  case atStart => exact ⟨_, _, HRG, HS7⟩
  case round =>
    clear HRG HS7
    obtain ⟨left, cnt, HRG, HS⟩ := hrel
    obtain ⟨w8, rfl⟩ : ∃ w8 : World, w8 = wr := ⟨_, rfl⟩
    have HEND : Hid (∀ _ : (∀ p, left p = false), Hid (IntsRet w RES (.returned (.slice (some ⟨g, 0, none⟩) n n)) w8)) := fun hl0 => by
      show IntsRet _ _ _ _
      have hlen := cntB_len BL F left n
      rw [← HDN.out left hl0]
      exact ⟨some ⟨g, 0, none⟩, n, by rw [hlen], HX3.out.wroteNew HS.out.1 (fun k hk => by omega), HS.out.2.own 0 hg3 (Nat.le_refl _)⟩
    have HIN : Hid (∀ (x2 y2 : Int) (v2 : Value), labM F (x2, y2) = some v2 → ∃ v, F (x2, y2) = v + 1 ∧ v < n ∧ v2 = .int .i64 ((v + 1 : Nat) : Int)) := fun x2 y2 v2 h => by
      unfold labM at h
      by_cases h0 : 0 < F (x2, y2)
      · rw [if_pos h0] at h
        have h1 := HFN.out (x2, y2)
        refine ⟨F (x2, y2) - 1, by omega, by omega, ?_⟩
        simp only [Option.some.injEq] at h
        rw [← h, show F (x2, y2) - 1 + 1 = F (x2, y2) by omega]
      · rw [if_neg h0] at h
        cases h
    go_wp2_with (at_next; refine wpList_next_S _ rfl _ rfl 45 bm r (labM F) left cnt rfl HRG.out ?_ ?_)
    · intro hl0
      have HR := HEND.out fun ⟨a, b⟩ => hl0 a b
      clear HEND HIN hl0 HS HRG
      go_wp2
      go_ret
      exact HR.out
    · intro x2 y2 v2 w9 cnt2 hlx hat hrg2 hlt2 hg9 hsz9 hen
      obtain ⟨v, hv, hvn, rfl⟩ := HIN.out _ _ _ hat
      have HS9 := Lib.hid (HS.out.grown hg9 hr1 (by omega))
      have HRG9 := Lib.hid hrg2
      have HLT := Lib.hid hlt2
      have e0 := HS9.out.2.cell 0 (i := v) (by rw [cntB_len]; exact hvn)
      have ef := HS9.out.2.free v
      obtain ⟨q1, q2⟩ := cntB_le BL F left hvn
      have q3 : (cntB BL F left n).getD v 0 ≤ 4096 := by have := HBL.out; omega
      have HS2 : Hid (LsSt w3 g (cntB BL F (fun q => left q && !(q == (x2, y2))) n) (w9.setCell ⟨g, v, none⟩ (.int .i64 ((cntB BL F left n).getD v 0 + 1)))) := by
        have h' := HS9.out.set v ((cntB BL F left n).getD v 0 + 1)
        rw [cntB_step HND.out (HBX.out _ (by omega)) hlx hv hvn] at h'
        exact h'
      have HRG2 : Hid (RangeS (w9.setCell ⟨g, v, none⟩ (.int .i64 ((cntB BL F left n).getD v 0 + 1))) Try.prog 45 bm r (labM F) (fun q => left q && !(q == (x2, y2))) cnt2) := HRG9.out.setCell (a := ⟨g, v, none⟩) (Ne.symm hbmg) (Ne.symm hr1) _
      clear HEND HIN HS HS9 HRG9 hrg2 hlt2 hat hlx hg9 hsz9 hv q2
      have f2 : ((v + 1 : Nat) : Int) - 1 = (v : Int) := by omega
      generalize (cntB BL F left n).getD v 0 = m at *
      generalize ((v + 1 : Nat) : Int) = v1 at *
      have f3 : v1 ≤ 4097 := by omega
      have f6 : 0 ≤ v1 := by omega
      have f4 : (v : Int) < (n : Int) := by omega
      have f5 : (0 : Int) ≤ (v : Int) := by omega
      go_wp2
      go_roundw
      case rel => first | exact ⟨_, cnt2, HRG2, HS2⟩ | exact ⟨_, ⟨cnt2, HRG2⟩, HS2⟩
      case measure => rw [HRG2.out.left_eq, HRG.out.left_eq]; exact HLT.out
theorem areL_len (W H : Nat) (f : Int × Int → Nat) (n : Nat) : (areL W H f n).length = n := cntL_len _ _ _
def optZ (ok : Bool) (xs : List Int) : List Int := if ok then xs else []
def IntsRet2 (w : World) (xs : List Int) (ok : Bool) (e : Ending) (w' : World) : Prop := ∃ a c, e = .returned (.tuple #[.slice a xs.length c, .bool ok]) ∧ w.Ext w' ∧ OwnOf (Value.int .i64) 0 w.heap.size w'.heap.size w' a xs
def LabP (ss : List ByteArray) (eight : Bool) (F : Int × Int → Nat) (n : Nat) : Prop := LabK (pxP (picW ss) ss.length (picL ss)) (nbA eight) (spotsTo (picW ss) (picL ss) (ss.length * picW ss)) (spotsTo (picW ss) (picL ss) (ss.length * picW ss)).length F n
theorem LabP.ex (ss : List ByteArray) (eight : Bool) : ∃ F n, LabP ss eight F n := LabK.ex _ _ _ _
theorem LabP.few {ss : List ByteArray} {eight : Bool} {F : Int × Int → Nat} {n : Nat} (h : LabP ss eight F n) (hW : picW ss ≤ 64) (hH : ss.length ≤ 64) : n ≤ 4096 := Nat.le_trans (Nat.le_trans (LabK.few h).1 (spotsTo_len _ _ _)) (Nat.mul_le_mul hH hW)
end Go.Proofs.Ythgkmaccbcpaeaa
