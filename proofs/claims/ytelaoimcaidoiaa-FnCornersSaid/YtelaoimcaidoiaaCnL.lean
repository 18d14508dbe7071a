/- FnCorners: what the functions tell of a border of the drawn picture. -/
import Derived.Test.YtelaoimcaidoiaaCnB
import Derived.Test.YtelaoimcaidoiaaCnA
import Derived.Deep.CutBlock
namespace Go.Proofs.Ytelaoimcaidoiaa
open Go Go.RowKit
theorem pic_bndB {ss : List ByteArray} (h : picOk ss = true) : PicBnd ss := by
  obtain ⟨v1, v2, v3, v4, v5, -⟩ := picOk_spec h
  refine ⟨by omega, fun y => ?_⟩
  by_cases hy : y < ss.length
  · rw [v5.2 y hy]; omega
  · rw [List.getD_eq_getElem?_getD, List.getElem?_eq_none (by omega)]; simp
set_option maxHeartbeats 400000 in
theorem r8At_any (a : Option Addr) (c : Nat) (zs : List Int) (i : Nat) (n : Int) (w : World) (_ : i ≤ 1000) (h : CodeAt w a zs) :
    Calls Try.prog 8 #[.slice a zs.length c, .int .i64 i, .int .i64 n] w fun e w' => ∃ r : Int, e = .returned (.int .i64 r) ∧ w.Ext w' ∧ 0 ≤ r ∧ (r < n ∨ r = 0) := by
  by_cases h1 : n ≤ 1
  · go_enter Try.func8, Try.ntmps8
    go_wp2
    go_ret
    exact ⟨0, rfl, .refl _, by omega, .inr rfl⟩
  · by_cases h2 : i < zs.length
    · have h2' : ¬ (zs.length : Int) ≤ (i : Int) := by omega
      have h2'' : (i : Int) < (zs.length : Int) := by omega
      obtain ⟨b, o, rfl, hc⟩ := h.1 i h2
      obtain ⟨z0, z1⟩ := h.2.1 _ (getD_memZ h2)
      have hl := h.2.2
      clear h
      generalize zs.getD i 0 = z at hc z0 z1
      have HM : Hid (0 ≤ z % n ∧ z % n < n) := ⟨Int.emod_nonneg _ (by omega), Int.emod_lt_of_pos _ (by omega)⟩
      go_enter Try.func8, Try.ntmps8
      go_wp2
      go_ret
      exact ⟨_, rfl, .refl _, HM.out.1, .inl HM.out.2⟩
    · have h2' : (zs.length : Int) ≤ (i : Int) := by omega
      have hl := h.2.2
      clear h
      go_enter Try.func8, Try.ntmps8
      go_wp2
      go_ret
      exact ⟨0, rfl, .refl _, by omega, .inr rfl⟩
set_option maxHeartbeats 400000 in
theorem validPic_any (a : Option Addr) (c : Nat) (ss : List ByteArray) (w : World) (hok : picOk ss = true) (hm : RowS w a ss) :
    Calls Try.prog 7 #[.agg #[.slice a ss.length c]] w fun e w' => e = .returned (.bool true) ∧ w.Ext w' := by
  have hb := pic_bndB hok
  obtain ⟨W0, hW0⟩ : ∃ W0, W0 = w.alloc (.cells #[.slice a ss.length c] 26) := ⟨_, rfl⟩
  have hx0 : w.Ext W0 := by rw [hW0]; repeat (first | exact World.Ext.refl _ | exact ⟨_, rfl⟩ | assumption | refine World.Ext.over ?_ _ | refine World.Ext.drewN ?_ _ | refine World.Ext.drew ?_ | refine World.Ext.alloc ?_ _ | refine World.Ext.setCell ?_ (by simp) _)
  have HI := Lib.hid (imageOf_any a c ss W0 hb.1 hb.2 (RowOf.ext hm hx0) true hok)
  have HX0 := Lib.hid hx0
  clear hb hok hm hx0
  go_enter Try.func7, Try.ntmps7
  go_wp2_with fail
  rw [← hW0]
  clear hW0
  refine HI.out.mono ?_
  intro e w1 h
  obtain ⟨b, ab, rfl, hx1, -⟩ : ∃ b ab, e = .returned (.tuple #[.pointer (some ⟨b, 0, none⟩), .bool true]) ∧ W0.Ext w1 ∧ Img w1 b ab (picW ss) ss.length (picL ss) ∧ W0.heap.size ≤ b ∧ W0.heap.size ≤ ab := h
  have HX1 := Lib.hid (HX0.out.trans hx1)
  clear hx1 HI
  go_wp2
  go_ret
  exact ⟨rfl, HX1.out⟩
/-- Where a border begins, it turns. -/
theorem start_cor {f : Int → Int → Bool} {W H : Nat} (hb : InBx f W H) (hW : W ≤ 16) (hH : H ≤ 16) {i : Nat} (hi : i < (bTo f W (H * W)).length) :
    isC (cK fun t => itr f t (stE W ((bTo f W (H * W)).getD i 0))) (per f (stE W ((bTo f W (H * W)).getD i 0))) 0 = true := by
  obtain ⟨b, hbb⟩ : ∃ b, (bTo f W (H * W)).getD i 0 = b := ⟨_, rfl⟩
  have hbm : b ∈ bTo f W (H * W) := by
    rw [← hbb, List.getD_eq_getElem?_getD, List.getElem?_eq_getElem hi]
    exact List.getElem_mem _
  rw [hbb]
  obtain ⟨hbl, hst⟩ := bTo_mem hbm
  have hE : EOk f (stE W b) := isSt_ok hst
  have hper := (per_of hb hW hH hE).1
  have hWy : Way (fun t => itr f t (stE W b)) (per f (stE W b)) := (Ring.of hE hper).way
  cases hc : isC (cK fun t => itr f t (stE W b)) (per f (stE W b)) 0
  · exfalso
    have h1 := (isC_no hWy).1 hc
    rw [Nat.zero_add, Nat.mod_eq_of_lt (by have := hper.1; omega)] at h1
    obtain ⟨m, hm⟩ : ∃ m, per f (stE W b) = m + 1 := ⟨per f (stE W b) - 1, by have := hper.1; omega⟩
    rw [hm, Nat.add_sub_cancel] at h1
    have hk0 : (itr f m (stE W b)).k = 0 := h1.symm
    have hcok : EOk f (itr f m (stE W b)) := itr_ok hE m
    have hnx : nxt f (itr f m (stE W b)) = stE W b := by
      have h2 := hper.2.1
      rw [hm] at h2
      exact h2
    have hx : (itr f m (stE W b)).x + 1 = (stE W b).x := by
      have h3 := congrArg Edg.x hnx
      have e : (nxt f (itr f m (stE W b))).x = (itr f m (stE W b)).x + dX (itr f m (stE W b)).k := rfl
      rw [e, hk0] at h3
      exact h3
    have hy : (itr f m (stE W b)).y = (stE W b).y := by
      have h3 := congrArg Edg.y hnx
      have e : (nxt f (itr f m (stE W b))).y = (itr f m (stE W b)).y + dY (itr f m (stE W b)).k := rfl
      rw [e, hk0] at h3
      have e2 : dY 0 = 0 := rfl
      rw [e2] at h3
      omega
    have hx0 := (hb.edge hcok).1
    have hsx : (stE W b).x = ((b % W : Nat) : Int) := rfl
    have hsy : (stE W b).y = ((b / W : Nat) : Int) := rfl
    have hbp : 1 ≤ b % W := by omega
    have hWp : 0 < W := by
      rcases Nat.eq_zero_or_pos W with h | h
      · rw [h, Nat.mul_zero] at hbl; omega
      · exact h
    have hb1 : 1 ≤ b := Nat.le_trans hbp (Nat.mod_le _ _)
    have hdm := Nat.div_add_mod b W
    have hml := Nat.mod_lt b hWp
    have e1 : (b - 1) % W = b % W - 1 := by
      rw [show b - 1 = (b % W - 1) + W * (b / W) by omega, Nat.add_mul_mod_self_left]
      exact Nat.mod_eq_of_lt (by omega)
    have e2 : (b - 1) / W = b / W := by
      rw [show b - 1 = (b % W - 1) + W * (b / W) by omega, Nat.add_mul_div_left _ _ hWp, Nat.div_eq_of_lt (by omega), Nat.zero_add]
    have hse : stE W (b - 1) = itr f m (stE W b) := by
      have a1 : (stE W (b - 1)).x = (itr f m (stE W b)).x := by
        have : (stE W (b - 1)).x = (((b - 1) % W : Nat) : Int) := rfl
        rw [this, e1]
        omega
      have a2 : (stE W (b - 1)).y = (itr f m (stE W b)).y := by
        have : (stE W (b - 1)).y = (((b - 1) / W : Nat) : Int) := rfl
        rw [this, e2]
        omega
      have a3 : (stE W (b - 1)).k = (itr f m (stE W b)).k := by rw [hk0]; rfl
      generalize stE W (b - 1) = u at *
      generalize itr f m (stE W b) = v at *
      obtain ⟨u1, u2, u3⟩ := u
      obtain ⟨v1, v2, v3⟩ := v
      simp only at a1 a2 a3
      rw [a1, a2, a3]
    have hst1 : isSt f W (b - 1) = true := by
      have h5 := hcok.2
      rw [← hse] at h5
      exact h5
    have hE1 : EOk f (stE W (b - 1)) := isSt_ok hst1
    have ho1 : inOrb f (stE W (b - 1)) (stE W b) = true := by
      have h6 := inOrb_of hb hW hH hE1 1
      have h7 : itr f 1 (stE W (b - 1)) = stE W b := by
        show nxt f (stE W (b - 1)) = _
        rw [hse, hnx]
      rw [h7] at h6
      exact h6
    have hap := List.pairwise_iff_getElem.1 (bTo_apart (f := f) (W := W) (H * W))
    have hfin : ∀ j, j ∈ bTo f W (H * W) → j < b → inOrb f (stE W j) (stE W b) = true → False := fun j hj hjb ho => by
      obtain ⟨i1, u1, w1⟩ := List.getElem_of_mem hj
      obtain ⟨i2, u2, w2⟩ := List.getElem_of_mem hbm
      rcases Nat.lt_trichotomy i1 i2 with h | h | h
      · have := (hap i1 i2 u1 u2 h).2
        rw [w1, w2, ho] at this
        cases this
      · subst h
        omega
      · have := (hap i2 i1 u2 u1 h).1
        omega
    have hgr : ∀ j, j ∈ bTo f W b → j ∈ bTo f W (H * W) := fun j hj => by
      have := bTo_grow hj (H * W - b)
      rwa [show b + (H * W - b) = H * W by omega] at this
    rcases bTo_cover (k := b) (j := b - 1) (by omega) hst1 with h | h
    · exact hfin _ (hgr _ h) (by omega) ho1
    · obtain ⟨j, hj, ho⟩ := doneB_true.1 h
      obtain ⟨j1, j2⟩ := bTo_mem hj
      exact hfin j (hgr j hj) j1 (inOrb_trans hb hW hH (isSt_ok j2) ho ho1)
  · rfl
def YesV (w : World) (b : Bool) (e : Ending) (w' : World) : Prop := e = .returned (.bool b) ∧ w.Ext w'
/-- What the law's functions tell of the borders of a picture and of their corners. -/
structure CnC (pa : Option Addr) (H pc : Nat) (ss : List ByteArray) (bs : List Bord) (n : Nat) (X Y : Nat → Int) (S : Nat → ByteArray) (CL : Nat → List (Int × Int)) : Prop where
  b : ∀ w', RowS w' pa ss → Calls Try.prog 6 #[.agg #[.slice pa H pc]] w' (BordsRet2 w' bs true)
  vp : ∀ w', RowS w' pa ss → Calls Try.prog 7 #[.agg #[.slice pa H pc]] w' (YesV w' true)
  len : bs.length = n
  few : n ≤ 64
  at_ : ∀ j, j < n → bs.getD j bd0 = (X j, Y j, S j)
  co : ∀ j, j < n → ∀ w', Calls Try.prog 9 #[.agg #[.int .i64 (X j), .int .i64 (Y j), .string (S j)]] w' (SpsRet2 w' (CL j))
  bf : ∀ j, j < n → ∀ w' a c, RowP w' a (CL j) → Calls Try.prog 10 #[.slice a (CL j).length c] w' fun e w'' => e = .returned (.tuple #[.agg #[.int .i64 (X j), .int .i64 (Y j), .string (S j)], .bool true]) ∧ w'.Ext w''
  hu : ∀ j, j < n → ∀ w', Calls Try.prog 11 #[.agg #[.int .i64 (X j), .int .i64 (Y j), .string (S j)]] w' (HulRet w' (CL j))
  ev : ∀ j, j < n → 4 ≤ (CL j).length ∧ (CL j).length % 2 = 0 ∧ (CL j).length ≤ 600
  sm : ∀ j, j < n → ∀ q, q ∈ CL j → Sm q
set_option maxRecDepth 20000 in
set_option maxHeartbeats 1600000 in
theorem CnC.ex {pa : Option Addr} {pc : Nat} {ss : List ByteArray} (hok : picOk ss = true) (hW8 : picW ss ≤ 8) (hH8 : ss.length ≤ 8) : ∃ bs n X Y S CL, CnC pa ss.length pc ss bs n X Y S CL := by
  obtain ⟨g1, g2, g3, g4, g5, -⟩ := picOk_spec hok
  have hb := pic_bndB hok
  have hbx := inBx_pxl (picW ss) ss.length (picL ss)
  have hbx16 : InBx (pxl (picW ss) ss.length (picL ss)) 16 16 := fun x y hf => by have := hbx x y hf; omega
  obtain ⟨f, hf⟩ : ∃ f, f = pxl (picW ss) ss.length (picL ss) := ⟨_, rfl⟩
  obtain ⟨B, hB⟩ : ∃ B, B = bTo f (picW ss) (ss.length * picW ss) := ⟨_, rfl⟩
  obtain ⟨E, hE⟩ : ∃ E : Nat → Edg, E = fun j => stE (picW ss) (B.getD j 0) := ⟨_, rfl⟩
  rw [← hf] at hbx hbx16
  have hst : ∀ b, b ∈ B → isSt f (picW ss) b = true := by rw [hB]; exact fun b hb => (bTo_mem hb).2
  have hEok : ∀ j, j < B.length → EOk f (E j) := fun j hj => by
    rw [hE]
    exact isSt_ok (hst _ (by rw [List.getD_eq_getElem?_getD, List.getElem?_eq_getElem hj]; exact List.getElem_mem _))
  have hbl : (bordA ss).length = B.length := by unfold bordA brds; rw [List.length_map, hB, hf]
  have hper : ∀ j, j < B.length → 4 ≤ per f (E j) ∧ per f (E j) ≤ 600 := fun j hj => per_len hbx hW8 hH8 (hEok j hj)
  have hring := fun j (hj : j < B.length) => orb_ring hbx (show picW ss ≤ 16 by omega) (show ss.length ≤ 16 by omega) (hEok j hj)
  have h0 : ∀ j, j < B.length → isC (cK fun t => itr f t (E j)) (per f (E j)) 0 = true := fun j hj => by
    have q := start_cor hbx (show picW ss ≤ 16 by omega) (show ss.length ≤ 16 by omega) (i := j) (by rw [← hB]; exact hj)
    rw [← hB] at q
    rw [hE]
    exact q
  have hev : ∀ j, j < B.length → 4 ≤ (corL (fun t => itr f t (E j)) (per f (E j)) (per f (E j))).length ∧ (corL (fun t => itr f t (E j)) (per f (E j)) (per f (E j))).length % 2 = 0 ∧ (corL (fun t => itr f t (E j)) (per f (E j)) (per f (E j))).length ≤ 600 := fun j hj => by
    have h1 := area_sign hbx (hring j hj).1 (hring j hj).2
    have h2 := corI_even (hring j hj).1.way (by omega)
    have h3 := corL_few (fun t => itr f t (E j)) (per f (E j)) (per f (E j))
    have h4 := (hper j hj).2
    rw [corL_len] at h3 ⊢
    exact ⟨h2.1, h2.2, by omega⟩
  refine ⟨bordA ss, B.length, fun j => (E j).x, fun j => (E j).y, fun j => wrd f (E j), fun j => corL (fun t => itr f t (E j)) (per f (E j)) (per f (E j)), ?_⟩
  refine ⟨fun w' h => ?_, fun w' h => validPic_any pa pc ss w' hok h, hbl, ?_, fun j hj => ?_, fun j hj w' => ?_, fun j hj w' a c h => ?_, fun j hj w' => ?_, fun j hj => hev j hj, fun j hj q hq => ?_⟩
  · have q := implBorders_any pa pc ss w' hb h
    unfold optBd at q
    rw [hok, if_pos rfl] at q
    exact q
  · rw [hB]
    exact Nat.le_trans (bTo_len _ _ _) (Nat.mul_le_mul hH8 hW8)
  · unfold bordA brds
    rw [← hf, ← hB, List.getD_eq_getElem?_getD, List.getElem?_map, List.getElem?_eq_getElem hj, hE]
    simp only [Option.map_some, Option.getD_some, List.getD_eq_getElem?_getD, List.getElem?_eq_getElem hj]
    rfl
  · exact corners_any f (E j) w' hbx16 (hEok j hj) (hper j hj).1 (hper j hj).2
  · exact borderFrom_any f (E j) a c w' hbx16 (hEok j hj) (hper j hj).1 (hper j hj).2 (h0 j hj) (hev j hj).1 h
  · exact hullOf_any f (E j) w' hbx16 (hEok j hj) (hper j hj).1 (hper j hj).2 (h0 j hj)
  · unfold corL at hq
    obtain ⟨i, -, rfl⟩ := List.mem_map.1 hq
    exact hbx16.edge (itr_ok (hEok j hj) i)
end Go.Proofs.Ytelaoimcaidoiaa

/- FnCorners: the law's walk. -/
namespace Go.Proofs.Ytelaoimcaidoiaa
open Go Go.RowKit
theorem getD_memC {L : List (Int × Int)} {k : Nat} (h : k < L.length) : L.getD k (0, 0) ∈ L := by
  rw [List.getD_eq_getElem?_getD, List.getElem?_eq_getElem h]
  exact List.getElem_mem _
def hasC (L : List (Int × Int)) (q : Int × Int) (k : Nat) : Bool := (L.take k).any fun p => p.1 == q.1 && p.2 == q.2
theorem hasC_next {L : List (Int × Int)} {q : Int × Int} {k : Nat} (hk : k < L.length) : hasC L q (k + 1) = (hasC L q k || ((L.getD k (0, 0)).1 == q.1 && (L.getD k (0, 0)).2 == q.2)) := by
  unfold hasC
  rw [List.take_succ_eq_append_getElem hk, List.any_append, List.getD_eq_getElem?_getD, List.getElem?_eq_getElem hk]
  simp
theorem hasC_all {L : List (Int × Int)} {q : Int × Int} (h : q ∈ L) : hasC L q L.length = true := by
  unfold hasC
  rw [List.take_length, List.any_eq_true]
  exact ⟨q, h, by simp⟩
set_option maxRecDepth 10000 in
set_option maxHeartbeats 16000000 in
theorem fnCorners_any (a : Option Addr) (c : Nat) (zs : List Int) (a2 : Option Addr) (c2 : Nat) (ys : List Int) (w : World) (h : CodeAt w a zs) (h2 : CodeAt w a2 ys) :
    Calls Try.prog 3 #[.slice a zs.length c, .slice a2 ys.length c2] w fun e w' => e = .returned (.bool true) ∧ w.Ext w' := by
  have HLO := Lib.hid (longR_any a zs.length c a2 ys.length c2 w h.2.2 h2.2.2)
  have HP := Lib.hid (fun w' (hx : w.Ext w') => pic8_any a c zs w' (h.ext hx))
  have HAT := Lib.hid (fun w' (hx : w.Ext w') n => r8At_any a2 c2 ys 0 n w' (by omega) (h2.ext hx))
  clear h h2
  go_enter Try.func3, Try.ntmps3
  have HWB : Hid (w.Ext w) := .refl _
  have HX : Hid (w.Ext w) := .refl _
  go_wp2_with fail
  refine (HLO.out).mono ?_
  rintro e v1 ⟨t, rfl, hx, -⟩
  have HX_ := Lib.hid (HX.out.trans hx)
  clear HX
  have HX := HX_
  clear HX_
  clear hx
  cases t
  rotate_left
  · go_wp2
    go_ret
    exact ⟨rfl, HX.out⟩
  go_wp2_with fail
  refine (HP.out v1 (HWB.out.trans HX.out)).mono ?_
  rintro e v2 ⟨pa, pc, ss, rfl, hpic, hx, hrow⟩
  have HX_ := Lib.hid (HX.out.trans hx)
  clear HX
  have HX := HX_
  clear HX_
  have HROW := Lib.hid hrow.row
  have g6 := hpic.2.1
  have g7 := hpic.2.2
  obtain ⟨bs, n, X, Y, S, CLS, hC⟩ := CnC.ex (pa := pa) (pc := pc) hpic.1 g7 g6
  have HC := Lib.hid hC
  obtain ⟨H, hH⟩ : ∃ H, ss.length = H := ⟨_, rfl⟩
  rw [hH] at HC ⊢
  have hfew := hC.few
  clear hC hpic hrow HP hH g6 g7
  clear hx
  obtain ⟨b2, hb2⟩ : ∃ b2, b2 = v2.alloc (.cells #[.slice pa H pc] 26) := ⟨_, rfl⟩
  have hxb : v2.Ext b2 := by rw [hb2]; repeat (first | exact World.Ext.refl _ | exact ⟨_, rfl⟩ | assumption | refine World.Ext.over ?_ _ | refine World.Ext.drewN ?_ _ | refine World.Ext.drew ?_ | refine World.Ext.alloc ?_ _ | refine World.Ext.setCell ?_ (by simp) _)
  have c5_ : b2.cell? ⟨v2.heap.size, 0, none⟩ = some (.slice pa H pc) := by rw [hb2]; simp [go_sem]
  have HALL_ : Hid (∀ w', b2.Ext w' → w'.cell? ⟨v2.heap.size, 0, none⟩ = some (.slice pa H pc) ∧ RowS w' pa ss ∧ True) := fun w' hx' => ⟨hx'.cell c5_, RowOf.ext HROW.out (hxb.trans hx'), trivial⟩
  have HWB_ := Lib.hid (HWB.out.trans (HX.out.trans hxb))
  have HX_ : Hid (b2.Ext b2) := .refl _
  clear hxb c5_ HWB HX
  have HALL := HALL_
  have HWB := HWB_
  have HX := HX_
  clear HALL_ HWB_ HX_
  clear HROW
  go_upto_region 4 with fail
  rw [← hb2]
  clear hb2
  generalize v2.heap.size = q5 at *
  have c5 := (HALL.out b2 HX.out).1
  have lc5 := World.block_lt_of_cell? _ _ c5
  go_wp2_with fail
  refine (HC.out.b b2 (HALL.out b2 HX.out).2.1).mono ?_
  rintro e v3 ⟨ba, bc, rfl, hx, ho⟩
  clear lc5 c5
  have HX_ := Lib.hid (HX.out.trans hx)
  clear HX
  have HX := HX_
  clear HX_
  have HRB := Lib.hid ho.row
  clear ho
  clear hx
  rw [HC.out.len]
  have hxr : v3.Ext v3 := .refl _
  have HALL_ : Hid (∀ w', v3.Ext w' → w'.cell? ⟨q5, 0, none⟩ = some (.slice pa H pc) ∧ RowS w' pa ss ∧ RowBd w' ba bs ∧ True) := fun w' hx' => ⟨(HALL.out w' ((HX.out.trans hxr).trans hx')).1, (HALL.out w' ((HX.out.trans hxr).trans hx')).2.1, HRB.out.ext hx', trivial⟩
  have HWB_ := Lib.hid (HWB.out.trans (HX.out.trans hxr))
  have HX_ : Hid (v3.Ext v3) := .refl _
  clear hxr HWB HX HALL
  have HALL := HALL_
  have HWB := HWB_
  have HX := HX_
  clear HALL_ HWB_ HX_
  clear HRB
  by_cases hn : n = 0
  · have hz : ((n : Int) == 0) = true := by rw [beq_iff_eq]; omega
    subst hn
    have c5 := (HALL.out v3 HX.out).1
    have lc5 := World.block_lt_of_cell? _ _ c5
    go_wp2_with fail
    refine (HC.out.vp v3 (HALL.out v3 HX.out).2.1).mono ?_
    rintro e v4 ⟨rfl, hx⟩
    clear lc5 c5
    have HX_ := Lib.hid (HX.out.trans hx)
    clear HX
    have HX := HX_
    clear HX_
    clear hx
    have HXE := Lib.hid ((HWB.out.trans HX.out))
    go_wp2
    go_ret
    exact ⟨rfl, HXE.out⟩
  · have hz : ((n : Int) == 0) = false := by rw [beq_eq_false_iff_ne]; omega
    go_wp2_with fail
    refine (HAT.out v3 (HWB.out.trans HX.out) _).mono ?_
    rintro e v4 ⟨r, rfl, hx, r0, r1⟩
    have HX_ := Lib.hid (HX.out.trans hx)
    clear HX
    have HX := HX_
    clear HX_
    obtain ⟨j, rfl⟩ : ∃ j : Nat, r = j := ⟨r.toNat, by omega⟩
    have hj : j < n := by omega
    clear r0 r1 HAT
    clear hx
    obtain ⟨bb_, bo_, rfl, d0, d1, d2⟩ := ((HALL.out v4 HX.out).2.2.1) j (by rw [HC.out.len]; exact hj)
    rw [HC.out.at_ j hj] at d0 d1 d2
    dsimp only at d0 d1 d2
    have hji : (j : Int) < (n : Int) := by omega
    have HCO := Lib.hid (HC.out.co j hj)
    have HBF := Lib.hid (HC.out.bf j hj)
    have HHU := Lib.hid (HC.out.hu j hj)
    obtain ⟨v1, v2, v3⟩ := HC.out.ev j hj
    have HSM := Lib.hid (HC.out.sm j hj)
    generalize X j = x at *
    generalize Y j = y at *
    generalize S j = s at *
    generalize CLS j = CL at *
    have ld0 := World.block_lt_of_cell? _ _ d0
    clear hz
    obtain ⟨b4, hb4⟩ : ∃ b4, b4 = v4.alloc (.cells #[.int .i64 x, .int .i64 y, .string s] 35) := ⟨_, rfl⟩
    have hxb : v4.Ext b4 := by rw [hb4]; repeat (first | exact World.Ext.refl _ | exact ⟨_, rfl⟩ | assumption | refine World.Ext.over ?_ _ | refine World.Ext.drewN ?_ _ | refine World.Ext.drew ?_ | refine World.Ext.alloc ?_ _ | refine World.Ext.setCell ?_ (by simp) _)
    have e0_ : b4.cell? ⟨v4.heap.size, 0, none⟩ = some (.int .i64 x) := by rw [hb4]; simp [go_sem]
    have e1_ : b4.cell? ⟨v4.heap.size, 1, none⟩ = some (.int .i64 y) := by rw [hb4]; simp [go_sem]
    have e2_ : b4.cell? ⟨v4.heap.size, 2, none⟩ = some (.string s) := by rw [hb4]; simp [go_sem]
    have HALL_ : Hid (∀ w', b4.Ext w' → w'.cell? ⟨q5, 0, none⟩ = some (.slice pa H pc) ∧ RowS w' pa ss ∧ RowBd w' (some ⟨bb_, bo_, none⟩) bs ∧ w'.cell? ⟨v4.heap.size, 0, none⟩ = some (.int .i64 x) ∧ w'.cell? ⟨v4.heap.size, 1, none⟩ = some (.int .i64 y) ∧ w'.cell? ⟨v4.heap.size, 2, none⟩ = some (.string s) ∧ True) := fun w' hx' => ⟨(HALL.out w' ((HX.out.trans hxb).trans hx')).1, (HALL.out w' ((HX.out.trans hxb).trans hx')).2.1, (HALL.out w' ((HX.out.trans hxb).trans hx')).2.2.1, hx'.cell e0_, hx'.cell e1_, hx'.cell e2_, trivial⟩
    have HWB_ := Lib.hid (HWB.out.trans (HX.out.trans hxb))
    have HX_ : Hid (b4.Ext b4) := .refl _
    clear hxb e0_ e1_ e2_ HWB HX HALL
    have HALL := HALL_
    have HWB := HWB_
    have HX := HX_
    clear HALL_ HWB_ HX_
    go_upto_region 10 with fail
    rw [← hb4]
    clear hb4
    generalize v4.heap.size = q8 at *
    clear d0 d1 d2 ld0 hji
    have e0 := (HALL.out b4 HX.out).2.2.2.1
    have le0 := World.block_lt_of_cell? _ _ e0
    have e1 := (HALL.out b4 HX.out).2.2.2.2.1
    have le1 := World.block_lt_of_cell? _ _ e1
    have e2 := (HALL.out b4 HX.out).2.2.2.2.2.1
    have le2 := World.block_lt_of_cell? _ _ e2
    go_wp2_with fail
    refine (HCO.out b4).mono ?_
    rintro e v5 ⟨g9, cap9, rfl, hx, ho⟩
    clear le0 e0 le1 e1 le2 e2
    have HX_ := Lib.hid (HX.out.trans hx)
    clear HX
    have HX := HX_
    clear HX_
    have HRC := Lib.hid ho
    clear ho HCO
    clear hx
    have hxr : v5.Ext v5 := .refl _
    have HALL_ : Hid (∀ w', v5.Ext w' → w'.cell? ⟨q5, 0, none⟩ = some (.slice pa H pc) ∧ RowS w' pa ss ∧ RowBd w' (some ⟨bb_, bo_, none⟩) bs ∧ w'.cell? ⟨q8, 0, none⟩ = some (.int .i64 x) ∧ w'.cell? ⟨q8, 1, none⟩ = some (.int .i64 y) ∧ w'.cell? ⟨q8, 2, none⟩ = some (.string s) ∧ RowP w' (some ⟨g9, 0, none⟩) CL ∧ True) := fun w' hx' => ⟨(HALL.out w' ((HX.out.trans hxr).trans hx')).1, (HALL.out w' ((HX.out.trans hxr).trans hx')).2.1, (HALL.out w' ((HX.out.trans hxr).trans hx')).2.2.1, (HALL.out w' ((HX.out.trans hxr).trans hx')).2.2.2.1, (HALL.out w' ((HX.out.trans hxr).trans hx')).2.2.2.2.1, (HALL.out w' ((HX.out.trans hxr).trans hx')).2.2.2.2.2.1, RowP.ext HRC.out hx', trivial⟩
    have HWB_ := Lib.hid (HWB.out.trans (HX.out.trans hxr))
    have HX_ : Hid (v5.Ext v5) := .refl _
    clear hxr HWB HX HALL
    have HALL := HALL_
    have HWB := HWB_
    have HX := HX_
    clear HALL_ HWB_ HX_
    clear HRC
    go_wp2_with fail
    refine (HBF.out v5 _ cap9 (HALL.out v5 HX.out).2.2.2.2.2.2.1).mono ?_
    rintro e v6 ⟨rfl, hx⟩
    have HX_ := Lib.hid (HX.out.trans hx)
    clear HX
    have HX := HX_
    clear HX_
    clear HBF
    clear hx
    obtain ⟨b6, hb6⟩ : ∃ b6, b6 = v6.alloc (.cells #[.int .i64 x, .int .i64 y, .string s] 35) := ⟨_, rfl⟩
    have hxb : v6.Ext b6 := by rw [hb6]; repeat (first | exact World.Ext.refl _ | exact ⟨_, rfl⟩ | assumption | refine World.Ext.over ?_ _ | refine World.Ext.drewN ?_ _ | refine World.Ext.drew ?_ | refine World.Ext.alloc ?_ _ | refine World.Ext.setCell ?_ (by simp) _)
    have f0_ : b6.cell? ⟨v6.heap.size, 0, none⟩ = some (.int .i64 x) := by rw [hb6]; simp [go_sem]
    have f1_ : b6.cell? ⟨v6.heap.size, 1, none⟩ = some (.int .i64 y) := by rw [hb6]; simp [go_sem]
    have f2_ : b6.cell? ⟨v6.heap.size, 2, none⟩ = some (.string s) := by rw [hb6]; simp [go_sem]
    have HALL_ : Hid (∀ w', b6.Ext w' → w'.cell? ⟨q5, 0, none⟩ = some (.slice pa H pc) ∧ RowS w' pa ss ∧ RowBd w' (some ⟨bb_, bo_, none⟩) bs ∧ w'.cell? ⟨q8, 0, none⟩ = some (.int .i64 x) ∧ w'.cell? ⟨q8, 1, none⟩ = some (.int .i64 y) ∧ w'.cell? ⟨q8, 2, none⟩ = some (.string s) ∧ RowP w' (some ⟨g9, 0, none⟩) CL ∧ w'.cell? ⟨v6.heap.size, 0, none⟩ = some (.int .i64 x) ∧ w'.cell? ⟨v6.heap.size, 1, none⟩ = some (.int .i64 y) ∧ w'.cell? ⟨v6.heap.size, 2, none⟩ = some (.string s) ∧ True) := fun w' hx' => ⟨(HALL.out w' ((HX.out.trans hxb).trans hx')).1, (HALL.out w' ((HX.out.trans hxb).trans hx')).2.1, (HALL.out w' ((HX.out.trans hxb).trans hx')).2.2.1, (HALL.out w' ((HX.out.trans hxb).trans hx')).2.2.2.1, (HALL.out w' ((HX.out.trans hxb).trans hx')).2.2.2.2.1, (HALL.out w' ((HX.out.trans hxb).trans hx')).2.2.2.2.2.1, (HALL.out w' ((HX.out.trans hxb).trans hx')).2.2.2.2.2.2.1, hx'.cell f0_, hx'.cell f1_, hx'.cell f2_, trivial⟩
    have HWB_ := Lib.hid (HWB.out.trans (HX.out.trans hxb))
    have HX_ : Hid (b6.Ext b6) := .refl _
    clear hxb f0_ f1_ f2_ HWB HX HALL
    have HALL := HALL_
    have HWB := HWB_
    have HX := HX_
    clear HALL_ HWB_ HX_
    go_upto_region 12 with fail
    rw [← hb6]
    clear hb6
    generalize v6.heap.size = q11 at *
    have e0 := (HALL.out b6 HX.out).2.2.2.1
    have le0 := World.block_lt_of_cell? _ _ e0
    have e1 := (HALL.out b6 HX.out).2.2.2.2.1
    have le1 := World.block_lt_of_cell? _ _ e1
    have e2 := (HALL.out b6 HX.out).2.2.2.2.2.1
    have le2 := World.block_lt_of_cell? _ _ e2
    go_wp2_with fail
    refine (HHU.out b6).mono ?_
    rintro e v7 ⟨h, gh, caph, hok, rfl, hx, ho⟩
    clear le0 e0 le1 e1 le2 e2
    have HX_ := Lib.hid (HX.out.trans hx)
    clear HX
    have HX := HX_
    clear HX_
    have HRH := Lib.hid ho
    have HOK := Lib.hid hok
    clear ho hok HHU
    clear hx
    have hxr : v7.Ext v7 := .refl _
    have HALL_ : Hid (∀ w', v7.Ext w' → w'.cell? ⟨q5, 0, none⟩ = some (.slice pa H pc) ∧ RowS w' pa ss ∧ RowBd w' (some ⟨bb_, bo_, none⟩) bs ∧ w'.cell? ⟨q8, 0, none⟩ = some (.int .i64 x) ∧ w'.cell? ⟨q8, 1, none⟩ = some (.int .i64 y) ∧ w'.cell? ⟨q8, 2, none⟩ = some (.string s) ∧ RowP w' (some ⟨g9, 0, none⟩) CL ∧ w'.cell? ⟨q11, 0, none⟩ = some (.int .i64 x) ∧ w'.cell? ⟨q11, 1, none⟩ = some (.int .i64 y) ∧ w'.cell? ⟨q11, 2, none⟩ = some (.string s) ∧ RowP w' (some ⟨gh, 0, none⟩) h ∧ True) := fun w' hx' => ⟨(HALL.out w' ((HX.out.trans hxr).trans hx')).1, (HALL.out w' ((HX.out.trans hxr).trans hx')).2.1, (HALL.out w' ((HX.out.trans hxr).trans hx')).2.2.1, (HALL.out w' ((HX.out.trans hxr).trans hx')).2.2.2.1, (HALL.out w' ((HX.out.trans hxr).trans hx')).2.2.2.2.1, (HALL.out w' ((HX.out.trans hxr).trans hx')).2.2.2.2.2.1, (HALL.out w' ((HX.out.trans hxr).trans hx')).2.2.2.2.2.2.1, (HALL.out w' ((HX.out.trans hxr).trans hx')).2.2.2.2.2.2.2.1, (HALL.out w' ((HX.out.trans hxr).trans hx')).2.2.2.2.2.2.2.2.1, (HALL.out w' ((HX.out.trans hxr).trans hx')).2.2.2.2.2.2.2.2.2.1, RowP.ext HRH.out hx', trivial⟩
    have HWB_ := Lib.hid (HWB.out.trans (HX.out.trans hxr))
    have HX_ : Hid (v7.Ext v7) := .refl _
    clear hxr HWB HX HALL
    have HALL := HALL_
    have HWB := HWB_
    have HX := HX_
    clear HALL_ HWB_ HX_
    clear HRH
    have e0 := (HALL.out v7 HX.out).2.2.2.1
    have le0 := World.block_lt_of_cell? _ _ e0
    have e1 := (HALL.out v7 HX.out).2.2.2.2.1
    have le1 := World.block_lt_of_cell? _ _ e1
    have e2 := (HALL.out v7 HX.out).2.2.2.2.2.1
    have le2 := World.block_lt_of_cell? _ _ e2
    have f0 := (HALL.out v7 HX.out).2.2.2.2.2.2.2.1
    have lf0 := World.block_lt_of_cell? _ _ f0
    have f1 := (HALL.out v7 HX.out).2.2.2.2.2.2.2.2.1
    have lf1 := World.block_lt_of_cell? _ _ f1
    have f2 := (HALL.out v7 HX.out).2.2.2.2.2.2.2.2.2.1
    have lf2 := World.block_lt_of_cell? _ _ f2
    have f9 : ((x == x && y == y) && s.toList == s.toList) = true := by simp
    have hm4 := HOK.out.four
    have hm12 := HOK.out.few
    obtain ⟨m, hm⟩ : ∃ m, h.length = m := ⟨_, rfl⟩
    obtain ⟨cn, hcn⟩ : ∃ cn, CL.length = cn := ⟨_, rfl⟩
    have HM := Lib.hid hm
    have HCN := Lib.hid hcn
    rw [hm] at hm4 hm12 ⊢
    rw [hcn] at v1 v2 v3 ⊢
    have k1 : ¬ ((cn : Int) < 4) := by omega
    have k2 : (cn : Int) % 2 = 0 := by omega
    have k3 : ¬ ((m : Int) < 4) := by omega
    clear hm hcn
    have HXB := Lib.hid HX.out
    go_upto_region 15 with fail
    clear le0 e0 le1 e1 le2 e2 lf0 f0 lf1 f1 lf2 f2
    clear f9 k1 k2 k3
    have HCX : Hid (∀ w' p q r, Sm p → Sm q → Sm r → Calls Try.prog 12 #[.agg #[.int .i64 p.1, .int .i64 p.2], .agg #[.int .i64 q.1, .int .i64 q.2], .agg #[.int .i64 r.1, .int .i64 r.2]] w' fun e w'' => e = .returned (.int .i64 (crx p q r)) ∧ w'.Ext w'') := fun w' p q r h1 h2 h3 => cross_any p.1 p.2 q.1 q.2 r.1 r.2 w' h1 h2 h3
    have HSH : Hid (∀ i, i < m → Sm (h.getD i (0, 0))) := fun i hi => HSM.out _ (HOK.out.sub _ (getD_memC (by rw [HM.out]; exact hi)))
    have HBN : Hid (∀ i, i < m → 0 < crx (h.getD i (0, 0)) (h.getD ((i + 1) % m) (0, 0)) (h.getD ((i + 2) % m) (0, 0))) := fun i hi => by
      have q := HOK.out.bend i (by rw [HM.out]; exact hi)
      rw [HM.out] at q
      exact q
    have HON : Hid (∀ i, i < m → ∀ q, q ∈ CL → 0 ≤ crx (h.getD i (0, 0)) (h.getD ((i + 1) % m) (0, 0)) q) := fun i hi q hq => by
      have q9 := HOK.out.on i (by rw [HM.out]; exact hi) q hq
      rw [HM.out] at q9
      exact q9
    have HFS : Hid (∀ i, i < m → rdB (h.getD i (0, 0)) (h.getD 0 (0, 0)) = false) := fun i hi => HOK.out.fst i (by rw [HM.out]; exact hi)
    have HIN : Hid (∀ i, i < m → hasC CL (h.getD i (0, 0)) cn = true) := fun i hi => by
      have q := hasC_all (HOK.out.sub _ (getD_memC (k := i) (by rw [HM.out]; exact hi)))
      rw [HCN.out] at q
      exact q
    clear HOK
    go_wp2
    go_loopw [15, 16, 17, 18, 19] (fun i _ _ _ _ wr => ∃ k : Nat, k ≤ m ∧ i = .int .i64 k ∧ Hid (v7.Ext wr)) (fun i _ _ _ _ _ => m - (intOf i).toNat)
    case atStart => exact ⟨0, Nat.zero_le _, rfl, HX⟩
    case round =>
      clear HX HXB
      obtain ⟨i, hi, rfl, HX⟩ := hrel
      obtain ⟨wa, rfl⟩ : ∃ wa : World, wa = wr := ⟨_, rfl⟩
      have hi0 : (0 : Int) ≤ (i : Int) := by omega
      by_cases him : i < m
      · have him' : (i : Int) < (m : Int) := by omega
        have hmm : ((m : Int) == 0) = false := by rw [beq_eq_false_iff_ne]; omega
        have a1 : (i + 1) % m < m := Nat.mod_lt _ (by omega)
        have a2 : (i + 2) % m < m := Nat.mod_lt _ (by omega)
        have a3 : (0 : Int) ≤ ((i : Int) + 1) % (m : Int) := Int.emod_nonneg _ (by omega)
        have a4 : ((i : Int) + 1) % (m : Int) < (m : Int) := Int.emod_lt_of_pos _ (by omega)
        have a5 : (0 : Int) ≤ ((i : Int) + 2) % (m : Int) := Int.emod_nonneg _ (by omega)
        have a6 : ((i : Int) + 2) % (m : Int) < (m : Int) := Int.emod_lt_of_pos _ (by omega)
        have HRI : Hid (∀ w' t, t < m → RowP w' (some ⟨gh, 0, none⟩) h → w'.cell? ⟨gh, t * 2, none⟩ = some (.int .i64 (h.getD t (0, 0)).1) ∧ w'.cell? ⟨gh, t * 2 + 1, none⟩ = some (.int .i64 (h.getD t (0, 0)).2)) := fun w' t ht hr => by
          obtain ⟨b', o', e, h1, h2⟩ := hr.at (i := t) (by rw [HM.out]; exact ht)
          cases e
          rw [Nat.zero_add] at h1 h2
          exact ⟨h1, h2⟩
        have HC1 := Lib.hid (fun w' => HCX.out w' _ _ _ (HSH.out i him) (HSH.out _ a1) (HSH.out _ a2))
        have HC2 := Lib.hid (fun w' q (hq : q ∈ CL) => HCX.out w' _ _ q (HSH.out i him) (HSH.out _ a1) (HSM.out q hq))
        have HB1 := Lib.hid (HBN.out i him)
        have HB2 := Lib.hid (HON.out i him)
        have HB3 := Lib.hid (HFS.out i him)
        have HB4 := Lib.hid (HIN.out i him)
        have HI0 : Hid (∀ w', RowP w' (some ⟨gh, 0, none⟩) h → w'.cell? ⟨gh, 0, none⟩ = some (.int .i64 (h.getD 0 (0, 0)).1) ∧ w'.cell? ⟨gh, 1, none⟩ = some (.int .i64 (h.getD 0 (0, 0)).2)) := fun w' hr => by
          have h1 := HRI.out w' 0 (by omega) hr
          rw [Nat.zero_mul, Nat.zero_add] at h1
          exact h1
        obtain ⟨p0, hp0⟩ : ∃ p, h.getD 0 (0, 0) = p := ⟨_, rfl⟩
        obtain ⟨pi, hpi⟩ : ∃ p, h.getD i (0, 0) = p := ⟨_, rfl⟩
        obtain ⟨pn, hpn⟩ : ∃ p, h.getD ((i + 1) % m) (0, 0) = p := ⟨_, rfl⟩
        obtain ⟨pa_, hpa⟩ : ∃ p, h.getD ((i + 2) % m) (0, 0) = p := ⟨_, rfl⟩
        have HRN : Hid (∀ w', RowP w' (some ⟨gh, 0, none⟩) h → w'.cell? ⟨gh, (i + 1) % m * 2, none⟩ = some (.int .i64 pn.1) ∧ w'.cell? ⟨gh, (i + 1) % m * 2 + 1, none⟩ = some (.int .i64 pn.2)) := fun w' hr => by rw [← hpn]; exact HRI.out w' _ a1 hr
        have HRA : Hid (∀ w', RowP w' (some ⟨gh, 0, none⟩) h → w'.cell? ⟨gh, (i + 2) % m * 2, none⟩ = some (.int .i64 pa_.1) ∧ w'.cell? ⟨gh, (i + 2) % m * 2 + 1, none⟩ = some (.int .i64 pa_.2)) := fun w' hr => by rw [← hpa]; exact HRI.out w' _ a2 hr
        have HRK : Hid (∀ w', RowP w' (some ⟨gh, 0, none⟩) h → w'.cell? ⟨gh, i * 2, none⟩ = some (.int .i64 pi.1) ∧ w'.cell? ⟨gh, i * 2 + 1, none⟩ = some (.int .i64 pi.2)) := fun w' hr => by rw [← hpi]; exact HRI.out w' _ him hr
        rw [hp0] at HI0 HB3
        rw [hpi] at HC1 HC2 HB1 HB2 HB3 HB4
        rw [hpn] at HC1 HC2 HB1 HB2
        rw [hpa] at HC1 HB1
        clear hp0 hpi hpn hpa HRI HSH HBN HON HFS HIN HCX
        obtain ⟨nx, ny⟩ := pn
        obtain ⟨ax, ay⟩ := pa_
        dsimp only at HRN HRA HC1 HC2
        obtain ⟨r0, r1⟩ := HRN.out wa ((HALL.out wa HX.out).2.2.2.2.2.2.2.2.2.2.1)
        have lr := World.block_lt_of_cell? _ _ r0
        obtain ⟨b8, hb8⟩ : ∃ b8, b8 = wa.alloc (.cells #[.int .i64 nx, .int .i64 ny] 33) := ⟨_, rfl⟩
        have hxb : wa.Ext b8 := by rw [hb8]; repeat (first | exact World.Ext.refl _ | exact ⟨_, rfl⟩ | assumption | refine World.Ext.over ?_ _ | refine World.Ext.drewN ?_ _ | refine World.Ext.drew ?_ | refine World.Ext.alloc ?_ _ | refine World.Ext.setCell ?_ (by simp) _)
        have n0_ : b8.cell? ⟨wa.heap.size, 0, none⟩ = some (.int .i64 nx) := by rw [hb8]; simp [go_sem]
        have n1_ : b8.cell? ⟨wa.heap.size, 1, none⟩ = some (.int .i64 ny) := by rw [hb8]; simp [go_sem]
        have HALL_ : Hid (∀ w', b8.Ext w' → w'.cell? ⟨q5, 0, none⟩ = some (.slice pa H pc) ∧ RowS w' pa ss ∧ RowBd w' (some ⟨bb_, bo_, none⟩) bs ∧ w'.cell? ⟨q8, 0, none⟩ = some (.int .i64 x) ∧ w'.cell? ⟨q8, 1, none⟩ = some (.int .i64 y) ∧ w'.cell? ⟨q8, 2, none⟩ = some (.string s) ∧ RowP w' (some ⟨g9, 0, none⟩) CL ∧ w'.cell? ⟨q11, 0, none⟩ = some (.int .i64 x) ∧ w'.cell? ⟨q11, 1, none⟩ = some (.int .i64 y) ∧ w'.cell? ⟨q11, 2, none⟩ = some (.string s) ∧ RowP w' (some ⟨gh, 0, none⟩) h ∧ w'.cell? ⟨wa.heap.size, 0, none⟩ = some (.int .i64 nx) ∧ w'.cell? ⟨wa.heap.size, 1, none⟩ = some (.int .i64 ny) ∧ v7.Ext w' ∧ True) := fun w' hx' => ⟨(HALL.out w' ((HX.out.trans hxb).trans hx')).1, (HALL.out w' ((HX.out.trans hxb).trans hx')).2.1, (HALL.out w' ((HX.out.trans hxb).trans hx')).2.2.1, (HALL.out w' ((HX.out.trans hxb).trans hx')).2.2.2.1, (HALL.out w' ((HX.out.trans hxb).trans hx')).2.2.2.2.1, (HALL.out w' ((HX.out.trans hxb).trans hx')).2.2.2.2.2.1, (HALL.out w' ((HX.out.trans hxb).trans hx')).2.2.2.2.2.2.1, (HALL.out w' ((HX.out.trans hxb).trans hx')).2.2.2.2.2.2.2.1, (HALL.out w' ((HX.out.trans hxb).trans hx')).2.2.2.2.2.2.2.2.1, (HALL.out w' ((HX.out.trans hxb).trans hx')).2.2.2.2.2.2.2.2.2.1, (HALL.out w' ((HX.out.trans hxb).trans hx')).2.2.2.2.2.2.2.2.2.2.1, hx'.cell n0_, hx'.cell n1_, HX.out.trans (hxb.trans hx'), trivial⟩
        have HWB_ := Lib.hid (HWB.out.trans (HX.out.trans hxb))
        have HX_ : Hid (b8.Ext b8) := .refl _
        clear hxb n0_ n1_ HWB HX HALL
        have HALL := HALL_
        have HWB := HWB_
        have HX := HX_
        clear HALL_ HWB_ HX_
        go_upto_region 19 with fail
        rw [← hb8]
        clear hb8
        generalize wa.heap.size = q16 at *
        clear r0 r1 lr
        obtain ⟨r0, r1⟩ := HRA.out b8 ((HALL.out b8 HX.out).2.2.2.2.2.2.2.2.2.2.1)
        have lr := World.block_lt_of_cell? _ _ r0
        obtain ⟨b9, hb9⟩ : ∃ b9, b9 = b8.alloc (.cells #[.int .i64 ax, .int .i64 ay] 33) := ⟨_, rfl⟩
        have hxb : b8.Ext b9 := by rw [hb9]; repeat (first | exact World.Ext.refl _ | exact ⟨_, rfl⟩ | assumption | refine World.Ext.over ?_ _ | refine World.Ext.drewN ?_ _ | refine World.Ext.drew ?_ | refine World.Ext.alloc ?_ _ | refine World.Ext.setCell ?_ (by simp) _)
        have o0_ : b9.cell? ⟨b8.heap.size, 0, none⟩ = some (.int .i64 ax) := by rw [hb9]; simp [go_sem]
        have o1_ : b9.cell? ⟨b8.heap.size, 1, none⟩ = some (.int .i64 ay) := by rw [hb9]; simp [go_sem]
        have HALL_ : Hid (∀ w', b9.Ext w' → w'.cell? ⟨q5, 0, none⟩ = some (.slice pa H pc) ∧ RowS w' pa ss ∧ RowBd w' (some ⟨bb_, bo_, none⟩) bs ∧ w'.cell? ⟨q8, 0, none⟩ = some (.int .i64 x) ∧ w'.cell? ⟨q8, 1, none⟩ = some (.int .i64 y) ∧ w'.cell? ⟨q8, 2, none⟩ = some (.string s) ∧ RowP w' (some ⟨g9, 0, none⟩) CL ∧ w'.cell? ⟨q11, 0, none⟩ = some (.int .i64 x) ∧ w'.cell? ⟨q11, 1, none⟩ = some (.int .i64 y) ∧ w'.cell? ⟨q11, 2, none⟩ = some (.string s) ∧ RowP w' (some ⟨gh, 0, none⟩) h ∧ w'.cell? ⟨q16, 0, none⟩ = some (.int .i64 nx) ∧ w'.cell? ⟨q16, 1, none⟩ = some (.int .i64 ny) ∧ v7.Ext w' ∧ w'.cell? ⟨b8.heap.size, 0, none⟩ = some (.int .i64 ax) ∧ w'.cell? ⟨b8.heap.size, 1, none⟩ = some (.int .i64 ay) ∧ True) := fun w' hx' => ⟨(HALL.out w' ((HX.out.trans hxb).trans hx')).1, (HALL.out w' ((HX.out.trans hxb).trans hx')).2.1, (HALL.out w' ((HX.out.trans hxb).trans hx')).2.2.1, (HALL.out w' ((HX.out.trans hxb).trans hx')).2.2.2.1, (HALL.out w' ((HX.out.trans hxb).trans hx')).2.2.2.2.1, (HALL.out w' ((HX.out.trans hxb).trans hx')).2.2.2.2.2.1, (HALL.out w' ((HX.out.trans hxb).trans hx')).2.2.2.2.2.2.1, (HALL.out w' ((HX.out.trans hxb).trans hx')).2.2.2.2.2.2.2.1, (HALL.out w' ((HX.out.trans hxb).trans hx')).2.2.2.2.2.2.2.2.1, (HALL.out w' ((HX.out.trans hxb).trans hx')).2.2.2.2.2.2.2.2.2.1, (HALL.out w' ((HX.out.trans hxb).trans hx')).2.2.2.2.2.2.2.2.2.2.1, (HALL.out w' ((HX.out.trans hxb).trans hx')).2.2.2.2.2.2.2.2.2.2.2.1, (HALL.out w' ((HX.out.trans hxb).trans hx')).2.2.2.2.2.2.2.2.2.2.2.2.1, (HALL.out w' ((HX.out.trans hxb).trans hx')).2.2.2.2.2.2.2.2.2.2.2.2.2.1, hx'.cell o0_, hx'.cell o1_, trivial⟩
        have HWB_ := Lib.hid (HWB.out.trans (HX.out.trans hxb))
        have HX_ : Hid (b9.Ext b9) := .refl _
        clear hxb o0_ o1_ HWB HX HALL
        have HALL := HALL_
        have HWB := HWB_
        have HX := HX_
        clear HALL_ HWB_ HX_
        go_upto_region 20 with fail
        rw [← hb9]
        clear hb9
        generalize b8.heap.size = q17 at *
        clear r0 r1 lr a1 a2 a3 a4 a5 a6 hmm HRN HRA
        have n0 := (HALL.out b9 HX.out).2.2.2.2.2.2.2.2.2.2.2.1
        have ln0 := World.block_lt_of_cell? _ _ n0
        have n1 := (HALL.out b9 HX.out).2.2.2.2.2.2.2.2.2.2.2.2.1
        have ln1 := World.block_lt_of_cell? _ _ n1
        have o0 := (HALL.out b9 HX.out).2.2.2.2.2.2.2.2.2.2.2.2.2.2.1
        have lo0 := World.block_lt_of_cell? _ _ o0
        have o1 := (HALL.out b9 HX.out).2.2.2.2.2.2.2.2.2.2.2.2.2.2.2.1
        have lo1 := World.block_lt_of_cell? _ _ o1
        obtain ⟨r0, r1⟩ := HRK.out b9 ((HALL.out b9 HX.out).2.2.2.2.2.2.2.2.2.2.1)
        have lr := World.block_lt_of_cell? _ _ r0
        have HC1c := HC1
        generalize hcr : crx pi (nx, ny) (ax, ay) = cr at *
        have hb1 := HB1.out
        clear hcr HB1 HC1c
        have hb2 : ¬ cr ≤ 0 := by omega
        refine wp_region_over_lit (by kernel_rfl) (by kernel_rfl) ?_; (repeat (go_big_quiet_step ((go_at_call 12; exact Calls.over_of (HC1.out _))))); refine wpQuiet_nil ?_; rintro _ ⟨x1, rfl⟩
        clear r0 r1 lr HC1
        clear ln0 n0 ln1 n1 lo0 o0 lo1 o1
        have HXo : Hid (b9.Ext (b9.over x1)) := HX.out.trans ⟨x1, rfl⟩
        clear HX
        generalize b9.over x1 = wq at *
        go_wp2
        go_loopw [18, 19] (fun fv kv wr => ∃ k : Nat, k ≤ cn ∧ kv = .int .i64 k ∧ fv = .bool (hasC CL pi k) ∧ Hid (b9.Ext wr)) (fun _ kv _ => cn - (intOf kv).toNat)
        case atStart => exact ⟨0, Nat.zero_le _, rfl, rfl, HXo⟩
        case round =>
          clear HXo
          obtain ⟨k, hk, rfl, rfl, HX⟩ := hrel
          obtain ⟨wb, rfl⟩ : ∃ wb : World, wb = wr := ⟨_, rfl⟩
          have hk0 : (0 : Int) ≤ (k : Int) := by omega
          by_cases hkc : k < cn
          · have hkc' : (k : Int) < (cn : Int) := by omega
            have hmem : CL.getD k (0, 0) ∈ CL := getD_memC (by rw [HCN.out]; exact hkc)
            have HCK := Lib.hid (fun w' => HC2.out w' _ hmem)
            have HBK := Lib.hid (HB2.out _ hmem)
            have HNK := Lib.hid (hasC_next (L := CL) (q := pi) (k := k) (by rw [HCN.out]; exact hkc))
            have HRC : Hid (∀ w', RowP w' (some ⟨g9, 0, none⟩) CL → w'.cell? ⟨g9, k * 2, none⟩ = some (.int .i64 (CL.getD k (0, 0)).1) ∧ w'.cell? ⟨g9, k * 2 + 1, none⟩ = some (.int .i64 (CL.getD k (0, 0)).2)) := fun w' hr => by
              obtain ⟨b', o', e, h1, h2⟩ := hr.at (i := k) (by rw [HCN.out]; exact hkc)
              cases e
              rw [Nat.zero_add] at h1 h2
              exact ⟨h1, h2⟩
            obtain ⟨pk, hpk⟩ : ∃ p, CL.getD k (0, 0) = p := ⟨_, rfl⟩
            rw [hpk] at HCK HBK HNK HRC
            clear hpk hmem HC2 HB2 HB3 HB4 HI0
            generalize hasC CL pi k = fb at *
            obtain ⟨kx, ky⟩ := pk
            obtain ⟨ix, iy⟩ := pi
            dsimp only at HCK HNK HRC HRK
            generalize hck : crx (ix, iy) (nx, ny) (kx, ky) = ck at *
            have hb3 := HBK.out
            have hb4 : ¬ ck < 0 := by omega
            clear hck HBK
            go_upto_region 26 with fail
            have n0 := (HALL.out wb HX.out).2.2.2.2.2.2.2.2.2.2.2.1
            have ln0 := World.block_lt_of_cell? _ _ n0
            have n1 := (HALL.out wb HX.out).2.2.2.2.2.2.2.2.2.2.2.2.1
            have ln1 := World.block_lt_of_cell? _ _ n1
            obtain ⟨r0, r1⟩ := HRK.out wb ((HALL.out wb HX.out).2.2.2.2.2.2.2.2.2.2.1)
            have lr := World.block_lt_of_cell? _ _ r0
            obtain ⟨d0, d1⟩ := HRC.out wb ((HALL.out wb HX.out).2.2.2.2.2.2.1)
            have ld := World.block_lt_of_cell? _ _ d0
            refine wp_region_over_lit (by kernel_rfl) (by kernel_rfl) ?_; (repeat (go_big_quiet_step ((go_at_call 12; exact Calls.over_of (HCK.out _))))); refine wpQuiet_nil ?_; rintro _ ⟨x1, rfl⟩
            clear ln0 n0 ln1 n1
            clear r0 r1 lr d0 d1 ld HCK
            have HX_ : Hid (b9.Ext (wb.over x1)) := HX.out.trans ⟨x1, rfl⟩
            clear HX
            have HX := HX_
            clear HX_
            generalize wb.over x1 = wc9 at *
            go_upto_region 28 with fail
            obtain ⟨r0, r1⟩ := HRK.out wc9 ((HALL.out wc9 HX.out).2.2.2.2.2.2.2.2.2.2.1)
            have lr := World.block_lt_of_cell? _ _ r0
            obtain ⟨d0, d1⟩ := HRC.out wc9 ((HALL.out wc9 HX.out).2.2.2.2.2.2.1)
            have ld := World.block_lt_of_cell? _ _ d0
            cases fb
            · by_cases q1 : kx = ix
              · by_cases q2 : ky = iy
                · have HV : Hid (hasC CL (ix, iy) (k + 1) = true) := by show _ = _; rw [HNK.out]; simp [q1, q2]
                  rw [q1] at d0
                  rw [q2] at d1
                  clear q1 q2
                  refine wp_region_over_lit (by kernel_rfl) (by kernel_rfl) ?_; (repeat (go_big_quiet_step (fail))); refine wpQuiet_nil ?_; rintro _ ⟨x1, rfl⟩
                  have HX9 : Hid (b9.Ext (wc9.over x1)) := HX.out.trans ⟨x1, rfl⟩
                  clear r0 r1 lr d0 d1 ld HX
                  go_wp2_with fail
                  go_roundw
                  case rel => exact ⟨k + 1, by omega, by go_num, by rw [HV.out], HX9⟩
                  case measure => simp [intOf]; omega
                · have HV : Hid (hasC CL (ix, iy) (k + 1) = false) := by show _ = _; rw [HNK.out]; simp [q2]
                  rw [q1] at d0
                  clear q1
                  refine wp_region_over_lit (by kernel_rfl) (by kernel_rfl) ?_; (repeat (go_big_quiet_step (fail))); refine wpQuiet_nil ?_; rintro _ ⟨x1, rfl⟩
                  have HX9 : Hid (b9.Ext (wc9.over x1)) := HX.out.trans ⟨x1, rfl⟩
                  clear r0 r1 lr d0 d1 ld HX
                  go_wp2_with fail
                  go_roundw
                  case rel => exact ⟨k + 1, by omega, by go_num, by rw [HV.out], HX9⟩
                  case measure => simp [intOf]; omega
              · have HV : Hid (hasC CL (ix, iy) (k + 1) = false) := by show _ = _; rw [HNK.out]; simp [q1]
                refine wp_region_over_lit (by kernel_rfl) (by kernel_rfl) ?_; (repeat (go_big_quiet_step (fail))); refine wpQuiet_nil ?_; rintro _ ⟨x1, rfl⟩
                have HX9 : Hid (b9.Ext (wc9.over x1)) := HX.out.trans ⟨x1, rfl⟩
                clear r0 r1 lr d0 d1 ld HX
                go_wp2_with fail
                go_roundw
                case rel => exact ⟨k + 1, by omega, by go_num, by rw [HV.out], HX9⟩
                case measure => simp [intOf]; omega
            · have HV : Hid (hasC CL (ix, iy) (k + 1) = true) := by show _ = _; rw [HNK.out, Bool.true_or]
              refine wp_region_over_lit (by kernel_rfl) (by kernel_rfl) ?_; (repeat (go_big_quiet_step (fail))); refine wpQuiet_nil ?_; rintro _ ⟨x1, rfl⟩
              have HX9 : Hid (b9.Ext (wc9.over x1)) := HX.out.trans ⟨x1, rfl⟩
              clear r0 r1 lr d0 d1 ld HX
              go_wp2_with fail
              go_roundw
              case rel => exact ⟨k + 1, by omega, by go_num, by rw [HV.out], HX9⟩
              case measure => simp [intOf]; omega
          · as_aux_lemma =>
            have hke : k = cn := by omega
            subst hke
            have hkc' : ¬ (k : Int) < (k : Int) := by omega
            rw [HB4.out]
            obtain ⟨ix, iy⟩ := pi
            obtain ⟨zx, zy⟩ := p0
            dsimp only at HRK HI0
            have hrd := HB3.out
            unfold rdB at hrd
            have hrd := of_decide_eq_false hrd
            dsimp only at hrd
            have y1 : decide (iy < zy) = false := decide_eq_false (by omega)
            clear HB2 HB3 HB4 HC2
            go_upto_region 29 with fail
            obtain ⟨r0, r1⟩ := HRK.out wb ((HALL.out wb HX.out).2.2.2.2.2.2.2.2.2.2.1)
            have lr := World.block_lt_of_cell? _ _ r0
            obtain ⟨d0, d1⟩ := HI0.out wb ((HALL.out wb HX.out).2.2.2.2.2.2.2.2.2.2.1)
            have hm0 : (0 : Int) < (m : Int) := by omega
            have HX9 := Lib.hid ((HALL.out wb HX.out).2.2.2.2.2.2.2.2.2.2.2.2.2.1)
            cases hq : (iy == zy)
            · clear hrd
              refine wp_region_over_lit (by kernel_rfl) (by kernel_rfl) ?_; (repeat (go_big_quiet_step (fail))); refine wpQuiet_nil ?_; rintro _ ⟨x1, rfl⟩
              have HXA : Hid (v7.Ext (wb.over x1)) := HX9.out.trans ⟨x1, rfl⟩
              clear r0 r1 lr d0 d1 HX HX9
              go_wp2_with fail
              go_roundw
              case rel => exact ⟨i + 1, by omega, by go_num, HXA⟩
              case measure => simp [intOf]; omega
            · have hqe : iy = zy := by rw [beq_iff_eq] at hq; exact hq
              have x1z : decide (ix < zx) = false := decide_eq_false (by omega)
              clear hrd hqe
              refine wp_region_over_lit (by kernel_rfl) (by kernel_rfl) ?_; (repeat (go_big_quiet_step (fail))); refine wpQuiet_nil ?_; rintro _ ⟨x1, rfl⟩
              have HXA : Hid (v7.Ext (wb.over x1)) := HX9.out.trans ⟨x1, rfl⟩
              clear r0 r1 lr d0 d1 HX HX9
              go_wp2_with fail
              go_roundw
              case rel => exact ⟨i + 1, by omega, by go_num, HXA⟩
              case measure => simp [intOf]; omega
      · have hie : i = m := by omega
        subst hie
        have him' : ¬ (i : Int) < (i : Int) := by omega
        have HXE := Lib.hid (HWB.out.trans HX.out)
        go_wp2
        go_ret
        exact ⟨rfl, HXE.out⟩
end Go.Proofs.Ytelaoimcaidoiaa
