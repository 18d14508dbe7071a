/- Numbers of components: the program's side. -/
import Derived.Test.YthgkmaccbcpaeaaFillF
namespace Go.Proofs.Ythgkmaccbcpaeaa
open Go Go.RowKit
theorem zeroI64 (w : World) : (zeroValue 2).run Try.prog w = .ok (.int .i64 0) w := by kernel_rfl
theorem int64Map : Try.prog.underlying 161 = some (.map 45 2) := Try.underlying161
/-- What a map of numbers holds. -/
def labM (f : Int × Int → Nat) (q : Int × Int) : Option Value := if 0 < f q then some (.int .i64 (f q)) else none
theorem labM_val {f : Int × Int → Nat} (q : Int × Int) : (labM f q).getD (.int .i64 0) = .int .i64 (f q) := by
  unfold labM
  by_cases h : 0 < f q
  · rw [if_pos h]; rfl
  · rw [if_neg h, show f q = 0 by omega]; rfl
theorem MapS.lookI {w : World} {bm : Nat} {f : Int × Int → Nat} (h : MapS w Try.prog 45 bm (labM f)) {x y : Int} (hx : -1000 ≤ x ∧ x ≤ 1000) (hy : -1000 ≤ y ∧ y ≤ 1000) :
    (Instr.lookup 161 (.map (some bm)) (.agg #[.int .i64 x, .int .i64 y]) false).run Try.prog w = .ok (.int .i64 (f (x, y))) w := by
  have := h.look Try.spotKey int64Map (zeroI64 w) (p := (x, y)) (spotKeyOf (spotWf hx hy))
  rw [labM_val] at this
  exact this
/-- Those of ds that have come have the number m. -/
def mixF (ds : List (Int × Int)) (left : Int × Int → Bool) (m : Nat) (f : Int × Int → Nat) (q : Int × Int) : Nat := if q ∈ ds ∧ left q = false then m else f q
theorem mixF_start {ds : List (Int × Int)} {left : Int × Int → Bool} {m : Nat} {f : Int × Int → Nat} (h : ∀ q, q ∈ ds → left q = true) (q : Int × Int) : f q = mixF ds left m f q := by
  unfold mixF
  rw [if_neg]
  rintro ⟨h1, h2⟩
  rw [h q h1] at h2
  cases h2
theorem mixF_step {ds : List (Int × Int)} {left : Int × Int → Bool} {m : Nat} {f : Int × Int → Nat} {p : Int × Int} (hp : p ∈ ds) (hm : 0 < m) (q : Int × Int) :
    (if q = p then some (Value.int .i64 m) else labM (mixF ds left m f) q) = labM (mixF ds (fun q => left q && !(q == p)) m f) q := by
  by_cases e : q = p
  · subst e
    rw [if_pos rfl]
    unfold labM mixF
    rw [if_pos (show q ∈ ds ∧ (left q && !(q == q)) = false from ⟨hp, by simp⟩), if_pos hm]
  · rw [if_neg e]
    have : (left q && !(q == p)) = left q := by simp [e]
    unfold labM mixF
    simp only [this]
theorem mixF_done {ds : List (Int × Int)} {left : Int × Int → Bool} {m : Nat} {f : Int × Int → Nat} (h : ∀ q, left q = false) (q : Int × Int) : (q ∈ ds → mixF ds left m f q = m) ∧ (¬ q ∈ ds → mixF ds left m f q = f q) := by
  unfold mixF
  exact ⟨fun h1 => if_pos ⟨h1, h q⟩, fun h1 => if_neg fun h2 => h1 h2.1⟩
/-- The numbers under way: of all that was there behind W3, just the map has been written. -/
def LiSt (W3 : World) (bm : Nat) (f : Int × Int → Nat) (wr : World) : Prop := Wrote (fun k => k = bm ∨ W3.heap.size ≤ k) W3 wr ∧ MapS wr Try.prog 45 bm (labM f)
theorem LiSt.ext {W3 : World} {bm : Nat} {f : Int × Int → Nat} {wr w' : World} (h : LiSt W3 bm f wr) (hx : wr.Ext w') : LiSt W3 bm f w' := ⟨h.1.trans (hx.wrote _), h.2.ext hx⟩
theorem LiSt.put {W3 : World} {bm : Nat} {f f' : Int × Int → Nat} {wr w' : World} {g : Int × Int → Option Value} (h : LiSt W3 bm f wr) (hm : MapS w' Try.prog 45 bm g) (hg : wr.grownBy w' (some bm)) (e : ∀ q, g q = labM f' q) : LiSt W3 bm f' w' :=
  ⟨h.1.trans ⟨hg.os, hg.tape, hg.output, hg.size, fun k hk hs => hg.block k hk (by simp only [ne_eq, Option.some.injEq]; exact fun e => hs (.inl e))⟩, hm.congr e⟩
theorem LiSt.grown {W3 : World} {bm r : Nat} {f : Int × Int → Nat} {wr w' : World} (h : LiSt W3 bm f wr) (hg : wr.grownBy w' (some r)) (h1 : r ≠ bm) (h2 : W3.heap.size ≤ r) : LiSt W3 bm f w' :=
  ⟨h.1.trans ⟨hg.os, hg.tape, hg.output, hg.size, fun k hk hs => hg.block k hk (by simp only [ne_eq, Option.some.injEq]; exact fun e => hs (.inr (by omega)))⟩, h.2.grown hg (by simp only [ne_eq, Option.some.injEq]; omega)⟩
theorem LiSt.congr {W3 : World} {bm : Nat} {f f' : Int × Int → Nat} {wr : World} (h : LiSt W3 bm f wr) (e : ∀ q, f q = f' q) : LiSt W3 bm f' wr := (funext e : f = f') ▸ h
def LabRet (w : World) (f : Int × Int → Nat) (n : Nat) (e : Ending) (w' : World) : Prop :=
  ∃ bm, e = .returned (.tuple #[.map (some bm), .int .i64 n]) ∧ w.Ext w' ∧ w.heap.size ≤ bm ∧ MapS w' Try.prog 45 bm (labM f)
set_option maxRecDepth 5000 in
set_option maxHeartbeats 3200000 in
theorem labels_any (b ab W H : Nat) (l : List Bool) (eight : Bool) (F : Int × Int → Nat) (NN : Nat) (w : World) (hW : W ≤ 64) (hH : H ≤ 64) (hI : Img w b ab W H l)
    (hF : LabK (pxP W H l) (nbA eight) (spotsTo W l (H * W)) (spotsTo W l (H * W)).length F NN) :
    Calls Try.prog 114 #[.pointer (some ⟨b, 0, none⟩), .bool eight] w (LabRet w F NN) := by
  obtain ⟨W0, hW0⟩ : ∃ W0, W0 = (w.alloc (.cells #[.pointer (some ⟨b, 0, none⟩)] 100)).alloc (.map #[] 0) := ⟨_, rfl⟩
  have hx0 : w.Ext W0 := by rw [hW0]; repeat (first | exact World.Ext.refl _ | exact ⟨_, rfl⟩ | assumption | refine World.Ext.over ?_ _ | refine World.Ext.drewN ?_ _ | refine World.Ext.drew ?_ | refine World.Ext.alloc ?_ _ | refine World.Ext.setCell ?_ (by simp) _)
  have cp0 : W0.cell? ⟨w.heap.size, 0, none⟩ = some (.pointer (some ⟨b, 0, none⟩)) := by rw [hW0]; simp [go_sem]
  have hM0 : MapS W0 Try.prog 45 (w.heap.size + 1) (labM fun _ => 0) := by
    rw [hW0]
    exact (MapS.new _ Try.prog 45 (w.heap.size + 1) (by simp)).congr fun p => by simp [labM]
  have HSP := Lib.hid (spots_any b ab W H l W0 hW hH (hI.ext hx0))
  have hfew : (spotsTo W l (H * W)).length ≤ 4096 := spotsTo_few hW hH
  have HSB := Lib.hid (spotsTo_bnd (W := W) (H := H) (l := l) hW hH)
  have HSM : Hid (∀ q, q ∈ spotsTo W l (H * W) → pxP W H l q = true) := fun q h => spotsTo_mem.1 h
  have HSPR : Hid (∀ (w' : World) (p2 : Nat) (sa : Option Addr) (x y : Int), (-500 ≤ x ∧ x ≤ 500) → (-500 ≤ y ∧ y ≤ 500) → w'.cell? ⟨p2, 0, none⟩ = some (.pointer (some ⟨b, 0, none⟩)) → Img w' b ab W H l → RowP w' sa [(x, y)] →
      Calls Try.prog 192 #[.slice sa 1 1, .bool eight, .func (.func 193) #[] #[.pointer (some ⟨p2, 0, none⟩)]] w' (MapRet w' (pxP W H l) (nbA eight) [(x, y)])) := fun w' p2 sa x y h1 h2 hc hI hr =>
    spread_any sa 1 [(x, y)] eight _ _ (pxP W H l) (boxL 0 0 W H) w' enters_pxLab hr (by simp) (fun q hq => by simp at hq; subst hq; exact ⟨h1.1, h1.2, h2.1, h2.2⟩) (fun p hp => pxP_box hp) (by rw [boxL_len]; exact Nat.le_trans (Nat.mul_le_mul hH hW) (by omega))
      (fun p hp => by obtain ⟨x, y, rfl, h1, h2⟩ := pxP_nat hp; dsimp only; omega) (fun w'' hx x y _ _ => pxLab_any p2 b ab W H l x y w'' hW hH (hx.cell hc) (hI.ext hx))
  have HBX : Hid (∀ q, pxP W H l q = true → q ∈ boxL 0 0 W H) := fun q => pxP_box
  have HBN : Hid (∀ q, pxP W H l q = true → 0 ≤ q.1 ∧ q.1 ≤ 64 ∧ 0 ≤ q.2 ∧ q.2 ≤ 64) := fun q hq => by
    obtain ⟨x, y, rfl, h1, h2⟩ := pxP_nat hq
    dsimp only
    omega
  have HBL : Hid ((boxL 0 0 W H).length < maxLen) := by show _ < _; rw [boxL_len]; have := Nat.mul_le_mul hH hW; unfold maxLen; omega
  have HI := Lib.hid hI
  have HFF := Lib.hid hF
  have HX0 := Lib.hid hx0
  have HM0 := Lib.hid hM0
  have hsz0 : W0.heap.size = w.heap.size + 2 := by rw [hW0]; simp
  have hmm := @run_makeMap Try.prog
  clear hI hx0 hM0 hF
  generalize pxP W H l = R at *
  generalize boxL 0 0 W H = BL at *
  generalize spotsTo W l (H * W) = S at *
  generalize hN : nbA eight = N at *
  clear hN
  go_enter Try.func114, Try.ntmps114
  go_wp2_with fail
  rw [← hW0]
  clear hmm hW0
  refine HSP.out.mono ?_
  rintro e w3 ⟨sa, sc, rfl, hx3, ho3⟩
  have HROW := Lib.hid ho3.row
  have cp3 := hx3.cell cp0
  have HS0 : Hid (LiSt w3 (w.heap.size + 1) (fun _ => 0) w3) := ⟨Wrote.refl _ _, HM0.out.ext hx3⟩
  have HX3 := Lib.hid (HX0.out.trans hx3)
  have hs3 : w.heap.size + 2 ≤ w3.heap.size := by have := hx3.size; omega
  have HRB : Hid (∀ k' b' o', sa = some ⟨b', o', none⟩ → k' < S.length → w.heap.size + 1 < b') := fun k' b' o' e hk => by
    obtain ⟨b2, o2, e1, l1, -⟩ := ho3 0 (by rw [flatP_len]; omega)
    rw [e] at e1
    simp only [Option.some.injEq, Addr.mk.injEq] at e1
    obtain ⟨rfl, -⟩ := e1
    omega
  clear hx3 ho3 cp0 HM0 HX0 HSP
  go_wp2
  go_loopw [7, 15] (fun v m wr => ∃ (k n : Nat) (f : Int × Int → Nat), k ≤ S.length ∧ m = .int .i64 k ∧ v = .int .i64 n ∧ Hid (LabK R N S k f n) ∧ Hid (LiSt w3 (w.heap.size + 1) f wr)) (fun _ m _ => S.length - (intOf m).toNat)
  case atStart => exact ⟨0, 0, fun _ => 0, Nat.zero_le _, rfl, rfl, LabK.init, HS0⟩
  case round =>
    obtain ⟨k, n, f, hk, rfl, rfl, HL, HS⟩ := hrel
    clear HS0
    obtain ⟨w4, rfl⟩ : ∃ w4 : World, w4 = wr := ⟨_, rfl⟩
    by_cases hltk : k < S.length
    · have hltk' : (k : Int) < (S.length : Int) := by omega
      obtain ⟨b0, o0, rfl, c0, c1⟩ := HROW.out.at hltk
      have hb0 := HRB.out k b0 o0 rfl hltk
      have hsR := HSM.out _ (getD_mem hltk)
      have hsB := HBN.out _ hsR
      have hb0l := World.block_lt_of_cell? _ _ c0
      dsimp only at hb0l
      replace c0 := HS.out.1.cell c0 (by dsimp only; omega)
      replace c1 := HS.out.1.cell c1 (by dsimp only; omega)
      have hnk : n ≤ k := HL.out.few.1
      have HSK : Hid (0 < f (S.getD k (0, 0)) → LabK R N S (k + 1) f n) := fun h => HL.out.skip h
      have HAD : Hid (f (S.getD k (0, 0)) = 0 → ∀ f', (∀ q, (Rch R N [S.getD k (0, 0)] q → f' q = n + 1) ∧ (¬ Rch R N [S.getD k (0, 0)] q → f' q = f q)) → LabK R N S (k + 1) f' (n + 1)) := fun h f' h' => HL.out.add h h'
      have HFR : Hid (∀ q, 0 < f q → R q = true) := HL.out.right
      clear HL
      generalize S.getD k (0, 0) = s at c0 c1 hsR hsB HSK HAD
      obtain ⟨x, y⟩ := s
      dsimp only at c0 c1 hsB
      have cp4 := HS.out.1.cell cp3 (by dsimp only; omega)
      have hw4 : w3.heap.size ≤ w4.heap.size := HS.out.1.size
      by_cases hfp : 0 < f (x, y)
      · have HL2 := Lib.hid (HSK.out hfp)
        have hfp' : (0 : Int) < (f (x, y) : Int) := by omega
        have HS2 := Lib.hid (HS.out.ext ((World.Ext.refl w4).alloc (.cells #[.int .i64 x, .int .i64 y] 45)))
        have hlook := HS2.out.2.lookI (x := x) (y := y) (by omega) (by omega)
        clear HSK HAD HFR hfp hsR hsB hnk hw4 hb0 hb0l
        generalize f (x, y) = m at *
        go_wp2
        go_roundw
        case rel => exact ⟨k + 1, n, f, by omega, by go_num, rfl, HL2, HS2⟩
        case measure => simp [intOf]; omega
      · have hf0 : f (x, y) = 0 := by omega
        obtain ⟨w5, hw5⟩ : ∃ w5, w5 = (w4.alloc (.cells #[.int .i64 x, .int .i64 y] 45)).alloc (.cells #[.int .i64 x, .int .i64 y] 45) := ⟨_, rfl⟩
        have hx5 : w4.Ext w5 := by rw [hw5]; repeat (first | exact World.Ext.refl _ | exact ⟨_, rfl⟩ | assumption | refine World.Ext.over ?_ _ | refine World.Ext.drewN ?_ _ | refine World.Ext.drew ?_ | refine World.Ext.alloc ?_ _ | refine World.Ext.setCell ?_ (by simp) _)
        have hS1 := HS.out.ext ((World.Ext.refl w4).alloc (.cells #[.int .i64 x, .int .i64 y] 45))
        have hlook := hS1.2.lookI (x := x) (y := y) (by omega) (by omega)
        rw [hf0] at hlook
        have hrow : RowP w5 (some ⟨w4.heap.size + 1, 0, none⟩) [(x, y)] := by
          intro i hi
          have hi2 : i < 2 := hi
          refine ⟨w4.heap.size + 1, 0, rfl, ?_⟩
          rw [hw5]
          match i, hi2 with
          | 0, _ => simp [go_sem, flatP]
          | 1, _ => simp [go_sem, flatP]
        have hI5 : Img w5 b ab W H l := (HI.out.ext ((HX3.out.wroteNew HS.out.1 (fun k hk => by omega)).trans hx5))
        have HC := Lib.hid (HSPR.out w5 w.heap.size (some ⟨w4.heap.size + 1, 0, none⟩) x y (by omega) (by omega) (hx5.cell cp4) hI5 hrow)
        have HS5 := Lib.hid (HS.out.ext hx5)
        have HADD := Lib.hid (HAD.out hf0)
        have hs5 := hx5.size
        clear HSK HAD hS1 hrow hI5 HS hx5 hfp hsR hf0 hb0 hb0l
        go_wp2_with fail
        rw [← hw5]
        clear hw5 hlook
        refine HC.out.mono ?_
        rintro e w6 ⟨bm2, ds, rfl, hx6, hlo6, hM6, hnd, hds⟩
        have HS6 := Lib.hid (HS5.out.ext hx6)
        have HDS := Lib.hid hds
        have HM6 := Lib.hid hM6
        have hs6 := hx6.size
        have hbm2 : bm2 < w6.heap.size := hM6.lt
        clear hx6 hM6 hds HC HS5 hnd c0 c1 cp4
        go_wp2_with (at_range; refine wpList_range_S _ rfl _ 229 rfl 45 4 boolMap bm2 (mapG ds) rfl HM6.out (fun w7 cnt hrg hg7 hsz7 => ?_))
        have HRG : Hid (RangeS w7 Try.prog 45 bm2 w6.heap.size (mapG ds) (fun p => (mapG ds p).isSome) cnt) := hrg
        have hx7 : w6.Ext w7 := World.Ext.made hg7
        have HS7 : Hid (LiSt w3 (w.heap.size + 1) (mixF ds (fun p => (mapG ds p).isSome) (n + 1) f) w7) := (HS6.out.ext hx7).congr (mixF_start fun q hq => by obtain ⟨v, hv⟩ := (mapG_in q).2 hq; rw [hv]; rfl)
        clear hrg hg7 hx7 HS6 HM6
        have hr3 : w3.heap.size ≤ w6.heap.size := by omega
        have hr1 : w6.heap.size ≠ w.heap.size + 1 := by omega
        have hb21 : bm2 ≠ w.heap.size + 1 := by omega
        generalize w6.heap.size = r at *
        clear hs6 hs5 hw4 hlo6 hbm2 hsz7
        go_wp2
        go_frame
        go_loopw [10] (fun _ wr => ∃ (left : Int × Int → Bool) (cnt : Nat), Hid (RangeS wr Try.prog 45 bm2 r (mapG ds) left cnt) ∧ Hid (LiSt w3 (w.heap.size + 1) (mixF ds left (n + 1) f) wr)) (fun _ wr => wr.rangeLeft bm2 r)
        case atStart => exact ⟨_, _, HRG, HS7⟩
        case round =>
          clear HRG HS7
          obtain ⟨left, cnt, HRG, HS⟩ := hrel
          obtain ⟨w8, rfl⟩ : ∃ w8 : World, w8 = wr := ⟨_, rfl⟩
          have HEND : Hid (∀ _ : (∀ p, left p = false), LabK R N S (k + 1) (mixF ds left (n + 1) f) (n + 1)) := fun hl0 => HADD.out _ fun q => ⟨fun hq => (mixF_done hl0 q).1 ((HDS.out q).2 hq), fun hq => (mixF_done hl0 q).2 fun h => hq ((HDS.out q).1 h)⟩
          have HIN : Hid (∀ x2 y2 v2, mapG ds (x2, y2) = some v2 → (x2, y2) ∈ ds ∧ 0 ≤ x2 ∧ x2 ≤ 64 ∧ 0 ≤ y2 ∧ y2 ≤ 64) := fun x2 y2 v2 h => by
            have h1 := (mapG_in (x2, y2)).1 ⟨v2, h⟩
            have h2 := HBN.out _ ((HDS.out _).1 h1).right
            exact ⟨h1, h2⟩
          have HLL : Hid (∀ p v, labM (mixF ds left (n + 1) f) p = some v → p ∈ BL) := fun p v h => by
            refine HBX.out p ?_
            unfold labM at h
            by_cases h0 : 0 < mixF ds left (n + 1) f p
            · unfold mixF at h0
              by_cases h2 : p ∈ ds ∧ left p = false
              · exact ((HDS.out p).1 h2.1).right
              · rw [if_neg h2] at h0
                exact HFR.out p h0
            · rw [if_neg h0] at h
              cases h
          go_wp2_with (at_next; refine wpList_next_S _ rfl _ rfl 45 bm2 r (mapG ds) left cnt rfl HRG.out ?_ ?_)
          · intro hl0
            have HL2 := Lib.hid (HEND.out fun ⟨a, b⟩ => hl0 a b)
            clear HEND HIN HLL hl0
            go_wp2
            go_roundw
            case rel => exact ⟨k + 1, n + 1, _, by omega, by go_num, by rw [Int.natCast_add]; rfl, HL2, HS⟩
            case measure => simp [intOf]; omega
          · intro x2 y2 v2 w9 cnt2 hlx hat hrg2 hlt2 hg9 hsz9 hen
            obtain ⟨hpd, hx20, hx21, hy20, hy21⟩ := HIN.out _ _ _ hat
            have HPD := Lib.hid hpd
            have HS9 := Lib.hid (HS.out.grown hg9 hr1 hr3)
            have HRG9 := Lib.hid hrg2
            have HLT := Lib.hid hlt2
            have HM9 := Lib.hid (HS9.out.2.ext ((World.Ext.refl w9).alloc (.cells #[.int .i64 x2, .int .i64 y2] 45)))
            have HKEY := Lib.hid (spotKeyOf (p := (x2, y2)) (spotWf (by omega) (by omega)))
            have HNX : Hid (∀ w11, MapS w11 Try.prog 45 (w.heap.size + 1) (fun q => if q = (x2, y2) then some (.int .i64 ((n : Int) + 1)) else labM (mixF ds left (n + 1) f) q) → (w9.alloc (.cells #[.int .i64 x2, .int .i64 y2] 45)).grownBy w11 (some (w.heap.size + 1)) →
                Hid (RangeS w11 Try.prog 45 bm2 r (mapG ds) (fun q => left q && !(q == (x2, y2))) cnt2) ∧ Hid (LiSt w3 (w.heap.size + 1) (mixF ds (fun q => left q && !(q == (x2, y2))) (n + 1) f) w11)) := fun w11 hm hg => by
              refine ⟨(HRG9.out.ext ((World.Ext.refl w9).alloc _)).grown hg (by simp only [ne_eq, Option.some.injEq]; exact hb21) (by simp only [ne_eq, Option.some.injEq]; exact hr1), (HS9.out.ext ((World.Ext.refl w9).alloc _)).put hm hg fun q => ?_⟩
              have := mixF_step (left := left) (f := f) HPD.out (Nat.succ_pos n) q
              rw [← this]
              rw [show ((n + 1 : Nat) : Int) = (n : Int) + 1 from Int.natCast_add n 1]
            clear HEND HIN HS hpd hrg2 hlt2 hat hlx hg9 hsz9 hx20 hx21 hy20 hy21
            go_wp2_with (at_mapUpdate; refine wpList_mapUpdate_S _ rfl _ _ _ 161 rfl 45 2 Try.spotKey int64Map (w.heap.size + 1) (labM (mixF ds left (n + 1) f)) rfl HM9.out BL HLL.out HBL.out (x2, y2) _ (.int .i64 ((n : Int) + 1)) rfl rfl HKEY.out (fun w11 hm11 hg11 => ?_); obtain ⟨HRG11, HS11⟩ := HNX.out w11 hm11 hg11; clear hm11 hg11 hen)
            go_roundw
            case rel => exact ⟨_, ⟨cnt2, HRG11⟩, HS11⟩
            case measure => rw [HRG11.out.left_eq, HRG.out.left_eq]; exact HLT.out
    · have : k = S.length := by omega
      subst this
      obtain ⟨hu1, hu2⟩ := LabK.uniq HL.out HFF.out
      subst hu2
      have HR : Hid (LabRet w F n (.returned (.tuple #[.map (some (w.heap.size + 1)), .int .i64 n])) w4) := ⟨w.heap.size + 1, rfl, HX3.out.wroteNew HS.out.1 (fun k hk => by omega), by omega, (HS.out.congr hu1).2⟩
      clear HS HL hu1
      go_wp2
      go_ret2
      exact HR.out
end Go.Proofs.Ythgkmaccbcpaeaa
