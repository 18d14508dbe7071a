/- Borders: all borders of a picture, the reference's. -/
import Derived.Test.YtahhnjoeaodcjaaBrdA
import Derived.Test.YtahhnjoeaodcjaaLBd
namespace Go.Proofs.Ytahhnjoeaodcjaa
open Go Go.RowKit
theorem cell3_at {w : World} {u v x : Value} {e : TypeId} {p : Nat} (hp : p = w.heap.size) : ∀ (j : Nat) (y : Value), [u, v, x][j]? = some y → (w.alloc (.cells #[u, v, x] e)).cell? ((⟨p, 0, none⟩ : Addr).add j) = some y := by
  subst hp
  intro j y hj
  rw [Addr.add_mk]
  match j, hj with
  | 0, hj => simp at hj; subst hj; simp [go_sem]
  | 1, hj => simp at hj; subst hj; simp [go_sem]
  | 2, hj => simp at hj; subst hj; simp [go_sem]
  | j + 3, hj => simp at hj
def bdOf (f : Int → Int → Bool) (W j : Nat) : Bord := ((stE W j).x, (stE W j).y, wrd f (stE W j))
def brds (f : Int → Int → Bool) (W k : Nat) : List Bord := (bTo f W k).map (bdOf f W)
def mdB (f : Int → Int → Bool) (W k x y : Nat) : Bool := doneB f W (bTo f W k) ⟨(x : Int), (y : Int), 0⟩
theorem stE_at {W x y : Nat} (hx : x < W) : stE W (y * W + x) = ⟨(x : Int), (y : Int), 0⟩ := by
  have e1 : (y * W + x) % W = x := by rw [Nat.mul_comm, Nat.mul_add_mod, Nat.mod_eq_of_lt hx]
  have e2 : (y * W + x) / W = y := by rw [Nat.mul_comm, Nat.mul_add_div (by omega), Nat.div_eq_of_lt hx, Nat.add_zero]
  unfold stE
  rw [e1, e2]
theorem bTo_len (f : Int → Int → Bool) (W : Nat) : ∀ k, (bTo f W k).length ≤ k
  | 0 => Nat.le_refl _
  | k + 1 => by
    have ih := bTo_len f W k
    unfold bTo
    split
    · simp only [List.length_append, List.length_singleton]; omega
    · omega
theorem brds_len (f : Int → Int → Bool) (W k : Nat) : (brds f W k).length ≤ k := by unfold brds; rw [List.length_map]; exact bTo_len f W k
theorem bTo_no {f : Int → Int → Bool} {W x y : Nat} (hx : x < W) (h : canB f x y 0 = false ∨ mdB f W (y * W + x) x y = true) : bTo f W (y * W + (x + 1)) = bTo f W (y * W + x) := by
  rw [← Nat.add_assoc]
  show bTo f W (y * W + x + 1) = _
  rw [bTo]
  unfold isSt
  rw [stE_at hx, if_neg]
  unfold mdB at h
  rcases h with h | h
  · dsimp only; rw [h]; simp
  · rw [h]; simp
theorem bTo_yes {f : Int → Int → Bool} {W x y : Nat} (hx : x < W) (h1 : canB f x y 0 = true) (h2 : mdB f W (y * W + x) x y = false) : bTo f W (y * W + (x + 1)) = bTo f W (y * W + x) ++ [y * W + x] := by
  rw [← Nat.add_assoc]
  show bTo f W (y * W + x + 1) = _
  rw [bTo]
  unfold isSt
  unfold mdB at h2
  rw [stE_at hx, if_pos]
  dsimp only
  rw [h1, h2]
  rfl
theorem brds_no {f : Int → Int → Bool} {W x y : Nat} (hx : x < W) (h : canB f x y 0 = false ∨ mdB f W (y * W + x) x y = true) : brds f W (y * W + (x + 1)) = brds f W (y * W + x) := by unfold brds; rw [bTo_no hx h]
theorem brds_yes {f : Int → Int → Bool} {W x y : Nat} (hx : x < W) (h1 : canB f x y 0 = true) (h2 : mdB f W (y * W + x) x y = false) : brds f W (y * W + (x + 1)) = brds f W (y * W + x) ++ [((x : Int), (y : Int), wrd f ⟨(x : Int), (y : Int), 0⟩)] := by
  unfold brds
  rw [bTo_yes hx h1 h2, List.map_append]
  unfold bdOf
  rw [List.map_cons, List.map_nil, stE_at hx]
theorem mdB_no {f : Int → Int → Bool} {W x y : Nat} (hx : x < W) (h : canB f x y 0 = false ∨ mdB f W (y * W + x) x y = true) : mdB f W (y * W + (x + 1)) = mdB f W (y * W + x) := by funext a b; unfold mdB; rw [bTo_no hx h]
theorem mdB_yes {f : Int → Int → Bool} {W x y : Nat} (hx : x < W) (h1 : canB f x y 0 = true) (h2 : mdB f W (y * W + x) x y = false) (a b : Nat) : mdB f W (y * W + (x + 1)) a b = (mdB f W (y * W + x) a b || inOrb f ⟨(x : Int), (y : Int), 0⟩ ⟨(a : Int), (b : Int), 0⟩) := by
  unfold mdB
  rw [bTo_yes hx h1 h2]
  unfold doneB
  rw [List.any_append, List.any_cons, List.any_nil, Bool.or_false, stE_at hx]
/-- Borders under way, and what they have marked. -/
structure AlSt (w : World) (g : Nat) (v : Value) (bs : List Bord) (m : Nat → Nat → Bool) (wr : World) : Prop where
  x : w.Ext wr
  g : BlkOf Value.bool wr g 4 (mkl 17 17 m)
  d : GrowBd w.heap.size wr v bs
section
variable {w wr w' : World} {g : Nat} {v : Value} {bs : List Bord} {m m' : Nat → Nat → Bool}
theorem AlSt.ext (h : AlSt w g v bs m wr) (hx : wr.Ext w') : AlSt w g v bs m w' := ⟨h.x.trans hx, h.g.ext hx, World.ownsRow.ext h.d hx⟩
theorem AlSt.marked (h : AlSt w g v bs m wr) (hg : w.heap.size ≤ g) (hm : MdSt wr g m' w') : AlSt w g v bs m' w' := by
  refine ⟨h.x.wroteNew hm.1 fun k hk e => by omega, hm.2, World.ownsRow.keep h.d fun k hk => hm.1.block k ?_ fun e => ?_⟩
  · exact (World.ownsRow.lt h.d k hk).2
  · have hh : wr.heap[g]? = _ := h.g
    rw [e] at hk
    exact World.ownsRow.ne h.d hh (by decide) hk.symm
theorem AlSt.push {d : Bord} {v' : Value} (h : AlSt w g v bs m wr) (hg : wr.grownBy w' v.ownBlock) (ho : w'.ownsRow w.heap.size 69 3 v' (bs.length + 1) (flatB bs ++ [.int .i64 d.1, .int .i64 d.2.1, .string d.2.2])) : AlSt w g v' (bs ++ [d]) m w' := by
  have hh : wr.heap[g]? = _ := h.g
  exact ⟨h.x.grown hg fun k hk => (World.ownsRow.lt h.d k hk).1, h.g.keep (hg.block g h.g.lt (World.ownsRow.ne h.d hh (by decide))), GrowBd.push ho⟩
end
/-- Borders are returned, in new memory. -/
def BordsRet (w : World) (bs : List Bord) (e : Ending) (w' : World) : Prop := ∃ a c, e = .returned (.slice a bs.length c) ∧ w.Ext w' ∧ OwnBd w.heap.size w'.heap.size w' a bs
theorem Try.infoBoolA : (Try.prog.info? 4).map (fun i => (i.zero, i.size, i.bytes)) = some (some (.bool false), 1, 1) := by kernel_rfl
set_option maxRecDepth 5000 in
set_option maxHeartbeats 6400000 in
theorem l04All_any (p : Nat) (a : Option Addr) (c : Nat) (ss : List ByteArray) (w : World) (he : Even ss) (hW : picW ss ≤ 16) (hH : ss.length ≤ 16) (hp : w.cell? ⟨p, 0, none⟩ = some (.slice a ss.length c)) (hm : RowS w a ss) :
    Calls Try.prog 131 #[.pointer (some ⟨p, 0, none⟩)] w (BordsRet w (brds (pxl (picW ss) ss.length (picL ss)) (picW ss) (ss.length * picW ss))) := by
  obtain ⟨ib, hib, hb0, hb1, hb2⟩ := info_parts Try.infoBoolA
  obtain ⟨d0', hd, hy0, hy1, hy2⟩ := info_parts Try.infoBord
  have HWS : Hid (∀ w', w.Ext w' → Calls Try.prog 99 #[.pointer (some ⟨p, 0, none⟩)] w' fun e w'' => e = .returned (.int .i64 (picW ss)) ∧ w'.Ext w'') := fun w' hx => l01Width_any p a c ss w' he.1 (by omega) (by omega) (hx.cell hp) (hm.ext hx)
  have HHS : Hid (∀ w', w.Ext w' → Calls Try.prog 100 #[.pointer (some ⟨p, 0, none⟩)] w' fun e w'' => e = .returned (.int .i64 ss.length) ∧ w'.Ext w'') := fun w' hx => l01Height_any p a c ss.length w' (by omega) (hx.cell hp)
  have HCAN : Hid (∀ w', w.Ext w' → ∀ (x y : Nat), x < picW ss → y < ss.length → ∀ t, canB (pxl (picW ss) ss.length (picL ss)) x y 0 = t → Calls Try.prog 205 #[.pointer (some ⟨p, 0, none⟩), .agg #[.int .i64 x, .int .i64 y], .int .i64 0] w' fun e w'' => e = .returned (.bool t) ∧ w'.Ext w'') := fun w' hx x y h1 h2 t ht =>
    l04Can_any p a c ss x y 0 w' he (by omega) (by omega) (hx.cell hp) (hm.ext hx) (by omega) (by omega) (by omega) t ht
  have HFOL : Hid (∀ w', w.Ext w' → ∀ (x y : Nat), canB (pxl (picW ss) ss.length (picL ss)) x y 0 = true → Calls Try.prog 206 #[.pointer (some ⟨p, 0, none⟩), .agg #[.int .i64 x, .int .i64 y]] w' fun e w'' => e = .returned (.agg #[.int .i64 x, .int .i64 y, .string (wrd (pxl (picW ss) ss.length (picL ss)) ⟨(x : Int), (y : Int), 0⟩)]) ∧ w'.Ext w'') := fun w' hx x y h =>
    l04Follow_any p a c ss x y w' he hW hH (hx.cell hp) (hm.ext hx) ⟨by show 0 < 4; omega, h⟩
  have hbx : InBx (pxl (picW ss) ss.length (picL ss)) 16 16 := fun x y h => by
    have := inBx_pxl (picW ss) ss.length (picL ss) x y h
    omega
  have HAB : Hid (∀ (w' : World) (pb g cap x y : Nat) (m : Nat → Nat → Bool), canB (pxl (picW ss) ss.length (picL ss)) x y 0 = true → w'.cell? ⟨pb, 0, none⟩ = some (.int .i64 x) → w'.cell? ⟨pb, 1, none⟩ = some (.int .i64 y) → w'.cell? ⟨pb, 2, none⟩ = some (.string (wrd (pxl (picW ss) ss.length (picL ss)) ⟨(x : Int), (y : Int), 0⟩)) → BlkOf Value.bool w' g 4 (mkl 17 17 m) → pb ≠ g →
      Calls Try.prog 132 #[.pointer (some ⟨pb, 0, none⟩), .slice (some ⟨g, 0, none⟩) 289 cap] w' fun e' w'' => e' = .returned (.tuple #[]) ∧ MdSt w' g (fun i j => m i j || inOrb (pxl (picW ss) ss.length (picL ss)) ⟨(x : Int), (y : Int), 0⟩ ⟨(i : Int), (j : Int), 0⟩) w'') := fun w' pb g cap x y m h c0 c1 c2 hg hne =>
    l04Above_any pb g cap _ ⟨(x : Int), (y : Int), 0⟩ m w' hbx ⟨by show 0 < 4; omega, h⟩ c0 c1 c2 hg hne
  have HKK : Hid (∀ x y, x < picW ss → y < ss.length → y * picW ss + x < 256) := fun x y h1 h2 => by
    have := Nat.mul_le_mul (show y ≤ 15 by omega) hW
    omega
  clear hm he hp hbx
  generalize pxl (picW ss) ss.length (picL ss) = f at *
  generalize picW ss = W at *
  generalize ss.length = H at *
  obtain ⟨W0, hW0⟩ : ∃ W0, W0 = w.alloc (.cells #[] 69) := ⟨_, rfl⟩
  have HX0 : Hid (w.Ext W0) := by rw [hW0]; show w.Ext _; repeat (first | exact World.Ext.refl _ | exact ⟨_, rfl⟩ | assumption | refine World.Ext.over ?_ _ | refine World.Ext.drewN ?_ _ | refine World.Ext.drew ?_ | refine World.Ext.alloc ?_ _ | refine World.Ext.setCell ?_ (by simp) _)
  have HG0 : Hid (GrowBd w.heap.size W0 (.slice (some ⟨w.heap.size, 0, none⟩) 0 0) []) := by rw [hW0]; exact GrowBd.empty w (Nat.le_refl _)
  have C1 : Hid (ib.bytes * 289 ≤ 281474976710656) := by show _ ≤ _; rw [hb2]; omega
  have C2 : Hid (289 ≤ maxLen) := by show _ ≤ _; unfold maxLen; omega
  go_enter Try.func131, Try.ntmps131
  go_upto_region 2 with fail
  rw [← hW0]
  clear hW0
  go_wp2_with (at_make; refine wpList_make_full _ rfl _ _ 119 rfl 0 4 ib (.bool false) 1 Try.underlying119 hib hb0 hb1 .i64 .i64 _ _ 289 rfl rfl rfl rfl C1.out C2.out (Nat.zero_le _) (fun w3 hown hgrow => ?_); go_loud (have HB3 : Hid (BlkOf Value.bool w3 W0.heap.size 4 (List.replicate 289 false)) := blk_of_made (f := Value.bool) false rfl hown; have HX3 : Hid (W0.Ext w3) := World.Ext.made hgrow; clear hown hgrow))
  have HMF : Hid (∀ a b, a < 17 → b < 17 → mdB f W 0 a b = false) := fun a b _ _ => rfl
  have HST0 : Hid (AlSt w W0.heap.size (.slice (some ⟨w.heap.size, 0, none⟩) 0 0) (brds f W 0) (mdB f W 0) w3) := by
    refine ⟨HX0.out.trans HX3.out, ?_, World.ownsRow.ext HG0.out HX3.out⟩
    have h := HB3.out
    have e : mkl 17 17 (mdB f W 0) = List.replicate 289 false := mkl_false 17 17
    rw [e]
    exact h
  have HGE : Hid (w.heap.size ≤ W0.heap.size) := HX0.out.size
  have HBL := Lib.hid (fun k => brds_len f W k)
  have HNO : Hid (∀ x y : Nat, x < W → (canB f x y 0 = false ∨ mdB f W (y * W + x) x y = true) → brds f W (y * W + (x + 1)) = brds f W (y * W + x) ∧ mdB f W (y * W + (x + 1)) = mdB f W (y * W + x)) := fun x y h1 h2 => ⟨brds_no h1 h2, mdB_no h1 h2⟩
  have HYES : Hid (∀ x y : Nat, x < W → canB f x y 0 = true → mdB f W (y * W + x) x y = false → brds f W (y * W + (x + 1)) = brds f W (y * W + x) ++ [((x : Int), (y : Int), wrd f ⟨(x : Int), (y : Int), 0⟩)] ∧ ∀ a b : Nat, (mdB f W (y * W + x) a b || inOrb f ⟨(x : Int), (y : Int), 0⟩ ⟨(a : Int), (b : Int), 0⟩) = mdB f W (y * W + (x + 1)) a b) := fun x y h1 h2 h3 => ⟨brds_yes h1 h2 h3, fun a b => (mdB_yes h1 h2 h3 a b).symm⟩
  have hHH : H ≤ 16 := hH
  clear HB3 HX3 HG0 HX0 HMF
  have hgq : W0.heap.size = W0.heap.size := rfl
  generalize W0.heap.size = g at *
  clear hgq
  go_wp2
  go_loopw [3, 5, 6, 7, 8] (fun v i _ _ _ wr => ∃ y : Nat, y ≤ H ∧ i = .int .i64 y ∧ Hid (AlSt w g v (brds f W (y * W)) (mdB f W (y * W)) wr)) (fun _ i _ _ _ _ => H - (intOf i).toNat)
  case atStart => exact ⟨0, Nat.zero_le _, rfl, by rw [Nat.zero_mul]; exact HST0⟩
  case round =>
    obtain ⟨y, hy, rfl, HS⟩ := hrel
    clear HST0
    obtain ⟨wo, rfl⟩ : ∃ wo : World, wo = wr := ⟨_, rfl⟩
    by_cases hlty : y < H
    · have hlty' : (y : Int) < (H : Int) := by omega
      go_wp2_with fail
      refine (HHS.out _ HS.out.x).mono ?_
      rintro e w2 ⟨rfl, hx2⟩
      have HS2 := Lib.hid (HS.out.ext hx2)
      clear hx2 HS
      go_wp2
      go_loopw [3, 6, 7, 8] (fun v i _ _ wr => ∃ x : Nat, x ≤ W ∧ i = .int .i64 x ∧ Hid (AlSt w g v (brds f W (y * W + x)) (mdB f W (y * W + x)) wr)) (fun _ i _ _ _ => W - (intOf i).toNat)
      case atStart => exact ⟨0, Nat.zero_le _, rfl, HS2⟩
      case round =>
        obtain ⟨x, hx, rfl, HS⟩ := hrel
        clear HS2
        obtain ⟨wp, rfl⟩ : ∃ wp : World, wp = wr := ⟨_, rfl⟩
        by_cases hltx : x < W
        · have hltx' : (x : Int) < (W : Int) := by omega
          have hx0' : (0 : Int) ≤ (x : Int) := by omega
          have hy0' : (0 : Int) ≤ (y : Int) := by omega
          go_wp2_with fail
          refine (HWS.out _ HS.out.x).mono ?_
          rintro e w2 ⟨rfl, hx2⟩
          have HS2 := Lib.hid (HS.out.ext hx2)
          clear hx2 HS
          obtain ⟨w3, hw3⟩ : ∃ w3, w3 = w2.alloc (.cells #[.int .i64 x, .int .i64 y] 67) := ⟨_, rfl⟩
          have hx3 : w2.Ext w3 := by rw [hw3]; repeat (first | exact World.Ext.refl _ | exact ⟨_, rfl⟩ | assumption | refine World.Ext.over ?_ _ | refine World.Ext.drewN ?_ _ | refine World.Ext.drew ?_ | refine World.Ext.alloc ?_ _ | refine World.Ext.setCell ?_ (by simp) _)
          have d0 : w3.cell? ⟨w2.heap.size, 0, none⟩ = some (.int .i64 x) := by rw [hw3]; simp [go_sem]
          have d1 : w3.cell? ⟨w2.heap.size, 1, none⟩ = some (.int .i64 y) := by rw [hw3]; simp [go_sem]
          have HS3 := Lib.hid (HS2.out.ext hx3)
          go_upto_region 10 with fail
          rw [← hw3]
          clear hw3 hx3 HS2
          have l3 := World.block_lt_of_cell? _ _ d0
          obtain ⟨t, ht⟩ : ∃ t, canB f x y 0 = t := ⟨_, rfl⟩
          go_wp2_with fail
          refine (HCAN.out _ HS3.out.x x y hltx hlty t ht).mono ?_
          rintro e w4 ⟨rfl, hx4⟩
          have HS4 := Lib.hid (HS3.out.ext hx4)
          replace d0 := hx4.cell d0
          replace d1 := hx4.cell d1
          clear hx4 HS3 l3
          cases t
          · have HS5 : Hid (AlSt w g u3 (brds f W (y * W + (x + 1))) (mdB f W (y * W + (x + 1))) w4) := by
              show AlSt _ _ _ _ _ _
              obtain ⟨e1, e2⟩ := HNO.out x y hltx (Or.inl ht)
              rw [e1, e2]; exact HS4.out
            clear HS4 d0 d1 ht
            go_wp2
            go_roundw
            case rel => exact ⟨x + 1, by omega, by go_num, HS5⟩
            case measure => simp [intOf]; omega
          · have hx17 : x < 17 := by omega
            have hy17 : y < 17 := by omega
            have q1 : w4.cell? ⟨g, y * 17 + x, none⟩ = some (.bool (mdB f W (y * W + x) x y)) := by
              rw [HS4.out.g.cell false (by rw [mkl_len]; omega), mkl_at _ _ _ _ _ hx17 hy17]
            have lg := World.block_lt_of_cell? _ _ q1
            have ld := World.block_lt_of_cell? _ _ d0
            have HT := Lib.hid ht
            clear ht
            obtain ⟨m, hm⟩ : ∃ m, mdB f W (y * W + x) x y = m := ⟨_, rfl⟩
            rw [hm] at q1
            have HM := Lib.hid hm
            clear hm
            cases m
            · obtain ⟨e1, e2⟩ := HYES.out x y hltx HT.out HM.out
              have HE1 := Lib.hid e1
              have HE2 := Lib.hid e2
              have HWW : Hid (wrd f ⟨(x : Int), (y : Int), 0⟩ = wrd f ⟨(x : Int), (y : Int), 0⟩) := rfl
              have HFOL2 : Hid (∀ w', w.Ext w' → Calls Try.prog 206 #[.pointer (some ⟨p, 0, none⟩), .agg #[.int .i64 x, .int .i64 y]] w' fun e w'' => e = .returned (.agg #[.int .i64 x, .int .i64 y, .string (wrd f ⟨(x : Int), (y : Int), 0⟩)]) ∧ w'.Ext w'') := fun w' hx => HFOL.out w' hx x y HT.out
              have HAB2 : Hid (∀ (w' : World) (pb cap : Nat), w'.cell? ⟨pb, 0, none⟩ = some (.int .i64 x) → w'.cell? ⟨pb, 1, none⟩ = some (.int .i64 y) → w'.cell? ⟨pb, 2, none⟩ = some (.string (wrd f ⟨(x : Int), (y : Int), 0⟩)) → BlkOf Value.bool w' g 4 (mkl 17 17 (mdB f W (y * W + x))) → pb ≠ g →
                  Calls Try.prog 132 #[.pointer (some ⟨pb, 0, none⟩), .slice (some ⟨g, 0, none⟩) 289 cap] w' fun e' w'' => e' = .returned (.tuple #[]) ∧ MdSt w' g (mdB f W (y * W + (x + 1))) w'') := fun w' pb cap c0 c1 c2 hg hne => by
                have h := HAB.out w' pb g cap x y (mdB f W (y * W + x)) HT.out c0 c1 c2 hg hne
                have e : (fun i j : Nat => mdB f W (y * W + x) i j || inOrb f ⟨(x : Int), (y : Int), 0⟩ ⟨(i : Int), (j : Int), 0⟩) = mdB f W (y * W + (x + 1)) := by funext i j; exact HE2.out i j
                rw [e] at h
                exact h
              clear e1 e2 HE2 HT HM
              generalize wrd f ⟨(x : Int), (y : Int), 0⟩ = word at *
              go_wp2_with fail
              refine (HFOL2.out _ HS4.out.x).mono ?_
              rintro e w5 ⟨rfl, hx5⟩
              have HS5 := Lib.hid (HS4.out.ext hx5)
              clear hx5 HS4 d0 d1 q1 lg ld HFOL2
              obtain ⟨w6, hw6⟩ : ∃ w6, w6 = w5.alloc (.cells #[.int .i64 x, .int .i64 y, .string word] 69) := ⟨_, rfl⟩
              have hx6 : w5.Ext w6 := by rw [hw6]; repeat (first | exact World.Ext.refl _ | exact ⟨_, rfl⟩ | assumption | refine World.Ext.over ?_ _ | refine World.Ext.drewN ?_ _ | refine World.Ext.drew ?_ | refine World.Ext.alloc ?_ _ | refine World.Ext.setCell ?_ (by simp) _)
              have d0 : w6.cell? ⟨w5.heap.size, 0, none⟩ = some (.int .i64 x) := by rw [hw6]; simp [go_sem]
              have d1 : w6.cell? ⟨w5.heap.size, 1, none⟩ = some (.int .i64 y) := by rw [hw6]; simp [go_sem]
              have d2 : w6.cell? ⟨w5.heap.size, 2, none⟩ = some (.string word) := by rw [hw6]; simp [go_sem]
              have HS6 := Lib.hid (HS5.out.ext hx6)
              have HNE : Hid (w5.heap.size ≠ g) := fun e => by have := HS5.out.g.lt; omega
              go_upto_region 12 with fail
              rw [← hw6]
              clear hw6 hx6 HS5
              have l6 := World.block_lt_of_cell? _ _ d0
              go_wp2_with fail
              refine (HAB2.out w6 _ _ d0 d1 d2 HS6.out.g HNE.out).mono ?_
              rintro e w7 ⟨rfl, hmd⟩
              have HS7 := Lib.hid (AlSt.marked HS6.out HGE.out hmd)
              replace d0 := hmd.1.cell d0 HNE.out
              replace d1 := hmd.1.cell d1 HNE.out
              replace d2 := hmd.1.cell d2 HNE.out
              clear hmd HS6 HAB2 l6
              have l7 := World.block_lt_of_cell? _ _ d0
              have HB1 : Hid ((brds f W (y * W + x)).length + 1 ≤ maxLen) := by show _ ≤ _; have h1 := HBL.out (y * W + x); have h2 := HKK.out x y hltx hlty; unfold maxLen; omega
              have HB2 : Hid (((brds f W (y * W + x)).length + 1) * 32 ≤ 140737488355328) := by show _ ≤ _; have h1 := HBL.out (y * W + x); have h2 := HKK.out x y hltx hlty; omega
              have HNEXT : Hid (∀ (o : Obj) (v' : Value) (w8 : World), (w7.alloc o).grownBy w8 u3.ownBlock → w8.ownsRow w.heap.size 69 3 v' ((brds f W (y * W + x)).length + 1) (flatB (brds f W (y * W + x)) ++ [.int .i64 x, .int .i64 y, .string word]) → Hid (AlSt w g v' (brds f W (y * W + (x + 1))) (mdB f W (y * W + (x + 1))) w8)) := fun o v' w8 hgrow hown' => by
                show AlSt _ _ _ _ _ _
                rw [HE1.out]
                exact (HS7.out.ext (by repeat (first | exact World.Ext.refl _ | exact ⟨_, rfl⟩ | assumption | refine World.Ext.over ?_ _ | refine World.Ext.drewN ?_ _ | refine World.Ext.drew ?_ | refine World.Ext.alloc ?_ _ | refine World.Ext.setCell ?_ (by simp) _))).push (d := ((x : Int), (y : Int), word)) hgrow hown'
              have hown := HS7.out.d
              unfold GrowBd at hown
              have HLE : ∀ o' : Obj, w.heap.size ≤ (w7.alloc o').heap.size := fun o' => (HS7.out.x.alloc o').size
              clear HS7 HE1
              generalize brds f W (y * W + x) = bs at *
              go_wp2_with (at_builtin; refine wpList_append_own _ rfl _ _ 76 rfl w.heap.size 69 d0' (.agg #[.int .i64 0, .int .i64 0, .string ⟨#[]⟩]) 3 32 Try.underlying76 hd hy0 hy1 hy2 rfl (by decide) _ _ _ rfl (hown.alloc _) ⟨w7.heap.size, 0, none⟩ 1 1 [.int .i64 x, .int .i64 y, .string word] rfl rfl (cell3_at (by simp)) (by simp [Value.oneCell']) HB1.out HB2.out (HLE _) (fun v' w8 hown' hgrow _ => ?_); have HS9 := HNEXT.out _ _ _ hgrow hown'; clear hgrow hown' hown)
              go_roundw
              case rel => exact ⟨x + 1, by omega, by go_num, HS9⟩
              case measure => simp [intOf]; omega
            · have HS5 : Hid (AlSt w g u3 (brds f W (y * W + (x + 1))) (mdB f W (y * W + (x + 1))) w4) := by
                show AlSt _ _ _ _ _ _
                obtain ⟨e1, e2⟩ := HNO.out x y hltx (Or.inr HM.out)
                rw [e1, e2]; exact HS4.out
              clear HS4 d0 d1 HT HM
              go_wp2
              go_roundw
              case rel => exact ⟨x + 1, by omega, by go_num, HS5⟩
              case measure => simp [intOf]; omega
        · have : x = W := by omega
          subst this
          go_wp2_with fail
          refine (HWS.out _ HS.out.x).mono ?_
          rintro e w2 ⟨rfl, hx2⟩
          have HS2 := Lib.hid (HS.out.ext hx2)
          clear hx2 HS
          go_wp2
          go_roundw
          case rel => exact ⟨y + 1, by omega, by go_num, by rw [Nat.succ_mul]; exact HS2⟩
          case measure => simp [intOf]; omega
    · have : y = H := by omega
      subst this
      go_wp2_with fail
      refine (HHS.out _ HS.out.x).mono ?_
      rintro e w2 ⟨rfl, hx2⟩
      have HS2 := Lib.hid (HS.out.ext hx2)
      clear hx2 HS
      obtain ⟨a9, c9, hu3, _⟩ := World.ownsRow.form HS2.out.d
      subst hu3
      have HS9 : Hid (BordsRet w (brds f W (y * W)) (.returned (.slice a9 (brds f W (y * W)).length c9)) w2) := ⟨a9, c9, rfl, HS2.out.x, GrowBd.own HS2.out.d⟩
      go_wp2
      go_ret
      exact HS9.out
end Go.Proofs.Ytahhnjoeaodcjaa
