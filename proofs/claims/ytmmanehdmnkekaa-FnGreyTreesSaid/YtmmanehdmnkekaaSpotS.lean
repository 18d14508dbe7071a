/- The reference's black spots, edge, lists of pixels, and what it makes of them. -/
import Derived.Test.YtmmanehdmnkekaaRchS
namespace Go.Proofs.Ytmmanehdmnkekaa
open Go.RowKit
/-- Those of the first k pixels that meet a condition. -/
def spotsBy (W : Nat) (P : Nat → Nat → Bool) (k : Nat) : List (Int × Int) := ((List.range k).filter fun i => P (i % W) (i / W)).map fun i => (((i % W : Nat) : Int), ((i / W : Nat) : Int))
theorem spotsBy_no {W : Nat} {P : Nat → Nat → Bool} {x y : Nat} (hx : x < W) (h : P x y = false) : spotsBy W P (y * W + (x + 1)) = spotsBy W P (y * W + x) := by
  have e1 : (y * W + x) % W = x := by rw [Nat.mul_comm, Nat.mul_add_mod, Nat.mod_eq_of_lt hx]
  have e2 : (y * W + x) / W = y := by rw [Nat.mul_comm, Nat.mul_add_div (by omega), Nat.div_eq_of_lt hx]; rfl
  unfold spotsBy
  rw [← Nat.add_assoc, List.range_succ, List.filter_append, List.filter_cons_of_neg (by rw [e1, e2, h]; decide), List.filter_nil, List.append_nil]
theorem spotsBy_yes {W : Nat} {P : Nat → Nat → Bool} {x y : Nat} (hx : x < W) (h : P x y = true) : spotsBy W P (y * W + (x + 1)) = spotsBy W P (y * W + x) ++ [((x : Int), (y : Int))] := by
  have e1 : (y * W + x) % W = x := by rw [Nat.mul_comm, Nat.mul_add_mod, Nat.mod_eq_of_lt hx]
  have e2 : (y * W + x) / W = y := by rw [Nat.mul_comm, Nat.mul_add_div (by omega), Nat.div_eq_of_lt hx]; rfl
  unfold spotsBy
  rw [← Nat.add_assoc, List.range_succ, List.filter_append, List.map_append, List.filter_cons_of_pos (by rw [e1, e2, h]), List.filter_nil, List.map_cons, e1, e2]
  rfl
theorem spotsBy_len (W : Nat) (P : Nat → Nat → Bool) (k : Nat) : (spotsBy W P k).length ≤ k := by
  unfold spotsBy
  rw [List.length_map]
  exact Nat.le_trans (List.length_filter_le _ _) (by simp)
theorem spotsBy_mem {W H : Nat} {P : Nat → Nat → Bool} {q : Int × Int} : q ∈ spotsBy W P (H * W) ↔ ∃ x y : Nat, x < W ∧ y < H ∧ P x y = true ∧ q = ((x : Int), (y : Int)) := by
  unfold spotsBy
  rw [List.mem_map]
  constructor
  · rintro ⟨k, hk, rfl⟩
    obtain ⟨h1, h2⟩ := List.mem_filter.1 hk
    have hk' : k < H * W := by simpa using h1
    have hW0 : 0 < W := by
      rcases Nat.eq_zero_or_pos W with e | e
      · rw [e] at hk'; simp at hk'
      · exact e
    exact ⟨k % W, k / W, Nat.mod_lt _ hW0, Nat.div_lt_of_lt_mul (by rw [Nat.mul_comm]; exact hk'), h2, rfl⟩
  · rintro ⟨x, y, hx, hy, hP, rfl⟩
    have e1 : (y * W + x) % W = x := by rw [Nat.mul_comm, Nat.mul_add_mod, Nat.mod_eq_of_lt hx]
    have e2 : (y * W + x) / W = y := by rw [Nat.mul_comm, Nat.mul_add_div (by omega), Nat.div_eq_of_lt hx]; rfl
    refine ⟨y * W + x, List.mem_filter.2 ⟨?_, by rw [e1, e2]; exact hP⟩, by rw [e1, e2]⟩
    have := Nat.mul_le_mul_right W (show y + 1 ≤ H by omega)
    rw [Nat.add_mul] at this
    simp
    omega
/-- Black spots are those that are black. -/
theorem spotsTo_by (W H : Nat) (l : List Bool) : spotsTo W l (H * W) = spotsBy W (fun x y => l.getD (y * W + x) false) (H * W) := by
  unfold spotsTo spotsBy
  congr 1
  refine List.filter_congr fun i hi => ?_
  have : i / W * W + i % W = i := by rw [Nat.mul_comm]; exact Nat.div_add_mod i W
  show _ = l.getD (i / W * W + i % W) false
  rw [this]
theorem spotsTo_mem {W H : Nat} {l : List Bool} {q : Int × Int} : q ∈ spotsTo W l (H * W) ↔ pxP W H l q = true := by
  rw [spotsTo_by, spotsBy_mem]
  constructor
  · rintro ⟨x, y, hx, hy, hP, rfl⟩
    unfold pxP
    rw [pxl_at _ _ _ _ _ hx hy]
    exact hP
  · intro h
    obtain ⟨x, y, rfl, hx, hy⟩ := pxP_nat h
    unfold pxP at h
    rw [pxl_at _ _ _ _ _ hx hy] at h
    exact ⟨x, y, hx, hy, h, rfl⟩
def edgeB (W H x y : Nat) : Bool := x == 0 || y == 0 || x == W - 1 || y == H - 1
set_option maxRecDepth 5000 in
set_option maxHeartbeats 1600000 in
theorem l01Spots_any (p : Nat) (a : Option Addr) (c : Nat) (ss : List ByteArray) (w : World) (he : Even ss) (hW : picW ss ≤ 64) (hH : ss.length ≤ 64)
    (hp : w.cell? ⟨p, 0, none⟩ = some (.slice a ss.length c)) (hm : RowS w a ss) :
    Calls Try.prog 244 #[.pointer (some ⟨p, 0, none⟩)] w (PairsRet w (spotsTo (picW ss) (picL ss) (ss.length * picW ss))) := by
  obtain ⟨i0, hi, hz0, hz1, hz2⟩ := info_parts Try.infoSpotA
  have HWS : Hid (∀ w', w.Ext w' → Calls Try.prog 212 #[.pointer (some ⟨p, 0, none⟩)] w' fun e w'' => e = .returned (.int .i64 (picW ss)) ∧ w'.Ext w'') := fun w' hx => l01Width_any p a c ss w' he.1 (by omega) (by omega) (hx.cell hp) (RowOf.ext hm hx)
  have HHS : Hid (∀ w', w.Ext w' → Calls Try.prog 211 #[.pointer (some ⟨p, 0, none⟩)] w' fun e w'' => e = .returned (.int .i64 ss.length) ∧ w'.Ext w'') := fun w' hx => l01Height_any p a c ss.length w' (by omega) (hx.cell hp)
  have HBL : Hid (∀ w', w.Ext w' → ∀ x y : Nat, x < picW ss → y < ss.length → Calls Try.prog 194 #[.pointer (some ⟨p, 0, none⟩), .int .i64 x, .int .i64 y] w' fun e w'' => e = .returned (.bool ((picL ss).getD (y * picW ss + x) false)) ∧ w'.Ext w'') := fun w' hx x y h1 h2 => l01Black_any p a c ss x y w' he (by omega) (by omega) (hx.cell hp) (RowOf.ext hm hx) _ (pxl_at _ _ _ _ _ h1 h2)
  rw [spotsTo_by]
  clear hm he hp
  generalize picL ss = L at *
  generalize picW ss = W at *
  generalize ss.length = H at *
  obtain ⟨C, hC⟩ : ∃ C : Nat → Nat → Bool, C = fun x y => L.getD (y * W + x) false := ⟨_, rfl⟩
  have HC0 : Hid (∀ x y, L.getD (y * W + x) false = C x y) := fun x y => by rw [hC]
  rw [← hC]
  clear hC
  have HLEN : Hid (∀ k, (spotsBy W C k).length ≤ k) := spotsBy_len W C
  have HNO : Hid (∀ x y : Nat, x < W → C x y = false → spotsBy W C (y * W + (x + 1)) = spotsBy W C (y * W + x)) := fun x y h1 h2 => spotsBy_no h1 h2
  have HYES : Hid (∀ x y : Nat, x < W → C x y = true → spotsBy W C (y * W + (x + 1)) = spotsBy W C (y * W + x) ++ [((x : Int), (y : Int))]) := fun x y h1 h2 => spotsBy_yes h1 h2
  generalize hFe : spotsBy W C = F at *
  have hF0 : F 0 = [] := by rw [← hFe]; rfl
  clear hFe
  have HST : Hid (ArSt w (.slice (some ⟨w.heap.size, 0, none⟩) 0 0) (F 0) (w.alloc (.cells #[] 58))) := by show ArSt _ _ _ _; rw [hF0]; exact ⟨by repeat (first | exact World.Ext.refl _ | exact ⟨_, rfl⟩ | assumption | refine World.Ext.over ?_ _ | refine World.Ext.drewN ?_ _ | refine World.Ext.drew ?_ | refine World.Ext.alloc ?_ _ | refine World.Ext.setCell ?_ (by simp) _), GrowP.empty (e := 58) w (Nat.le_refl _)⟩
  clear hF0
  have HKK : Hid (∀ x y : Nat, x < W → y < H → y * W + x < 4096) := fun x y h1 h2 => by
    have h5 : y * W ≤ 63 * 64 := Nat.mul_le_mul (by omega) hW
    omega
  go_enter Try.func244, Try.ntmps244
  go_wp2
  go_loopw [3, 4, 5] (fun v m _ wr => ∃ y : Nat, y ≤ H ∧ m = .int .i64 y ∧ Hid (ArSt w v (F (y * W)) wr)) (fun _ m _ _ => H - (intOf m).toNat)
  case atStart => exact ⟨0, Nat.zero_le _, rfl, by rw [Nat.zero_mul]; exact HST⟩
  case round =>
    obtain ⟨y, hy, rfl, HS⟩ := hrel
    clear HST
    obtain ⟨wo, rfl⟩ : ∃ wo : World, wo = wr := ⟨_, rfl⟩
    by_cases hlty : y < H
    · have hlty' : (y : Int) < (H : Int) := by omega
      go_wp2_with fail
      refine (HHS.out _ HS.out.1).mono ?_
      rintro e w1 ⟨rfl, hx1⟩
      have HS1 := Lib.hid (HS.out.ext hx1)
      clear hx1 HS
      go_wp2
      go_loopw [3, 5] (fun v m wr => ∃ x : Nat, x ≤ W ∧ m = .int .i64 x ∧ Hid (ArSt w v (F (y * W + x)) wr)) (fun _ m _ => W - (intOf m).toNat)
      case atStart => exact ⟨0, Nat.zero_le _, rfl, HS1⟩
      case round =>
        obtain ⟨x, hx, rfl, HS⟩ := hrel
        clear HS1
        obtain ⟨wp, rfl⟩ : ∃ wp : World, wp = wr := ⟨_, rfl⟩
        by_cases hltx : x < W
        · have hltx' : (x : Int) < (W : Int) := by omega
          go_wp2_with fail
          refine (HWS.out _ HS.out.1).mono ?_
          rintro e w2 ⟨rfl, hx2⟩
          have HS2 := Lib.hid (HS.out.ext hx2)
          clear hx2 HS
          have HC := Lib.hid (fun w' hx => HBL.out w' hx x y hltx hlty)
          rw [HC0.out] at HC
          cases hb : C x y
          · rw [hb] at HC
            have HN := Lib.hid (HNO.out x y hltx hb)
            clear hb
            go_wp2_with fail
            refine (HC.out _ HS2.out.1).mono ?_
            rintro e w3 ⟨rfl, hx3⟩
            have HS3 := HS2.out.ext hx3
            rw [← HN.out] at HS3
            replace HS3 := Lib.hid HS3
            clear hx3 HS2 HN HC
            go_wp2
            go_roundw
            case rel => exact ⟨x + 1, by omega, by go_num, HS3⟩
            case measure => simp [intOf]; omega
          · rw [hb] at HC
            have HQ := Lib.hid (HYES.out x y hltx hb)
            have HB1 : Hid ((F (y * W + x)).length + 1 ≤ maxLen) := by show _ ≤ _; have h1 := HLEN.out (y * W + x); have h2 := HKK.out x y hltx hlty; unfold maxLen; omega
            have HB2 : Hid (((F (y * W + x)).length + 1) * 16 ≤ 140737488355328) := by show _ ≤ _; have h1 := HLEN.out (y * W + x); have h2 := HKK.out x y hltx hlty; omega
            clear hb
            go_wp2_with fail
            refine (HC.out _ HS2.out.1).mono ?_
            rintro e w3 ⟨rfl, hx3⟩
            have HS3 := Lib.hid (HS2.out.ext hx3)
            clear hx3 HS2 HC
            have HNEXT : Hid (∀ (o : Obj) (v' : Value) (w1 : World), (w3.alloc o).grownBy w1 u3.ownBlock → w1.ownsRow w.heap.size 58 2 v' ((F (y * W + x)).length + 1) ((flatP (F (y * W + x))).map (Value.int .i64) ++ [.int .i64 x, .int .i64 y]) → Hid (ArSt w v' (F (y * W + (x + 1))) w1)) := fun o v' w1 hgrow hown' => ArSt.next HS3.out HQ.out hgrow hown'
            have hown := HS3.out.2
            unfold GrowP at hown
            have HLE : ∀ o' : Obj, w.heap.size ≤ (w3.alloc o').heap.size := fun o' => (HS3.out.1.alloc o').size
            clear HS3 HQ
            generalize F (y * W + x) = ps at *
            go_wp2_with (at_builtin; refine wpList_append_own _ rfl _ _ 55 rfl w.heap.size 58 i0 (.agg #[.int .i64 0, .int .i64 0]) 2 16 Try.underlying55 hi hz0 hz1 hz2 rfl (by decide) _ _ _ rfl (hown.alloc _) ⟨w3.heap.size, 0, none⟩ 1 1 [.int .i64 x, .int .i64 y] rfl rfl (cell_two_at (by simp)) (by simp [Value.oneCell']) HB1.out HB2.out (HLE _) (fun v' w1 hown' hgrow _ => ?_); have HS9 := HNEXT.out _ _ _ hgrow hown'; clear hgrow hown' hown)
            go_roundw
            case rel => exact ⟨x + 1, by omega, by go_num, HS9⟩
            case measure => simp [intOf]; omega
        · have : x = W := by omega
          subst this
          go_wp2_with fail
          refine (HWS.out _ HS.out.1).mono ?_
          rintro e w2 ⟨rfl, hx2⟩
          have HS2 := Lib.hid (HS.out.ext hx2)
          clear hx2 HS
          go_wp2
          go_roundw
          case rel => exact ⟨y + 1, by omega, by go_num, by rw [Nat.succ_mul]; exact HS2⟩
          case measure => simp [intOf]; omega
    · have : y = H := by omega
      subst this
      go_wp2_with fail
      refine (HHS.out _ HS.out.1).mono ?_
      rintro e w1 ⟨rfl, hx1⟩
      have HR := Lib.hid (GrowP.ret (HS.out.ext hx1).1 (HS.out.ext hx1).2)
      clear hx1 HS
      go_wp2
      go_ret
      exact HR.out
end Go.Proofs.Ytmmanehdmnkekaa
