/- The program's elements out of offsets: sorted, and no two the same. -/
import Derived.Test.YtelaoimcaidoiaaSrA
import Derived.Test.YtelaoimcaidoiaaMor
import Derived.Test.YtelaoimcaidoiaaRowK
namespace Go.Proofs.Ytelaoimcaidoiaa
open Go Go.RowKit
/-- In order, no two the same. -/
def Incr (ps : List (Int × Int)) : Prop := ps.Pairwise fun a b => ordJ a b < 0
theorem ordJ_irr (a : Int × Int) : ¬ ordJ a a < 0 := by rw [ordJ_neg]; omega
theorem ordJ_trans {a b c : Int × Int} (h : ordJ a b < 0) (h' : ordJ b c < 0) : ordJ a c < 0 := by rw [ordJ_neg] at *; omega
theorem ordJ_tot {a b : Int × Int} (h : ¬ ordJ b a < 0) (hn : a ≠ b) : ordJ a b < 0 := by
  rw [ordJ_neg] at *
  have : ¬ (a.1 = b.1 ∧ a.2 = b.2) := fun e => hn (Prod.ext e.1 e.2)
  omega
theorem incr_unique : ∀ (a b : List (Int × Int)), Incr a → Incr b → (∀ d, d ∈ a ↔ d ∈ b) → a = b
  | [], [], _, _, _ => rfl
  | [], b :: bl, _, _, h => by have := (h b).2 (by simp); cases this
  | a :: al, [], _, _, h => by have := (h a).1 (by simp); cases this
  | a :: al, b :: bl, ha, hb, h => by
    unfold Incr at ha hb
    rw [List.pairwise_cons] at ha hb
    have e : a = b := by
      have h1 := (h a).1 (by simp)
      have h2 := (h b).2 (by simp)
      rw [List.mem_cons] at h1 h2
      rcases h1 with h1 | h1
      · exact h1
      · rcases h2 with h2 | h2
        · exact h2.symm
        · exact absurd (ordJ_trans (ha.1 b h2) (hb.1 a h1)) (ordJ_irr _)
    subst e
    rw [incr_unique al bl ha.2 hb.2 fun d => ⟨fun hd => ?_, fun hd => ?_⟩]
    · have := (h d).1 (by simp [hd])
      rw [List.mem_cons] at this
      rcases this with rfl | this
      · exact absurd (ha.1 _ hd) (ordJ_irr _)
      · exact this
    · have := (h d).2 (by simp [hd])
      rw [List.mem_cons] at this
      rcases this with rfl | this
      · exact absurd (hb.1 _ hd) (ordJ_irr _)
      · exact this
theorem Incr.nodup {ps : List (Int × Int)} (h : Incr ps) : ps.Nodup := List.Pairwise.imp (fun {a b} h e => by subst e; exact ordJ_irr _ h) h
theorem incr_of_sorted {qs : List (Int × Int)} (h : qs.Pairwise fun a b => ltOf ordJ b a = false) (hn : qs.Nodup) : Incr qs := by
  have h2 := List.Pairwise.and h hn
  refine List.Pairwise.imp (fun {a b} hh => ?_) h2
  obtain ⟨h3, h4⟩ := hh
  unfold ltOf at h3
  rw [decide_eq_false_iff_not] at h3
  exact ordJ_tot h3 h4
theorem sorted_incr {ps qs : List (Int × Int)} (hp : Incr ps) (hq : qs.Perm ps) (hs : qs.Pairwise fun a b => ltOf ordJ b a = false) : qs = ps :=
  incr_unique _ _ (incr_of_sorted hs (hq.nodup_iff.2 hp.nodup)) hp fun _ => hq.mem_iff
theorem incr_at {ps : List (Int × Int)} (h : Incr ps) {i j : Nat} (hij : i < j) (hj : j < ps.length) : ordJ (ps.getD i (0, 0)) (ps.getD j (0, 0)) < 0 := by
  unfold Incr at h
  rw [List.pairwise_iff_getElem] at h
  have := h i j (by omega) hj hij
  rw [List.getD_eq_getElem?_getD, List.getD_eq_getElem?_getD, List.getElem?_eq_getElem hj, List.getElem?_eq_getElem (show i < ps.length by omega)]
  exact this
@[go_sem] theorem Try.eqSpotE (a b c d : Int) (w : World) : (Op.equalIn 10000 33 (.agg #[.int .i64 a, .int .i64 b]) (.agg #[.int .i64 c, .int .i64 d])).run Try.prog w = .ok (a == c && b == d) w := by
  have u3 := Try.underlying2
  have hS : Try.prog.underlying 33 = some (.struct (Try.prog.fieldsOf 33)) := by kernel_rfl
  have hp : Try.prog.stoodInHeld 33 = false := by kernel_rfl
  rw [show (10000 : Nat) = 9999 + 1 from rfl, run_equalIn_agg w 9999 33 _ _ hS hp]
  simp only [Program.fieldsOf, Try.underlying33]
  go_simp
  by_cases h1 : a = c <;> by_cases h2 : b = d <;> simp [h1, h2]
set_option maxRecDepth 5000 in
set_option maxHeartbeats 800000 in
theorem compactS_any (a : Option Addr) (c : Nat) (ps : List (Int × Int)) (w : World) (hn : ps.length ≤ 1048576) (hi : Incr ps) (hm : RowP w a ps) :
    Calls Try.prog 28 #[.slice a ps.length c] w fun e w' => e = .returned (.slice a ps.length c) ∧ w.Ext w' := by
  have HM := Lib.hid hm
  have HI := Lib.hid (fun i j (h : i < j) (h' : j < ps.length) => incr_at hi h h')
  clear hi hm
  by_cases h2 : ps.length < 2
  · have h2' : (ps.length : Int) < 2 := by omega
    clear HM HI
    generalize ps.length = n at *
    go_enter Try.func28, Try.ntmps28
    go_wp2
    go_ret
    exact ⟨rfl, .refl _⟩
  · have h2' : ¬ (ps.length : Int) < 2 := by omega
    obtain ⟨n, hnn⟩ : ∃ n, n = ps.length := ⟨_, rfl⟩
    have HNN := Lib.hid hnn
    rw [← hnn] at h2 h2' hn
    rw [← hnn]
    clear hnn
    go_enter Try.func28, Try.ntmps28
    go_wp2
    go_loopw [3] (fun i wr => ∃ j : Nat, j + 1 ≤ n ∧ i = .int .i64 ((j + 1 : Nat) : Int) ∧ Hid (w.Ext wr)) (fun i _ => n - (intOf i).toNat)
    case atStart => exact ⟨0, by omega, rfl, .refl _⟩
    case round =>
      obtain ⟨j, hj, rfl, HX⟩ := hrel
      by_cases hlt : j + 1 < n
      · have hlt' : ((j + 1 : Nat) : Int) < (n : Int) := by omega
        have hj1 : (0 : Int) ≤ ((j + 1 : Nat) : Int) := by omega
        have hj0 : (0 : Int) ≤ (j : Int) := by omega
        have hjl : (j : Int) < (n : Int) := by omega
        obtain ⟨b, o, rfl, c0, c1⟩ := RowP.at (RowOf.ext HM.out HX.out : RowP wr a ps) (show j + 1 < ps.length by rw [← HNN.out]; exact hlt)
        obtain ⟨b', o', hbo, d0, d1⟩ := RowP.at (RowOf.ext HM.out HX.out : RowP wr (some ⟨b, o, none⟩) ps) (show j < ps.length by rw [← HNN.out]; omega)
        cases hbo
        have hw1 : IntKind.i64.wrap (((j + 1 : Nat) : Int) - 1) = (j : Int) := by rw [IntWalk.i64_in _ (by omega)]; omega
        have hord := HI.out j (j + 1) (by omega) (by rw [← HNN.out]; exact hlt)
        generalize ps.getD (j + 1) (0, 0) = q at c0 c1 hord
        generalize ps.getD j (0, 0) = r at d0 d1 hord
        obtain ⟨x, y⟩ := q
        obtain ⟨x2, y2⟩ := r
        dsimp only at c0 c1 d0 d1
        have HW1 := Lib.hid hw1
        by_cases h1 : x = x2
        · have h3 : ¬ y = y2 := by rw [ordJ_neg] at hord; simp only at hord; omega
          clear hord
          go_wp2_with fail
          refine wp_region_over_lit (by kernel_rfl) (by kernel_rfl) ?_; (repeat (go_big_quiet_step (fail))); refine wpQuiet_nil ?_; rintro _ ⟨x1, rfl⟩
          have HX1 : Hid (w.Ext (wr.over x1)) := HX.out.trans ⟨x1, rfl⟩
          clear c0 c1 d0 d1 HX
          go_wp2
          go_roundw
          case rel => exact ⟨j + 1, by omega, by go_num, HX1⟩
          case measure => simp [intOf]; omega
        · clear hord
          go_wp2_with fail
          refine wp_region_over_lit (by kernel_rfl) (by kernel_rfl) ?_; (repeat (go_big_quiet_step (fail))); refine wpQuiet_nil ?_; rintro _ ⟨x1, rfl⟩
          have HX1 : Hid (w.Ext (wr.over x1)) := HX.out.trans ⟨x1, rfl⟩
          clear c0 c1 d0 d1 HX
          go_wp2
          go_roundw
          case rel => exact ⟨j + 1, by omega, by go_num, HX1⟩
          case measure => simp [intOf]; omega
      · have hnl : ¬ ((j + 1 : Nat) : Int) < (n : Int) := by omega
        go_wp2
        go_ret
        exact ⟨rfl, HX.out⟩
/-- The offsets of a square. -/
def sqL (n : Nat) : List (Int × Int) := (List.range (n * n)).map fun k => (((k % n : Nat) : Int), ((k / n : Nat) : Int))
theorem sqL_len (n : Nat) : (sqL n).length = n * n := by simp [sqL]
theorem sqL_take {n x y : Nat} (hx : x < n) (hy : y < n) : (sqL n).take (y * n + (x + 1)) = (sqL n).take (y * n + x) ++ [((x : Int), (y : Int))] := by
  have hlt : y * n + x < n * n := by
    have := Nat.mul_le_mul_right n (show y + 1 ≤ n by omega)
    rw [Nat.succ_mul] at this
    omega
  unfold sqL
  rw [← List.map_take, ← List.map_take, List.take_range, List.take_range, Nat.min_eq_left (by omega), Nat.min_eq_left (by omega), ← Nat.add_assoc, List.range_succ, List.map_append]
  congr 1
  simp only [List.map_cons, List.map_nil]
  rw [show (y * n + x) % n = x by rw [Nat.mul_comm, Nat.mul_add_mod, Nat.mod_eq_of_lt hx], show (y * n + x) / n = y by rw [Nat.mul_comm, Nat.mul_add_div (by omega), Nat.div_eq_of_lt hx]; rfl]
theorem sqL_incr (n : Nat) : Incr (sqL n) := by
  unfold Incr sqL
  rw [List.pairwise_map]
  refine List.Pairwise.imp (fun {a b} h => ?_) List.pairwise_lt_range
  rw [ordJ_neg]
  simp only
  have h1 := Nat.div_add_mod a n
  have h2 := Nat.div_add_mod b n
  have h3 : a / n ≤ b / n := Nat.div_le_div_right (Nat.le_of_lt h)
  rcases Nat.lt_or_ge (a / n) (b / n) with h4 | h4
  · left; omega
  · right
    have e : a / n = b / n := by omega
    rw [e] at h1 ⊢
    refine ⟨rfl, ?_⟩
    omega
theorem sqL_ok : ∀ n, 1 ≤ n → n ≤ 5 → elemOk (sqL n) = true := by
  intro n h1 h5
  rcases n with _ | _ | _ | _ | _ | _ | n
  · omega
  · decide
  · decide
  · decide
  · decide
  · decide
  · omega
section
variable {w w0 w1 w2 : World} {r : Option Nat}
theorem grownBy_pre (hx : w.Ext w0) (h : w0.grownBy w1 r) : w.grownBy w1 r :=
  ⟨by rw [h.os, (hx.wrote fun _ => False).os], by rw [h.tape, (hx.wrote fun _ => False).tape], by rw [h.output, (hx.wrote fun _ => False).output], Nat.le_trans hx.size h.size, fun k hk hne => by rw [h.block k (Nat.lt_of_lt_of_le hk hx.size) hne, hx.block hk]⟩
theorem grownBy_more (h : w.grownBy w1 r) (hx : w1.Ext w2) : w.grownBy w2 r :=
  ⟨by rw [(hx.wrote fun _ => False).os, h.os], by rw [(hx.wrote fun _ => False).tape, h.tape], by rw [(hx.wrote fun _ => False).output, h.output], Nat.le_trans h.size hx.size, fun k hk hne => by rw [hx.block (Nat.lt_of_lt_of_le hk h.size), h.block k hk hne]⟩
theorem grownBy_set (h : w.grownBy w1 r) {p : Addr} (hp : w.heap.size ≤ p.block) (v : Value) : w.grownBy (w1.setCell p v) r :=
  ⟨h.os, h.tape, h.output, by simp; exact h.size, fun k hk hne => by rw [Below.heap_setCell _ _ _ _ (by omega), h.block k hk hne]⟩
theorem grownBy_trans (h : w.grownBy w1 r) (k : w1.grownBy w2 r) : w.grownBy w2 r :=
  ⟨by rw [k.os, h.os], by rw [k.tape, h.tape], by rw [k.output, h.output], Nat.le_trans h.size k.size, fun i hi hne => by rw [k.block i (Nat.lt_of_lt_of_le hi h.size) hne, h.block i hi hne]⟩
end
theorem Try.infoSpotM2 : (Try.prog.info? 33).map (fun i => (i.zero, i.size, i.bytes)) = some (some (.agg #[.int .i64 0, .int .i64 0]), 2, 16) := by kernel_rfl
def ElRet (w : World) (ps : List (Int × Int)) (e : Ending) (w' : World) : Prop := ∃ a c, e = .returned (.tuple #[.agg #[.slice a ps.length c], .bool true]) ∧ w.Ext w' ∧ OwnP w.heap.size w'.heap.size w' a ps
end Go.Proofs.Ytelaoimcaidoiaa
