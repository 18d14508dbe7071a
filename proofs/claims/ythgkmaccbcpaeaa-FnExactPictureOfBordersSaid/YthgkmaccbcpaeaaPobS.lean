/- Borders that are given: whether one is right, the reference's. -/
import Derived.Test.YthgkmaccbcpaeaaPobR
namespace Go.Proofs.Ythgkmaccbcpaeaa
open Go Go.RowKit
def mI (x y : Int) (s : ByteArray) (i c b : Nat) : Bool := (List.range i).any fun j => decide (gE x y s j = ⟨((c / 4 : Nat) : Int), (b : Int), c % 4⟩)
theorem mI_succ (x y : Int) (s : ByteArray) (i c b : Nat) : mI x y s (i + 1) c b = (mI x y s i c b || decide (gE x y s i = ⟨((c / 4 : Nat) : Int), (b : Int), c % 4⟩)) := by
  unfold mI
  rw [List.range_succ, List.any_append]
  simp
theorem mI_at {x y : Int} {s : ByteArray} (i a b k : Nat) (hk : k < 4) : mI x y s i (a * 4 + k) b = (List.range i).any fun j => decide (gE x y s j = ⟨(a : Int), (b : Int), k⟩) := by
  unfold mI
  rw [show (a * 4 + k) / 4 = a by omega, show (a * 4 + k) % 4 = k by omega]
theorem stepR_iff {x y : Int} {s : ByteArray} {i : Nat} : stepR x y s i ↔ inC (gX x s i) (gY y s i) ∧ ((List.range i).any fun j => decide (gE x y s j = gE x y s i)) = false ∧ (stN s ((i + s.size - 1) % s.size) + 2) % 4 ≠ stN s i := by
  unfold stepR
  refine and_congr Iff.rfl (and_congr ?_ Iff.rfl)
  rw [List.any_eq_false]
  exact ⟨fun h j hj => by simp [h j (List.mem_range.1 hj)], fun h j hj => by simpa using h j (List.mem_range.2 hj)⟩
set_option maxRecDepth 20000 in
set_option maxHeartbeats 6400000 in
theorem l04IsG_any (pb po : Nat) (ex ey : Int) (word : ByteArray) (w : World)
    (c0 : w.cell? ⟨pb, po, none⟩ = some (.int .i64 ex)) (c1 : w.cell? ⟨pb, po + 1, none⟩ = some (.int .i64 ey)) (c2 : w.cell? ⟨pb, po + 2, none⟩ = some (.string word)) :
    Calls Try.prog 131 #[.pointer (some ⟨pb, po, none⟩)] w (IsBdRet w ex ey word) := by
  obtain ⟨ib, hib, hb0, hb1, hb2⟩ := info_parts Try.infoBoolA
  have C1 : Hid (ib.bytes * 1156 ≤ 281474976710656) := by show _ ≤ _; rw [hb2]; omega
  have C2 : Hid (1156 ≤ maxLen) := by show _ ≤ _; unfold maxLen; omega
  have HNO : Hid (∀ w', ¬ IsBd ex ey word → w.Ext w' → IsBdRet w ex ey word (.returned (.bool false)) w') := fun w' h hx => ⟨false, rfl, ⟨(fun h => by cases h), fun h2 => absurd h2 h⟩, hx⟩
  have HCB : Hid (∀ wr, w.Ext wr → wr.cell? ⟨pb, po, none⟩ = some (.int .i64 ex) ∧ wr.cell? ⟨pb, po + 1, none⟩ = some (.int .i64 ey) ∧ wr.cell? ⟨pb, po + 2, none⟩ = some (.string word)) := fun wr hx => ⟨hx.cell c0, hx.cell c1, hx.cell c2⟩
  have lb := World.block_lt_of_cell? _ _ c0
  by_cases hC : inC ex ey
  rotate_left
  · have HCO := Lib.hid (l04Corner_any ex ey w false (by rw [Bool.eq_false_iff]; exact fun h => hC (inCB_true.1 h)))
    have HN := Lib.hid (fun w' => HNO.out w' fun h => hC (h.ok 0 (by have := h.lo; omega)).1)
    clear hC HNO HCB
    go_enter Try.func131, Try.ntmps131
    go_wp2_with fail
    refine HCO.out.mono ?_
    rintro e1 w1 ⟨rfl, hx1⟩
    have HX1 := Lib.hid hx1
    clear hx1 c0 c1 c2 lb
    go_wp2
    go_ret
    exact HN.out _ HX1.out
  have HCO := Lib.hid (l04Corner_any ex ey w true (inCB_true.2 hC))
  by_cases hb : 4 ≤ word.size ∧ word.size ≤ 600
  rotate_left
  · have HN := Lib.hid (fun w' => HNO.out w' fun h => hb ⟨h.lo, h.hi⟩)
    by_cases h4 : word.size < 4
    · have h4' : (word.size : Int) < 4 := by omega
      clear hC HNO HCB hb
      go_enter Try.func131, Try.ntmps131
      go_wp2_with fail
      refine HCO.out.mono ?_
      rintro e1 w1 ⟨rfl, hx1⟩
      have HX1 := Lib.hid hx1
      clear hx1 c0 c1 c2 lb
      go_wp2
      go_ret
      exact HN.out _ HX1.out
    · have h4' : ¬ (word.size : Int) < 4 := by omega
      have h6 : (600 : Int) < (word.size : Int) := by omega
      clear hC HNO HCB hb
      go_enter Try.func131, Try.ntmps131
      go_wp2_with fail
      refine HCO.out.mono ?_
      rintro e1 w1 ⟨rfl, hx1⟩
      have HX1 := Lib.hid hx1
      clear hx1 c0 c1 c2 lb
      go_wp2
      go_ret
      exact HN.out _ HX1.out
  obtain ⟨hb1', hb2'⟩ := hb
  have h4' : ¬ (word.size : Int) < 4 := by omega
  have h6' : ¬ (600 : Int) < (word.size : Int) := by omega
  have HLET : Hid (∀ i, i < word.size → ∃ hs : i < word.size, ∀ w', Calls Try.prog 132 #[.int .u8 (((word[i]'hs).toNat : Nat) : Int)] w' fun e w'' => e = .returned (.int .i64 (if stN word i < 4 then (stN word i : Int) else -1)) ∧ w'.Ext w'') := fun i hi => ⟨hi, fun w' => by
    have q := l04Way_any (word[i]'hi).toNat w'
    rw [wayI_st, ← stN_at hi] at q
    exact q⟩
  have HSTP : Hid (∀ i, stN word i < 4 → inC (gX ex word i) (gY ey word i) → gX ex word (i + 1) = gX ex word i + dX (stN word i) ∧ gY ey word (i + 1) = gY ey word i + dY (stN word i)) := fun i hk hc => by
    unfold inC at hc
    have hdx : -1 ≤ dX (stN word i) ∧ dX (stN word i) ≤ 1 := by unfold dX; split <;> (try split) <;> omega
    have hdy : -1 ≤ dY (stN word i) ∧ dY (stN word i) ≤ 1 := by unfold dY; split <;> (try split) <;> omega
    exact ⟨wrap_small (by omega) (by omega), wrap_small (by omega) (by omega)⟩
  go_enter Try.func131, Try.ntmps131
  go_wp2_with fail
  refine HCO.out.mono ?_
  rintro e1 w1 ⟨rfl, hx1⟩
  have HX1 := Lib.hid hx1
  clear hx1 c0 c1 c2 lb
  go_wp2_with (at_make; refine wpList_make_full _ rfl _ _ 103 rfl 0 4 ib (.bool false) 1 Try.underlying103 hib hb0 hb1 .i64 .i64 _ _ 1156 rfl rfl rfl rfl C1.out C2.out (Nat.zero_le _) (fun w3 hown hgrow => ?_); go_loud (have HB3 : Hid (BlkOf Value.bool w3 w1.heap.size 4 (List.replicate 1156 false)) := blk_of_made (f := Value.bool) false rfl hown; have HX3 : Hid (w1.Ext w3) := World.Ext.made hgrow; obtain ⟨q0, q1, q2⟩ := HCB.out w3 (HX1.out.trans HX3.out); have lq := World.block_lt_of_cell? _ _ q0; clear hown hgrow))
  have HXX := Lib.hid (HX1.out.trans HX3.out)
  obtain ⟨W4, hW4⟩ : ∃ W4, W4 = w3.alloc (.cells #[.int .i64 ex, .int .i64 ey] 45) := ⟨_, rfl⟩
  have hx4 : w3.Ext W4 := by rw [hW4]; repeat (first | exact World.Ext.refl _ | exact ⟨_, rfl⟩ | assumption | refine World.Ext.over ?_ _ | refine World.Ext.drewN ?_ _ | refine World.Ext.drew ?_ | refine World.Ext.alloc ?_ _ | refine World.Ext.setCell ?_ (by simp) _)
  have hgq : w1.heap.size < w3.heap.size := HB3.out.lt
  have HST : Hid (Md4 w3 w1.heap.size (mI ex ey word 0) W4 ∧ Two W4 w3.heap.size 45 (.int .i64 (gX ex word 0)) (.int .i64 (gY ey word 0))) := by
    refine ⟨⟨hx4.wrote _, ?_⟩, ?_⟩
    · have h := HB3.out.ext hx4
      have e : mkl 68 17 (mI ex ey word 0) = List.replicate 1156 false := mkl_false 68 17
      rw [e]
      exact h
    · rw [hW4]
      exact Two.new w3 _ _ _ _ rfl
  have HEX : Hid (∀ wr, Wrote (fun k => k = w1.heap.size) w3 wr → w.Ext wr) := fun wr hx => ((HXX.out.wrote (fun k => k = w1.heap.size)).trans hx).ext fun k hk he => by have := HX1.out.size; omega
  clear HCO HX1 HB3 hx4
  rw [← hW4]
  clear hW4 q0 q1 q2 lq
  generalize w1.heap.size = g at *
  obtain ⟨q, hq⟩ : ∃ q, w3.heap.size = q := ⟨_, rfl⟩
  have HQ := Lib.hid hq
  rw [hq] at HST hgq
  simp only [hq]
  clear hq
  go_loopw [6, 7, 8, 9] (fun z _ _ _ wr => ∃ i : Nat, i ≤ word.size ∧ z = .int .i64 i ∧ Hid (∀ r, r < i → stN word r < 4 ∧ stepR ex ey word r) ∧ Hid (inC (gX ex word i) (gY ey word i)) ∧ Hid (Md4 w3 g (mI ex ey word i) wr ∧ Two wr q 45 (.int .i64 (gX ex word i)) (.int .i64 (gY ey word i)))) (fun z _ _ _ _ => word.size - (intOf z).toNat)
  case atStart => exact ⟨0, Nat.zero_le _, rfl, fun r hr => by omega, hC, HST⟩
  case round =>
    clear HST
    obtain ⟨i, hi, rfl, HP, HC, HS⟩ := hrel
    obtain ⟨wo, rfl⟩ : ∃ wo : World, wo = wr := ⟨_, rfl⟩
    have hi0 : (0 : Int) ≤ (i : Int) := by omega
    obtain ⟨q0, q1, q2⟩ := HCB.out wo (HEX.out wo HS.out.1.1)
    have lq := World.block_lt_of_cell? _ _ q0
    by_cases hin : i < word.size
    · have hin' : (i : Int) < (word.size : Int) := by omega
      have hpn : (i + word.size - 1) % word.size < word.size := Nat.mod_lt _ (by omega)
      have hpi3 : (0 : Int) ≤ ((i : Int) + (word.size : Int) - 1) % (word.size : Int) := Int.emod_nonneg _ (by omega)
      have hpi4 : ((i : Int) + (word.size : Int) - 1) % (word.size : Int) < (word.size : Int) := Int.emod_lt_of_pos _ (by omega)
      have hnn : ((word.size : Int) == 0) = false := by rw [beq_eq_false_iff_ne]; omega
      obtain ⟨hs1, hw1⟩ := HLET.out i hin
      obtain ⟨hs2, hw2⟩ := HLET.out _ hpn
      have HW1 := Lib.hid hw1
      have HW2 := Lib.hid hw2
      clear hw1 hw2
      have HNS : Hid (¬ stN word i < 4 ∨ ¬ stN word ((i + word.size - 1) % word.size) < 4 ∨ ¬ stepR ex ey word i → ∀ w', w.Ext w' → IsBdRet w ex ey word (.returned (.bool false)) w') := fun h w' hx => HNO.out w' (fun hb => by
        rcases h with h | h | h
        · exact h (hb.st i hin)
        · exact h (hb.st _ hpn)
        · exact h (hb.ok i hin)) hx
      have HSR := Lib.hid (stepR_iff (x := ex) (y := ey) (s := word) (i := i))
      have HPN : Hid (stN word i < 4 → stepR ex ey word i → ∀ r, r < i + 1 → stN word r < 4 ∧ stepR ex ey word r) := fun h1 h2 r hr => by
        by_cases e : r = i
        · rw [e]; exact ⟨h1, h2⟩
        · exact HP.out r (by omega)
      have HSTi := Lib.hid (HSTP.out i)
      have HNCi : Hid (stN word i < 4 → ¬ inC (gX ex word (i + 1)) (gY ey word (i + 1)) → ∀ w', w.Ext w' → IsBdRet w ex ey word (.returned (.bool false)) w') := fun hk h w' hx => HNO.out w' (fun hb => h (by
        by_cases e : i + 1 < word.size
        · exact (hb.ok (i + 1) e).1
        · have e2 : i + 1 = word.size := by omega
          rw [e2, hb.bx, hb.by_]
          exact hC)) hx
      by_cases hk4 : stN word i < 4
      rotate_left
      · rw [if_neg hk4] at HW1
        generalize (if stN word ((i + word.size - 1) % word.size) < 4 then (stN word ((i + word.size - 1) % word.size) : Int) else -1) = z2 at *
        have HN := Lib.hid (HNS.out (.inl hk4))
        go_wp2_with fail
        refine (HW1.out wo).mono ?_
        rintro e2 w5 ⟨rfl, hx5⟩
        have HS5 : Hid (Md4 w3 g (mI ex ey word i) w5 ∧ Two w5 q 45 (.int .i64 (gX ex word i)) (.int .i64 (gY ey word i))) := ⟨HS.out.1.ext hx5, HS.out.2.ext hx5⟩
        clear hx5 HS q0 q1 q2 lq
        obtain ⟨q0, q1, q2⟩ := HCB.out w5 (HEX.out w5 HS5.out.1.1)
        have lq := World.block_lt_of_cell? _ _ q0
        go_wp2_with fail
        refine wp_region_over_lit (by kernel_rfl) (by kernel_rfl) ?_; (repeat (go_big_quiet_step ((go_at_call 132; exact Calls.over_of (HW2.out _))))); refine wpQuiet_nil ?_; rintro _ ⟨x1, rfl⟩
        have HS6 : Hid (Md4 w3 g (mI ex ey word i) (w5.over x1) ∧ Two (w5.over x1) q 45 (.int .i64 (gX ex word i)) (.int .i64 (gY ey word i))) := ⟨HS5.out.1.ext ⟨x1, rfl⟩, HS5.out.2.ext ⟨x1, rfl⟩⟩
        clear HS5 q0 q1 q2 lq HW1 HW2
        generalize w5.over x1 = w6 at *
        have HR := Lib.hid (HN.out w6 (HEX.out w6 HS6.out.1.1))
        clear HN HS6
        go_wp2
        go_ret
        exact HR.out
      rw [if_pos hk4] at HW1
      by_cases hp4 : stN word ((i + word.size - 1) % word.size) < 4
      rotate_left
      · rw [if_neg hp4] at HW2
        have HN := Lib.hid (HNS.out (.inr (.inl hp4)))
        have hkn : ¬ ((stN word i : Nat) : Int) < 0 := by omega
        generalize stN word i = K at *
        go_wp2_with fail
        refine (HW1.out wo).mono ?_
        rintro e2 w5 ⟨rfl, hx5⟩
        have HS5 : Hid (Md4 w3 g (mI ex ey word i) w5 ∧ Two w5 q 45 (.int .i64 (gX ex word i)) (.int .i64 (gY ey word i))) := ⟨HS.out.1.ext hx5, HS.out.2.ext hx5⟩
        clear hx5 HS q0 q1 q2 lq
        obtain ⟨q0, q1, q2⟩ := HCB.out w5 (HEX.out w5 HS5.out.1.1)
        have lq := World.block_lt_of_cell? _ _ q0
        go_wp2_with fail
        refine wp_region_over_lit (by kernel_rfl) (by kernel_rfl) ?_; (repeat (go_big_quiet_step ((go_at_call 132; exact Calls.over_of (HW2.out _))))); refine wpQuiet_nil ?_; rintro _ ⟨x1, rfl⟩
        have HS6 : Hid (Md4 w3 g (mI ex ey word i) (w5.over x1) ∧ Two (w5.over x1) q 45 (.int .i64 (gX ex word i)) (.int .i64 (gY ey word i))) := ⟨HS5.out.1.ext ⟨x1, rfl⟩, HS5.out.2.ext ⟨x1, rfl⟩⟩
        clear HS5 q0 q1 q2 lq HW1 HW2
        generalize w5.over x1 = w6 at *
        have HR := Lib.hid (HN.out w6 (HEX.out w6 HS6.out.1.1))
        clear HN HS6
        go_wp2
        go_ret
        exact HR.out
      rw [if_pos hp4] at HW2
      have hkn : ¬ ((stN word i : Nat) : Int) < 0 := by omega
      have hpn2 : ¬ ((stN word ((i + word.size - 1) % word.size) : Nat) : Int) < 0 := by omega
      by_cases hu : (stN word i + 2) % 4 = stN word ((i + word.size - 1) % word.size)
      · have HN := Lib.hid (HNS.out (.inr (.inr fun h => (HSR.out.1 h).2.2 (by omega))))
        have tb : ((((stN word i : Nat) : Int) + 2) % 4 == ((stN word ((i + word.size - 1) % word.size) : Nat) : Int)) = true := by rw [beq_iff_eq]; omega
        clear HSR HPN HNS
        generalize stN word ((i + word.size - 1) % word.size) = P at *
        go_wp2_with fail
        refine (HW1.out wo).mono ?_
        rintro e2 w5 ⟨rfl, hx5⟩
        have HS5 : Hid (Md4 w3 g (mI ex ey word i) w5 ∧ Two w5 q 45 (.int .i64 (gX ex word i)) (.int .i64 (gY ey word i))) := ⟨HS.out.1.ext hx5, HS.out.2.ext hx5⟩
        clear hx5 HS q0 q1 q2 lq
        obtain ⟨q0, q1, q2⟩ := HCB.out w5 (HEX.out w5 HS5.out.1.1)
        have lq := World.block_lt_of_cell? _ _ q0
        go_wp2_with fail
        refine wp_region_over_lit (by kernel_rfl) (by kernel_rfl) ?_; (repeat (go_big_quiet_step ((go_at_call 132; exact Calls.over_of (HW2.out _))))); refine wpQuiet_nil ?_; rintro _ ⟨x1, rfl⟩
        have HS6 : Hid (Md4 w3 g (mI ex ey word i) (w5.over x1) ∧ Two (w5.over x1) q 45 (.int .i64 (gX ex word i)) (.int .i64 (gY ey word i))) := ⟨HS5.out.1.ext ⟨x1, rfl⟩, HS5.out.2.ext ⟨x1, rfl⟩⟩
        clear HS5 q0 q1 q2 lq HW1 HW2
        generalize w5.over x1 = w6 at *
        have HR := Lib.hid (HN.out w6 (HEX.out w6 HS6.out.1.1))
        clear HN HS6
        go_wp2
        go_ret
        exact HR.out
      have tb : ((((stN word i : Nat) : Int) + 2) % 4 == ((stN word ((i + word.size - 1) % word.size) : Nat) : Int)) = false := by rw [beq_eq_false_iff_ne]; omega
      have HSR2 : Hid (((List.range i).any fun j => decide (gE ex ey word j = gE ex ey word i)) = false → stepR ex ey word i) := fun h => HSR.out.2 ⟨HC.out, h, by omega⟩
      have HSR3 : Hid (((List.range i).any fun j => decide (gE ex ey word j = gE ex ey word i)) = true → ¬ stepR ex ey word i) := fun h h2 => by
        have := (HSR.out.1 h2).2.1
        rw [h] at this
        cases this
      clear HSR hu
      generalize stN word ((i + word.size - 1) % word.size) = P at *
      go_wp2_with fail
      refine (HW1.out wo).mono ?_
      rintro e2 w5 ⟨rfl, hx5⟩
      have HS5 : Hid (Md4 w3 g (mI ex ey word i) w5 ∧ Two w5 q 45 (.int .i64 (gX ex word i)) (.int .i64 (gY ey word i))) := ⟨HS.out.1.ext hx5, HS.out.2.ext hx5⟩
      clear hx5 HS q0 q1 q2 lq
      obtain ⟨q0, q1, q2⟩ := HCB.out w5 (HEX.out w5 HS5.out.1.1)
      have lq := World.block_lt_of_cell? _ _ q0
      go_wp2_with fail
      refine wp_region_over_lit (by kernel_rfl) (by kernel_rfl) ?_; (repeat (go_big_quiet_step ((go_at_call 132; exact Calls.over_of (HW2.out _))))); refine wpQuiet_nil ?_; rintro _ ⟨x1, rfl⟩
      have HS6 : Hid (Md4 w3 g (mI ex ey word i) (w5.over x1) ∧ Two (w5.over x1) q 45 (.int .i64 (gX ex word i)) (.int .i64 (gY ey word i))) := ⟨HS5.out.1.ext ⟨x1, rfl⟩, HS5.out.2.ext ⟨x1, rfl⟩⟩
      clear HS5 q0 q1 q2 lq HW1 HW2
      generalize w5.over x1 = w6 at *
      obtain ⟨x, hx⟩ : ∃ x : Nat, gX ex word i = (x : Int) := ⟨(gX ex word i).toNat, by have := HC.out.1; omega⟩
      obtain ⟨y, hy⟩ : ∃ y : Nat, gY ey word i = (y : Int) := ⟨(gY ey word i).toNat, by have := HC.out.2.2.1; omega⟩
      have hc4 : inC (gX ex word i) (gY ey word i) := HC.out
      unfold inC at hc4
      have hx17 : x < 17 := by omega
      have hy17 : y < 17 := by omega
      obtain ⟨bx1, bx2, bx3, bx4⟩ := hc4
      obtain ⟨t1, t2⟩ := HS6.out.1.cell hx17 hy17 hk4
      have lg := World.block_lt_of_cell? _ _ t1
      have hEE : gE ex ey word i = ⟨(x : Int), (y : Int), stN word i⟩ := by unfold gE; rw [hx, hy]
      rw [mI_at _ _ _ _ hk4, ← hEE] at t1
      have HMS : Hid (∀ c b, mI ex ey word (i + 1) c b = (mI ex ey word i c b || decide ((⟨(x : Int), (y : Int), stN word i⟩ : Edg) = ⟨((c / 4 : Nat) : Int), (b : Int), c % 4⟩))) := fun c b => by rw [mI_succ, hEE]
      have d0 := HS6.out.2.cell0
      have d1 := HS6.out.2.cell1
      rw [hx] at d0
      rw [hy] at d1
      have ld := World.block_lt_of_cell? _ _ d0
      clear hEE
      generalize ((List.range i).any fun j => decide (gE ex ey word j = gE ex ey word i)) = mm at *
      cases mm
      rotate_left
      · have HN := Lib.hid (HNS.out (.inr (.inr (HSR3.out rfl))))
        have HR := Lib.hid (HN.out w6 (HEX.out w6 HS6.out.1.1))
        clear HN HS6 HMS HSR2 HSR3 HNS HNCi HPN
        go_wp2
        go_ret
        exact HR.out
      have HP2 := Lib.hid (HPN.out hk4 (HSR2.out rfl))
      obtain ⟨hgx, hgy⟩ := HSTi.out hk4 HC.out
      have HGX := Lib.hid hgx
      have HGY := Lib.hid hgy
      have HNC2 := Lib.hid (HNCi.out hk4)
      have HCX := Lib.hid (fun w' => l04X_any (stN word i) w' hk4)
      have HCY := Lib.hid (fun w' => l04Y_any (stN word i) w' hk4)
      have hdx : -1 ≤ dX (stN word i) ∧ dX (stN word i) ≤ 1 := by unfold dX; split <;> (try split) <;> omega
      have hdy : -1 ≤ dY (stN word i) ∧ dY (stN word i) ≤ 1 := by unfold dY; split <;> (try split) <;> omega
      clear hgx hgy HNCi HNS HPN HSR2 HSR3 HSTi
      obtain ⟨wa, hwa⟩ : ∃ wa, wa = w6.setCell ⟨g, (y * 17 + x) * 4 + stN word i, none⟩ (.bool true) := ⟨_, rfl⟩
      have HSa : Hid (Md4 w3 g (mI ex ey word (i + 1)) wa ∧ Two wa q 45 (.int .i64 (gX ex word i)) (.int .i64 (gY ey word i))) := by
        rw [hwa]
        refine ⟨HS6.out.1.set hx17 hy17 hk4 ?_ ?_, HS6.out.2.keep (Below.heap_setCell _ _ _ _ (by dsimp only; omega))⟩
        · rw [HMS.out, decide_eq_true (by rw [show (x * 4 + stN word i) / 4 = x by omega, show (x * 4 + stN word i) % 4 = stN word i by omega]), Bool.or_true]
        · intro a b _ _ hab
          rw [HMS.out, decide_eq_false, Bool.or_false]
          intro h
          rw [Edg.mk.injEq] at h
          omega
      go_upto_region 17 with fail
      rw [← hwa]
      clear hwa t1 t2 lg d0 d1 ld HS6 hkn hpn2 tb HMS
      rw [hx, hy] at HSa
      rw [hx] at HGX bx1 bx2
      rw [hy] at HGY bx3 bx4
      clear hx hy
      have d0 := HSa.out.2.cell0
      have ld := HSa.out.2.lt
      refine wp_region_over_tail 6 (by kernel_rfl) (by kernel_rfl) ?_; simp only [List.take_succ_cons, List.take_zero, List.drop_succ_cons, List.drop_zero]; (repeat (go_big_quiet_step ((go_at_call 133; exact Calls.over_of (HCX.out _))))); refine wpQuiet_nil ?_; rintro _ ⟨x1, rfl⟩
      have HSb : Hid (Md4 w3 g (mI ex ey word (i + 1)) (wa.over x1) ∧ Two (wa.over x1) q 45 (.int .i64 (x : Int)) (.int .i64 (y : Int))) := ⟨HSa.out.1.ext ⟨x1, rfl⟩, HSa.out.2.ext ⟨x1, rfl⟩⟩
      clear HSa d0 ld
      generalize wa.over x1 = wb at *
      have d0 := HSb.out.2.cell0
      have f0 := HSb.out.2.free 0
      have ld := HSb.out.2.lt
      obtain ⟨wc, hwc⟩ : ∃ wc, wc = wb.setCell ⟨q, 0, none⟩ (.int .i64 ((x : Int) + dX (stN word i))) := ⟨_, rfl⟩
      have HSc : Hid (Md4 w3 g (mI ex ey word (i + 1)) wc ∧ Two wc q 45 (.int .i64 ((x : Int) + dX (stN word i))) (.int .i64 (y : Int))) := by rw [hwc]; exact ⟨HSb.out.1.box (by dsimp only; rw [HQ.out]; omega) _ (by dsimp only; omega), two_put0 HSb.out.2 _⟩
      go_upto_region 18 with fail
      rw [← hwc]
      clear hwc d0 f0 ld HSb
      have d1 := HSc.out.2.cell1
      have ld := HSc.out.2.lt
      refine wp_region_over_tail 6 (by kernel_rfl) (by kernel_rfl) ?_; simp only [List.take_succ_cons, List.take_zero, List.drop_succ_cons, List.drop_zero]; (repeat (go_big_quiet_step ((go_at_call 134; exact Calls.over_of (HCY.out _))))); refine wpQuiet_nil ?_; rintro _ ⟨x1, rfl⟩
      have HSd : Hid (Md4 w3 g (mI ex ey word (i + 1)) (wc.over x1) ∧ Two (wc.over x1) q 45 (.int .i64 ((x : Int) + dX (stN word i))) (.int .i64 (y : Int))) := ⟨HSc.out.1.ext ⟨x1, rfl⟩, HSc.out.2.ext ⟨x1, rfl⟩⟩
      clear HSc d1 ld
      generalize wc.over x1 = wd at *
      have d1 := HSd.out.2.cell1
      have f1 := HSd.out.2.free 1
      have ld := HSd.out.2.lt
      obtain ⟨wf, hwf⟩ : ∃ wf, wf = wd.setCell ⟨q, 1, none⟩ (.int .i64 ((y : Int) + dY (stN word i))) := ⟨_, rfl⟩
      have HSf : Hid (Md4 w3 g (mI ex ey word (i + 1)) wf ∧ Two wf q 45 (.int .i64 (gX ex word (i + 1))) (.int .i64 (gY ey word (i + 1)))) := by rw [hwf, HGX.out, HGY.out]; exact ⟨HSd.out.1.box (by dsimp only; rw [HQ.out]; omega) _ (by dsimp only; omega), two_put1 HSd.out.2 _⟩
      go_upto_region 19 with fail
      rw [← hwf]
      clear hwf d1 f1 ld HSd HCX HCY
      have d0 := HSf.out.2.cell0
      have d1 := HSf.out.2.cell1
      have ld := HSf.out.2.lt
      obtain ⟨tc, htc⟩ : ∃ tc, inCB (gX ex word (i + 1)) (gY ey word (i + 1)) = tc := ⟨_, rfl⟩
      have HCO := Lib.hid (fun w' => l04Corner_any _ _ w' tc htc)
      go_wp2_with fail
      refine (HCO.out _).mono ?_
      rintro e3 wg ⟨rfl, hxg⟩
      have HSg : Hid (Md4 w3 g (mI ex ey word (i + 1)) wg ∧ Two wg q 45 (.int .i64 (gX ex word (i + 1))) (.int .i64 (gY ey word (i + 1)))) := ⟨HSf.out.1.ext hxg, HSf.out.2.ext hxg⟩
      clear hxg d0 d1 ld HSf HCO
      cases tc
      · have HR := Lib.hid (HNC2.out (fun h => by rw [inCB_true.2 h] at htc; cases htc) wg (HEX.out wg HSg.out.1.1))
        clear HSg htc HNC2 HP2
        go_wp2
        go_ret
        exact HR.out
      have HC2 : Hid (inC (gX ex word (i + 1)) (gY ey word (i + 1))) := inCB_true.1 htc
      clear htc HNC2
      go_wp2
      go_roundw
      case rel => exact ⟨i + 1, by omega, by go_num, HP2, HC2, HSg⟩
      case measure => simp [intOf]; omega
    · have hin2 : i = word.size := by omega
      have hin' : ¬ (i : Int) < (word.size : Int) := by omega
      have HYES : Hid (gX ex word word.size = ex → gY ey word word.size = ey → ∀ w', w.Ext w' → IsBdRet w ex ey word (.returned (.bool true)) w') := fun h1 h2 w' hx => ⟨true, rfl, ⟨fun _ => ⟨hb1', hb2', fun r hr => (HP.out r (by omega)).1, fun r hr => (HP.out r (by omega)).2, h1, h2⟩, fun _ => rfl⟩, hx⟩
      have d0 := HS.out.2.cell0
      have d1 := HS.out.2.cell1
      have ld := HS.out.2.lt
      rw [hin2] at d0 d1
      have HXo := Lib.hid (HEX.out wo HS.out.1.1)
      clear HS HP HC
      by_cases e1 : gX ex word word.size = ex
      rotate_left
      · have HN := Lib.hid (fun w' => HNO.out w' fun h => e1 h.bx)
        clear HYES
        generalize gX ex word word.size = xn at *
        generalize gY ey word word.size = yn at *
        go_wp2_with fail
        refine wp_region_over_lit (by kernel_rfl) (by kernel_rfl) ?_; (repeat (go_big_quiet_step (fail))); refine wpQuiet_nil ?_; rintro _ ⟨x1, rfl⟩
        have HX2 : Hid (w.Ext (wo.over x1)) := HXo.out.trans ⟨x1, rfl⟩
        clear d0 d1 ld q0 q1 q2 lq
        go_wp2
        go_ret
        exact HN.out _ HX2.out
      by_cases e2 : gY ey word word.size = ey
      rotate_left
      · have HN := Lib.hid (fun w' => HNO.out w' fun h => e2 h.by_)
        clear HYES
        generalize gX ex word word.size = xn at *
        generalize gY ey word word.size = yn at *
        go_wp2_with fail
        refine wp_region_over_lit (by kernel_rfl) (by kernel_rfl) ?_; (repeat (go_big_quiet_step (fail))); refine wpQuiet_nil ?_; rintro _ ⟨x1, rfl⟩
        have HX2 : Hid (w.Ext (wo.over x1)) := HXo.out.trans ⟨x1, rfl⟩
        clear d0 d1 ld q0 q1 q2 lq
        go_wp2
        go_ret
        exact HN.out _ HX2.out
      have HY := Lib.hid (HYES.out e1 e2)
      clear HYES
      generalize gX ex word word.size = xn at *
      generalize gY ey word word.size = yn at *
      go_wp2_with fail
      refine wp_region_over_lit (by kernel_rfl) (by kernel_rfl) ?_; (repeat (go_big_quiet_step (fail))); refine wpQuiet_nil ?_; rintro _ ⟨x1, rfl⟩
      have HX2 : Hid (w.Ext (wo.over x1)) := HXo.out.trans ⟨x1, rfl⟩
      clear d0 d1 ld q0 q1 q2 lq
      go_wp2
      go_ret
      exact HY.out _ HX2.out
end Go.Proofs.Ythgkmaccbcpaeaa
