/- The program's tree of a grey picture: the closures over its nodes. -/
import Derived.Test.YtmmanehdmnkekaaNodJ
namespace Go.Proofs.Ytmmanehdmnkekaa
open Go Go.RowKit
theorem mapG_lookD {w : World} {b : Nat} {es : List (Int × Int)} (h : MapS w Try.prog 58 b (mapG es)) {x y : Int} (hx : -1000 ≤ x ∧ x ≤ 1000) (hy : -1000 ≤ y ∧ y ≤ 1000) :
    (Instr.lookup 194 (.map (some b)) (.agg #[.int .i64 x, .int .i64 y]) false).run Try.prog w = .ok (.bool (decide ((x, y) ∈ es))) w := by
  have := h.look Try.spotKey boolMap (zeroBool w) (p := (x, y)) (spotKeyOf (spotWf hx hy))
  rw [mapG_val] at this
  exact this
theorem PartAt.look {w : World} {b W H q j : Nat} {l : List Int} {t : Int} (h : PartAt w b W H l t q) (hj : j < H * W) (hW : W ≤ 64) (hH : H ≤ 64) :
    (Instr.lookup 194 (.map (some b)) (.agg #[.int .i64 ((j % W : Nat) : Int), .int .i64 ((j / W : Nat) : Int)]) false).run Try.prog w = .ok (.bool (cnB W H l t q j)) w := by
  obtain ⟨es, h1, -, h2⟩ := h
  have hb := hasB_true.1 (spN_has (W := W) (H := H) hj)
  unfold spN at hb
  simp only at hb
  have h3 := mapG_lookD h1 (x := ((j % W : Nat) : Int)) (y := ((j / W : Nat) : Int)) (by omega) (by omega)
  have e : decide ((((j % W : Nat) : Int), ((j / W : Nat) : Int)) ∈ es) = cnB W H l t q j := by
    rw [Bool.eq_iff_iff, decide_eq_true_iff, cnB_iff]
    exact h2 _
  rw [e] at h3
  exact h3
set_option maxRecDepth 5000 in
set_option maxHeartbeats 1600000 in
theorem gt11_any (p b1 bs W H : Nat) (l : List Int) (t fx fy : Int) (bm q j : Nat) (w : World) (hW1 : 1 ≤ W) (hW : W ≤ 64) (hH : H ≤ 64) (hj : j < H * W) (hg : GrAt w p W H l) (h1 : w.cell? ⟨b1, 0, none⟩ = some (.pointer (some ⟨p, 0, none⟩)))
    (hs0 : w.cell? ⟨bs, 0, none⟩ = some (.int .i64 ((j % W : Nat) : Int))) (hs1 : w.cell? ⟨bs, 1, none⟩ = some (.int .i64 ((j / W : Nat) : Int))) (hp : PartAt w bm W H l t q) :
    Calls Try.prog 178 #[.agg #[.int .i64 t, .int .i64 fx, .int .i64 fy, .map (some bm)], .pointer (some ⟨b1, 0, none⟩), .pointer (some ⟨bs, 0, none⟩)] w fun e w' => e = .returned (.bool (decide (t = l.getD j 0) && cnB W H l t q j)) ∧ w.Ext w' := by
  obtain ⟨W0, hW0⟩ : ∃ W0, W0 = w.alloc (.cells #[.int .i64 t, .int .i64 fx, .int .i64 fy, .map (some bm)] 196) := ⟨_, rfl⟩
  have hx0 : w.Ext W0 := by rw [hW0]; repeat (first | exact World.Ext.refl _ | exact ⟨_, rfl⟩ | assumption | refine World.Ext.over ?_ _ | refine World.Ext.drewN ?_ _ | refine World.Ext.drew ?_ | refine World.Ext.alloc ?_ _ | refine World.Ext.setCell ?_ (by simp) _)
  have d0 : W0.cell? ⟨w.heap.size, 0, none⟩ = some (.int .i64 t) := by rw [hW0]; simp [go_sem]
  have d3 : W0.cell? ⟨w.heap.size, 3, none⟩ = some (.map (some bm)) := by rw [hW0]; simp [go_sem]
  have e1 := hx0.cell h1
  have f0 := hx0.cell hs0
  have f1 := hx0.cell hs1
  have hjW : j % W < W := Nat.mod_lt _ (by omega)
  have hjH : j / W < H := by rw [Nat.div_lt_iff_lt_mul (by omega)]; exact hj
  have hjE : j / W * W + j % W = j := by rw [Nat.mul_comm]; exact Nat.div_add_mod _ _
  have HAT : Hid (∀ x1, Calls Try.prog 80 #[.pointer (some ⟨p, 0, none⟩), .agg #[.int .i64 ((j % W : Nat) : Int), .int .i64 ((j / W : Nat) : Int)]] (W0.over x1) fun e w'' => e = .returned (.int .i64 (l.getD j 0)) ∧ (W0.over x1).Ext w'') := fun x1 => by
    have h := (hg.ext (hx0.trans ⟨x1, rfl⟩ : w.Ext (W0.over x1))).at hW hH hjW hjH
    rw [hjE] at h
    exact h
  have hlook := fun x1 : World => (PartAt.keep hp ((hx0.trans ⟨x1, rfl⟩ : w.Ext (W0.over x1)).block hp.lt)).look hj hW hH
  have HX0 := Lib.hid hx0
  have ld := World.block_lt_of_cell? _ _ d0
  have le := World.block_lt_of_cell? _ _ e1
  have lf := World.block_lt_of_cell? _ _ f0
  clear h1 hs0 hs1 hp hg hx0 hjW hjH hjE hj
  generalize cnB W H l t q j = cb at *
  generalize l.getD j 0 = z at *
  generalize j % W = x at *
  generalize j / W = y at *
  by_cases ht : t = z
  · subst ht
    rw [decide_eq_true rfl, Bool.true_and]
    go_enter Try.func178, Try.ntmps178
    go_wp2_with fail
    rw [← hW0]
    clear hW0
    refine wp_region_over_lit (by kernel_rfl) (by kernel_rfl) ?_; (repeat (go_big_quiet_step ((go_at_call 80; exact Calls.over_of (HAT.out _))))); refine wpQuiet_nil ?_; rintro _ ⟨x1, rfl⟩
    have HX : Hid (w.Ext (W0.over x1)) := HX0.out.trans ⟨x1, rfl⟩
    clear d0 d3 e1 f0 f1 hlook
    go_wp2
    go_ret
    exact ⟨by simp, HX.out⟩
  · have htb : (t == z) = false := by simpa using ht
    rw [decide_eq_false ht, Bool.false_and]
    go_enter Try.func178, Try.ntmps178
    go_wp2_with fail
    rw [← hW0]
    clear hW0
    refine wp_region_over_lit (by kernel_rfl) (by kernel_rfl) ?_; (repeat (go_big_quiet_step ((go_at_call 80; exact Calls.over_of (HAT.out _))))); refine wpQuiet_nil ?_; rintro _ ⟨x1, rfl⟩
    have HX : Hid (w.Ext (W0.over x1)) := HX0.out.trans ⟨x1, rfl⟩
    clear d0 d3 e1 f0 f1 hlook
    go_wp2
    go_ret
    exact ⟨by simp, HX.out⟩
theorem enters_gt11 : Enters 178 := enters_of Try.func178 (by kernel_rfl) (by kernel_rfl)
def nd0 : NdV := (0, 0, 0, 0)
def RowN (w : World) (a : Option Addr) (qs : List NdV) : Prop := ∀ i, i < qs.length → ∃ b o, a = some ⟨b, o, none⟩ ∧ w.cell? ⟨b, o + i * 4, none⟩ = some (.int .i64 (qs.getD i nd0).1) ∧ w.cell? ⟨b, o + i * 4 + 1, none⟩ = some (.int .i64 (qs.getD i nd0).2.1) ∧ w.cell? ⟨b, o + i * 4 + 2, none⟩ = some (.int .i64 (qs.getD i nd0).2.2.1) ∧ w.cell? ⟨b, o + i * 4 + 3, none⟩ = some (.map (some (qs.getD i nd0).2.2.2))
theorem RowN.ext {w w' : World} {a : Option Addr} {qs : List NdV} (h : RowN w a qs) (hx : w.Ext w') : RowN w' a qs := fun i hi => let ⟨b, o, h1, h2, h3, h4, h5⟩ := h i hi; ⟨b, o, h1, hx.cell h2, hx.cell h3, hx.cell h4, hx.cell h5⟩
theorem flatN_at : ∀ (qs : List NdV) (i : Nat), i < qs.length → (qs.flatMap encNd)[i * 4]? = some (.int .i64 (qs.getD i nd0).1) ∧ (qs.flatMap encNd)[i * 4 + 1]? = some (.int .i64 (qs.getD i nd0).2.1) ∧ (qs.flatMap encNd)[i * 4 + 2]? = some (.int .i64 (qs.getD i nd0).2.2.1) ∧ (qs.flatMap encNd)[i * 4 + 3]? = some (.map (some (qs.getD i nd0).2.2.2))
  | [], i, h => by simp at h
  | q :: qs, 0, _ => by simp [encNd]
  | q :: qs, i + 1, h => by
    have ih := flatN_at qs i (by simpa using h)
    rw [List.flatMap_cons]
    have e : (encNd q).length = 4 := rfl
    refine ⟨?_, ?_, ?_, ?_⟩
    · rw [List.getElem?_append_right (by omega), e, show (i + 1) * 4 - 4 = i * 4 by omega]; exact ih.1
    · rw [List.getElem?_append_right (by omega), e, show (i + 1) * 4 + 1 - 4 = i * 4 + 1 by omega]; exact ih.2.1
    · rw [List.getElem?_append_right (by omega), e, show (i + 1) * 4 + 2 - 4 = i * 4 + 2 by omega]; exact ih.2.2.1
    · rw [List.getElem?_append_right (by omega), e, show (i + 1) * 4 + 3 - 4 = i * 4 + 3 by omega]; exact ih.2.2.2
theorem GrowN.row {lo : Nat} {w : World} {a : Option Addr} {m cap : Nat} {qs : List NdV} (h : GrowN lo w (.slice a m cap) qs) : RowN w a qs := by
  intro i hi
  have h' : w.ownsRow lo 196 4 (.slice a m cap) qs.length (qs.flatMap encNd) := h
  rcases h'.2 with ⟨e, e2⟩ | ⟨g, cap', cur, e, -⟩
  · omega
  · simp only [Value.slice.injEq] at e
    obtain ⟨rfl, rfl, rfl⟩ := e
    obtain ⟨q1, q2, q3, q4⟩ := flatN_at qs i hi
    refine ⟨g, 0, rfl, ?_, ?_, ?_, ?_⟩
    · rw [Nat.zero_add, h'.cellAt _ (by omega)]; exact q1
    · rw [Nat.zero_add, h'.cellAt _ (by omega)]; exact q2
    · rw [Nat.zero_add, h'.cellAt _ (by omega)]; exact q3
    · rw [Nat.zero_add, h'.cellAt _ (by omega)]; exact q4
def ndV (d : NdV) : Value := .agg #[.int .i64 d.1, .int .i64 d.2.1, .int .i64 d.2.2.1, .map (some d.2.2.2)]
set_option maxRecDepth 5000 in
set_option maxHeartbeats 1600000 in
theorem indexN_any (a : Option Addr) (c : Nat) (qs : List NdV) (f : Nat) (caps : Array Value) (P : Nat → Bool) (k : Nat) (w : World) (he : Enters f) (hn : qs.length ≤ 1000) (hr : RowN w a qs) (hk : k < qs.length) (h1 : P k = true) (h0 : ∀ j, j < k → P j = false)
    (hf : ∀ w', w.Ext w' → ∀ i, i < qs.length → Calls Try.prog f (#[ndV (qs.getD i nd0)] ++ caps) w' fun e w'' => e = .returned (.bool (P i)) ∧ w'.Ext w'') :
    Calls Try.prog 177 #[.slice a qs.length c, .func (.func f) #[] caps] w fun e w' => e = .returned (.int .i64 (k : Int)) ∧ w.Ext w' := by
  have HR := Lib.hid hr
  have HF := Lib.hid hf
  have HE := Lib.hid he
  have H1 := Lib.hid h1
  have H0 := Lib.hid h0
  clear hr hf he h1 h0
  obtain ⟨n, hnn⟩ : ∃ n, n = qs.length := ⟨_, rfl⟩
  have HNN := Lib.hid hnn
  rw [← hnn] at hn hk
  rw [← hnn]
  clear hnn
  go_enter Try.func177, Try.ntmps177
  go_wp2
  go_loopw [8] (fun i wr => ∃ j : Nat, j ≤ k ∧ i = .int .i64 j ∧ Hid (w.Ext wr)) (fun i _ => n - (intOf i).toNat)
  case atStart => exact ⟨0, Nat.zero_le _, rfl, .refl _⟩
  case round =>
    obtain ⟨j, hj, rfl, HX⟩ := hrel
    obtain ⟨wo, rfl⟩ : ∃ wo : World, wo = wr := ⟨_, rfl⟩
    have hjn : (j : Int) < (n : Int) := by omega
    have hj0 : (0 : Int) ≤ (j : Int) := by omega
    obtain ⟨b, o, rfl, c0, c1, c2, c3⟩ := HR.out.ext HX.out j (by rw [← HNN.out]; omega)
    have HC := Lib.hid (HF.out wo HX.out j (by rw [← HNN.out]; omega))
    have he := HE.out
    unfold Enters at he
    unfold ndV at HC
    generalize qs.getD j nd0 = d at *
    obtain ⟨d1, d2, d3, d4⟩ := d
    dsimp only at c0 c1 c2 c3 HC
    go_wp2_with fail
    refine HC.out.mono ?_
    rintro e w2 ⟨rfl, hx2⟩
    have HX2 := Lib.hid (HX.out.trans hx2)
    clear hx2 HC HX c0 c1 c2 c3
    by_cases hjk : j = k
    · subst hjk
      rw [H1.out]
      go_wp2
      go_ret
      exact ⟨rfl, HX2.out⟩
    · have hz := H0.out j (by omega)
      rw [hz]
      clear hz
      go_wp2
      go_roundw
      case rel => exact ⟨j + 1, by omega, by go_num, HX2⟩
      case measure => simp [intOf]; omega
end Go.Proofs.Ytmmanehdmnkekaa
