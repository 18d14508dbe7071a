/- FloodMarks: the reference's flood. -/
import Derived.Test.YtldbabigjfkdlaaFloS
namespace Go.Proofs.Ytldbabigjfkdlaa
open Go Go.RowKit
theorem wrap_near {n : Int} (h0 : -100 ≤ n) (h1 : n ≤ 9000000000) : wrap64 n = n := by
  unfold wrap64
  omega
def FlP (W H : Nat) (nums res : List Int) (lo m g cap n : Nat) (wS : World) (k : Nat) (v8 v9 : Value) (wr : World) : Prop :=
  ∃ s : FloS, FlSt lo m g cap n wS s.1 (posL s.2) (heiL s.2) v8 v9 wr ∧ FloI W H s ∧ FloR W H nums s res ∧ floM s ≤ 3 * n ∧ floM s = k
noncomputable def FlM (W H : Nat) (nums res : List Int) (lo m g cap n : Nat) (wS : World) (v8 v9 : Value) (wr : World) : Nat := leastN fun k => FlP W H nums res lo m g cap n wS k v8 v9 wr
theorem FlM_lt {W H : Nat} {nums res : List Int} {lo m g cap n : Nat} {wS : World} {v8 v9 u8 u9 : Value} {wr wr' : World} {k k' : Nat} (h0 : FlM W H nums res lo m g cap n wS v8 v9 wr = k) (h : FlP W H nums res lo m g cap n wS k' u8 u9 wr') (hn : k' < k) :
    FlM W H nums res lo m g cap n wS u8 u9 wr' < FlM W H nums res lo m g cap n wS v8 v9 wr := by
  rw [h0]
  exact Nat.lt_of_le_of_lt (leastN_le h) hn
set_option maxRecDepth 5000 in
set_option maxHeartbeats 3200000 in
theorem l07Flood_any (W H n bk ok ck bm om cm : Nat) (nums marks res : List Int) (w : World) (hW1 : 1 ≤ W) (hH1 : 1 ≤ H) (hW : W ≤ 64) (hH : H ≤ 64) (hn : n = H * W) (hkl : nums.length = n) (hml : marks.length = n) (hnn : ∀ k, 0 ≤ marks.getD k 0)
    (hrk : RowI w (some ⟨bk, ok, none⟩) nums) (hrm : RowI w (some ⟨bm, om, none⟩) marks) (hR : FloR W H nums (floStart marks nums) res) :
    Calls Try.prog 116 #[.int .i64 W, .slice (some ⟨bk, ok, none⟩) n ck, .slice (some ⟨bm, om, none⟩) n cm] w fun e w' => ∃ g cap, e = .returned (.slice (some ⟨g, 0, none⟩) n cap) ∧ w.Ext w' ∧ GrowOf (Value.int .i64) w.heap.size 2 w' (.slice (some ⟨g, 0, none⟩) n cap) res := by
  obtain ⟨ib, hib, hb0, hb1, hb2⟩ := info_parts Try.infoI64
  have hn4 : n ≤ 4096 := by rw [hn]; exact Nat.mul_le_mul hH hW
  have hn0 : 0 < n := by rw [hn]; exact Nat.mul_pos hH1 hW1
  have HOW : Hid (Calls Try.prog 194 #[.slice (some ⟨bm, om, none⟩) n cm] w fun e w' => ∃ v, e = .returned v ∧ w.Ext w' ∧ GrowOf (Value.int .i64) w.heap.size 2 w' v marks) := by
    have h := l00Own_any bm om cm marks w (by omega) hrm
    rw [hml] at h
    exact h
  have HST := Lib.hid (fun w' => l03Steps_any false w')
  have HRK := Lib.hid hrk
  have HN := Lib.hid hn
  have HML := Lib.hid hml
  have HKL := Lib.hid hkl
  have HNN := Lib.hid hnn
  have HR := Lib.hid hR
  have HI := Lib.hid (FloI.start (W := W) (H := H) (marks := marks) (nums := nums) (by rw [hml, hn]) hnn)
  have HM : Hid (floM (floStart marks nums) ≤ 3 * n) := by have h := floM_start marks nums; rw [hml] at h; exact h
  have HDIV : Hid (((n : Int)).tdiv (W : Int) = (H : Int)) := by
    show _ = _
    rw [hn, Int.natCast_mul, Int.mul_tdiv_cancel _ (by omega)]
  clear hrk hrm hn hkl hml hnn hR
  go_enter Try.func116, Try.ntmps116
  go_wp2_with fail
  refine HOW.out.mono ?_
  rintro e w1 ⟨v, rfl, hx1, hg1⟩
  obtain ⟨g, cap, rfl, hglo, -, -, -⟩ := GrowOf.atI 0 hg1 (i := 0) (by rw [HML.out]; exact hn0)
  rw [HML.out] at hg1 ⊢
  have HX1 := Lib.hid hx1
  have hgl := (hg1.block (k := g) rfl).2
  obtain ⟨w2, hw2⟩ : ∃ w2, w2 = (w1.alloc (.cells #[] 2)).alloc (.cells #[] 2) := ⟨_, rfl⟩
  have hwh : w.heap.size ≤ w1.heap.size := hx1.size
  have HS0 : Hid (FlSt w.heap.size w1.heap.size g cap n w1 marks (posL (floTo marks nums 0)) (heiL (floTo marks nums 0)) (.slice (some ⟨w1.heap.size, 0, none⟩) 0 0) (.slice (some ⟨w1.heap.size + 1, 0, none⟩) 0 0) w2) := by
    have hx2 : w1.Ext w2 := by rw [hw2]; repeat (first | exact World.Ext.refl _ | exact ⟨_, rfl⟩ | assumption | refine World.Ext.over ?_ _ | refine World.Ext.drewN ?_ _ | refine World.Ext.drew ?_ | refine World.Ext.alloc ?_ _ | refine World.Ext.setCell ?_ (by simp) _)
    have hz1 : (w1.alloc (.cells #[] 2)).heap.size = w1.heap.size + 1 := by simp
    refine ⟨hx2.wrote _, hg1.ext hx2, HML.out, ⟨hglo, hgl, Nat.le_refl _⟩, ?_, ?_, fun k hk => ?_, fun k hk => ?_, fun k hk h9 => ?_⟩
    · have h : GrowOf (Value.int .i64) w.heap.size 2 (w1.alloc (.cells #[] 2)) (.slice (some ⟨w1.heap.size, 0, none⟩) 0 0) ([] : List Int) := GrowOf.empty _ hwh
      rw [hw2]
      exact h.ext (World.Ext.alloc (.refl _) _)
    · have h : GrowOf (Value.int .i64) w.heap.size 2 ((w1.alloc (.cells #[] 2)).alloc (.cells #[] 2)) (.slice (some ⟨(w1.alloc (.cells #[] 2)).heap.size, 0, none⟩) 0 0) ([] : List Int) := GrowOf.empty _ (by omega)
      rw [hz1] at h
      rw [hw2]
      exact h
    · have e1 : w1.heap.size = k := Option.some.inj hk
      exact ⟨.inr (by omega), by omega⟩
    · have e1 : w1.heap.size + 1 = k := Option.some.inj hk
      exact ⟨.inr (by omega), by omega⟩
    · have e1 : w1.heap.size = k := Option.some.inj hk
      have e2 : w1.heap.size + 1 = k := Option.some.inj h9
      omega
  clear hx1 hg1
  go_wp2
  try rw [← hw2]
  clear hw2
  go_loopw [8, 9, 27] (fun v8 v9 i wr => ∃ k : Nat, k ≤ n ∧ i = .int .i64 k ∧ Hid (FlSt w.heap.size w1.heap.size g cap n w1 marks (posL (floTo marks nums k)) (heiL (floTo marks nums k)) v8 v9 wr)) (fun _ _ i _ => n - (intOf i).toNat)
  case atStart => exact ⟨0, Nat.zero_le _, rfl, HS0⟩
  case round =>
    clear HS0
    obtain ⟨k, hk, rfl, HS⟩ := hrel
    obtain ⟨w4, rfl⟩ : ∃ w4 : World, w4 = wr := ⟨_, rfl⟩
    by_cases hltk : k < n
    · have hltk' : (k : Int) < (n : Int) := by omega
      have hk0 : (0 : Int) ≤ (k : Int) := by omega
      obtain ⟨hcK, -, -⟩ := HS.out.at hltk
      have hnk := HNN.out k
      by_cases hz : marks.getD k 0 = 0
      · have HT := Lib.hid (floTo_no (nums := nums) hz)
        rw [hz] at hcK
        clear hz hnk
        go_wp2
        go_roundw
        case rel => exact ⟨k + 1, by omega, by go_num, by rw [HT.out]; exact HS⟩
        case measure => simp [intOf]; omega
      · have HT := Lib.hid (floTo_yes (nums := nums) hz)
        have hpos : 0 < marks.getD k 0 := by omega
        obtain ⟨bk', ok', ek, hck⟩ := HRK.out k (by rw [HKL.out]; exact hltk)
        simp only [Option.some.injEq, Addr.mk.injEq, and_true] at ek
        obtain ⟨rfl, rfl⟩ := ek
        have HCK : Hid (∀ {l ps hs : List Int} {a b : Value} {wr : World}, FlSt w.heap.size w1.heap.size g cap n w1 l ps hs a b wr → wr.cell? ⟨bk, ok + k, none⟩ = some (.int .i64 (nums.getD k 0))) := fun {l ps hs a b wr} hs => (hs.x HX1.out (Nat.le_refl _)).cell hck
        have hown8 := HS.out.r8
        unfold GrowOf at hown8
        have hl8 : (posL (floTo marks nums k)).length ≤ n := by rw [posL_len]; exact Nat.le_trans (floTo_len _ _ _) hk
        have hl9 : (heiL (floTo marks nums k)).length ≤ n := by rw [heiL_len]; exact Nat.le_trans (floTo_len _ _ _) hk
        have HP : Hid (posL (floTo marks nums (k + 1)) = posL (floTo marks nums k) ++ [(k : Int)]) := by show _ = _; rw [HT.out]; unfold posL; rw [List.map_append]; rfl
        have HH : Hid (heiL (floTo marks nums (k + 1)) = heiL (floTo marks nums k) ++ [nums.getD k 0]) := by show _ = _; rw [HT.out]; unfold heiL; rw [List.map_append]; rfl
        have hlo4 : ∀ o : Obj, w.heap.size ≤ (w4.alloc o).heap.size := fun o => (HS.out.ext (World.Ext.alloc (.refl _) o)).size
        have B81 : Hid ((posL (floTo marks nums k)).length + 1 ≤ maxLen) := by show _ ≤ _; unfold maxLen; omega
        have B82 : Hid (((posL (floTo marks nums k)).length + 1) * 8 ≤ 140737488355328) := by show _ ≤ _; omega
        have B91 : Hid ((heiL (floTo marks nums k)).length + 1 ≤ maxLen) := by show _ ≤ _; unfold maxLen; omega
        have B92 : Hid (((heiL (floTo marks nums k)).length + 1) * 8 ≤ 140737488355328) := by show _ ≤ _; omega
        clear hz hnk HT hck hl8 hl9
        generalize posL (floTo marks nums k) = ps at *
        generalize heiL (floTo marks nums k) = hs at *
        generalize marks.getD k 0 = z at *
        go_wp2_with (first
          | (at_builtin; refine wpList_append_own_at _ rfl _ _ 41 rfl w.heap.size 2 ib (.int .i64 0) 1 8 Try.underlying41 hib hb0 hb1 hb2 rfl (by decide) _ _ _ rfl (hown8.alloc _) ⟨w4.heap.size, 0, none⟩ 1 1 [.int .i64 k] rfl rfl (cell_one_new _ _ _) (by simp [Value.oneCell']) B81.out B82.out (hlo4 _) (fun v' wa hown' hgrow _ hat => ?_)
             have HSA := Lib.hid (HS.out.push8 (World.Ext.alloc (.refl _) _) hgrow hown' hat)
             have hown9 := HSA.out.r9
             unfold GrowOf at hown9
             have hckA := HCK.out HSA.out
             have hloA : ∀ o : Obj, w.heap.size ≤ (wa.alloc o).heap.size := fun o => (HSA.out.ext (World.Ext.alloc (.refl _) o)).size
             clear hgrow hown' hown8 hat hcK HS hlo4)
          | (at_builtin; refine wpList_append_own_at _ rfl _ _ 41 rfl w.heap.size 2 ib (.int .i64 0) 1 8 Try.underlying41 hib hb0 hb1 hb2 rfl (by decide) _ _ _ rfl (hown9.alloc _) ⟨wa.heap.size, 0, none⟩ 1 1 [.int .i64 (nums.getD k 0)] rfl rfl (cell_one_new _ _ _) (by simp [Value.oneCell']) B91.out B92.out (hloA _) (fun v'' wb hown' hgrow _ hat => ?_)
             have HSB := Lib.hid (HSA.out.swap.push8 (World.Ext.alloc (.refl _) _) hgrow hown' hat).swap
             clear hgrow hown' hown9 hat hckA HSA hloA))
        go_roundw
        case rel => exact ⟨k + 1, by omega, by go_num, by rw [HP.out, HH.out]; exact HSB⟩
        case measure => simp [intOf]; omega
    · have hke : k = n := by omega
      have HSE : Hid (FlSt w.heap.size w1.heap.size g cap n w1 (floStart marks nums).1 (posL (floStart marks nums).2) (heiL (floStart marks nums).2) u8 u9 w4) := by
        have h := HS.out
        rw [hke, ← HML.out] at h
        unfold floStart
        rw [HML.out] at h ⊢
        exact h
      clear HS hke
      go_wp2_with fail
      refine (HST.out w4).mono ?_
      rintro e w3 ⟨a3, c3, rfl, hx3, ho3⟩
      rw [show (stepL false).length = 4 from rfl]
      have HO3 := Lib.hid ho3
      have hx43 := HSE.out.wrote.size
      have HX3 := Lib.hid ((HSE.out.x HX1.out (Nat.le_refl _)).trans hx3)
      have HS3 := Lib.hid (HSE.out.rebase hx3)
      have hsz3 := hx3.size
      have HP0 : Hid (∃ k, FlP W H nums res w.heap.size w4.heap.size g cap n w3 k u8 u9 w3) := ⟨_, _, HS3.out, HI.out, HR.out, HM.out, rfl⟩
      have hgm : g < w4.heap.size := by omega
      clear hx3 ho3 HSE HS3 HST HOW HR HI HM
      generalize hm4 : w4.heap.size = m4 at *
      clear hm4
      go_wp2
      go_loopw [8, 9] (fun v8 v9 wr => ∃ k, Hid (FlP W H nums res w.heap.size m4 g cap n w3 k v8 v9 wr)) (fun v8 v9 wr => FlM W H nums res w.heap.size m4 g cap n w3 v8 v9 wr)
      case atStart => exact HP0.out
      case round =>
        clear HP0
        obtain ⟨n1, HP1⟩ := hrel
        obtain ⟨m0, hm0, HP⟩ : ∃ k, Hid (FlM W H nums res w.heap.size m4 g cap n w3 u8 u9 wr = k) ∧ Hid (FlP W H nums res w.heap.size m4 g cap n w3 k u8 u9 wr) := ⟨_, rfl, leastN_at (p := fun k => FlP W H nums res w.heap.size m4 g cap n w3 k u8 u9 wr) HP1.out⟩
        clear HP1 n1
        obtain ⟨s, hS, hI, hR, hB, hcnt⟩ := HP.out
        have HS := Lib.hid hS
        have HI := Lib.hid hI
        have HR := Lib.hid hR
        have HB := Lib.hid hB
        have HCNT := Lib.hid hcnt
        clear HP hS hI hR hcnt
        obtain ⟨wo, rfl⟩ : ∃ wo : World, wo = wr := ⟨_, rfl⟩
        have hsl : s.2.length ≤ 3 * n := by unfold floM at hB; omega
        clear hB
        rcases Nat.eq_zero_or_pos s.2.length with h0 | h0
        · have hres := HR.out.stop h0
          obtain ⟨a8, c8, e8, -⟩ := HS.out.r8.form
          rw [posL_len, h0] at e8
          subst e8
          have HRT : Hid (w.Ext wo ∧ GrowOf (Value.int .i64) w.heap.size 2 wo (.slice (some ⟨g, 0, none⟩) n cap) res) := ⟨HS.out.x HX3.out (Nat.le_refl _), by rw [← hres]; exact HS.out.grow⟩
          clear HS HI HR HB HCNT hm0 HX3 hres h0
          go_wp2
          go_ret
          exact ⟨g, cap, rfl, HRT.out⟩
        · have hpl := posL_len s.2
          have hhl := heiL_len s.2
          obtain ⟨g8, c8, e8, hc8, hcells8⟩ := HS.out.rd8 (by omega)
          obtain ⟨g9, c9, e9, hc9, hcells9⟩ := HS.out.swap.rd8 (by omega)
          have hbl := floBest_lt h0
          have HBE : Hid (floBest s = minTo (heiL s.2) s.2.length) := by show _ = _; rw [floBest_hs]; unfold heiL; rw [List.length_map]
          have HAP : Hid ((posL s.2).getD (floBest s) 0 = ((floAt s).1 : Int)) := getD_map_pos _ _
          have HAH : Hid ((heiL s.2).getD (floBest s) 0 = (floAt s).2) := getD_map_hei _ _
          have HMT : Hid (∀ k, k ≤ s.2.length → minTo (heiL s.2) k < s.2.length) := fun k hk => by
            have h := minTo_lt (heiL s.2) k (by omega) (by omega)
            omega
          have HMS : Hid (∀ k, minTo (heiL s.2) (k + 1) = if (heiL s.2).getD k 0 < (heiL s.2).getD (minTo (heiL s.2) k) 0 then k else minTo (heiL s.2) k) := fun k => rfl
          rw [hpl] at e8 hc8 hcells8
          rw [hhl] at e9 hc9 hcells9
          subst e8 e9
          have HC8 := Lib.hid hcells8
          have HC9 := Lib.hid hcells9
          clear hcells8 hcells9
          generalize hL : s.2.length = L at *
          have HL := Lib.hid hL
          have HPL := Lib.hid hpl
          have HHL := Lib.hid hhl
          clear hL hpl hhl
          generalize hb : floBest s = b at *
          have HBB := Lib.hid hb
          clear hb
          have hL0 : (0 : Int) < (L : Int) := by omega
          go_wp2
          go_loopw [12, 53] (fun t i wr => ∃ k : Nat, k ≤ L ∧ i = .int .i64 k ∧ t = .int .i64 (minTo (heiL s.2) k : Nat) ∧ Hid (wo.Ext wr)) (fun _ i _ => L - (intOf i).toNat)
          case atStart => exact ⟨0, Nat.zero_le _, rfl, rfl, .refl _⟩
          case round =>
            obtain ⟨k, hk, rfl, rfl, HX⟩ := hrel
            obtain ⟨w5, rfl⟩ : ∃ w5 : World, w5 = wr := ⟨_, rfl⟩
            by_cases hltk : k < L
            · have hltk' : (k : Int) < (L : Int) := by omega
              have hk0 : (0 : Int) ≤ (k : Int) := by omega
              have hmk := HMT.out k hk
              have hms := HMS.out k
              have c1 := HX.out.cell (HC9.out k hltk)
              have c2 := HX.out.cell (HC9.out _ hmk)
              by_cases hm : (heiL s.2).getD k 0 < (heiL s.2).getD (minTo (heiL s.2) k) 0
              · rw [if_pos hm] at hms
                have HMM := Lib.hid hms
                clear hms
                generalize minTo (heiL s.2) k = mk at *
                generalize (heiL s.2).getD k 0 = z1 at *
                generalize (heiL s.2).getD mk 0 = z2 at *
                have hmk0 : (0 : Int) ≤ (mk : Int) := by omega
                have hmk1 : (mk : Int) < (L : Int) := by omega
                go_wp2_with fail
                refine wp_region_over_lit (by kernel_rfl) (by kernel_rfl) ?_; (repeat (go_big_quiet_step (fail))); refine wpQuiet_nil ?_; rintro _ ⟨x1, rfl⟩
                have HX5 : Hid (wo.Ext (w5.over x1)) := HX.out.trans ⟨x1, rfl⟩
                clear HX c1 c2
                go_wp2
                go_roundw
                case rel => exact ⟨k + 1, by omega, by go_num, by rw [HMM.out], HX5⟩
                case measure => simp [intOf]; omega
              · rw [if_neg hm] at hms
                have HMM := Lib.hid hms
                clear hms
                generalize minTo (heiL s.2) k = mk at *
                generalize (heiL s.2).getD k 0 = z1 at *
                generalize (heiL s.2).getD mk 0 = z2 at *
                have hmk0 : (0 : Int) ≤ (mk : Int) := by omega
                have hmk1 : (mk : Int) < (L : Int) := by omega
                go_wp2_with fail
                refine wp_region_over_lit (by kernel_rfl) (by kernel_rfl) ?_; (repeat (go_big_quiet_step (fail))); refine wpQuiet_nil ?_; rintro _ ⟨x1, rfl⟩
                have HX5 : Hid (wo.Ext (w5.over x1)) := HX.out.trans ⟨x1, rfl⟩
                clear HX c1 c2
                go_wp2
                go_roundw
                case rel => exact ⟨k + 1, by omega, by go_num, by rw [HMM.out], HX5⟩
                case measure => simp [intOf]; omega
            · have hke : k = L := by omega
              have HMB : Hid (minTo (heiL s.2) k = b) := by show _ = _; rw [hke]; exact HBE.out.symm
              rw [HMB.out]
              clear HMB hke
              have c8' := HX.out.cell (HC8.out b hbl)
              have c9' := HX.out.cell (HC9.out b hbl)
              rw [HAP.out] at c8'
              rw [HAH.out] at c9'
              have HS5 := Lib.hid (HS.out.ext HX.out)
              have hb0' : (0 : Int) ≤ (b : Int) := by omega
              have hbl' : (b : Int) < (L : Int) := by omega
              have HO8 : Hid (Calls Try.prog 194 #[.slice (some ⟨g8, 0, none⟩) b c8] w5 fun e w' => ∃ v, e = .returned v ∧ w5.Ext w' ∧ GrowOf (Value.int .i64) w5.heap.size 2 w' v ((posL s.2).take b)) := by
                have h := l00Own_any g8 0 c8 ((posL s.2).take b) w5 (by rw [List.length_take]; omega) (HS5.out.front b)
                rw [List.length_take, HPL.out, Nat.min_eq_left (by omega)] at h
                exact h
              have hrun := run_slice_to (P := Try.prog) w5 Try.underlying41 hib g8 L c8 b (by omega) hc8
              go_wp2_with fail
              refine HO8.out.mono ?_
              rintro e w6 ⟨v16, rfl, hx6, hg6⟩
              have HS6 := Lib.hid (HS5.out.ext hx6)
              have hown6 := hg6
              unfold GrowOf at hown6
              have hlt8 : ((posL s.2).take b).length = b := by rw [List.length_take, HPL.out, Nat.min_eq_left (by omega)]
              rw [hlt8] at hown6
              have HC6 : Hid (∀ j u, (((posL s.2).map (Value.int .i64)).drop (b + 1))[j]? = some u → w6.cell? ((⟨g8, fromAt c8 (b + 1) 1, none⟩ : Addr).add j) = some u) := HS6.out.back HPL.out.symm (by omega)
              have HL8 : Hid ((((posL s.2).map (Value.int .i64)).drop (b + 1)).length = (L - (b + 1)) * 1) := by show _ = _; rw [List.length_drop, List.length_map, HPL.out, Nat.mul_one]
              have H11 : Hid (∀ u ∈ ((posL s.2).map (Value.int .i64)).drop (b + 1), u.oneCell' = true) := fun u hu => by
                obtain ⟨z, -, rfl⟩ := List.mem_map.1 (List.mem_of_mem_drop hu)
                rfl
              have hB1 : b + (L - (b + 1)) ≤ maxLen := by unfold maxLen; omega
              have hB2 : (b + (L - (b + 1))) * 8 ≤ 140737488355328 := by omega
              have HBND := Lib.hid (And.intro hB1 hB2)
              have hrun2 := run_slice_from (P := Try.prog) w6 Try.underlying41 hib hb1 g8 L c8 (b + 1) (by omega) hc8
              rw [show ((b + 1 : Nat) : Int) = (b : Int) + 1 from rfl] at hrun2
              have hsz6 := hx6.size
              have HG6 := Lib.hid hg6
              have HX6 := Lib.hid hx6
              have HB5 : Hid (b < (posL s.2).length) := by show _ < _; rw [HPL.out]; exact hbl
              clear hrun hB1 hB2 c8' hg6 hx6 HO8
              have hl1 := HS5.out.len
              go_wp2_with (at_builtin; go_loud (refine wpList_append_own_at _ rfl _ _ 41 rfl w5.heap.size 2 ib (.int .i64 0) 1 8 Try.underlying41 hib hb0 hb1 hb2 rfl (by decide) _ b _ rfl hown6 ⟨g8, fromAt c8 (b + 1) 1, none⟩ _ _ _ rfl HL8.out HC6.out H11.out HBND.out.1 HBND.out.2 hsz6 (fun v8 w7 hown7 hgrow7 _ hat7 => ?_)))
              have HS7 : Hid (FlSt w.heap.size m4 g cap n w3 s.1 ((posL s.2).eraseIdx b) (heiL s.2) v8 (.slice (some ⟨g9, 0, none⟩) L c9) w7) := by
                have h := hown7
                rw [← HPL.out] at h
                exact HS5.out.cut8 HB5.out HX6.out HG6.out hgrow7 h hat7
              clear hown7 hgrow7 hat7 hown6 hrun2 HC6 HL8 H11 HG6 HX6 HS6 HS5 hlt8 hsz6 c9' hl1
              have HO9 : Hid (Calls Try.prog 194 #[.slice (some ⟨g9, 0, none⟩) b c9] w7 fun e w' => ∃ v, e = .returned v ∧ w7.Ext w' ∧ GrowOf (Value.int .i64) w7.heap.size 2 w' v ((heiL s.2).take b)) := by
                have h := l00Own_any g9 0 c9 ((heiL s.2).take b) w7 (by rw [List.length_take]; omega) (HS7.out.swap.front b)
                rw [List.length_take, HHL.out, Nat.min_eq_left (by omega)] at h
                exact h
              have hrun := run_slice_to (P := Try.prog) w7 Try.underlying41 hib g9 L c9 b (by omega) hc9
              go_wp2_with fail
              refine HO9.out.mono ?_
              rintro e w8 ⟨v17, rfl, hx8, hg8⟩
              have HS8 := Lib.hid (HS7.out.ext hx8)
              have hown8 := hg8
              unfold GrowOf at hown8
              have hlt9 : ((heiL s.2).take b).length = b := by rw [List.length_take, HHL.out, Nat.min_eq_left (by omega)]
              rw [hlt9] at hown8
              have HC8' : Hid (∀ j u, (((heiL s.2).map (Value.int .i64)).drop (b + 1))[j]? = some u → w8.cell? ((⟨g9, fromAt c9 (b + 1) 1, none⟩ : Addr).add j) = some u) := HS8.out.swap.back HHL.out.symm (by omega)
              have HL9 : Hid ((((heiL s.2).map (Value.int .i64)).drop (b + 1)).length = (L - (b + 1)) * 1) := by show _ = _; rw [List.length_drop, List.length_map, HHL.out, Nat.mul_one]
              have H11 : Hid (∀ u ∈ ((heiL s.2).map (Value.int .i64)).drop (b + 1), u.oneCell' = true) := fun u hu => by
                obtain ⟨z, -, rfl⟩ := List.mem_map.1 (List.mem_of_mem_drop hu)
                rfl
              have hrun2 := run_slice_from (P := Try.prog) w8 Try.underlying41 hib hb1 g9 L c9 (b + 1) (by omega) hc9
              rw [show ((b + 1 : Nat) : Int) = (b : Int) + 1 from rfl] at hrun2
              have hsz8 := hx8.size
              have HG8 := Lib.hid hg8
              have HX8 := Lib.hid hx8
              have HB9 : Hid (b < (heiL s.2).length) := by show _ < _; rw [HHL.out]; exact hbl
              clear hrun hg8 hx8 HO9
              go_wp2_with (at_builtin; go_loud (refine wpList_append_own_at _ rfl _ _ 41 rfl w7.heap.size 2 ib (.int .i64 0) 1 8 Try.underlying41 hib hb0 hb1 hb2 rfl (by decide) _ b _ rfl hown8 ⟨g9, fromAt c9 (b + 1) 1, none⟩ _ _ _ rfl HL9.out HC8'.out H11.out HBND.out.1 HBND.out.2 hsz8 (fun v9 w9 hown9 hgrow9 _ hat9 => ?_)))
              have HS9 : Hid (FlSt w.heap.size m4 g cap n w3 (floJ W H nums s 0).1 (posL (floJ W H nums s 0).2) (heiL (floJ W H nums s 0).2) v8 v9 w9) := by
                have h := hown9
                rw [← HHL.out] at h
                have h2 := (HS7.out.swap.cut8 HB9.out HX8.out HG8.out hgrow9 h hat9).swap
                rw [← HBB.out] at h2
                have e1 : posL (floJ W H nums s 0).2 = (posL s.2).eraseIdx (floBest s) := map_eraseIdx _ _ _
                have e2 : heiL (floJ W H nums s 0).2 = (heiL s.2).eraseIdx (floBest s) := map_eraseIdx _ _ _
                show FlSt _ _ _ _ _ _ _ _ _ _ _ _
                rw [e1, e2]
                exact h2
              clear hown9 hgrow9 hat9 hown8 hrun2 HC8' HL9 H11 HG8 HX8 HS8 HS7 hlt9 hsz8
              have HL0 : Hid (0 < s.2.length) := by show _ < _; rw [HL.out]; exact h0
              clear HC8 HC9 HX HS HBE HAP HAH HMT HMS HBND HB5 HB9 HL HPL HHL HBB hb0' hbl'
              have HIJ := Lib.hid (fun j => HI.out.j (nums := nums) HL0.out j)
              have HJS := Lib.hid (fun j (hj : j < 4) => floJ_succ W H nums s hj)
              have hpos : (floAt s).1 < n := by rw [HN.out]; exact (HI.out.waits _ (floAt_mem HL0.out)).1
              have HNX : Hid (FloR W H nums (floJ W H nums s 4) res) := by show FloR _ _ _ _ _; rw [floJ_all]; exact HR.out.next HL0.out
              generalize floJ W H nums s = J at *
              have HQA : Hid (∀ j, j < 4 → (nb4 W (floAt s).1).getD j (0, 0) = ((((floAt s).1 % W : Nat) : Int) + ((stepL false).getD j (0, 0)).1, (((floAt s).1 / W : Nat) : Int) + ((stepL false).getD j (0, 0)).2)) := fun j hj => by
                match j, hj with
                | 0, _ => rfl
                | 1, _ => rfl
                | 2, _ => rfl
                | 3, _ => rfl
              have HQ2 : Hid (∀ j, j < 4 → ∀ sx sy, (stepL false).getD j (0, 0) = (sx, sy) → -1 ≤ sx ∧ sx ≤ 1 ∧ -1 ≤ sy ∧ sy ≤ 1) := fun j hj sx sy hs => by
                have := stepL_at false _ (getD_mem (show j < (stepL false).length from hj))
                rw [hs] at this
                exact this
              generalize (floAt s).1 = pos at *
              generalize (floAt s).2 = hv at *
              have hkW : pos % W < W := Nat.mod_lt _ (by omega)
              have hkH : pos / W < H := by rw [Nat.div_lt_iff_lt_mul (by omega)]; have := HN.out; omega
              have tm : (pos : Int) % (W : Int) = ((pos % W : Nat) : Int) := by rw [← Int.natCast_emod]
              have td : wrap64 ((pos : Int) / (W : Int)) = ((pos / W : Nat) : Int) := by
                rw [← Int.natCast_ediv]
                exact wrap_small (Int.natCast_nonneg _) (Int.le_trans (Int.ofNat_le.2 (show pos / W ≤ 64 from Nat.le_trans (Nat.le_of_lt hkH) hH)) (by decide))
              have HNQ : Hid (∀ a b : Int, hasB W H a b = true → (b * W + a).toNat < n) := fun a b h => by show _ < _; rw [HN.out]; exact idx_lt (q := (a, b)) h
              generalize nb4 W pos = Q at *
              generalize hx : pos % W = x at *
              generalize hy : pos / W = y at *
              clear hx hy
              have HTM := Lib.hid tm
              have HTD := Lib.hid td
              clear tm td HI HR
              have hpos0 : (0 : Int) ≤ (pos : Int) := by omega
              have hposn : (pos : Int) < (n : Int) := by omega
              go_wp2
              go_loopw [8, 9, 97] (fun v8 v9 i wr => ∃ j : Nat, j ≤ 4 ∧ i = .int .i64 j ∧ Hid (FlSt w.heap.size m4 g cap n w3 (J j).1 (posL (J j).2) (heiL (J j).2) v8 v9 wr)) (fun _ _ i _ => 4 - (intOf i).toNat)
              case atStart => exact ⟨0, Nat.zero_le _, rfl, HS9⟩
              case round =>
                clear HS9
                obtain ⟨j, hj, rfl, HS⟩ := hrel
                obtain ⟨wa, rfl⟩ : ∃ wa : World, wa = wr := ⟨_, rfl⟩
                by_cases hltj : j < 4
                · have hltj' : (j : Int) < 4 := by omega
                  have hj0 : (0 : Int) ≤ (j : Int) := by omega
                  have HRS : Hid (RowP wa a3 (stepL false)) := (HO3.out.wrote HS.out.wrote fun k h1 h2 h => by omega).row
                  obtain ⟨b2, o2, rfl, c0, c1⟩ := HRS.out.at (show j < (stepL false).length from hltj)
                  have HA := Lib.hid (HQA.out j hltj)
                  have HV := Lib.hid (HJS.out j hltj)
                  have HIV := Lib.hid (HIJ.out j)
                  have HS2 := Lib.hid (fun sx sy h => HQ2.out j hltj sx sy h)
                  generalize (stepL false).getD j (0, 0) = d at c0 c1 HA HS2
                  obtain ⟨sx, sy⟩ := d
                  dsimp only at c0 c1
                  rw [show Q.getD j (0, 0) = ((x : Int) + sx, (y : Int) + sy) from HA.out] at HV
                  obtain ⟨s1, s2, s3, s4⟩ := HS2.out sx sy rfl
                  have HI1 : Hid (∀ w', Calls Try.prog 195 #[.int .i64 ((x : Int) + sx), .int .i64 0, .int .i64 ((W : Int) - 1)] w' fun e w'' => e = .returned (.bool (inB ((x : Int) + sx) 0 ((W : Int) - 1))) ∧ w'.Ext w'') := fun w' => l00In_any _ _ _ w' _ rfl
                  have HI2 : Hid (∀ w', Calls Try.prog 195 #[.int .i64 ((y : Int) + sy), .int .i64 0, .int .i64 ((H : Int) - 1)] w' fun e w'' => e = .returned (.bool (inB ((y : Int) + sy) 0 ((H : Int) - 1))) ∧ w'.Ext w'') := fun w' => l00In_any _ _ _ w' _ rfl
                  have HHB : Hid (hasB W H ((x : Int) + sx) ((y : Int) + sy) = (inB ((x : Int) + sx) 0 ((W : Int) - 1) && inB ((y : Int) + sy) 0 ((H : Int) - 1))) := rfl
                  have hdiv : wrap64 ((n : Int) / (W : Int)) = (H : Int) := by
                    have h := HDIV.out
                    rw [Int.tdiv_eq_ediv_of_nonneg (by omega)] at h
                    rw [h]
                    exact wrap_small (by omega) (by omega)
                  have HDV := Lib.hid hdiv
                  clear hdiv HRS HA HS2
                  have q1 : -1 ≤ (x : Int) + sx := by have := Int.natCast_nonneg x; omega
                  have q2 : (x : Int) + sx ≤ 65 := Int.add_le_add (show (x : Int) ≤ 64 from Int.ofNat_le.2 (Nat.le_trans (Nat.le_of_lt hkW) hW)) s2
                  have q3 : -1 ≤ (y : Int) + sy := by have := Int.natCast_nonneg y; omega
                  have q4 : (y : Int) + sy ≤ 65 := Int.add_le_add (show (y : Int) ≤ 64 from Int.ofNat_le.2 (Nat.le_trans (Nat.le_of_lt hkH) hH)) s4
                  have tm := HTM.out
                  have td := HTD.out
                  go_wp2_with fail
                  refine wp_region_over_lit (by kernel_rfl) (by kernel_rfl) ?_; (repeat (go_big_quiet_step (fail))); refine wpQuiet_nil ?_; rintro _ ⟨x1, rfl⟩
                  have HSb := Lib.hid (HS.out.ext ⟨x1, rfl⟩)
                  have c1' := (show wa.Ext (wa.over x1) from ⟨x1, rfl⟩).cell c1
                  clear HS c0 c1
                  generalize wa.over x1 = wb at *
                  go_wp2_with fail
                  refine wp_region_over_lit (by kernel_rfl) (by kernel_rfl) ?_; (repeat (go_big_quiet_step (fail))); refine wpQuiet_nil ?_; rintro _ ⟨x1, rfl⟩
                  have HSc := Lib.hid (HSb.out.ext ⟨x1, rfl⟩)
                  rw [wrap_near (n := (y : Int) + sy) (Int.le_trans (by decide) q3) (Int.le_trans q4 (by decide))]
                  clear HSb c1' tm td q1 q2 q3 q4
                  generalize wb.over x1 = wc at *
                  cases hbx : inB ((x : Int) + sx) 0 ((W : Int) - 1)
                  · have hh : hasB W H ((x : Int) + sx) ((y : Int) + sy) = false := by rw [HHB.out, hbx]; rfl
                    rw [hbx] at HI1
                    have HQ : Hid (J (j + 1) = J j) := by
                      show _ = _
                      rw [HV.out]
                      exact floPut_out hh
                    clear hh HV HHB HI2 HDV hbx
                    go_wp2_with fail
                    refine (HI1.out _).mono ?_
                    rintro e w6 ⟨rfl, hx6⟩
                    have HS6 := Lib.hid (HSc.out.ext hx6)
                    clear hx6 HSc
                    go_wp2
                    go_roundw
                    case rel => exact ⟨j + 1, by omega, by go_num, by rw [HQ.out]; exact HS6⟩
                    case measure => simp [intOf]; omega
                  · rw [hbx] at HI1
                    cases hby : inB ((y : Int) + sy) 0 ((H : Int) - 1)
                    · have hh : hasB W H ((x : Int) + sx) ((y : Int) + sy) = false := by rw [HHB.out, hbx, hby]; rfl
                      rw [hby] at HI2
                      have HQ : Hid (J (j + 1) = J j) := by
                        show _ = _
                        rw [HV.out]
                        exact floPut_out hh
                      clear hh HV HHB hbx hby
                      go_wp2_with fail
                      refine (HI1.out _).mono ?_
                      rintro e w6 ⟨rfl, hx6⟩
                      have HS6 := Lib.hid (HSc.out.ext hx6)
                      clear hx6 HSc HI1
                      go_wp2_with fail
                      rw [HDV.out, wrap_small (n := (H : Int) - 1) (by omega) (by omega)]
                      refine (HI2.out _).mono ?_
                      rintro e w7 ⟨rfl, hx7⟩
                      have HS7 := Lib.hid (HS6.out.ext hx7)
                      clear hx7 HS6 HI2
                      go_wp2
                      go_roundw
                      case rel => exact ⟨j + 1, by omega, by go_num, by rw [HQ.out]; exact HS7⟩
                      case measure => simp [intOf]; omega
                    · have hh : hasB W H ((x : Int) + sx) ((y : Int) + sy) = true := by rw [HHB.out, hbx, hby]; rfl
                      rw [hby] at HI2
                      obtain ⟨q1, q2, q3, q4⟩ := hasB_true.1 hh
                      obtain ⟨X, hX⟩ : ∃ X : Nat, (x : Int) + sx = X := ⟨((x : Int) + sx).toNat, by omega⟩
                      obtain ⟨Y, hY⟩ : ∃ Y : Nat, (y : Int) + sy = Y := ⟨((y : Int) + sy).toNat, by omega⟩
                      obtain ⟨p, hpN⟩ : ∃ p, p = Y * W + X := ⟨_, rfl⟩
                      have hp : (Y : Int) * (W : Int) + (X : Int) = (p : Int) := by rw [hpN, Int.natCast_add, Int.natCast_mul]
                      have e2 : p < n := by
                        have h := HNQ.out _ _ hh
                        rw [hX, hY, hp, Int.toNat_natCast] at h
                        exact h
                      have HPY : Hid ((J j).1.getD p 0 = 0 → J (j + 1) = ((J j).1.set p ((J j).1.getD pos 0), (J j).2 ++ [(p, mxJ hv (nums.getD p 0))])) := fun h => by
                        rw [HV.out]
                        have h1 := floPut_yes (nums := nums) (pos := pos) (h := hv) (s := J j) (q := ((x : Int) + sx, (y : Int) + sy)) hh (by simp only; rw [hX, hY, hp, Int.toNat_natCast]; exact h)
                        simp only [hX, hY, hp, Int.toNat_natCast] at h1
                        rw [hX, hY]
                        exact h1
                      have HPN : Hid ((J j).1.getD p 0 ≠ 0 → J (j + 1) = J j) := fun h => by
                        rw [HV.out]
                        exact floPut_set (by simp only; rw [hX, hY, hp, Int.toNat_natCast]; exact h)
                      have n1 : 0 ≤ (Y : Int) * (W : Int) := by rw [← Int.natCast_mul]; omega
                      have n2 : (Y : Int) * (W : Int) ≤ 4096 := by have h1 := Int.natCast_nonneg X; generalize (Y : Int) * (W : Int) = yw at *; omega
                      clear hpN
                      rw [hX] at HI1
                      rw [hY] at HI2
                      clear hh HV HHB hbx hby q1 q2 q3 q4
                      go_wp2_with fail
                      rw [hX]
                      refine (HI1.out _).mono ?_
                      rintro e w6 ⟨rfl, hx6⟩
                      have HS6 := Lib.hid (HSc.out.ext hx6)
                      clear hx6 HSc HI1
                      go_wp2_with fail
                      rw [HDV.out, wrap_small (n := (H : Int) - 1) (by omega) (by omega)]
                      refine (HI2.out _).mono ?_
                      rintro e w7 ⟨rfl, hx7⟩
                      have HS7 := Lib.hid (HS6.out.ext hx7)
                      clear hx7 HS6 HI2
                      have hcI := (HS7.out.at e2).1
                      have hnz := HIV.out.1.nn p
                      have hp0 : (0 : Int) ≤ (p : Int) := by omega
                      have hpn : (p : Int) < (n : Int) := by omega
                      clear hX hY
                      by_cases hz : (J j).1.getD p 0 = 0
                      · have HQ := Lib.hid (HPY.out hz)
                        rw [hz] at hcI
                        have hFS := HS7.out.at e2
                        have hcP := (HS7.out.at hpos).1
                        have HAF : Hid (∀ z, FlSt w.heap.size m4 g cap n w3 ((J j).1.set p z) (posL (J j).2) (heiL (J j).2) u8 u9 (w7.setCell ⟨g, p, none⟩ (.int .i64 z))) := hFS.2.2
                        have hff := hFS.2.1
                        obtain ⟨bk', ok', ek, hck⟩ := HRK.out p (by rw [HKL.out]; exact e2)
                        simp only [Option.some.injEq, Addr.mk.injEq, and_true] at ek
                        obtain ⟨rfl, rfl⟩ := ek
                        have HCK : Hid (∀ {l ps hs : List Int} {a b : Value} {wr : World}, FlSt w.heap.size m4 g cap n w3 l ps hs a b wr → wr.cell? ⟨bk, ok + p, none⟩ = some (.int .i64 (nums.getD p 0))) := fun {l ps hs a b wr} hs => (hs.x HX3.out (Nat.le_refl _)).cell hck
                        have HMX := Lib.hid (fun w' => l00MaxK_any hv (nums.getD p 0) w')
                        rw [mxK_J] at HMX
                        clear hck hFS hz hnz HPN HPY
                        generalize (J j).1.getD pos 0 = mv at *
                        generalize hgn : nums.getD p 0 = nz at *
                        clear hgn
                        generalize mxJ hv nz = mx at *
                        have hml := Nat.lt_of_lt_of_le HIV.out.2.2 HB.out
                        have hlp : (posL (J j).2).length ≤ 3 * n := by rw [posL_len]; unfold floM at hml; omega
                        have hlh : (heiL (J j).2).length ≤ 3 * n := by rw [heiL_len]; unfold floM at hml; omega
                        have B81 : Hid ((posL (J j).2).length + 1 ≤ maxLen) := by show _ ≤ _; unfold maxLen; omega
                        have B82 : Hid (((posL (J j).2).length + 1) * 8 ≤ 140737488355328) := by show _ ≤ _; omega
                        have B91 : Hid ((heiL (J j).2).length + 1 ≤ maxLen) := by show _ ≤ _; unfold maxLen; omega
                        have B92 : Hid (((heiL (J j).2).length + 1) * 8 ≤ 140737488355328) := by show _ ≤ _; omega
                        clear hml hlp hlh
                        have hlo7 : ∀ (wq : World), w.heap.size ≤ wq.heap.size → ∀ (o : Obj), w.heap.size ≤ (wq.alloc o).heap.size := fun wq h o => by rw [show (wq.alloc o).heap.size = wq.heap.size + 1 by simp]; omega
                        have HLO := Lib.hid hlo7
                        clear hlo7
                        go_upto_region 33 with fail
                        have HSd := Lib.hid (HAF.out mv)
                        clear HAF HS7 hcI hcP hff
                        generalize w7.setCell ⟨g, p, none⟩ (.int .i64 mv) = wd at *
                        have hown8 := HSd.out.r8
                        unfold GrowOf at hown8
                        have hlod := HLO.out wd HSd.out.size
                        go_wp2_with (at_builtin; refine wpList_append_own_at _ rfl _ _ 41 rfl w.heap.size 2 ib (.int .i64 0) 1 8 Try.underlying41 hib hb0 hb1 hb2 rfl (by decide) _ _ _ rfl (hown8.alloc _) ⟨wd.heap.size, 0, none⟩ 1 1 [.int .i64 (p : Int)] rfl rfl (cell_one_new _ _ _) (by simp [Value.oneCell']) B81.out B82.out (hlod _) (fun v' we hown' hgrow _ hat => ?_); have HSe := Lib.hid (HSd.out.push8 (World.Ext.alloc (.refl _) _) hgrow hown' hat); have hckE := HCK.out HSe.out; clear hgrow hown' hown8 hat HSd hlod)
                        refine (HMX.out _).mono ?_
                        rintro e wf ⟨rfl, hxf⟩
                        have HSf := Lib.hid (HSe.out.ext hxf)
                        have hown9 := HSf.out.r9
                        unfold GrowOf at hown9
                        have hlof := HLO.out wf HSf.out.size
                        clear hckE hxf HSe
                        go_wp2_with (at_builtin; refine wpList_append_own_at _ rfl _ _ 41 rfl w.heap.size 2 ib (.int .i64 0) 1 8 Try.underlying41 hib hb0 hb1 hb2 rfl (by decide) _ _ _ rfl (hown9.alloc _) ⟨wf.heap.size, 0, none⟩ 1 1 [.int .i64 mx] rfl rfl (cell_one_new _ _ _) (by simp [Value.oneCell']) B91.out B92.out (hlof _) (fun v'' wh hown' hgrow _ hat => ?_))
                        have HSg := Lib.hid (HSf.out.swap.push8 (World.Ext.alloc (.refl _) _) hgrow hown' hat).swap
                        have eP : posL (J (j + 1)).2 = posL (J j).2 ++ [(p : Int)] := by rw [HQ.out]; unfold posL; rw [List.map_append]; rfl
                        have eH : heiL (J (j + 1)).2 = heiL (J j).2 ++ [mx] := by rw [HQ.out]; unfold heiL; rw [List.map_append]; rfl
                        have e1 : (J (j + 1)).1 = (J j).1.set p mv := by rw [HQ.out]
                        have HEN := Lib.hid (And.intro eP (And.intro eH e1))
                        clear hgrow hown' hown9 hat HSf eP eH e1 hlof
                        go_wp2
                        go_roundw
                        case rel => exact ⟨j + 1, by omega, by go_num, by rw [HEN.out.1, HEN.out.2.1, HEN.out.2.2]; exact HSg⟩
                        case measure => simp [intOf]; omega
                      · have HQ := Lib.hid (HPN.out hz)
                        have hzp : 0 < (J j).1.getD p 0 := by omega
                        clear hz hnz HPN HPY
                        generalize (J j).1.getD p 0 = z at *
                        go_wp2
                        go_roundw
                        case rel => exact ⟨j + 1, by omega, by go_num, by rw [HQ.out]; exact HS7⟩
                        case measure => simp [intOf]; omega
                · have hj4 : j = 4 := by omega
                  subst hj4
                  have HPN : Hid (FlP W H nums res w.heap.size m4 g cap n w3 (floM (J 4)) u8 u9 wa) := ⟨_, HS.out, (HIJ.out 4).1, HNX.out, Nat.le_trans (Nat.le_of_lt (HIJ.out 4).2.2) HB.out, rfl⟩
                  have hlt2 : floM (J 4) < m0 := Nat.lt_of_lt_of_eq (HIJ.out 4).2.2 HCNT.out
                  have HLT := Lib.hid hlt2
                  clear hlt2 HS
                  go_wp2
                  go_roundw
                  case rel => exact ⟨_, HPN⟩
                  case measure => exact FlM_lt hm0.out HPN.out HLT.out
end Go.Proofs.Ytldbabigjfkdlaa
