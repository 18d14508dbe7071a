/- An element is drawn. -/
import Derived.Test.YtkpgelhmeokemaaGenA
import Derived.Test.YtkpgelhmeokemaaMor
import Derived.Test.YtkpgelhmeokemaaRowK
import Derived.Deep.RegionLaw
import Derived.Deep.DeepCutAuto
import Derived.Deep.CutBlock
namespace Go.Proofs.Ytkpgelhmeokemaa
open Go Go.RowKit
/-- Where an offset belongs. -/
def putAt (o : Int × Int) : List (Int × Int) → Nat
  | [] => 0
  | p :: ps => if befB p o then putAt o ps + 1 else 0
theorem putAt_le (o : Int × Int) : ∀ ps, putAt o ps ≤ ps.length
  | [] => Nat.le_refl _
  | p :: ps => by
    unfold putAt
    split
    · have := putAt_le o ps
      simp only [List.length_cons]
      omega
    · exact Nat.zero_le _
theorem putAt_bef (o : Int × Int) : ∀ ps i, i < putAt o ps → befB (ps.getD i (0, 0)) o = true
  | [], i, h => by cases h
  | p :: ps, i, h => by
    unfold putAt at h
    split at h
    · rename_i hb
      cases i with
      | zero => simpa using hb
      | succ i => simpa using putAt_bef o ps i (by omega)
    · cases h
theorem putAt_not (o : Int × Int) : ∀ ps, putAt o ps < ps.length → befB (ps.getD (putAt o ps) (0, 0)) o = false
  | [], h => by cases h
  | p :: ps, h => by
    unfold putAt at h ⊢
    split
    · rename_i hb
      rw [if_pos hb] at h
      simpa using putAt_not o ps (by simpa using h)
    · rename_i hb
      simpa using hb
def putL (ps : List (Int × Int)) (o : Int × Int) : List (Int × Int) :=
  if putAt o ps < ps.length ∧ ps.getD (putAt o ps) (0, 0) = o then ps else ps.take (putAt o ps) ++ [o] ++ ps.drop (putAt o ps)
@[go_sem] theorem Try.eqSpotR (a b c d : Int) (w : World) : (Op.equalIn 10000 45 (.agg #[.int .i64 a, .int .i64 b]) (.agg #[.int .i64 c, .int .i64 d])).run Try.prog w = .ok (a == c && b == d) w := by
  have u3 := Try.underlying2
  have hS : Try.prog.underlying 45 = some (.struct (Try.prog.fieldsOf 45)) := by kernel_rfl
  have hp : Try.prog.stoodInHeld 45 = false := by kernel_rfl
  rw [show (10000 : Nat) = 9999 + 1 from rfl, run_equalIn_agg w 9999 45 _ _ hS hp]
  simp only [Program.fieldsOf, Try.underlying45]
  go_simp
  by_cases h1 : a = c <;> by_cases h2 : b = d <;> simp [h1, h2]
theorem Try.infoSpotE : (Try.prog.info? 45).map (fun i => (i.zero, i.size, i.bytes)) = some (some (.agg #[.int .i64 0, .int .i64 0]), 2, 16) := by kernel_rfl
theorem flatP_take : ∀ (ps : List (Int × Int)) (K : Nat), flatP (ps.take K) = (flatP ps).take (K * 2)
  | [], K => by simp [flatP]
  | p :: ps, 0 => by simp [flatP]
  | p :: ps, K + 1 => by
    rw [List.take_succ_cons, show (K + 1) * 2 = K * 2 + 1 + 1 by omega]
    simp only [flatP, List.take_succ_cons]
    rw [flatP_take ps K]
theorem flatP_drop : ∀ (ps : List (Int × Int)) (K : Nat), flatP (ps.drop K) = (flatP ps).drop (K * 2)
  | [], K => by simp [flatP]
  | p :: ps, 0 => by simp
  | p :: ps, K + 1 => by
    rw [List.drop_succ_cons, show (K + 1) * 2 = K * 2 + 1 + 1 by omega]
    simp only [flatP, List.drop_succ_cons]
    rw [flatP_drop ps K]
def PutRet (lo g : Nat) (w : World) (qs : List (Int × Int)) (e : Ending) (w' : World) : Prop :=
  ∃ g' cap, e = .returned (.slice (some ⟨g', 0, none⟩) qs.length cap) ∧ GrowP lo 45 w' (.slice (some ⟨g', 0, none⟩) qs.length cap) qs ∧ Wrote (fun k => k = g) w w'
set_option maxRecDepth 5000 in
set_option maxHeartbeats 1600000 in
theorem l03Put_any (lo g cap : Nat) (ps : List (Int × Int)) (ox oy : Int) (w : World) (hn : ps.length ≤ 50) (hlo : lo ≤ w.heap.size) (hg : GrowP lo 45 w (.slice (some ⟨g, 0, none⟩) ps.length cap) ps) :
    Calls Try.prog 51 #[.slice (some ⟨g, 0, none⟩) ps.length cap, .agg #[.int .i64 ox, .int .i64 oy]] w (PutRet lo g w (putL ps (ox, oy))) := by
  obtain ⟨W0, hW0⟩ : ∃ W0, W0 = w.alloc (.cells #[.int .i64 ox, .int .i64 oy] 45) := ⟨_, rfl⟩
  have hx0 : w.Ext W0 := by rw [hW0]; repeat (first | exact World.Ext.refl _ | exact ⟨_, rfl⟩ | assumption | refine World.Ext.over ?_ _ | refine World.Ext.drewN ?_ _ | refine World.Ext.drew ?_ | refine World.Ext.alloc ?_ _ | refine World.Ext.setCell ?_ (by simp) _)
  have d0 : W0.cell? ⟨w.heap.size, 0, none⟩ = some (.int .i64 ox) := by rw [hW0]; simp [go_sem]
  have d1 : W0.cell? ⟨w.heap.size, 1, none⟩ = some (.int .i64 oy) := by rw [hW0]; simp [go_sem]
  have HD : Hid (∀ w', W0.Ext w' → w'.cell? ⟨w.heap.size, 0, none⟩ = some (.int .i64 ox) ∧ w'.cell? ⟨w.heap.size, 1, none⟩ = some (.int .i64 oy)) := fun w' hx => ⟨hx.cell d0, hx.cell d1⟩
  have HRW : Hid (RowP W0 (some ⟨g, 0, none⟩) ps) := ((GrowP.ext hg hx0).own).row
  have HX0 := Lib.hid hx0
  have HG := Lib.hid hg
  have HLO := Lib.hid hlo
  obtain ⟨K, hK⟩ : ∃ K, K = putAt (ox, oy) ps := ⟨_, rfl⟩
  have HKL : Hid (K ≤ ps.length) := by rw [hK]; exact putAt_le _ _
  have HKB : Hid (∀ i, i < K → befB (ps.getD i (0, 0)) (ox, oy) = true) := by rw [hK]; exact putAt_bef _ _
  have HKN : Hid (K < ps.length → befB (ps.getD K (0, 0)) (ox, oy) = false) := by rw [hK]; exact putAt_not _ _
  have HPL : Hid (putL ps (ox, oy) = if K < ps.length ∧ ps.getD K (0, 0) = (ox, oy) then ps else ps.take K ++ [(ox, oy)] ++ ps.drop K) := by rw [hK]; rfl
  have HBF : Hid (∀ p q : Int × Int, ∀ x1, Calls Try.prog 62 #[.agg #[.int .i64 p.1, .int .i64 p.2], .agg #[.int .i64 q.1, .int .i64 q.2]] x1 fun e w'' => e = .returned (.bool (befB p q)) ∧ x1.Ext w'') := fun p q x1 => l03Before_any p q x1 _ rfl
  generalize putL ps (ox, oy) = qs at *
  clear hx0 d0 d1 hg hK
  go_enter Try.func51, Try.ntmps51
  go_upto_block 0 with fail
  rw [← hW0]
  clear hW0
  go_cut [5] (fun i wx => i = .int .i64 K ∧ Hid (W0.Ext wx))
  case first =>
    go_wp2_with fail
    go_loopw [5] (fun i wr => ∃ k : Nat, k ≤ K ∧ i = .int .i64 k ∧ Hid (W0.Ext wr)) (fun i _ => ps.length - (intOf i).toNat)
    case atStart => exact ⟨0, Nat.zero_le _, rfl, .refl _⟩
    case round =>
      obtain ⟨k, hk, rfl, HX⟩ := hrel
      obtain ⟨w1, rfl⟩ : ∃ w1 : World, w1 = wr := ⟨_, rfl⟩
      have hk0 : (0 : Int) ≤ (k : Int) := by omega
      obtain ⟨d0, d1⟩ := HD.out w1 HX.out
      by_cases hlt : k < ps.length
      · have hlt' : (k : Int) < (ps.length : Int) := by omega
        have hdl : decide ((k : Int) < (ps.length : Int)) = true := decide_eq_true hlt'
        obtain ⟨b, q, eb, e0, e1⟩ := RowP.at (RowP.ext HRW.out HX.out) hlt
        simp only [Option.some.injEq, Addr.mk.injEq, and_true] at eb
        obtain ⟨rfl, rfl⟩ := eb
        rw [Nat.zero_add] at e0 e1
        have HB1 := Lib.hid (HKB.out k)
        have HN1 := Lib.hid HKN.out
        obtain ⟨⟨px, py⟩, hp⟩ : ∃ p, p = ps.getD k (0, 0) := ⟨_, rfl⟩
        rw [← hp] at e0 e1 HB1
        have HBK : Hid (∀ x1, Calls Try.prog 62 #[.agg #[.int .i64 px, .int .i64 py], .agg #[.int .i64 ox, .int .i64 oy]] (w1.over x1) fun e w'' => e = .returned (.bool (befB (px, py) (ox, oy))) ∧ (w1.over x1).Ext w'') := fun x1 => HBF.out (px, py) (ox, oy) _
        have HP := Lib.hid hp
        clear hp
        dsimp only at e0 e1
        by_cases hkK : k < K
        · have hbt : befB (px, py) (ox, oy) = true := HB1.out hkK
          rw [hbt] at HBK
          clear hbt HB1 HN1
          go_wp2_with fail
          refine wp_region_over_lit (by kernel_rfl) (by kernel_rfl) ?_; (repeat (go_big_quiet_step ((go_at_call 62; exact Calls.over_of (HBK.out _))))); refine wpQuiet_nil ?_; rintro _ ⟨x1, rfl⟩
          have HX2 : Hid (W0.Ext (w1.over x1)) := HX.out.trans ⟨x1, rfl⟩
          clear HX d0 d1 e0 e1
          go_wp2
          go_roundw
          case rel => exact ⟨k + 1, by omega, by go_num, HX2⟩
          case measure => simp [intOf]; omega
        · have hkk : k = K := by omega
          subst hkk
          have hbt : befB (px, py) (ox, oy) = false := by have h := HN1.out hlt; rw [← HP.out] at h; exact h
          rw [hbt] at HBK
          clear hbt HB1 HN1 hkK
          go_wp2_with fail
          refine wp_region_over_lit (by kernel_rfl) (by kernel_rfl) ?_; (repeat (go_big_quiet_step ((go_at_call 62; exact Calls.over_of (HBK.out _))))); refine wpQuiet_nil ?_; rintro _ ⟨x1, rfl⟩
          have HX2 : Hid (W0.Ext (w1.over x1)) := HX.out.trans ⟨x1, rfl⟩
          clear HX d0 d1 e0 e1
          go_wp2
          go_meet
          exact ⟨rfl, HX2⟩
      · have hkk : k = K := by have := HKL.out; omega
        subst hkk
        have hlt' : ¬ (k : Int) < (ps.length : Int) := by omega
        have hdl : decide ((k : Int) < (ps.length : Int)) = false := decide_eq_false hlt'
        go_wp2_with fail
        refine wp_region_over_lit (by kernel_rfl) (by kernel_rfl) ?_; (repeat (go_big_quiet_step (fail))); refine wpQuiet_nil ?_; rintro _ ⟨x1, rfl⟩
        have HX2 : Hid (W0.Ext (w1.over x1)) := HX.out.trans ⟨x1, rfl⟩
        clear HX d0 d1
        go_wp2
        go_meet
        exact ⟨rfl, HX2⟩
  case rest =>
    obtain ⟨w2, rfl⟩ : ∃ w2 : World, w2 = wc := ⟨_, rfl⟩
    obtain ⟨rfl, HX2⟩ := hcut
    have hK0 : (0 : Int) ≤ (K : Int) := by omega
    have hKn : K ≤ ps.length := HKL.out
    go_upto_region 4 with fail
    go_cut [32] (fun t wx => t = .bool (decide (K < ps.length ∧ ps.getD K (0, 0) = (ox, oy))) ∧ Hid (W0.Ext wx))
    case first =>
      obtain ⟨d0, d1⟩ := HD.out w2 HX2.out
      by_cases hlt : K < ps.length
      · have hlt' : (K : Int) < (ps.length : Int) := by omega
        have hdl : decide ((K : Int) < (ps.length : Int)) = true := decide_eq_true hlt'
        obtain ⟨b, q, eb, e0, e1⟩ := RowP.at (RowP.ext HRW.out HX2.out) hlt
        simp only [Option.some.injEq, Addr.mk.injEq, and_true] at eb
        obtain ⟨rfl, rfl⟩ := eb
        rw [Nat.zero_add] at e0 e1
        obtain ⟨⟨px, py⟩, hp⟩ : ∃ p, p = ps.getD K (0, 0) := ⟨_, rfl⟩
        rw [← hp] at e0 e1
        have HV1 : Hid (px = ox → py = oy → true = decide (K < ps.length ∧ ps.getD K (0, 0) = (ox, oy))) := fun h1 h2 => (decide_eq_true ⟨hlt, by rw [← hp, h1, h2]⟩).symm
        have HV2 : Hid (¬ (px = ox ∧ py = oy) → false = decide (K < ps.length ∧ ps.getD K (0, 0) = (ox, oy))) := fun h => (decide_eq_false fun h2 => by rw [← hp] at h2; simp only [Prod.mk.injEq] at h2; exact h h2.2).symm
        clear hp
        dsimp only at e0 e1
        by_cases h1 : px = ox
        · by_cases h2 : py = oy
          · have HV := Lib.hid (HV1.out h1 h2)
            clear HV1 HV2
            subst h1 h2
            go_wp2_with fail
            refine wp_region_over_lit (by kernel_rfl) (by kernel_rfl) ?_; (repeat (go_big_quiet_step (fail))); refine wpQuiet_nil ?_; rintro _ ⟨x1, rfl⟩
            have HX3 : Hid (W0.Ext (w2.over x1)) := HX2.out.trans ⟨x1, rfl⟩
            clear d0 d1 e0 e1
            go_wp2
            go_meet
            exact ⟨by rw [HV.out], HX3⟩
          · have HV := Lib.hid (HV2.out fun h => h2 h.2)
            clear HV1 HV2
            subst h1
            go_wp2_with fail
            refine wp_region_over_lit (by kernel_rfl) (by kernel_rfl) ?_; (repeat (go_big_quiet_step (fail))); refine wpQuiet_nil ?_; rintro _ ⟨x1, rfl⟩
            have HX3 : Hid (W0.Ext (w2.over x1)) := HX2.out.trans ⟨x1, rfl⟩
            clear d0 d1 e0 e1
            go_wp2
            go_meet
            exact ⟨by rw [HV.out], HX3⟩
        · have HV := Lib.hid (HV2.out fun h => h1 h.1)
          clear HV1 HV2
          go_wp2_with fail
          refine wp_region_over_lit (by kernel_rfl) (by kernel_rfl) ?_; (repeat (go_big_quiet_step (fail))); refine wpQuiet_nil ?_; rintro _ ⟨x1, rfl⟩
          have HX3 : Hid (W0.Ext (w2.over x1)) := HX2.out.trans ⟨x1, rfl⟩
          clear d0 d1 e0 e1
          go_wp2
          go_meet
          exact ⟨by rw [HV.out], HX3⟩
      · have hlt' : ¬ (K : Int) < (ps.length : Int) := by omega
        have hdl : decide ((K : Int) < (ps.length : Int)) = false := decide_eq_false hlt'
        have HV : Hid (false = decide (K < ps.length ∧ ps.getD K (0, 0) = (ox, oy))) := (decide_eq_false fun h => hlt h.1).symm
        go_wp2_with fail
        refine wp_region_over_lit (by kernel_rfl) (by kernel_rfl) ?_; (repeat (go_big_quiet_step (fail))); refine wpQuiet_nil ?_; rintro _ ⟨x1, rfl⟩
        have HX3 : Hid (W0.Ext (w2.over x1)) := HX2.out.trans ⟨x1, rfl⟩
        clear d0 d1
        go_wp2
        go_meet
        exact ⟨by rw [HV.out], HX3⟩
    case rest =>
      obtain ⟨w3, rfl⟩ : ∃ w3 : World, w3 = wc := ⟨_, rfl⟩
      obtain ⟨rfl, HX3⟩ := hcut
      by_cases hin : K < ps.length ∧ ps.getD K (0, 0) = (ox, oy)
      · have hq : qs = ps := by have h := HPL.out; rw [if_pos hin] at h; exact h
        rw [decide_eq_true hin]
        subst hq
        clear hin HPL HKN HKB HX2 HRW
        go_wp2
        go_ret
        exact ⟨g, cap, rfl, GrowP.ext HG.out (HX0.out.trans HX3.out), (HX0.out.trans HX3.out).wrote _⟩
      · have hq : qs = ps.take K ++ [(ox, oy)] ++ ps.drop K := by have h := HPL.out; rw [if_neg hin] at h; exact h
        have HQ := Lib.hid hq
        rw [decide_eq_false hin]
        obtain ⟨i0, hi, hz0, hz1, hz2⟩ := info_parts Try.infoSpotE
        have HG3 : Hid (w3.ownsRow lo 45 2 (.slice (some ⟨g, 0, none⟩) ps.length cap) ps.length ((flatP ps).map (Value.int .i64))) := GrowP.ext HG.out (HX0.out.trans HX3.out)
        have hcap : ps.length ≤ cap := HG3.out.le
        have hlo3 : lo ≤ w3.heap.size := Nat.le_trans HLO.out (Nat.le_trans HX0.out.size HX3.out.size)
        have HO3 : Hid ((w3.alloc (.cells #[] 45)).ownsRow w3.heap.size 45 2 (.slice (some ⟨w3.heap.size, 0, none⟩) 0 0) 0 []) := GrowP.empty (lo := w3.heap.size) w3 (Nat.le_refl _)
        have HR1 : Hid (∀ wq, (Instr.sliceAt 42 (.slice (some ⟨g, 0, none⟩) ps.length cap) (some (.int .i64 K)) none none).run Try.prog wq = .ok (.slice (some ⟨g, fromAt cap K 2, none⟩) (ps.length - K) (cap - K)) wq) := fun wq => run_slice_from wq Try.underlying42 hi hz1 g _ _ K hKn hcap
        have HR2 : Hid (∀ wq, (Instr.sliceAt 42 (.slice (some ⟨g, 0, none⟩) ps.length cap) none (some (.int .i64 K)) none).run Try.prog wq = .ok (.slice (some ⟨g, 0, none⟩) K cap) wq) := fun wq => run_slice_to wq Try.underlying42 hi g _ _ K hKn hcap
        have HC1 := Lib.hid (HG3.out.restCells hKn)
        have hl1 : (((flatP ps).map (Value.int .i64)).drop (K * 2)).length = (ps.length - K) * 2 := by rw [List.length_drop, List.length_map, flatP_len]; omega
        have HL1 := Lib.hid hl1
        have h11 : ∀ u ∈ ((flatP ps).map (Value.int .i64)).drop (K * 2), u.oneCell' = true := fun u hu => by
          obtain ⟨z, -, rfl⟩ := List.mem_map.1 (List.mem_of_mem_drop hu)
          rfl
        have H11 := Lib.hid h11
        have hB1 : 0 + (ps.length - K) ≤ maxLen := by unfold maxLen; omega
        have hB2 : (0 + (ps.length - K)) * 16 ≤ 140737488355328 := by omega
        have hB3 : K + 1 ≤ maxLen := by unfold maxLen; omega
        have hB4 : (K + 1) * 16 ≤ 140737488355328 := by omega
        have hB5 : K + 1 + (ps.length - K) ≤ maxLen := by unfold maxLen; omega
        have hB6 : (K + 1 + (ps.length - K)) * 16 ≤ 140737488355328 := by omega
        have HB := Lib.hid (And.intro hB1 (And.intro hB2 (And.intro hB3 (And.intro hB4 (And.intro hB5 hB6)))))
        have hgb := HG3.out.blockLt
        clear hl1 h11 hq hin hB1 hB2 hB3 hB4 hB5 hB6 HPL HKN HKB HRW HX2
        have hrun1 := HR1.out (w3.alloc (.cells #[] 45))
        go_upto_region 6 with fail
        go_wp2_with (at_builtin; go_loud (refine wpList_append_own_at _ rfl _ _ 42 rfl w3.heap.size 45 i0 (.agg #[.int .i64 0, .int .i64 0]) 2 16 Try.underlying42 hi hz0 hz1 hz2 rfl (by decide) _ 0 [] rfl HO3.out ⟨g, fromAt cap K 2, none⟩ _ _ _ rfl HL1.out (fun j u hu => World.Ext.cell (by repeat (first | exact World.Ext.refl _ | exact ⟨_, rfl⟩ | assumption | refine World.Ext.over ?_ _ | refine World.Ext.drewN ?_ _ | refine World.Ext.drew ?_ | refine World.Ext.alloc ?_ _ | refine World.Ext.setCell ?_ (by simp) _)) (HC1.out j u hu)) H11.out HB.out.1 HB.out.2.1 (by simp) (fun v6 w5 hown6 hgrow6 _ hat6 => ?_)))
        have HS6 : Hid (∃ (b6 c6 : Nat), v6 = .slice (some ⟨b6, 0, none⟩) (ps.length - K) c6 ∧ w3.heap.size ≤ b6 ∧ w5.ownsRow w3.heap.size 45 2 (.slice (some ⟨b6, 0, none⟩) (ps.length - K) c6) (ps.length - K) (((flatP ps).map (Value.int .i64)).drop (K * 2))) := by
          have hat := hat6
          obtain ⟨a6, c6, rfl, -⟩ := hown6.form
          obtain ⟨b6, rfl⟩ : ∃ b6, a6 = some ⟨b6, 0, none⟩ := by
            rcases hown6.2 with h | ⟨g6, cap6, cur6, h, -⟩
            · have h1 := h.1
              simp only [Value.slice.injEq] at h1
              rw [h1.1] at hat
              rcases hat with h | h <;> cases h
            · simp only [Value.slice.injEq] at h
              exact ⟨g6, h.1⟩
          refine ⟨b6, c6, by rw [Nat.zero_add], ?_, by rw [Nat.zero_add, List.nil_append] at hown6; exact hown6⟩
          have hsz : (w3.alloc (.cells #[] 45)).heap.size = w3.heap.size + 1 := by simp
          rw [hsz] at hat
          rcases hat with h | h
          · exact Nat.le_of_eq (Option.some.inj h).symm
          · exact Nat.le_of_lt (Nat.lt_of_lt_of_eq (Nat.lt_succ_self _) (Option.some.inj h).symm)
        obtain ⟨b6, c6, rfl, hb6, hown⟩ := HS6.out
        have HO6 := Lib.hid hown
        have HW5 : Hid (w3.Ext w5) := World.Ext.grown (World.Ext.alloc (World.Ext.refl _) _) hgrow6 (fun k hk => Nat.le_of_eq (Option.some.inj hk))
        clear hown hown6 hgrow6 hat6 HS6 hrun1 HO3 HC1 HR1
        have HG5 : Hid (w5.ownsRow lo 45 2 (.slice (some ⟨g, 0, none⟩) ps.length cap) ps.length ((flatP ps).map (Value.int .i64))) := World.ownsRow.ext HG3.out HW5.out
        obtain ⟨d0, d1⟩ := HD.out w5 (HX3.out.trans HW5.out)
        have l0 := World.block_lt_of_cell? _ _ d0
        have hrun2 := HR2.out
        have hlo5 : lo ≤ w5.heap.size := Nat.le_trans hlo3 HW5.out.size
        have hne6 : g ≠ b6 := by omega
        have HC5 := Lib.hid (HG5.out.cut hKn)
        have hb65 := HO6.out.blockLt
        have HW05 : Hid (Wrote (fun k => k = g) w w5) := (HX0.out.trans (HX3.out.trans HW5.out)).wrote _
        have HWX : Hid (w.heap.size ≤ w5.heap.size) := (HX0.out.trans (HX3.out.trans HW5.out)).size
        have HT6 : Hid (∀ (o : Obj) (w6 : World), (w5.drew.alloc o).grownBy w6 (some g) → w6.ownsRow w3.heap.size 45 2 (.slice (some ⟨b6, 0, none⟩) (ps.length - K) c6) (ps.length - K) (((flatP ps).map (Value.int .i64)).drop (K * 2)) ∧ Wrote (fun k => k = g) w w6) := fun o w6 hg => by
          refine ⟨World.ownsRow.keep HO6.out fun k hk => ?_, ?_⟩
          · have e : b6 = k := Option.some.inj hk
            subst e
            have hx : w5.Ext (w5.drew.alloc o) := by repeat (first | exact World.Ext.refl _ | exact ⟨_, rfl⟩ | assumption | refine World.Ext.over ?_ _ | refine World.Ext.drewN ?_ _ | refine World.Ext.drew ?_ | refine World.Ext.alloc ?_ _ | refine World.Ext.setCell ?_ (by simp) _)
            rw [hg.block b6 (Nat.lt_of_lt_of_le hb65.2 hx.size) (fun e => hne6 (Option.some.inj e).symm)]
            exact hx.block hb65.2
          · refine Wrote.grown (HW05.out.trans (World.Ext.wrote (show w5.Ext (w5.drew.alloc o) by repeat (first | exact World.Ext.refl _ | exact ⟨_, rfl⟩ | assumption | refine World.Ext.over ?_ _ | refine World.Ext.drewN ?_ _ | refine World.Ext.drew ?_ | refine World.Ext.alloc ?_ _ | refine World.Ext.setCell ?_ (by simp) _)) _)) hg fun k hk => .inl (Option.some.inj hk).symm
        have HL5 : Hid (∀ (o : Obj), lo ≤ (w5.drew.alloc o).heap.size) := fun o => Nat.le_trans hlo5 (World.Ext.size (by repeat (first | exact World.Ext.refl _ | exact ⟨_, rfl⟩ | assumption | refine World.Ext.over ?_ _ | refine World.Ext.drewN ?_ _ | refine World.Ext.drew ?_ | refine World.Ext.alloc ?_ _ | refine World.Ext.setCell ?_ (by simp) _)))
        have hrun2 := HR2.out
        go_region_law (first
          | (refine step_append_mine rfl _ _ 42 rfl lo 45 i0 (.agg #[.int .i64 0, .int .i64 0]) 2 16 Try.underlying42 hi hz0 hz1 hz2 rfl (by decide) (.slice (some ⟨g, 0, none⟩) K cap) K (((flatP ps).map (Value.int .i64)).take (K * 2)) rfl (World.ownsRow.ext HC5.out (by repeat (first | exact World.Ext.refl _ | exact ⟨_, rfl⟩ | assumption | refine World.Ext.over ?_ _ | refine World.Ext.drewN ?_ _ | refine World.Ext.drew ?_ | refine World.Ext.alloc ?_ _ | refine World.Ext.setCell ?_ (by simp) _))) ⟨w5.heap.size, 0, none⟩ 1 1 [.int .i64 ox, .int .i64 oy] rfl rfl (cell_two_at (by simp)) (by simp [Value.oneCell']) HB.out.2.2.1 HB.out.2.2.2.1 (HL5.out _) (fun v7 w6 hown7 hgrow7 hat7 => ?_); have HO67 := Lib.hid (HT6.out _ _ hgrow7))
          | (refine step_append_mine rfl _ _ 42 rfl lo 45 i0 (.agg #[.int .i64 0, .int .i64 0]) 2 16 Try.underlying42 hi hz0 hz1 hz2 rfl (by decide) v7 (K + 1) _ rfl hown7 ⟨b6, 0, none⟩ (ps.length - K) c6 (((flatP ps).map (Value.int .i64)).drop (K * 2)) rfl HL1.out (World.ownsRow.cells (g := b6) HO67.out.1 rfl) H11.out HB.out.2.2.2.2.1 HB.out.2.2.2.2.2 (Nat.le_trans (HL5.out _) hgrow7.size) (fun v8 w8 hown8 hgrow8 hat8 => ?_)))
        all_goals
          have HFIN : Hid (PutRet lo g w qs (.returned v8) w8) := by
            have hlq : qs.length = K + 1 + (ps.length - K) := by rw [HQ.out]; simp; omega
            obtain ⟨a8, c8, rfl, -⟩ := hown8.form
            obtain ⟨b8, rfl⟩ : ∃ b8, a8 = some ⟨b8, 0, none⟩ := by
              rcases hown8.2 with h | ⟨g6, cap6, cur6, h, -⟩
              · have := h.2
                omega
              · simp only [Value.slice.injEq] at h
                exact ⟨g6, h.1⟩
            refine ⟨b8, c8, by rw [hlq], ?_, ?_⟩
            · unfold GrowP
              rw [hlq, HQ.out, flatP_append, flatP_append, flatP_take, flatP_drop, List.map_append, List.map_append, List.map_take, List.map_drop]
              exact hown8
            · refine Wrote.grown HO67.out.2 hgrow8 fun k hk => ?_
              rcases hat7 with h | h
              · rw [hk] at h
                exact .inl (Option.some.inj h)
              · rw [hk] at h
                have hs : (w5.drew.alloc (.cells #[.int .i64 ox, .int .i64 oy] 45)).heap.size = w5.heap.size + 1 := by simp
                have h := Option.some.inj h
                have := HWX.out
                right
                rw [h]
                first | exact Nat.le_trans this (World.Ext.size (by repeat (first | exact World.Ext.refl _ | exact ⟨_, rfl⟩ | assumption | refine World.Ext.over ?_ _ | refine World.Ext.drewN ?_ _ | refine World.Ext.drew ?_ | refine World.Ext.alloc ?_ _ | refine World.Ext.setCell ?_ (by simp) _))) | omega
          clear hown8 hgrow8 hat8 HO67 hown7 hgrow7 hat7 hrun2 d0 d1 l0
          obtain ⟨g8, cap8, e8, hr8⟩ := HFIN.out
          have e8 := Ending.returned.inj e8
          subst e8
          go_wp2
          go_ret
          exact HFIN.out
end Go.Proofs.Ytkpgelhmeokemaa
