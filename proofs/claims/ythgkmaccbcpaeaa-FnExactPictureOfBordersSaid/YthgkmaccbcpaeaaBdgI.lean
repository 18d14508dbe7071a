/- Borders that are given by a start and letters: whether one is right, the program's. -/
import Derived.Test.YthgkmaccbcpaeaaBdgE
import Derived.Test.YthgkmaccbcpaeaaBdB
namespace Go.Proofs.Ythgkmaccbcpaeaa
open Go Go.RowKit
def dnG (x y : Int) (s : ByteArray) (n : Nat) (p : Edg) : Option Value := if (List.range n).any (fun i => decide (gE x y s i = p)) then some (.bool true) else none
theorem dnG_zero (x y : Int) (s : ByteArray) (p : Edg) : (none : Option Value) = dnG x y s 0 p := rfl
theorem dnG_succ (x y : Int) (s : ByteArray) (n : Nat) (p : Edg) : (if p = gE x y s n then some (Value.bool true) else dnG x y s n p) = dnG x y s (n + 1) p := by
  unfold dnG
  rw [List.range_succ, List.any_append]
  by_cases e : p = gE x y s n
  · rw [if_pos e, if_pos]
    simp [e]
  · rw [if_neg e]
    have : decide (gE x y s n = p) = false := decide_eq_false fun h => e h.symm
    simp [this]
theorem dnG_mem {x y : Int} {s : ByteArray} {n : Nat} (p : Edg) (v : Value) (h : dnG x y s n p = some v) : p ∈ (List.range n).map fun i => gE x y s i := by
  unfold dnG at h
  split at h
  · rename_i h2
    obtain ⟨i, hi, he⟩ := List.any_eq_true.1 h2
    exact List.mem_map.2 ⟨i, hi, of_decide_eq_true he⟩
  · cases h
theorem dnG_look {x y : Int} {s : ByteArray} {n : Nat} (p : Edg) : (dnG x y s n p).getD (.bool false) = .bool ((List.range n).any fun i => decide (gE x y s i = p)) := by
  unfold dnG
  cases (List.range n).any fun i => decide (gE x y s i = p) <;> rfl
def IsBdRet (w : World) (x y : Int) (s : ByteArray) (e : Ending) (w' : World) : Prop := ∃ t : Bool, e = .returned (.bool t) ∧ (t = true ↔ IsBd x y s) ∧ w.Ext w'
set_option maxRecDepth 20000 in
set_option maxHeartbeats 6400000 in
theorem isBdG_any (ex ey : Int) (word : ByteArray) (w : World) (hx0 : wrap64 ex = ex) (hy0 : wrap64 ey = ey) :
    Calls Try.prog 36 #[.agg #[.int .i64 ex, .int .i64 ey, .string word]] w (IsBdRet w ex ey word) := by
  obtain ⟨W0, hW0⟩ : ∃ W0, W0 = w.alloc (.cells #[.int .i64 ex, .int .i64 ey, .string word] 62) := ⟨_, rfl⟩
  have hxw : w.Ext W0 := by rw [hW0]; repeat (first | exact World.Ext.refl _ | exact ⟨_, rfl⟩ | assumption | refine World.Ext.over ?_ _ | refine World.Ext.drewN ?_ _ | refine World.Ext.drew ?_ | refine World.Ext.alloc ?_ _ | refine World.Ext.setCell ?_ (by simp) _)
  have HC0 : Hid (∀ w', W0.Ext w' → w'.cell? ⟨w.heap.size, 0, none⟩ = some (.int .i64 ex) ∧ w'.cell? ⟨w.heap.size, 1, none⟩ = some (.int .i64 ey) ∧ w'.cell? ⟨w.heap.size, 2, none⟩ = some (.string word)) := fun w' hx => by
    refine ⟨hx.cell ?_, hx.cell ?_, hx.cell ?_⟩ <;> (rw [hW0]; simp [go_sem])
  have HX0 := Lib.hid hxw
  obtain ⟨c0, c1, c2⟩ := HC0.out W0 (.refl _)
  have l0 := World.block_lt_of_cell? _ _ c0
  by_cases hb : 4 ≤ word.size ∧ word.size ≤ 600
  rotate_left
  · have HNO : Hid (∀ w', w.Ext w' → IsBdRet w ex ey word (.returned (.bool false)) w') := fun w' hx => ⟨false, rfl, ⟨(fun h => by cases h), fun h => absurd ⟨h.lo, h.hi⟩ hb⟩, hx⟩
    have hib : inB (word.size : Int) 4 600 = false := by
      rw [Bool.eq_false_iff]
      intro h
      have := inB_true.1 h
      omega
    clear hxw hx0 hy0 HC0
    go_enter Try.func36, Try.ntmps36
    go_upto_region 1 with fail
    rw [← hW0]
    clear hW0
    go_wp2_with fail
    refine (in_any _ _ _ _ false hib).mono ?_
    rintro e9 w1 ⟨rfl, hx1⟩
    have HX1 := Lib.hid (HX0.out.trans hx1)
    clear hx1 c0 c1 c2 l0
    go_wp2
    go_ret
    exact HNO.out _ HX1.out
  obtain ⟨n, hn⟩ : ∃ n, word.size = n := ⟨_, rfl⟩
  have HED : Hid (∀ w', W0.Ext w' → Calls Try.prog 103 #[.pointer (some ⟨w.heap.size, 0, none⟩)] w' (EdgG w' ex ey word)) := fun w' hx => by
    obtain ⟨q0, q1, q2⟩ := HC0.out w' hx
    exact edgesG_any w.heap.size ex ey word w' hx0 hy0 hb.2 q0 q1 q2
  have hmm := @run_makeMap Try.prog
  clear hxw hx0 hy0
  obtain ⟨hb1, hb2⟩ := hb
  go_enter Try.func36, Try.ntmps36
  go_upto_region 1 with fail
  rw [← hW0]
  clear hW0
  go_wp2_with fail
  refine (in_any _ _ _ _ true (inB_true.2 (by omega))).mono ?_
  rintro e9 w1 ⟨rfl, hx1⟩
  have HC1 := Lib.hid (HED.out w1 hx1)
  clear c0 c1 c2 l0
  go_wp2_with fail
  refine HC1.out.mono ?_
  intro e9 w2 hed
  rcases hed with ⟨hall, a2, cc2, rfl, hx2, ho2⟩ | ⟨hbad, rfl, hx2⟩
  rotate_left
  · have HNO : Hid (∀ w', w.Ext w' → IsBdRet w ex ey word (.returned (.bool false)) w') := fun w' hx => ⟨false, rfl, ⟨(fun h => by cases h), fun h => absurd h.st hbad⟩, hx⟩
    have HX2 := Lib.hid (HX0.out.trans (hx1.trans hx2))
    obtain ⟨w3, hw3⟩ : ∃ w3, w3 = w2.alloc (.map #[] 0) := ⟨_, rfl⟩
    have hx3 : w2.Ext w3 := by rw [hw3]; repeat (first | exact World.Ext.refl _ | exact ⟨_, rfl⟩ | assumption | refine World.Ext.over ?_ _ | refine World.Ext.drewN ?_ _ | refine World.Ext.drew ?_ | refine World.Ext.alloc ?_ _ | refine World.Ext.setCell ?_ (by simp) _)
    have HX3 := Lib.hid (HX2.out.trans hx3)
    clear hx1 hx2 hx3 HC1 HED HC0 hbad HX2
    go_upto_region 5 with fail
    rw [← hw3]
    clear hmm hw3
    go_wp2
    go_loopw [6, 7, 8, 21] (fun _ _ _ z wr => z = .int .i64 0 ∧ wr = w3) (fun _ _ _ _ _ => 0)
    case atStart => exact ⟨rfl, rfl⟩
    case round =>
      obtain ⟨rfl, rfl⟩ := hrel
      go_wp2
      go_ret
      exact HNO.out _ HX3.out
  obtain ⟨w3, hw3⟩ : ∃ w3, w3 = w2.alloc (.map #[] 0) := ⟨_, rfl⟩
  have hx3 : w2.Ext w3 := by rw [hw3]; repeat (first | exact World.Ext.refl _ | exact ⟨_, rfl⟩ | assumption | refine World.Ext.over ?_ _ | refine World.Ext.drewN ?_ _ | refine World.Ext.drew ?_ | refine World.Ext.alloc ?_ _ | refine World.Ext.setCell ?_ (by simp) _)
  have HM0 : Hid (MapE w3 Try.prog 149 w2.heap.size (fun _ => none)) := by rw [hw3]; exact MapE.new w2 _ _ _ rfl
  have HZ3 : Hid (w3.heap.size = w2.heap.size + 1) := by show _ = _; rw [hw3]; simp
  go_upto_region 5 with fail
  rw [← hw3]
  clear hmm hw3
  have HXW := Lib.hid (HX0.out.trans (hx1.trans hx2))
  have HST : Hid (SdSt w3 w2.heap.size (dnG ex ey word 0) w3) := ⟨.refl _ _, HM0.out.congr (dnG_zero ex ey word)⟩
  have hz3 : w3.heap.size = w2.heap.size + 1 := HZ3.out
  have HRW : Hid (∀ wr, Wrote (fun k => k = w2.heap.size) w3 wr → RowD wr a2 (gEs ex ey word word.size)) := fun wr hx => ((ho2.ext hx3).wrote hx fun k h1 h2 => by omega).row
  have HEX : Hid (∀ wr, Wrote (fun k => k = w2.heap.size) w3 wr → w2.Ext wr) := fun wr hx => (hx3.wrote (fun k => k = w2.heap.size)).trans hx |>.ext fun k hk he => by omega
  have HALL := Lib.hid hall
  have HNO : Hid (∀ i, i < n → ¬ stepR ex ey word i → ∀ w', w.Ext w' → IsBdRet w ex ey word (.returned (.bool false)) w') := fun i hi h w' hx => ⟨false, rfl, ⟨(fun h => by cases h), fun h2 => absurd (h2.ok i (by omega)) h⟩, hx⟩
  have HYES : Hid ((∀ i, i < n → stepR ex ey word i) → ∀ w', w.Ext w' → IsBdRet w ex ey word (.returned (.bool (gX ex word word.size == ex && gY ey word word.size == ey))) w') := fun h w' hx => ⟨_, rfl, ⟨fun h2 => by
    rw [Bool.and_eq_true, beq_iff_eq, beq_iff_eq] at h2
    exact ⟨hb1, hb2, hall, fun i hi => h i (by omega), h2.1, h2.2⟩, fun h2 => by rw [h2.bx, h2.by_]; simp⟩, hx⟩
  clear hx1 hx2 ho2 hx3 HC0 HED HC1 HX0 HM0 HZ3 hall
  generalize w2.heap.size = q at *
  rw [hn] at HRW HYES HALL
  generalize (gX ex word n == ex && gY ey word n == ey) = tt at *
  go_wp2
  go_loopw [6, 7, 8, 21] (fun _ _ _ z wr => ∃ i : Nat, i ≤ n ∧ z = .int .i64 i ∧ Hid (∀ r, r < i → stepR ex ey word r) ∧ Hid (SdSt w3 q (dnG ex ey word i) wr)) (fun _ _ _ z _ => n - (intOf z).toNat)
  case atStart => exact ⟨0, Nat.zero_le _, rfl, fun r hr => by omega, HST⟩
  case round =>
    clear HST
    obtain ⟨i, hi, rfl, HP, HS⟩ := hrel
    obtain ⟨wo, rfl⟩ : ∃ wo : World, wo = wr := ⟨_, rfl⟩
    have hi0 : (0 : Int) ≤ (i : Int) := by omega
    by_cases hin : i < n
    · have hin' : (i : Int) < (n : Int) := by omega
      have hpn : (i + n - 1) % n < n := Nat.mod_lt _ (by omega)
      have hpi3 : (0 : Int) ≤ ((i : Int) + (n : Int) - 1) % (n : Int) := Int.emod_nonneg _ (by omega)
      have hpi4 : ((i : Int) + (n : Int) - 1) % (n : Int) < (n : Int) := Int.emod_lt_of_pos _ (by omega)
      have hnn : ((n : Int) == 0) = false := by rw [beq_eq_false_iff_ne]; omega
      obtain ⟨b1, o1, rfl, d0, d1, d2⟩ := (HRW.out wo HS.out.w).at (show i < (gEs ex ey word n).length by rw [gEs_len]; exact hin)
      obtain ⟨b2, o2, e2, f0, f1, f2⟩ := (HRW.out wo HS.out.w).at (show (i + n - 1) % n < (gEs ex ey word n).length by rw [gEs_len]; exact hpn)
      cases e2
      rw [gEs_at hin] at d0 d1 d2
      rw [gEs_at hpn] at f0 f1 f2
      dsimp only at d0 d1 d2 f0 f1 f2
      have lb1 := World.block_lt_of_cell? _ _ d0
      have hk4 := HALL.out i hin
      have hp4 := HALL.out _ hpn
      have HNOi := Lib.hid (HNO.out i hin)
      have HPS : Hid (stepR ex ey word i → ∀ r, r < i + 1 → stepR ex ey word r) := fun h r hr => by
        by_cases e : r = i
        · rw [e]; exact h
        · exact HP.out r (by omega)
      have HSR : Hid (stepR ex ey word i ↔ inC (gX ex word i) (gY ey word i) ∧ ((List.range i).any fun j => decide (gE ex ey word j = gE ex ey word i)) = false ∧ (stN word ((i + n - 1) % n) + 2) % 4 ≠ stN word i) := by
        show _ ↔ _
        unfold stepR
        rw [hn]
        refine and_congr Iff.rfl (and_congr ?_ Iff.rfl)
        rw [List.any_eq_false]
        exact ⟨fun h j hj => by simp [h j (List.mem_range.1 hj)], fun h j hj => by simpa using h j (List.mem_range.2 hj)⟩
      have HLKI : Hid (∀ wr, inC (gX ex word i) (gY ey word i) → SdSt w3 q (dnG ex ey word i) wr → (Instr.lookup 156 (.map (some q)) (.agg #[.int .i64 (gX ex word i), .int .i64 (gY ey word i), .int .i64 (stN word i : Int)]) false).run Try.prog wr = .ok (.bool ((List.range i).any fun j => decide (gE ex ey word j = gE ex ey word i))) wr) := fun wr h hs => by
        unfold inC at h
        have w1 := spotWf (x := gX ex word i) (y := gY ey word i) (by omega) (by omega)
        have w2 := spotWf (x := (stN word i : Int)) (y := 0) (by omega) (by omega)
        have h := hs.m.look Try.edgKey edgMap (zeroBool wr) (p := gE ex ey word i) (edgKeyOf w1.1 w1.2 w2.1)
        rw [dnG_look] at h
        exact h
      have HKEY : Hid (inC (gX ex word i) (gY ey word i) → keyOf Try.prog 149 (edgV ⟨gX ex word i, gY ey word i, stN word i⟩) = some (.string (keyBytes [.int .i64 (gX ex word i), .int .i64 (gY ey word i), .int .i64 (stN word i : Int)]))) := fun h => by
        unfold inC at h
        exact edgKeyOf (e := ⟨gX ex word i, gY ey word i, stN word i⟩) (spotWf (x := gX ex word i) (y := gY ey word i) (by omega) (by omega)).1 (spotWf (x := gX ex word i) (y := gY ey word i) (by omega) (by omega)).2 (spotWf (x := (stN word i : Int)) (y := 0) (by omega) (by omega)).1
      have HLN : Hid (((List.range i).map fun j => gE ex ey word j).length < maxLen) := by show _ < _; rw [List.length_map, List.length_range]; unfold maxLen; omega
      have HDMI : Hid (∀ (p : Edg) v, dnG ex ey word i p = some v → p ∈ (List.range i).map fun j => gE ex ey word j) := fun p v h => dnG_mem p v h
      have HPUT : Hid (∀ wb w', SdSt w3 q (dnG ex ey word i) wb → MapE w' Try.prog 149 q (fun p => if p = (⟨gX ex word i, gY ey word i, stN word i⟩ : Edg) then some (Value.bool true) else dnG ex ey word i p) → wb.grownBy w' (some q) → SdSt w3 q (dnG ex ey word (i + 1)) w') := fun wb w' h hm hg => h.put (hm.congr (dnG_succ ex ey word i)) hg
      obtain ⟨w4, hw4⟩ : ∃ w4, w4 = (wo.alloc (.cells #[.int .i64 (gX ex word i), .int .i64 (gY ey word i), .int .i64 (stN word i : Int)] 149)).alloc (.cells #[.int .i64 (gX ex word ((i + n - 1) % n)), .int .i64 (gY ey word ((i + n - 1) % n)), .int .i64 (stN word ((i + n - 1) % n) : Int)] 149) := ⟨_, rfl⟩
      have hx4 : wo.Ext w4 := by rw [hw4]; repeat (first | exact World.Ext.refl _ | exact ⟨_, rfl⟩ | assumption | refine World.Ext.over ?_ _ | refine World.Ext.drewN ?_ _ | refine World.Ext.drew ?_ | refine World.Ext.alloc ?_ _ | refine World.Ext.setCell ?_ (by simp) _)
      have HD4 : Hid (∀ wr, w4.Ext wr → wr.cell? ⟨wo.heap.size, 0, none⟩ = some (.int .i64 (gX ex word i)) ∧ wr.cell? ⟨wo.heap.size, 1, none⟩ = some (.int .i64 (gY ey word i)) ∧ wr.cell? ⟨wo.heap.size, 2, none⟩ = some (.int .i64 (stN word i : Int)) ∧ wr.cell? ⟨wo.heap.size + 1, 2, none⟩ = some (.int .i64 (stN word ((i + n - 1) % n) : Int))) := fun wr hx => by
        refine ⟨hx.cell ?_, hx.cell ?_, hx.cell ?_, hx.cell ?_⟩ <;> (rw [hw4]; simp [go_sem])
      have HS4 := Lib.hid (HS.out.ext hx4)
      have HXE : Hid (∀ wr, w4.Ext wr → w.Ext wr) := fun wr hx => HXW.out.trans (HEX.out wr ((HS.out.w.trans ((hx4.trans hx).wrote _))))
      clear HS hx4 HNO HRW HEX HP HALL HXW
      generalize dnG ex ey word i = gm at *
      generalize ((List.range i).any fun j => decide (gE ex ey word j = gE ex ey word i)) = sn at *
      generalize ((List.range i).map fun j => gE ex ey word j) = KL at *
      generalize gX ex word ((i + n - 1) % n) = px at *
      generalize gY ey word ((i + n - 1) % n) = py at *
      generalize stN word ((i + n - 1) % n) = pk at *
      generalize gX ex word i = X at *
      generalize gY ey word i = Y at *
      generalize stN word i = K at *
      go_upto_region 9 with fail
      rw [← hw4]
      clear hw4 d0 d1 d2 f0 f1 f2 hpi3 hpi4 hnn lb1
      generalize wo.heap.size = g at *
      obtain ⟨c0, c1, c2, c5⟩ := HD4.out w4 (.refl _)
      have lg := World.block_lt_of_cell? _ _ c5
      by_cases hX : 0 ≤ X ∧ X ≤ 16
      rotate_left
      · have hib : inB X 0 16 = false := by
          rw [Bool.eq_false_iff]
          exact fun h => hX (inB_true.1 h)
        have HR := Lib.hid (HNOi.out fun h => hX ⟨(HSR.out.1 h).1.1, (HSR.out.1 h).1.2.1⟩)
        clear HSR HLKI HKEY HPUT HDMI HLN HPS
        go_wp2_with fail
        refine (in_any _ _ _ _ false hib).mono ?_
        rintro e9 w5 ⟨rfl, hx5⟩
        have HX5 := Lib.hid (HXE.out w5 hx5)
        clear c0 c1 c2 c5 lg hx5
        go_wp2
        go_ret
        exact HR.out _ HX5.out
      go_wp2_with fail
      refine (in_any _ _ _ _ true (inB_true.2 hX)).mono ?_
      rintro e9 w5 ⟨rfl, hx5⟩
      clear c0 c1 c2 c5 lg
      obtain ⟨c0, c1, c2, c5⟩ := HD4.out w5 hx5
      have lg := World.block_lt_of_cell? _ _ c5
      by_cases hY : 0 ≤ Y ∧ Y ≤ 16
      rotate_left
      · have hib : inB Y 0 16 = false := by
          rw [Bool.eq_false_iff]
          exact fun h => hY (inB_true.1 h)
        have HR := Lib.hid (HNOi.out fun h => hY ⟨(HSR.out.1 h).1.2.2.1, (HSR.out.1 h).1.2.2.2⟩)
        clear HSR HLKI HKEY HPUT HDMI HLN HPS
        go_wp2_with fail
        refine (in_any _ _ _ _ false hib).mono ?_
        rintro e9 w6 ⟨rfl, hx6⟩
        have HX5 := Lib.hid (HXE.out w6 (hx5.trans hx6))
        clear c0 c1 c2 c5 lg hx5 hx6
        go_wp2
        go_ret
        exact HR.out _ HX5.out
      go_wp2_with fail
      refine (in_any _ _ _ _ true (inB_true.2 hY)).mono ?_
      rintro e9 w6 ⟨rfl, hx6⟩
      clear c0 c1 c2 c5 lg
      obtain ⟨c0, c1, c2, c5⟩ := HD4.out w6 (hx5.trans hx6)
      have lg := World.block_lt_of_cell? _ _ c5
      have hin4 : inC X Y := ⟨hX.1, hX.2, hY.1, hY.2⟩
      have HS6 := Lib.hid (HS4.out.ext (hx5.trans hx6))
      have hlk := HLKI.out w6 hin4 HS6.out
      have hkey := Lib.hid (HKEY.out hin4)
      have HX6 := Lib.hid (HXE.out w6 (hx5.trans hx6))
      clear hx5 hx6 HS4 HD4 HLKI HKEY HXE
      cases hsn : sn
      rotate_left
      · have HR := Lib.hid (HNOi.out fun h => by have := (HSR.out.1 h).2.1; rw [hsn] at this; cases this)
        rw [hsn] at hlk
        clear HSR HPUT HDMI HLN HPS hkey HS6 hsn
        go_wp2
        go_ret
        exact HR.out _ HX6.out
      rw [hsn] at hlk
      by_cases hu : (pk + 2) % 4 = K
      · have HR := Lib.hid (HNOi.out fun h => (HSR.out.1 h).2.2 hu)
        have tb : ((((pk : Nat) : Int) + 2) % 4 == ((K : Nat) : Int)) = true := by rw [beq_iff_eq]; omega
        clear HSR HPUT HDMI HLN HPS hkey HS6 hsn
        go_wp2
        go_ret
        exact HR.out _ HX6.out
      have HP2 := Lib.hid (HPS.out (HSR.out.2 ⟨hin4, hsn, hu⟩))
      have tb : ((((pk : Nat) : Int) + 2) % 4 == ((K : Nat) : Int)) = false := by rw [beq_eq_false_iff_ne]; omega
      clear HSR HPS HNOi hsn hin4
      go_wp2_with (at_mapUpdate; refine wpList_mapUpdate_E _ rfl _ _ _ 156 rfl 149 4 Try.edgKey edgMap q gm rfl HS6.out.m _ HDMI.out HLN.out ⟨X, Y, K⟩ _ (.bool true) rfl rfl hkey.out (fun wb hm1 hg1 => ?_); have HSb := Lib.hid (HPUT.out _ wb HS6.out hm1 hg1); clear hm1 hg1 hkey HPUT HLN HDMI HS6 c0 c1 c2 c5 lg hlk)
      go_roundw
      case rel => exact ⟨i + 1, by omega, by go_num, HP2, HSb⟩
      case measure => simp [intOf]; omega
    · have : i = n := by omega
      subst this
      have hin' : ¬ (i : Int) < (i : Int) := by omega
      have HR := Lib.hid (HYES.out HP.out wo (HXW.out.trans (HEX.out wo HS.out.w)))
      clear HS HP
      go_wp2
      go_ret
      exact HR.out
end Go.Proofs.Ythgkmaccbcpaeaa
