/- A border of a picture is right: the program's. -/
import Derived.Test.YtelaoimcaidoiaaBdC
import Derived.Test.YtelaoimcaidoiaaUmA
namespace Go.Proofs.Ytelaoimcaidoiaa
open Go Go.RowKit
/-- No step leads back. -/
theorem nxt_noback {f : Int → Int → Bool} {e : Edg} (h : EOk f e) : (e.k + 2) % 4 ≠ (nxt f e).k := by
  have hk := h.1
  have e1 : (nxt f e).k = trnB f (e.x + dX e.k) (e.y + dY e.k) e.k := rfl
  rw [e1, trnB_eq]
  split
  · omega
  · split <;> omega
theorem turnS_bnd (c : Nat → Edg) : ∀ n : Nat, -(n : Int) ≤ turnS c n ∧ turnS c n ≤ n
  | 0 => by show -((0 : Nat) : Int) ≤ 0 ∧ (0 : Int) ≤ ((0 : Nat) : Int); decide
  | n + 1 => by
    have h1 := turnS_bnd c n
    have h2 : -1 ≤ tauK (c n).k (c (n + 1)).k ∧ tauK (c n).k (c (n + 1)).k ≤ 1 := by
      unfold tauK
      split
      · omega
      · split <;> omega
    show -((n + 1 : Nat) : Int) ≤ turnS c n + tauK (c n).k (c (n + 1)).k ∧ turnS c n + tauK (c n).k (c (n + 1)).k ≤ ((n + 1 : Nat) : Int)
    omega
set_option maxRecDepth 20000 in
theorem per_len {f : Int → Int → Bool} {W H : Nat} (hb : InBx f W H) (hW : W ≤ 8) (hH : H ≤ 8) {e : Edg} (h : EOk f e) : 4 ≤ per f e ∧ per f e ≤ 600 := by
  obtain ⟨R, hr⟩ := orb_ring hb (show W ≤ 16 by omega) (show H ≤ 16 by omega) h
  have h1 := area_sign hb R hr
  have h2 := turnS_bnd (fun i => itr f i e) (per f e)
  obtain ⟨n, n1, n2, n3⟩ := cyc hb h
  have hp := (per_of hb (show W ≤ 16 by omega) (show H ≤ 16 by omega) h).1
  have h3 : per f e ≤ n := by
    rcases Nat.lt_or_ge n (per f e) with h4 | h4
    · exact absurd n3 (hp.2.2 n n1 h4)
    · exact h4
  have h5 : (H + 1) * (W + 1) * 4 ≤ 9 * 9 * 4 := Nat.mul_le_mul (Nat.mul_le_mul (by omega) (by omega)) (Nat.le_refl _)
  generalize per f e = p at *
  omega
theorem dn_look {f : Int → Int → Bool} {e : Edg} {w : World} {b i n : Nat} (h : MapE w Try.prog 82 b (dnM f e i fun _ => none)) (hp : Per f e n) (hok : EOk f e) (hi : i < n) (hb : InBx f 16 16) :
    (Instr.lookup 78 (.map (some b)) (.agg #[.int .i64 (itr f i e).x, .int .i64 (itr f i e).y, .int .i64 ((itr f i e).k : Int)]) false).run Try.prog w = .ok (.bool false) w := by
  have hx := hb.edge (itr_ok hok i)
  have hk := (itr_ok hok i).1
  have w1 := spotWf (x := (itr f i e).x) (y := (itr f i e).y) (by omega) (by omega)
  have w2 := spotWf (x := ((itr f i e).k : Int)) (y := 0) (by omega) (by omega)
  have := h.look Try.edgKey edgMap (zeroBool w) (p := itr f i e) (edgKeyOf w1.1 w1.2 w2.1)
  have hg : dnM f e i (fun _ => none) (itr f i e) = none := by
    unfold dnM
    rw [if_neg]
    rw [List.any_eq_true]
    rintro ⟨j, hj, he⟩
    have hj := List.mem_range.1 hj
    have he := of_decide_eq_true he
    have := hp.inj hok (show j < n by omega) hi he
    omega
  rw [hg] at this
  exact this
set_option maxRecDepth 20000 in
set_option maxHeartbeats 6400000 in
theorem isBord_any (f : Int → Int → Bool) (e : Edg) (w : World) (hbx : InBx f 16 16) (hok : EOk f e) (h4 : 4 ≤ per f e) (h6 : per f e ≤ 600) :
    Calls Try.prog 18 #[.agg #[.int .i64 e.x, .int .i64 e.y, .string (wrd f e)]] w fun e' w' => e' = .returned (.bool true) ∧ w.Ext w' := by
  obtain ⟨W0, hW0⟩ : ∃ W0, W0 = w.alloc (.cells #[.int .i64 e.x, .int .i64 e.y, .string (wrd f e)] 35) := ⟨_, rfl⟩
  have hx0 : w.Ext W0 := by rw [hW0]; repeat (first | exact World.Ext.refl _ | exact ⟨_, rfl⟩ | assumption | refine World.Ext.over ?_ _ | refine World.Ext.drewN ?_ _ | refine World.Ext.drew ?_ | refine World.Ext.alloc ?_ _ | refine World.Ext.setCell ?_ (by simp) _)
  have HC0 : Hid (∀ w', W0.Ext w' → w'.cell? ⟨w.heap.size, 0, none⟩ = some (.int .i64 e.x) ∧ w'.cell? ⟨w.heap.size, 1, none⟩ = some (.int .i64 e.y) ∧ w'.cell? ⟨w.heap.size, 2, none⟩ = some (.string (wrd f e))) := fun w' hx => by
    refine ⟨hx.cell ?_, hx.cell ?_, hx.cell ?_⟩ <;> (rw [hW0]; simp [go_sem])
  have hper := (per_of hbx (Nat.le_refl _) (Nat.le_refl _) hok).1
  have HED : Hid (∀ w', W0.Ext w' → Calls Try.prog 45 #[.pointer (some ⟨w.heap.size, 0, none⟩)] w' fun e' w'' => ∃ a c, e' = .returned (.tuple #[.slice a (per f e) c, .bool true]) ∧ w'.Ext w'' ∧ OwnD w'.heap.size w''.heap.size w'' a (edgsL f e (per f e))) := fun w' hx => by
    obtain ⟨q0, q1, q2⟩ := HC0.out w' hx
    have q := edges_any w.heap.size f e w' hbx hok q0 q1 q2
    rw [edgsL_len] at q
    exact q
  have HBX : Hid (∀ i, 0 ≤ (itr f i e).x ∧ (itr f i e).x ≤ 16 ∧ 0 ≤ (itr f i e).y ∧ (itr f i e).y ≤ 16) := fun i => hbx.edge (itr_ok hok i)
  have HK4 : Hid (∀ i, (itr f i e).k < 4) := fun i => (itr_ok hok i).1
  have HLK : Hid (∀ (wr : World) (b i : Nat), i < per f e → MapE wr Try.prog 82 b (dnM f e i fun _ => none) → (Instr.lookup 78 (.map (some b)) (.agg #[.int .i64 (itr f i e).x, .int .i64 (itr f i e).y, .int .i64 ((itr f i e).k : Int)]) false).run Try.prog wr = .ok (.bool false) wr) := fun wr b i hi h => dn_look h hper hok hi hbx
  have HNB : Hid (∀ i, i < per f e → ((itr f ((i + per f e - 1) % per f e) e).k + 2) % 4 ≠ (itr f i e).k) := fun i hi => by
    have h1 := nxt_noback (itr_ok hok ((i + per f e - 1) % per f e))
    have h2 : nxt f (itr f ((i + per f e - 1) % per f e) e) = itr f i e := by
      show itr f ((i + per f e - 1) % per f e + 1) e = _
      rcases Nat.eq_zero_or_pos i with h0 | h0
      · subst h0
        rw [Nat.zero_add, Nat.mod_eq_of_lt (by omega), show per f e - 1 + 1 = per f e by omega, hper.2.1]
        rfl
      · rw [show i + per f e - 1 = (i - 1) + per f e by omega, Nat.add_mod_right, Nat.mod_eq_of_lt (by omega), show i - 1 + 1 = i by omega]
    rw [h2] at h1
    exact h1
  have HDL : Hid (∀ i, i < per f e → (edgsL f e (per f e)).getD i (0, 0, 0) = ((itr f i e).x, (itr f i e).y, ((itr f i e).k : Int))) := fun i hi => edgsL_at hi
  have HDN : Hid ((edgsL f e (per f e)).length = per f e) := edgsL_len _ _ _
  have HDS : Hid (∀ i (p : Edg), (if p = (⟨(itr f i e).x, (itr f i e).y, (itr f i e).k⟩ : Edg) then some (Value.bool true) else dnM f e i (fun _ => none) p) = dnM f e (i + 1) (fun _ => none) p) := fun i p => dnM_succ p
  have HDM : Hid (∀ i (p : Edg) v, dnM f e i (fun _ => none) p = some v → p ∈ [] ++ (List.range i).map fun j => itr f j e) := fun i p v h => dnM_mem (fun _ _ h => by cases h) p v h
  have HZ : Hid (∀ p : Edg, (none : Option Value) = dnM f e 0 (fun _ => none) p) := fun p => dnM_zero (g := fun _ => none) p
  have HSZ : Hid ((wrd f e).size = per f e) := wrd_size f e
  have HX0 := Lib.hid hx0
  clear hx0 hbx hper hok
  generalize wrd f e = word at *
  generalize edgsL f e (per f e) = DL at *
  generalize per f e = n at *
  generalize hMM : (fun i => dnM f e i fun _ => none) = MM at *
  have eM : ∀ i, (dnM f e i fun _ => none) = MM i := fun i => congrFun hMM i
  simp only [eM] at HDM HDS HZ HLK
  clear hMM eM
  generalize hII : (fun i => itr f i e) = I at *
  have eI : ∀ i, itr f i e = I i := fun i => congrFun hII i
  simp only [eI] at HBX HK4 HLK HNB HDL HDM HDS
  clear hII eI
  generalize e.x = ex at *
  generalize e.y = ey at *
  obtain ⟨c0, c1, c2⟩ := HC0.out W0 (.refl _)
  have l0 := World.block_lt_of_cell? _ _ c0
  have hsz : (word.size : Int) = (n : Int) := by rw [HSZ.out]
  have hmm := @run_makeMap Try.prog
  go_enter Try.func18, Try.ntmps18
  go_upto_region 1 with fail
  rw [← hW0]
  clear hW0
  go_wp2_with fail
  refine (in_any _ _ _ _ true (inB_true.2 (by omega))).mono ?_
  rintro e9 w1 ⟨rfl, hx1⟩
  have HC1 := Lib.hid (HED.out w1 hx1)
  clear c0 c1 c2 l0
  go_wp2_with fail
  refine HC1.out.mono ?_
  rintro e9 w2 ⟨a2, cc2, rfl, hx2, ho2⟩
  obtain ⟨w3, hw3⟩ : ∃ w3, w3 = w2.alloc (.map #[] 0) := ⟨_, rfl⟩
  have hx3 : w2.Ext w3 := by rw [hw3]; repeat (first | exact World.Ext.refl _ | exact ⟨_, rfl⟩ | assumption | refine World.Ext.over ?_ _ | refine World.Ext.drewN ?_ _ | refine World.Ext.drew ?_ | refine World.Ext.alloc ?_ _ | refine World.Ext.setCell ?_ (by simp) _)
  have HM0 : Hid (MapE w3 Try.prog 82 w2.heap.size (fun _ => none)) := by rw [hw3]; exact MapE.new w2 _ _ _ rfl
  have HZ3 : Hid (w3.heap.size = w2.heap.size + 1) := by show _ = _; rw [hw3]; simp
  go_upto_region 5 with fail
  rw [← hw3]
  clear hmm hw3
  have HXW := Lib.hid (HX0.out.trans (hx1.trans hx2))
  have HST : Hid (SdSt w3 w2.heap.size (MM 0) w3) := ⟨.refl _ _, HM0.out.congr HZ.out⟩
  have hz3 : w3.heap.size = w2.heap.size + 1 := HZ3.out
  have HRW : Hid (∀ wr, Wrote (fun k => k = w2.heap.size) w3 wr → RowD wr a2 DL) := fun wr hx => ((ho2.ext hx3).wrote hx fun k h1 h2 => by omega).row
  have HEX : Hid (∀ wr, Wrote (fun k => k = w2.heap.size) w3 wr → w2.Ext wr) := fun wr hx => (hx3.wrote (fun k => k = w2.heap.size)).trans hx |>.ext fun k hk he => by omega
  clear hx1 hx2 ho2 hx3 HC0 HED HC1 HX0 HM0 HZ3
  generalize w2.heap.size = q at *
  go_wp2
  go_loopw [6, 7, 8, 21] (fun _ _ _ z wr => ∃ i : Nat, i ≤ n ∧ z = .int .i64 i ∧ Hid (SdSt w3 q (MM i) wr)) (fun _ _ _ z _ => n - (intOf z).toNat)
  case atStart => exact ⟨0, Nat.zero_le _, rfl, HST⟩
  case round =>
    clear HST
    obtain ⟨i, hi, rfl, HS⟩ := hrel
    obtain ⟨wo, rfl⟩ : ∃ wo : World, wo = wr := ⟨_, rfl⟩
    have hi0 : (0 : Int) ≤ (i : Int) := by omega
    by_cases hin : i < n
    · have hin' : (i : Int) < (n : Int) := by omega
      have hpn : (i + n - 1) % n < n := Nat.mod_lt _ (by omega)
      have hpi3 : (0 : Int) ≤ ((i : Int) + (n : Int) - 1) % (n : Int) := Int.emod_nonneg _ (by omega)
      have hpi4 : ((i : Int) + (n : Int) - 1) % (n : Int) < (n : Int) := Int.emod_lt_of_pos _ (by omega)
      have hnn : ((n : Int) == 0) = false := by rw [beq_eq_false_iff_ne]; omega
      obtain ⟨b1, o1, rfl, d0, d1, d2⟩ := (HRW.out wo HS.out.w).at (show i < DL.length by rw [HDN.out]; exact hin)
      obtain ⟨b2, o2, e2, f0, f1, f2⟩ := (HRW.out wo HS.out.w).at (show (i + n - 1) % n < DL.length by rw [HDN.out]; exact hpn)
      cases e2
      rw [HDL.out i hin] at d0 d1 d2
      rw [HDL.out _ hpn] at f0 f1 f2
      dsimp only at d0 d1 d2 f0 f1 f2
      have lb1 := World.block_lt_of_cell? _ _ d0
      have hnb := HNB.out i hin
      have hpk := HK4.out ((i + n - 1) % n)
      have hik := HK4.out i
      obtain ⟨bx1, bx2, bx3, bx4⟩ := HBX.out i
      have HLKI := Lib.hid (fun wr b => HLK.out wr b i hin)
      generalize (I ((i + n - 1) % n)).x = px at *
      generalize (I ((i + n - 1) % n)).y = py at *
      generalize (I ((i + n - 1) % n)).k = pk at *
      have HKEY := Lib.hid (edgKeyOf (e := ⟨(I i).x, (I i).y, (I i).k⟩) (spotWf (x := (I i).x) (y := (I i).y) (by omega) (by omega)).1 (spotWf (x := (I i).x) (y := (I i).y) (by omega) (by omega)).2 (spotWf (x := (((I i).k : Nat) : Int)) (y := 0) (by omega) (by omega)).1)
      have HLN : Hid (([] ++ (List.range i).map fun j => I j).length < maxLen) := by show _ < _; simp only [List.nil_append, List.length_map, List.length_range]; unfold maxLen; omega
      have HDMI := Lib.hid (HDM.out i)
      have HPUT : Hid (∀ wb w', SdSt w3 q (MM i) wb → MapE w' Try.prog 82 q (fun p => if p = (⟨(I i).x, (I i).y, (I i).k⟩ : Edg) then some (Value.bool true) else MM i p) → wb.grownBy w' (some q) → SdSt w3 q (MM (i + 1)) w') := fun wb w' h hm hg => h.put (hm.congr (HDS.out i)) hg
      have tb : ((((pk : Nat) : Int) + 2) % 4 == (((I i).k : Nat) : Int)) = false := by rw [beq_eq_false_iff_ne]; omega
      obtain ⟨w4, hw4⟩ : ∃ w4, w4 = (wo.alloc (.cells #[.int .i64 (I i).x, .int .i64 (I i).y, .int .i64 ((I i).k : Int)] 82)).alloc (.cells #[.int .i64 px, .int .i64 py, .int .i64 (pk : Int)] 82) := ⟨_, rfl⟩
      have hx4 : wo.Ext w4 := by rw [hw4]; repeat (first | exact World.Ext.refl _ | exact ⟨_, rfl⟩ | assumption | refine World.Ext.over ?_ _ | refine World.Ext.drewN ?_ _ | refine World.Ext.drew ?_ | refine World.Ext.alloc ?_ _ | refine World.Ext.setCell ?_ (by simp) _)
      have HD4 : Hid (∀ wr, w4.Ext wr → wr.cell? ⟨wo.heap.size, 0, none⟩ = some (.int .i64 (I i).x) ∧ wr.cell? ⟨wo.heap.size, 1, none⟩ = some (.int .i64 (I i).y) ∧ wr.cell? ⟨wo.heap.size, 2, none⟩ = some (.int .i64 ((I i).k : Int)) ∧ wr.cell? ⟨wo.heap.size + 1, 0, none⟩ = some (.int .i64 px) ∧ wr.cell? ⟨wo.heap.size + 1, 1, none⟩ = some (.int .i64 py) ∧ wr.cell? ⟨wo.heap.size + 1, 2, none⟩ = some (.int .i64 (pk : Int))) := fun wr hx => by
        refine ⟨hx.cell ?_, hx.cell ?_, hx.cell ?_, hx.cell ?_, hx.cell ?_, hx.cell ?_⟩ <;> (rw [hw4]; simp [go_sem])
      have HS4 := Lib.hid (HS.out.ext hx4)
      clear HS hx4 HLK HNB HRW HDL HDS HDM HBX HK4 hnb
      generalize (I i).x = X at *
      generalize (I i).y = Y at *
      generalize (I i).k = K at *
      go_upto_region 9 with fail
      rw [← hw4]
      clear hw4 d0 d1 d2 f0 f1 f2 hpi3 hpi4 hnn lb1
      generalize wo.heap.size = g at *
      obtain ⟨c0, c1, c2, c3, c4, c5⟩ := HD4.out w4 (.refl _)
      have lg := World.block_lt_of_cell? _ _ c5
      go_wp2_with fail
      refine (in_any _ _ _ _ true (inB_true.2 (by omega))).mono ?_
      rintro e9 w5 ⟨rfl, hx5⟩
      clear c0 c1 c2 c3 c4 c5 lg
      obtain ⟨c0, c1, c2, c3, c4, c5⟩ := HD4.out w5 hx5
      have lg := World.block_lt_of_cell? _ _ c5
      go_wp2_with fail
      refine (in_any _ _ _ _ true (inB_true.2 (by omega))).mono ?_
      rintro e9 w6 ⟨rfl, hx6⟩
      clear c0 c1 c2 c3 c4 c5 lg
      obtain ⟨c0, c1, c2, c3, c4, c5⟩ := HD4.out w6 (hx5.trans hx6)
      have lg := World.block_lt_of_cell? _ _ c5
      have HS6 := Lib.hid (HS4.out.ext (hx5.trans hx6))
      have hlk := HLKI.out w6 q HS6.out.m
      clear hx5 hx6 HS4 HD4 HLKI
      go_wp2_with (at_mapUpdate; refine wpList_mapUpdate_E _ rfl _ _ _ 78 rfl 82 4 Try.edgKey edgMap q (MM i) rfl HS6.out.m _ HDMI.out HLN.out ⟨X, Y, K⟩ _ (.bool true) rfl rfl HKEY.out (fun wb hm1 hg1 => ?_); have HSb := Lib.hid (HPUT.out _ wb HS6.out hm1 hg1); clear hm1 hg1 HKEY HPUT HLN HDMI HS6 c0 c1 c2 c3 c4 c5 lg hlk)
      go_roundw
      case rel => exact ⟨i + 1, by omega, by go_num, HSb⟩
      case measure => simp [intOf]; omega
    · have : i = n := by omega
      subst this
      have hin' : ¬ (i : Int) < (i : Int) := by omega
      have HR := Lib.hid (HXW.out.trans (HEX.out wo HS.out.w))
      clear HS
      go_wp2
      go_ret
      exact ⟨rfl, HR.out⟩
end Go.Proofs.Ytelaoimcaidoiaa

/- A border of a picture: its area and its turning, the program's. -/
namespace Go.Proofs.Ytelaoimcaidoiaa
open Go Go.RowKit
/-- The turns ahead of each step, as the program has them. -/
def tnV (K : Nat → Nat) (n i : Nat) : Int := ((K i : Int) - (K ((i + n - 1) % n) : Int) + 4) % 4
def tnL (K : Nat → Nat) (n i : Nat) : List Int := (List.range i).map (tnV K n)
theorem tnL_len (K : Nat → Nat) (n i : Nat) : (tnL K n i).length = i := by simp [tnL]
theorem tnL_succ (K : Nat → Nat) (n i : Nat) : tnL K n (i + 1) = tnL K n i ++ [tnV K n i] := by simp [tnL, List.range_succ]
theorem tnL_at (K : Nat → Nat) {n m i : Nat} (h : i < m) : (tnL K n m).getD i 0 = tnV K n i := by simp [tnL, List.getD_eq_getElem?_getD, h]
def tnS (K : Nat → Nat) (n i : Nat) : Int := sI (fun j => tauK (K ((j + n - 1) % n)) (K j)) i
theorem tau_tn {K : Nat → Nat} {n i : Nat} (hK : ∀ j, K j < 4) : (tnV K n i == 1) = decide (K i = (K ((i + n - 1) % n) + 1) % 4) ∧ (tnV K n i == 3) = decide (K i = (K ((i + n - 1) % n) + 3) % 4) := by
  have h1 := hK i
  have h2 := hK ((i + n - 1) % n)
  unfold tnV
  generalize K i = a at *
  generalize K ((i + n - 1) % n) = b at *
  constructor
  · cases h : decide (a = (b + 1) % 4)
    · have := of_decide_eq_false h
      rw [beq_eq_false_iff_ne]; omega
    · have := of_decide_eq_true h
      rw [beq_iff_eq]; omega
  · cases h : decide (a = (b + 3) % 4)
    · have := of_decide_eq_false h
      rw [beq_eq_false_iff_ne]; omega
    · have := of_decide_eq_true h
      rw [beq_iff_eq]; omega
theorem tnS_bnd (K : Nat → Nat) (n : Nat) : ∀ i : Nat, -(i : Int) ≤ tnS K n i ∧ tnS K n i ≤ i
  | 0 => by show -((0 : Nat) : Int) ≤ 0 ∧ (0 : Int) ≤ ((0 : Nat) : Int); decide
  | i + 1 => by
    have h1 := tnS_bnd K n i
    have h2 : -1 ≤ tauK (K ((i + n - 1) % n)) (K i) ∧ tauK (K ((i + n - 1) % n)) (K i) ≤ 1 := by
      unfold tauK
      split
      · omega
      · split <;> omega
    show -((i + 1 : Nat) : Int) ≤ tnS K n i + tauK (K ((i + n - 1) % n)) (K i) ∧ tnS K n i + tauK (K ((i + n - 1) % n)) (K i) ≤ ((i + 1 : Nat) : Int)
    omega
theorem tnS_turn (c : Nat → Edg) {n : Nat} (hn : 0 < n) (hb : c n = c 0) : tnS (fun i => (c i).k) n n = turnS c n := by
  obtain ⟨m, rfl⟩ : ∃ m, n = m + 1 := ⟨n - 1, by omega⟩
  unfold tnS turnS
  have h1 : ∀ g : Nat → Int, sI g (m + 1) = g 0 + sI (fun i => g (i + 1)) m := fun g => by
    induction m with
    | zero => show 0 + g 0 = g 0 + 0; omega
    | succ m ih =>
      show sI g (m + 1) + g (m + 1) = g 0 + (sI (fun i => g (i + 1)) m + g (m + 1))
      have : ∀ (m : Nat), sI g (m + 1) = g 0 + sI (fun i => g (i + 1)) m := fun m => by
        induction m with
        | zero => show 0 + g 0 = g 0 + 0; omega
        | succ m ih => show sI g (m + 1) + g (m + 1) = g 0 + (sI (fun i => g (i + 1)) m + g (m + 1)); rw [ih]; omega
      rw [this m]; omega
  rw [h1]
  show tauK (c ((0 + (m + 1) - 1) % (m + 1))).k (c 0).k + sI (fun i => tauK (c ((i + 1 + (m + 1) - 1) % (m + 1))).k (c (i + 1)).k) m = sI (fun i => tauK (c i).k (c (i + 1)).k) m + tauK (c m).k (c (m + 1)).k
  rw [hb, show (0 + (m + 1) - 1) % (m + 1) = m by rw [show 0 + (m + 1) - 1 = m by omega]; exact Nat.mod_eq_of_lt (by omega),
    sI_congr (g := fun i => tauK (c i).k (c (i + 1)).k) fun i hi => by
      rw [show i + 1 + (m + 1) - 1 = i + (m + 1) by omega, Nat.add_mod_right, Nat.mod_eq_of_lt (by omega)]]
  omega
def TurnsRet (w : World) (n : Nat) (xs : List Int) (e : Ending) (w' : World) : Prop := ∃ a' c', e = .returned (.slice a' n c') ∧ w.Ext w' ∧ OwnOf (Value.int .i64) 0 w.heap.size w'.heap.size w' a' xs
theorem Try.infoIntT : (Try.prog.info? 3).map (fun i => (i.zero, i.size, i.bytes)) = some (some (.int .i64 0), 1, 8) := by kernel_rfl
set_option maxRecDepth 20000 in
set_option maxHeartbeats 3200000 in
theorem turns_any (a : Option Addr) (cc : Nat) (DL : List (Int × Int × Int)) (n : Nat) (K : Nat → Nat) (w : World) (hl : DL.length = n) (hn : n ≤ 1200) (hK : ∀ i, i < n → (DL.getD i (0, 0, 0)).2.2 = (K i : Int)) (hk4 : ∀ i, K i < 4) (hr : RowD w a DL) :
    Calls Try.prog 46 #[.slice a n cc] w (TurnsRet w n (tnL K n n)) := by
  obtain ⟨ie, hie, hz0, hz1, hz2⟩ := info_parts Try.infoIntT
  have HR := Lib.hid hr
  have HKK := Lib.hid hK
  have HK4 := Lib.hid hk4
  have HTS := Lib.hid (fun i => tnL_succ K n i)
  have HTL := Lib.hid (fun i => tnL_len K n i)
  have HTV : Hid (∀ i, tnV K n i = ((K i : Int) - (K ((i + n - 1) % n) : Int)) % 4) := fun i => by unfold tnV; omega
  have HLEN := Lib.hid hl
  have hg0 := GrowOf.empty (f := Value.int .i64) (lo := w.heap.size) (e := 3) w (Nat.le_refl _)
  have hx0 : w.Ext (w.alloc (.cells #[] 3)) := by repeat (first | exact World.Ext.refl _ | exact ⟨_, rfl⟩ | assumption | refine World.Ext.over ?_ _ | refine World.Ext.drewN ?_ _ | refine World.Ext.drew ?_ | refine World.Ext.alloc ?_ _ | refine World.Ext.setCell ?_ (by simp) _)
  have HG0 : Hid (GrowOf (Value.int .i64) w.heap.size 3 (w.alloc (.cells #[] 3)) (.slice (some ⟨w.heap.size, 0, none⟩) 0 0) (tnL K n 0)) := hg0
  have HX0 := Lib.hid hx0
  clear hr hK hk4 hl hg0 hx0
  generalize tnL K n = TL at *
  generalize tnV K n = TV at *
  go_enter Try.func46, Try.ntmps46
  go_wp2
  go_loopw [3, 4, 5, 6, 10] (fun v _ _ _ z wr => ∃ i : Nat, i ≤ n ∧ z = .int .i64 i ∧ Hid (w.Ext wr) ∧ Hid (GrowOf (Value.int .i64) w.heap.size 3 wr v (TL i))) (fun _ _ _ _ z _ => n - (intOf z).toNat)
  case atStart => exact ⟨0, Nat.zero_le _, rfl, HX0, HG0⟩
  case round =>
    clear HX0 HG0
    obtain ⟨i, hi, rfl, HX, HG⟩ := hrel
    obtain ⟨wo, rfl⟩ : ∃ wo : World, wo = wr := ⟨_, rfl⟩
    have hi0 : (0 : Int) ≤ (i : Int) := by omega
    by_cases hin : i < n
    · have hin' : (i : Int) < (n : Int) := by omega
      have hpn : (i + n - 1) % n < n := Nat.mod_lt _ (by omega)
      have hpi3 : (0 : Int) ≤ ((i : Int) + (n : Int) - 1) % (n : Int) := Int.emod_nonneg _ (by omega)
      have hpi4 : ((i : Int) + (n : Int) - 1) % (n : Int) < (n : Int) := Int.emod_lt_of_pos _ (by omega)
      have hnn : ((n : Int) == 0) = false := by rw [beq_eq_false_iff_ne]; omega
      obtain ⟨b1, o1, rfl, d0, d1, d2⟩ := (HR.out.ext HX.out).at (show i < DL.length by rw [HLEN.out]; exact hin)
      obtain ⟨b2, o2, e2, f0, f1, f2⟩ := (HR.out.ext HX.out).at (show (i + n - 1) % n < DL.length by rw [HLEN.out]; exact hpn)
      cases e2
      rw [HKK.out i hin] at d2
      rw [HKK.out _ hpn] at f2
      have lb1 := World.block_lt_of_cell? _ _ d0
      have hk1 := HK4.out i
      have hk2 := HK4.out ((i + n - 1) % n)
      have HV := Lib.hid (HTV.out i)
      have HS1 := Lib.hid (HTS.out i)
      have hlen := HTL.out i
      generalize K ((i + n - 1) % n) = kp at *
      generalize hKi : K i = ki at *
      generalize (DL.getD i (0, 0, 0)).1 = X at *
      generalize (DL.getD i (0, 0, 0)).2.1 = Y at *
      generalize (DL.getD ((i + n - 1) % n) (0, 0, 0)).1 = PX at *
      generalize (DL.getD ((i + n - 1) % n) (0, 0, 0)).2.1 = PY at *
      clear hKi
      obtain ⟨w4, hw4⟩ : ∃ w4, w4 = (wo.alloc (.cells #[.int .i64 X, .int .i64 Y, .int .i64 (ki : Int)] 82)).alloc (.cells #[.int .i64 PX, .int .i64 PY, .int .i64 (kp : Int)] 82) := ⟨_, rfl⟩
      have hx4 : wo.Ext w4 := by rw [hw4]; repeat (first | exact World.Ext.refl _ | exact ⟨_, rfl⟩ | assumption | refine World.Ext.over ?_ _ | refine World.Ext.drewN ?_ _ | refine World.Ext.drew ?_ | refine World.Ext.alloc ?_ _ | refine World.Ext.setCell ?_ (by simp) _)
      have c2 : w4.cell? ⟨wo.heap.size, 2, none⟩ = some (.int .i64 (ki : Int)) := by rw [hw4]; simp [go_sem]
      have c5 : w4.cell? ⟨wo.heap.size + 1, 2, none⟩ = some (.int .i64 (kp : Int)) := by rw [hw4]; simp [go_sem]
      have lg := World.block_lt_of_cell? _ _ c5
      have HX4 := Lib.hid (HX.out.trans hx4)
      have HG4 := Lib.hid (HG.out.ext hx4)
      have hown : w4.ownsRow w.heap.size 3 1 u3 (TL i).length ((TL i).map (Value.int .i64)) := HG4.out
      have HB1 : Hid ((TL i).length + 1 ≤ maxLen) := by show _ ≤ _; unfold maxLen; omega
      have HB2 : Hid (((TL i).length + 1) * 8 ≤ 140737488355328) := by show _ ≤ _; omega
      have HLE : ∀ o' : Obj, w.heap.size ≤ (w4.alloc o').heap.size := fun o' => (HX4.out.alloc o').size
      have HNEXT : Hid (∀ (o : Obj) (v' : Value) (w2 : World), (w4.alloc o).grownBy w2 u3.ownBlock → w2.ownsRow w.heap.size 3 1 v' ((TL i).length + 1) ((TL i).map (Value.int .i64) ++ [.int .i64 (((ki : Int) - (kp : Int)) % 4)]) → Hid (w.Ext w2) ∧ Hid (GrowOf (Value.int .i64) w.heap.size 3 w2 v' (TL (i + 1)))) := fun o v' w2 hg ho => by
        refine ⟨HG4.out.pushExt HX4.out hg, ?_⟩
        rw [HS1.out, HV.out]
        exact GrowOf.push ho
      clear hx4 HX HG hlen HV HS1 HTS HTV
      go_upto_region 6 with fail
      rw [← hw4]
      clear hw4 d0 d1 d2 f0 f1 f2 hpi3 hpi4 hnn lb1
      go_wp2_with (at_builtin; refine wpList_append_own _ rfl _ _ 88 rfl w.heap.size 3 ie (.int .i64 0) 1 8 Try.underlying88 hie hz0 hz1 hz2 rfl (by decide) _ _ _ rfl (hown.alloc _) ⟨w4.heap.size, 0, none⟩ 1 1 [.int .i64 (((ki : Int) - (kp : Int)) % 4)] rfl rfl (cell_one_at (by simp)) (by simp [Value.oneCell']) HB1.out HB2.out (HLE _) (fun v' w2 hown' hgrow _ => ?_); obtain ⟨HX2, HG2⟩ := HNEXT.out _ _ _ hgrow hown'; clear hown' hgrow hown HB1 HB2 HLE HNEXT HG4 HX4 c2 c5 lg)
      go_roundw
      case rel => exact ⟨i + 1, by omega, by go_num, HX2, HG2⟩
      case measure => simp [intOf]; omega
    · have : i = n := by omega
      subst this
      have hin' : ¬ (i : Int) < (i : Int) := by omega
      obtain ⟨a9, c9, rfl, -⟩ := HG.out.form
      rw [HTL.out]
      have HO : Hid (OwnOf (Value.int .i64) 0 w.heap.size wo.heap.size wo a9 (TL i)) := by
        have h := HG.out
        rw [HTL.out] at h
        exact GrowOf.own 0 h
      clear HG
      have HRT : Hid (TurnsRet w i (TL i) (.returned (.slice a9 i c9)) wo) := ⟨a9, c9, rfl, HX.out, HO.out⟩
      clear HX HO
      go_wp2
      go_ret
      exact HRT.out
def NumRetA (w : World) (n : Int) (e : Ending) (w' : World) : Prop := e = .returned (.tuple #[.int .i64 n, .bool true]) ∧ w.Ext w'
theorem areS_bnd {f : Int → Int → Bool} {e : Edg} (hbx : InBx f 16 16) (hok : EOk f e) : ∀ n : Nat, -(16 * (n : Int)) ≤ areS (fun i => itr f i e) n ∧ areS (fun i => itr f i e) n ≤ 16 * (n : Int)
  | 0 => by show -(16 * ((0 : Nat) : Int)) ≤ 0 ∧ (0 : Int) ≤ 16 * ((0 : Nat) : Int); decide
  | n + 1 => by
    have h1 := areS_bnd hbx hok n
    have h2 := hbx.edge (itr_ok hok n)
    have h3 : -16 ≤ areE (itr f n e) ∧ areE (itr f n e) ≤ 16 := by
      unfold areE
      split
      · omega
      · split <;> omega
    show -(16 * ((n + 1 : Nat) : Int)) ≤ areS (fun i => itr f i e) n + areE (itr f n e) ∧ areS (fun i => itr f i e) n + areE (itr f n e) ≤ 16 * ((n + 1 : Nat) : Int)
    omega
end Go.Proofs.Ytelaoimcaidoiaa
