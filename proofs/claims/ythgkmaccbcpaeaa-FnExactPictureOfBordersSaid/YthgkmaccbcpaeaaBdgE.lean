/- Borders that are given by a start and letters: the program's steps. -/
import Derived.Test.YthgkmaccbcpaeaaBdgP
import Derived.Test.YthgkmaccbcpaeaaBdC
namespace Go.Proofs.Ythgkmaccbcpaeaa
open Go Go.RowKit Go.MapKept Go.ChangeMaps
def EdgG (w : World) (x y : Int) (s : ByteArray) (e : Ending) (w' : World) : Prop :=
  (allSt s s.size ∧ ∃ a c, e = .returned (.tuple #[.slice a s.size c, .bool (gX x s s.size == x && gY y s s.size == y)]) ∧ w.Ext w' ∧ OwnD w.heap.size w'.heap.size w' a (gEs x y s s.size)) ∨
  (¬ allSt s s.size ∧ e = .returned (.tuple #[.slice none 0 0, .bool false]) ∧ w.Ext w')
set_option maxRecDepth 100000 in
set_option maxHeartbeats 1600000 in
theorem stepOfG_any (c : Nat) (w : World) (hc : c < 256) : Calls Try.prog 188 #[.int .u8 (c : Int)] w fun e w' => e = .returned (.int .i64 (stI c)) ∧ w.Ext w' := by
  have HK : Hid (Lib.indexByte (⟨#[114, 100, 108, 117]⟩ : ByteArray).data.toList ((c : Nat) : Int).toNat.toUInt8 = stI c) := by
    have h : ∀ c : Fin 256, Lib.indexByte (⟨#[114, 100, 108, 117]⟩ : ByteArray).data.toList ((c.val : Nat) : Int).toNat.toUInt8 = stI c.val := by decide +kernel
    exact h ⟨c, hc⟩
  generalize stI c = r at *
  generalize ((c : Nat) : Int) = z at *
  go_enter Try.func188, Try.ntmps188
  go_wp2
  rw [run_callFunc_extern Try.func267 (by kernel_rfl) (by kernel_rfl) (by kernel_rfl) (e := Extern.BytealgIndexByte.indexByte) (by kernel_rfl), Lib.run_indexByteString]
  simp only [Result.andThen]
  rw [Oper.upon_value]
  go_wp2
  go_ret
  exact ⟨by rw [HK.out]; rfl, .refl _⟩
set_option maxRecDepth 5000 in
set_option maxHeartbeats 3200000 in
theorem movedW_any (x y : Int) (k : Nat) (w : World) (hk : k < 4) (hx : wrap64 x = x) (hy : wrap64 y = y) :
    Calls Try.prog 104 #[.agg #[.int .i64 x, .int .i64 y], .int .i64 (k : Int)] w fun e w' => e = .returned (.agg #[.int .i64 (wrap64 (x + dX k)), .int .i64 (wrap64 (y + dY k))]) ∧ w.Ext w' := by
  obtain ⟨W0, hW0⟩ : ∃ W0, W0 = (w.alloc (.cells #[.int .i64 x, .int .i64 y] 45)).alloc (.cells #[.int .i64 0, .int .i64 0] 45) := ⟨_, rfl⟩
  have hx0 : w.Ext W0 := by rw [hW0]; repeat (first | exact World.Ext.refl _ | exact ⟨_, rfl⟩ | assumption | refine World.Ext.over ?_ _ | refine World.Ext.drewN ?_ _ | refine World.Ext.drew ?_ | refine World.Ext.alloc ?_ _ | refine World.Ext.setCell ?_ (by simp) _)
  have HA : Hid (Two W0 w.heap.size 45 (.int .i64 x) (.int .i64 y)) := by rw [hW0]; exact (Two.new w _ _ _ _ rfl).ext (by repeat (first | exact World.Ext.refl _ | exact ⟨_, rfl⟩ | assumption | refine World.Ext.over ?_ _ | refine World.Ext.drewN ?_ _ | refine World.Ext.drew ?_ | refine World.Ext.alloc ?_ _ | refine World.Ext.setCell ?_ (by simp) _))
  have HB : Hid (Two W0 (w.heap.size + 1) 45 (.int .i64 0) (.int .i64 0)) := by rw [hW0]; exact Two.new _ _ _ _ _ (by simp)
  have c0 := HA.out.cell0
  have c1 := HA.out.cell1
  have l0 := HA.out.lt
  have l1 := HB.out.lt
  obtain ⟨X, hX⟩ : ∃ X, wrap64 (x + dX k) = X := ⟨_, rfl⟩
  obtain ⟨Y, hY⟩ : ∃ Y, wrap64 (y + dY k) = Y := ⟨_, rfl⟩
  rw [hX, hY]
  obtain ⟨s0, s1, s2, s3, s4, s5, HR⟩ := Res.set2 (.int .i64 X) (.int .i64 Y) hx0 (by omega) HB.out
  clear hx0 HA HB
  have h4 : k = 0 ∨ k = 1 ∨ k = 2 ∨ k = 3 := by omega
  rcases h4 with rfl | rfl | rfl | rfl
  · rw [show wrap64 (x + dX 0) = wrap64 (x + 1) from rfl] at hX
    rw [show wrap64 (y + dY 0) = y from by simp [dY, hy]] at hY
    subst hX hY
    go_enter Try.func104, Try.ntmps104
    go_upto_region 1 with fail
    rw [← hW0]
    clear hW0
    go_wp2
    exact bodyPost_ret (v := .agg #[.int .i64 (wrap64 (x + 1)), .int .i64 y]) (by simp [results, Try.results104, go_sem, s4, s5]) rfl ⟨rfl, HR.out⟩
  · rw [show wrap64 (x + dX 1) = x from by simp [dX, hx]] at hX
    rw [show wrap64 (y + dY 1) = wrap64 (y + 1) from rfl] at hY
    subst hX hY
    go_enter Try.func104, Try.ntmps104
    go_upto_region 1 with fail
    rw [← hW0]
    clear hW0
    go_wp2
    exact bodyPost_ret (v := .agg #[.int .i64 x, .int .i64 (wrap64 (y + 1))]) (by simp [results, Try.results104, go_sem, s4, s5]) rfl ⟨rfl, HR.out⟩
  · rw [show wrap64 (x + dX 2) = wrap64 (x - 1) from rfl] at hX
    rw [show wrap64 (y + dY 2) = y from by simp [dY, hy]] at hY
    subst hX hY
    go_enter Try.func104, Try.ntmps104
    go_upto_region 1 with fail
    rw [← hW0]
    clear hW0
    go_wp2
    exact bodyPost_ret (v := .agg #[.int .i64 (wrap64 (x - 1)), .int .i64 y]) (by simp [results, Try.results104, go_sem, s4, s5]) rfl ⟨rfl, HR.out⟩
  · rw [show wrap64 (x + dX 3) = x from by simp [dX, hx]] at hX
    rw [show wrap64 (y + dY 3) = wrap64 (y - 1) from rfl] at hY
    subst hX hY
    go_enter Try.func104, Try.ntmps104
    go_upto_region 1 with fail
    rw [← hW0]
    clear hW0
    go_wp2
    exact bodyPost_ret (v := .agg #[.int .i64 x, .int .i64 (wrap64 (y - 1))]) (by simp [results, Try.results104, go_sem, s4, s5]) rfl ⟨rfl, HR.out⟩
set_option maxRecDepth 5000 in
set_option maxHeartbeats 6400000 in
theorem edgesG_any (pb : Nat) (ex ey : Int) (word : ByteArray) (w : World) (hx0 : wrap64 ex = ex) (hy0 : wrap64 ey = ey) (hs0 : word.size ≤ 600)
    (c0 : w.cell? ⟨pb, 0, none⟩ = some (.int .i64 ex)) (c1 : w.cell? ⟨pb, 1, none⟩ = some (.int .i64 ey)) (c2 : w.cell? ⟨pb, 2, none⟩ = some (.string word)) :
    Calls Try.prog 103 #[.pointer (some ⟨pb, 0, none⟩)] w (EdgG w ex ey word) := by
  obtain ⟨ie, hi, hz0, hz1, hz2⟩ := info_parts Try.infoEdge
  obtain ⟨n, hsz0⟩ : ∃ n, word.size = n := ⟨_, rfl⟩
  have HK4 : Hid (∀ i, stN word i ≤ 4) := fun i => by unfold stN; split; exact stC_le _; omega
  have HSTEP : Hid (∀ i, gX ex word (i + 1) = wrap64 (gX ex word i + dX (stN word i)) ∧ gY ey word (i + 1) = wrap64 (gY ey word i + dY (stN word i))) := fun i => ⟨rfl, rfl⟩
  have HLET : Hid (∀ i, i < n → ∃ hs : i < word.size, stC (word[i]'hs).toNat = stN word i) := fun i hi => ⟨by omega, (stN_at (by omega)).symm⟩
  have HSZ : Hid (word.size = n) := hsz0
  have HSU : Hid (∀ i, gEs ex ey word (i + 1) = gEs ex ey word i ++ [(gX ex word i, gY ey word i, (stN word i : Int))]) := fun i => gEs_succ ex ey word i
  have HLN : Hid (∀ i, (gEs ex ey word i).length = i) := fun i => gEs_len ex ey word i
  have hn : n ≤ 600 := by omega
  have HX0 : Hid (gX ex word 0 = ex ∧ gY ey word 0 = ey) := ⟨rfl, rfl⟩
  have HZ : Hid (gEs ex ey word 0 = []) := rfl
  have HWF : Hid (∀ i, wrap64 (gX ex word i) = gX ex word i ∧ wrap64 (gY ey word i) = gY ey word i) := fun i => ⟨gX_wf hx0 word i, gY_wf hy0 word i⟩
  have HYES : Hid ((∀ j, j < n → stN word j < 4) → ∀ (w' : World) a c, w.Ext w' → OwnD w.heap.size w'.heap.size w' a (gEs ex ey word n) → EdgG w ex ey word (.returned (.tuple #[.slice a n c, .bool (gX ex word n == ex && gY ey word n == ey)])) w') := fun h w' a c h1 h2 => by
    subst hsz0
    exact .inl ⟨h, a, c, rfl, h1, h2⟩
  have HNO : Hid (∀ i, i < n → ¬ stN word i < 4 → ∀ w', w.Ext w' → EdgG w ex ey word (.returned (.tuple #[.slice none 0 0, .bool false])) w') := fun i hi h w' h1 => by
    subst hsz0
    exact .inr ⟨fun h2 => h (h2 i hi), rfl, h1⟩
  clear hx0 hy0 hs0 hsz0
  generalize hX : gX ex word = X at *
  generalize hY : gY ey word = Y at *
  generalize hKK : stN word = K at *
  clear hX hY
  generalize gEs ex ey word = DL at *
  have HCB : Hid (∀ wr, w.Ext wr → wr.cell? ⟨pb, 0, none⟩ = some (.int .i64 ex) ∧ wr.cell? ⟨pb, 1, none⟩ = some (.int .i64 ey) ∧ wr.cell? ⟨pb, 2, none⟩ = some (.string word)) := fun wr hx => ⟨hx.cell c0, hx.cell c1, hx.cell c2⟩
  have HMV : Hid (∀ (i : Nat) (w' : World), K i < 4 → Calls Try.prog 104 #[.agg #[.int .i64 (X i), .int .i64 (Y i)], .int .i64 (K i : Int)] w' fun e w'' => e = .returned (.agg #[.int .i64 (X (i + 1)), .int .i64 (Y (i + 1))]) ∧ w'.Ext w'') := fun i w' hk => by
    rw [(HSTEP.out i).1, (HSTEP.out i).2]
    exact movedW_any (X i) (Y i) (K i) w' hk (HWF.out i).1 (HWF.out i).2
  have lb := World.block_lt_of_cell? _ _ c0
  have hE : w.Ext w := .refl _
  go_enter Try.func103, Try.ntmps103
  go_upto_region 1 with fail
  go_cut [4, 5] (fun u4 u5 wc => ∃ p5, u5 = .pointer (some ⟨p5, 0, none⟩) ∧ EdSt w p5 u4 [] ex ey wc)
  case first =>
    go_region_held3 (fun w' => w'.cell? ⟨pb, 0, none⟩ = some (.int .i64 ex) ∧ w'.cell? ⟨pb, 1, none⟩ = some (.int .i64 ey))
      (first | (refine ⟨World.Ext.cell ?_ c0, World.Ext.cell ?_ c1⟩ <;> ((repeat (first | exact World.Ext.refl _ | exact ⟨_, rfl⟩ | assumption | refine World.Ext.over ?_ _ | refine World.Ext.drewN ?_ _ | refine World.Ext.drew ?_ | refine World.Ext.alloc ?_ _ | refine World.Ext.setCell ?_ ?_ _ | (simp; done))); done)) | (go_keep))
      (fail)
    all_goals
      go_wp2_with fail
      go_meet
      first
        | exact ⟨_, rfl, EdSt.one _ _ _⟩
        | exact ⟨_, rfl, EdSt.two _ _ _⟩
  case rest =>
    obtain ⟨p5, rfl, hs⟩ := hcut
    obtain ⟨a0, cc0, rfl, -⟩ := hs.g.form
    have HST : Hid (EdSt w p5 (.slice a0 0 cc0) (DL 0) (X 0) (Y 0) wc) := by
      rw [HZ.out, HX0.out.1, HX0.out.2]; exact hs
    obtain ⟨q0, q1, q2⟩ := HCB.out wc hs.x
    have lq := World.block_lt_of_cell? _ _ q0
    clear hs c0 c1 c2 lb hE
    go_wp2
    clear q0 q1 q2 lq
    go_loopw [4, 6, 7, 18] (fun v _ _ z wr => ∃ i : Nat, i ≤ n ∧ z = .int .i64 i ∧ Hid (∀ j, j < i → K j < 4) ∧ Hid (EdSt w p5 v (DL i) (X i) (Y i) wr)) (fun _ _ _ z _ => n - (intOf z).toNat)
    case atStart => exact ⟨0, Nat.zero_le _, rfl, fun j hj => by omega, HST⟩
    case round =>
      clear HST
      obtain ⟨i, hi', rfl, HPR, HS⟩ := hrel
      obtain ⟨wo, rfl⟩ : ∃ wo : World, wo = wr := ⟨_, rfl⟩
      obtain ⟨q0, q1, q2⟩ := HCB.out wo HS.out.x
      have lq := World.block_lt_of_cell? _ _ q0
      have hsz : word.size = n := HSZ.out
      have hi0 : (0 : Int) ≤ (i : Int) := by omega
      by_cases hin : i < n
      · obtain ⟨hs, hlet⟩ := HLET.out i hin
        have hin' : (i : Int) < (word.size : Int) := by omega
        have HST2 : Hid (∀ w', Calls Try.prog 188 #[.int .u8 (((word[i]'hs).toNat : Nat) : Int)] w' fun e w'' => e = .returned (.int .i64 (if K i < 4 then (K i : Int) else -1)) ∧ w'.Ext w'') := fun w' => by
          have q := stepOfG_any (word[i]'hs).toNat w' (by have := (word[i]'hs).toNat_lt; omega)
          unfold stI at q
          rw [hlet] at q
          exact q
        clear hlet hsz
        by_cases hk4 : K i < 4
        rotate_left
        · rw [if_neg hk4] at HST2
          have HNOi := Lib.hid (HNO.out i hin hk4)
          have HXS := Lib.hid HS.out.x
          clear HS HPR
          go_wp2_with fail
          refine (HST2.out _).mono ?_
          rintro e1 w1 ⟨rfl, hx1⟩
          have HX9 := Lib.hid (HXS.out.trans hx1)
          clear hx1 q0 q1 q2 lq HST2
          go_wp2
          go_ret2
          exact HNOi.out _ HX9.out
        rw [if_pos hk4] at HST2
        have HPR2 : Hid (∀ j, j < i + 1 → K j < 4) := fun j hj => by
          by_cases e : j = i
          · rw [e]; exact hk4
          · exact HPR.out j (by omega)
        go_wp2_with fail
        refine (HST2.out _).mono ?_
        rintro e1 w1 ⟨rfl, hx1⟩
        have HS1 := Lib.hid (HS.out.ext hx1)
        have d0 := HS1.out.r.cell0
        have d1 := HS1.out.r.cell1
        have ld := HS1.out.r.lt
        have hkn : ¬ ((K i : Nat) : Int) < 0 := by omega
        have hlen := HLN.out i
        have hown : w1.ownsRow w.heap.size 149 3 u4 (DL i).length ((flatD (DL i)).map (Value.int .i64)) := HS1.out.g
        have HB1 : Hid ((DL i).length + 1 ≤ maxLen) := by show _ ≤ _; unfold maxLen; omega
        have HB2 : Hid (((DL i).length + 1) * 24 ≤ 140737488355328) := by show _ ≤ _; omega
        have HLE : ∀ o' : Obj, w.heap.size ≤ (w1.alloc o').heap.size := fun o' => (HS1.out.x.alloc o').size
        have HNEXT : Hid (∀ (o : Obj) (v' : Value) (w2 : World), (w1.alloc o).grownBy w2 u4.ownBlock → w2.ownsRow w.heap.size 149 3 v' ((DL i).length + 1) ((flatD (DL i)).map (Value.int .i64) ++ [.int .i64 (X i), .int .i64 (Y i), .int .i64 (K i : Int)]) → EdSt w p5 v' (DL (i + 1)) (X i) (Y i) w2) := fun o v' w2 hg ho => by
          have hxa : w1.Ext (w1.alloc o) := by repeat (first | exact World.Ext.refl _ | exact ⟨_, rfl⟩ | assumption | refine World.Ext.over ?_ _ | refine World.Ext.drewN ?_ _ | refine World.Ext.drew ?_ | refine World.Ext.alloc ?_ _ | refine World.Ext.setCell ?_ (by simp) _)
          have hr : w1.heap[p5]? = _ := HS1.out.r
          refine ⟨(HS1.out.x.trans hxa).grown hg fun k hk => (World.ownsRow.lt HS1.out.g k hk).1, (HS1.out.r.ext hxa).keep (hg.block p5 (by have := HS1.out.r.lt; simp; omega) (World.ownsRow.ne HS1.out.g hr (by decide))), HS1.out.lo, ?_⟩
          rw [HSU.out i]
          exact GrowD.push ho
        clear hx1 HS hlen HST2 q0 q1 q2 lq
        go_wp2_with (at_builtin; refine wpList_append_own _ rfl _ _ 145 rfl w.heap.size 149 ie (.agg #[.int .i64 0, .int .i64 0, .int .i64 0]) 3 24 Try.underlying145 hi hz0 hz1 hz2 rfl (by decide) _ _ _ rfl (hown.alloc _) ⟨w1.heap.size, 0, none⟩ 1 1 [.int .i64 (X i), .int .i64 (Y i), .int .i64 (K i : Int)] rfl rfl (edg3_at (by simp)) (by simp [Value.oneCell']) HB1.out HB2.out (HLE _) (fun v' w2 hown' hgrow _ => ?_); have hs2 := HNEXT.out _ _ _ hgrow hown'; obtain ⟨a3, c3, rfl, -⟩ := hs2.g.form; have HS2 := Lib.hid hs2; clear hs2 hgrow hown' hown HS1 d0 d1 ld HNEXT; have d0 := HS2.out.r.cell0; have d1 := HS2.out.r.cell1; have ld := HS2.out.r.lt)
        refine (HMV.out i w2 hk4).mono ?_
        rintro e2 w3 ⟨rfl, hx3⟩
        have HS3 := Lib.hid (HS2.out.ext hx3)
        clear hx3 HS2 d0 d1 ld
        have d0 := HS3.out.r.cell0
        have d1 := HS3.out.r.cell1
        have f0 := HS3.out.r.free 0
        have f1 := HS3.out.r.free 1
        have ld := HS3.out.r.lt
        have HS4 : Hid (EdSt w p5 (.slice a3 (DL (i + 1)).length c3) (DL (i + 1)) (X (i + 1)) (Y (i + 1)) ((w3.setCell ⟨p5, 0, none⟩ (.int .i64 (X (i + 1)))).setCell ⟨p5, 1, none⟩ (.int .i64 (Y (i + 1))))) := by
          have hlo := HS3.out.lo
          have hr : w3.heap[p5]? = _ := HS3.out.r
          refine ⟨(HS3.out.x.setCell (p := ⟨p5, 0, none⟩) hlo _).setCell (p := ⟨p5, 1, none⟩) hlo _, two_put1 (two_put0 HS3.out.r _) _, hlo, ?_⟩
          exact World.ownsRow.keep HS3.out.g fun k hk => by
            have hne : k ≠ p5 := fun e => World.ownsRow.ne HS3.out.g hr (by decide) (by rw [hk, e])
            rw [Below.heap_setCell _ _ _ _ hne, Below.heap_setCell _ _ _ _ hne]
        clear HS3
        go_wp2
        go_roundw
        case rel => exact ⟨i + 1, by omega, by go_num, HPR2, HS4⟩
        case measure => simp [intOf]; omega
      · have hie : i = n := by omega
        have hnl : ¬ (i : Int) < (word.size : Int) := by omega
        obtain ⟨a9, c9, rfl, -⟩ := HS.out.g.form
        have d0 := HS.out.r.cell0
        have d1 := HS.out.r.cell1
        have ld := HS.out.r.lt
        have HR : Hid (∀ x1, EdgG w ex ey word (.returned (.tuple #[.slice a9 n c9, .bool (X n == ex && Y n == ey)])) (wo.over x1)) := fun x1 => by
          rw [hie] at HPR
          have h1 := HS.out.g
          rw [hie, HLN.out] at h1
          exact HYES.out HPR.out _ a9 c9 (HS.out.x.over x1) (((GrowD.own h1).ext ⟨x1, rfl⟩).mono (Nat.le_refl _) (World.Ext.size ⟨x1, rfl⟩))
        rw [hie] at d0 d1 ⊢
        rw [HLN.out]
        clear HS hsz hin hie HPR HYES HNO
        generalize X n = xn at *
        generalize Y n = yn at *
        have hc3 : (xn == ex && yn == ey) = true ∨ (xn == ex && yn == ey) = false := by cases (xn == ex && yn == ey) <;> simp
        by_cases e1 : xn = ex
        · by_cases e2 : yn = ey
          · have f1 : (xn == ex && yn == ey) = true := by rw [e1, e2]; simp
            rw [f1] at HR
            clear hc3
            go_wp2_with fail
            refine wp_region_over_lit (by kernel_rfl) (by kernel_rfl) ?_; (repeat (go_big_quiet_step (fail))); refine wpQuiet_nil ?_; rintro _ ⟨x1, rfl⟩
            have HR2 := Lib.hid (HR.out x1)
            go_wp2
            go_ret2
            exact HR2.out
          · have f1 : (xn == ex && yn == ey) = false := by rw [beq_eq_false_iff_ne.2 e2, Bool.and_false]
            rw [f1] at HR
            clear hc3
            go_wp2_with fail
            refine wp_region_over_lit (by kernel_rfl) (by kernel_rfl) ?_; (repeat (go_big_quiet_step (fail))); refine wpQuiet_nil ?_; rintro _ ⟨x1, rfl⟩
            have HR2 := Lib.hid (HR.out x1)
            go_wp2
            go_ret2
            exact HR2.out
        · have f1 : (xn == ex && yn == ey) = false := by rw [beq_eq_false_iff_ne.2 e1, Bool.false_and]
          rw [f1] at HR
          clear hc3
          go_wp2_with fail
          refine wp_region_over_lit (by kernel_rfl) (by kernel_rfl) ?_; (repeat (go_big_quiet_step (fail))); refine wpQuiet_nil ?_; rintro _ ⟨x1, rfl⟩
          have HR2 := Lib.hid (HR.out x1)
          go_wp2
          go_ret2
          exact HR2.out
end Go.Proofs.Ythgkmaccbcpaeaa
