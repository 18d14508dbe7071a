/- The reference's tree of a grey picture: the walk. -/
import Derived.Test.YtmmanehdmnkekaaNodM
import Derived.Test.YtmmanehdmnkekaaCutR
import Derived.Deep.RegionHeld3
import Derived.Deep.Onto
namespace Go.Proofs.Ytmmanehdmnkekaa
open Go Go.RowKit
theorem grL_table {m : List (List Int)} (hok : tableOk m 99 = true) : GrL (m.getD 0 []).length m.length m.flatten := by
  obtain ⟨h1, h2, h3, h4, h5, h6⟩ := tableOk_spec hok
  intro k hk
  have hy : k / (m.getD 0 []).length < m.length := by rw [Nat.div_lt_iff_lt_mul (by omega)]; exact hk
  have hx : k % (m.getD 0 []).length < (m.getD 0 []).length := Nat.mod_lt _ (by omega)
  have h := flat_at (m.getD 0 []).length m _ _ h5 hy hx
  rw [Nat.mul_comm, Nat.div_add_mod] at h
  rw [h]
  exact h6 _ _ hy (by rw [h5 _ hy]; exact hx)
set_option maxHeartbeats 400000 in
theorem l00Has_any (a : Option Addr) (c : Nat) (l : List Int) (t : Int) (w : World) (hn : l.length ≤ 65536) (hr : RowI w a l) :
    Calls Try.prog 229 #[.slice a l.length c, .int .i64 t] w fun e w' => e = .returned (.bool (decide (t ∈ l))) ∧ w.Ext w' := by
  have HR := Lib.hid hr
  have HME : Hid (∀ k, k < l.length → l.getD k 0 = t → decide (t ∈ l) = true) := fun k hk e => by
    rw [decide_eq_true_iff, ← e, List.getD_eq_getElem?_getD, List.getElem?_eq_getElem hk]
    exact List.getElem_mem hk
  have HNO : Hid ((∀ k, k < l.length → l.getD k 0 ≠ t) → decide (t ∈ l) = false) := fun h => by
    rw [decide_eq_false_iff_not]
    intro hm
    obtain ⟨k, hk, e⟩ := List.mem_iff_getElem.1 hm
    exact h k hk (by rw [List.getD_eq_getElem?_getD, List.getElem?_eq_getElem hk]; exact e)
  clear hr
  generalize decide (t ∈ l) = res at *
  go_enter Try.func229, Try.ntmps229
  go_wp2
  go_loop [5] (fun i => ∃ k : Nat, k ≤ l.length ∧ i = .int .i64 k ∧ Hid (∀ j, j < k → l.getD j 0 ≠ t)) (fun i => l.length - (intOf i).toNat)
  case atStart => exact ⟨0, Nat.zero_le _, rfl, fun j hj => by omega⟩
  case round =>
    obtain ⟨k, hk, rfl, HK⟩ := hrel
    by_cases hlt : k < l.length
    · obtain ⟨b, o, rfl, hc⟩ := HR.out k hlt
      have hlt' : (k : Int) < (l.length : Int) := by omega
      have hk0 : (0 : Int) ≤ (k : Int) := by omega
      by_cases e : l.getD k 0 = t
      · have HT := Lib.hid (HME.out k hlt e)
        have he : (l.getD k 0 == t) = true := by simpa using e
        clear e
        generalize l.getD k 0 = z at *
        go_wp2
        go_ret
        rw [HT.out]
        exact ⟨rfl, .refl _⟩
      · have HK2 : Hid (∀ j, j < k + 1 → l.getD j 0 ≠ t) := fun j hj => by
          by_cases ej : j = k
          · rw [ej]; exact e
          · exact HK.out j (by omega)
        have he : (l.getD k 0 == t) = false := by simpa using e
        clear e HK
        generalize l.getD k 0 = z at *
        go_wp2
        go_round
        case rel => exact ⟨k + 1, by omega, by go_num, HK2⟩
        case measure => simp [intOf]; omega
    · have : k = l.length := by omega
      subst this
      have HT := Lib.hid (HNO.out HK.out)
      go_wp2
      go_ret
      rw [HT.out]
      exact ⟨rfl, .refl _⟩
theorem grI_at {lo g n cap i : Nat} {w : World} {xs : List Int} (h : GrI lo w (.slice (some ⟨g, 0, none⟩) n cap) xs) (hi : i < xs.length) :
    lo ≤ g ∧ w.cell? ⟨g, i, none⟩ = some (.int .i64 (xs.getD i 0)) ∧ w.frozen? ⟨g, i, none⟩ = false ∧ ∀ x, GrI lo (w.setCell ⟨g, i, none⟩ (.int .i64 x)) (.slice (some ⟨g, 0, none⟩) n cap) (xs.set i x) := by
  obtain ⟨g', cap', hv, hlo, hc, hf, hset⟩ := GrowOf.atI 0 h hi
  simp only [Value.slice.injEq, Option.some.injEq, Addr.mk.injEq] at hv
  obtain ⟨⟨rfl, -, -⟩, -, -⟩ := hv
  exact ⟨hlo, hc, hf, fun x => hset x⟩
theorem grI_getD {lo : Nat} {w : World} {v : Value} {xs : List Int} (h : GrI lo w v xs) (hp : 0 < xs.length) : ∃ g cap, v = .slice (some ⟨g, 0, none⟩) xs.length cap ∧ lo ≤ g ∧ g < w.heap.size ∧ xs.length ≤ cap := by
  obtain ⟨g, cap, e, h1, h2, -⟩ := GrowOf.some h hp
  obtain ⟨a, c, e', h3⟩ := GrowOf.form h
  rw [e] at e'
  cases e'
  exact ⟨g, cap, e, h1, h2, h3⟩
set_option maxRecDepth 5000 in
set_option maxHeartbeats 6400000 in
theorem l07Tree_any (p : Nat) (a : Option Addr) (c : Nat) (A : Nat → Option Addr) (C : Nat → Nat) (m : List (List Int)) (w : World) (hok : tableOk m 99 = true) (hp : w.cell? ⟨p, 0, none⟩ = some (.slice a m.length c)) (hm : MatAt w a A C m) :
    Calls Try.prog 163 #[.pointer (some ⟨p, 0, none⟩)] w (TreeRet w (gtR (m.getD 0 []).length m.length m.flatten)) := by
  obtain ⟨i0, hi, hz0, hz1, hz2⟩ := info_parts Try.infoI64
  obtain ⟨h1, h2, h3, h4, h5, h6⟩ := tableOk_spec hok
  have hfl := flat_len _ m h5
  have hgl := grL_table hok
  have hnn : m.length * (m.getD 0 []).length ≤ 256 := Nat.mul_le_mul h2 h4
  have hpos : 0 < m.length * (m.getD 0 []).length := Nat.mul_pos h1 h3
  obtain ⟨W0, hW0⟩ : ∃ W0, W0 = w.alloc (.cells #[.slice none 0 0, .slice none 0 0, .slice none 0 0, .slice none 0 0] 30) := ⟨_, rfl⟩
  have hx0 : w.Ext W0 := by rw [hW0]; repeat (first | exact World.Ext.refl _ | exact ⟨_, rfl⟩ | assumption | refine World.Ext.over ?_ _ | refine World.Ext.drewN ?_ _ | refine World.Ext.drew ?_ | refine World.Ext.alloc ?_ _ | refine World.Ext.setCell ?_ (by simp) _)
  have QR : Hid (Qua W0 w.heap.size 30 (.slice none 0 0) (.slice none 0 0) (.slice none 0 0) (.slice none 0 0)) := by rw [hW0]; exact Qua.new _ _ _ _ _ _ _ rfl
  have HSZ : Hid (W0.heap.size = w.heap.size + 1) := by show _ = _; rw [hW0]; simp
  have HLI := Lib.hid (fun w' (hx : w.Ext w') => l07List_any a c A C m w' (by omega) (fun r hr => by rw [h5 r hr]; omega) (by rw [hfl, Nat.mul_comm]; omega) (hm.ext hx))
  have HTH := Lib.hid (fun w' (t : Int) (hx : w.Ext w') => l07Threshold_any p a c A C m t w' hok (hx.cell hp) (hm.ext hx))
  have HLW := Lib.hid (fun w' (hx : w.Ext w') => l07Width_any p a c A C m w' h1 (hx.cell hp) (hm.ext hx))
  have HPW : Hid (∀ t : Int, picW (picRows (m.getD 0 []).length m.length (thrL t m.flatten)) = (m.getD 0 []).length ∧ picL (picRows (m.getD 0 []).length m.length (thrL t m.flatten)) = thrL t m.flatten) := fun t => ⟨picW_rows h1 (by unfold thrL; rw [List.length_map, hfl]), picL_rows (by unfold thrL; rw [List.length_map, hfl])⟩
  have HLB : Hid (∀ (w' : World) (pb : Nat) (pa : Option Addr) (pc : Nat) (t : Int) (F : Int × Int → Nat) (NN : Nat), w'.cell? ⟨pb, 0, none⟩ = some (.slice pa m.length pc) → RowS w' pa (picRows (m.getD 0 []).length m.length (thrL t m.flatten)) →
      LabK (pxP (m.getD 0 []).length m.length (thrL t m.flatten)) (nbS false) (spotsTo (m.getD 0 []).length (thrL t m.flatten) (m.length * (m.getD 0 []).length)) (spotsTo (m.getD 0 []).length (thrL t m.flatten) (m.length * (m.getD 0 []).length)).length F NN →
      Calls Try.prog 231 #[.pointer (some ⟨pb, 0, none⟩), .bool false] w' (LabSRet w' (m.getD 0 []).length m.length F NN)) := fun w' pb pa pc t F NN hc hr hF => by
    obtain ⟨e1, e2⟩ := HPW.out t
    have e3 : (picRows (m.getD 0 []).length m.length (thrL t m.flatten)).length = m.length := picRows_len _ _ _
    have e4 : Even (picRows (m.getD 0 []).length m.length (thrL t m.flatten)) := even_rows h1 (by unfold thrL; rw [List.length_map, hfl])
    generalize picRows (m.getD 0 []).length m.length (thrL t m.flatten) = ss at *
    have hF' : LabK (pxP (picW ss) ss.length (picL ss)) (nbS false) (spotsTo (picW ss) (picL ss) (ss.length * picW ss)) (spotsTo (picW ss) (picL ss) (ss.length * picW ss)).length F NN := by rw [e1, e2, e3]; exact hF
    have h := l05Labels_any pb pa pc ss false F NN w' e4 (by rw [e1]; exact h3) (by rw [e1]; omega) (by rw [e3]; omega) (by rw [e3]; exact hc) hr hF'
    rw [e1, e3] at h
    exact h
  have HX0 := Lib.hid hx0
  have HGL := Lib.hid hgl
  have HFL : Hid (m.flatten.length = m.length * (m.getD 0 []).length) := by show _ = _; rw [hfl, Nat.mul_comm]
  have HH1 := Lib.hid (And.intro h1 (And.intro h2 (And.intro h3 h4)))
  clear hok hm hx0 hgl hfl h1 h2 h3 h4 h5 h6
  obtain ⟨n, hn⟩ : ∃ n, n = m.length * (m.getD 0 []).length := ⟨_, rfl⟩
  have HN := Lib.hid hn
  rw [← hn] at hnn hpos
  generalize m.flatten = l at *
  generalize (m.getD 0 []).length = W at *
  generalize m.length = H at *
  rw [HFL.out, ← hn] at HLI
  have hln : l.length = n := by rw [HFL.out, hn]
  clear hn
  have hpl := World.block_lt_of_cell? _ _ hp
  dsimp only at hpl
  have C1 : Hid (i0.bytes * n ≤ 281474976710656) := by show _ ≤ _; rw [hz2]; omega
  have C2 : Hid (n ≤ maxLen) := by show _ ≤ _; unfold maxLen; omega
  have HLN := Lib.hid hln
  clear hln
  go_enter Try.func163, Try.ntmps163
  go_wp2_with fail
  rw [← hW0]
  clear hW0
  refine (HLI.out W0 HX0.out).mono ?_
  rintro e wA ⟨a1, c1, rfl, hx1, ho1, -⟩
  have HXA := Lib.hid (HX0.out.trans hx1)
  have HRL := Lib.hid (show RowI wA a1 l from ho1.row)
  have QR1 := Lib.hid (QR.out.ext hx1)
  have HP := Lib.hid hp
  have hsA : w.heap.size + 1 ≤ wA.heap.size := by have h1 := hx1.size; have h2 := HSZ.out; omega
  have HSA := Lib.hid hsA
  have hbA : ∀ b o, a1 = some ⟨b, o, none⟩ → b < wA.heap.size := fun b o e => by
    obtain ⟨b', o', e', -, h2, -⟩ := ho1 0 (by rw [HLN.out]; exact hpos)
    rw [e] at e'
    cases e'
    exact h2
  have HBA := Lib.hid hbA
  clear hx1 ho1 hp hpl QR HLI hsA hbA
  have HHAS : Hid (∀ w', wA.Ext w' → ∀ t : Int, Calls Try.prog 229 #[.slice a1 n c1, .int .i64 t] w' fun e w'' => e = .returned (.bool (decide (t ∈ l))) ∧ w'.Ext w'') := fun w' hx t => by
    have h := l00Has_any a1 c1 l t w' (by rw [HLN.out]; omega) (RowI.ext HRL.out hx)
    rw [HLN.out] at h
    exact h
  go_wp2_with (at_make; refine wpList_make_full _ rfl _ _ 28 rfl (wA.heap.size + 1) 2 i0 (.int .i64 0) 1 Try.underlying28 hi hz0 hz1 .i64 .i64 _ _ n rfl rfl rfl rfl C1.out C2.out (by simp) (fun w3 hown hgrow => ?_))
  have hx3 : (wA.alloc (.cells #[.slice none 0 0, .slice none 0 0, .slice none 0 0, .slice none 0 0] 30)).Ext w3 := World.Ext.made hgrow
  have hG3 := grI_made hown
  rw [← negL_zero] at hG3
  have hT3 : TrSp wA (.slice none 0 0) (.slice none 0 0) (.slice none 0 0) (.slice none 0 0) (.slice none 0 0) (.slice none 0 0) [] [] [] w3 := by
    refine ⟨World.Ext.trans (by repeat (first | exact World.Ext.refl _ | exact ⟨_, rfl⟩ | assumption | refine World.Ext.over ?_ _ | refine World.Ext.drewN ?_ _ | refine World.Ext.drew ?_ | refine World.Ext.alloc ?_ _ | refine World.Ext.setCell ?_ (by simp) _)) hx3, ?_, GrowOf.nilStart _ _ _, GrowOf.nilStart _ _ _, GrowOf.nilStart _ _ _, fun k h => ?_, fun k h => ?_, fun k h => ?_⟩
    · exact (Qua.new wA _ _ _ _ _ wA.heap.size rfl).ext hx3
    · cases h
    · cases h
    · cases h
  simp only [World.size_alloc] at hG3
  have HG3 := Lib.hid hG3
  have HT3 := Lib.hid hT3
  clear hown hgrow hx3 hG3 hT3
  go_wp2_with fail
  go_loopw [6, 29] (fun _ i wr => ∃ k : Nat, k ≤ n ∧ i = .int .i64 k ∧ Hid (GrI (wA.heap.size + 1) wr (.slice (some ⟨wA.heap.size + 1, 0, none⟩) n n) (negL n k)) ∧ Hid (TrSp wA (.slice none 0 0) (.slice none 0 0) (.slice none 0 0) (.slice none 0 0) (.slice none 0 0) (.slice none 0 0) [] [] [] wr)) (fun _ i _ => n - (intOf i).toNat)
  case atStart => exact ⟨0, Nat.zero_le _, rfl, HG3, HT3⟩
  case round =>
    obtain ⟨k, hk, rfl, HG, HT⟩ := hrel
    clear HG3 HT3
    obtain ⟨wo, rfl⟩ : ∃ wo : World, wo = wr := ⟨_, rfl⟩
    by_cases hlt : k < n
    · have hlt' : (k : Int) < (n : Int) := by omega
      have hk0 : (0 : Int) ≤ (k : Int) := by omega
      obtain ⟨-, c0, cf, hset⟩ := grI_at HG.out (i := k) (by rw [negL_len]; exact hlt)
      have HG2 := Lib.hid (hset (-1))
      rw [negL_set hlt] at HG2
      have HT2 := Lib.hid (HT.out.other (a := ⟨wA.heap.size + 1, k, none⟩) (Nat.le_refl _) (fun e => by cases e) (fun e => by cases e) (fun e => by cases e) (.int .i64 (-1)))
      have lc := World.block_lt_of_cell? _ _ c0
      clear hset HG HT
      generalize (negL n k).getD k 0 = z0 at c0
      go_wp2
      go_roundw
      case rel => exact ⟨k + 1, by omega, by go_num, HG2, HT2⟩
      case measure => simp [intOf]; omega
    · have hkn : k = n := by omega
      have HI0 : Hid (GrI (wA.heap.size + 1) wo (.slice (some ⟨wA.heap.size + 1, 0, none⟩) n n) (nodT W H l (ndTo W H l 0))) := by
        have h := HG.out
        rw [hkn, negL_all, HN.out, ← nodT_nil (W := W) (H := H) (l := l), ← HN.out] at h
        exact h
      have HAP0 : Hid (ApV (.slice (some ⟨wA.heap.size + 1, 0, none⟩) n n) (.slice none 0 0)) := fun k _ h2 => by cases h2
      clear HG hkn
      go_wp2_with fail
      go_loopw [5, 7] (fun v5 i wr => ∃ (t : Nat) (v1 v2 v3 : Value), t ≤ 100 ∧ i = .int .i64 t ∧ Hid (TrSp wA v1 v2 v3 v1 v2 v3 (levT (ndTo W H l t)) (parT W H l (ndTo W H l t)) (areT W H l (ndTo W H l t)) wr) ∧ Hid (GrI (wA.heap.size + 1) wr v5 (nodT W H l (ndTo W H l t))) ∧ Hid (ApV v5 v1 ∧ ApV v5 v2 ∧ ApV v5 v3)) (fun _ i _ => 100 - (intOf i).toNat)
      case atStart => exact ⟨0, _, _, _, Nat.zero_le _, rfl, HT, HI0, HAP0.out, HAP0.out, HAP0.out⟩
      case round =>
        obtain ⟨t, v1, v2, v3, ht, rfl, HT1, HI, HAP⟩ := hrel
        clear HT HI0 HAP0
        obtain ⟨wl, rfl⟩ : ∃ wl : World, wl = wr := ⟨_, rfl⟩
        obtain ⟨g5, c5, rfl, hg51, hg52, hc5⟩ := grI_getD HI.out (by rw [nodT_len, ← HN.out]; exact hpos)
        rw [nodT_len, ← HN.out] at hc5
        rw [nodT_len, ← HN.out] at HI HAP
        rw [nodT_len, ← HN.out]
        by_cases htt : t < 100
        · have htt' : (t : Int) ≤ 99 := by omega
          go_wp2_with fail
          refine (HHAS.out wl HT1.out.x t).mono ?_
          rintro e w1 ⟨rfl, hx1⟩
          have HT2 := Lib.hid (HT1.out.ext hx1)
          have HI2 := Lib.hid (HI.out.ext hx1)
          have hsz1 := hx1.size
          clear HT1 HI hx1
          cases hmem : decide ((t : Int) ∈ l)
          · have HLV : Hid (ndTo W H l (t + 1) = ndTo W H l t) := by
              show _ = _
              rw [ndTo_succ, lvN_none (fun s hs e => ?_), List.append_nil]
              rw [decide_eq_false_iff_not] at hmem
              apply hmem
              have hsl : s < l.length := by rw [HFL.out]; exact hs
              rw [← e, List.getD_eq_getElem?_getD, List.getElem?_eq_getElem hsl]
              exact List.getElem_mem hsl
            clear hmem
            go_wp2
            go_roundw
            case rel => exact ⟨t + 1, v1, v2, v3, by omega, by go_num, by rw [HLV.out]; exact HT2, by rw [HLV.out]; exact HI2, HAP⟩
            case measure => simp [intOf]; omega
          · clear hmem
            obtain ⟨F, NN, hF⟩ := LabK.ex (pxP W H (thrL t l)) (nbS false) (spotsTo W (thrL t l) (H * W)) (spotsTo W (thrL t l) (H * W)).length
            have HF := Lib.hid hF
            have HPT := Lib.hid (lab_thr HFL.out (hF.congr1 (nb_same false)))
            have hNN : NN ≤ 256 := by
              have h1 := HPT.out.1
              have h2 : (fstL W H l t).length ≤ H * W := by
                unfold fstL
                exact Nat.le_trans (List.length_filter_le _ _) (Nat.le_of_eq List.length_range)
              rw [← HN.out] at h2
              omega
            clear hF
            go_wp2_with fail
            refine (HTH.out w1 t (HXA.out.trans HT2.out.x)).mono ?_
            rintro e w2 ⟨a8, c8, rfl, hx2, ho8⟩
            have HC8 : Hid (Calls Try.prog 231 #[.pointer (some ⟨w2.heap.size, 0, none⟩), .bool false] (w2.alloc (.cells #[.slice a8 H c8] 38)) (LabSRet (w2.alloc (.cells #[.slice a8 H c8] 38)) W H F NN)) :=
              HLB.out _ w2.heap.size a8 c8 t F NN (by simp [go_sem]) (RowOf.ext ho8.row (by repeat (first | exact World.Ext.refl _ | exact ⟨_, rfl⟩ | assumption | refine World.Ext.over ?_ _ | refine World.Ext.drewN ?_ _ | refine World.Ext.drew ?_ | refine World.Ext.alloc ?_ _ | refine World.Ext.setCell ?_ (by simp) _))) HF.out
            have HT3 := Lib.hid (HT2.out.ext (hx2.trans (show w2.Ext (w2.alloc (.cells #[.slice a8 H c8] 38)) by repeat (first | exact World.Ext.refl _ | exact ⟨_, rfl⟩ | assumption | refine World.Ext.over ?_ _ | refine World.Ext.drewN ?_ _ | refine World.Ext.drew ?_ | refine World.Ext.alloc ?_ _ | refine World.Ext.setCell ?_ (by simp) _))))
            have HI3 := Lib.hid (HI2.out.ext (hx2.trans (show w2.Ext (w2.alloc (.cells #[.slice a8 H c8] 38)) by repeat (first | exact World.Ext.refl _ | exact ⟨_, rfl⟩ | assumption | refine World.Ext.over ?_ _ | refine World.Ext.drewN ?_ _ | refine World.Ext.drew ?_ | refine World.Ext.alloc ?_ _ | refine World.Ext.setCell ?_ (by simp) _))))
            have HVL : Hid ((∀ q, v1.ownBlock = some q → wA.heap.size + 1 ≤ q ∧ q < w2.heap.size) ∧ (∀ q, v2.ownBlock = some q → wA.heap.size + 1 ≤ q ∧ q < w2.heap.size) ∧ (∀ q, v3.ownBlock = some q → wA.heap.size + 1 ≤ q ∧ q < w2.heap.size)) :=
              ⟨fun q h => GrI.lt (HT2.out.ext hx2).o1 h, fun q h => GrI.lt (HT2.out.ext hx2).o2 h, fun q h => GrI.lt (HT2.out.ext hx2).o3 h⟩
            have hsz2 := hx2.size
            clear HT2 HI2 hx2 ho8
            go_wp2_with fail
            refine HC8.out.mono ?_
            rintro e w9 ⟨a9, c9, rfl, hx9, ho9⟩
            rw [Nat.mul_comm W H, ← HN.out]
            have HT4 := Lib.hid (HT3.out.ext hx9)
            have HI4 := Lib.hid (HI3.out.ext hx9)
            have HO9 := Lib.hid ho9
            have HC9 : Hid (Calls Try.prog 232 #[.slice (some ⟨g5, 0, none⟩) n c5] w9 fun e w' => ∃ v, e = .returned v ∧ w9.Ext w' ∧ GrowOf (Value.int .i64) w9.heap.size 2 w' v (nodT W H l (ndTo W H l t))) := by
              have h := l00Own_any g5 0 c5 (nodT W H l (ndTo W H l t)) w9 (by rw [nodT_len, ← HN.out]; omega) (GrowOf.own 0 HI4.out).row
              rw [nodT_len, ← HN.out] at h
              exact h
            have hsz9 : w2.heap.size + 1 ≤ w9.heap.size := by have := hx9.size; simp at this; omega
            have hO9 : ∀ b o, a9 = some ⟨b, o, none⟩ → w2.heap.size + 1 ≤ b ∧ b < w9.heap.size := fun b o e => by
              obtain ⟨b', o', e', h1, h2, -⟩ := HO9.out 0 (by rw [numL_len, ← HN.out]; exact hpos)
              rw [e] at e'
              cases e'
              simp at h1
              exact ⟨h1, h2⟩
            have HO9B := Lib.hid hO9
            clear HT3 HI3 hx9 ho9 HC8 hO9
            go_wp2_with fail
            refine HC9.out.mono ?_
            rintro e w11 ⟨v11, rfl, hx11, hg11⟩
            obtain ⟨g11, c11, rfl, hg111, hg112, hc11⟩ := grI_getD (show GrI w9.heap.size w11 v11 _ from hg11) (by rw [nodT_len, ← HN.out]; exact hpos)
            rw [nodT_len, ← HN.out] at hg11 hc11
            rw [nodT_len, ← HN.out]
            have HS0 : Hid (KSt wA w11 (.slice (some ⟨g11, 0, none⟩) n c11) v1 v2 v3 v1 v2 v3 v1 v2 v3 (levT (ndK W H l t 0)) (parT W H l (ndK W H l t 0)) (areT W H l (ndK W H l t 0)) (nodT W H l (ndK W H l t 0)) w11) := by
              rw [ndK_zero]
              have hsA := HT4.out.x.size
              have hb9 : wA.heap.size + 1 ≤ w9.heap.size := Nat.lt_of_lt_of_le (Array.getElem?_eq_some_iff.1 HT4.out.box).1 (Nat.le_refl _)
              refine KSt.start (HT4.out.ext hx11) (World.ownsRow.mono hg11 hb9) (fun q h1 h2 => ?_) (fun q h1 h2 => ?_) (fun q h1 h2 => ?_)
              all_goals cases h1
              · have := (GrI.lt HT4.out.o1 h2).2; dsimp only at this; omega
              · have := (GrI.lt HT4.out.o2 h2).2; dsimp only at this; omega
              · have := (GrI.lt HT4.out.o3 h2).2; dsimp only at this; omega
            have HROWS : Hid (∀ (u1 u2 u3 x1 x2 x3 : Value) (L P R NX : List Int) (wr : World), KSt wA w11 (.slice (some ⟨g11, 0, none⟩) n c11) v1 v2 v3 u1 u2 u3 x1 x2 x3 L P R NX wr → RowI wr a9 (numL W H F) ∧ RowI wr a1 l ∧ RowI wr (some ⟨g5, 0, none⟩) (nodT W H l (ndTo W H l t))) := fun u1 u2 u3 x1 x2 x3 L P R NX wr h => by
              have hb9 : wA.heap.size < w9.heap.size := (Array.getElem?_eq_some_iff.1 HT4.out.box).1
              obtain ⟨l1, l2, l3⟩ := HVL.out
              have hA2 := HT4.out.x.size
              have hl2 : wA.heap.size < w2.heap.size := by omega
              refine ⟨h.row (RowI.ext (show RowI w9 a9 _ from HO9.out.row) hx11) fun b o e => ?_, RowI.ext HRL.out h.tr.x, h.row (RowI.ext (show RowI w9 (some ⟨g5, 0, none⟩) _ from (GrowOf.own 0 HI4.out).row) hx11) fun b o e => ?_⟩
              · obtain ⟨h1, h2⟩ := HO9B.out b o e
                refine ⟨by omega, fun e2 => ?_, fun e2 => ?_, fun e2 => ?_, fun e2 => ?_⟩
                · cases e2; dsimp only at *; omega
                · have := l1 _ e2; omega
                · have := l2 _ e2; omega
                · have := l3 _ e2; omega
              · cases e
                refine ⟨by omega, fun e2 => ?_, fun e2 => HAP.out.1 _ rfl e2, fun e2 => HAP.out.2.1 _ rfl e2, fun e2 => HAP.out.2.2 _ rfl e2⟩
                cases e2; dsimp only at *; omega
            have HSZW : Hid (wl.heap.size ≤ w11.heap.size) := by have := hx11.size; show _ ≤ _; omega
            clear HT4 HI4 HO9 hx11 hg11 HC9 HVL HO9B hg111 hg112
            go_wp2_with fail
            go_loopw [12] (fun i wr => ∃ (k kk : Nat) (x1 x2 x3 : Value), kk = k + 1 ∧ kk ≤ NN + 1 ∧ i = .int .i64 kk ∧ Hid (KSt wA w11 (.slice (some ⟨g11, 0, none⟩) n c11) v1 v2 v3 x1 x2 x3 x1 x2 x3 (levT (ndK W H l t k)) (parT W H l (ndK W H l t k)) (areT W H l (ndK W H l t k)) (nodT W H l (ndK W H l t k)) wr)) (fun i _ => NN + 1 - (intOf i).toNat)
            case atStart => exact ⟨0, 1, _, _, _, rfl, by omega, rfl, HS0⟩
            case round =>
              obtain ⟨k, kk, x1, x2, x3, hkk, hkn, rfl, HS⟩ := hrel
              clear HS0
              obtain ⟨wk, rfl⟩ : ∃ wk : World, wk = wr := ⟨_, rfl⟩
              have HKK := Lib.hid hkk
              clear hkk
              by_cases hle : kk ≤ NN
              · have hle' : (kk : Int) ≤ (NN : Int) := by omega
                obtain ⟨hr9, hr1, hr5⟩ := HROWS.out _ _ _ _ _ _ _ _ _ _ _ HS.out
                have HR9 := Lib.hid hr9
                have HR1 := Lib.hid hr1
                have HR5 := Lib.hid hr5
                clear hr9 hr1 hr5
                obtain ⟨c, hc⟩ : ∃ c : Nat → Bool, c = cnB W H l t ((fstL W H l t).getD k 0) := ⟨_, rfl⟩
                have HLB2 : Hid (∀ i, i < n → (numL W H F).getD i 0 = (F (spN W i) : Int) ∧ (((F (spN W i) : Nat) : Int) == (kk : Int)) = c i) := fun i hi => by
                  have hih : i < H * W := by rw [← HN.out]; exact hi
                  have hkl : k < NN := by have := HKK.out; omega
                  have hp := HPT.out.2 i hih k hkl
                  refine ⟨?_, ?_⟩
                  · unfold numL
                    rw [List.getD_eq_getElem?_getD, List.getElem?_map, List.getElem?_range hih]
                    rfl
                  · rw [hc, HKK.out, Bool.eq_iff_iff, beq_iff_eq, cnB_iff, ← hp]
                    omega
                obtain ⟨ob, hob⟩ : ∃ ob : Nat → Bool, ∀ j, ob j = (List.range j).any fun s => c s && decide (l.getD s 0 = (t : Int)) := ⟨_, fun _ => rfl⟩
                have HOB0 : Hid (ob 0 = false) := by show _ = _; rw [hob]; rfl
                have HOBS : Hid (∀ j, ob (j + 1) = (ob j || (c j && decide (l.getD j 0 = (t : Int))))) := fun j => by rw [hob, hob, anyI_succ]
                have HOBN : Hid (ob n = ownB W H l t ((fstL W H l t).getD k 0)) := by
                  show _ = _
                  rw [hob, hc, HN.out]
                  rfl
                have HC := Lib.hid hc
                clear hc hob
                go_wp2_with fail
                go_loop [13, 14, 15, 16, 60] (fun f ar ow _ i => ∃ j : Nat, j ≤ n ∧ i = .int .i64 j ∧ f = .int .i64 (fiW c j) ∧ ar = .int .i64 ((cntI c j : Nat) : Int) ∧ ow = .bool (ob j)) (fun _ _ _ _ i => n - (intOf i).toNat)
                case atStart => exact ⟨0, Nat.zero_le _, rfl, rfl, rfl, by rw [HOB0.out]⟩
                case round =>
                  obtain ⟨j, hj, rfl, rfl, rfl, rfl⟩ := hrel
                  by_cases hltj : j < n
                  · have hltj' : (j : Int) < (n : Int) := by omega
                    have hj0 : (0 : Int) ≤ (j : Int) := by omega
                    obtain ⟨b9, o9, rfl, d9⟩ := HR9.out j (by rw [numL_len, ← HN.out]; exact hltj)
                    obtain ⟨e1, e2⟩ := HLB2.out j hltj
                    rw [e1] at d9
                    obtain ⟨b1, o1, rfl, d1⟩ := HR1.out j (by rw [HLN.out]; exact hltj)
                    have hcl : cntI c j ≤ j := cntI_le j
                    have HS1 := HOBS.out j
                    clear e1
                    generalize F (spN W j) = fv at *
                    cases hcj : c j
                    · rw [hcj] at e2 HS1
                      have HF1 := Lib.hid (fiW_no hcj)
                      have HF2 := Lib.hid (cntI_no hcj)
                      have HF3 : Hid (ob (j + 1) = ob j) := by show _ = _; rw [HS1, Bool.false_and, Bool.or_false]
                      have e3 : (((fv : Nat) : Int) != (kk : Int)) = true := by rw [bne, e2]; rfl
                      clear HS1 hcj
                      generalize fiW c j = fz at *
                      generalize cntI c j = cz at *
                      generalize ob j = oz at *
                      go_wp2
                      go_round
                      case rel => exact ⟨j + 1, by omega, by go_num, by rw [HF1.out], by rw [HF2.out], by rw [HF3.out]⟩
                      case measure => simp [intOf]; omega
                    · rw [hcj] at e2 HS1
                      have HF2 := Lib.hid (cntI_yes hcj)
                      have e3 : (((fv : Nat) : Int) != (kk : Int)) = false := by rw [bne, e2]; rfl
                      have HF1n : Hid (fiW c j < 0 → fiW c (j + 1) = (j : Int)) := fun h => fiW_neg hcj h
                      have HF1p : Hid (¬ fiW c j < 0 → fiW c (j + 1) = fiW c j) := fun h => fiW_pos h
                      rw [Bool.true_and] at HS1
                      have HS2 := Lib.hid HS1
                      clear HS1 hcj
                      have HF4 : Hid (fiW c (j + 1) = if fiW c j < 0 then (j : Int) else fiW c j) := by
                        show _ = _
                        split
                        · rename_i h; exact HF1n.out h
                        · rename_i h; exact HF1p.out h
                      clear HF1n HF1p
                      generalize fiW c j = fz at *
                      generalize cntI c j = cz at *
                      generalize ob j = oz at *
                      have hdt : (l.getD j 0 == (t : Int)) = decide (l.getD j 0 = (t : Int)) := by rw [Bool.eq_iff_iff, beq_iff_eq, decide_eq_true_iff]
                      generalize decide (l.getD j 0 = (t : Int)) = dz at *
                      generalize l.getD j 0 = lz at *
                      by_cases hfz : fz < 0
                      all_goals
                        have HF5 := HF4
                        first | rw [if_pos hfz] at HF5 | rw [if_neg hfz] at HF5
                        clear HF4
                        cases oz
                        · cases dz
                          all_goals
                            have HF3 := HS2
                            simp only [Bool.or_false, Bool.or_true] at HF3
                            clear HS2
                            go_wp2
                            go_round
                            case rel => exact ⟨j + 1, by omega, by go_num, by rw [HF5.out], by rw [HF2.out]; go_num, by rw [HF3.out]⟩
                            case measure => simp [intOf]; omega
                        · have HF3 := HS2
                          simp only [Bool.true_or] at HF3
                          clear HS2
                          go_wp2
                          go_round
                          case rel => exact ⟨j + 1, by omega, by go_num, by rw [HF5.out], by rw [HF2.out]; go_num, by rw [HF3.out]⟩
                          case measure => simp [intOf]; omega
                  · have hjn : j = n := by omega
                    rw [hjn]
                    clear hjn hltj hj
                    rw [HOBN.out]
                    have hkl : k < (fstL W H l t).length := by have := HKK.out; rw [← HPT.out.1]; omega
                    cases how : ownB W H l t ((fstL W H l t).getD k 0)
                    · have HK2 := Lib.hid (ndK_no hkl how)
                      have HKK2 : Hid (kk + 1 = k + 1 + 1) := by show _ = _; rw [HKK.out]
                      clear how hkl
                      go_wp2
                      go_roundw
                      case rel => exact ⟨k + 1, kk + 1, x1, x2, x3, HKK2.out, by omega, by go_num, by rw [HK2.out]; exact HS⟩
                      case measure => simp [intOf]; omega
                    · have HK2 := Lib.hid (ndK_yes hkl how)
                      have HKK2 : Hid (kk + 1 = k + 1 + 1) := by show _ = _; rw [HKK.out]
                      have hln : (ndK W H l t k).length ≤ 256 := Nat.le_trans (ndK_len HGL.out htt) (by rw [← HN.out]; exact hnn)
                      obtain ⟨q, hq1, hq2, hq3⟩ : ∃ q, q = (fstL W H l t).getD k 0 ∧ q < n ∧ fiW c n = (q : Int) := by
                        obtain ⟨s1, s2, s3⟩ := fst_spec hkl
                        refine ⟨_, rfl, by rw [HN.out]; exact s1, ?_⟩
                        exact fiW_at (by rw [HC.out]; exact s2) (fun j hj => by rw [HC.out]; exact s3 j hj) n (by rw [HN.out]; exact s1)
                      have HQ3 : Hid (cntI c n = arN W H l (t, q)) := by show _ = _; rw [HC.out, HN.out, ← hq1]; rfl
                      have HPR : Hid (parN W H l (t, q) = lastIn W H l (ndTo W H l t) q) := rfl
                      rw [← hq1] at HK2
                      have HCQ : Hid (c = cnB W H l t q) := by show _ = _; rw [HC.out, hq1]
                      rw [hq3]
                      have hcn : cntI c n ≤ n := cntI_le n
                      rw [HQ3.out] at hcn
                      rw [HQ3.out]
                      clear how hkl hq1 hq3
                      obtain ⟨p1, q1, e, -⟩ := World.ownsRow.form HS.out.tr.o1
                      rw [levT_len] at e
                      subst e
                      obtain ⟨nds, hnds⟩ : ∃ nds, nds = ndK W H l t k := ⟨_, rfl⟩
                      rw [← hnds] at hln HS HK2
                      have HND := Lib.hid hnds
                      clear hnds
                      have HM0 : Hid (KSt wA w11 (.slice (some ⟨g11, 0, none⟩) n c11) v1 v2 v3 (.slice p1 nds.length q1) x2 x3 (.slice p1 nds.length q1) x2 x3 (levT nds) (parT W H l nds) (areT W H l nds) (mixT W H l nds c nds.length 0) wk) := by rw [mixT_zero]; exact HS
                      clear HS
                      go_wp2_with fail
                      go_loopw [17, 88] (fun _ i wr => ∃ j : Nat, j ≤ n ∧ i = .int .i64 j ∧ Hid (KSt wA w11 (.slice (some ⟨g11, 0, none⟩) n c11) v1 v2 v3 (.slice p1 nds.length q1) x2 x3 (.slice p1 nds.length q1) x2 x3 (levT nds) (parT W H l nds) (areT W H l nds) (mixT W H l nds c nds.length j) wr)) (fun _ i _ => n - (intOf i).toNat)
                      case atStart => exact ⟨0, Nat.zero_le _, rfl, HM0⟩
                      case round =>
                        obtain ⟨j, hj, rfl, HS⟩ := hrel
                        clear HM0
                        obtain ⟨wm, rfl⟩ : ∃ wm : World, wm = wr := ⟨_, rfl⟩
                        by_cases hltj : j < n
                        · have hltj' : (j : Int) < (n : Int) := by omega
                          have hj0 : (0 : Int) ≤ (j : Int) := by omega
                          obtain ⟨b9, o9, rfl, d9⟩ := (HROWS.out _ _ _ _ _ _ _ _ _ _ _ HS.out).1 j (by rw [numL_len, ← HN.out]; exact hltj)
                          obtain ⟨e1, e2⟩ := HLB2.out j hltj
                          rw [e1] at d9
                          clear e1
                          generalize F (spN W j) = fv at *
                          cases hcj : c j
                          · rw [hcj] at e2
                            have HS2 : Hid (KSt wA w11 (.slice (some ⟨g11, 0, none⟩) n c11) v1 v2 v3 (.slice p1 nds.length q1) x2 x3 (.slice p1 nds.length q1) x2 x3 (levT nds) (parT W H l nds) (areT W H l nds) (mixT W H l nds c nds.length (j + 1)) wm) := by rw [mixT_no hcj]; exact HS
                            clear HS hcj
                            go_wp2
                            go_roundw
                            case rel => exact ⟨j + 1, by omega, by go_num, HS2⟩
                            case measure => simp [intOf]; omega
                          · rw [hcj] at e2
                            obtain ⟨g0, -, -, -⟩ := HS.out.tr.cells
                            obtain ⟨d11, f11, hset⟩ := HS.out.at rfl (i := j) (by rw [mixT_len, ← HN.out]; exact hltj)
                            have HS2 := Lib.hid (hset ((nds.length : Nat) : Int))
                            rw [← mixT_yes hcj] at HS2
                            have l11 := World.block_lt_of_cell? _ _ d11
                            have hj11 : (j : Int) ≤ (c11 : Int) := by omega
                            clear HS hcj hset
                            generalize (mixT W H l nds c nds.length j).getD j 0 = mz at d11
                            go_wp2
                            go_roundw
                            case rel => exact ⟨j + 1, by omega, by go_num, HS2⟩
                            case measure => simp [intOf]; omega
                        · have hjn : j = n := by omega
                          have HS2 : Hid (KSt wA w11 (.slice (some ⟨g11, 0, none⟩) n c11) v1 v2 v3 (.slice p1 nds.length q1) x2 x3 (.slice p1 nds.length q1) x2 x3 (levT nds) (parT W H l nds) (areT W H l nds) (nodT W H l (nds ++ [(t, q)])) wm) := by
                            have h := HS.out
                            rw [hjn, HCQ.out, HN.out] at h
                            have e := mixT_all (W := W) (H := H) (l := l) (nds := nds) (d := (t, q))
                            simp only at e
                            rw [e, ← HN.out] at h
                            exact h
                          have hnl : ¬ (j : Int) < (n : Int) := by omega
                          clear HS hjn hltj hj
                          obtain ⟨g0, -, -, -⟩ := HS2.out.tr.cells
                          have f0 := HS2.out.tr.free 0
                          have l0 := World.block_lt_of_cell? _ _ g0
                          dsimp only at l0
                          have HB1 : Hid (nds.length + 1 ≤ maxLen) := by show _ ≤ _; unfold maxLen; omega
                          have HB2 : Hid ((nds.length + 1) * 8 ≤ 140737488355328) := by show _ ≤ _; omega
                          have HZ : Hid (∀ (w' : World) (o : Obj), wm.Ext w' → wA.heap.size + 1 ≤ (w'.alloc o).heap.size) := fun w' o hx => by have := hx.size; simp; omega
                          have HO1 : Hid (wm.ownsRow (wA.heap.size + 1) 2 1 (.slice p1 nds.length q1) nds.length ((levT nds).map iv)) := by
                            have h : wm.ownsRow (wA.heap.size + 1) 2 1 (.slice p1 nds.length q1) (levT nds).length ((levT nds).map iv) := HS2.out.tr.o1
                            rw [levT_len] at h
                            exact h
                          go_wp2_with (at_builtin; go_loud (refine wpList_append_own_at _ rfl _ _ 28 rfl (wA.heap.size + 1) 2 i0 (.int .i64 0) 1 8 Try.underlying28 hi hz0 hz1 hz2 rfl (by decide) _ _ _ rfl (HO1.out.alloc _) ⟨wm.heap.size, 0, none⟩ 1 1 [.int .i64 (t : Int)] rfl rfl (cell_one_new _ _ _) (by simp [Value.oneCell']) HB1.out HB2.out (HZ.out _ _ (.refl _)) (fun y1 w7 hown7 hgrow7 _ hat7 => ?_)); have h7 := HS2.out.push1 (by repeat (first | exact World.Ext.refl _ | exact ⟨_, rfl⟩ | assumption | refine World.Ext.over ?_ _ | refine World.Ext.drewN ?_ _ | refine World.Ext.drew ?_ | refine World.Ext.alloc ?_ _ | refine World.Ext.setCell ?_ (by simp) _)) hgrow7 (by rw [levT_len]; exact hown7) hat7; obtain ⟨p4, q4, e, -⟩ := World.ownsRow.form h7.tr.o1; rw [List.length_append, levT_len, List.length_singleton] at e; subst e; obtain ⟨g7, -, -, -⟩ := h7.tr.cells; have lg7 := World.block_lt_of_cell? _ _ g7; have fr7 := h7.tr.free 0; have HS3 := Lib.hid (h7.put1 (.slice p4 (nds.length + 1) q4)); clear h7 hown7 hgrow7 hat7 g0 f0 l0)
                          obtain ⟨wq, hwq⟩ : ∃ wq, wq = w7.setCell ⟨wA.heap.size, 0, none⟩ (.slice p4 (nds.length + 1) q4) := ⟨_, rfl⟩
                          rw [← hwq] at HS3
                          go_upto_region 39 with fail
                          rw [← hwq]
                          clear hwq g7 lg7 fr7 HO1 HZ
                          obtain ⟨p5, q5, e, -⟩ := World.ownsRow.form HS3.out.tr.o2
                          rw [parT_len] at e
                          subst e
                          obtain ⟨-, g1, -, -⟩ := HS3.out.tr.cells
                          have f1 := HS3.out.tr.free 1
                          obtain ⟨b5, o5, e5, d5⟩ := (HROWS.out _ _ _ _ _ _ _ _ _ _ _ HS3.out).2.2 q (by rw [nodT_len, ← HN.out]; exact hq2)
                          cases e5
                          rw [nodT_at (by rw [← HN.out]; exact hq2), ← HPR.out] at d5
                          rw [Nat.zero_add] at d5
                          have hqi : (q : Int) < (n : Int) := by omega
                          have hq0 : (0 : Int) ≤ (q : Int) := by omega
                          have lq := (Array.getElem?_eq_some_iff.1 HS3.out.tr.box).1
                          have HZ : Hid (∀ w' : World, wq.Ext w' → wA.heap.size + 1 ≤ w'.heap.size) := fun w' hx => Nat.le_trans lq hx.size
                          have HO2 : Hid (wq.ownsRow (wA.heap.size + 1) 2 1 (.slice p5 nds.length q5) nds.length ((parT W H l nds).map iv)) := by
                            have h : wq.ownsRow (wA.heap.size + 1) 2 1 (.slice p5 nds.length q5) (parT W H l nds).length ((parT W H l nds).map iv) := HS3.out.tr.o2
                            rw [parT_len] at h
                            exact h
                          go_cut [117] (fun u117 WX => ∃ y2, u117 = y2 ∧ Hid (KSt wA w11 (.slice (some ⟨g11, 0, none⟩) n c11) v1 v2 v3 (.slice p4 (nds.length + 1) q4) y2 x3 (.slice p4 (nds.length + 1) q4) y2 x3 (levT nds ++ [(t : Int)]) (parT W H l nds ++ [parN W H l (t, q)]) (areT W H l nds) (nodT W H l (nds ++ [(t, q)])) WX))
                          case first =>
                            refine wp_region_cut 8 (by kernel_rfl) (by kernel_rfl) (by kernel_rfl) (by kernel_rfl) (by simp) (by kernel_rfl) ?_
                            simp only [List.take_succ_cons, List.take_zero, List.drop_succ_cons, List.drop_zero]
                            change wpAny _ _ _ _ _ _ _ (World.drew _)
                            refine wpAny_of_held (S := fun w' => w'.cell? ⟨wA.heap.size, 1, none⟩ = some (.slice p5 nds.length q5) ∧ w'.cell? ⟨g5, q, none⟩ = some (.int .i64 (parN W H l (t, q)))) _ _ _ _ ?_
                            have hHeld : (wq.drew.cell? ⟨wA.heap.size, 1, none⟩ = some (.slice p5 nds.length q5) ∧ wq.drew.cell? ⟨g5, q, none⟩ = some (.int .i64 (parN W H l (t, q)))) := ⟨g1, d5⟩
                            (refine' wpAnyH_take (i := 0) (oi := { dst := some 110, op := Op.fieldAddr 30 (Operand.tmp 4) 1, type := 0, pos := "l07_grey.go:135", after := #[], guard := none }) (v := _) rfl (by kernel_rfl) (by kernel_rfl) (by kernel_rfl) (fun _ _ _ h => h) (Or.inl ⟨by rfl, ?hy0t⟩) (by assumption) ?rest0t; (case hy0t => (intro w hSw; (try dsimp only at hSw); go_simp; (try with_reducible rfl))); (try simp only [Act.put, List.setIfInBounds_toArray, List.set_cons_succ, List.set_cons_zero]))
                            (refine' wpAnyH_take (i := 1) (oi := { dst := some 111, op := Op.load 28 (Operand.tmp 110), type := 28, pos := "l07_grey.go:135", after := #[{ on := 0, ground := Ground.data }], guard := none }) (v := _) rfl (by kernel_rfl) (by kernel_rfl) (by kernel_rfl) (fun _ _ _ h => h) (Or.inl ⟨by rfl, ?hy1t⟩) (by assumption) ?rest1t; (case hy1t => (intro w hSw; (try dsimp only at hSw); go_simp; (try with_reducible rfl))); (try simp only [Act.put, List.setIfInBounds_toArray, List.set_cons_succ, List.set_cons_zero]))
                            (refine' wpAnyH_take (i := 2) (oi := { dst := some 112, op := Op.move (Operand.tmp 5), type := 28, pos := "l07_grey.go:135", after := #[], guard := none }) (v := _) rfl (by kernel_rfl) (by kernel_rfl) (by kernel_rfl) (fun _ _ _ h => h) (Or.inl ⟨by rfl, ?hy2t⟩) (by assumption) ?rest2t; (case hy2t => (intro w hSw; (try dsimp only at hSw); go_simp; (try with_reducible rfl))); (try simp only [Act.put, List.setIfInBounds_toArray, List.set_cons_succ, List.set_cons_zero]))
                            (refine' wpAnyH_take (i := 3) (oi := { dst := some 113, op := Op.move (Operand.tmp 13), type := 2, pos := "l07_grey.go:135", after := #[], guard := none }) (v := _) rfl (by kernel_rfl) (by kernel_rfl) (by kernel_rfl) (fun _ _ _ h => h) (Or.inl ⟨by rfl, ?hy3t⟩) (by assumption) ?rest3t; (case hy3t => (intro w hSw; (try dsimp only at hSw); go_simp; (try with_reducible rfl))); (try simp only [Act.put, List.setIfInBounds_toArray, List.set_cons_succ, List.set_cons_zero]))
                            (refine' wpAnyH_take (i := 4) (oi := { dst := some 114, op := Op.indexAddr 28 (Operand.tmp 112) (Operand.tmp 113), type := 0, pos := "l07_grey.go:135", after := #[{ on := 2, ground := Ground.data }, { on := 3, ground := Ground.data }], guard := none }) (v := _) rfl (by kernel_rfl) (by kernel_rfl) (by kernel_rfl) (fun _ _ _ h => h) (Or.inl ⟨by rfl, ?hy4t⟩) (by assumption) ?rest4t; (case hy4t => (intro w hSw; (try dsimp only at hSw); go_simp; (try with_reducible rfl))); (try simp only [Act.put, List.setIfInBounds_toArray, List.set_cons_succ, List.set_cons_zero]))
                            (refine' wpAnyH_take (i := 5) (oi := { dst := some 115, op := Op.load 2 (Operand.tmp 114), type := 2, pos := "l07_grey.go:135", after := #[{ on := 4, ground := Ground.data }], guard := none }) (v := _) rfl (by kernel_rfl) (by kernel_rfl) (by kernel_rfl) (fun _ _ _ h => h) (Or.inl ⟨by rfl, ?hy5t⟩) (by assumption) ?rest5t; (case hy5t => (intro w hSw; (try dsimp only at hSw); go_simp; (try with_reducible rfl))); (try simp only [Act.put, List.setIfInBounds_toArray, List.set_cons_succ, List.set_cons_zero]))
                            clear hHeld
                            refine wpAnyH_ready (rs := [6]) (by kernel_rfl) (by simp) ?_
                            refine AllReadyH.cons (o := { dst := some 116, op := Op.buildSlice 28 1 #[(0, Operand.tmp 115)], type := 28, pos := "l07_grey.go:135", after := #[{ on := 5, ground := Ground.data }], guard := none }) rfl (fun K hK => ?_) ?_
                            · go_simp
                              refine hK.out _ _ ⟨World.Ext.cell (by repeat (first | exact World.Ext.refl _ | exact ⟨_, rfl⟩ | assumption | refine World.Ext.over ?_ _ | refine World.Ext.drewN ?_ _ | refine World.Ext.drew ?_ | refine World.Ext.alloc ?_ _ | refine World.Ext.setCell ?_ (by simp) _)) g1, World.Ext.cell (by repeat (first | exact World.Ext.refl _ | exact ⟨_, rfl⟩ | assumption | refine World.Ext.over ?_ _ | refine World.Ext.drewN ?_ _ | refine World.Ext.drew ?_ | refine World.Ext.alloc ?_ _ | refine World.Ext.setCell ?_ (by simp) _)) d5⟩ (fun hHeld => ?_)
                              clear hK K hHeld
                              (try simp only [Act.put, List.setIfInBounds_toArray, List.set_cons_succ, List.set_cons_zero])
                              refine wpAnyH_ready (rs := [7]) (by kernel_rfl) (by simp) ?_
                              refine AllReadyH.cons (o := { dst := some 117, op := Op.call { callee := Callee.builtin Builtin.append, args := #[Operand.tmp 111, Operand.tmp 116], argTypes := #[28, 28] }, type := 28, pos := "l07_grey.go:135", after := #[{ on := 1, ground := Ground.data }, { on := 6, ground := Ground.data }], guard := none }) rfl (fun K hK => ?_) ?_
                              · refine step_append_mine rfl _ _ 28 rfl (wA.heap.size + 1) 2 i0 (.int .i64 0) 1 8 Try.underlying28 hi hz0 hz1 hz2 rfl (by decide) (.slice p5 nds.length q5) nds.length _ rfl (World.ownsRow.ext HO2.out (by repeat (first | exact World.Ext.refl _ | exact ⟨_, rfl⟩ | assumption | refine World.Ext.over ?_ _ | refine World.Ext.drewN ?_ _ | refine World.Ext.drew ?_ | refine World.Ext.alloc ?_ _ | refine World.Ext.setCell ?_ (by simp) _))) _ 1 1 [.int .i64 (parN W H l (t, q))] rfl rfl (by first | (refine cell_one_at ?_ <;> (simp; done)) | (intro q u hu; refine World.Ext.cell ?_ (cell_one_at (e := 2) rfl q u hu) <;> ((repeat (first | exact World.Ext.refl _ | exact ⟨_, rfl⟩ | assumption | refine World.Ext.over ?_ _ | refine World.Ext.drewN ?_ _ | refine World.Ext.drew ?_ | refine World.Ext.alloc ?_ _ | refine World.Ext.setCell ?_ ?_ _ | (simp; done))); done))) (by simp [Value.oneCell']) HB1.out HB2.out (HZ.out _ (by repeat (first | exact World.Ext.refl _ | exact ⟨_, rfl⟩ | assumption | refine World.Ext.over ?_ _ | refine World.Ext.drewN ?_ _ | refine World.Ext.drew ?_ | refine World.Ext.alloc ?_ _ | refine World.Ext.setCell ?_ (by simp) _))) (fun y2 w8 hown8 hgrow8 hat8 => ?_)
                                have h8 := HS3.out.push2 (by repeat (first | exact World.Ext.refl _ | exact ⟨_, rfl⟩ | assumption | refine World.Ext.over ?_ _ | refine World.Ext.drewN ?_ _ | refine World.Ext.drew ?_ | refine World.Ext.alloc ?_ _ | refine World.Ext.setCell ?_ (by simp) _)) hgrow8 (by rw [parT_len]; exact hown8) hat8
                                obtain ⟨p6, q6, e, -⟩ := World.ownsRow.form h8.tr.o2
                                rw [List.length_append, parT_len, List.length_singleton] at e
                                subst e
                                obtain ⟨-, g8, -, -⟩ := h8.tr.cells
                                have f8 := h8.tr.free 1
                                have l8 := World.block_lt_of_cell? _ _ g8
                                have d8 := (HROWS.out _ _ _ _ _ _ _ _ _ _ _ h8).2.2 q (by rw [nodT_len, ← HN.out]; exact hq2)
                                obtain ⟨b6, o6, e6, d8⟩ := d8
                                cases e6
                                rw [nodT_at (by rw [← HN.out]; exact hq2), ← HPR.out] at d8
                                rw [Nat.zero_add] at d8
                                have HS4 := Lib.hid (h8.put2 (.slice p6 (nds.length + 1) q6))
                                clear h8 hown8 hgrow8 hat8
                                refine hK.out _ _ ⟨g8, d8⟩ (fun hHeld => ?_)
                                clear hK K hHeld
                                (try simp only [Act.put, List.setIfInBounds_toArray, List.set_cons_succ, List.set_cons_zero])
                                refine wpAnyH_done (by kernel_rfl) ?_ _
                                show wpList _ _ _ _ _ _
                                go_wp2_with fail
                                go_meet
                                exact ⟨_, rfl, HS4⟩
                              · exact AllReadyH.nil
                            · exact AllReadyH.nil
                          case rest =>
                            obtain ⟨wc2, rfl⟩ : ∃ z : World, z = wc := ⟨_, rfl⟩
                            obtain ⟨y2, rfl, HS4⟩ := hcut
                            clear g1 f1 d5 lq HZ HO2
                            obtain ⟨-, -, g2, -⟩ := HS4.out.tr.cells
                            have f2 := HS4.out.tr.free 2
                            have l2 := World.block_lt_of_cell? _ _ g2
                            dsimp only at l2
                            obtain ⟨p7, q7, e, -⟩ := World.ownsRow.form HS4.out.tr.o3
                            rw [areT_len] at e
                            subst e
                            have HO3 : Hid (wc2.ownsRow (wA.heap.size + 1) 2 1 (.slice p7 nds.length q7) nds.length ((areT W H l nds).map iv)) := by
                              have h : wc2.ownsRow (wA.heap.size + 1) 2 1 (.slice p7 nds.length q7) (areT W H l nds).length ((areT W H l nds).map iv) := HS4.out.tr.o3
                              rw [areT_len] at h
                              exact h
                            have HZ : Hid (∀ o : Obj, wA.heap.size + 1 ≤ (wc2.alloc o).heap.size) := fun o => by simp; omega
                            go_wp2_with (at_builtin; refine wpList_append_own_at _ rfl _ _ 28 rfl (wA.heap.size + 1) 2 i0 (.int .i64 0) 1 8 Try.underlying28 hi hz0 hz1 hz2 rfl (by decide) _ _ _ rfl (HO3.out.alloc _) ⟨wc2.heap.size, 0, none⟩ 1 1 [.int .i64 (arN W H l (t, q) : Int)] rfl rfl (cell_one_new _ _ _) (by simp [Value.oneCell']) HB1.out HB2.out (HZ.out _) (fun y3 w9 hown9 hgrow9 _ hat9 => ?_); have h9 := HS4.out.push3 (by repeat (first | exact World.Ext.refl _ | exact ⟨_, rfl⟩ | assumption | refine World.Ext.over ?_ _ | refine World.Ext.drewN ?_ _ | refine World.Ext.drew ?_ | refine World.Ext.alloc ?_ _ | refine World.Ext.setCell ?_ (by simp) _)) hgrow9 (by rw [areT_len]; exact hown9) hat9; obtain ⟨p8, q8, e, -⟩ := World.ownsRow.form h9.tr.o3; rw [List.length_append, areT_len, List.length_singleton] at e; subst e; obtain ⟨-, -, g9, -⟩ := h9.tr.cells; have lg9 := World.block_lt_of_cell? _ _ g9; have fr9 := h9.tr.free 2; have HS5 := Lib.hid (h9.put3 (.slice p8 (nds.length + 1) q8)); clear h9 hown9 hgrow9 hat9 g2 f2 l2)
                            go_roundw
                            case rel =>
                              have HS6 := HS5
                              rw [show levT nds ++ [(t : Int)] = levT (ndK W H l t (k + 1)) by rw [HK2.out, levT_snoc], show parT W H l nds ++ [parN W H l (t, q)] = parT W H l (ndK W H l t (k + 1)) by rw [HK2.out, parT_snoc], show areT W H l nds ++ [(arN W H l (t, q) : Int)] = areT W H l (ndK W H l t (k + 1)) by rw [HK2.out, areT_snoc], ← HK2.out] at HS6
                              exact ⟨k + 1, kk + 1, _, _, _, HKK2.out, by omega, by go_num, HS6⟩
                            case measure => simp [intOf]; omega
              · have hke : k = (fstL W H l t).length := by have := HKK.out; rw [← HPT.out.1]; omega
                have HT5 : Hid (TrSp wA x1 x2 x3 x1 x2 x3 (levT (ndTo W H l (t + 1))) (parT W H l (ndTo W H l (t + 1))) (areT W H l (ndTo W H l (t + 1))) wk) := by
                  have h := HS.out.tr
                  rw [hke, ndK_all] at h
                  exact h
                have HI5 : Hid (GrI (wA.heap.size + 1) wk (.slice (some ⟨g11, 0, none⟩) n c11) (nodT W H l (ndTo W H l (t + 1)))) := by
                  have h := HS.out.nx
                  rw [hke, ndK_all] at h
                  exact h
                have HAP5 : Hid (ApV (.slice (some ⟨g11, 0, none⟩) n c11) x1 ∧ ApV (.slice (some ⟨g11, 0, none⟩) n c11) x2 ∧ ApV (.slice (some ⟨g11, 0, none⟩) n c11) x3) := ⟨HS.out.a1, HS.out.a2, HS.out.a3⟩
                have hnle : ¬ (kk : Int) ≤ (NN : Int) := by omega
                clear HS hke
                go_wp2
                go_roundw
                case rel => exact ⟨t + 1, x1, x2, x3, by omega, by go_num, HT5, HI5, HAP5⟩
                case measure => simp [intOf]; omega
        · have ht100 : t = 100 := by omega
          have hnt : ¬ (t : Int) ≤ 99 := by omega
          have HTn : Hid (TrSp wA v1 v2 v3 v1 v2 v3 (levT (nodeL W H l)) (parT W H l (nodeL W H l)) (areT W H l (nodeL W H l)) wl) := by
            have h := HT1.out
            rw [ht100] at h
            exact h
          have HIn : Hid (GrI (wA.heap.size + 1) wl (.slice (some ⟨g5, 0, none⟩) n c5) (nodT W H l (nodeL W H l))) := by
            have h := HI.out
            rw [ht100] at h
            exact h
          clear HT1 HI ht100
          obtain ⟨a2, k1, e, -⟩ := World.ownsRow.form HTn.out.o1
          rw [levT_len] at e
          subst e
          obtain ⟨a3, k2, e, -⟩ := World.ownsRow.form HTn.out.o2
          rw [parT_len] at e
          subst e
          obtain ⟨a4, k3, e, -⟩ := World.ownsRow.form HTn.out.o3
          rw [areT_len] at e
          subst e
          have HXo : Hid (w.Ext wl) := HXA.out.trans HTn.out.x
          obtain ⟨N, hNd⟩ : ∃ N, N = (nodeL W H l).length := ⟨_, rfl⟩
          have HNd := Lib.hid hNd
          rw [← hNd] at HTn
          have HLW2 := Lib.hid (HLW.out wl HXo.out)
          have HRW : Hid (∀ w', wl.Ext w' → Calls Try.prog 165 #[.int .i64 W, .slice (some ⟨g5, 0, none⟩) n c5] w' (MatRet w' (grl W H (nodT W H l (nodeL W H l))))) := fun w' hx => by
            obtain ⟨q1, q2, q3, q4⟩ := HH1.out
            have h := l07Rows_any g5 0 c5 W H (nodT W H l (nodeL W H l)) w' q3 (by omega) (by omega) nodT_len (by rw [nodT_len, ← HN.out]; exact hc5) (RowI.ext (show RowI wl (some ⟨g5, 0, none⟩) _ from (GrowOf.own 0 HIn.out).row) hx)
            rw [nodT_len, ← HN.out] at h
            exact h
          have QB : Hid (Qua wl wA.heap.size 30 (.slice a2 N k1) (.slice a3 N k2) (.slice a4 N k3) (.slice none 0 0)) := HTn.out.box
          have QR2 : Hid (Qua wl w.heap.size 30 (.slice none 0 0) (.slice none 0 0) (.slice none 0 0) (.slice none 0 0)) := QR1.out.ext HTn.out.x
          have hwA := HSA.out
          clear hNd
          go_wp2_with fail
          refine HLW2.out.mono ?_
          rintro e w7 ⟨rfl, hx7⟩
          go_wp2_with fail
          refine (HRW.out w7 hx7).mono ?_
          rintro e w8 ⟨a9, c9, A9, C9, rfl, hx8', hm8'⟩
          have hx8 := hx7.trans hx8'
          have hm8 := (hm8'.mat (by decide)).mono (lo' := wl.heap.size) hx7.size (Nat.le_refl _)
          clear hx7 hx8' hm8'
          rw [grl_len]
          have q8 := QB.out.ext hx8
          have r8 := QR2.out.ext hx8
          have q83 := q8.cell3
          have q8f := q8.free 3
          have q9 := q8.set3 (.slice a9 H c9)
          have r9 := r8.other (a := ⟨wA.heap.size, 3, none⟩) (by dsimp only; omega) (.slice a9 H c9)
          have q90 := q9.cell0
          have q91 := q9.cell1
          have q92 := q9.cell2
          have q93 := q9.cell3
          have r90 := r9.cell0
          have r91 := r9.cell1
          have r92 := r9.cell2
          have r93 := r9.cell3
          have rf0 := r9.free 0
          have rf1 := r9.free 1
          have rf2 := r9.free 2
          have rf3 := r9.free 3
          have r10 := r9.put (.slice a2 N k1) (.slice a3 N k2) (.slice a4 N k3) (.slice a9 H c9)
          have s0 := r10.cell0
          have s1 := r10.cell1
          have s2 := r10.cell2
          have s3 := r10.cell3
          have HE : Hid (TreeRet w (gtR W H l) (.returned (.agg #[.slice a2 N k1, .slice a3 N k2, .slice a4 N k3, .slice a9 H c9])) (((((w8.setCell ⟨wA.heap.size, 3, none⟩ (.slice a9 H c9)).setCell ⟨w.heap.size, 0, none⟩ (.slice a2 N k1)).setCell ⟨w.heap.size, 1, none⟩ (.slice a3 N k2)).setCell ⟨w.heap.size, 2, none⟩ (.slice a4 N k3)).setCell ⟨w.heap.size, 3, none⟩ (.slice a9 H c9))) := by
            have hW : Wrote (fun b => b = wA.heap.size ∨ b = w.heap.size) w8 (((((w8.setCell ⟨wA.heap.size, 3, none⟩ (.slice a9 H c9)).setCell ⟨w.heap.size, 0, none⟩ (.slice a2 N k1)).setCell ⟨w.heap.size, 1, none⟩ (.slice a3 N k2)).setCell ⟨w.heap.size, 2, none⟩ (.slice a4 N k3)).setCell ⟨w.heap.size, 3, none⟩ (.slice a9 H c9)) :=
              (((((Wrote.refl _ w8).setCell (p := ⟨wA.heap.size, 3, none⟩) (.inl rfl) _).setCell (p := ⟨w.heap.size, 0, none⟩) (.inr rfl) _).setCell (p := ⟨w.heap.size, 1, none⟩) (.inr rfl) _).setCell (p := ⟨w.heap.size, 2, none⟩) (.inr rfl) _).setCell (p := ⟨w.heap.size, 3, none⟩) (.inr rfl) _
            have hsz := hW.size
            have n1 := HNd.out
            have hol := Nat.le_trans hx8.size hsz
            have hwo := QB.out.lt
            have own : ∀ {a : Option Addr} {k : Nat} {xs : List Int}, GrI (wA.heap.size + 1) wl (.slice a N k) xs → OwnOf (Value.int .i64) 0 w.heap.size wl.heap.size _ a xs := fun h => (OwnOf.wrote ((GrowOf.own 0 h).ext hx8) hW fun k h1 h2 h3 => by omega).mono (by omega) (Nat.le_refl _)
            refine ⟨a2, a3, a4, a9, k1, k2, k3, c9, A9, C9, ?_, HXo.out.wroteNew ((hx8.wrote _).trans hW) (fun k hk hs => by omega), apO_of HTn.out.d12, apO_of HTn.out.d13, apO_of HTn.out.d23, wl.heap.size, by omega, hol, ?_, ?_, ?_, ?_⟩
            · unfold gtV gtR
              dsimp only
              rw [levT_len, parT_len, areT_len, ← n1, grl_len]
            · exact own HTn.out.o1
            · exact own HTn.out.o2
            · exact own HTn.out.o3
            · exact (hm8.wrote hW fun k h1 h2 h3 => by omega).mono (Nat.le_refl _) hsz
          clear q8 r8 q9 r9 r10 hx8 hm8 QB QR2 HRW
          go_wp2
          exact bodyPost_ret (v := .agg #[.slice a2 N k1, .slice a3 N k2, .slice a4 N k3, .slice a9 H c9]) (by simp [results, Try.results163, go_sem, s0, s1, s2, s3]) rfl HE.out
end Go.Proofs.Ytmmanehdmnkekaa
