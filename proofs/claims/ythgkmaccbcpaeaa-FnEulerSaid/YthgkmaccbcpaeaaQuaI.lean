/- QuadCounts, the program's. -/
import Derived.Test.YthgkmaccbcpaeaaEulS
namespace Go.Proofs.Ythgkmaccbcpaeaa
open Go Go.RowKit
def qdL (f : Int → Int → Bool) (W H : Nat) : List Int := [qs one1 f W H, qs three1 f W H, qs diag1 f W H]
/-- One of the three counts under way: behind i rows and j windows of the next. -/
def qT (g : Bool → Bool → Bool → Bool → Int) (f : Int → Int → Bool) (W i j : Nat) : Int :=
  sI (fun i => sI (fun j => g (f ((j : Int) - 1) ((i : Int) - 1)) (f (j : Int) ((i : Int) - 1)) (f ((j : Int) - 1) (i : Int)) (f (j : Int) (i : Int))) (W + 1)) i +
  sI (fun j => g (f ((j : Int) - 1) ((i : Int) - 1)) (f (j : Int) ((i : Int) - 1)) (f ((j : Int) - 1) (i : Int)) (f (j : Int) (i : Int))) j
theorem qT_next (g : Bool → Bool → Bool → Bool → Int) (f : Int → Int → Bool) (W i : Nat) : qT g f W (i + 1) 0 = qT g f W i (W + 1) := by
  unfold qT
  show sI _ i + sI _ (W + 1) + 0 = _
  rw [Int.add_zero]
theorem qT_step (g : Bool → Bool → Bool → Bool → Int) (f : Int → Int → Bool) (W i j : Nat) : qT g f W i (j + 1) = qT g f W i j + g (f ((j : Int) - 1) ((i : Int) - 1)) (f (j : Int) ((i : Int) - 1)) (f ((j : Int) - 1) (i : Int)) (f (j : Int) (i : Int)) := by
  unfold qT
  show _ + (sI _ j + _) = _
  rw [Int.add_assoc]
theorem qT_end (g : Bool → Bool → Bool → Bool → Int) (f : Int → Int → Bool) (W H : Nat) : qT g f W (H + 1) 0 = qs g f W H := by
  unfold qT
  show _ + 0 = _
  rw [Int.add_zero]
  rfl
theorem sI_bnd {g : Nat → Int} {m : Int} (h : ∀ i, 0 ≤ g i ∧ g i ≤ m) : ∀ n : Nat, 0 ≤ sI g n ∧ sI g n ≤ n * m
  | 0 => by show (0 : Int) ≤ 0 ∧ (0 : Int) ≤ (0 : Nat) * m; simp
  | n + 1 => by
    have h1 := sI_bnd h n
    have h2 := h n
    have e : (((n + 1 : Nat) : Int)) * m = n * m + m := by rw [Int.natCast_succ, Int.add_mul, Int.one_mul]
    rw [e]
    show 0 ≤ sI g n + g n ∧ sI g n + g n ≤ _
    omega
theorem qT_bnd {g : Bool → Bool → Bool → Bool → Int} (hg : ∀ a b c d, 0 ≤ g a b c d ∧ g a b c d ≤ 1) (f : Int → Int → Bool) {W i j : Nat} (hW : W ≤ 64) (hi : i ≤ 65) (hj : j ≤ 65) : 0 ≤ qT g f W i j ∧ qT g f W i j ≤ 8192 := by
  unfold qT
  have h1 := sI_bnd (g := fun i => sI (fun j => g (f ((j : Int) - 1) ((i : Int) - 1)) (f (j : Int) ((i : Int) - 1)) (f ((j : Int) - 1) (i : Int)) (f (j : Int) (i : Int))) (W + 1)) (m := 65) (fun i => by
    have h := sI_bnd (g := fun j => g (f ((j : Int) - 1) ((i : Int) - 1)) (f (j : Int) ((i : Int) - 1)) (f ((j : Int) - 1) (i : Int)) (f (j : Int) (i : Int))) (m := 1) (fun j => hg _ _ _ _) (W + 1)
    omega) i
  have h2 := sI_bnd (g := fun j => g (f ((j : Int) - 1) ((i : Int) - 1)) (f (j : Int) ((i : Int) - 1)) (f ((j : Int) - 1) (i : Int)) (f (j : Int) (i : Int))) (m := 1) (fun j => hg _ _ _ _) j
  omega
theorem win_bnd : (∀ a b c d, 0 ≤ one1 a b c d ∧ one1 a b c d ≤ 1) ∧ (∀ a b c d, 0 ≤ three1 a b c d ∧ three1 a b c d ≤ 1) ∧ ∀ a b c d, 0 ≤ diag1 a b c d ∧ diag1 a b c d ≤ 1 := by decide
def qdT (f : Int → Int → Bool) (W i j : Nat) : List Int := [qT one1 f W i j, qT three1 f W i j, qT diag1 f W i j]
/-- What a window adds. -/
theorem qd_case (f : Int → Int → Bool) (W i j : Nat) {a b c d : Bool} (ha : f ((j : Int) - 1) ((i : Int) - 1) = a) (hb : f (j : Int) ((i : Int) - 1) = b) (hc : f ((j : Int) - 1) (i : Int) = c) (hd : f (j : Int) (i : Int) = d) :
    let k := one1.oneB a + one1.oneB b + one1.oneB c + one1.oneB d
    (k = 1 → qdT f W i (j + 1) = (qdT f W i j).set 0 ((qdT f W i j).getD 0 0 + 1)) ∧ (k = 2 → qdT f W i (j + 1) = (qdT f W i j).set 2 ((qdT f W i j).getD 2 0 + ((one1.oneB (a == d) : Nat) : Int))) ∧
    (k = 3 → qdT f W i (j + 1) = (qdT f W i j).set 1 ((qdT f W i j).getD 1 0 + 1)) ∧ (k ≠ 1 → k ≠ 2 → k ≠ 3 → qdT f W i (j + 1) = qdT f W i j) := by
  unfold qdT
  rw [qT_step, qT_step, qT_step, ha, hb, hc, hd]
  clear ha hb hc hd
  generalize qT one1 f W i j = x
  generalize qT three1 f W i j = y
  generalize qT diag1 f W i j = z
  cases a <;> cases b <;> cases c <;> cases d <;> simp [one1, three1, diag1, one1.oneB]
theorem oneIfQ_any (b : Bool) (w : World) : Calls Try.prog 78 #[.bool b] w fun e w' => e = .returned (.int .i64 ((one1.oneB b : Nat) : Int)) ∧ w.Ext w' := by
  cases b
  all_goals
    go_enter Try.func78, Try.ntmps78
    go_wp2
    go_ret
    exact ⟨rfl, .refl _⟩
set_option maxRecDepth 5000 in
set_option maxHeartbeats 3200000 in
theorem implQuads_any (a : Option Addr) (c : Nat) (ss : List ByteArray) (w : World) (hb : PicBnd ss) (hok : picOk ss = true) (hm : RowS w a ss) :
    Calls Try.prog 40 #[.agg #[.slice a ss.length c]] w (IntsRet2 w (qdL (pxl (picW ss) ss.length (picL ss)) (picW ss) ss.length) true) := by
  obtain ⟨i0, hi, hz0, hz1, hz2⟩ := info_parts Try.infoI64
  obtain ⟨W0, hW0⟩ : ∃ W0, W0 = w.alloc (.cells #[.slice a ss.length c] 26) := ⟨_, rfl⟩
  have hx0 : w.Ext W0 := by rw [hW0]; repeat (first | exact World.Ext.refl _ | exact ⟨_, rfl⟩ | assumption | refine World.Ext.over ?_ _ | refine World.Ext.drewN ?_ _ | refine World.Ext.drew ?_ | refine World.Ext.alloc ?_ _ | refine World.Ext.setCell ?_ (by simp) _)
  obtain ⟨v1, v2, v3, v4, v5, -⟩ := picOk_spec hok
  have HI := Lib.hid (imageOf_any a c ss W0 hb.1 hb.2 (RowOf.ext hm hx0) true hok)
  have HGT : Hid (∀ w' b ab (x y : Int) (t : Bool), Img w' b ab (picW ss) ss.length (picL ss) → pxl (picW ss) ss.length (picL ss) x y = t → Calls Try.prog 108 #[.pointer (some ⟨b, 0, none⟩), .int .i64 x, .int .i64 y] w' fun e w'' => e = .returned (.bool t) ∧ w'.Ext w'') := fun w' b ab x y t hI ht => get_any b ab _ _ _ x y w' (by omega) (by omega) hI t ht
  have HON := Lib.hid oneIfQ_any
  have HX0 := Lib.hid hx0
  obtain ⟨W, hW⟩ : ∃ W, W = picW ss := ⟨_, rfl⟩
  obtain ⟨H, hH⟩ : ∃ H, H = ss.length := ⟨_, rfl⟩
  obtain ⟨l, hl⟩ : ∃ l, l = picL ss := ⟨_, rfl⟩
  rw [← hW, ← hH, ← hl] at HGT ⊢
  have hWm : W ≤ 38 := by omega
  have hHm : H ≤ 38 := by omega
  have HIM : Hid (Calls Try.prog 72 #[.agg #[.slice a H c]] W0 fun e w' => ∃ b ab, e = .returned (.tuple #[.pointer (some ⟨b, 0, none⟩), .bool true]) ∧ W0.Ext w' ∧ Img w' b ab W H l ∧ W0.heap.size ≤ b ∧ W0.heap.size ≤ ab) := by rw [hW, hH, hl]; exact HI.out
  have HRES : Hid (qdT (pxl W H l) W (H + 1) 0 = qdL (pxl W H l) W H) := by
    show _ = _
    unfold qdT qdL
    rw [qT_end, qT_end, qT_end]
  have HNXT : Hid (∀ i, qdT (pxl W H l) W (i + 1) 0 = qdT (pxl W H l) W i (W + 1)) := fun i => by unfold qdT; rw [qT_next, qT_next, qT_next]
  have HZ : Hid (qdT (pxl W H l) W 0 0 = List.replicate 3 0) := rfl
  have HBD : Hid (∀ i j k, i ≤ H + 1 → j ≤ W + 1 → k < 3 → (qdT (pxl W H l) W i j).length = 3 ∧ 0 ≤ (qdT (pxl W H l) W i j).getD k 0 ∧ (qdT (pxl W H l) W i j).getD k 0 ≤ 8192) := fun i j k hi hj hk => by
    refine ⟨rfl, ?_⟩
    have hk3 : k = 0 ∨ k = 1 ∨ k = 2 := by omega
    rcases hk3 with rfl | rfl | rfl
    · exact qT_bnd win_bnd.1 _ (by omega) (by omega) (by omega)
    · exact qT_bnd win_bnd.2.1 _ (by omega) (by omega) (by omega)
    · exact qT_bnd win_bnd.2.2 _ (by omega) (by omega) (by omega)
  have HCS := Lib.hid (fun i j a b c d => @qd_case (pxl W H l) W i j a b c d)
  clear hb hok hm hx0 v1 v2 v3 v4 v5 HI hl
  rw [← HRES.out]
  rw [← hH] at hW0
  have C1 : Hid (i0.bytes * 3 ≤ 281474976710656) := by show _ ≤ _; rw [hz2]; omega
  have C2 : Hid (3 ≤ maxLen) := by show _ ≤ _; unfold maxLen; omega
  clear hW hH HRES
  generalize hqd : qdT (pxl W H l) W = Q at *
  clear hqd
  go_enter Try.func40, Try.ntmps40
  go_wp2_with fail
  rw [← hW0]
  clear hW0
  refine HIM.out.mono ?_
  rintro e w1 ⟨b, ab, rfl, hx1, hI, hbl, habl⟩
  have HI1 := Lib.hid hI
  have HX1 := Lib.hid (HX0.out.trans hx1)
  clear hx1 hI HIM HX0 hbl habl
  go_wp2_with (at_make; refine wpList_make_full _ rfl _ _ 41 rfl 0 2 i0 (.int .i64 0) 1 Try.underlying41 hi hz0 hz1 .i64 .i64 _ _ 3 rfl rfl rfl rfl C1.out C2.out (Nat.zero_le _) (fun w3 hown hgrow => ?_))
  have hB3 : BlkOf (Value.int .i64) w3 w1.heap.size 2 (Q 0 0) := by
    have h' := blk_of_made (f := Value.int .i64) 0 rfl hown
    rw [HZ.out]
    exact h'
  have hx3 : w1.Ext w3 := World.Ext.made hgrow
  have HX3 := Lib.hid (HX1.out.trans hx3)
  have HI3 := Lib.hid (HI1.out.ext hx3)
  have hbg := HI1.out.lt
  have HS0 : Hid (LsSt w1 w1.heap.size (Q 0 0) w3) := ⟨hx3.wrote _, hB3⟩
  clear hown hgrow hB3 hx3
  have HIX : Hid (∀ xs wr, LsSt w1 w1.heap.size xs wr → Img wr b ab W H l) := fun xs wr h => HI1.out.keep (h.1.block b (by omega) (by omega)) (h.1.block ab (by have := HI1.out.px.lt; omega) (by have := HI1.out.px.lt; omega))
  clear HI3 HI1 HZ
  go_wp2
  go_loopw [7, 8, 9, 10, 11, 12] (fun y _ _ _ _ _ wr => ∃ i : Nat, i ≤ H + 1 ∧ y = .int .i64 ((i : Int) - 1) ∧ Hid (LsSt w1 w1.heap.size (Q i 0) wr)) (fun y _ _ _ _ _ _ => H + 1 - (intOf y + 1).toNat)
  case atStart => exact ⟨0, by omega, by rfl, HS0⟩
  case round =>
    clear HS0
    obtain ⟨i, hi2, rfl, HS⟩ := hrel
    obtain ⟨wo, rfl⟩ : ∃ wo : World, wo = wr := ⟨_, rfl⟩
    have HIo := HIX.out _ _ HS.out
    have o0 := HIo.c0
    have o1 := HIo.c1
    clear HIo
    by_cases hlt : i < H + 1
    · have hlt' : (i : Int) - 1 < (H : Int) := by omega
      have hi0 : -1 ≤ (i : Int) - 1 := by omega
      go_wp2
      go_loopw [8, 9, 10, 11, 12] (fun x _ _ _ _ wr => ∃ j : Nat, j ≤ W + 1 ∧ x = .int .i64 ((j : Int) - 1) ∧ Hid (LsSt w1 w1.heap.size (Q i j) wr)) (fun x _ _ _ _ _ => W + 1 - (intOf x + 1).toNat)
      case atStart => exact ⟨0, by omega, rfl, HS⟩
      case round =>
        clear HS o0 o1
        obtain ⟨j, hj2, rfl, HS⟩ := hrel
        obtain ⟨wi, rfl⟩ : ∃ wi : World, wi = wr := ⟨_, rfl⟩
        have HIi := Lib.hid (HIX.out _ _ HS.out)
        have q0 := HIi.out.c0
        have q1 := HIi.out.c1
        have hj0 : -1 ≤ (j : Int) - 1 := by omega
        by_cases hltj : j < W + 1
        · have hltj' : (j : Int) - 1 < (W : Int) := by omega
          obtain ⟨pa, hpa⟩ : ∃ t, pxl W H l ((j : Int) - 1) ((i : Int) - 1) = t := ⟨_, rfl⟩
          obtain ⟨pb, hpb⟩ : ∃ t, pxl W H l (j : Int) ((i : Int) - 1) = t := ⟨_, rfl⟩
          obtain ⟨pc, hpc⟩ : ∃ t, pxl W H l ((j : Int) - 1) (i : Int) = t := ⟨_, rfl⟩
          obtain ⟨pd, hpd⟩ : ∃ t, pxl W H l (j : Int) (i : Int) = t := ⟨_, rfl⟩
          have HK := Lib.hid (HCS.out i j pa pb pc pd hpa hpb hpc hpd)
          have HA1 : Hid (∀ w', wi.Ext w' → Calls Try.prog 108 #[.pointer (some ⟨b, 0, none⟩), .int .i64 ((j : Int) - 1), .int .i64 ((i : Int) - 1)] w' fun e w'' => e = .returned (.bool pa) ∧ w'.Ext w'') := fun w' hx => HGT.out w' b ab _ _ _ (HIi.out.ext hx) hpa
          have HA2 : Hid (∀ w', wi.Ext w' → Calls Try.prog 108 #[.pointer (some ⟨b, 0, none⟩), .int .i64 (j : Int), .int .i64 ((i : Int) - 1)] w' fun e w'' => e = .returned (.bool pb) ∧ w'.Ext w'') := fun w' hx => HGT.out w' b ab _ _ _ (HIi.out.ext hx) hpb
          have HA3 : Hid (∀ w', wi.Ext w' → Calls Try.prog 108 #[.pointer (some ⟨b, 0, none⟩), .int .i64 ((j : Int) - 1), .int .i64 (i : Int)] w' fun e w'' => e = .returned (.bool pc) ∧ w'.Ext w'') := fun w' hx => HGT.out w' b ab _ _ _ (HIi.out.ext hx) hpc
          have HA4 : Hid (∀ w', wi.Ext w' → Calls Try.prog 108 #[.pointer (some ⟨b, 0, none⟩), .int .i64 (j : Int), .int .i64 (i : Int)] w' fun e w'' => e = .returned (.bool pd) ∧ w'.Ext w'') := fun w' hx => HGT.out w' b ab _ _ _ (HIi.out.ext hx) hpd
          clear hpa hpb hpc hpd HIi
          go_wp2_with fail
          refine (HA1.out _ (.refl _)).mono ?_
          rintro e w2 ⟨rfl, hx2⟩
          clear q0 q1
          go_wp2_with fail
          refine (HA2.out _ hx2).mono ?_
          rintro e w3' ⟨rfl, hx3⟩
          go_wp2_with fail
          refine (HA3.out _ (hx2.trans hx3)).mono ?_
          rintro e w4 ⟨rfl, hx4⟩
          go_wp2_with fail
          refine (HA4.out _ ((hx2.trans hx3).trans hx4)).mono ?_
          rintro e w5 ⟨rfl, hx5⟩
          have HX5 : Hid (wi.Ext w5) := ((hx2.trans hx3).trans hx4).trans hx5
          clear hx2 hx3 hx4 hx5 HA1 HA2 HA3 HA4
          have n1 : one1.oneB pa ≤ 1 := by cases pa <;> decide
          have n2 : one1.oneB pb ≤ 1 := by cases pb <;> decide
          have n3 : one1.oneB pc ≤ 1 := by cases pc <;> decide
          have n4 : one1.oneB pd ≤ 1 := by cases pd <;> decide
          have HO1 := Lib.hid (fun w' => HON.out pa w')
          have HO2 := Lib.hid (fun w' => HON.out pb w')
          have HO3 := Lib.hid (fun w' => HON.out pc w')
          have HO4 := Lib.hid (fun w' => HON.out pd w')
          generalize ha : one1.oneB pa = na at *
          generalize hb : one1.oneB pb = nb at *
          generalize hc : one1.oneB pc = nc at *
          generalize hd : one1.oneB pd = nd at *
          clear ha hb hc hd
          go_wp2_with fail
          refine (HO1.out _).mono ?_
          rintro e w6 ⟨rfl, hx6⟩
          go_wp2_with fail
          refine (HO2.out _).mono ?_
          rintro e w7 ⟨rfl, hx7⟩
          go_wp2_with fail
          refine (HO3.out _).mono ?_
          rintro e w8 ⟨rfl, hx8⟩
          go_wp2_with fail
          refine (HO4.out _).mono ?_
          rintro e w9 ⟨rfl, hx9⟩
          have HS9 := Lib.hid (HS.out.ext (HX5.out.trans (((hx6.trans hx7).trans hx8).trans hx9)))
          clear hx6 hx7 hx8 hx9 HX5 HS HIX HNXT HCS HGT HO1 HO2 HO3 HO4
          obtain ⟨b0, z0, z1⟩ := HBD.out i j 0 (by omega) (by omega) (by omega)
          obtain ⟨-, y0, y1⟩ := HBD.out i j 1 (by omega) (by omega) (by omega)
          obtain ⟨-, x0, x1⟩ := HBD.out i j 2 (by omega) (by omega) (by omega)
          have HSN : Hid (∀ k v, Q i (j + 1) = (Q i j).set k v → ∀ w', w9.Ext w' → LsSt w1 w1.heap.size (Q i (j + 1)) (w'.setCell ⟨w1.heap.size, k, none⟩ (.int .i64 v))) := fun k v he w' hx => by
            have h' := (HS9.out.ext hx).set k v
            rw [← he] at h'
            exact h'
          have HCE : Hid (∀ k, k < 3 → ∀ w', w9.Ext w' → w'.cell? ⟨w1.heap.size, k, none⟩ = some (.int .i64 ((Q i j).getD k 0)) ∧ w'.frozen? ⟨w1.heap.size, k, none⟩ = false) := fun k hk w' hx => ⟨(HS9.out.ext hx).2.cell 0 (by rw [b0]; exact hk), (HS9.out.ext hx).2.free _⟩
          clear b0
          have HE : Hid (na + nb + nc + nd = 1 ∨ na + nb + nc + nd = 2 ∨ na + nb + nc + nd = 3 ∨ (na + nb + nc + nd ≠ 1 ∧ na + nb + nc + nd ≠ 2 ∧ na + nb + nc + nd ≠ 3)) := by show _ ∨ _; omega
          rcases HE.out with hs | hs | hs | ⟨hs1, hs2, hs3⟩
          · have t1 : (((na : Int) + (nb : Int) + (nc : Int) + (nd : Int)) == 1) = true := by rw [beq_iff_eq]; omega
            have HS2 := Lib.hid (HSN.out 0 _ (HK.out.1 hs) w9 (.refl _))
            obtain ⟨e0, ef⟩ := HCE.out 0 (by omega) w9 (.refl _)
            clear HSN HCE HK HE hs x0 x1 y0 y1 HS9
            generalize (Q i j).getD 0 0 = m at *
            go_wp2
            go_roundw
            case rel => exact ⟨j + 1, by omega, by go_num, HS2⟩
            case measure => simp [intOf]; omega
          · have t1 : (((na : Int) + (nb : Int) + (nc : Int) + (nd : Int)) == 1) = false := by rw [beq_eq_false_iff_ne]; omega
            have t2 : (((na : Int) + (nb : Int) + (nc : Int) + (nd : Int)) == 2) = true := by rw [beq_iff_eq]; omega
            have HS2 : Hid (∀ v x1, v = (Q i j).getD 2 0 + ((one1.oneB (pa == pd) : Nat) : Int) → LsSt w1 w1.heap.size (Q i (j + 1)) ((w9.over x1).setCell ⟨w1.heap.size, 2, none⟩ (.int .i64 v))) := fun v x1 hv => by rw [hv]; exact HSN.out 2 _ (HK.out.2.1 hs) _ ⟨x1, rfl⟩
            obtain ⟨e0, ef⟩ := HCE.out 2 (by omega) w9 (.refl _)
            have ef1 : ∀ x1, (w9.over x1).frozen? ⟨w1.heap.size, 2, none⟩ = false := fun x1 => (HCE.out 2 (by omega) _ ⟨x1, rfl⟩).2
            clear HSN HCE HK HE hs z0 z1 y0 y1 HS9
            generalize (Q i j).getD 2 0 = m at *
            have n5 : one1.oneB (pa == pd) ≤ 1 := by cases pa <;> cases pd <;> decide
            have HO5 := Lib.hid (fun w' => HON.out (pa == pd) w')
            generalize one1.oneB (pa == pd) = ne at *
            have HS3 : Hid (∀ x1, LsSt w1 w1.heap.size (Q i (j + 1)) ((w9.over x1).setCell ⟨w1.heap.size, 2, none⟩ (.int .i64 (m + (ne : Int))))) := fun x1 => HS2.out _ x1 rfl
            clear HS2
            go_wp2_with fail
            refine wp_region_over_tail 9 (by kernel_rfl) (by kernel_rfl) ?_; simp only [List.take_succ_cons, List.take_zero, List.drop_succ_cons, List.drop_zero]; (repeat (go_big_quiet_step ((go_at_call 78; exact Calls.over_of (HO5.out _))))); refine wpQuiet_nil ?_; rintro _ ⟨x1, rfl⟩
            go_wp2
            go_roundw
            case rel => exact ⟨j + 1, by omega, by go_num, Lib.hid (HS3.out _)⟩
            case measure => simp [intOf]; omega
          · have t1 : (((na : Int) + (nb : Int) + (nc : Int) + (nd : Int)) == 1) = false := by rw [beq_eq_false_iff_ne]; omega
            have t2 : (((na : Int) + (nb : Int) + (nc : Int) + (nd : Int)) == 2) = false := by rw [beq_eq_false_iff_ne]; omega
            have t3 : (((na : Int) + (nb : Int) + (nc : Int) + (nd : Int)) == 3) = true := by rw [beq_iff_eq]; omega
            have HS2 := Lib.hid (HSN.out 1 _ (HK.out.2.2.1 hs) w9 (.refl _))
            obtain ⟨e0, ef⟩ := HCE.out 1 (by omega) w9 (.refl _)
            clear HSN HCE HK HE hs x0 x1 z0 z1 HS9
            generalize (Q i j).getD 1 0 = m at *
            go_wp2
            go_roundw
            case rel => exact ⟨j + 1, by omega, by go_num, HS2⟩
            case measure => simp [intOf]; omega
          · have t1 : (((na : Int) + (nb : Int) + (nc : Int) + (nd : Int)) == 1) = false := by rw [beq_eq_false_iff_ne]; omega
            have t2 : (((na : Int) + (nb : Int) + (nc : Int) + (nd : Int)) == 2) = false := by rw [beq_eq_false_iff_ne]; omega
            have t3 : (((na : Int) + (nb : Int) + (nc : Int) + (nd : Int)) == 3) = false := by rw [beq_eq_false_iff_ne]; omega
            have HS2 : Hid (LsSt w1 w1.heap.size (Q i (j + 1)) w9) := by rw [HK.out.2.2.2 hs1 hs2 hs3]; exact HS9.out
            clear HSN HCE HK HE hs1 hs2 hs3 x0 x1 y0 y1 z0 z1 HS9
            go_wp2
            go_roundw
            case rel => exact ⟨j + 1, by omega, by go_num, HS2⟩
            case measure => simp [intOf]; omega
        · have : j = W + 1 := by omega
          subst this
          have HS2 : Hid (LsSt w1 w1.heap.size (Q (i + 1) 0) wi) := by rw [HNXT.out i]; exact HS.out
          clear HS HIi q1
          have hltj' : ¬ ((W + 1 : Nat) : Int) - 1 < (W : Int) := by omega
          go_wp2
          go_roundw
          case rel => exact ⟨i + 1, by omega, by go_num, HS2⟩
          case measure => simp [intOf]; omega
    · have : i = H + 1 := by omega
      subst this
      have hlt' : ¬ ((H + 1 : Nat) : Int) - 1 < (H : Int) := by omega
      have hlen := (HBD.out (H + 1) 0 0 (by omega) (by omega) (by omega)).1
      have HRES : Hid (IntsRet2 w (Q (H + 1) 0) true (.returned (.tuple #[.slice (some ⟨w1.heap.size, 0, none⟩) 3 3, .bool true])) wo) :=
        ⟨some ⟨w1.heap.size, 0, none⟩, 3, by rw [hlen], HX1.out.trans ((World.Ext.refl w1).wroteNew HS.out.1 (fun k hk => by omega)), HS.out.2.own 0 HX1.out.size (Nat.le_refl _)⟩
      clear HS hlen
      go_wp2
      go_ret2
      exact HRES.out
end Go.Proofs.Ythgkmaccbcpaeaa
