/- Two pictures joined pixel by pixel; one inside the other; the same. -/
import Derived.Test.YthfggdmbegofoaaRecF
import Derived.Test.YthfggdmbegofoaaJnP
namespace Go.Proofs.Ythfggdmbegofoaa
open Go Go.RowKit
theorem jn_any (k : Int) (hk : inB k 0 3 = true) (b c : Bool) (w : World) : Calls Try.prog 150 #[.int .i64 k, .bool b, .bool c] w fun e w' => e = .returned (.bool (joinB k.toNat b c)) ∧ w.Ext w' := by
  obtain ⟨k0, k1⟩ := inB_true.1 hk
  have hk4 : k = 0 ∨ k = 1 ∨ k = 2 ∨ k = 3 := by omega
  rcases hk4 with rfl | rfl | rfl | rfl
  all_goals
    cases b <;> cases c <;>
    (go_enter Try.func150, Try.ntmps150
     go_wp2
     go_ret
     exact ⟨rfl, .refl _⟩)
set_option maxHeartbeats 800000 in
theorem joinPics1_any (p2 p3 p4 b ab b' ab' W H : Nat) (k : Int) (l l' : List Bool) (x y : Nat) (w : World) (hk : inB k 0 3 = true) (hW : W ≤ 64) (hH : H ≤ 64) (h2 : w.cell? ⟨p2, 0, none⟩ = some (.int .i64 k)) (h3 : w.cell? ⟨p3, 0, none⟩ = some (.pointer (some ⟨b, 0, none⟩))) (h4 : w.cell? ⟨p4, 0, none⟩ = some (.pointer (some ⟨b', 0, none⟩)))
    (hI : Img w b ab W H l) (hI' : Img w b' ab' W H l') :
    Calls Try.prog 149 #[.int .i64 x, .int .i64 y, .pointer (some ⟨p2, 0, none⟩), .pointer (some ⟨p3, 0, none⟩), .pointer (some ⟨p4, 0, none⟩)] w fun e w' => e = .returned (.bool (joinB k.toNat (pxl W H l x y) (pxl W H l' x y))) ∧ w.Ext w' := by
  have HG : Hid (∀ w', w.Ext w' → Calls Try.prog 126 #[.pointer (some ⟨b, 0, none⟩), .int .i64 x, .int .i64 y] w' fun e w'' => e = .returned (.bool (pxl W H l x y)) ∧ w'.Ext w'') := fun w' hx2 => get_any b ab W H l x y w' hW hH (hI.ext hx2) _ rfl
  have HG' : Hid (∀ w', w.Ext w' → Calls Try.prog 126 #[.pointer (some ⟨b', 0, none⟩), .int .i64 x, .int .i64 y] w' fun e w'' => e = .returned (.bool (pxl W H l' x y)) ∧ w'.Ext w'') := fun w' hx2 => get_any b' ab' W H l' x y w' hW hH (hI'.ext hx2) _ rfl
  have HJ : Hid (∀ c d w', Calls Try.prog 150 #[.int .i64 k, .bool c, .bool d] w' fun e w'' => e = .returned (.bool (joinB k.toNat c d)) ∧ w'.Ext w'') := fun c d w' => jn_any k hk c d w'
  clear hI hI' hk
  generalize pxl W H l x y = c1 at *
  generalize pxl W H l' x y = c2 at *
  go_enter Try.func149, Try.ntmps149
  go_wp2_with fail
  refine wp_region_over_lit (by kernel_rfl) (by kernel_rfl) ?_; (repeat (go_big_quiet_step ((first | (go_at_call_of 126 (Value.pointer (some ⟨b, 0, none⟩)); exact Calls.over_of (HG.out _ ⟨_, rfl⟩)) | (go_at_call_of 126 (Value.pointer (some ⟨b', 0, none⟩)); exact Calls.over_of (HG'.out _ ⟨_, rfl⟩)) | (go_at_call 150; exact Calls.over_of (HJ.out _ _ _)))))); refine wpQuiet_nil ?_; rintro _ ⟨x1, rfl⟩
  go_wp2
  go_ret
  refine ⟨rfl, ?_⟩
  repeat (first | exact World.Ext.refl _ | exact ⟨_, rfl⟩ | assumption | refine World.Ext.over ?_ _ | refine World.Ext.drewN ?_ _ | refine World.Ext.drew ?_ | refine World.Ext.alloc ?_ _ | refine World.Ext.setCell ?_ (by simp) _)
theorem enters_joinPics1 : Enters 149 := enters_of Try.func149 (by kernel_rfl) (by kernel_rfl)
/-- The pixels of two pictures joined. -/
def jnG (k : Nat) (ss tt : List ByteArray) (x y : Nat) : Bool := joinB k (pxl (picW ss) ss.length (picL ss) x y) (pxl (picW tt) tt.length (picL tt) x y)
set_option maxRecDepth 5000 in
set_option maxHeartbeats 3200000 in
/-- JoinPictures of two pictures of one size, for a kind that there is. -/
theorem implJoin_any (k : Int) (a : Option Addr) (c : Nat) (ss : List ByteArray) (a' : Option Addr) (c' : Nat) (tt : List ByteArray) (w : World) (hk : inB k 0 3 = true) (hl : likeP ss tt = true) (hb : PicBnd ss) (hb' : PicBnd tt) (hm : RowS w a ss) (hm' : RowS w a' tt) :
    Calls Try.prog 53 #[.int .i64 k, .agg #[.slice a ss.length c], .agg #[.slice a' tt.length c']] w (PicRet2 w (picRows (picW ss) ss.length (mkl (picW ss) ss.length (jnG k.toNat ss tt))) true) := by
  obtain ⟨W0, hW0⟩ : ∃ W0, W0 = (((w.alloc (.cells #[.int .i64 k] 2)).alloc (.cells #[.slice a ss.length c] 38)).alloc (.cells #[.slice a' tt.length c'] 38)).alloc (.cells #[.slice none 0 0] 38) := ⟨_, rfl⟩
  have hx0 : w.Ext W0 := by rw [hW0]; repeat (first | exact World.Ext.refl _ | exact ⟨_, rfl⟩ | assumption | refine World.Ext.over ?_ _ | refine World.Ext.drewN ?_ _ | refine World.Ext.drew ?_ | refine World.Ext.alloc ?_ _ | refine World.Ext.setCell ?_ (by simp) _)
  have d0 : W0.cell? ⟨w.heap.size, 0, none⟩ = some (.int .i64 k) := by rw [hW0]; simp [go_sem]
  have hone : One W0 (w.heap.size + 1 + 1 + 1) 38 (.slice none 0 0) := by rw [hW0]; exact One.new _ _ _ _ (by simp)
  have HT : Hid (Calls Try.prog 147 #[.agg #[.slice a ss.length c], .agg #[.slice a' tt.length c']] W0 (TwoRet W0 ss tt true)) := by rw [← hl]; exact twoImages_any a c ss a' c' tt W0 hb hb' (hm.ext hx0) (hm'.ext hx0)
  have HIN : Hid (∀ w', Calls Try.prog 91 #[.int .i64 k, .int .i64 0, .int .i64 3] w' fun e w'' => e = .returned (.bool true) ∧ w'.Ext w'') := fun w' => in_any _ _ _ w' true hk
  obtain ⟨k1, k2, k3, k4⟩ := likeP_true hl
  obtain ⟨v1, v2, v3, v4, -, -⟩ := picOk_spec k1
  have HMD : Hid (∀ (w' : World) (p8 p9 b ab b2 ab2 : Nat), w'.cell? ⟨w.heap.size, 0, none⟩ = some (.int .i64 k) → w'.cell? ⟨p8, 0, none⟩ = some (.pointer (some ⟨b, 0, none⟩)) → w'.cell? ⟨p9, 0, none⟩ = some (.pointer (some ⟨b2, 0, none⟩)) → Img w' b ab (picW ss) ss.length (picL ss) → Img w' b2 ab2 (picW tt) tt.length (picL tt) →
      Calls Try.prog 148 #[.int .i64 (picW ss), .int .i64 ss.length, .func (.func 149) #[] #[.pointer (some ⟨w.heap.size, 0, none⟩), .pointer (some ⟨p8, 0, none⟩), .pointer (some ⟨p9, 0, none⟩)]] w' (ImgRet w' (picW ss) ss.length (mkl (picW ss) ss.length (jnG k.toNat ss tt)))) := fun w' p8 p9 b ab b2 ab2 h1 h2 h3 h4 h5 =>
    made_any _ _ _ _ (jnG k.toNat ss tt) w' (by omega) (by omega) enters_joinPics1 (fun w'' hx x y hxW hyH => by
      unfold jnG
      rw [← k3, ← k4]
      rw [← k3, ← k4] at h5
      exact joinPics1_any _ p8 p9 b ab b2 ab2 _ _ k _ _ x y w'' hk (by omega) (by omega) (hx.cell h1) (hx.cell h2) (hx.cell h3) (h4.ext hx) (h5.ext hx))
  have HTD : Hid (∀ (w' : World) (b ab : Nat), Img w' b ab (picW ss) ss.length (mkl (picW ss) ss.length (jnG k.toNat ss tt)) → Calls Try.prog 93 #[.pointer (some ⟨b, 0, none⟩)] w' (PicVal w' (picRows (picW ss) ss.length (mkl (picW ss) ss.length (jnG k.toNat ss tt))))) := fun w' b ab hI => told_any b ab _ _ _ w' (by omega) (by omega) (by omega) hI
  have HX0 := Lib.hid hx0
  have HO := Lib.hid hone
  have HD0 := Lib.hid d0
  clear hb hb' hm hm' hx0 hone hl hk k1 k2 k3 k4 v1 v2 v3 v4 d0
  generalize picRows (picW ss) ss.length (mkl (picW ss) ss.length (jnG k.toNat ss tt)) = R at *
  generalize mkl (picW ss) ss.length (jnG k.toNat ss tt) = M at *
  go_enter Try.func53, Try.ntmps53
  go_wp2_with fail
  rw [← hW0]
  clear hW0
  refine HT.out.mono ?_
  rintro e w1 ⟨b, ab, b2, ab2, rfl, hx1, hi1, hi2⟩
  obtain ⟨w2, hw2⟩ : ∃ w2, w2 = (w1.alloc (.cells #[.pointer (some ⟨b, 0, none⟩)] 112)).alloc (.cells #[.pointer (some ⟨b2, 0, none⟩)] 112) := ⟨_, rfl⟩
  have hx2 : w1.Ext w2 := by rw [hw2]; repeat (first | exact World.Ext.refl _ | exact ⟨_, rfl⟩ | assumption | refine World.Ext.over ?_ _ | refine World.Ext.drewN ?_ _ | refine World.Ext.drew ?_ | refine World.Ext.alloc ?_ _ | refine World.Ext.setCell ?_ (by simp) _)
  have C8 : Hid (w2.cell? ⟨w1.heap.size, 0, none⟩ = some (.pointer (some ⟨b, 0, none⟩))) := by rw [hw2]; show _ = _; simp [go_sem]
  have C9 : Hid (w2.cell? ⟨w1.heap.size + 1, 0, none⟩ = some (.pointer (some ⟨b2, 0, none⟩))) := by rw [hw2]; show _ = _; simp [go_sem]
  have HI1 := Lib.hid (hi1.ext hx2)
  have HI2 := Lib.hid (hi2.ext hx2)
  have HX2 := Lib.hid (hx1.trans hx2)
  have H1 : Hid (w.heap.size + 1 + 1 + 1 < w1.heap.size) := (HO.out.ext hx1).lt
  clear hi1 hi2 hx1 hx2
  go_upto_region 2 with fail
  rw [← hw2]
  clear hw2
  have d0 := HX2.out.cell HD0.out
  have l0 := World.block_lt_of_cell? _ _ d0
  go_wp2_with fail
  refine (HIN.out w2).mono ?_
  rintro e w5 ⟨rfl, hx5⟩
  have c95 := hx5.cell C8.out
  have HI5 := Lib.hid (HI1.out.ext hx5)
  have HX5 := Lib.hid (HX2.out.trans hx5)
  have D5 := Lib.hid (hx5.cell d0)
  have C95 := Lib.hid (hx5.cell C9.out)
  have HI52 := Lib.hid (HI2.out.ext hx5)
  have i0 := HI5.out.c0
  have i1 := HI5.out.c1
  have hlt9 : w.heap.size + 1 + 1 + 1 < w5.heap.size := (HO.out.ext HX5.out).lt
  have hl1 : w.heap.size + 1 + 1 + 1 < w1.heap.size := H1.out
  clear hx5 d0 l0 HI1 HI2 HX2 C8 C9
  go_wp2_with fail
  have p96 : w1.heap.size ≠ w.heap.size + 1 + 1 + 1 := by omega
  have p26 : b ≠ w.heap.size + 1 + 1 + 1 := by
    intro e
    obtain ⟨_, h2⟩ := HI5.out.str
    have h3 : w5.heap[w.heap.size + 1 + 1 + 1]? = some _ := HO.out.ext HX5.out
    rw [e, h3] at h2
    cases h2
  have HST : Hid (∀ w' : World, w5.Ext w' → (w'.setCell ⟨w.heap.size + 1 + 1 + 1, 0, none⟩ (.slice none 0 0)).heap.size = w'.heap.size) := fun _ _ => by simp
  go_region_held3 (fun w' => w'.cell? ⟨w1.heap.size, 0, none⟩ = some (.pointer (some ⟨b, 0, none⟩)) ∧ w'.cell? ⟨b, 0, none⟩ = some (.int .i64 (picW ss)) ∧ w'.cell? ⟨b, 1, none⟩ = some (.int .i64 ss.length))
    (first | exact hk8 | (refine ⟨World.Ext.cell ?_ c95, World.Ext.cell ?_ i0, World.Ext.cell ?_ i1⟩ <;> ((repeat (first | exact World.Ext.refl _ | exact ⟨_, rfl⟩ | assumption | refine World.Ext.over ?_ _ | refine World.Ext.drewN ?_ _ | refine World.Ext.drew ?_ | refine World.Ext.alloc ?_ _ | refine World.Ext.setCell ?_ ?_ _ | (simp; done))); done)))
    (first
      | (go_at_call 148; go_loud (refine (HMD.out _ w1.heap.size (w1.heap.size + 1) b ab b2 ab2 ?_ ?_ ?_ ?_ ?_).mono ?_; exact ((World.Ext.refl w5).drew).cell D5.out; exact ((World.Ext.refl w5).drew).cell c95; exact ((World.Ext.refl w5).drew).cell C95.out; exact HI5.out.ext ((World.Ext.refl w5).drew); exact HI52.out.ext ((World.Ext.refl w5).drew); rintro e w6 ⟨b6, ab6, rfl, hx6, hi6, -, -⟩; have E6 : w5.Ext w6 := ((World.Ext.refl w5).drew).trans hx6; have HI6 := Lib.hid hi6; clear hx6 hi6))
      | (go_at_call 93; go_loud (refine (HTD.out _ b6 ab6 HI6.out).mono ?_; rintro e w7 ⟨a7, c7, rfl, hx7, ho7⟩; have E7 : w5.Ext w7 := E6.trans hx7; obtain ⟨r1, r2, r3, HR⟩ := Res.store (.slice a7 R.length c7) (HX0.out.trans (HX5.out.trans E7)) (by omega) (HO.out.ext (HX5.out.trans E7)) (Nat.lt_of_lt_of_le hlt9 E6.size) ho7; have hk8 := keepS (v := .slice a7 R.length c7) p96 p26 (E7.cell c95) (E7.cell i0) (E7.cell i1); clear hx7 ho7)))
  go_wp2
  exact bodyPost_ret (v := .tuple #[.agg #[.slice a7 R.length c7], .bool true]) (by simp [results, Try.results53, go_sem, r3]) rfl ⟨a7, c7, rfl, HR.out.1, HR.out.2⟩
theorem insideB_at {l l' : List Bool} : (List.range l.length).all (fun i => !(l.getD i false) || l'.getD i false) = true ↔ ∀ i, i < l.length → l.getD i false = true → l'.getD i false = true := by
  rw [List.all_eq_true]
  constructor
  · intro h i hi hl
    have := h i (List.mem_range.2 hi)
    rw [hl] at this
    simpa using this
  · intro h i hi
    have hi := List.mem_range.1 hi
    cases hl : l.getD i false
    · rfl
    · rw [h i hi hl]; rfl
def insB (l l' : List Bool) : Bool := (List.range l.length).all (fun i => !(l.getD i false) || l'.getD i false)
set_option maxRecDepth 5000 in
set_option maxHeartbeats 800000 in
theorem inside_any (b ab W H : Nat) (l : List Bool) (b2 ab2 : Nat) (l2 : List Bool) (w : World) (hW : W ≤ 64) (hH : H ≤ 64) (hI : Img w b ab W H l) (hI2 : Img w b2 ab2 W H l2) :
    Calls Try.prog 154 #[.pointer (some ⟨b, 0, none⟩), .pointer (some ⟨b2, 0, none⟩)] w fun e w' => e = .returned (.bool (insB l l2)) ∧ w.Ext w' := by
  obtain ⟨cap, hc2⟩ := hI.c2
  have HI := Lib.hid hI
  have HI2 := Lib.hid hI2
  have HL1 : Hid (l.length = l2.length) := hI.len.trans hI2.len.symm
  have hlen : l.length ≤ 4096 := by rw [hI.len]; exact Nat.mul_le_mul hW hH
  have HT : Hid ((∀ i, i < l.length → l.getD i false = true → l2.getD i false = true) → true = insB l l2) := fun h => (insideB_at.2 h).symm
  have HF : Hid (∀ i, i < l.length → l.getD i false = true → l2.getD i false = false → false = insB l l2) := fun i hi h1 h2 => by
    cases hb : insB l l2
    · rfl
    · have := insideB_at.1 hb i hi h1
      rw [h2] at this
      cases this
  clear hI hI2
  generalize insB l l2 = t at *
  go_enter Try.func154, Try.ntmps154
  go_wp2
  go_loopw [12] (fun i wr => ∃ k : Nat, k ≤ l.length ∧ i = .int .i64 k ∧ Hid (∀ i, i < k → l.getD i false = true → l2.getD i false = true) ∧ Hid (w.Ext wr)) (fun i _ => l.length - (intOf i).toNat)
  case atStart => exact ⟨0, Nat.zero_le _, rfl, fun i hi => by omega, .refl _⟩
  case round =>
    clear hc2
    obtain ⟨k, hk, rfl, HK, HX⟩ := hrel
    obtain ⟨w2, rfl⟩ : ∃ w2 : World, w2 = wr := ⟨_, rfl⟩
    have hk0 : (0 : Int) ≤ (k : Int) := by omega
    by_cases hlt : k < l.length
    · have hlt' : (k : Int) < (l.length : Int) := by omega
      have e1 := (HI.out.ext HX.out).px.cell false hlt
      obtain ⟨cap2, hd2⟩ := (HI2.out.ext HX.out).c2
      have hlt2 : (k : Int) < (l2.length : Int) := by have := HL1.out; omega
      have e2 := (HI2.out.ext HX.out).px.cell false (show k < l2.length by have := HL1.out; omega)
      have HN : Hid ((l.getD k false = true → l2.getD k false = true) → ∀ i, i < k + 1 → l.getD i false = true → l2.getD i false = true) := fun h i hi h1 => by
        by_cases e : i = k
        · rw [e] at h1 ⊢; exact h h1
        · exact HK.out i (by omega) h1
      have HFK := Lib.hid (HF.out k hlt)
      clear HK HF HT
      generalize l.getD k false = u at *
      generalize l2.getD k false = v at *
      cases u
      · have HN2 := Lib.hid (HN.out fun h => by cases h)
        clear HN HFK
        go_wp2
        go_roundw
        case rel => exact ⟨k + 1, by omega, by go_num, HN2, HX⟩
        case measure => simp [intOf]; omega
      · cases v
        · have hf := HFK.out rfl rfl
          subst hf
          clear HN HFK
          go_wp2
          go_ret
          exact ⟨rfl, HX.out⟩
        · have HN2 := Lib.hid (HN.out fun h => rfl)
          clear HN HFK
          go_wp2
          go_roundw
          case rel => exact ⟨k + 1, by omega, by go_num, HN2, HX⟩
          case measure => simp [intOf]; omega
    · have hkk : k = l.length := by omega
      subst hkk
      have ht := HT.out HK.out
      subst ht
      clear HK HT HF
      go_wp2
      go_ret
      exact ⟨rfl, HX.out⟩
set_option maxHeartbeats 800000 in
theorem implInside_any (a : Option Addr) (c : Nat) (ss : List ByteArray) (a' : Option Addr) (c' : Nat) (tt : List ByteArray) (w : World) (hb : PicBnd ss) (hb' : PicBnd tt) (hm : RowS w a ss) (hm' : RowS w a' tt) :
    Calls Try.prog 56 #[.agg #[.slice a ss.length c], .agg #[.slice a' tt.length c']] w fun e w' => e = .returned (.bool (likeP ss tt && insB (picL ss) (picL tt))) ∧ w.Ext w' := by
  obtain ⟨W0, hW0⟩ : ∃ W0, W0 = (w.alloc (.cells #[.slice a ss.length c] 38)).alloc (.cells #[.slice a' tt.length c'] 38) := ⟨_, rfl⟩
  have hx0 : w.Ext W0 := by rw [hW0]; repeat (first | exact World.Ext.refl _ | exact ⟨_, rfl⟩ | assumption | refine World.Ext.over ?_ _ | refine World.Ext.drewN ?_ _ | refine World.Ext.drew ?_ | refine World.Ext.alloc ?_ _ | refine World.Ext.setCell ?_ (by simp) _)
  have HT : Hid (Calls Try.prog 147 #[.agg #[.slice a ss.length c], .agg #[.slice a' tt.length c']] W0 (TwoRet W0 ss tt (likeP ss tt))) := twoImages_any a c ss a' c' tt W0 hb hb' (hm.ext hx0) (hm'.ext hx0)
  have HX0 := Lib.hid hx0
  cases h : likeP ss tt
  · rw [h] at HT
    clear hb hb' hm hm' hx0 h
    go_enter Try.func56, Try.ntmps56
    go_wp2_with fail
    rw [← hW0]
    clear hW0
    refine HT.out.mono ?_
    rintro e w1 ⟨u, v, rfl, hx1⟩
    have HX1 := Lib.hid (HX0.out.trans hx1)
    clear hx1
    go_wp2
    go_ret
    exact ⟨rfl, HX1.out⟩
  · rw [h] at HT
    obtain ⟨k1, k2, k3, k4⟩ := likeP_true h
    obtain ⟨v1, v2, v3, v4, -, -⟩ := picOk_spec k1
    have HIS : Hid (∀ w' b ab b2 ab2, Img w' b ab (picW ss) ss.length (picL ss) → Img w' b2 ab2 (picW tt) tt.length (picL tt) → Calls Try.prog 154 #[.pointer (some ⟨b, 0, none⟩), .pointer (some ⟨b2, 0, none⟩)] w' fun e w'' => e = .returned (.bool (insB (picL ss) (picL tt))) ∧ w'.Ext w'') := fun w' b ab b2 ab2 h1 h2 => by
      rw [← k3, ← k4] at h2
      exact inside_any b ab _ _ _ b2 ab2 _ w' (by omega) (by omega) h1 h2
    clear hb hb' hm hm' hx0 h k1 k2 k3 k4 v1 v2 v3 v4
    rw [Bool.true_and]
    generalize insB (picL ss) (picL tt) = t at *
    go_enter Try.func56, Try.ntmps56
    go_wp2_with fail
    rw [← hW0]
    clear hW0
    refine HT.out.mono ?_
    rintro e w1 ⟨b, ab, b2, ab2, rfl, hx1, hi1, hi2⟩
    have HC := Lib.hid (HIS.out w1 b ab b2 ab2 hi1 hi2)
    have HX1 := Lib.hid (HX0.out.trans hx1)
    clear hx1 hi1 hi2 HIS
    go_wp2_with fail
    refine HC.out.mono ?_
    rintro e w2 ⟨rfl, hx2⟩
    have HX2 := Lib.hid (HX1.out.trans hx2)
    clear hx2 HX1 HC
    go_wp2
    go_ret
    exact ⟨rfl, HX2.out⟩
end Go.Proofs.Ythfggdmbegofoaa
