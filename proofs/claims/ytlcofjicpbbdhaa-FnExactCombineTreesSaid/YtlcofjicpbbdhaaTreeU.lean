/- Quadtrees: the reference opens a tree. -/
import Derived.Test.YtlcofjicpbbdhaaTreeT
namespace Go.Proofs.Ytlcofjicpbbdhaa
open Go Go.RowKit
def lgN (z : Int) : Nat := if z = 1 then 0 else if z = 2 then 1 else if z = 4 then 2 else if z = 8 then 3 else 4
theorem sdOk_lg {z : Int} (h : sdOk z = true) : lgN z ≤ 4 ∧ z = ((2 ^ lgN z : Nat) : Int) := by
  simp only [sdOk, Bool.or_eq_true, beq_iff_eq] at h
  rcases h with (((h | h) | h) | h) | h <;> subst h <;> decide
def opn (z : Int) (s : ByteArray) : Option (Nat × QT) := if sdOk z then (match parse s (lgN z) 0 with | some p => if p.2 = s.size ∧ p.1.red = true then some (lgN z, p.1) else none | none => none) else none
theorem opn_some {z : Int} {s : ByteArray} {n : Nat} {T : QT} (h : opn z s = some (n, T)) : n ≤ 4 ∧ z = ((2 ^ n : Nat) : Int) ∧ T.fits n ∧ n = lgN z ∧ sdOk z = true ∧ parse s n 0 = some (T, s.size) ∧ T.red = true := by
  unfold opn at h
  split at h
  · rename_i hs
    split at h
    · rename_i p hp
      split at h
      · rename_i hc
        cases h
        obtain ⟨h1, h2⟩ := sdOk_lg hs
        have hp' : parse s (lgN z) 0 = some (p.1, p.2) := hp
        obtain ⟨h3, -⟩ := parse_ok s _ _ _ _ hp'
        exact ⟨h1, h2, h3, rfl, hs, by rw [hp', hc.1], hc.2⟩
      · cases h
    · cases h
  · cases h
def opnR (n : Nat) (T : QT) : List ByteArray := picRows (2 ^ n) (2 ^ n) (mkl (2 ^ n) (2 ^ n) fun i j => T.on n 0 0 i j)
def OpenRet (w : World) (z : Int) (s : ByteArray) (e : Ending) (w' : World) : Prop :=
  ∃ R a c, e = .returned (.tuple #[.agg #[.slice a R.length c], .bool (opn z s).isSome]) ∧ w.Ext w' ∧ OwnOf Value.string ByteArray.empty w.heap.size w'.heap.size w' a R ∧ ∀ n T, opn z s = some (n, T) → R = opnR n T
theorem OpenRet.no {w w' : World} {z : Int} {s : ByteArray} (h : opn z s = none) (hx : w.Ext w') : OpenRet w z s (.returned (.tuple #[.agg #[.slice none 0 0], .bool false])) w' :=
  ⟨[], none, 0, by rw [h]; rfl, hx, OwnOf.nil _ _, fun n T e => by rw [h] at e; cases e⟩
theorem cut_all {s : ByteArray} : cut s 0 s.size = s.data.toList := by
  unfold cut
  have : s.data.toList.length = s.size := by cases s; rfl
  rw [List.drop_zero, Nat.sub_zero, ← this, List.take_length]
theorem opn_big {z : Int} {s : ByteArray} (h : 1000 < s.size) : opn z s = none := by
  cases e : opn z s with
  | none => rfl
  | some p =>
    obtain ⟨h1, -, -, -, -, h6, -⟩ := opn_some (n := p.1) (T := p.2) e
    have := parse_le h1 h6
    omega
theorem even_opn (n : Nat) (T : QT) : Even (opnR n T) ∧ picW (opnR n T) = 2 ^ n ∧ (opnR n T).length = 2 ^ n ∧ picL (opnR n T) = mkl (2 ^ n) (2 ^ n) fun i j => T.on n 0 0 i j := by
  have hp := Nat.two_pow_pos n
  have hl : (mkl (2 ^ n) (2 ^ n) fun i j => T.on n 0 0 i j).length = 2 ^ n * 2 ^ n := mkl_len _ _ _
  exact ⟨even_rows hp hl, picW_rows hp hl, picRows_len _ _ _, picL_rows hl⟩
theorem fS_opn (n : Nat) (T : QT) {i j : Nat} (hi : i < 2 ^ n) (hj : j < 2 ^ n) : fS (opnR n T) i j = T.on n 0 0 i j := by
  obtain ⟨-, h1, h2, h3⟩ := even_opn n T
  unfold fS
  rw [h1, h2, h3, pxl_at _ _ _ _ _ hi hj, mkl_at _ _ _ _ _ hi hj]
theorem RdSt.base {w w1 w2 : World} {g W : Nat} {F : Nat → Nat → Bool} (h : RdSt w g W F w1) (hx : w1.Ext w2) : RdSt w2 g W F w2 := by
  obtain ⟨l, hb, hl⟩ := h.l
  exact ⟨Wrote.refl _ _, l, hb.ext hx, hl⟩
set_option maxRecDepth 5000 in
set_option maxHeartbeats 3200000 in
theorem l02Open_any (p : Nat) (z : Int) (s : ByteArray) (w : World) (hp0 : w.cell? ⟨p, 0, none⟩ = some (.int .i64 z)) (hp1 : w.cell? ⟨p, 1, none⟩ = some (.string s)) (hs : s.size ≤ 1048576) :
    Calls Try.prog 168 #[.pointer (some ⟨p, 0, none⟩)] w (OpenRet w z s) := by
  obtain ⟨W0, hW0⟩ : ∃ W0, W0 = w.alloc (.cells #[.slice none 0 0] 26) := ⟨_, rfl⟩
  have hx0 : w.Ext W0 := by rw [hW0]; repeat (first | exact World.Ext.refl _ | exact ⟨_, rfl⟩ | assumption | refine World.Ext.over ?_ _ | refine World.Ext.drewN ?_ _ | refine World.Ext.drew ?_ | refine World.Ext.alloc ?_ _ | refine World.Ext.setCell ?_ (by simp) _)
  have hone : One W0 w.heap.size 26 (.slice none 0 0) := by rw [hW0]; exact One.new _ _ _ _ rfl
  have hsz0 : W0.heap.size = w.heap.size + 1 := by rw [hW0]; simp
  have d0 := hx0.cell hp0
  have d1 := hx0.cell hp1
  have hSD := l02Side_any z W0
  have hpw := World.block_lt_of_cell? _ _ hp0
  cases hsd : sdOk z
  · have hno : opn z s = none := by unfold opn; rw [hsd]; rfl
    rw [hsd] at hSD
    have HSD := Lib.hid hSD
    have HX0 := Lib.hid hx0
    have HO := Lib.hid hone
    have HNO := Lib.hid (fun w' (h : w.Ext w') => OpenRet.no hno h)
    clear hx0 hone hSD hno hsd
    go_enter Try.func168, Try.ntmps168
    go_wp2_with fail
    rw [← hW0]
    clear hW0 hp0 hp1
    refine HSD.out.mono ?_
    rintro e w1 ⟨rfl, hx1⟩
    obtain ⟨r1, r2, r3, HR⟩ := Res.store (f := Value.string) (d := ByteArray.empty) (a := none) (xs := []) (lo := w.heap.size + 1) (.slice none 0 0) (HX0.out.trans hx1) (Nat.le_refl _) (HO.out.ext hx1) (by omega) (OwnOf.nil _ _)
    clear hx1 d0 d1
    go_wp2
    exact bodyPost_ret (v := .tuple #[.agg #[.slice none 0 0], .bool false]) (by simp [results, Try.results168, go_sem, r3]) rfl (HNO.out _ HR.out.1)
  by_cases hbig : 1000 < s.size
  · have hno : opn z s = none := opn_big hbig
    rw [hsd] at hSD
    have HSD := Lib.hid hSD
    have HX0 := Lib.hid hx0
    have HO := Lib.hid hone
    have HNO := Lib.hid (fun w' (h : w.Ext w') => OpenRet.no hno h)
    have hbig' : (1000 : Int) < (s.size : Int) := by omega
    clear hx0 hone hSD hno hsd
    go_enter Try.func168, Try.ntmps168
    go_wp2_with fail
    rw [← hW0]
    clear hW0 hp0 hp1
    refine HSD.out.mono ?_
    rintro e w1 ⟨rfl, hx1⟩
    have e1 := hx1.cell d1
    obtain ⟨r1, r2, r3, HR⟩ := Res.store (f := Value.string) (d := ByteArray.empty) (a := none) (xs := []) (lo := w.heap.size + 1) (.slice none 0 0) (HX0.out.trans hx1) (Nat.le_refl _) (HO.out.ext hx1) (by omega) (OwnOf.nil _ _)
    clear hx1 d0 d1
    go_wp2
    exact bodyPost_ret (v := .tuple #[.agg #[.slice none 0 0], .bool false]) (by simp [results, Try.results168, go_sem, r3]) rfl (HNO.out _ HR.out.1)
  obtain ⟨hn4, hzn⟩ := sdOk_lg hsd
  obtain ⟨n, hn⟩ : ∃ n, n = lgN z := ⟨_, rfl⟩
  rw [← hn] at hn4 hzn
  obtain ⟨m, hm⟩ : ∃ m : Nat, m = 2 ^ n := ⟨_, rfl⟩
  rw [← hm] at hzn
  have hm16 : m ≤ 16 := by rw [hm]; exact Nat.pow_le_pow_right (by decide) hn4
  have hm1 : 1 ≤ m := by rw [hm]; exact Nat.two_pow_pos n
  have hs2 : s.size ≤ 1000 := by omega
  obtain ⟨ib, hib, hb0, hb1, hb2⟩ := info_parts Try.infoBool'
  have hWH : m * m ≤ 256 := Nat.mul_le_mul hm16 hm16
  have c1 : ib.bytes * (m * m) ≤ 281474976710656 := by rw [hb2]; omega
  have c2 : m * m ≤ maxLen := by unfold maxLen; omega
  have hmi : z * z = ((m * m : Nat) : Int) := by rw [Int.natCast_mul, hzn]
  have hmi2 : z * z ≤ 256 := by omega
  have hmi3 : 0 ≤ z * z := by omega
  have HRD : Hid (∀ (g : Nat) (w' : World), RdSt w' g m (fun _ _ => false) w' → Calls Try.prog 223 #[.string s, .int .i64 0, .slice (some ⟨g, 0, none⟩) (m * m) (m * m), .int .i64 z, .int .i64 0, .int .i64 0, .int .i64 z] w' (ReadRet w' (parse s n 0) n g m 0 0 fun _ _ => false)) := fun g w' h => by
    have h2 := l02Read_any s hs2 m g hm16 n z 0 0 0 0 0 (fun _ _ => false) w' w' hn4 (by rw [hzn, hm]) rfl rfl (by omega) (by omega) (by omega) (by omega) h
    rw [show parseI s n 0 = parse s n 0 from if_neg (by omega)] at h2
    rw [hzn] at h2 ⊢
    exact h2
  have C1 := Lib.hid c1
  have C2 := Lib.hid c2
  have HMI := Lib.hid hmi
  rw [hsd] at hSD
  have HSD := Lib.hid hSD
  have HX0 := Lib.hid hx0
  have HO := Lib.hid hone
  clear hx0 hone hSD c1 c2 hmi
  have HOP : Hid (opn z s = match parse s n 0 with | some p => if p.2 = s.size ∧ p.1.red = true then some (n, p.1) else none | none => none) := by
    show opn z s = _
    unfold opn
    rw [hsd, if_pos rfl, ← hn]
  have HM := Lib.hid hm
  have HZN := Lib.hid hzn
  have hz0 : 0 ≤ z := by omega
  have hz1 : z ≤ 16 := by omega
  clear hm hzn hn hsd
  go_enter Try.func168, Try.ntmps168
  go_wp2_with fail
  rw [← hW0]
  clear hW0 hp0 hp1
  refine HSD.out.mono ?_
  rintro e w1 ⟨rfl, hx1⟩
  have e0 := hx1.cell d0
  have e1 := hx1.cell d1
  have HX1 := Lib.hid (HX0.out.trans hx1)
  have HO1 := Lib.hid (HO.out.ext hx1)
  clear hx1 d0 d1 HX0 HO
  go_wp2_with fail
  refine wp_region_over_tail 9 (by kernel_rfl) (by kernel_rfl) ?_; simp only [List.take_succ_cons, List.take_zero, List.drop_succ_cons, List.drop_zero]; (repeat (go_big_quiet_step (fail))); refine wpQuiet_nil ?_; rintro _ ⟨x1, rfl⟩
  obtain ⟨w2, hw2⟩ : ∃ w2, w2 = w1.over x1 := ⟨_, rfl⟩
  have hx2 : w1.Ext w2 := by rw [hw2]; exact ⟨_, rfl⟩
  rw [← hw2]
  have f0 := hx2.cell e0
  have f1 := hx2.cell e1
  have HX2 := Lib.hid (HX1.out.trans hx2)
  have HO2 := Lib.hid (HO1.out.ext hx2)
  have hl2 : w.heap.size < w2.heap.size := HO2.out.lt
  clear hw2 hx2 e0 e1 HX1 HO1
  go_wp2_with (at_make; refine wpList_make_full _ rfl _ _ 59 rfl 0 4 ib (.bool false) 1 Try.underlying59 hib hb0 hb1 .i64 .i64 _ _ (m * m) rfl rfl HMI.out HMI.out C1.out C2.out (Nat.zero_le _) (fun w3 hown hgrow => ?_); have hB3 : BlkOf Value.bool w3 w2.heap.size 4 (List.replicate (m * m) false) := blk_of_made (f := Value.bool) false rfl hown; have hx3 : w2.Ext w3 := World.Ext.made hgrow; have HX3 := Lib.hid hx3; have HB3 := Lib.hid hB3; have g0 := hx3.cell f0; have g1 := hx3.cell f1; clear hown hgrow hB3 hx3)
  have HS3 : Hid (RdSt w3 w2.heap.size m (fun _ _ => false) w3) := ⟨Wrote.refl _ _, _, HB3.out, by rw [List.length_replicate], fun i j hi hj => by
    have := idx2 hi hj
    rw [List.getD_eq_getElem?_getD, List.getElem?_replicate]
    split <;> rfl⟩
  clear HB3
  have hx3 := HX3.out
  generalize hR : parse s n 0 = r at *
  go_region_held3 (fun w' => w'.cell? ⟨p, 0, none⟩ = some (.int .i64 z) ∧ w'.cell? ⟨p, 1, none⟩ = some (.string s))
    (first | (refine ⟨World.Ext.cell ?_ f0, World.Ext.cell ?_ f1⟩ <;> ((repeat (first | exact World.Ext.refl _ | exact ⟨_, rfl⟩ | assumption | refine World.Ext.over ?_ _ | refine World.Ext.drewN ?_ _ | refine World.Ext.drew ?_ | refine World.Ext.alloc ?_ _ | refine World.Ext.setCell ?_ ?_ _ | (simp; done))); done)))
    (first | (go_at_call 223; go_loud (refine (HRD.out w2.heap.size _ (HS3.out.base ?_)).mono ?_; exact (World.Ext.refl w3).drew; rintro e w6 ⟨rfl, G, hS6, hT6⟩; have E6 : w2.Ext w6 := hx3.drew.wroteNew hS6.wrote (fun k hk hs => Nat.ne_of_lt hk hs); have HS6 := Lib.hid hS6; have HT6 := Lib.hid hT6; clear hS6 hT6)))
  have HX6 := Lib.hid (HX2.out.trans E6)
  have HO6 := Lib.hid (HO2.out.ext E6)
  have q0 := E6.cell f0
  have q1 := E6.cell f1
  have hl6 : w.heap.size < w6.heap.size := HO6.out.lt
  clear HRD HS3 HX3 HX2 HO2 hx3 E6 f0 f1 g0 g1
  by_cases hk : pk r = (s.size : Int)
  case neg =>
    have hno : opn z s = none := by
      rw [HOP.out]
      cases r with
      | none => rfl
      | some q =>
        dsimp only
        rw [if_neg]
        rintro ⟨h1, -⟩
        exact hk (by simp only [pk]; omega)
    have HNO := Lib.hid (fun w' (h : w.Ext w') => OpenRet.no hno h)
    have hk2 : (pk r != (s.size : Int)) = true := by rw [bne_iff_ne]; exact hk
    obtain ⟨r1, r2, r3, HR⟩ := Res.store (f := Value.string) (d := ByteArray.empty) (a := none) (xs := []) (lo := w.heap.size + 1) (.slice none 0 0) HX6.out (Nat.le_refl _) HO6.out (by omega) (OwnOf.nil _ _)
    clear hk hno HOP HS6 HT6 hR
    generalize pk r = pr at *
    go_wp2_with fail
    exact bodyPost_ret (v := .tuple #[.agg #[.slice none 0 0], .bool false]) (by simp [results, Try.results168, go_sem, r3]) rfl (HNO.out _ HR.out.1)
  obtain ⟨T, hT⟩ : ∃ T, r = some (T, s.size) := by
    cases r with
    | none => simp only [pk] at hk; omega
    | some q =>
      simp only [pk] at hk
      have hq : q.2 = s.size := by omega
      exact ⟨q.1, by rw [← hq]⟩
  subst hT
  obtain ⟨l6, hb6, hp6⟩ := HS6.out.l
  have hl6e : l6 = mkl m m fun i j => T.on n 0 0 i j := (hp6.congr fun i j hi hj => by rw [HT6.out T s.size rfl i j hi hj, Bool.false_or]).mk hm1
  have hl6l : l6.length = m * m := hp6.1
  have HROWS : Hid (picRows m m l6 = opnR n T) := by
    show _ = _
    rw [hl6e, HM.out]
    rfl
  have hmk := l01Make_any (some ⟨w2.heap.size, 0, none⟩) (m * m) m m l6 w6 hm1 (by omega) (by omega) hl6l (hb6.own false (Nat.zero_le _) (Nat.le_refl _)).row
  rw [hl6l, ← HZN.out, HROWS.out] at hmk
  have HMK := Lib.hid hmk
  have HOPN : Hid (opn z s = if T.red then some (n, T) else none) := by
    show _ = _
    rw [HOP.out]
    dsimp only
    cases T.red
    · rw [if_neg (by simp)]; rfl
    · rw [if_pos ⟨rfl, rfl⟩]; rfl
  have HPK := Lib.hid (show pk (some (T, s.size)) = (s.size : Int) from rfl)
  have hpo := parse_ok s n 0 T s.size hR
  have HSL : Hid (s.data.toList = T.text) := by
    show _ = _
    rw [← hpo.2.2.2, cut_all]
  obtain ⟨ev1, ev2, ev3, ev4⟩ := even_opn n T
  have HTX : Hid (∀ (w' : World) (p' : Nat) (a' : Option Addr) (c' : Nat), w'.cell? ⟨p', 0, none⟩ = some (.slice a' m c') → RowS w' a' (opnR n T) →
      Calls Try.prog 224 #[.pointer (some ⟨p', 0, none⟩), .int .i64 0, .int .i64 0, .int .i64 z] w' fun e w'' => e = .returned (.string (txB (qtext (fun i j => T.on n 0 0 i j) n 0 0))) ∧ w'.Ext w'') := fun w' p' a' c' hc hr => by
    have h := l02Text_any p' a' c' (opnR n T) ev1 (by rw [ev3, ← HM.out]; omega) (by rw [ev2, ← HM.out]; omega) n 0 0 z 0 0 w' hn4 rfl rfl (by rw [HZN.out, HM.out]) (by rw [← HM.out]; omega) (by rw [← HM.out]; omega) (by rw [ev3, ← HM.out]; exact hc) hr
    rw [qtext_congr (f := fS (opnR n T)) (g := fun i j => T.on n 0 0 i j) n 0 0 (fun i j _ hi _ hj => fS_opn n T (by omega) (by omega))] at h
    exact h
  have HEQ : Hid (((txB (qtext (fun i j => T.on n 0 0 i j) n 0 0)).toList == s.toList) = T.red) := by
    show _ = _
    rw [← text_iff hpo.1, ByteArray.toList_eq s, HSL.out]
    unfold txB
    rw [ByteArray.toList_mk]
  have HRL : Hid ((opnR n T).length = m) := by rw [HM.out]; exact ev3
  have hk2 : (pk (some (T, s.size)) != (s.size : Int)) = false := by rw [bne_eq_false_iff_eq]; rfl
  clear HS6 HT6 hb6 hp6 hl6e hmk hpo ev1 ev2 ev3 ev4 hR HOP hk HROWS hl6l HSL
  generalize txB (qtext (fun i j => T.on n 0 0 i j) n 0 0) = tx at *
  generalize pk (some (T, s.size)) = pr at *
  go_wp2_with fail
  refine HMK.out.mono ?_
  rintro e w7 ⟨a7, c7, rfl, hx7, ho7⟩
  obtain ⟨w8, hw8⟩ : ∃ w8, w8 = w7.alloc (.cells #[.slice a7 m c7] 26) := ⟨_, rfl⟩
  have hx8 : w7.Ext w8 := by rw [hw8]; repeat (first | exact World.Ext.refl _ | exact ⟨_, rfl⟩ | assumption | refine World.Ext.over ?_ _ | refine World.Ext.drewN ?_ _ | refine World.Ext.drew ?_ | refine World.Ext.alloc ?_ _ | refine World.Ext.setCell ?_ (by simp) _)
  have k5 : w8.cell? ⟨w7.heap.size, 0, none⟩ = some (.slice a7 m c7) := by rw [hw8]; simp [go_sem]
  have k0 := (hx7.trans hx8).cell q0
  have k1 := (hx7.trans hx8).cell q1
  have HX8 := Lib.hid (HX6.out.trans (hx7.trans hx8))
  have HO8 := Lib.hid (HO6.out.ext (hx7.trans hx8))
  have HW8 := Lib.hid ((ho7.ext hx8).mono (Nat.le_refl _) hx8.size)
  have hl7 := hx7.size
  clear hx7 hx8 ho7 HMK HX6 HO6
  go_wp2_with fail
  rw [← hw8]
  clear hw8 q0 q1
  have n5 : w7.heap.size ≠ w.heap.size := by omega
  have np : p ≠ w.heap.size := by omega
  have hl8 : w.heap.size < w8.heap.size := HO8.out.lt
  go_region_held3 (fun w' => w'.cell? ⟨w7.heap.size, 0, none⟩ = some (.slice a7 m c7) ∧ w'.cell? ⟨p, 0, none⟩ = some (.int .i64 z) ∧ w'.cell? ⟨p, 1, none⟩ = some (.string s))
    (first | exact hk8 | (refine ⟨World.Ext.cell ?_ k5, World.Ext.cell ?_ k0, World.Ext.cell ?_ k1⟩ <;> ((repeat (first | exact World.Ext.refl _ | exact ⟨_, rfl⟩ | assumption | refine World.Ext.over ?_ _ | refine World.Ext.drewN ?_ _ | refine World.Ext.drew ?_ | refine World.Ext.alloc ?_ _ | refine World.Ext.setCell ?_ ?_ _ | (simp; done))); done)))
    (first | (go_at_call 224; go_loud (refine (HTX.out _ w7.heap.size a7 c7 (((World.Ext.refl w8).drew).cell k5) (RowS.ext HW8.out.row ((World.Ext.refl w8).drew))).mono ?_; rintro e w9 ⟨rfl, hx9⟩; have E9 : w8.Ext w9 := ((World.Ext.refl w8).drew).trans hx9; obtain ⟨r1, r2, r3, HR⟩ := Res.store (.slice a7 m c7) (HX8.out.trans E9) (Nat.le_refl _) (HO8.out.ext E9) hl6 ((HW8.out.ext E9).mono (Nat.le_refl _) E9.size); have hk8 := keepS (v := .slice a7 m c7) n5 np (E9.cell k5) (E9.cell k0) (E9.cell k1); clear hx9)))
  go_wp2
  refine bodyPost_ret (v := .tuple #[.agg #[.slice a7 m c7], .bool (tx.toList == s.toList)]) (by simp [results, Try.results168, go_sem, r3]) rfl ⟨opnR n T, a7, c7, ?_, HR.out.1, HR.out.2, fun n' T' h => ?_⟩
  · rw [HRL.out, HEQ.out, HOPN.out]
    cases T.red <;> rfl
  · rw [HOPN.out] at h
    split at h
    · cases h; rfl
    · cases h
end Go.Proofs.Ytlcofjicpbbdhaa
