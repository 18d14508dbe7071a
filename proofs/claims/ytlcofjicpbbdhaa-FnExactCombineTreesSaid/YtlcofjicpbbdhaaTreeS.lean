/- Quadtrees: the reference's walks. -/
import Derived.Test.YtlcofjicpbbdhaaTreeP
namespace Go.Proofs.Ytlcofjicpbbdhaa
open Go Go.RowKit
set_option maxHeartbeats 400000 in
theorem l02Side_any (z : Int) (w : World) : Calls Try.prog 222 #[.int .i64 z] w fun e w' => e = .returned (.bool (sdOk z)) ∧ w.Ext w' := by
  obtain ⟨t, ht⟩ : ∃ t, t = sdOk z := ⟨_, rfl⟩
  rw [← ht]
  unfold sdOk at ht
  by_cases h1 : z = 1 <;> by_cases h2 : z = 2 <;> by_cases h4 : z = 4 <;> by_cases h8 : z = 8 <;> by_cases h16 : z = 16
  all_goals first | (exfalso; omega) | skip
  all_goals
    go_enter Try.func222, Try.ntmps222
    go_wp2
    go_ret
    refine ⟨?_, .refl _⟩
    rw [ht]
    first | (simp [h1]; done) | (simp [h2]; done) | (simp [h4]; done) | (simp [h8]; done) | (simp [h16]; done) | (simp [h1, h2, h4, h8, h16]; done)
def parseI (s : ByteArray) (n : Nat) (z : Int) : Option (QT × Nat) := if z < 0 then none else parse s n z.toNat
theorem nxt_parseI (s : ByteArray) (n : Nat) (r : Option (QT × Nat)) : parseI s n (pk r) = nxtF (parse s n) r := by
  cases r with
  | none => rfl
  | some p => exact if_neg (by have := Int.natCast_nonneg p.2; simp only [pk]; omega)
structure RdSt (w : World) (g W : Nat) (F : Nat → Nat → Bool) (wr : World) : Prop where
  wrote : Wrote (fun k => k = g) w wr
  l : ∃ l, BlkOf Value.bool wr g 4 l ∧ PtL W l F
theorem RdSt.put {w : World} {g W : Nat} {F G : Nat → Nat → Bool} {wr : World} (h : RdSt w g W F wr) {i0 j0 : Nat} (hi : i0 < W) (hj : j0 < W) (hG : ∀ i j, i < W → j < W → G i j = if i = i0 ∧ j = j0 then true else F i j) :
    (∃ v, wr.cell? ⟨g, j0 * W + i0, none⟩ = some v) ∧ wr.frozen? ⟨g, j0 * W + i0, none⟩ = false ∧ RdSt w g W G (wr.setCell ⟨g, j0 * W + i0, none⟩ (.bool true)) := by
  obtain ⟨l, hb, hl⟩ := h.l
  exact ⟨⟨_, hb.cell false (by rw [hl.1]; exact idx2 hi hj)⟩, hb.free _, h.wrote.setCell (p := ⟨g, j0 * W + i0, none⟩) rfl _, _, hb.set _ true, (hl.set hi hj true).congr fun i j a b => (hG i j a b).symm⟩
def ReadRet (w : World) (r : Option (QT × Nat)) (n g W x y : Nat) (F : Nat → Nat → Bool) (e : Ending) (w' : World) : Prop :=
  e = .returned (.int .i64 (pk r)) ∧ ∃ G, RdSt w g W G w' ∧ ∀ T k', r = some (T, k') → ∀ i j, i < W → j < W → G i j = (F i j || T.on n x y i j)
theorem ReadRet.no {w w' : World} {n g W x y : Nat} {F G : Nat → Nat → Bool} (h : RdSt w g W G w') : ReadRet w none n g W x y F (.returned (.int .i64 (-1))) w' := ⟨rfl, G, h, fun T k' e => by cases e⟩
theorem byt_at {s : ByteArray} {k : Nat} (hk : k < s.size) : byt s k = (s[k]'hk).toNat := by unfold byt; rw [dif_pos hk]
def sqB (x y a b m i j : Nat) : Bool := decide (y ≤ j ∧ j < y + b ∧ x ≤ i ∧ i < x + m) || decide (j = y + b ∧ x ≤ i ∧ i < x + a)
set_option maxRecDepth 5000 in
set_option maxHeartbeats 1600000 in
theorem l02ReadLeaf_any (s : ByteArray) (W g : Nat) (hW : W ≤ 16) (n m : Nat) (hm : m = 2 ^ n) (z : Int) (x y : Nat) (F : Nat → Nat → Bool) (w0 w : World) (hz : -1 ≤ z) (hz2 : z ≤ 1100) (hx : x + m ≤ W) (hy : y + m ≤ W)
    (hS : RdSt w0 g W F w) (h40 : n = 0 ∨ ∀ k : Nat, z = k → byt s k ≠ 40) :
    Calls Try.prog 223 #[.string s, .int .i64 z, .slice (some ⟨g, 0, none⟩) (W * W) (W * W), .int .i64 W, .int .i64 x, .int .i64 y, .int .i64 m] w (ReadRet w0 (parseI s n z) n g W x y F) := by
  by_cases h0 : z < 0
  · have e : parseI s n z = none := if_pos h0
    rw [e]
    have HS := Lib.hid hS
    clear hS h40 e hm
    go_enter Try.func223, Try.ntmps223
    go_wp2
    go_ret
    exact ReadRet.no HS.out
  obtain ⟨k, rfl⟩ := Int.eq_ofNat_of_zero_le (show 0 ≤ z by omega)
  have e : parseI s n (k : Int) = parse s n k := by unfold parseI; rw [if_neg h0]; rfl
  rw [e]
  clear e h0
  by_cases hk : s.size ≤ k
  · have e : parse s n k = none := by
      have hb : byt s k = 0 := by unfold byt; rw [dif_neg (by omega)]
      cases n <;> simp [parse, leafF, hb]
    rw [e]
    have hk' : (s.size : Int) ≤ (k : Int) := by omega
    have HS := Lib.hid hS
    clear hS h40 e hm
    go_enter Try.func223, Try.ntmps223
    go_wp2
    go_ret
    exact ReadRet.no HS.out
  have hk2 : k < s.size := by omega
  have hk3 : (k : Int) < (s.size : Int) := by omega
  have hk0 : (0 : Int) ≤ (k : Int) := by omega
  have hbt := byt_at hk2
  obtain ⟨c, hc⟩ : ∃ c, s[k]'hk2 = c := ⟨_, rfl⟩
  rw [hc] at hbt
  by_cases c1 : byt s k = 35
  · have e : parse s n k = some (.leaf true, k + 1) := by cases n <;> simp [parse, leafF, c1]
    rw [e]
    have hcn : c.toNat = 35 := by omega
    have HQ : Hid (∀ wr, RdSt w0 g W (fun i j => F i j || sqB x y 0 m m i j) wr → ReadRet w0 (some (.leaf true, k + 1)) n g W x y F (.returned (.int .i64 ((k : Int) + 1))) wr) := fun wr h =>
      ⟨rfl, _, h, fun T k' e => by
        cases e
        intro i j _ _
        simp only [QT.on, Bool.true_and, sqB, inSq, ← hm]
        congr 1
        rw [show decide (j = y + m ∧ x ≤ i ∧ i < x + 0) = false from decide_eq_false (by omega), Bool.or_false]
        exact decide_eq_decide.2 (by omega)⟩
    have HS0 : Hid (RdSt w0 g W (fun i j => F i j || sqB x y 0 0 m i j) w) := by
      obtain ⟨l, hb, hl⟩ := hS.l
      refine ⟨hS.wrote, l, hb, hl.congr fun i j _ _ => ?_⟩
      rw [sqB, decide_eq_false (by omega), decide_eq_false (by omega)]
      simp
    clear hS h40 e hbt c1 hm
    go_enter Try.func223, Try.ntmps223
    go_wp2
    go_loopw [15, 16] (fun Y _ wr => ∃ b : Nat, b ≤ m ∧ Y = .int .i64 ((y + b : Nat) : Int) ∧ Hid (RdSt w0 g W (fun i j => F i j || sqB x y 0 b m i j) wr)) (fun Y _ _ => y + m - (intOf Y).toNat)
    case atStart => exact ⟨0, Nat.zero_le _, by simp, HS0⟩
    case round =>
      clear HS0
      obtain ⟨b, hb, rfl, HS⟩ := hrel
      obtain ⟨Y, hY⟩ : ∃ Y : Int, Y = ((y + b : Nat) : Int) := ⟨_, rfl⟩
      rw [← hY]
      obtain ⟨wo, rfl⟩ : ∃ wo : World, wo = wr := ⟨_, rfl⟩
      by_cases hlt : b < m
      · have hY2 : Y < (y : Int) + (m : Int) := by omega
        have hYW : Y < (W : Int) := by omega
        have hY0 : (0 : Int) ≤ Y := by omega
        have HY := Lib.hid hY
        clear hY
        go_wp2
        go_loopw [16] (fun X wr => ∃ a : Nat, a ≤ m ∧ X = .int .i64 ((x + a : Nat) : Int) ∧ Hid (RdSt w0 g W (fun i j => F i j || sqB x y a b m i j) wr)) (fun X _ => x + m - (intOf X).toNat)
        case atStart => exact ⟨0, Nat.zero_le _, by simp, HS⟩
        case round =>
          clear HS
          obtain ⟨a, ha, rfl, HS⟩ := hrel
          obtain ⟨X, hX⟩ : ∃ X : Int, X = ((x + a : Nat) : Int) := ⟨_, rfl⟩
          rw [← hX]
          obtain ⟨w2, rfl⟩ : ∃ w2 : World, w2 = wr := ⟨_, rfl⟩
          by_cases hlta : a < m
          · have hX2 : X < (x : Int) + (m : Int) := by omega
            have hXW : X < (W : Int) := by omega
            have hX0 : (0 : Int) ≤ X := by omega
            obtain ⟨⟨v, hv⟩, hf, hset⟩ := HS.out.put (i0 := x + a) (j0 := y + b) (G := fun i j => F i j || sqB x y (a + 1) b m i j) (by omega) (by omega) (fun i j _ _ => by
              by_cases hij : i = x + a ∧ j = y + b
              · rw [if_pos hij, sqB, show decide (j = y + b ∧ x ≤ i ∧ i < x + (a + 1)) = true from decide_eq_true (by omega)]
                simp
              · rw [if_neg hij, sqB, sqB]
                congr 2
                exact decide_eq_decide.2 (by omega))
            obtain ⟨b0, b1, b2⟩ := place_lt (x := X) (y := Y) (W := W) (H := W) (by omega) (by omega) (by omega) (by omega)
            have hWW : ((W * W : Nat) : Int) ≤ 256 := Int.ofNat_le.2 (Nat.mul_le_mul hW hW)
            have eI : Y * (W : Int) + X = (((y + b) * W + (x + a) : Nat) : Int) := by rw [hX, HY.out]; simp [Int.natCast_add, Int.natCast_mul]
            obtain ⟨d, hd⟩ : ∃ d : Nat, d = (y + b) * W + (x + a) := ⟨_, rfl⟩
            rw [← hd] at hv hf hset eI
            have hdt : (Y * (W : Int) + X).toNat = d := by rw [eI]; rfl
            rw [← hdt] at hv hf hset
            have HSET := Lib.hid hset
            have HX := Lib.hid hX
            have hYW2 : Y * (W : Int) ≤ 256 := by omega
            clear hset HS eI hdt hd hX
            go_wp2
            go_roundw
            case rel => exact ⟨a + 1, by omega, by rw [HX.out]; go_num, HSET⟩
            case measure => have h1 := HX.out; simp [intOf]; omega
          · have : a = m := by omega
            subst this
            have hX2 : ¬ X < (x : Int) + (a : Int) := by omega
            clear hX
            have HSN : Hid (RdSt w0 g W (fun i j => F i j || sqB x y 0 (b + 1) a i j) w2) := by
              obtain ⟨l, hb, hl⟩ := HS.out.l
              refine ⟨HS.out.wrote, l, hb, hl.congr fun i j _ _ => ?_⟩
              have e : sqB x y a b a i j = sqB x y 0 (b + 1) a i j := by
                simp only [sqB]
                rw [← Bool.decide_or, ← Bool.decide_or]
                exact decide_eq_decide.2 (by omega)
              rw [e]
            clear HS
            go_wp2
            go_roundw
            case rel => exact ⟨b + 1, by omega, by rw [HY.out]; go_num, HSN⟩
            case measure => have h1 := HY.out; simp [intOf]; omega
      · have : b = m := by omega
        subst this
        have hY2 : ¬ Y < (y : Int) + (b : Int) := by omega
        clear hY
        have HR := Lib.hid (HQ.out _ HS.out)
        clear HS HQ
        go_wp2
        go_ret
        exact HR.out
  · by_cases c2 : byt s k = 46
    · have e : parse s n k = some (.leaf false, k + 1) := by cases n <;> simp [parse, leafF, c2]
      rw [e]
      have hcn : c.toNat = 46 := by omega
      have HQ : Hid (ReadRet w0 (some (.leaf false, k + 1)) n g W x y F (.returned (.int .i64 ((k : Int) + 1))) w) :=
        ⟨rfl, _, hS, fun T k' e => by
          cases e
          intro i j _ _
          simp [QT.on]⟩
      clear hS h40 e hbt c1 c2 hm
      go_enter Try.func223, Try.ntmps223
      go_wp2
      go_ret
      exact HQ.out
    · by_cases c3 : byt s k = 40
      · have hn : n = 0 := h40.resolve_right fun h => h k rfl c3
        subst hn
        have e : parse s 0 k = none := by simp [parse, leafF, c1, c2]
        rw [e]
        have hcn : c.toNat = 40 := by omega
        have hm1 : m = 1 := hm
        subst hm1
        have HS := Lib.hid hS
        clear hS h40 e hbt c1 c2 c3 hm
        go_enter Try.func223, Try.ntmps223
        go_wp2
        go_ret
        exact ReadRet.no HS.out
      · have e : parse s n k = none := by cases n <;> simp [parse, leafF, c1, c2, c3]
        rw [e]
        have hcn1 : ¬ (c.toNat : Int) = 35 := by omega
        have hcn2 : ¬ (c.toNat : Int) = 46 := by omega
        have hcn3 : ¬ (c.toNat : Int) = 40 := by omega
        have HS := Lib.hid hS
        clear hS h40 e hbt c1 c2 c3 hm
        go_enter Try.func223, Try.ntmps223
        go_wp2
        go_ret
        exact ReadRet.no HS.out
theorem pk_bnd (s : ByteArray) (hs : s.size ≤ 1000) (n : Nat) (z : Int) : -1 ≤ pk (parseI s n z) ∧ pk (parseI s n z) ≤ 1000 := by
  unfold parseI
  split
  · exact ⟨by decide, by decide⟩
  · cases e : parse s n z.toNat with
    | none => exact ⟨by decide, by decide⟩
    | some p =>
      obtain ⟨-, -, h, -⟩ := parse_ok s n z.toNat p.1 p.2 e
      have := Int.natCast_nonneg p.2
      simp only [pk]
      omega
theorem node_some {s : ByteArray} {n k : Nat} {p : QT × Nat} (h : parseI s n (pk (parseI s n (pk (parseI s n (pk (parseI s n ((k : Int) + 1))))))) = some p) :
    ∃ p1 p2 p3 : QT × Nat, parseI s n ((k : Int) + 1) = some p1 ∧ parseI s n (pk (parseI s n ((k : Int) + 1))) = some p2 ∧ parseI s n (pk (parseI s n (pk (parseI s n ((k : Int) + 1))))) = some p3 := by
  cases e1 : parseI s n ((k : Int) + 1) with
  | none => rw [e1] at h; cases h
  | some p1 =>
    rw [e1] at h
    cases e2 : parseI s n (pk (some p1)) with
    | none => rw [e2] at h; cases h
    | some p2 =>
      rw [e2] at h
      cases e3 : parseI s n (pk (some p2)) with
      | none => rw [e3] at h; cases h
      | some p3 => exact ⟨p1, p2, p3, rfl, rfl, rfl⟩
theorem parse_node {s : ByteArray} {n k : Nat} (h : byt s k = 40) : parse s (n + 1) k = nodeF s (parse s n) k := by
  rw [parse]
  unfold leafF
  rw [h]
  rfl
theorem nodeF_I (s : ByteArray) (n k : Nat) : nodeF s (parse s n) k = match parseI s n (pk (parseI s n (pk (parseI s n (pk (parseI s n ((k : Int) + 1))))))) with
    | none => none
    | some p => if byt s p.2 = 41 then some (.node (pT (parseI s n ((k : Int) + 1))) (pT (parseI s n (pk (parseI s n ((k : Int) + 1))))) (pT (parseI s n (pk (parseI s n (pk (parseI s n ((k : Int) + 1))))))) p.1, p.2 + 1) else none := by
  have e : parseI s n ((k : Int) + 1) = parse s n (k + 1) := if_neg (by omega)
  simp only [nxt_parseI]
  rw [e]
  unfold nodeF
  dsimp only
  cases nxtF (parse s n) (nxtF (parse s n) (nxtF (parse s n) (parse s n (k + 1)))) <;> rfl
set_option maxRecDepth 5000 in
set_option maxHeartbeats 1600000 in
theorem l02Read_any (s : ByteArray) (hs : s.size ≤ 1000) (W g : Nat) (hW : W ≤ 16) : ∀ (n : Nat) (mi : Int) (z : Int) (x y : Nat) (xi yi : Int) (F : Nat → Nat → Bool) (w0 w : World), n ≤ 4 → mi = ((2 ^ n : Nat) : Int) → xi = x → yi = y → -1 ≤ z → z ≤ 1100 → x + 2 ^ n ≤ W → y + 2 ^ n ≤ W →
    RdSt w0 g W F w →
    Calls Try.prog 223 #[.string s, .int .i64 z, .slice (some ⟨g, 0, none⟩) (W * W) (W * W), .int .i64 W, .int .i64 xi, .int .i64 yi, .int .i64 mi] w (ReadRet w0 (parseI s n z) n g W x y F)
  | 0, mi, z, x, y, xi, yi, F, w0, w, hn, hmi, hxi, hyi, hz, hz2, hx, hy, hS => by
    subst hmi hxi hyi
    exact l02ReadLeaf_any s W g hW 0 1 rfl z x y F w0 w hz hz2 hx hy hS (.inl rfl)
  | n + 1, mi, z, x, y, xi, yi, F, w0, w, hn, hmi, hxi, hyi, hz, hz2, hx, hy, hS => by
    by_cases h40 : ∃ k : Nat, z = k ∧ byt s k = 40
    case neg =>
      subst hmi hxi hyi
      exact l02ReadLeaf_any s W g hW (n + 1) _ rfl z x y F w0 w hz hz2 hx hy hS (.inr fun k e h => h40 ⟨k, e, h⟩)
    obtain ⟨k, rfl, hb⟩ := h40
    have hk2 : k < s.size := by
      by_cases hk : k < s.size
      · exact hk
      · unfold byt at hb; rw [dif_neg hk] at hb; cases hb
    have e0 : parseI s (n + 1) (k : Int) = nodeF s (parse s n) k := by unfold parseI; rw [if_neg (by omega), Int.toNat_natCast, parse_node hb]
    have e00 := nodeF_I s n k
    rw [e0, e00]
    clear e0 e00
    have hbt := byt_at hk2
    obtain ⟨c, hc⟩ : ∃ c, s[k]'hk2 = c := ⟨_, rfl⟩
    rw [hc] at hbt
    have hcn : c.toNat = 40 := by omega
    obtain ⟨h, hh⟩ : ∃ h : Nat, h = 2 ^ n := ⟨_, rfl⟩
    have e2 : (2 : Nat) ^ (n + 1) = 2 * h := by rw [Nat.pow_succ, hh]; omega
    rw [e2] at hmi hx hy
    have hpos : 0 < h := by rw [hh]; exact Nat.two_pow_pos n
    have IH : Hid (∀ (z : Int) (X Y : Nat) (xi yi : Int) (F : Nat → Nat → Bool) (w : World), xi = X → yi = Y → -1 ≤ z → z ≤ 1100 → X + h ≤ W → Y + h ≤ W → RdSt w0 g W F w →
        Calls Try.prog 223 #[.string s, .int .i64 z, .slice (some ⟨g, 0, none⟩) (W * W) (W * W), .int .i64 W, .int .i64 xi, .int .i64 yi, .int .i64 h] w (ReadRet w0 (parseI s n z) n g W X Y F)) :=
      fun z X Y xi yi F w e1 e2 e3 e4 e5 e6 e7 => l02Read_any s hs W g hW n h z X Y xi yi F w0 w (by omega) (by rw [hh]) e1 e2 e3 e4 (by rw [← hh]; exact e5) (by rw [← hh]; exact e6) e7
    have HS := Lib.hid hS
    have HB := Lib.hid (fun z => pk_bnd s hs n z)
    have HQ : Hid (∀ (G1 G2 G3 G4 : Nat → Nat → Bool) (w' : World), (∀ T k', parseI s n ((k : Int) + 1) = some (T, k') → ∀ i j, i < W → j < W → G1 i j = (F i j || T.on n x y i j)) →
        (∀ T k', parseI s n (pk (parseI s n ((k : Int) + 1))) = some (T, k') → ∀ i j, i < W → j < W → G2 i j = (G1 i j || T.on n (x + h) y i j)) →
        (∀ T k', parseI s n (pk (parseI s n (pk (parseI s n ((k : Int) + 1))))) = some (T, k') → ∀ i j, i < W → j < W → G3 i j = (G2 i j || T.on n x (y + h) i j)) →
        (∀ T k', parseI s n (pk (parseI s n (pk (parseI s n (pk (parseI s n ((k : Int) + 1))))))) = some (T, k') → ∀ i j, i < W → j < W → G4 i j = (G3 i j || T.on n (x + h) (y + h) i j)) →
        RdSt w0 g W G4 w' → (∀ k4 : Nat, pk (parseI s n (pk (parseI s n (pk (parseI s n (pk (parseI s n ((k : Int) + 1)))))))) = k4 → byt s k4 = 41 →
          ReadRet w0 (match parseI s n (pk (parseI s n (pk (parseI s n (pk (parseI s n ((k : Int) + 1))))))) with
            | none => none
            | some p => if byt s p.2 = 41 then some (.node (pT (parseI s n ((k : Int) + 1))) (pT (parseI s n (pk (parseI s n ((k : Int) + 1))))) (pT (parseI s n (pk (parseI s n (pk (parseI s n ((k : Int) + 1))))))) p.1, p.2 + 1) else none)
            (n + 1) g W x y F (.returned (.int .i64 ((k4 : Int) + 1))) w') ∧
        ((∀ k4 : Nat, pk (parseI s n (pk (parseI s n (pk (parseI s n (pk (parseI s n ((k : Int) + 1)))))))) = k4 → byt s k4 ≠ 41) →
          ReadRet w0 (match parseI s n (pk (parseI s n (pk (parseI s n (pk (parseI s n ((k : Int) + 1))))))) with
            | none => none
            | some p => if byt s p.2 = 41 then some (.node (pT (parseI s n ((k : Int) + 1))) (pT (parseI s n (pk (parseI s n ((k : Int) + 1))))) (pT (parseI s n (pk (parseI s n (pk (parseI s n ((k : Int) + 1))))))) p.1, p.2 + 1) else none)
            (n + 1) g W x y F (.returned (.int .i64 (-1))) w')) := by
      intro G1 G2 G3 G4 w' h1 h2 h3 h4 hR
      constructor
      · intro k4 hk4 hb4
        cases er : parseI s n (pk (parseI s n (pk (parseI s n (pk (parseI s n ((k : Int) + 1))))))) with
        | none => rw [er] at hk4; simp only [pk] at hk4; omega
        | some p =>
          obtain ⟨p1, p2, p3, q1, q2, q3⟩ := node_some er
          rw [er] at hk4
          simp only [pk] at hk4
          have hk4 : p.2 = k4 := by omega
          dsimp only
          rw [if_pos (by rw [hk4]; exact hb4), hk4, q3, q2, q1]
          refine ⟨rfl, _, hR, fun T k' e => ?_⟩
          cases e
          intro i j hi hj
          rw [h4 p.1 p.2 er i j hi hj, h3 p3.1 p3.2 q3 i j hi hj, h2 p2.1 p2.2 q2 i j hi hj, h1 p1.1 p1.2 q1 i j hi hj, QT.on, Nat.add_sub_cancel, ← hh]
          simp only [pT, Bool.or_assoc]
      · intro hno
        cases er : parseI s n (pk (parseI s n (pk (parseI s n (pk (parseI s n ((k : Int) + 1))))))) with
        | none => exact ReadRet.no hR
        | some p =>
          dsimp only
          rw [if_neg (hno p.2 (by rw [er]; rfl))]
          exact ReadRet.no hR
    generalize (match parseI s n (pk (parseI s n (pk (parseI s n (pk (parseI s n ((k : Int) + 1))))))) with
            | none => none
            | some p => if byt s p.2 = 41 then some (QT.node (pT (parseI s n ((k : Int) + 1))) (pT (parseI s n (pk (parseI s n ((k : Int) + 1))))) (pT (parseI s n (pk (parseI s n (pk (parseI s n ((k : Int) + 1))))))) p.1, p.2 + 1) else none) = RS at HQ ⊢
    have HH := Lib.hid hh
    have hm1 : ¬ mi = 1 := by omega
    have hdiv : mi / 2 = (h : Int) := by omega
    have HDIV := Lib.hid hdiv
    have hk3 : (k : Int) < (s.size : Int) := by omega
    have hk0 : (0 : Int) ≤ (k : Int) := by omega
    have hxi0 : 0 ≤ xi ∧ xi ≤ 16 := by omega
    have hyi0 : 0 ≤ yi ∧ yi ≤ 16 := by omega
    have HXI := Lib.hid hxi
    have HYI := Lib.hid hyi
    obtain ⟨hxi0, hxi1⟩ := hxi0
    obtain ⟨hyi0, hyi1⟩ := hyi0
    have hmi2 : 0 ≤ mi := by omega
    have hmi3 : mi ≤ 16 := by omega
    clear hS hh hdiv hbt hb hxi hyi hmi e2
    go_enter Try.func223, Try.ntmps223
    go_wp2_with fail
    rw [HDIV.out]
    refine (IH.out _ x y _ _ F _ HXI.out HYI.out (by omega) (by omega) (by omega) (by omega) HS.out).mono ?_
    rintro e w1 ⟨rfl, G1, hS1, hT1⟩
    have HS1 := Lib.hid hS1
    have HT1 := Lib.hid hT1
    obtain ⟨z1, hz1⟩ : ∃ z1, z1 = pk (parseI s n ((k : Int) + 1)) := ⟨_, rfl⟩
    obtain ⟨b1, b1'⟩ := HB.out ((k : Int) + 1)
    rw [← hz1] at b1 b1' ⊢
    have HZ1 := Lib.hid hz1
    clear hS1 hT1 hz1 HS
    go_wp2_with fail
    refine (IH.out _ (x + h) y _ _ G1 _ (by rw [HXI.out, Int.natCast_add]) HYI.out (by omega) (by omega) (by omega) (by omega) HS1.out).mono ?_
    rintro e w2 ⟨rfl, G2, hS2, hT2⟩
    have HS2 := Lib.hid hS2
    have HT2 := Lib.hid hT2
    obtain ⟨z2, hz2'⟩ : ∃ z2, z2 = pk (parseI s n z1) := ⟨_, rfl⟩
    obtain ⟨b2, b2'⟩ := HB.out z1
    rw [← hz2'] at b2 b2' ⊢
    have HZ2 := Lib.hid hz2'
    clear hS2 hT2 hz2' HS1
    go_wp2_with fail
    refine (IH.out _ x (y + h) _ _ G2 _ HXI.out (by rw [HYI.out, Int.natCast_add]) (by omega) (by omega) (by omega) (by omega) HS2.out).mono ?_
    rintro e w3 ⟨rfl, G3, hS3, hT3⟩
    have HS3 := Lib.hid hS3
    have HT3 := Lib.hid hT3
    obtain ⟨z3, hz3'⟩ : ∃ z3, z3 = pk (parseI s n z2) := ⟨_, rfl⟩
    obtain ⟨b3, b3'⟩ := HB.out z2
    rw [← hz3'] at b3 b3' ⊢
    have HZ3 := Lib.hid hz3'
    clear hS3 hT3 hz3' HS2
    go_wp2_with fail
    refine (IH.out _ (x + h) (y + h) _ _ G3 _ (by rw [HXI.out, Int.natCast_add]) (by rw [HYI.out, Int.natCast_add]) (by omega) (by omega) (by omega) (by omega) HS3.out).mono ?_
    rintro e w4 ⟨rfl, G4, hS4, hT4⟩
    obtain ⟨b4, b4'⟩ := HB.out z3
    obtain ⟨z4, hz4'⟩ : ∃ z4, z4 = pk (parseI s n z3) := ⟨_, rfl⟩
    have HQ2 : Hid _ := HQ.out G1 G2 G3 G4 w4 HT1.out (by rw [← HZ1.out]; exact HT2.out) (by rw [← HZ1.out, ← HZ2.out]; exact HT3.out) (by rw [← HZ1.out, ← HZ2.out, ← HZ3.out]; exact hT4) hS4
    rw [← HZ1.out, ← HZ2.out, ← HZ3.out] at HQ2
    rw [← hz4'] at HQ2 b4 b4' ⊢
    clear HQ HT1 HT2 HT3 hT4 hS4 HS3 hz4' IH HB HZ1 HZ2 HZ3 HDIV HXI HYI HH
    by_cases hz0 : z4 < 0
    · have HR := Lib.hid (HQ2.out.2 fun k4 h => absurd h (by omega))
      clear HQ2
      go_wp2_with fail
      go_ret
      exact HR.out
    obtain ⟨k4, rfl⟩ := Int.eq_ofNat_of_zero_le (show 0 ≤ z4 by omega)
    by_cases hz5 : s.size ≤ k4
    · have HR := Lib.hid (HQ2.out.2 fun k5 h => by
        have : k4 = k5 := by omega
        subst this
        unfold byt
        rw [dif_neg (by omega)]
        decide)
      have hz6 : (s.size : Int) ≤ (k4 : Int) := by omega
      clear HQ2
      go_wp2_with fail
      go_ret
      exact HR.out
    have hz6 : (k4 : Int) < (s.size : Int) := by omega
    have hz7 : k4 < s.size := by omega
    have hbt4 := byt_at hz7
    obtain ⟨c4, hc4⟩ : ∃ c, s[k4]'hz7 = c := ⟨_, rfl⟩
    rw [hc4] at hbt4
    by_cases h41 : byt s k4 = 41
    · have hcn4 : c4.toNat = 41 := by omega
      have HR := Lib.hid (HQ2.out.1 k4 rfl h41)
      clear HQ2 hbt4 h41
      go_wp2_with fail
      go_ret
      exact HR.out
    · have hcn4 : ((c4.toNat : Int) != 41) = true := by
        rw [bne_iff_ne]
        omega
      have HR := Lib.hid (HQ2.out.2 fun k5 h => by
        have : k4 = k5 := by omega
        subst this
        exact h41)
      clear HQ2 hbt4 h41
      go_wp2_with fail
      go_ret
      exact HR.out
end Go.Proofs.Ytlcofjicpbbdhaa
