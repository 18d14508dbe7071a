/- Maps whose keys are spots: an entry that is made and then stored to. -/
import Derived.Test.YthgkmaccbcpaeaaMapS
import Derived.WideKeyEntry
import Derived.Test.YthgkmaccbcpaeaaBfA
import Derived.Test.YthgkmaccbcpaeaaBdB
import Derived.Test.YthgkmaccbcpaeaaBdA
namespace Go.Proofs.Ythgkmaccbcpaeaa
open Go Go.RowKit Go.MapKept Go.ChangeMaps Go.WideMaps
open Go.WideElems (Fit rd rg rd_key rd_mk entry_then_store set_self)
open Go.Maps (Keyed)
section
variable {P : Program} {k t e : TypeId} {w : World} {b : Nat} {g : Int × Int → Option Value}
theorem setBlock_twice (w : World) (b : Nat) (x y : Obj) : setBlock (setBlock w b x) b y = setBlock w b y := by simp [setBlock]
theorem MapS.bump (h : MapS w P k b g) (KL : KeyLaw P k) (K : Keyed P k) (ht : P.underlying t = some (.map k e)) {z : Value} (hz : ∀ u : World, (zeroValue e).run P u = .ok z u) (L : List (Int × Int)) (hL : ∀ p v, g p = some v → p ∈ L) (hlen : L.length < maxLen) {p : Int × Int} {kl : Lit} (hkey : keyOf P k (spotV p) = some kl) :
    ∃ st w2, (Instr.mapEntry t (.map (some b)) (spotV p)).run P w = .ok (.tuple #[(g p).getD z, goInt st]) w2 ∧ (Instr.lookup t (.map (some b)) (spotV p) false).run P w2 = .ok ((g p).getD z) w2 ∧ w.grownBy w2 (some b) ∧
      ∀ v, ∃ w4, (Instr.entryStore t (.map (some b)) (goInt st) v).run P w2 = .ok () w4 ∧ MapS w4 P k b (fun q => if q = p then some v else g q) ∧ w.grownBy w4 (some b) := by
  obtain ⟨es, clock, hb, F, h1, h2⟩ := id h
  obtain ⟨v0, st, es1, clock1, hE, hcase, hS⟩ := entry_then_store KL ht hz hb F hkey
  have hv0 : v0 = (g p).getD z := by
    rcases hcase with ⟨e0, he0, hk0, rfl⟩ | ⟨hno, rfl⟩
    · obtain ⟨q, hq, hv⟩ := h1 e0 he0
      rw [hk0] at hq
      obtain rfl := spotV_inj hq
      rw [hv]
      rfl
    · cases hg : g p with
      | none => rfl
      | some v =>
        obtain ⟨x, hx, hk, _⟩ := h2 p v hg
        exact absurd hk (hno x hx)
  subst hv0
  have hgr : ∀ o, w.grownBy (setBlock w b o) (some b) := fun o => ⟨rfl, rfl, rfl, by simp [setBlock], fun i _ hi => heap_setBlock_other hb _ (fun e => hi (by rw [e]))⟩
  have hM2 : ∃ g2, MapS (setBlock w b (.map es1 clock1)) P k b g2 ∧ (g2 p).getD z = (g p).getD z := by
    rcases K.find w hkey es.toList F.keys with ⟨f1, f2⟩ | ⟨j, e0, f1, f2, f3⟩
    · have r1 : (Instr.mapEntry t (.map (some b)) (spotV p)).run P w = .ok (.tuple #[z, goInt clock]) (setBlock w b (.map (es.push ⟨spotV p, z, clock⟩) (clock + 1))) := by
        simp [Instr.mapEntry, run_underlying ht, MapKept.run_getObj_map hb, K.check w false hkey, f1, hz, MapKept.run_setObj_map _ hb, Result.andThen, setBlock]
      have r2 : (Instr.mapUpdate t (.map (some b)) (spotV p) z).run P w = .ok () (setBlock w b (.map (es.push ⟨spotV p, z, clock⟩) (clock + 1))) := by
        simp [Instr.mapUpdate, run_underlying ht, MapKept.run_getObj_map hb, K.check w false hkey, f1, MapKept.run_setObj_map _ hb, Result.andThen, setBlock]
      rw [r1] at hE
      simp only [Result.ok.injEq] at hE
      obtain ⟨w', r3, r4, -⟩ := h.store K ht L hL hlen hkey z
      rw [r2] at r3
      simp only [Result.ok.injEq, true_and] at r3
      rw [← hE.2, r3]
      refine ⟨_, r4, ?_⟩
      have hgn : g p = none := by
        cases hg : g p with
        | none => rfl
        | some v =>
          obtain ⟨x, hx, hk, _⟩ := h2 p v hg
          exact absurd hk (f2 x hx)
      rw [hgn]
      simp
    · have hj : es[j]? = some e0 := by simpa using f2
      have hsame : es.modify j (fun e => { e with key := spotV p }) = es := by
        apply Array.ext'
        rw [Array.toList_modify, modify_eq_set _ _ _ _ f2]
        have : ({ e0 with key := spotV p } : MapEntry) = e0 := by rw [← f3]
        rw [this]
        exact set_self _ _ _ f2
      have r1 : (Instr.mapEntry t (.map (some b)) (spotV p)).run P w = .ok (.tuple #[e0.val, goInt e0.born]) (setBlock w b (.map es clock)) := by
        simp [Instr.mapEntry, run_underlying ht, MapKept.run_getObj_map hb, K.check w false hkey, f1, hj, f3, K.stays w hkey, hsame, MapKept.run_setObj_map _ hb, Result.andThen, setBlock]
      rw [r1] at hE
      simp only [Result.ok.injEq] at hE
      rw [← hE.2]
      exact ⟨g, ⟨es, clock, heap_setBlock_same hb _, F, h1, h2⟩, rfl⟩
  obtain ⟨g2, hM2, hg2⟩ := hM2
  refine ⟨st, _, hE, ?_, hgr _, fun v => ?_⟩
  · have := hM2.look K ht (hz _) hkey
    rw [hg2] at this
    exact this
  · obtain ⟨es', clock', s1, s2⟩ := hS (setBlock w b (.map es1 clock1)) v (heap_setBlock_same hb _)
    obtain ⟨w', r3, r4, r5⟩ := h.store K ht L hL hlen hkey v
    rw [s2] at r3
    simp only [Result.ok.injEq, true_and] at r3
    rw [setBlock_twice, r3] at s1
    exact ⟨w', s1, r4, r5⟩
end
theorem Try.spotLaw : KeyLaw Try.prog 45 := deep_law_laid Try.laidOut (m := 2) (by omega) (of_decide_eq_true (by kernel_rfl)) (by kernel_rfl) (by kernel_rfl)
end Go.Proofs.Ythgkmaccbcpaeaa

/- PictureOfBorders, the program's, of a picture's own borders. -/
namespace Go.Proofs.Ythgkmaccbcpaeaa
open Go Go.RowKit
/-- How often a vertical side is gone up, less how often down. -/
def upN (L : List Edg) (p : Int × Int) : Int := sumE (fun e => isE e ⟨p.1, p.2 + 1, 3⟩ - isE e ⟨p.1, p.2, 1⟩) L
def upB : List (Int × Int) := boxL (-1) (-1) 20 20
structure UpOk (g : Int × Int → Option Value) (L : List Edg) : Prop where
  look : ∀ p, (g p).getD (.int .i64 0) = .int .i64 (upN L p)
  keys : ∀ p v, g p = some v → p ∈ upB
theorem UpOk.nil : UpOk (fun _ => none) [] := ⟨fun _ => rfl, fun _ _ h => by cases h⟩
theorem upN_add (L : List Edg) (e : Edg) (p : Int × Int) : upN (L ++ [e]) p = upN L p + (isE e ⟨p.1, p.2 + 1, 3⟩ - isE e ⟨p.1, p.2, 1⟩) := by
  unfold upN
  rw [sumE_append]
  show _ + (_ + 0) = _
  rw [Int.add_zero]
theorem UpOk.other {g : Int × Int → Option Value} {L : List Edg} {e : Edg} (h : UpOk g L) (h1 : e.k ≠ 1) (h3 : e.k ≠ 3) : UpOk g (L ++ [e]) := ⟨fun p => by
  rw [h.look p, upN_add]
  obtain ⟨x, y, k⟩ := e
  rw [isE_mk, isE_mk, if_neg (by simp only at h3; omega), if_neg (by simp only at h1; omega)]
  simp, h.keys⟩
theorem UpOk.put {g : Int × Int → Option Value} {L : List Edg} {x y : Int} {k : Nat} {p : Int × Int} {v : Int} (h : UpOk g L) (hx : -1 ≤ x ∧ x ≤ 16) (hy : 0 ≤ y ∧ y ≤ 16)
    (hp : (k = 1 ∧ p = (x, y) ∧ v = upN L p - 1) ∨ (k = 3 ∧ p = (x, y - 1) ∧ v = upN L p + 1)) : UpOk (fun q => if q = p then some (.int .i64 v) else g q) (L ++ [⟨x, y, k⟩]) := by
  refine ⟨fun q => ?_, fun q u hq => ?_⟩
  · rw [upN_add, isE_mk, isE_mk]
    by_cases e : q = p
    · rw [if_pos e]
      subst e
      rcases hp with ⟨rfl, rfl, rfl⟩ | ⟨rfl, rfl, rfl⟩
      · rw [if_neg (by omega), if_pos (by simp)]
        simp only [Option.getD_some]
        congr 1
      · rw [if_pos (by simp), if_neg (by omega)]
        simp only [Option.getD_some]
        congr 1
    · rw [if_neg e, h.look q]
      obtain ⟨q1, q2⟩ := q
      rcases hp with ⟨rfl, rfl, rfl⟩ | ⟨rfl, rfl, rfl⟩
      · simp only [Prod.mk.injEq] at e
        rw [if_neg (by omega), if_neg (by simp only; omega)]
        simp
      · simp only [Prod.mk.injEq] at e
        rw [if_neg (by simp only; omega), if_neg (by omega)]
        simp
  · by_cases e : q = p
    · subst e
      unfold upB
      rcases hp with ⟨rfl, rfl, rfl⟩ | ⟨rfl, rfl, rfl⟩ <;> exact boxL_mem (by simp only; omega) (by simp only; omega) (by simp only; omega) (by simp only; omega)
    · simp only [if_neg e] at hq
      exact h.keys q u hq
theorem upN_bnd (L : List Edg) (p : Int × Int) : -(L.length : Int) ≤ upN L p ∧ upN L p ≤ L.length := by
  induction L with
  | nil => show -(0 : Int) ≤ 0 ∧ (0 : Int) ≤ 0; decide
  | cons e L ih =>
    have h1 : 0 ≤ isE e ⟨p.1, p.2 + 1, 3⟩ ∧ isE e ⟨p.1, p.2 + 1, 3⟩ ≤ 1 := by unfold isE; split <;> omega
    have h2 : 0 ≤ isE e ⟨p.1, p.2, 1⟩ ∧ isE e ⟨p.1, p.2, 1⟩ ≤ 1 := by unfold isE; split <;> omega
    have e1 : upN (e :: L) p = (isE e ⟨p.1, p.2 + 1, 3⟩ - isE e ⟨p.1, p.2, 1⟩) + upN L p := rfl
    rw [e1, List.length_cons]
    omega
section
variable {f : Int → Int → Bool} {W H : Nat}
theorem upN_fill (hb : InBx f W H) (hW : W ≤ 16) (hH : H ≤ 16) (x y : Nat) : bI (f ((x : Int) - 1) (y : Int)) + upN (edgL f W H) ((x : Int), (y : Int)) = bI (f (x : Int) (y : Int)) := by
  have h1 := fill_edges hb hW hH (y : Int) x
  have h2 := fill_edges hb hW hH (y : Int) (x + 1)
  rw [show -1 + (x : Int) = (x : Int) - 1 by omega] at h1
  rw [show -1 + ((x + 1 : Nat) : Int) = (x : Int) by omega] at h2
  rw [← h1, ← h2]
  unfold upN
  have h3 : sumE (fun e => om e (x : Int) (y : Int) - om e ((x : Int) - 1) (y : Int)) (edgL f W H) = sumE (fun e => isE e ⟨(x : Int), (y : Int) + 1, 3⟩ - isE e ⟨(x : Int), (y : Int), 1⟩) (edgL f W H) := sumE_congr fun e _ => om_row e x y
  rw [sumE_sub] at h3
  simp only
  omega
/-- The steps of the first j borders, and i of the next. -/
def stepsL (f : Int → Int → Bool) (W : Nat) (B : List Nat) (j i : Nat) : List Edg := (B.take j).flatMap (fun b => orbL f (stE W b)) ++ (List.range i).map fun i => itr f i (stE W (B.getD j 0))
theorem stepsL_succ (B : List Nat) (j i : Nat) : stepsL f W B j (i + 1) = stepsL f W B j i ++ [itr f i (stE W (B.getD j 0))] := by
  unfold stepsL
  rw [List.range_succ, List.map_append, ← List.append_assoc]
  rfl
set_option maxRecDepth 20000 in
theorem stepsL_next {B : List Nat} {j : Nat} (hj : j < B.length) : stepsL f W B j (per f (stE W (B.getD j 0))) = stepsL f W B (j + 1) 0 := by
  unfold stepsL
  rw [List.take_succ_eq_append_getElem hj, List.flatMap_append]
  show _ = _ ++ [] 
  rw [List.append_nil]
  have e : B.getD j 0 = B[j] := by rw [List.getD_eq_getElem?_getD, List.getElem?_eq_getElem hj]; rfl
  rw [e, List.flatMap_cons, List.flatMap_nil, List.append_nil]
  rfl
set_option maxRecDepth 20000 in
theorem stepsL_len {B : List Nat} (h : ∀ b, b ∈ B → per f (stE W b) ≤ 1200) (j i : Nat) : (stepsL f W B j i).length ≤ 1200 * B.length + i := by
  unfold stepsL
  rw [List.length_append, List.length_map, List.length_range]
  have hl : ∀ C : List Nat, (∀ b, b ∈ C → per f (stE W b) ≤ 1200) → (C.flatMap fun b => orbL f (stE W b)).length ≤ 1200 * C.length := fun C => by
    induction C with
    | nil => intro _; exact Nat.le_refl _
    | cons b C ih =>
      intro hC
      rw [List.flatMap_cons, List.length_append, List.length_cons]
      have h1 := ih fun x hx => hC x (List.mem_cons_of_mem _ hx)
      have h2 := hC b List.mem_cons_self
      have h3 : (orbL f (stE W b)).length = per f (stE W b) := by unfold orbL; rw [List.length_map, List.length_range]
      omega
  have h1 := hl (B.take j) fun b hb => h b (List.mem_of_mem_take hb)
  have h2 : (B.take j).length ≤ B.length := by rw [List.length_take]; exact Nat.min_le_right _ _
  omega
theorem stepsL_all (B : List Nat) : stepsL f W B B.length 0 = B.flatMap fun b => orbL f (stE W b) := by
  unfold stepsL
  rw [List.take_length]
  exact List.append_nil _
end
def UpSt (w3 : World) (q : Nat) (L : List Edg) (wr : World) : Prop := Wrote (fun k => k = q) w3 wr ∧ ∃ g, MapS wr Try.prog 45 q g ∧ UpOk g L
theorem UpSt.ext {w3 wr w' : World} {q : Nat} {L : List Edg} (h : UpSt w3 q L wr) (hx : wr.Ext w') : UpSt w3 q L w' := ⟨h.1.trans (hx.wrote _), let ⟨g, h1, h2⟩ := h.2; ⟨g, h1.ext hx, h2⟩⟩
theorem zeroIntU (w : World) : (zeroValue 3).run Try.prog w = .ok (.int .i64 0) w := by kernel_rfl
theorem intMap : Try.prog.underlying 144 = some (.map 45 3) := Try.underlying144
/-- One step more: what the region does. -/
theorem UpSt.bump {w3 w4 : World} {q : Nat} {L : List Edg} {x y : Int} {k : Nat} {p : Int × Int} {d : Int} (h : UpSt w3 q L w4) (hx : 0 ≤ x ∧ x ≤ 16) (hy : 0 ≤ y ∧ y ≤ 16) (hp : (k = 1 ∧ p = (x, y) ∧ d = -1) ∨ (k = 3 ∧ p = (x, y - 1) ∧ d = 1)) :
    ∃ st w5, (Instr.lookup 144 (.map (some q)) (.agg #[.int .i64 p.1, .int .i64 p.2]) false).run Try.prog w4 = .ok (.int .i64 (upN L p)) w4 ∧
      (Instr.mapEntry 144 (.map (some q)) (.agg #[.int .i64 p.1, .int .i64 p.2])).run Try.prog w4 = .ok (.tuple #[.int .i64 (upN L p), .int .i64 st]) w5 ∧
      (Instr.lookup 144 (.map (some q)) (.agg #[.int .i64 p.1, .int .i64 p.2]) false).run Try.prog w5 = .ok (.int .i64 (upN L p)) w5 ∧
      ∃ w6, (Instr.entryStore 144 (.map (some q)) (.int .i64 st) (.int .i64 (upN L p + d))).run Try.prog w5 = .ok () w6 ∧ UpSt w3 q (L ++ [⟨x, y, k⟩]) w6 ∧ Wrote (fun k => k = q) w4 w6 := by
  obtain ⟨hw, g, hm, hg⟩ := h
  have hwf : SpotWf p := by
    rcases hp with ⟨-, rfl, -⟩ | ⟨-, rfl, -⟩ <;> exact spotWf (by omega) (by omega)
  have hlook := hm.look Try.spotKey intMap (zeroIntU w4) (spotKeyOf hwf)
  have hlen : upB.length < maxLen := by unfold upB; rw [boxL_len]; unfold maxLen; omega
  obtain ⟨st, w5, s1, s2, s3, s4⟩ := hm.bump Try.spotLaw Try.spotKey intMap zeroIntU upB hg.keys hlen (spotKeyOf hwf)
  rw [hg.look p] at hlook s1 s2
  obtain ⟨w6, t1, t2, t3⟩ := s4 (.int .i64 (upN L p + d))
  refine ⟨st, w5, hlook, s1, s2, w6, t1, ⟨hw.grown t3 fun _ e => Or.inl (Option.some.inj e).symm, _, t2, ?_⟩, (Wrote.refl _ w4).grown t3 fun _ e => Or.inl (Option.some.inj e).symm⟩
  refine hg.put (by omega) hy ?_
  rcases hp with ⟨rfl, rfl, rfl⟩ | ⟨rfl, rfl, rfl⟩
  · exact .inl ⟨rfl, rfl, by omega⟩
  · exact .inr ⟨rfl, rfl, by omega⟩
end Go.Proofs.Ythgkmaccbcpaeaa

/- Borders that are equal. -/
namespace Go.Proofs.Ythgkmaccbcpaeaa
open Go Go.RowKit
@[go_sem] theorem Try.eqBordQ (a b a' b' : Int) (s t : ByteArray) (w : World) : (Op.equalIn 10000 62 (.agg #[.int .i64 a, .int .i64 b, .string s]) (.agg #[.int .i64 a', .int .i64 b', .string t])).run Try.prog w = .ok ((a == a' && b == b') && s.toList == t.toList) w := by
  have u3 := Try.underlying2
  have u4 := Try.underlying9
  have hS : Try.prog.underlying 62 = some (.struct (Try.prog.fieldsOf 62)) := by kernel_rfl
  have hp : Try.prog.stoodInHeld 62 = false := by kernel_rfl
  have hq := Try.eqSpotG a b a' b' w
  rw [show (10000 : Nat) = 9999 + 1 from rfl, run_equalIn_agg w 9999 62 _ _ hS hp]
  simp only [Program.fieldsOf, Try.underlying62]
  have h1 : ∀ (x y : Int) (z : ByteArray), (part 45 #[.int .i64 x, .int .i64 y, .string z] 0).run Try.prog w = .ok (.agg #[.int .i64 x, .int .i64 y]) w := fun x y z => by kernel_rfl
  have h2 : ∀ (x y : Int) (z : ByteArray), (part 9 #[.int .i64 x, .int .i64 y, .string z] 2).run Try.prog w = .ok (.string z) w := fun x y z => by kernel_rfl
  have hc : Try.prog.cellsOf 45 = 2 := Try.spotCells
  have hi : (Op.equalIn 9999 9 (.string s) (.string t)).run Try.prog w = .ok (s.toList == t.toList) w := run_equalIn_string w 9998 _ _ _ u4
  simp [Op.eqFields, h1, h2, hq, hi]
  by_cases g1 : a = a' <;> by_cases g2 : b = b' <;> by_cases g3 : s.toList = t.toList <;> simp [g1, g2, g3]
set_option maxRecDepth 5000 in
set_option maxHeartbeats 1600000 in
theorem eqBordsT_any (a b : Option Addr) (c c' n : Nat) (bs : List Bord) (w : World) (hl : bs.length = n) (hn : n ≤ 262144) (ha : RowBd w a bs) (hb : RowBd w b bs) :
    Calls Try.prog 105 #[.slice a n c, .slice b n c'] w fun e w' => e = .returned (.bool true) ∧ w.Ext w' := by
  have HA := Lib.hid ha
  have HB := Lib.hid hb
  have HL := Lib.hid hl
  clear ha hb hl
  go_enter Try.func105, Try.ntmps105
  go_wp2
  go_loopw [5, 13] (fun _ z wr => ∃ k : Nat, k ≤ n ∧ z = .int .i64 k ∧ Hid (w.Ext wr)) (fun _ z _ => n - (intOf z).toNat)
  case atStart => exact ⟨0, Nat.zero_le _, rfl, .refl _⟩
  case round =>
    obtain ⟨k, hk, rfl, HX⟩ := hrel
    obtain ⟨wo, rfl⟩ : ∃ wo : World, wo = wr := ⟨_, rfl⟩
    have hk0 : (0 : Int) ≤ (k : Int) := by omega
    by_cases hlt : k < n
    · have hlt' : (k : Int) < (n : Int) := by omega
      obtain ⟨b1, o1, rfl, c0, c1, c2⟩ := (HA.out.ext HX.out) k (by rw [HL.out]; exact hlt)
      obtain ⟨b2, o2, rfl, d0, d1, d2⟩ := (HB.out.ext HX.out) k (by rw [HL.out]; exact hlt)
      generalize bs.getD k bd0 = d at *
      obtain ⟨x, y, s⟩ := d
      dsimp only at c0 c1 c2 d0 d1 d2
      have f1 : ((x == x && y == y) && s.toList == s.toList) = true := by simp
      go_wp2_with fail
      refine wp_region_over_lit (by kernel_rfl) (by kernel_rfl) ?_; (repeat (go_big_quiet_step (fail))); refine wpQuiet_nil ?_; rintro _ ⟨x1, rfl⟩
      have HX2 : Hid (w.Ext (wo.over x1)) := HX.out.trans ⟨x1, rfl⟩
      clear c0 c1 c2 d0 d1 d2
      go_wp2
      go_roundw
      case rel => exact ⟨k + 1, by omega, by go_num, HX2⟩
      case measure => simp [intOf]; omega
    · have hlt' : ¬ (k : Int) < (n : Int) := by omega
      go_wp2
      go_ret
      exact ⟨rfl, HX.out⟩
end Go.Proofs.Ythgkmaccbcpaeaa

/- PictureOfBorders, the program's, of a picture's own borders: the walk. -/
namespace Go.Proofs.Ythgkmaccbcpaeaa
open Go Go.RowKit
theorem inBx_up {f : Int → Int → Bool} {W H : Nat} (h : InBx f W H) (hW : W ≤ 16) (hH : H ≤ 16) : InBx f 16 16 := fun x y hf => by have := h x y hf; omega
theorem mkl_fill {W H : Nat} {f : Int → Int → Bool} {x y : Nat} (hx : x < W) (hy : y < H) : (mkl W H fun i j => decide (j * W + i < y * W + x) && f (i : Int) (j : Int)).set (y * W + x) (f (x : Int) (y : Int)) = mkl W H fun i j => decide (j * W + i < y * W + (x + 1)) && f (i : Int) (j : Int) := by
  refine mkl_set hx hy _ ?_ fun i j hi hj hne => ?_
  · rw [decide_eq_true (by omega), Bool.true_and]
  · have h1 : j * W + i ≠ y * W + x := fun e => by
      have e1 : (j * W + i) % W = i := by rw [Nat.mul_comm, Nat.mul_add_mod, Nat.mod_eq_of_lt hi]
      have e2 : (y * W + x) % W = x := by rw [Nat.mul_comm, Nat.mul_add_mod, Nat.mod_eq_of_lt hx]
      have e3 : (j * W + i) / W = j := by rw [Nat.mul_comm, Nat.mul_add_div (by omega), Nat.div_eq_of_lt hi]; rfl
      have e4 : (y * W + x) / W = y := by rw [Nat.mul_comm, Nat.mul_add_div (by omega), Nat.div_eq_of_lt hx]; rfl
      rw [e] at e1 e3
      omega
    congr 1
    exact decide_eq_decide.2 (by omega)
theorem mkl_done {W H : Nat} {l : List Bool} (hl : l.length = W * H) (hW : 1 ≤ W) : (mkl W H fun i j => decide (j * W + i < H * W) && pxl W H l (i : Int) (j : Int)) = l := by
  have e : (mkl W H fun i j => decide (j * W + i < H * W) && pxl W H l (i : Int) (j : Int)) = mkl W H fun i j => l.getD (j * W + i) false := mkl_congr fun x y hx hy => by
    rw [decide_eq_true (by
      have : (y + 1) * W ≤ H * W := Nat.mul_le_mul_right W hy
      rw [Nat.add_mul, Nat.one_mul] at this
      omega), Bool.true_and, pxl_at _ _ _ _ _ hx hy]
  rw [e]
  apply List.ext_getElem?
  intro k
  by_cases hk : k < H * W
  · have hx : k % W < W := Nat.mod_lt _ hW
    have hy : k / W < H := by rw [Nat.div_lt_iff_lt_mul hW]; exact hk
    have h := mkl_at W H (fun i j => l.getD (j * W + i) false) _ _ hx hy
    have he : k / W * W + k % W = k := by rw [Nat.mul_comm]; exact Nat.div_add_mod _ _
    rw [he] at h
    have e2 : ∀ (m : List Bool), k < m.length → m[k]? = some (m.getD k false) := fun m hm => by rw [List.getD_eq_getElem?_getD, List.getElem?_eq_getElem hm]; rfl
    rw [e2 _ (by rw [mkl_len]; exact hk), e2 l (by rw [hl, Nat.mul_comm]; exact hk), h]
  · rw [List.getElem?_eq_none (by rw [mkl_len]; omega), List.getElem?_eq_none (by rw [hl, Nat.mul_comm]; omega)]
set_option maxRecDepth 20000 in
set_option maxHeartbeats 6400000 in
theorem pob_any (a : Option Addr) (c W H : Nat) (l : List Bool) (w : World) (hl : l.length = W * H) (hW1 : 1 ≤ W) (hW : W ≤ 8) (hH1 : 1 ≤ H) (hH : H ≤ 8) (hm : RowBd w a (brds (pxl W H l) W (H * W))) :
    Calls Try.prog 31 #[.int .i64 W, .int .i64 H, .slice a (brds (pxl W H l) W (H * W)).length c] w (PicRet2 w (picRows W H l) true) := by
  have hbx := inBx_pxl W H l
  have hbx16 : InBx (pxl W H l) 16 16 := inBx_up hbx (by omega) (by omega)
  obtain ⟨B, hB⟩ : ∃ B, B = bTo (pxl W H l) W (H * W) := ⟨_, rfl⟩
  have hBl : (brds (pxl W H l) W (H * W)).length = B.length := by unfold brds; rw [List.length_map, hB]
  have hB64 : B.length ≤ 64 := by
    rw [hB]
    exact Nat.le_trans (bTo_len _ _ _) (Nat.mul_le_mul hH hW)
  obtain ⟨E, hE⟩ : ∃ E : Nat → Edg, E = fun j => stE W (B.getD j 0) := ⟨_, rfl⟩
  have hst : ∀ b, b ∈ B → isSt (pxl W H l) W b = true := by rw [hB]; exact fun b hb => (bTo_mem hb).2
  have hEok : ∀ j, j < B.length → EOk (pxl W H l) (E j) := fun j hj => by
    rw [hE]
    exact isSt_ok (hst _ (by rw [List.getD_eq_getElem?_getD, List.getElem?_eq_getElem hj]; exact List.getElem_mem _))
  have hbd : ∀ j, j < B.length → (brds (pxl W H l) W (H * W)).getD j bd0 = ((E j).x, (E j).y, wrd (pxl W H l) (E j)) := fun j hj => by
    unfold brds
    rw [← hB, List.getD_eq_getElem?_getD, List.getElem?_map, List.getElem?_eq_getElem hj, hE]
    simp only [Option.map_some, Option.getD_some, List.getD_eq_getElem?_getD, List.getElem?_eq_getElem hj]
    rfl
  obtain ⟨N, hN⟩ : ∃ N : Nat → Nat, N = fun j => per (pxl W H l) (E j) := ⟨_, rfl⟩
  obtain ⟨L, hL⟩ : ∃ L : Nat → Nat → List Edg, L = stepsL (pxl W H l) W B := ⟨_, rfl⟩
  have hLn : ∀ j, j < B.length → L j (N j) = L (j + 1) 0 := fun j hj => by rw [hL, hN, hE]; exact stepsL_next hj
  have hLs : ∀ j i, L j (i + 1) = L j i ++ [itr (pxl W H l) i (E j)] := fun j i => by rw [hL, hE]; exact stepsL_succ B j i
  have hL0 : L 0 0 = [] := by rw [hL]; rfl
  have hLa : L B.length 0 = edgL (pxl W H l) W H := by rw [hL, stepsL_all, hB]; rfl
  have hNb : ∀ j, j < B.length → 4 ≤ N j ∧ N j ≤ 600 := fun j hj => by rw [hN]; exact per_len hbx hW hH (hEok j hj)
  have HISB : Hid (∀ w' j, j < B.length → Calls Try.prog 36 #[.agg #[.int .i64 (E j).x, .int .i64 (E j).y, .string (wrd (pxl W H l) (E j))]] w' fun e' w'' => e' = .returned (.bool true) ∧ w'.Ext w'') := fun w' j hj => by
    have h := hNb j hj
    rw [hN] at h
    exact isBord_any _ (E j) w' hbx16 (hEok j hj) h.1 h.2
  have HED : Hid (∀ w' p j, j < B.length → w'.cell? ⟨p, 0, none⟩ = some (.int .i64 (E j).x) → w'.cell? ⟨p, 1, none⟩ = some (.int .i64 (E j).y) → w'.cell? ⟨p, 2, none⟩ = some (.string (wrd (pxl W H l) (E j))) →
      Calls Try.prog 103 #[.pointer (some ⟨p, 0, none⟩)] w' fun e' w'' => ∃ a c, e' = .returned (.tuple #[.slice a (N j) c, .bool true]) ∧ w'.Ext w'' ∧ OwnD w'.heap.size w''.heap.size w'' a (edgsL (pxl W H l) (E j) (N j))) := fun w' p j hj c0 c1 c2 => by
    have q := edges_any p (pxl W H l) (E j) w' hbx16 (hEok j hj) c0 c1 c2
    rw [edgsL_len] at q
    rw [hN]
    exact q
  have HDL : Hid (∀ j i, i < N j → (edgsL (pxl W H l) (E j) (N j)).getD i (0, 0, 0) = ((itr (pxl W H l) i (E j)).x, (itr (pxl W H l) i (E j)).y, ((itr (pxl W H l) i (E j)).k : Int))) := fun j i hi => edgsL_at hi
  have HDN : Hid (∀ j, (edgsL (pxl W H l) (E j) (N j)).length = N j) := fun j => edgsL_len _ _ _
  have HIT : Hid (∀ j i, j < B.length → (0 ≤ (itr (pxl W H l) i (E j)).x ∧ (itr (pxl W H l) i (E j)).x ≤ 16 ∧ 0 ≤ (itr (pxl W H l) i (E j)).y ∧ (itr (pxl W H l) i (E j)).y ≤ 16) ∧ (itr (pxl W H l) i (E j)).k < 4) := fun j i hj => ⟨hbx16.edge (itr_ok (hEok j hj) i), (itr_ok (hEok j hj) i).1⟩
  have HUP : Hid (∀ x y : Nat, bI (pxl W H l ((x : Int) - 1) (y : Int)) + upN (edgL (pxl W H l) W H) ((x : Int), (y : Int)) = bI (pxl W H l (x : Int) (y : Int))) := fun x y => upN_fill hbx (by omega) (by omega) x y
  have HLB : Hid (∀ j i, (L j i).length ≤ 76800 + i) := fun j i => by
    have h := stepsL_len (f := pxl W H l) (W := W) (B := B) (fun b hb => (per_of hbx (by omega) (by omega) (isSt_ok (hst b hb))).2) j i
    rw [hL]
    omega
  have HLN := Lib.hid hLn
  have HLS := Lib.hid hLs
  have HLA := Lib.hid hLa
  have HL0 := Lib.hid hL0
  have HNB := Lib.hid hNb
  have HBD := Lib.hid hbd
  have hs : sizeB (W : Int) (H : Int) = true := by
    unfold sizeB
    rw [Bool.and_eq_true, inB_true, inB_true]
    omega
  obtain ⟨W0, hW0⟩ : ∃ W0, W0 = w.alloc (.cells #[.slice none 0 0] 26) := ⟨_, rfl⟩
  have hx0 : w.Ext W0 := by rw [hW0]; repeat (first | exact World.Ext.refl _ | exact ⟨_, rfl⟩ | assumption | refine World.Ext.over ?_ _ | refine World.Ext.drewN ?_ _ | refine World.Ext.drew ?_ | refine World.Ext.alloc ?_ _ | refine World.Ext.setCell ?_ (by simp) _)
  have hone : One W0 w.heap.size 26 (.slice none 0 0) := by rw [hW0]; exact One.new _ _ _ _ rfl
  have HSZ := Lib.hid (sizeOk_any (W : Int) (H : Int) W0 true hs)
  have HBLK : Hid (∀ w', Calls Try.prog 84 #[.int .i64 W, .int .i64 H] w' (ImgRet w' W H (List.replicate (W * H) false))) := fun w' => blank_any W H w' (by omega) (by omega)
  have HTD : Hid (∀ w' b ab l, Img w' b ab W H l → Calls Try.prog 76 #[.pointer (some ⟨b, 0, none⟩)] w' (PicVal w' (picRows W H l))) := fun w' b ab l hI => told_any b ab W H l w' (by omega) (by omega) (by omega) hI
  have HBO : Hid (∀ w' b ab, Img w' b ab W H l → Calls Try.prog 102 #[.pointer (some ⟨b, 0, none⟩)] w' (BordsRet w' (brds (pxl W H l) W (H * W)))) := fun w' b ab hI => borders_any b ab W H l w' (by omega) (by omega) hI
  have HM := Lib.hid (hm.ext hx0)
  have HX0 := Lib.hid hx0
  have HONE := Lib.hid hone
  rw [hBl]
  have hLen := hBl
  have HLEN := Lib.hid hBl
  clear hm hx0 hone hs hbx hbx16 hst hEok hbd hLn hLs hL0 hLa hNb hE hN hL hB hBl hLen
  generalize hn : B.length = n at *
  clear hn
  have hmm := @run_makeMap Try.prog
  go_enter Try.func31, Try.ntmps31
  go_wp2_with fail
  rw [← hW0]
  clear hW0
  refine HSZ.out.mono ?_
  rintro e9 w1 ⟨rfl, hx1⟩
  have HX1 := Lib.hid hx1
  clear hx1 HSZ
  obtain ⟨w3, hw3⟩ : ∃ w3, w3 = w1.alloc (.map #[] 0) := ⟨_, rfl⟩
  have hx3 : w1.Ext w3 := by rw [hw3]; repeat (first | exact World.Ext.refl _ | exact ⟨_, rfl⟩ | assumption | refine World.Ext.over ?_ _ | refine World.Ext.drewN ?_ _ | refine World.Ext.drew ?_ | refine World.Ext.alloc ?_ _ | refine World.Ext.setCell ?_ (by simp) _)
  have HM0 : Hid (MapS w3 Try.prog 45 w1.heap.size (fun _ => none)) := by rw [hw3]; exact MapS.new w1 _ _ _ rfl
  have HZ3 : Hid (w3.heap.size = w1.heap.size + 1) := by show _ = _; rw [hw3]; simp
  go_upto_region 4 with fail
  rw [← hw3]
  clear hmm hw3
  have HST : Hid (UpSt w3 w1.heap.size (L 0 0) w3) := ⟨.refl _ _, _, HM0.out, by rw [HL0.out]; exact UpOk.nil⟩
  have HRW : Hid (∀ wr, Wrote (fun k => k = w1.heap.size) w3 wr → RowBd wr a (brds (pxl W H l) W (H * W)) ∧ W0.Ext wr ∧ w1.heap.size < wr.heap.size) := fun wr hx => by
    have hx1 : W0.Ext wr := (((HX1.out.trans hx3).wrote (fun k => k = w1.heap.size)).trans hx).ext fun k hk he => by have := HX1.out.size; omega
    exact ⟨HM.out.ext hx1, hx1, by have := hx.size; have := HZ3.out; omega⟩
  clear HM0 hx3 HL0 HX1 HZ3
  generalize w1.heap.size = q at *
  generalize brds (pxl W H l) W (H * W) = bs at *
  go_wp2
  go_loopw [10, 11, 12, 14, 32, 44, 45, 46, 51, 52, 61] (fun _ _ _ _ z _ _ _ _ _ _ wr => ∃ j : Nat, j ≤ n ∧ z = .int .i64 j ∧ Hid (UpSt w3 q (L j 0) wr)) (fun _ _ _ _ z _ _ _ _ _ _ _ => n - (intOf z).toNat)
  case atStart => exact ⟨0, Nat.zero_le _, rfl, HST⟩
  case round =>
    clear HST
    obtain ⟨j, hj, rfl, HS⟩ := hrel
    obtain ⟨wo, rfl⟩ : ∃ wo : World, wo = wr := ⟨_, rfl⟩
    have hj0 : (0 : Int) ≤ (j : Int) := by omega
    by_cases hjn : j < n
    · have hjn' : (j : Int) < (n : Int) := by omega
      obtain ⟨hrw, hxw, hqw⟩ := HRW.out wo HS.out.1
      obtain ⟨b1, o1, rfl, d0, d1, d2⟩ := hrw j (by rw [HLEN.out]; exact hjn)
      rw [HBD.out j hjn] at d0 d1 d2
      dsimp only at d0 d1 d2
      obtain ⟨w4, hw4⟩ : ∃ w4, w4 = wo.alloc (.cells #[.int .i64 (E j).x, .int .i64 (E j).y, .string (wrd (pxl W H l) (E j))] 62) := ⟨_, rfl⟩
      have hx4 : wo.Ext w4 := by rw [hw4]; repeat (first | exact World.Ext.refl _ | exact ⟨_, rfl⟩ | assumption | refine World.Ext.over ?_ _ | refine World.Ext.drewN ?_ _ | refine World.Ext.drew ?_ | refine World.Ext.alloc ?_ _ | refine World.Ext.setCell ?_ (by simp) _)
      have HD4 : Hid (∀ wr, w4.Ext wr → wr.cell? ⟨wo.heap.size, 0, none⟩ = some (.int .i64 (E j).x) ∧ wr.cell? ⟨wo.heap.size, 1, none⟩ = some (.int .i64 (E j).y) ∧ wr.cell? ⟨wo.heap.size, 2, none⟩ = some (.string (wrd (pxl W H l) (E j)))) := fun wr hx => by
        refine ⟨hx.cell ?_, hx.cell ?_, hx.cell ?_⟩ <;> (rw [hw4]; simp [go_sem])
      have HS4 := Lib.hid (HS.out.ext hx4)
      have hq4 : q < w4.heap.size := by have := hx4.size; omega
      obtain ⟨hN4, hN6⟩ := HNB.out j hjn
      have HITj : Hid (∀ i, (0 ≤ (itr (pxl W H l) i (E j)).x ∧ (itr (pxl W H l) i (E j)).x ≤ 16 ∧ 0 ≤ (itr (pxl W H l) i (E j)).y ∧ (itr (pxl W H l) i (E j)).y ≤ 16) ∧ (itr (pxl W H l) i (E j)).k < 4) := fun i => HIT.out j i hjn
      have HLNj := Lib.hid (HLN.out j hjn)
      have HLBj := Lib.hid (HLB.out j)
      have HLSj := Lib.hid (HLS.out j)
      have HDLj := Lib.hid (HDL.out j)
      have HDNj := Lib.hid (HDN.out j)
      clear HS hx4 hrw hxw hqw
      go_upto_region 7 with fail
      rw [← hw4]
      clear hw4 d0 d1 d2
      generalize wo.heap.size = g at *
      obtain ⟨c0, c1, c2⟩ := HD4.out w4 (.refl _)
      have lg := World.block_lt_of_cell? _ _ c0
      go_wp2_with fail
      refine (HISB.out w4 j hjn).mono ?_
      rintro e9 w5 ⟨rfl, hx5⟩
      clear c0 c1 c2 lg
      obtain ⟨c0, c1, c2⟩ := HD4.out w5 hx5
      have HC5 := Lib.hid (HED.out w5 _ j hjn c0 c1 c2)
      clear c0 c1 c2
      go_wp2_with fail
      refine HC5.out.mono ?_
      rintro e9 w6 ⟨a6, c6, rfl, hx6, ho6⟩
      have HS6 := Lib.hid (HS4.out.ext (hx5.trans hx6))
      have HR6 : Hid (∀ wr, Wrote (fun k => k = q) w6 wr → RowD wr a6 (edgsL (pxl W H l) (E j) (N j))) := fun wr hx => (ho6.wrote hx fun k h1 h2 => by have := hx5.size; omega).row
      have HST : Hid (UpSt w3 q (L j 0) w6 ∧ Wrote (fun k => k = q) w6 w6) := ⟨HS6.out, .refl _ _⟩
      clear HS4 HS6 hx5 hx6 ho6 HC5 HD4
      generalize hDD : edgsL (pxl W H l) (E j) (N j) = DL at *
      generalize hNj : N j = nj at *
      clear hDD hNj
      generalize hII : (fun i => itr (pxl W H l) i (E j)) = I at *
      have eI : ∀ i, itr (pxl W H l) i (E j) = I i := fun i => congrFun hII i
      simp only [eI] at HITj HLSj HDLj
      clear hII eI
      generalize hLL : L j = Lj at *
      go_wp2
      go_loopw [14, 46, 51, 52, 61] (fun _ z _ _ _ wr => ∃ i : Nat, i ≤ nj ∧ z = .int .i64 i ∧ Hid (UpSt w3 q (Lj i) wr ∧ Wrote (fun k => k = q) w6 wr)) (fun _ z _ _ _ _ => nj - (intOf z).toNat)
      case atStart => exact ⟨0, Nat.zero_le _, rfl, HST⟩
      case round =>
        clear HST
        obtain ⟨i, hi, rfl, HS⟩ := hrel
        obtain ⟨wi, rfl⟩ : ∃ wi : World, wi = wr := ⟨_, rfl⟩
        have hi0 : (0 : Int) ≤ (i : Int) := by omega
        by_cases hin : i < nj
        · have hin' : (i : Int) < (nj : Int) := by omega
          obtain ⟨b2, o2, rfl, d0, d1, d2⟩ := (HR6.out wi HS.out.2).at (show i < DL.length by rw [HDNj.out]; exact hin)
          rw [HDLj.out i hin] at d0 d1 d2
          dsimp only at d0 d1 d2
          obtain ⟨⟨x1, x2, y1, y2⟩, hk4⟩ := HITj.out i
          have HLS1 := Lib.hid (HLSj.out i)
          obtain ⟨ee, hee⟩ : ∃ ee, I i = ee := ⟨_, rfl⟩
          rw [hee] at d0 d1 d2 x1 x2 y1 y2 hk4 HLS1
          obtain ⟨X, Y, k⟩ := ee
          dsimp only at d0 d1 d2 x1 x2 y1 y2 hk4
          clear hee
          obtain ⟨w8, hw8⟩ : ∃ w8, w8 = wi.alloc (.cells #[.int .i64 X, .int .i64 Y, .int .i64 (k : Int)] 149) := ⟨_, rfl⟩
          have hx8 : wi.Ext w8 := by rw [hw8]; repeat (first | exact World.Ext.refl _ | exact ⟨_, rfl⟩ | assumption | refine World.Ext.over ?_ _ | refine World.Ext.drewN ?_ _ | refine World.Ext.drew ?_ | refine World.Ext.alloc ?_ _ | refine World.Ext.setCell ?_ (by simp) _)
          have HD8 : Hid (∀ wr, w8.Ext wr → wr.cell? ⟨wi.heap.size, 0, none⟩ = some (.int .i64 X) ∧ wr.cell? ⟨wi.heap.size, 1, none⟩ = some (.int .i64 Y) ∧ wr.cell? ⟨wi.heap.size, 2, none⟩ = some (.int .i64 (k : Int))) := fun wr hx => by
            refine ⟨hx.cell ?_, hx.cell ?_, hx.cell ?_⟩ <;> (rw [hw8]; simp [go_sem])
          have HS8 : Hid (UpSt w3 q (Lj i) w8 ∧ Wrote (fun k => k = q) w6 w8) := ⟨HS.out.1.ext hx8, HS.out.2.trans (hx8.wrote _)⟩
          clear HS hx8
          go_upto_region 13 with fail
          rw [← hw8]
          clear hw8 d0 d1 d2
          generalize wi.heap.size = g2 at *
          obtain ⟨c0, c1, c2⟩ := HD8.out w8 (.refl _)
          have lg2 := World.block_lt_of_cell? _ _ c0
          have hk4' : k = 0 ∨ k = 1 ∨ k = 2 ∨ k = 3 := by omega
          rcases hk4' with rfl | rfl | rfl | rfl
          · have HS9 : Hid (UpSt w3 q (Lj (i + 1)) w8 ∧ Wrote (fun k => k = q) w6 w8) := ⟨by
              obtain ⟨h1, g, h2, h3⟩ := HS8.out.1
              rw [HLS1.out]
              exact ⟨h1, g, h2, h3.other (by simp) (by simp)⟩, HS8.out.2⟩
            clear HS8 HLS1
            go_wp2
            go_roundw
            case rel => exact ⟨i + 1, by omega, by go_num, HS9⟩
            case measure => simp [intOf]; omega
          · obtain ⟨st, w9, r1, r2, r3, w10, r4, hs10, hw10⟩ := UpSt.bump (w4 := w8.drew) (p := (X, Y)) (HS8.out.1.ext (show w8.Ext w8.drew by repeat (first | exact World.Ext.refl _ | exact ⟨_, rfl⟩ | assumption | refine World.Ext.over ?_ _ | refine World.Ext.drewN ?_ _ | refine World.Ext.drew ?_ | refine World.Ext.alloc ?_ _ | refine World.Ext.setCell ?_ (by simp) _))) ⟨x1, x2⟩ ⟨y1, y2⟩ (.inl ⟨rfl, rfl, rfl⟩)
            have hub := upN_bnd (Lj i) (X, Y)
            have hlb := HLBj.out i
            rw [← HLS1.out] at hs10
            have HS9 : Hid (UpSt w3 q (Lj (i + 1)) w10 ∧ Wrote (fun k => k = q) w6 w10) := ⟨hs10, (HS8.out.2.trans ((show w8.Ext w8.drew by repeat (first | exact World.Ext.refl _ | exact ⟨_, rfl⟩ | assumption | refine World.Ext.over ?_ _ | refine World.Ext.drewN ?_ _ | refine World.Ext.drew ?_ | refine World.Ext.alloc ?_ _ | refine World.Ext.setCell ?_ (by simp) _)).wrote _)).trans hw10⟩
            dsimp only at r1 r2 r3 r4
            generalize upN (Lj i) (X, Y) = u at *
            rw [show u + -1 = u - 1 by omega] at r4
            obtain ⟨f0, f1, f2⟩ := HD8.out w8.drew (by repeat (first | exact World.Ext.refl _ | exact ⟨_, rfl⟩ | assumption | refine World.Ext.over ?_ _ | refine World.Ext.drewN ?_ _ | refine World.Ext.drew ?_ | refine World.Ext.alloc ?_ _ | refine World.Ext.setCell ?_ (by simp) _))
            clear hs10 hw10 HS8 HLS1
            go_wp2_with fail
            go_region
            all_goals
              go_wp2
              go_roundw
              case rel => exact ⟨i + 1, by omega, by go_num, HS9⟩
              case measure => simp [intOf]; omega
          · have HS9 : Hid (UpSt w3 q (Lj (i + 1)) w8 ∧ Wrote (fun k => k = q) w6 w8) := ⟨by
              obtain ⟨h1, g, h2, h3⟩ := HS8.out.1
              rw [HLS1.out]
              exact ⟨h1, g, h2, h3.other (by simp) (by simp)⟩, HS8.out.2⟩
            clear HS8 HLS1
            go_wp2
            go_roundw
            case rel => exact ⟨i + 1, by omega, by go_num, HS9⟩
            case measure => simp [intOf]; omega
          · have HMV : Hid (∀ w', Calls Try.prog 104 #[.agg #[.int .i64 X, .int .i64 Y], .int .i64 3] w' fun e w'' => e = .returned (.agg #[.int .i64 X, .int .i64 (Y - 1)]) ∧ w'.Ext w'') := fun w' => by
              have q := moved_any X Y 3 w' (by omega) (by omega) (by omega)
              rw [show X + dX 3 = X by simp [dX], show Y + dY 3 = Y - 1 by show Y + -1 = _; omega] at q
              exact q
            have hub := upN_bnd (Lj i) (X, Y - 1)
            have hlb := HLBj.out i
            have HBUMP : Hid (∀ w9, w8.Ext w9 → ∃ st w10, (Instr.lookup 144 (.map (some q)) (.agg #[.int .i64 X, .int .i64 (Y - 1)]) false).run Try.prog w9 = .ok (.int .i64 (upN (Lj i) (X, Y - 1))) w9 ∧
                (Instr.mapEntry 144 (.map (some q)) (.agg #[.int .i64 X, .int .i64 (Y - 1)])).run Try.prog w9 = .ok (.tuple #[.int .i64 (upN (Lj i) (X, Y - 1)), .int .i64 st]) w10 ∧
                (Instr.lookup 144 (.map (some q)) (.agg #[.int .i64 X, .int .i64 (Y - 1)]) false).run Try.prog w10 = .ok (.int .i64 (upN (Lj i) (X, Y - 1))) w10 ∧
                ∃ w11, (Instr.entryStore 144 (.map (some q)) (.int .i64 st) (.int .i64 (upN (Lj i) (X, Y - 1) + 1))).run Try.prog w10 = .ok () w11 ∧ Hid (UpSt w3 q (Lj (i + 1)) w11 ∧ Wrote (fun k => k = q) w6 w11)) := fun w9 hx9 => by
              obtain ⟨st, w10, r1, r2, r3, w11, r4, hs11, hw11⟩ := UpSt.bump (w4 := w9) (p := (X, Y - 1)) (HS8.out.1.ext hx9) ⟨x1, x2⟩ ⟨y1, y2⟩ (.inr ⟨rfl, rfl, rfl⟩)
              rw [← HLS1.out] at hs11
              exact ⟨st, w10, r1, r2, r3, w11, r4, hs11, (HS8.out.2.trans (hx9.wrote _)).trans hw11⟩
            clear HS8 HLS1
            generalize upN (Lj i) (X, Y - 1) = u at *
            have hwr : IntKind.i64.wrap (u + 1) = u + 1 := IntWalk.i64_in _ (by omega)
            obtain ⟨f0, f1, f2⟩ := HD8.out w8.drew (by repeat (first | exact World.Ext.refl _ | exact ⟨_, rfl⟩ | assumption | refine World.Ext.over ?_ _ | refine World.Ext.drewN ?_ _ | refine World.Ext.drew ?_ | refine World.Ext.alloc ?_ _ | refine World.Ext.setCell ?_ (by simp) _))
            go_wp2_with fail
            go_region_with (go_at_call 104; refine (HMV.out _).mono ?_; rintro e9 w9 ⟨rfl, hx9⟩; obtain ⟨st, w10, r1, r2, r3, w11, r4, HS9⟩ := HBUMP.out w9 (World.Ext.trans (by repeat (first | exact World.Ext.refl _ | exact ⟨_, rfl⟩ | assumption | refine World.Ext.over ?_ _ | refine World.Ext.drewN ?_ _ | refine World.Ext.drew ?_ | refine World.Ext.alloc ?_ _ | refine World.Ext.setCell ?_ (by simp) _)) hx9))
            all_goals
              go_wp2
              go_roundw
              case rel => exact ⟨i + 1, by omega, by go_num, HS9⟩
              case measure => simp [intOf]; omega
        · have : i = nj := by omega
          subst this
          have hin' : ¬ (i : Int) < (i : Int) := by omega
          have HS9 : Hid (UpSt w3 q (L (j + 1) 0) wi) := by rw [← HLNj.out]; exact HS.out.1
          clear HS
          go_wp2
          go_roundw
          case rel => exact ⟨j + 1, by omega, by go_num, HS9⟩
          case measure => simp [intOf]; omega
    · have : j = n := by omega
      subst this
      have hjn' : ¬ (j : Int) < (j : Int) := by omega
      have HSE : Hid (UpSt w3 q (edgL (pxl W H l) W H) wo) := by rw [← HLA.out]; exact HS.out
      obtain ⟨hrw, hxw, hqw⟩ := HRW.out wo HSE.out.1
      have HRB := Lib.hid hrw
      have HXW := Lib.hid hxw
      clear HS HISB HED HDL HDN HIT HLN HLS HLA HNB HBD HLB HRW hrw hxw
      generalize edgL (pxl W H l) W H = EL at *
      go_wp2_with fail
      refine (HBLK.out _).mono ?_
      rintro e9 wA ⟨bi, ai, rfl, hxA, hIA, hbi, hai⟩
      obtain ⟨g, hgm, hgo⟩ := HSE.out.2
      have HGM := Lib.hid (hgm.ext hxA)
      have HGO := Lib.hid hgo
      have HST : Hid (Wrote (fun k => k = ai) wA wA ∧ Img wA bi ai W H (mkl W H fun i j => decide (j * W + i < 0 * W + 0) && pxl W H l (i : Int) (j : Int))) := ⟨.refl _ _, by
        rw [show (fun i j : Nat => decide (j * W + i < 0 * W + 0) && pxl W H l (i : Int) (j : Int)) = fun _ _ => false from by funext i j; rw [decide_eq_false (by omega)]; rfl, mkl_false, Nat.mul_comm H W]
        exact hIA⟩
      have HXA := Lib.hid (HXW.out.trans hxA)
      have HRA := Lib.hid (HRB.out.ext hxA)
      have hqA : q < wA.heap.size := Nat.lt_of_lt_of_le hqw hxA.size
      have hqa : q ≠ ai := by omega
      have HAB : Hid (W0.heap.size ≤ ai) := Nat.le_trans HXW.out.size hai
      have HBIA : Hid (bi ≠ ai) := hIA.ne
      clear hxA hIA hbi hai hgm hgo HSE HBLK HRB HXW hqw
      have HLOOKU : Hid (∀ wr (x y : Nat), x ≤ 20 → y ≤ 20 → Wrote (fun k => k = ai) wA wr → (Instr.lookup 144 (.map (some q)) (.agg #[.int .i64 x, .int .i64 y]) false).run Try.prog wr = .ok (.int .i64 (upN EL ((x : Int), (y : Int)))) wr) := fun wr x y hx hy hw => by
        have hmm2 : MapS wr Try.prog 45 q g := HGM.out.keep (hw.block q hqA hqa)
        have h := hmm2.look Try.spotKey intMap (zeroIntU wr) (spotKeyOf (p := ((x : Int), (y : Int))) (spotWf (by omega) (by omega)))
        rw [HGO.out.look ((x : Int), (y : Int))] at h
        exact h
      clear HGM HGO
      go_wp2
      go_loopw [16, 17, 18, 77, 80, 81] (fun _ _ _ z _ _ wr => ∃ y : Nat, y ≤ H ∧ z = .int .i64 y ∧ Hid (Wrote (fun k => k = ai) wA wr ∧ Img wr bi ai W H (mkl W H fun i j => decide (j * W + i < y * W + 0) && pxl W H l (i : Int) (j : Int)))) (fun _ _ _ z _ _ _ => H - (intOf z).toNat)
      case atStart => exact ⟨0, Nat.zero_le _, rfl, HST⟩
      case round =>
        clear HST
        obtain ⟨y, hy, rfl, HS⟩ := hrel
        obtain ⟨wb, rfl⟩ : ∃ wb : World, wb = wr := ⟨_, rfl⟩
        have hy0 : (0 : Int) ≤ (y : Int) := by omega
        by_cases hlty : y < H
        · have hlty' : (y : Int) < (H : Int) := by omega
          have HV0 : Hid (bI (pxl W H l (((0 : Nat) : Int) - 1) (y : Int)) = 0) := by show _ = _; rw [pxl_out (by unfold hasB inB; simp)]; rfl
          go_wp2
          go_loopw [17, 18, 81] (fun v _ z wr => ∃ x : Nat, x ≤ W ∧ z = .int .i64 x ∧ v = .int .i64 (bI (pxl W H l ((x : Int) - 1) (y : Int))) ∧ Hid (Wrote (fun k => k = ai) wA wr ∧ Img wr bi ai W H (mkl W H fun i j => decide (j * W + i < y * W + x) && pxl W H l (i : Int) (j : Int)))) (fun _ _ z _ => W - (intOf z).toNat)
          case atStart => exact ⟨0, Nat.zero_le _, rfl, by rw [HV0.out], HS⟩
          case round =>
            clear HS
            obtain ⟨x, hx, rfl, rfl, HS⟩ := hrel
            obtain ⟨wc, rfl⟩ : ∃ wc : World, wc = wr := ⟨_, rfl⟩
            have hx0 : (0 : Int) ≤ (x : Int) := by omega
            by_cases hltx : x < W
            · have hltx' : (x : Int) < (W : Int) := by omega
              have hlk := HLOOKU.out wc x y (by omega) (by omega) HS.out.1
              have hup := HUP.out x y
              have HSETC : Hid (Calls Try.prog 86 #[.pointer (some ⟨bi, 0, none⟩), .int .i64 x, .int .i64 y, .bool (pxl W H l (x : Int) (y : Int))] wc (SetRet wc bi ai W H (mkl W H fun i j => decide (j * W + i < y * W + (x + 1)) && pxl W H l (i : Int) (j : Int)))) := by
                have h := set_any bi ai W H _ (x : Int) (y : Int) (pxl W H l (x : Int) (y : Int)) wc (by omega) (by omega) HS.out.2 (by omega) hltx' (by omega) hlty'
                rw [show ((y : Int) * (W : Int) + (x : Int)).toNat = y * W + x by rw [← Int.natCast_mul]; omega, mkl_fill hltx hlty] at h
                exact h
              have hb1 : 0 ≤ bI (pxl W H l ((x : Int) - 1) (y : Int)) ∧ bI (pxl W H l ((x : Int) - 1) (y : Int)) ≤ 1 := by unfold bI; split <;> omega
              have hb2 : 0 ≤ bI (pxl W H l (x : Int) (y : Int)) ∧ bI (pxl W H l (x : Int) (y : Int)) ≤ 1 := by unfold bI; split <;> omega
              have HNXT : Hid (bI (pxl W H l (((x + 1 : Nat) : Int) - 1) (y : Int)) = bI (pxl W H l ((x : Int) - 1) (y : Int)) + upN EL ((x : Int), (y : Int))) := by show _ = _; rw [hup, show (((x + 1 : Nat) : Int) - 1) = (x : Int) by omega]
              have tb : decide (0 < bI (pxl W H l ((x : Int) - 1) (y : Int)) + upN EL ((x : Int), (y : Int))) = pxl W H l (x : Int) (y : Int) := by
                rw [hup]
                unfold bI
                cases pxl W H l (x : Int) (y : Int) <;> rfl
              have HS1 := Lib.hid HS.out.1
              clear HS HLOOKU
              generalize bI (pxl W H l ((x : Int) - 1) (y : Int)) = v at *
              generalize upN EL ((x : Int), (y : Int)) = u at *
              generalize bI (pxl W H l (x : Int) (y : Int)) = v2 at *
              generalize pxl W H l (x : Int) (y : Int) = tt at *
              have hvu0 : 0 ≤ v + u := by omega
              have hvu1 : v + u ≤ 1 := by omega
              clear hup
              go_wp2_with fail
              refine HSETC.out.mono ?_
              rintro e9 wd ⟨rfl, hwd, hId⟩
              have HS2 : Hid (Wrote (fun k => k = ai) wA wd ∧ Img wd bi ai W H (mkl W H fun i j => decide (j * W + i < y * W + (x + 1)) && pxl W H l (i : Int) (j : Int))) := ⟨HS1.out.trans hwd, hId⟩
              clear hwd hId HS1 HSETC hlk tb
              go_wp2
              go_roundw
              case rel => exact ⟨x + 1, by omega, by go_num, by rw [HNXT.out], HS2⟩
              case measure => simp [intOf]; omega
            · have : x = W := by omega
              subst this
              have hltx' : ¬ (x : Int) < (x : Int) := by omega
              have HS2 : Hid (Wrote (fun k => k = ai) wA wc ∧ Img wc bi ai x H (mkl x H fun i j => decide (j * x + i < (y + 1) * x + 0) && pxl x H l (i : Int) (j : Int))) := by
                have e : (y + 1) * x + 0 = y * x + x := by rw [Nat.add_mul, Nat.one_mul, Nat.add_zero]
                rw [e]
                exact HS.out
              clear HS
              go_wp2
              go_roundw
              case rel => exact ⟨y + 1, by omega, by go_num, HS2⟩
              case measure => simp [intOf]; omega
        · have : y = H := by omega
          subst this
          have hlty' : ¬ (y : Int) < (y : Int) := by omega
          have HIF : Hid (Img wb bi ai W y l) := by
            have h := HS.out.2
            rw [Nat.add_zero, mkl_done hl hW1] at h
            exact h
          have HXB : Hid (W0.Ext wb) := HXA.out.wroteNew HS.out.1 fun k hk he => by have := HAB.out; omega
          have HRBB := Lib.hid (HM.out.ext HXB.out)
          clear HS HLOOKU HUP HRA HXA
          have HC1 := Lib.hid (HBO.out wb bi ai HIF.out)
          go_wp2_with fail
          refine HC1.out.mono ?_
          rintro e9 wd ⟨a9, c9, rfl, hxd, hod⟩
          have HC2 := Lib.hid (eqBordsT_any a9 a c9 c _ bs wd HLEN.out (by omega) hod.row (HRBB.out.ext hxd))
          have HXD := Lib.hid (HXB.out.trans hxd)
          have HID := Lib.hid (HIF.out.ext hxd)
          rw [HLEN.out]
          clear hxd hod HC1 HXB HIF HRBB
          go_wp2_with fail
          refine HC2.out.mono ?_
          rintro e9 we ⟨rfl, hxe⟩
          have HT4 := Lib.hid (HTD.out we bi ai l (HID.out.ext hxe))
          have HXE := Lib.hid (HXD.out.trans hxe)
          have hrl := picRows_len W y l
          have hl0 : w.heap.size < we.heap.size := (HONE.out.ext HXE.out).lt
          clear hxe HID HXD HC2
          generalize picRows W y l = P at *
          go_wp2_with fail
          refine HT4.out.mono ?_
          rintro e9 w5 ⟨a5, c5, rfl, hx5, ho5⟩
          obtain ⟨r1, r2, r3, HR⟩ := Res.store (.slice a5 P.length c5) (HX0.out.trans (HXE.out.trans hx5)) (Nat.le_refl _) (HONE.out.ext (HXE.out.trans hx5)) hl0 ho5
          clear hx5 ho5 hrl
          go_wp2
          exact bodyPost_ret (v := .tuple #[.agg #[.slice a5 P.length c5], .bool true]) (by simp [results, Try.results31, go_sem, r3]) rfl ⟨a5, c5, rfl, HR.out.1, HR.out.2⟩
end Go.Proofs.Ythgkmaccbcpaeaa
