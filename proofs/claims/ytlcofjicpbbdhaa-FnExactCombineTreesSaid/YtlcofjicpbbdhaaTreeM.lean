/- Quadtrees: the implementation's walk of reading. -/
import Derived.Test.YtlcofjicpbbdhaaTreeL
namespace Go.Proofs.Ytlcofjicpbbdhaa
open Go Go.RowKit
def SqRet (w : World) (r : Option (QT × Nat)) (n x y : Nat) (p : ByteArray) (e : Ending) (w' : World) : Prop := match r with
  | some q => ∃ v, e = .returned (.tuple #[v, .int .i64 (q.2 : Int)]) ∧ w.Ext w' ∧ w'.ownsRow w.heap.size 222 5 v (q.1.lvs n x y p).length (lfC (q.1.lvs n x y p))
  | none => e = .returned (.tuple #[.slice none 0 0, .int .i64 (-1)]) ∧ w.Ext w'
theorem SqRet.no {w w' : World} {n x y : Nat} {p : ByteArray} (hx : w.Ext w') : SqRet w none n x y p (.returned (.tuple #[.slice none 0 0, .int .i64 (-1)])) w' := ⟨rfl, hx⟩
set_option maxRecDepth 5000 in
set_option maxHeartbeats 1600000 in
theorem readLeaf_any (s : ByteArray) (hs : s.size ≤ 1048576) (n k x y : Nat) (xi yi mi : Int) (p : ByteArray) (w : World) (hk : k ≤ s.size) (hn : n ≤ 4) (hxi : xi = x) (hyi : yi = y) (hmi : mi = ((2 ^ n : Nat) : Int)) (h40 : n = 0 ∨ byt s k ≠ 40) :
    Calls Try.prog 249 #[.string s, .int .i64 k, .agg #[.int .i64 xi, .int .i64 yi, .int .i64 mi], .string p] w (SqRet w (rd s n k) n x y p) := by
  by_cases hk1 : s.size ≤ k
  · have e : rd s n k = none := by
      have hb : byt s k = 0 := by unfold byt; rw [dif_neg (by omega)]
      cases n <;> simp [rd, parse, leafF, hb]
    rw [e]
    have hk' : (s.size : Int) ≤ (k : Int) := by omega
    clear h40 e hmi hxi hyi
    go_enter Try.func249, Try.ntmps249
    go_wp2_with fail
    go_ret2
    refine SqRet.no ?_
    repeat (first | exact World.Ext.refl _ | exact ⟨_, rfl⟩ | assumption | refine World.Ext.over ?_ _ | refine World.Ext.drewN ?_ _ | refine World.Ext.drew ?_ | refine World.Ext.alloc ?_ _ | refine World.Ext.setCell ?_ (by simp) _)
  have hk2 : k < s.size := by omega
  have hk3 : (k : Int) < (s.size : Int) := by omega
  have hk0 : (0 : Int) ≤ (k : Int) := by omega
  have hbt := byt_at hk2
  obtain ⟨c, hc⟩ : ∃ c, s[k]'hk2 = c := ⟨_, rfl⟩
  rw [hc] at hbt
  by_cases hc4 : byt s k = 35 ∨ byt s k = 46
  · obtain ⟨b, hb⟩ : ∃ b : Bool, c.toNat = if b then 35 else 46 := by
      rcases hc4 with h | h
      · exact ⟨true, by rw [if_pos rfl]; omega⟩
      · exact ⟨false, by rw [if_neg (by decide)]; omega⟩
    have e : rd s n k = some (.leaf b, k + 1) := by
      cases b
      · have h46 : byt s k = 46 := by rw [hbt, hb]; rfl
        cases n <;> simp [rd, parse, leafF, h46, QT.red]
      · have h35 : byt s k = 35 := by rw [hbt, hb]; rfl
        cases n <;> simp [rd, parse, leafF, h35, QT.red]
    rw [e]
    obtain ⟨W0, hW0⟩ : ∃ W0, W0 = w.alloc (.cells #[.int .i64 xi, .int .i64 yi, .int .i64 mi] 220) := ⟨_, rfl⟩
    have hx0 : w.Ext W0 := by rw [hW0]; repeat (first | exact World.Ext.refl _ | exact ⟨_, rfl⟩ | assumption | refine World.Ext.over ?_ _ | refine World.Ext.drewN ?_ _ | refine World.Ext.drew ?_ | refine World.Ext.alloc ?_ _ | refine World.Ext.setCell ?_ (by simp) _)
    have d0 : W0.cell? ⟨w.heap.size, 0, none⟩ = some (.int .i64 xi) := by rw [hW0]; simp [go_sem]
    have d1 : W0.cell? ⟨w.heap.size, 1, none⟩ = some (.int .i64 yi) := by rw [hW0]; simp [go_sem]
    have d2 : W0.cell? ⟨w.heap.size, 2, none⟩ = some (.int .i64 mi) := by rw [hW0]; simp [go_sem]
    have HR : Hid (∀ w', W0.Ext w' → w'.heap[W0.heap.size]? = some (.cells #[.int .i64 xi, .int .i64 yi, .int .i64 mi, .bool b, .string p] 222 (0, 0)) → SqRet w (some (.leaf b, k + 1)) n x y p (.returned (.tuple #[.slice (some ⟨W0.heap.size, 0, none⟩) 1 1, .int .i64 ((k : Int) + 1)])) w') := fun w' hx hh =>
      ⟨_, rfl, hx0.trans hx, rfl, .inr ⟨W0.heap.size, 1, _, rfl, hx0.size, hh, Nat.le_refl _, by decide, rfl, by
        simp [lfC, lfV, QT.lvs, hxi, hyi, hmi]⟩⟩
    have hw1 : IntKind.i64.wrap ((k : Int) + 1) = (k : Int) + 1 := IntWalk.i64_in _ (by omega)
    clear h40 e hmi hxi hyi hbt hc4 hx0
    cases b
    · have hcn : c.toNat = 46 := by rw [hb]; rfl
      clear hb
      go_enter Try.func249, Try.ntmps249
      go_wp2_with fail
      rw [← hW0]
      clear hW0
      go_region_held3 (fun w' => w'.cell? ⟨w.heap.size, 0, none⟩ = some (.int .i64 xi) ∧ w'.cell? ⟨w.heap.size, 1, none⟩ = some (.int .i64 yi) ∧ w'.cell? ⟨w.heap.size, 2, none⟩ = some (.int .i64 mi))
        (refine ⟨World.Ext.cell ?_ d0, World.Ext.cell ?_ d1, World.Ext.cell ?_ d2⟩ <;> ((repeat (first | exact World.Ext.refl _ | exact ⟨_, rfl⟩ | assumption | refine World.Ext.over ?_ _ | refine World.Ext.drewN ?_ _ | refine World.Ext.drew ?_ | refine World.Ext.alloc ?_ _ | refine World.Ext.setCell ?_ ?_ _ | (simp; done))); done))
        (fail)
      clear d0 d1 d2
      go_wp2_with fail
      go_ret2
      refine HR.out _ ?_ ?_
      · (repeat (first | exact World.Ext.refl _ | exact ⟨_, rfl⟩ | assumption | refine World.Ext.over ?_ _ | refine World.Ext.drewN ?_ _ | refine World.Ext.drew ?_ | refine World.Ext.alloc ?_ _ | refine World.Ext.setCell ?_ ?_ _ | (simp; done)))
      · show (W0.heap.push _)[W0.heap.size]? = _
        simp
    · have hcn : c.toNat = 35 := by rw [hb]; rfl
      clear hb
      go_enter Try.func249, Try.ntmps249
      go_wp2_with fail
      rw [← hW0]
      clear hW0
      go_region_held3 (fun w' => w'.cell? ⟨w.heap.size, 0, none⟩ = some (.int .i64 xi) ∧ w'.cell? ⟨w.heap.size, 1, none⟩ = some (.int .i64 yi) ∧ w'.cell? ⟨w.heap.size, 2, none⟩ = some (.int .i64 mi))
        (refine ⟨World.Ext.cell ?_ d0, World.Ext.cell ?_ d1, World.Ext.cell ?_ d2⟩ <;> ((repeat (first | exact World.Ext.refl _ | exact ⟨_, rfl⟩ | assumption | refine World.Ext.over ?_ _ | refine World.Ext.drewN ?_ _ | refine World.Ext.drew ?_ | refine World.Ext.alloc ?_ _ | refine World.Ext.setCell ?_ ?_ _ | (simp; done))); done))
        (fail)
      clear d0 d1 d2
      go_wp2_with fail
      go_ret2
      refine HR.out _ ?_ ?_
      · (repeat (first | exact World.Ext.refl _ | exact ⟨_, rfl⟩ | assumption | refine World.Ext.over ?_ _ | refine World.Ext.drewN ?_ _ | refine World.Ext.drew ?_ | refine World.Ext.alloc ?_ _ | refine World.Ext.setCell ?_ ?_ _ | (simp; done)))
      · show (W0.heap.push _)[W0.heap.size]? = _
        simp
  · have e : rd s n k = none := by
      have h1 : byt s k ≠ 35 := fun h => hc4 (.inl h)
      have h2 : byt s k ≠ 46 := fun h => hc4 (.inr h)
      rcases h40 with rfl | h
      · simp [rd, parse, leafF, h1, h2]
      · cases n <;> simp [rd, parse, leafF, h1, h2, h]
    rw [e]
    have hcn1 : ((c.toNat : Int) == 35) = false := by rw [beq_eq_false_iff_ne]; omega
    have hcn2 : ((c.toNat : Int) == 46) = false := by rw [beq_eq_false_iff_ne]; omega
    have hm : mi = 1 ∨ ¬ (c.toNat : Int) = 40 := by
      rcases h40 with rfl | h
      · exact .inl hmi
      · exact .inr (by omega)
    clear h40 e hmi hxi hyi hbt hc4
    by_cases h4 : (c.toNat : Int) = 40
    · have hm1 := hm.resolve_right fun h => h h4
      subst hm1
      have h5 : ((c.toNat : Int) != 40) = false := by rw [bne_eq_false_iff_eq]; exact h4
      clear hm h4
      go_enter Try.func249, Try.ntmps249
      go_wp2_with fail
      go_ret2
      refine SqRet.no ?_
      repeat (first | exact World.Ext.refl _ | exact ⟨_, rfl⟩ | assumption | refine World.Ext.over ?_ _ | refine World.Ext.drewN ?_ _ | refine World.Ext.drew ?_ | refine World.Ext.alloc ?_ _ | refine World.Ext.setCell ?_ (by simp) _)
    · have h5 : ((c.toNat : Int) != 40) = true := by rw [bne_iff_ne]; exact h4
      clear hm h4
      go_enter Try.func249, Try.ntmps249
      go_wp2_with fail
      go_ret2
      refine SqRet.no ?_
      repeat (first | exact World.Ext.refl _ | exact ⟨_, rfl⟩ | assumption | refine World.Ext.over ?_ _ | refine World.Ext.drewN ?_ _ | refine World.Ext.drew ?_ | refine World.Ext.alloc ?_ _ | refine World.Ext.setCell ?_ (by simp) _)
theorem alloc2_at (w : World) (o1 o2 : Obj) : ((w.alloc o1).alloc o2).heap[w.heap.size + 1]? = some o2 := by
  rw [show w.heap.size + 1 = (w.alloc o1).heap.size by simp]
  exact heap_alloc_new _ _
set_option maxHeartbeats 800000 in
theorem quarters2_any (x y h : Nat) (xi yi mi : Int) (hxi : xi = x) (hyi : yi = y) (hmi : mi = 2 * (h : Int)) (hx : x ≤ 100) (hy : y ≤ 100) (hh : h ≤ 100) (w : World) :
    Calls Try.prog 250 #[.agg #[.int .i64 xi, .int .i64 yi, .int .i64 mi]] w fun e w' => ∃ g, e = .returned (.slice (some ⟨g, 0, none⟩) 4 4) ∧ w.Ext w' ∧ w.heap.size ≤ g ∧ QrAt w' g x y h ∧ ∃ cs fr, w'.heap[g]? = some (.cells cs 220 fr) := by
  have hdiv : mi / 2 = (h : Int) := by omega
  have hm0 : 0 ≤ mi := by omega
  have hm1 : mi ≤ 200 := by omega
  have hx0 : 0 ≤ xi := by omega
  have hx1 : xi ≤ 100 := by omega
  have hy0 : 0 ≤ yi := by omega
  have hy1 : yi ≤ 100 := by omega
  have HXI := Lib.hid hxi
  have HYI := Lib.hid hyi
  have HDIV := Lib.hid hdiv
  clear hxi hyi hmi hdiv
  go_enter Try.func250, Try.ntmps250
  go_wp2
  go_ret
  refine ⟨_, rfl, by repeat (first | exact World.Ext.refl _ | exact ⟨_, rfl⟩ | assumption | refine World.Ext.over ?_ _ | refine World.Ext.drewN ?_ _ | refine World.Ext.drew ?_ | refine World.Ext.alloc ?_ _ | refine World.Ext.setCell ?_ (by simp) _), by simp, ?_, ⟨_, _, alloc2_at _ _ _⟩⟩
  rw [HDIV.out, HXI.out, HYI.out]
  intro k hk
  match k, hk with
  | 0, _ => simp [go_sem, qX, qY]
  | 1, _ => simp [go_sem, qX, qY]
  | 2, _ => simp [go_sem, qX, qY]
  | 3, _ => simp [go_sem, qX, qY]
theorem Try.infoLeafM : (Try.prog.info? 222).map (fun i => (i.zero, i.size, i.bytes)) = some (some (.agg #[.int .i64 0, .int .i64 0, .int .i64 0, .bool false, .string ByteArray.empty]), 5, 48) := by kernel_rfl
theorem lfC_one (ls : List Lf) : ∀ u ∈ lfC ls, u.oneCell' = true := by
  intro u hu
  unfold lfC at hu
  obtain ⟨f, -, hf⟩ := List.mem_flatMap.1 hu
  simp only [lfV, List.mem_cons, List.not_mem_nil, or_false] at hf
  rcases hf with rfl | rfl | rfl | rfl | rfl <;> rfl
/-- The list of leaves under way. -/
structure SqSt (w : World) (gq x y h : Nat) (v : Value) (ls : List Lf) (wr : World) : Prop where
  wx : w.Ext wr
  q : QrAt wr gq x y h
  tag : ∃ cs fr, wr.heap[gq]? = some (.cells cs 220 fr)
  own : wr.ownsRow w.heap.size 222 5 v ls.length (lfC ls)
theorem SqSt.ext {w : World} {gq x y h : Nat} {v : Value} {ls : List Lf} {wr w' : World} (hS : SqSt w gq x y h v ls wr) (hx : wr.Ext w') : SqSt w gq x y h v ls w' := by
  obtain ⟨cs, fr, ht⟩ := hS.tag
  exact ⟨hS.wx.trans hx, hS.q.ext hx, ⟨cs, fr, by rw [hx.block (Array.getElem?_eq_some_iff.1 ht).1, ht]⟩, World.ownsRow.ext hS.own hx⟩
theorem SqSt.push {w : World} {gq x y h : Nat} {v v' : Value} {ls ls2 : List Lf} {wr w' : World} (hS : SqSt w gq x y h v ls wr) (hown : w'.ownsRow w.heap.size 222 5 v' (ls.length + ls2.length) (lfC ls ++ lfC ls2)) (hgrow : wr.grownBy w' v.ownBlock) : SqSt w gq x y h v' (ls ++ ls2) w' := by
  obtain ⟨cs, fr, ht⟩ := hS.tag
  have hlt : gq < wr.heap.size := (Array.getElem?_eq_some_iff.1 ht).1
  have hne := World.ownsRow.ne hS.own ht (by decide)
  have hb := hgrow.block gq hlt hne
  refine ⟨hS.wx.grown hgrow fun k hk => ((World.ownsRow.lt hS.own) k hk).1, fun k hk => ?_, ⟨cs, fr, by rw [hb, ht]⟩, by rw [List.length_append, lfC_app]; exact hown⟩
  obtain ⟨h1, h2, h3⟩ := hS.q k hk
  exact ⟨by rw [World.cell?_of_block (a := ⟨gq, k * 3, none⟩) hb]; exact h1, by rw [World.cell?_of_block (a := ⟨gq, k * 3 + 1, none⟩) hb]; exact h2, by rw [World.cell?_of_block (a := ⟨gq, k * 3 + 2, none⟩) hb]; exact h3⟩
theorem ext_list (s : ByteArray) (k a : Nat) : (s.extract k a).toList = cut s k a := by
  rw [ByteArray.toList_eq]
  unfold cut
  rw [ByteArray.data_extract]
  simp
theorem Cq_3 {n : Nat} (h : n ≤ 3) : Cq n ≤ 64 := by
  match n, h with
  | 0, _ => decide
  | 1, _ => decide
  | 2, _ => decide
  | 3, _ => decide
theorem encU0 : Utf8.encode 48 = txB [UInt8.ofNat (48 + 0)] := by rfl
theorem encU1 : Utf8.encode 49 = txB [UInt8.ofNat (48 + 1)] := by rfl
theorem encU2 : Utf8.encode 50 = txB [UInt8.ofNat (48 + 2)] := by rfl
theorem encU3 : Utf8.encode 51 = txB [UInt8.ofNat (48 + 3)] := by rfl
set_option maxRecDepth 5000 in
set_option maxHeartbeats 3200000 in
theorem readSquare_any (s : ByteArray) (hs : s.size ≤ 1048576) : ∀ (n k x y : Nat) (xi yi mi : Int) (p : ByteArray) (w : World), n ≤ 4 → k ≤ s.size → xi = x → yi = y → mi = ((2 ^ n : Nat) : Int) → x + 2 ^ n ≤ 16 → y + 2 ^ n ≤ 16 → p.size + n ≤ 4 →
    Calls Try.prog 249 #[.string s, .int .i64 k, .agg #[.int .i64 xi, .int .i64 yi, .int .i64 mi], .string p] w (SqRet w (rd s n k) n x y p) := by
  intro n
  induction n with
  | zero =>
    intro k x y xi yi mi p w hn hk hxi hyi hmi _ _ _
    exact readLeaf_any s hs 0 k x y xi yi mi p w hk hn hxi hyi hmi (.inl rfl)
  | succ n ih =>
    intro k x y xi yi mi p w hn hk hxi hyi hmi hx hy hps
    by_cases hb : byt s k = 40
    case neg => exact readLeaf_any s hs (n + 1) k x y xi yi mi p w hk hn hxi hyi hmi (.inr hb)
    have hk2 : k < s.size := by
      by_cases hk : k < s.size
      · exact hk
      · unfold byt at hb; rw [dif_neg hk] at hb; cases hb
    have hbt := byt_at hk2
    obtain ⟨c, hc⟩ : ∃ c, s[k]'hk2 = c := ⟨_, rfl⟩
    rw [hc] at hbt
    have hcn : c.toNat = 40 := by omega
    obtain ⟨h, hh⟩ : ∃ h : Nat, h = 2 ^ n := ⟨_, rfl⟩
    have e2 : (2 : Nat) ^ (n + 1) = 2 * h := by rw [Nat.pow_succ, hh]; omega
    have hpos : 0 < h := by rw [hh]; exact Nat.two_pow_pos n
    rw [e2] at hmi hx hy
    have IH : Hid (∀ j, j < 4 → ∀ (a : Nat) (q : ByteArray) (w' : World), a ≤ s.size → q.size = p.size + 1 → Calls Try.prog 249 #[.string s, .int .i64 a, .agg #[.int .i64 ((qX x h j : Nat) : Int), .int .i64 ((qY y h j : Nat) : Int), .int .i64 (h : Int)], .string q] w' (SqRet w' (rd s n a) n (qX x h j) (qY y h j) q)) := fun j hj a q w' ha hq => by
      have h1 : (j % 2) * h ≤ 1 * h := Nat.mul_le_mul_right _ (by omega)
      have h2 : (j / 2) * h ≤ 1 * h := Nat.mul_le_mul_right _ (by omega)
      exact ih a (qX x h j) (qY y h j) _ _ h q w' (by omega) ha rfl rfl (by rw [hh]) (by rw [← hh]; unfold qX; omega) (by rw [← hh]; unfold qY; omega) (by omega)
    have HQ : Hid (∀ w', Calls Try.prog 250 #[.agg #[.int .i64 xi, .int .i64 yi, .int .i64 mi]] w' fun e w'' => ∃ g, e = .returned (.slice (some ⟨g, 0, none⟩) 4 4) ∧ w'.Ext w'' ∧ w'.heap.size ≤ g ∧ QrAt w'' g x y h ∧ ∃ cs fr, w''.heap[g]? = some (.cells cs 220 fr)) := fun w' => quarters2_any x y h xi yi mi hxi hyi (by omega) (by omega) (by omega) (by omega) w'
    have hne : (mi == 1) = false := by rw [beq_eq_false_iff_ne]; omega
    have HB := Lib.hid hb
    have HH := Lib.hid hh
    have hk3 : (k : Int) < (s.size : Int) := by omega
    have hk0 : (0 : Int) ≤ (k : Int) := by omega
    obtain ⟨W0, hW0⟩ : ∃ W0, W0 = (w.alloc (.cells #[.int .i64 xi, .int .i64 yi, .int .i64 mi] 220)).alloc (.cells #[] 222) := ⟨_, rfl⟩
    have hx0 : w.Ext W0 := by rw [hW0]; repeat (first | exact World.Ext.refl _ | exact ⟨_, rfl⟩ | assumption | refine World.Ext.over ?_ _ | refine World.Ext.drewN ?_ _ | refine World.Ext.drew ?_ | refine World.Ext.alloc ?_ _ | refine World.Ext.setCell ?_ (by simp) _)
    have hown0 : W0.ownsRow w.heap.size 222 5 (.slice (some ⟨w.heap.size + 1, 0, none⟩) 0 0) 0 [] := by
      have h := World.ownsRow_made (base := w.heap.size) (e := 222) (size := 5) (w.alloc (.cells #[.int .i64 xi, .int .i64 yi, .int .i64 mi] 220)) #[] 0 (by simp) (Nat.zero_le _) rfl
      rw [hW0]
      simpa using h
    have HX0 := Lib.hid hx0
    have HOWN0 := Lib.hid hown0
    obtain ⟨R, hR⟩ : ∃ R, R = rd s (n + 1) k := ⟨_, rfl⟩
    rw [← hR]
    have HR := Lib.hid hR
    have hn3 : n ≤ 3 := by omega
    obtain ⟨i0, hi, hz0, hz1, hz2⟩ := info_parts Try.infoLeafM
    clear hR ih hbt hb hmi hxi hyi e2 hh hx0 hown0
    go_enter Try.func249, Try.ntmps249
    go_wp2_with fail
    rw [← hW0]
    refine (HQ.out _).mono ?_
    rintro e w1 ⟨gq, rfl, hx1, -, hqr, htag⟩
    have HS0 : Hid (SqSt w gq x y h (.slice (some ⟨w.heap.size + 1, 0, none⟩) 0 0) (lvC n x y p []) w1) := ⟨HX0.out.trans hx1, hqr, htag, World.ownsRow.ext HOWN0.out hx1⟩
    clear hx1 hqr htag HQ HOWN0 HX0 hW0
    go_wp2_with fail
    go_loopw [1, 10, 57] (fun v1 v10 v wr => ∃ (j a : Nat) (Ts : List QT), j ≤ 4 ∧ v = .int .i64 j ∧ v1 = .int .i64 a ∧ a ≤ s.size ∧ Hid (Ts.length = j) ∧ Hid (chn s n k j = some (Ts, a)) ∧ Hid ((lvC n x y p Ts).length ≤ j * 64) ∧ Hid (SqSt w gq x y h v10 (lvC n x y p Ts) wr)) (fun _ _ v _ => 4 - (intOf v).toNat)
    case atStart => exact ⟨0, k + 1, [], by omega, rfl, by go_num, by omega, rfl, rfl, Nat.zero_le _, HS0⟩
    case round =>
      obtain ⟨j, a, Ts, hj, rfl, rfl, ha, HTL, HCH, HLL, HS⟩ := hrel
      clear HS0
      obtain ⟨w2, rfl⟩ : ∃ w2 : World, w2 = wr := ⟨_, rfl⟩
      by_cases hlt : j < 4
      · have hlt' : (j : Int) < 4 := by omega
        have hj0 : (0 : Int) ≤ (j : Int) := by omega
        obtain ⟨q0, q1, q2⟩ := HS.out.q j hlt
        have HI := Lib.hid (IH.out j hlt)
        have HNO : Hid (rd s n a = none → R = none) := fun hr => by
          rw [HR.out]
          refine rd_none_of HB.out fun a1 b1 c1 d1 e1 h1 => ?_
          have h2 := chn_stop HCH.out hr (3 - j)
          rw [show j + 1 + (3 - j) = 4 by omega, h1] at h2
          cases h2
        have HNX : Hid (∀ (T : QT) (a' : Nat), rd s n a = some (T, a') → a' ≤ s.size ∧ 1 ≤ (T.lvs n (qX x h j) (qY y h j) (pth p j)).length ∧ (T.lvs n (qX x h j) (qY y h j) (pth p j)).length ≤ 64 ∧ Hid ((Ts ++ [T]).length = j + 1) ∧ Hid (chn s n k (j + 1) = some (Ts ++ [T], a')) ∧
            Hid (lvC n x y p (Ts ++ [T]) = lvC n x y p Ts ++ T.lvs n (qX x h j) (qY y h j) (pth p j))) := fun T a' hr => by
          obtain ⟨f1, -, f3, -⟩ := parse_ok s n a T a' (rd_some hr).1
          obtain ⟨l1, l2⟩ := lvs_len T n (qX x h j) (qY y h j) (pth p j) f1
          refine ⟨f3, l1, Nat.le_trans l2 (Cq_3 hn3), by show _ = _; rw [List.length_append, HTL.out]; rfl, chn_next HCH.out hr, ?_⟩
          show _ = _
          rw [lvC_next, HTL.out, ← HH.out]
        have hjj : j = 0 ∨ j = 1 ∨ j = 2 ∨ j = 3 := by omega
        generalize qX x h j = X at *
        generalize qY y h j = Y at *
        rcases hjj with rfl | rfl | rfl | rfl
        · have hu : (Utf8.encode 48).size = 1 := by rw [encU0]; rfl
          have hp4 : p.size ≤ 4 := by omega
          have HE := Lib.hid (show p ++ Utf8.encode 48 = pth p 0 by rw [encU0]; rfl)
          go_wp2_with fail
          rw [HE.out]
          refine (HI.out a (pth p 0) _ ha (by unfold pth; rw [ByteArray.size_append, txB_size]; rfl)).mono ?_
          intro e w3 hret
          cases hr : rd s n a with
          | none =>
            rw [hr] at hret
            obtain ⟨rfl, hx3⟩ := hret
            have hRn := HNO.out hr
            subst hRn
            have HX3 : Hid (w.Ext w3) := (HS.out.wx.alloc _).trans hx3
            clear hx3 hr HNO HNX
            go_wp2_with fail
            go_ret2
            exact SqRet.no HX3.out
          | some q =>
            obtain ⟨T, a'⟩ := q
            rw [hr] at hret
            obtain ⟨v3, rfl, hx3, hown3⟩ := hret
            obtain ⟨ha', hl1, hl2, HTL', HCH', HLV⟩ := HNX.out T a' hr
            have HS3 := Lib.hid (HS.out.ext (((World.Ext.refl w2).alloc _).trans hx3))
            clear hr HNO HNX HI HCH HTL hx3
            generalize T.lvs n X Y (pth p 0) = ls2 at *
            have HNEWS : Hid (∀ (i : Nat) (u : Value), (lfC ls2)[i]? = some u → ∀ g3 cap3, v3 = .slice (some ⟨g3, 0, none⟩) ls2.length cap3 → w3.cell? ((⟨g3, 0, none⟩ : Addr).add i) = some u) := fun i u hu g3 cap3 hv => by
              subst hv
              have hlt : i < ls2.length * 5 := by rw [← lfC_len]; exact (List.getElem?_eq_some_iff.1 hu).1
              obtain ⟨b5, o5, h5, -, -, h6, -⟩ := World.ownsRow.own hown3 hlt
              cases h5
              rw [Addr.add_mk, h6, hu]
            obtain ⟨g3, cap3, rfl⟩ : ∃ g3 cap3, v3 = .slice (some ⟨g3, 0, none⟩) ls2.length cap3 := by
              rcases hown3.2 with ⟨-, h0⟩ | ⟨g3, cap3, cur, h3, -⟩
              · omega
              · exact ⟨g3, cap3, h3⟩
            have HNW : Hid (∀ (i : Nat) (u : Value), (lfC ls2)[i]? = some u → w3.cell? ((⟨g3, 0, none⟩ : Addr).add i) = some u) := fun i u hu => HNEWS.out i u hu g3 cap3 rfl
            have HLQ := Lib.hid (lfC_len ls2)
            have HONE := Lib.hid (lfC_one ls2)
            have hll := HLL.out
            have HB1 : Hid ((lvC n x y p Ts).length + ls2.length ≤ maxLen) := by show _ ≤ _; unfold maxLen; omega
            have HB2 : Hid (((lvC n x y p Ts).length + ls2.length) * 48 ≤ 140737488355328) := by show _ ≤ _; omega
            have HLE := Lib.hid (HS3.out.wx.size)
            have hown := HS3.out.own
            have HLL' : Hid ((lvC n x y p (Ts ++ [T])).length ≤ (0 + 1) * 64) := by show _ ≤ _; rw [HLV.out, List.length_append]; omega
            have HNEXT : Hid (∀ v' w', w'.ownsRow w.heap.size 222 5 v' ((lvC n x y p Ts).length + ls2.length) (lfC (lvC n x y p Ts) ++ lfC ls2) → w3.grownBy w' u10.ownBlock → Hid (SqSt w gq x y h v' (lvC n x y p (Ts ++ [T])) w')) := fun v' w' h1 h2 => by
              show SqSt _ _ _ _ _ _ _ _
              rw [HLV.out]
              exact HS3.out.push h1 h2
            clear hown3 HNEWS HS HS3 hll HLL HLV
            generalize lvC n x y p Ts = ls1 at *
            go_wp2_with (at_builtin; refine wpList_append_own _ rfl _ _ 216 rfl w.heap.size 222 i0 (.agg #[.int .i64 0, .int .i64 0, .int .i64 0, .bool false, .string ByteArray.empty]) 5 48 Try.underlying216 hi hz0 hz1 hz2 rfl (by decide) _ _ _ rfl hown ⟨g3, 0, none⟩ ls2.length _ (lfC ls2) rfl HLQ.out HNW.out HONE.out HB1.out HB2.out HLE.out (fun v' w1 hown' hgrow _ => ?_); have HS4 := HNEXT.out _ _ hown' hgrow; clear hown' hgrow hown)
            go_roundw
            case rel => exact ⟨0 + 1, a', Ts ++ [T], by omega, by go_num, rfl, ha', HTL', HCH', HLL', HS4⟩
            case measure => simp [intOf]
        · have hu : (Utf8.encode 49).size = 1 := by rw [encU1]; rfl
          have hp4 : p.size ≤ 4 := by omega
          have HE := Lib.hid (show p ++ Utf8.encode 49 = pth p 1 by rw [encU1]; rfl)
          go_wp2_with fail
          rw [HE.out]
          refine (HI.out a (pth p 1) _ ha (by unfold pth; rw [ByteArray.size_append, txB_size]; rfl)).mono ?_
          intro e w3 hret
          cases hr : rd s n a with
          | none =>
            rw [hr] at hret
            obtain ⟨rfl, hx3⟩ := hret
            have hRn := HNO.out hr
            subst hRn
            have HX3 : Hid (w.Ext w3) := (HS.out.wx.alloc _).trans hx3
            clear hx3 hr HNO HNX
            go_wp2_with fail
            go_ret2
            exact SqRet.no HX3.out
          | some q =>
            obtain ⟨T, a'⟩ := q
            rw [hr] at hret
            obtain ⟨v3, rfl, hx3, hown3⟩ := hret
            obtain ⟨ha', hl1, hl2, HTL', HCH', HLV⟩ := HNX.out T a' hr
            have HS3 := Lib.hid (HS.out.ext (((World.Ext.refl w2).alloc _).trans hx3))
            clear hr HNO HNX HI HCH HTL hx3
            generalize T.lvs n X Y (pth p 1) = ls2 at *
            have HNEWS : Hid (∀ (i : Nat) (u : Value), (lfC ls2)[i]? = some u → ∀ g3 cap3, v3 = .slice (some ⟨g3, 0, none⟩) ls2.length cap3 → w3.cell? ((⟨g3, 0, none⟩ : Addr).add i) = some u) := fun i u hu g3 cap3 hv => by
              subst hv
              have hlt : i < ls2.length * 5 := by rw [← lfC_len]; exact (List.getElem?_eq_some_iff.1 hu).1
              obtain ⟨b5, o5, h5, -, -, h6, -⟩ := World.ownsRow.own hown3 hlt
              cases h5
              rw [Addr.add_mk, h6, hu]
            obtain ⟨g3, cap3, rfl⟩ : ∃ g3 cap3, v3 = .slice (some ⟨g3, 0, none⟩) ls2.length cap3 := by
              rcases hown3.2 with ⟨-, h0⟩ | ⟨g3, cap3, cur, h3, -⟩
              · omega
              · exact ⟨g3, cap3, h3⟩
            have HNW : Hid (∀ (i : Nat) (u : Value), (lfC ls2)[i]? = some u → w3.cell? ((⟨g3, 0, none⟩ : Addr).add i) = some u) := fun i u hu => HNEWS.out i u hu g3 cap3 rfl
            have HLQ := Lib.hid (lfC_len ls2)
            have HONE := Lib.hid (lfC_one ls2)
            have hll := HLL.out
            have HB1 : Hid ((lvC n x y p Ts).length + ls2.length ≤ maxLen) := by show _ ≤ _; unfold maxLen; omega
            have HB2 : Hid (((lvC n x y p Ts).length + ls2.length) * 48 ≤ 140737488355328) := by show _ ≤ _; omega
            have HLE := Lib.hid (HS3.out.wx.size)
            have hown := HS3.out.own
            have HLL' : Hid ((lvC n x y p (Ts ++ [T])).length ≤ (1 + 1) * 64) := by show _ ≤ _; rw [HLV.out, List.length_append]; omega
            have HNEXT : Hid (∀ v' w', w'.ownsRow w.heap.size 222 5 v' ((lvC n x y p Ts).length + ls2.length) (lfC (lvC n x y p Ts) ++ lfC ls2) → w3.grownBy w' u10.ownBlock → Hid (SqSt w gq x y h v' (lvC n x y p (Ts ++ [T])) w')) := fun v' w' h1 h2 => by
              show SqSt _ _ _ _ _ _ _ _
              rw [HLV.out]
              exact HS3.out.push h1 h2
            clear hown3 HNEWS HS HS3 hll HLL HLV
            generalize lvC n x y p Ts = ls1 at *
            go_wp2_with (at_builtin; refine wpList_append_own _ rfl _ _ 216 rfl w.heap.size 222 i0 (.agg #[.int .i64 0, .int .i64 0, .int .i64 0, .bool false, .string ByteArray.empty]) 5 48 Try.underlying216 hi hz0 hz1 hz2 rfl (by decide) _ _ _ rfl hown ⟨g3, 0, none⟩ ls2.length _ (lfC ls2) rfl HLQ.out HNW.out HONE.out HB1.out HB2.out HLE.out (fun v' w1 hown' hgrow _ => ?_); have HS4 := HNEXT.out _ _ hown' hgrow; clear hown' hgrow hown)
            go_roundw
            case rel => exact ⟨1 + 1, a', Ts ++ [T], by omega, by go_num, rfl, ha', HTL', HCH', HLL', HS4⟩
            case measure => simp [intOf]
        · have hu : (Utf8.encode 50).size = 1 := by rw [encU2]; rfl
          have hp4 : p.size ≤ 4 := by omega
          have HE := Lib.hid (show p ++ Utf8.encode 50 = pth p 2 by rw [encU2]; rfl)
          go_wp2_with fail
          rw [HE.out]
          refine (HI.out a (pth p 2) _ ha (by unfold pth; rw [ByteArray.size_append, txB_size]; rfl)).mono ?_
          intro e w3 hret
          cases hr : rd s n a with
          | none =>
            rw [hr] at hret
            obtain ⟨rfl, hx3⟩ := hret
            have hRn := HNO.out hr
            subst hRn
            have HX3 : Hid (w.Ext w3) := (HS.out.wx.alloc _).trans hx3
            clear hx3 hr HNO HNX
            go_wp2_with fail
            go_ret2
            exact SqRet.no HX3.out
          | some q =>
            obtain ⟨T, a'⟩ := q
            rw [hr] at hret
            obtain ⟨v3, rfl, hx3, hown3⟩ := hret
            obtain ⟨ha', hl1, hl2, HTL', HCH', HLV⟩ := HNX.out T a' hr
            have HS3 := Lib.hid (HS.out.ext (((World.Ext.refl w2).alloc _).trans hx3))
            clear hr HNO HNX HI HCH HTL hx3
            generalize T.lvs n X Y (pth p 2) = ls2 at *
            have HNEWS : Hid (∀ (i : Nat) (u : Value), (lfC ls2)[i]? = some u → ∀ g3 cap3, v3 = .slice (some ⟨g3, 0, none⟩) ls2.length cap3 → w3.cell? ((⟨g3, 0, none⟩ : Addr).add i) = some u) := fun i u hu g3 cap3 hv => by
              subst hv
              have hlt : i < ls2.length * 5 := by rw [← lfC_len]; exact (List.getElem?_eq_some_iff.1 hu).1
              obtain ⟨b5, o5, h5, -, -, h6, -⟩ := World.ownsRow.own hown3 hlt
              cases h5
              rw [Addr.add_mk, h6, hu]
            obtain ⟨g3, cap3, rfl⟩ : ∃ g3 cap3, v3 = .slice (some ⟨g3, 0, none⟩) ls2.length cap3 := by
              rcases hown3.2 with ⟨-, h0⟩ | ⟨g3, cap3, cur, h3, -⟩
              · omega
              · exact ⟨g3, cap3, h3⟩
            have HNW : Hid (∀ (i : Nat) (u : Value), (lfC ls2)[i]? = some u → w3.cell? ((⟨g3, 0, none⟩ : Addr).add i) = some u) := fun i u hu => HNEWS.out i u hu g3 cap3 rfl
            have HLQ := Lib.hid (lfC_len ls2)
            have HONE := Lib.hid (lfC_one ls2)
            have hll := HLL.out
            have HB1 : Hid ((lvC n x y p Ts).length + ls2.length ≤ maxLen) := by show _ ≤ _; unfold maxLen; omega
            have HB2 : Hid (((lvC n x y p Ts).length + ls2.length) * 48 ≤ 140737488355328) := by show _ ≤ _; omega
            have HLE := Lib.hid (HS3.out.wx.size)
            have hown := HS3.out.own
            have HLL' : Hid ((lvC n x y p (Ts ++ [T])).length ≤ (2 + 1) * 64) := by show _ ≤ _; rw [HLV.out, List.length_append]; omega
            have HNEXT : Hid (∀ v' w', w'.ownsRow w.heap.size 222 5 v' ((lvC n x y p Ts).length + ls2.length) (lfC (lvC n x y p Ts) ++ lfC ls2) → w3.grownBy w' u10.ownBlock → Hid (SqSt w gq x y h v' (lvC n x y p (Ts ++ [T])) w')) := fun v' w' h1 h2 => by
              show SqSt _ _ _ _ _ _ _ _
              rw [HLV.out]
              exact HS3.out.push h1 h2
            clear hown3 HNEWS HS HS3 hll HLL HLV
            generalize lvC n x y p Ts = ls1 at *
            go_wp2_with (at_builtin; refine wpList_append_own _ rfl _ _ 216 rfl w.heap.size 222 i0 (.agg #[.int .i64 0, .int .i64 0, .int .i64 0, .bool false, .string ByteArray.empty]) 5 48 Try.underlying216 hi hz0 hz1 hz2 rfl (by decide) _ _ _ rfl hown ⟨g3, 0, none⟩ ls2.length _ (lfC ls2) rfl HLQ.out HNW.out HONE.out HB1.out HB2.out HLE.out (fun v' w1 hown' hgrow _ => ?_); have HS4 := HNEXT.out _ _ hown' hgrow; clear hown' hgrow hown)
            go_roundw
            case rel => exact ⟨2 + 1, a', Ts ++ [T], by omega, by go_num, rfl, ha', HTL', HCH', HLL', HS4⟩
            case measure => simp [intOf]
        · have hu : (Utf8.encode 51).size = 1 := by rw [encU3]; rfl
          have hp4 : p.size ≤ 4 := by omega
          have HE := Lib.hid (show p ++ Utf8.encode 51 = pth p 3 by rw [encU3]; rfl)
          go_wp2_with fail
          rw [HE.out]
          refine (HI.out a (pth p 3) _ ha (by unfold pth; rw [ByteArray.size_append, txB_size]; rfl)).mono ?_
          intro e w3 hret
          cases hr : rd s n a with
          | none =>
            rw [hr] at hret
            obtain ⟨rfl, hx3⟩ := hret
            have hRn := HNO.out hr
            subst hRn
            have HX3 : Hid (w.Ext w3) := (HS.out.wx.alloc _).trans hx3
            clear hx3 hr HNO HNX
            go_wp2_with fail
            go_ret2
            exact SqRet.no HX3.out
          | some q =>
            obtain ⟨T, a'⟩ := q
            rw [hr] at hret
            obtain ⟨v3, rfl, hx3, hown3⟩ := hret
            obtain ⟨ha', hl1, hl2, HTL', HCH', HLV⟩ := HNX.out T a' hr
            have HS3 := Lib.hid (HS.out.ext (((World.Ext.refl w2).alloc _).trans hx3))
            clear hr HNO HNX HI HCH HTL hx3
            generalize T.lvs n X Y (pth p 3) = ls2 at *
            have HNEWS : Hid (∀ (i : Nat) (u : Value), (lfC ls2)[i]? = some u → ∀ g3 cap3, v3 = .slice (some ⟨g3, 0, none⟩) ls2.length cap3 → w3.cell? ((⟨g3, 0, none⟩ : Addr).add i) = some u) := fun i u hu g3 cap3 hv => by
              subst hv
              have hlt : i < ls2.length * 5 := by rw [← lfC_len]; exact (List.getElem?_eq_some_iff.1 hu).1
              obtain ⟨b5, o5, h5, -, -, h6, -⟩ := World.ownsRow.own hown3 hlt
              cases h5
              rw [Addr.add_mk, h6, hu]
            obtain ⟨g3, cap3, rfl⟩ : ∃ g3 cap3, v3 = .slice (some ⟨g3, 0, none⟩) ls2.length cap3 := by
              rcases hown3.2 with ⟨-, h0⟩ | ⟨g3, cap3, cur, h3, -⟩
              · omega
              · exact ⟨g3, cap3, h3⟩
            have HNW : Hid (∀ (i : Nat) (u : Value), (lfC ls2)[i]? = some u → w3.cell? ((⟨g3, 0, none⟩ : Addr).add i) = some u) := fun i u hu => HNEWS.out i u hu g3 cap3 rfl
            have HLQ := Lib.hid (lfC_len ls2)
            have HONE := Lib.hid (lfC_one ls2)
            have hll := HLL.out
            have HB1 : Hid ((lvC n x y p Ts).length + ls2.length ≤ maxLen) := by show _ ≤ _; unfold maxLen; omega
            have HB2 : Hid (((lvC n x y p Ts).length + ls2.length) * 48 ≤ 140737488355328) := by show _ ≤ _; omega
            have HLE := Lib.hid (HS3.out.wx.size)
            have hown := HS3.out.own
            have HLL' : Hid ((lvC n x y p (Ts ++ [T])).length ≤ (3 + 1) * 64) := by show _ ≤ _; rw [HLV.out, List.length_append]; omega
            have HNEXT : Hid (∀ v' w', w'.ownsRow w.heap.size 222 5 v' ((lvC n x y p Ts).length + ls2.length) (lfC (lvC n x y p Ts) ++ lfC ls2) → w3.grownBy w' u10.ownBlock → Hid (SqSt w gq x y h v' (lvC n x y p (Ts ++ [T])) w')) := fun v' w' h1 h2 => by
              show SqSt _ _ _ _ _ _ _ _
              rw [HLV.out]
              exact HS3.out.push h1 h2
            clear hown3 HNEWS HS HS3 hll HLL HLV
            generalize lvC n x y p Ts = ls1 at *
            go_wp2_with (at_builtin; refine wpList_append_own _ rfl _ _ 216 rfl w.heap.size 222 i0 (.agg #[.int .i64 0, .int .i64 0, .int .i64 0, .bool false, .string ByteArray.empty]) 5 48 Try.underlying216 hi hz0 hz1 hz2 rfl (by decide) _ _ _ rfl hown ⟨g3, 0, none⟩ ls2.length _ (lfC ls2) rfl HLQ.out HNW.out HONE.out HB1.out HB2.out HLE.out (fun v' w1 hown' hgrow _ => ?_); have HS4 := HNEXT.out _ _ hown' hgrow; clear hown' hgrow hown)
            go_roundw
            case rel => exact ⟨3 + 1, a', Ts ++ [T], by omega, by go_num, rfl, ha', HTL', HCH', HLL', HS4⟩
            case measure => simp [intOf]
      · have hj4 : j = 4 := by omega
        subst hj4
        obtain ⟨A, B, C, D, a1, a2, a3, rfl, r0, r1, r2, r3⟩ := chn_four HCH.out
        obtain ⟨hc1, hc2, hc3⟩ := chn_cut HB.out HCH.out
        have HC3 := Lib.hid hc3
        by_cases hae : a = s.size
        · have hRn : R = none := by
            rw [HR.out]
            refine rd_none_of HB.out fun a1 b1 c1 d1 e1 h1 => .inl ?_
            rw [HCH.out] at h1
            cases h1
            unfold byt
            rw [dif_neg (by omega)]
            decide
          subst hRn
          have HXX := Lib.hid HS.out.wx
          have hae' : (a : Int) = (s.size : Int) := by omega
          have ha1 : ¬ (a : Int) < (s.size : Int) := by omega
          have ha2 : ¬ (s.size : Int) < (a : Int) := by omega
          clear r0 r1 r2 r3 hc3 hae
          go_wp2_with fail
          go_ret2
          exact SqRet.no HXX.out
        · have ha1 : (a : Int) < (s.size : Int) := by omega
          have ha3 : a < s.size := by omega
          have hbt4 := byt_at ha3
          obtain ⟨c4, hc4⟩ : ∃ c, s[a]'ha3 = c := ⟨_, rfl⟩
          rw [hc4] at hbt4
          have HXX := Lib.hid HS.out.wx
          have HEX := ext_list s k a
          rw [hc3] at HEX
          have f1 := four_text true A B C D
          have f2 := four_text false A B C D
          rw [← HEX] at f1 f2
          obtain ⟨b1, hb1⟩ : ∃ b, four true A B C D = b := ⟨_, rfl⟩
          obtain ⟨b2, hb2⟩ : ∃ b, four false A B C D = b := ⟨_, rfl⟩
          obtain ⟨b0, hb0⟩ : ∃ b, ((c4.toNat : Int) != 41) = b := ⟨_, rfl⟩
          rw [hb1] at f1
          rw [hb2] at f2
          have HNOT : Hid ((b0 || b1 || b2) = true → R = none) := fun hor => by
            rw [HR.out]
            refine rd_none_of HB.out fun a1 b1' c1 d1 e1 h1 => ?_
            rw [HCH.out] at h1
            cases h1
            cases hx0 : b0
            · cases hx1 : b1
              · rw [hx0, hx1] at hor
                exact .inr (.inr (by rw [hb2]; simpa using hor))
              · exact .inr (.inl (by rw [hb1, hx1]))
            · rw [hx0, bne_iff_ne] at hb0
              exact .inl (by omega)
          have HYES : Hid ((b0 || b1 || b2) = false → R = some (.node A B C D, a + 1) ∧ SqRet w (some (.node A B C D, a + 1)) (n + 1) x y p (.returned (.tuple #[u10, .int .i64 ((a : Int) + 1)])) w2) := fun hor => by
            simp only [Bool.or_eq_false_iff] at hor
            obtain ⟨⟨h0, h1⟩, h2⟩ := hor
            rw [h0, bne_eq_false_iff_eq] at hb0
            refine ⟨by rw [HR.out]; exact rd_yes HB.out HCH.out (by omega) (by rw [hb1, h1]) (by rw [hb2, h2]), u10, rfl, HXX.out, ?_⟩
            have h5 := HS.out.own
            rw [lvC_four] at h5
            exact h5
          have e35 : ([40, tokB true, tokB true, tokB true, tokB true] : List UInt8) = [40, 35, 35, 35, 35] := rfl
          have e46 : ([40, tokB false, tokB false, tokB false, tokB false] : List UInt8) = [40, 46, 46, 46, 46] := rfl
          rw [e35] at f1
          rw [e46] at f2
          clear r0 r1 r2 r3 hc3 HC3 HEX hb1 hb2 e35 e46 hbt4 HS
          cases b0 <;> cases b1 <;> cases b2
          case false.false.false =>
            obtain ⟨hR, HY⟩ := HYES.out rfl
            have HY := Lib.hid HY
            subst hR
            clear HNOT HYES
            go_wp2_with fail
            go_ret2
            exact HY.out
          all_goals
            have hRn := HNOT.out rfl
            subst hRn
            clear HNOT HYES
            go_wp2_with fail
            go_ret2
            exact SqRet.no HXX.out
end Go.Proofs.Ytlcofjicpbbdhaa
