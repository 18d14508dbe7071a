/- Borders: the program's steps in a map. -/
import Derived.Test.YtahhnjoeaodcjaaBrdM
import Derived.Test.YtahhnjoeaodcjaaMapE
import Derived.Test.YtahhnjoeaodcjaaFillF
import Derived.Test.YtahhnjoeaodcjaaRowK
namespace Go.Proofs.Ytahhnjoeaodcjaa
open Go Go.RowKit Go.MapKept Go.ChangeMaps
/-- The black pixel to the right of a step, and the pixel to its left. -/
def ownE (e : Edg) : Int × Int := if e.k = 0 then (e.x, e.y) else if e.k = 1 then (e.x - 1, e.y) else if e.k = 2 then (e.x - 1, e.y - 1) else (e.x, e.y - 1)
def oppE (e : Edg) : Int × Int := if e.k = 0 then (e.x, e.y - 1) else if e.k = 1 then (e.x, e.y) else if e.k = 2 then (e.x - 1, e.y) else (e.x - 1, e.y - 1)
def edgP (p : Int × Int) (k : Nat) : Edg := if k = 0 then ⟨p.1, p.2, 0⟩ else if k = 1 then ⟨p.1 + 1, p.2, 1⟩ else if k = 2 then ⟨p.1 + 1, p.2 + 1, 2⟩ else ⟨p.1, p.2 + 1, 3⟩
theorem edgP_iff {e : Edg} {p : Int × Int} {k : Nat} (hk : k < 4) : e = edgP p k ↔ ownE e = p ∧ e.k = k := by
  obtain ⟨x, y, j⟩ := e
  obtain ⟨a, b⟩ := p
  have h : k = 0 ∨ k = 1 ∨ k = 2 ∨ k = 3 := by omega
  rcases h with rfl | rfl | rfl | rfl <;> (unfold edgP ownE; simp; constructor <;> (intro hh; obtain ⟨h1, h2⟩ := hh; (try obtain ⟨h2, h3⟩ := h2); (try subst h3); (try subst h2); simp at *; (try omega)))
theorem canB_own {f : Int → Int → Bool} {e : Edg} : canB f e.x e.y e.k = (f (ownE e).1 (ownE e).2 && !f (oppE e).1 (oppE e).2) := by
  unfold canB canQ ownE oppE
  split
  · rfl
  · split
    · rfl
    · split <;> rfl
/-- What the map holds: of the pixels ps all four steps, of p the first j. -/
def sdM (f : Int → Int → Bool) (ps : List (Int × Int)) (p : Int × Int) (j : Nat) (e : Edg) : Option Value := if e.k < 4 ∧ (ownE e ∈ ps ∨ (ownE e = p ∧ e.k < j)) then some (.bool (!f (oppE e).1 (oppE e).2)) else none
theorem sdM_step {f : Int → Int → Bool} {ps : List (Int × Int)} {p : Int × Int} {j : Nat} (hj : j < 4) {t : Bool} (ht : f (oppE (edgP p j)).1 (oppE (edgP p j)).2 = t) (e : Edg) :
    (if e = edgP p j then some (Value.bool (!t)) else sdM f ps p j e) = sdM f ps p (j + 1) e := by
  by_cases h : e = edgP p j
  · rw [if_pos h]
    obtain ⟨h1, h2⟩ := (edgP_iff hj).1 h
    unfold sdM
    rw [if_pos ⟨by omega, Or.inr ⟨h1, by omega⟩⟩, h, ht]
  · rw [if_neg h]
    have hn : ¬ (ownE e = p ∧ e.k = j) := fun hh => h ((edgP_iff hj).2 hh)
    unfold sdM
    congr 1
    refine propext ⟨fun ⟨h1, h2⟩ => ⟨h1, h2.imp id fun h3 => ⟨h3.1, by omega⟩⟩, fun ⟨h1, h2⟩ => ⟨h1, h2.imp id fun h3 => ⟨h3.1, ?_⟩⟩⟩
    rcases Nat.lt_or_ge e.k j with h4 | h4
    · exact h4
    · exact absurd ⟨h3.1, by omega⟩ hn
theorem sdM_next {f : Int → Int → Bool} {ps : List (Int × Int)} {p q : Int × Int} (e : Edg) : sdM f ps p 4 e = sdM f (ps ++ [p]) q 0 e := by
  unfold sdM
  congr 1
  refine propext ⟨fun ⟨h1, h2⟩ => ⟨h1, Or.inl ?_⟩, fun ⟨h1, h2⟩ => ⟨h1, ?_⟩⟩
  · rcases h2 with h2 | h2
    · simp [h2]
    · simp [h2.1]
  · rcases h2 with h2 | h2
    · rcases List.mem_append.1 h2 with h3 | h3
      · exact Or.inl h3
      · exact Or.inr ⟨List.mem_singleton.1 h3, h1⟩
    · omega
theorem sdM_nil {f : Int → Int → Bool} {p : Int × Int} (e : Edg) : sdM f [] p 0 e = none := by
  unfold sdM
  rw [if_neg]
  rintro ⟨_, h | h⟩
  · cases h
  · omega
theorem sdM_same {f : Int → Int → Bool} {ps : List (Int × Int)} {p p' : Int × Int} (e : Edg) : sdM f ps p 0 e = sdM f ps p' 0 e := by
  unfold sdM
  simp
theorem sdM_mem {f : Int → Int → Bool} {ps : List (Int × Int)} {p : Int × Int} {j : Nat} {e : Edg} {v : Value} (h : sdM f ps p j e = some v) : e ∈ (ps ++ [p]).flatMap fun q => (List.range 4).map (edgP q) := by
  unfold sdM at h
  split at h
  · rename_i hh
    rw [List.mem_flatMap]
    refine ⟨ownE e, ?_, List.mem_map.2 ⟨e.k, List.mem_range.2 hh.1, ((edgP_iff hh.1).2 ⟨rfl, rfl⟩).symm⟩⟩
    rcases hh.2 with h1 | h1
    · exact List.mem_append.2 (Or.inl h1)
    · exact List.mem_append.2 (Or.inr (by rw [h1.1]; exact List.mem_singleton.2 rfl))
  · cases h
theorem flat4_len (ps : List (Int × Int)) : (ps.flatMap fun q => (List.range 4).map (edgP q)).length = 4 * ps.length := by
  induction ps with
  | nil => rfl
  | cons a l ih => rw [List.flatMap_cons, List.length_append, ih]; simp; omega
/-- A map that answers as the picture does. -/
def SdOk (f : Int → Int → Bool) (g : Edg → Option Value) : Prop := ∀ e, (g e).getD (.bool false) = .bool (decide (e.k < 4) && canB f e.x e.y e.k)
theorem sdM_ok {W H : Nat} {l : List Bool} {p : Int × Int} : SdOk (pxl W H l) (sdM (pxl W H l) (spotsTo W l (H * W)) p 0) := fun e => by
  unfold sdM
  rw [canB_own]
  by_cases h4 : e.k < 4
  · by_cases hm : ownE e ∈ spotsTo W l (H * W)
    · have hp := spotsTo_mem.1 hm
      unfold pxP at hp
      rw [if_pos ⟨h4, Or.inl hm⟩, hp]
      simp [h4]
    · have hp : pxl W H l (ownE e).1 (ownE e).2 = false := by
        cases hh : pxl W H l (ownE e).1 (ownE e).2
        · rfl
        · exact absurd (spotsTo_mem.2 hh) hm
      rw [if_neg (by rintro ⟨_, h | h⟩; exact hm h; omega), hp]
      simp
  · rw [if_neg (by rintro ⟨h, _⟩; exact h4 h)]
    simp [h4]
theorem edgMap : Try.prog.underlying 214 = some (.map 180 4) := Try.underlying214
theorem MapE.lookB {f : Int → Int → Bool} {w : World} {b : Nat} {g : Edg → Option Value} (h : MapE w Try.prog 180 b g) (hg : SdOk f g) (e : Edg) (hx : -1000 ≤ e.x ∧ e.x ≤ 1000) (hy : -1000 ≤ e.y ∧ e.y ≤ 1000) (hk : e.k ≤ 1000) :
    (Instr.lookup 214 (.map (some b)) (edgV e) false).run Try.prog w = .ok (.bool (decide (e.k < 4) && canB f e.x e.y e.k)) w := by
  have w1 := spotWf hx hy
  have w2 := spotWf (x := (e.k : Int)) (y := 0) (by omega) (by omega)
  have := h.look Try.edgKey edgMap (zeroBool w) (p := e) (edgKeyOf w1.1 w1.2 w2.1)
  rw [hg e] at this
  exact this
/-- The map under way. -/
structure SdSt (w2 : World) (b : Nat) (g : Edg → Option Value) (wr : World) : Prop where
  w : Wrote (fun k => k = b) w2 wr
  m : MapE wr Try.prog 180 b g
theorem SdSt.ext {w2 : World} {b : Nat} {g : Edg → Option Value} {wr w' : World} (h : SdSt w2 b g wr) (hx : wr.Ext w') : SdSt w2 b g w' := ⟨h.w.trans (hx.wrote _), h.m.ext hx⟩
theorem SdSt.put {w2 : World} {b : Nat} {g g' : Edg → Option Value} {wr w' : World} (h : SdSt w2 b g wr) (hm : MapE w' Try.prog 180 b g') (hg : wr.grownBy w' (some b)) : SdSt w2 b g' w' := ⟨h.w.grown hg fun _ e => Or.inl (Option.some.inj e).symm, hm⟩
/-- A map of steps is returned, in new memory. -/
def SidesRet (w : World) (f : Int → Int → Bool) (e : Ending) (w' : World) : Prop := ∃ b g, e = .returned (.map (some b)) ∧ w.Ext w' ∧ w.heap.size ≤ b ∧ SdOk f g ∧ MapE w' Try.prog 180 b g
set_option maxRecDepth 5000 in
set_option maxHeartbeats 6400000 in
theorem sides_any (b ab W H : Nat) (l : List Bool) (w : World) (hW : W ≤ 38) (hH : H ≤ 38) (hI : Img w b ab W H l) :
    Calls Try.prog 207 #[.pointer (some ⟨b, 0, none⟩)] w (SidesRet w (pxl W H l)) := by
  obtain ⟨W0, hW0⟩ : ∃ W0, W0 = w.alloc (.map #[] 0) := ⟨_, rfl⟩
  have hx0 : w.Ext W0 := by rw [hW0]; repeat (first | exact World.Ext.refl _ | exact ⟨_, rfl⟩ | assumption | refine World.Ext.over ?_ _ | refine World.Ext.drewN ?_ _ | refine World.Ext.drew ?_ | refine World.Ext.alloc ?_ _ | refine World.Ext.setCell ?_ (by simp) _)
  have HM0 : Hid (MapE W0 Try.prog 180 w.heap.size (fun _ => none)) := by rw [hW0]; exact MapE.new w _ _ _ rfl
  have hz0 : W0.heap.size = w.heap.size + 1 := by rw [hW0]; simp
  have HSP := Lib.hid (spots_any b ab W H l W0 (by omega) (by omega) (hI.ext hx0))
  have HIM := Lib.hid (hI.ext hx0)
  have hbb := hI.lt
  have hba := hI.px.lt
  have HBN : Hid (∀ q, q ∈ spotsTo W l (H * W) → ∃ x y : Nat, q = ((x : Int), (y : Int)) ∧ x < W ∧ y < H) := fun q h => pxP_nat (spotsTo_mem.1 h)
  have hpn : (spotsTo W l (H * W)).length ≤ 1600 := Nat.le_trans (spotsTo_len _ _ _) (Nat.le_trans (Nat.mul_le_mul hH hW) (by omega))
  have HOK : Hid (SdOk (pxl W H l) (sdM (pxl W H l) (spotsTo W l (H * W)) (0, 0) 0)) := sdM_ok
  have HGET : Hid (∀ w', Wrote (fun k => k = w.heap.size) W0 w' → ∀ (x y : Int) t, pxl W H l x y = t → Calls Try.prog 109 #[.pointer (some ⟨b, 0, none⟩), .int .i64 x, .int .i64 y] w' fun e w'' => e = .returned (.bool t) ∧ w'.Ext w'') := fun w' hx x y t ht =>
    get_any b ab W H l x y w' (by omega) (by omega) (HIM.out.keep (hx.block b (by omega) (by omega)) (hx.block ab (by omega) (by omega))) t ht
  have HX0 := Lib.hid hx0
  clear hI hbb hba HIM hx0
  generalize spotsTo W l (H * W) = ps at *
  generalize pxl W H l = f at *
  generalize hq : w.heap.size = q at *
  have hmm := @run_makeMap Try.prog
  go_enter Try.func207, Try.ntmps207
  go_upto_region 2 with fail
  rw [← hW0]
  clear hmm hW0
  go_wp2_with fail
  refine HSP.out.mono ?_
  rintro e w2 ⟨a2, c2, rfl, hx2, ho2⟩
  have HW2 : Hid (Wrote (fun k => k = q) W0 w2) := hx2.wrote _
  have HXW := Lib.hid (HX0.out.trans hx2)
  have HST : Hid (SdSt w2 q (sdM f (ps.take 0) (0, 0) 0) w2) := ⟨.refl _ _, MapE.congr (HM0.out.ext hx2) fun e => (sdM_nil e).symm⟩
  have HPX : Hid (∀ wr, Wrote (fun k => k = q) w2 wr → RowP wr a2 ps) := fun wr hx => (ho2.wrote hx fun k h1 h2 => by omega).row
  clear hx2 ho2 HM0 HX0 HSP hz0
  go_wp2
  go_loopw [5, 6, 7, 12] (fun _ _ _ i wr => ∃ k : Nat, k ≤ ps.length ∧ i = .int .i64 k ∧ Hid (SdSt w2 q (sdM f (ps.take k) (0, 0) 0) wr)) (fun _ _ _ i _ => ps.length - (intOf i).toNat)
  case atStart => exact ⟨0, Nat.zero_le _, rfl, HST⟩
  case round =>
    obtain ⟨k, hk, rfl, HS⟩ := hrel
    clear HST
    obtain ⟨wo, rfl⟩ : ∃ wo : World, wo = wr := ⟨_, rfl⟩
    have hk0 : (0 : Int) ≤ (k : Int) := by omega
    by_cases hlt : k < ps.length
    · have hlt' : (k : Int) < (ps.length : Int) := by omega
      obtain ⟨b1, o1, rfl, hc0, hc1⟩ := (HPX.out _ HS.out.w).at hlt
      have hmem : ps.getD k (0, 0) ∈ ps := getD_mem hlt
      obtain ⟨x, y, hs, hxW, hyH⟩ := HBN.out _ hmem
      have HTK : Hid (ps.take k ++ [((x : Int), (y : Int))] = ps.take (k + 1)) := by
        show _ = _
        rw [List.take_succ_eq_append_getElem hlt, ← hs, List.getD_eq_getElem?_getD, List.getElem?_eq_getElem hlt]
        rfl
      have HLN : Hid (((ps.take k ++ [((x : Int), (y : Int))]).flatMap fun q => (List.range 4).map (edgP q)).length < maxLen) := by
        show _ < _
        rw [flat4_len, HTK.out, List.length_take]
        unfold maxLen
        omega
      rw [hs] at hc0 hc1
      dsimp only at hc0 hc1
      clear hs hmem
      obtain ⟨w3, hw3⟩ : ∃ w3, w3 = wo.alloc (.cells #[.int .i64 x, .int .i64 y] 67) := ⟨_, rfl⟩
      have hx3 : wo.Ext w3 := by rw [hw3]; repeat (first | exact World.Ext.refl _ | exact ⟨_, rfl⟩ | assumption | refine World.Ext.over ?_ _ | refine World.Ext.drewN ?_ _ | refine World.Ext.drew ?_ | refine World.Ext.alloc ?_ _ | refine World.Ext.setCell ?_ (by simp) _)
      have d0 : w3.cell? ⟨wo.heap.size, 0, none⟩ = some (.int .i64 x) := by rw [hw3]; simp [go_sem]
      have d1 : w3.cell? ⟨wo.heap.size, 1, none⟩ = some (.int .i64 y) := by rw [hw3]; simp [go_sem]
      have l3 := World.block_lt_of_cell? _ _ d0
      have HS0 : Hid (SdSt w2 q (sdM f (ps.take k) ((x : Int), (y : Int)) 0) w3) := ⟨(HS.out.ext hx3).w, MapE.congr (HS.out.ext hx3).m fun e => sdM_same e⟩
      go_upto_region 5 with fail
      rw [← hw3]
      clear hw3 hx3 HS hc0 hc1
      have hx0' : (0 : Int) ≤ (x : Int) := by omega
      have hy0' : (0 : Int) ≤ (y : Int) := by omega
      have hxW' : (x : Int) < 38 := by omega
      have hyH' : (y : Int) < 38 := by omega
      go_region_held3 (fun w' => w'.cell? ⟨wo.heap.size, 0, none⟩ = some (.int .i64 x) ∧ w'.cell? ⟨wo.heap.size, 1, none⟩ = some (.int .i64 y))
        (first | (refine ⟨World.Ext.cell ?_ d0, World.Ext.cell ?_ d1⟩ <;> ((repeat (first | exact World.Ext.refl _ | exact ⟨_, rfl⟩ | assumption | refine World.Ext.over ?_ _ | refine World.Ext.drewN ?_ _ | refine World.Ext.drew ?_ | refine World.Ext.alloc ?_ _ | refine World.Ext.setCell ?_ ?_ _ | (simp; done))); done)))
        (fail)
      have HS0' : Hid (SdSt w2 q (sdM f (ps.take k) ((x : Int), (y : Int)) 0) w3.drew) := HS0.out.ext (by repeat (first | exact World.Ext.refl _ | exact ⟨_, rfl⟩ | assumption | refine World.Ext.over ?_ _ | refine World.Ext.drewN ?_ _ | refine World.Ext.drew ?_ | refine World.Ext.alloc ?_ _ | refine World.Ext.setCell ?_ (by simp) _))
      clear HS0 d0 d1 l3
      generalize w3.drew = w4 at *
      have HS0 := HS0'
      clear HS0'
      obtain ⟨t0, ht⟩ : ∃ t, f ((x : Int)) ((y : Int) - 1) = t := ⟨_, rfl⟩
      have HKEY := Lib.hid (edgKeyOf (e := ⟨(x : Int), (y : Int), 0⟩) (spotWf (x := (x : Int)) (y := (y : Int)) (by omega) (by omega)).1 (spotWf (x := (x : Int)) (y := (y : Int)) (by omega) (by omega)).2 (spotWf (x := ((0 : Nat) : Int)) (y := 0) (by omega) (by omega)).1)
      have HLL : Hid (∀ (e : Edg) v, sdM f (ps.take k) ((x : Int), (y : Int)) 0 e = some v → e ∈ (ps.take k ++ [((x : Int), (y : Int))]).flatMap fun q => (List.range 4).map (edgP q)) := fun e v h => sdM_mem h
      have HSTP : Hid (∀ e, (if e = (⟨(x : Int), (y : Int), 0⟩ : Edg) then some (Value.bool (!t0)) else sdM f (ps.take k) ((x : Int), (y : Int)) 0 e) = sdM f (ps.take k) ((x : Int), (y : Int)) 1 e) := fun e => sdM_step (p := ((x : Int), (y : Int))) (j := 0) (by omega) (by simpa [edgP, oppE] using ht) e
      have HT := Lib.hid ht
      clear ht
      go_wp2_with fail
      refine (HGET.out _ (HW2.out.trans HS0.out.w) _ _ t0 HT.out).mono ?_
      rintro e w0a ⟨rfl, hx0a⟩
      have HA0 := Lib.hid (HS0.out.ext hx0a)
      clear hx0a HS0 HT
      go_wp2_with (at_mapUpdate; refine wpList_mapUpdate_E _ rfl _ _ _ 214 rfl 180 4 Try.edgKey edgMap q (sdM f (ps.take k) ((x : Int), (y : Int)) 0) rfl HA0.out.m _ HLL.out HLN.out ⟨(x : Int), (y : Int), 0⟩ _ (.bool (!t0)) rfl rfl HKEY.out (fun w0b hm0 hg0 => ?_); have HS1 : Hid (SdSt w2 q (sdM f (ps.take k) ((x : Int), (y : Int)) 1) w0b) := HA0.out.put (hm0.congr HSTP.out) hg0; clear hm0 hg0 HA0 HKEY HLL HSTP)
      obtain ⟨t1, ht⟩ : ∃ t, f ((x : Int) + 1) ((y : Int)) = t := ⟨_, rfl⟩
      have HKEY := Lib.hid (edgKeyOf (e := ⟨(x : Int) + 1, (y : Int), 1⟩) (spotWf (x := (x : Int) + 1) (y := (y : Int)) (by omega) (by omega)).1 (spotWf (x := (x : Int) + 1) (y := (y : Int)) (by omega) (by omega)).2 (spotWf (x := ((1 : Nat) : Int)) (y := 0) (by omega) (by omega)).1)
      have HLL : Hid (∀ (e : Edg) v, sdM f (ps.take k) ((x : Int), (y : Int)) 1 e = some v → e ∈ (ps.take k ++ [((x : Int), (y : Int))]).flatMap fun q => (List.range 4).map (edgP q)) := fun e v h => sdM_mem h
      have HSTP : Hid (∀ e, (if e = (⟨(x : Int) + 1, (y : Int), 1⟩ : Edg) then some (Value.bool (!t1)) else sdM f (ps.take k) ((x : Int), (y : Int)) 1 e) = sdM f (ps.take k) ((x : Int), (y : Int)) 2 e) := fun e => sdM_step (p := ((x : Int), (y : Int))) (j := 1) (by omega) (by simpa [edgP, oppE] using ht) e
      have HT := Lib.hid ht
      clear ht
      refine (HGET.out _ (HW2.out.trans HS1.out.w) _ _ t1 HT.out).mono ?_
      rintro e w1a ⟨rfl, hx1a⟩
      have HA1 := Lib.hid (HS1.out.ext hx1a)
      clear hx1a HS1 HT
      go_wp2_with (at_mapUpdate; refine wpList_mapUpdate_E _ rfl _ _ _ 214 rfl 180 4 Try.edgKey edgMap q (sdM f (ps.take k) ((x : Int), (y : Int)) 1) rfl HA1.out.m _ HLL.out HLN.out ⟨(x : Int) + 1, (y : Int), 1⟩ _ (.bool (!t1)) rfl rfl HKEY.out (fun w1b hm1 hg1 => ?_); have HS2 : Hid (SdSt w2 q (sdM f (ps.take k) ((x : Int), (y : Int)) 2) w1b) := HA1.out.put (hm1.congr HSTP.out) hg1; clear hm1 hg1 HA1 HKEY HLL HSTP)
      obtain ⟨t2, ht⟩ : ∃ t, f ((x : Int)) ((y : Int) + 1) = t := ⟨_, rfl⟩
      have HKEY := Lib.hid (edgKeyOf (e := ⟨(x : Int) + 1, (y : Int) + 1, 2⟩) (spotWf (x := (x : Int) + 1) (y := (y : Int) + 1) (by omega) (by omega)).1 (spotWf (x := (x : Int) + 1) (y := (y : Int) + 1) (by omega) (by omega)).2 (spotWf (x := ((2 : Nat) : Int)) (y := 0) (by omega) (by omega)).1)
      have HLL : Hid (∀ (e : Edg) v, sdM f (ps.take k) ((x : Int), (y : Int)) 2 e = some v → e ∈ (ps.take k ++ [((x : Int), (y : Int))]).flatMap fun q => (List.range 4).map (edgP q)) := fun e v h => sdM_mem h
      have HSTP : Hid (∀ e, (if e = (⟨(x : Int) + 1, (y : Int) + 1, 2⟩ : Edg) then some (Value.bool (!t2)) else sdM f (ps.take k) ((x : Int), (y : Int)) 2 e) = sdM f (ps.take k) ((x : Int), (y : Int)) 3 e) := fun e => sdM_step (p := ((x : Int), (y : Int))) (j := 2) (by omega) (by simpa [edgP, oppE] using ht) e
      have HT := Lib.hid ht
      clear ht
      refine (HGET.out _ (HW2.out.trans HS2.out.w) _ _ t2 HT.out).mono ?_
      rintro e w2a ⟨rfl, hx2a⟩
      have HA2 := Lib.hid (HS2.out.ext hx2a)
      clear hx2a HS2 HT
      go_wp2_with (at_mapUpdate; refine wpList_mapUpdate_E _ rfl _ _ _ 214 rfl 180 4 Try.edgKey edgMap q (sdM f (ps.take k) ((x : Int), (y : Int)) 2) rfl HA2.out.m _ HLL.out HLN.out ⟨(x : Int) + 1, (y : Int) + 1, 2⟩ _ (.bool (!t2)) rfl rfl HKEY.out (fun w2b hm2 hg2 => ?_); have HS3 : Hid (SdSt w2 q (sdM f (ps.take k) ((x : Int), (y : Int)) 3) w2b) := HA2.out.put (hm2.congr HSTP.out) hg2; clear hm2 hg2 HA2 HKEY HLL HSTP)
      obtain ⟨t3, ht⟩ : ∃ t, f ((x : Int) - 1) ((y : Int)) = t := ⟨_, rfl⟩
      have HKEY := Lib.hid (edgKeyOf (e := ⟨(x : Int), (y : Int) + 1, 3⟩) (spotWf (x := (x : Int)) (y := (y : Int) + 1) (by omega) (by omega)).1 (spotWf (x := (x : Int)) (y := (y : Int) + 1) (by omega) (by omega)).2 (spotWf (x := ((3 : Nat) : Int)) (y := 0) (by omega) (by omega)).1)
      have HLL : Hid (∀ (e : Edg) v, sdM f (ps.take k) ((x : Int), (y : Int)) 3 e = some v → e ∈ (ps.take k ++ [((x : Int), (y : Int))]).flatMap fun q => (List.range 4).map (edgP q)) := fun e v h => sdM_mem h
      have HSTP : Hid (∀ e, (if e = (⟨(x : Int), (y : Int) + 1, 3⟩ : Edg) then some (Value.bool (!t3)) else sdM f (ps.take k) ((x : Int), (y : Int)) 3 e) = sdM f (ps.take k) ((x : Int), (y : Int)) 4 e) := fun e => sdM_step (p := ((x : Int), (y : Int))) (j := 3) (by omega) (by simpa [edgP, oppE] using ht) e
      have HT := Lib.hid ht
      clear ht
      refine (HGET.out _ (HW2.out.trans HS3.out.w) _ _ t3 HT.out).mono ?_
      rintro e w3a ⟨rfl, hx3a⟩
      have HA3 := Lib.hid (HS3.out.ext hx3a)
      clear hx3a HS3 HT
      go_wp2_with (at_mapUpdate; refine wpList_mapUpdate_E _ rfl _ _ _ 214 rfl 180 4 Try.edgKey edgMap q (sdM f (ps.take k) ((x : Int), (y : Int)) 3) rfl HA3.out.m _ HLL.out HLN.out ⟨(x : Int), (y : Int) + 1, 3⟩ _ (.bool (!t3)) rfl rfl HKEY.out (fun w3b hm3 hg3 => ?_); have HS4 : Hid (SdSt w2 q (sdM f (ps.take k) ((x : Int), (y : Int)) 4) w3b) := HA3.out.put (hm3.congr HSTP.out) hg3; clear hm3 hg3 HA3 HKEY HLL HSTP)
      have HS9 : Hid (SdSt w2 q (sdM f (ps.take (k + 1)) (0, 0) 0) w3b) := ⟨HS4.out.w, HS4.out.m.congr fun e => by rw [← HTK.out]; exact sdM_next e⟩
      clear HS4
      go_roundw
      case rel => exact ⟨k + 1, by omega, by go_num, HS9⟩
      case measure => simp [intOf]; omega
    · have hke : k = ps.length := by omega
      have hnl : ¬ (k : Int) < (ps.length : Int) := by omega
      have HR : Hid (w.Ext wo ∧ MapE wo Try.prog 180 q (sdM f ps (0, 0) 0)) := by
        have h := HS.out.m
        rw [hke, List.take_length] at h
        exact ⟨HXW.out.wroteNew HS.out.w fun k h1 h2 => by omega, h⟩
      have HRR : Hid (SidesRet w f (.returned (.map (some q))) wo) := ⟨q, _, rfl, HR.out.1, by omega, HOK.out, HR.out.2⟩
      clear HS hke HR
      go_wp2
      go_ret
      exact HRR.out
end Go.Proofs.Ytahhnjoeaodcjaa
