/- Discs of an image, and their pixels: the program's. -/
import Derived.Test.YtahhnjoeaodcjaaDscI
namespace Go.Proofs.Ytahhnjoeaodcjaa
open Go Go.RowKit
def ptrV (b : Nat) : Value := .pointer (some ⟨b, 0, none⟩)
theorem Try.infoImgP : (Try.prog.info? 116).map (fun i => (i.zero, i.size, i.bytes)) = some (some (.pointer none), 1, 8) := by kernel_rfl
/-- Images in blocks bs. -/
def Imgs (W H : Nat) (bs : List Nat) (L : Nat → List Bool) (w : World) : Prop := ∀ i, i < bs.length → ∃ ab, Img w (bs.getD i 0) ab W H (L i)
theorem Imgs.ext {W H : Nat} {bs : List Nat} {L : Nat → List Bool} {w w' : World} (h : Imgs W H bs L w) (hx : w.Ext w') : Imgs W H bs L w' := fun i hi => let ⟨ab, h⟩ := h i hi; ⟨ab, h.ext hx⟩
theorem Img.grown {w w' : World} {b ab W H : Nat} {l : List Bool} {base : Nat} {e : TypeId} {sz n : Nat} {v : Value} {xs : List Value} (h : Img w b ab W H l) (hu : w.ownsRow base e sz v n xs) (h1 : e ≠ 121) (h2 : e ≠ 4) (hg : w.grownBy w' v.ownBlock) : Img w' b ab W H l := by
  refine h.keep (hg.block b h.lt ?_) (hg.block ab h.px.lt ?_)
  · obtain ⟨_, hs⟩ := h.str
    exact World.ownsRow.ne hu hs h1
  · obtain ⟨_, hs, _⟩ := h.px
    exact World.ownsRow.ne hu hs h2
theorem Imgs.grown {W H : Nat} {bs : List Nat} {L : Nat → List Bool} {w w' : World} {base : Nat} {e : TypeId} {sz n : Nat} {v : Value} {xs : List Value} (h : Imgs W H bs L w) (hu : w.ownsRow base e sz v n xs) (h1 : e ≠ 121) (h2 : e ≠ 4) (hg : w.grownBy w' v.ownBlock) : Imgs W H bs L w' := fun i hi => let ⟨ab, h⟩ := h i hi; ⟨ab, h.grown hu h1 h2 hg⟩
/-- Discs and pointers to their pixels, both lists under way. -/
structure DiSt (w : World) (kind : Int) (W H : Nat) (u v : Value) (ds : List (Int × Int × Int)) (m : Nat) (wr : World) : Prop where
  x : w.Ext wr
  d : GrowD w.heap.size 98 wr u ds
  p : ∃ bs : List Nat, bs.length = m ∧ wr.ownsRow w.heap.size 116 1 v m (bs.map ptrV) ∧ Imgs W H bs (fun i => pixD kind W H (ds.getD i (0, 0, 0))) wr
theorem DiSt.ext {w : World} {kind : Int} {W H : Nat} {u v : Value} {ds : List (Int × Int × Int)} {m : Nat} {wr w' : World} (h : DiSt w kind W H u v ds m wr) (hx : wr.Ext w') : DiSt w kind W H u v ds m w' :=
  ⟨h.x.trans hx, h.d.ext hx, let ⟨bs, h1, h2, h3⟩ := h.p; ⟨bs, h1, h2.ext hx, h3.ext hx⟩⟩
theorem ownsRow_grown {w w' : World} {lo lo' : Nat} {e e' : TypeId} {sz sz' n n' : Nat} {u v : Value} {xs ys : List Value} (h : w.ownsRow lo e sz v n xs) (hu : w.ownsRow lo' e' sz' u n' ys) (he : e' ≠ e) (hg : w.grownBy w' u.ownBlock) : w'.ownsRow lo e sz v n xs := by
  refine World.ownsRow.keep h fun k hk => ?_
  rcases h.2 with ⟨h0, _⟩ | ⟨g, cap, cur, h0, _, hh, _⟩
  · rw [h0] at hk; cases hk
  · rw [h0] at hk
    simp only [Value.ownBlock, Option.some.injEq] at hk
    subst hk
    exact hg.block _ (Array.getElem?_eq_some_iff.1 hh).1 (World.ownsRow.ne hu hh he)
theorem DiSt.pushD {w : World} {kind : Int} {W H : Nat} {u v u' : Value} {ds : List (Int × Int × Int)} {m : Nat} {wr w1 : World} {d : Int × Int × Int} (h : DiSt w kind W H u v ds m wr) (hm : m ≤ ds.length) (hg : wr.grownBy w1 u.ownBlock)
    (ho : w1.ownsRow w.heap.size 98 3 u' (ds.length + 1) ((flatD ds).map (Value.int .i64) ++ [.int .i64 d.1, .int .i64 d.2.1, .int .i64 d.2.2])) : DiSt w kind W H u' v (ds ++ [d]) m w1 := by
  refine ⟨h.x.grown hg fun k hk => (World.ownsRow.lt h.d k hk).1, GrowD.push ho, ?_⟩
  obtain ⟨bs, h1, h2, h3⟩ := h.p
  refine ⟨bs, h1, ownsRow_grown h2 h.d (by decide) hg, fun i hi => ?_⟩
  obtain ⟨ab, hI⟩ := h3.grown h.d (by decide) (by decide) hg i hi
  refine ⟨ab, ?_⟩
  have e : (ds ++ [d]).getD i (0, 0, 0) = ds.getD i (0, 0, 0) := by rw [List.getD_eq_getElem?_getD, List.getElem?_append_left (by omega), ← List.getD_eq_getElem?_getD]
  show Img _ _ _ _ _ (pixD kind W H ((ds ++ [d]).getD i (0, 0, 0)))
  rw [e]
  exact hI
theorem DiSt.pushP {w : World} {kind : Int} {W H : Nat} {u v v' : Value} {ds : List (Int × Int × Int)} {m : Nat} {bs : List Nat} {wr w1 : World} {b ab : Nat} (h : DiSt w kind W H u v ds m wr) (h1 : bs.length = m) (h2 : wr.ownsRow w.heap.size 116 1 v m (bs.map ptrV)) (h3 : Imgs W H bs (fun i => pixD kind W H (ds.getD i (0, 0, 0))) wr)
    (hI : Img wr b ab W H (pixD kind W H (ds.getD m (0, 0, 0)))) (hg : wr.grownBy w1 v.ownBlock) (ho : w1.ownsRow w.heap.size 116 1 v' (m + 1) (bs.map ptrV ++ [.pointer (some ⟨b, 0, none⟩)])) : DiSt w kind W H u v' ds (m + 1) w1 := by
  refine ⟨h.x.grown hg fun k hk => (World.ownsRow.lt h2 k hk).1, ownsRow_grown h.d h2 (by decide) hg, bs ++ [b], by simp [h1], by simpa [ptrV] using ho, fun i hi => ?_⟩
  by_cases e : i = m
  · refine ⟨ab, ?_⟩
    rw [e, List.getD_eq_getElem?_getD, List.getElem?_append_right (by omega), h1, Nat.sub_self]
    exact hI.grown h2 (by decide) (by decide) hg
  · rw [List.length_append, List.length_singleton] at hi
    obtain ⟨ab', hI'⟩ := h3.grown h2 (by decide) (by decide) hg i (by omega)
    refine ⟨ab', ?_⟩
    rw [List.getD_eq_getElem?_getD (l := bs ++ [b]), List.getElem?_append_left (by omega), ← List.getD_eq_getElem?_getD]
    exact hI'
/-- Discs and their pixels are returned, in new memory. -/
def DiscsPix (w : World) (kind : Int) (W H : Nat) (ds : List (Int × Int × Int)) (e : Ending) (w' : World) : Prop :=
  ∃ a c a2 c2 bs, e = .returned (.tuple #[.slice a ds.length c, .slice a2 ds.length c2]) ∧ w.Ext w' ∧ OwnD w.heap.size w'.heap.size w' a ds ∧ bs.length = ds.length ∧ RowOf ptrV 0 w' a2 bs ∧ Imgs W H bs (fun i => pixD kind W H (ds.getD i (0, 0, 0))) w'
/-- Of what there was in w2, just the first lists' blocks have been written; they lie there or behind it. -/
structure KpSt (g : Nat) (w2 : World) (u v : Value) (wr : World) : Prop where
  wr : Wrote (fun k => k = g ∨ k = g + 1) w2 wr
  hu : ∀ k, u.ownBlock = some k → (k = g ∨ k = g + 1) ∨ w2.heap.size ≤ k
  hv : ∀ k, v.ownBlock = some k → (k = g ∨ k = g + 1) ∨ w2.heap.size ≤ k
theorem KpSt.ext {g : Nat} {w2 : World} {u v : Value} {wr w' : World} (h : KpSt g w2 u v wr) (hx : wr.Ext w') : KpSt g w2 u v w' := ⟨h.wr.trans (hx.wrote _), h.hu, h.hv⟩
theorem KpSt.pushU {g : Nat} {w2 : World} {u v u' : Value} {wr w' : World} (h : KpSt g w2 u v wr) (hg : wr.grownBy w' u.ownBlock) (ha : u'.ownBlock = u.ownBlock ∨ u'.ownBlock = some wr.heap.size) : KpSt g w2 u' v w' :=
  ⟨h.wr.grown hg h.hu, fun k hk => by
    rcases ha with e | e
    · exact h.hu k (e ▸ hk)
    · rw [e] at hk; have := h.wr.size; simp at hk; omega, h.hv⟩
theorem KpSt.pushV {g : Nat} {w2 : World} {u v v' : Value} {wr w' : World} (h : KpSt g w2 u v wr) (hg : wr.grownBy w' v.ownBlock) (ha : v'.ownBlock = v.ownBlock ∨ v'.ownBlock = some wr.heap.size) : KpSt g w2 u v' w' :=
  ⟨h.wr.grown hg h.hv, h.hu, fun k hk => by
    rcases ha with e | e
    · exact h.hv k (e ▸ hk)
    · rw [e] at hk; have := h.wr.size; simp at hk; omega⟩
theorem KpSt.start (g n m : Nat) (w2 : World) (n' m' : Nat) : KpSt g w2 (.slice (some ⟨g, 0, none⟩) n n') (.slice (some ⟨g + 1, 0, none⟩) m m') w2 :=
  ⟨.refl _ _, fun k hk => by
    have : g = k := by simpa [Value.ownBlock] using hk
    omega, fun k hk => by
    have : g + 1 = k := by simpa [Value.ownBlock] using hk
    omega⟩
theorem KpSt.cell {g : Nat} {w2 : World} {u v : Value} {wr : World} (h : KpSt g w2 u v wr) {a : Addr} {x : Value} (hc : w2.cell? a = some x) (hn : g + 1 < a.block) : wr.cell? a = some x := h.wr.cell hc (by omega)
theorem insB_pix {kind : Int} {W H : Nat} {D : List (Int × Int × Int)} {a b : Nat} : insB (pixD kind W H (D.getD a (0, 0, 0))) (pixD kind W H (D.getD b (0, 0, 0))) = subH (hasH kind W D) (H * W) a b := by
  have hg : ∀ (d : Int × Int × Int) (p : Nat), p < H * W → (pixD kind W H d).getD p false = hasT kind d ((p % W : Nat) : Int) ((p / W : Nat) : Int) := fun d p hp => by
    unfold pixD mkl
    rw [List.getD_eq_getElem?_getD, List.getElem?_map, List.getElem?_range hp]
    rfl
  have hl : (pixD kind W H (D.getD a (0, 0, 0))).length = H * W := mkl_len _ _ _
  rw [Bool.eq_iff_iff, subH_true]
  unfold insB
  rw [insideB_at, hl]
  constructor
  · intro h p hp hh
    have := h p hp
    rw [hg _ p hp, hg _ p hp] at this
    exact this hh
  · intro h p hp
    rw [hg _ p hp, hg _ p hp]
    exact h p hp
set_option maxRecDepth 5000 in
set_option maxHeartbeats 6400000 in
theorem discs_any (b ab W H : Nat) (kind : Int) (l : List Bool) (w : World) (hW : W ≤ 38) (hH : H ≤ 38) (hI : Img w b ab W H l) :
    Calls Try.prog 158 #[.pointer (some ⟨b, 0, none⟩), .int .i64 kind] w (DiscsPix w kind W H (dscL kind W H l)) := by
  obtain ⟨i0, hi, hz0, hz1, hz2⟩ := info_parts Try.infoDisc
  obtain ⟨j0, hji, hy0, hy1, hy2⟩ := info_parts Try.infoImgP
  obtain ⟨W0, hW0⟩ : ∃ W0, W0 = (w.alloc (.cells #[] 98)).alloc (.cells #[] 116) := ⟨_, rfl⟩
  have hx0 : w.Ext W0 := by rw [hW0]; repeat (first | exact World.Ext.refl _ | exact ⟨_, rfl⟩ | assumption | refine World.Ext.over ?_ _ | refine World.Ext.drewN ?_ _ | refine World.Ext.drew ?_ | refine World.Ext.alloc ?_ _ | refine World.Ext.setCell ?_ (by simp) _)
  have HST : Hid (DiSt w kind W H (.slice (some ⟨w.heap.size, 0, none⟩) 0 0) (.slice (some ⟨w.heap.size + 1, 0, none⟩) 0 0) [] 0 W0) := by
    refine ⟨hx0, ?_, [], rfl, ?_, fun i hi => by cases hi⟩
    · rw [hW0]; exact (GrowD.empty w (Nat.le_refl _)).ext (by repeat (first | exact World.Ext.refl _ | exact ⟨_, rfl⟩ | assumption | refine World.Ext.over ?_ _ | refine World.Ext.drewN ?_ _ | refine World.Ext.drew ?_ | refine World.Ext.alloc ?_ _ | refine World.Ext.setCell ?_ (by simp) _))
    · rw [hW0]
      have h := World.ownsRow_made (base := w.heap.size) (e := 116) (size := 1) (w.alloc (.cells #[] 98)) #[] 0 (by simp) (Nat.zero_le _) rfl
      simpa using h
  have HDP := Lib.hid (fun w' (hx : w.Ext w') => depths_any b ab W H kind l w' hW hH (hI.ext hx))
  have HSP := Lib.hid (fun w' (hx : w.Ext w') => spots_any b ab W H l w' (by omega) (by omega) (hI.ext hx))
  have HI := Lib.hid hI
  have HRR : Hid (dscL kind W H l = pickD (dscTo kind W H l (H * W)) (dscK kind W H (dscTo kind W H l (H * W)) (dscTo kind W H l (H * W)).length)) := rfl
  generalize dscL kind W H l = RR at *
  clear hI hx0
  go_enter Try.func158, Try.ntmps158
  go_upto_region 1 with fail
  go_wp2_with fail
  rw [← hW0]
  refine (HDP.out _ HST.out.x).mono ?_
  rintro e w1 ⟨a1, c1, A1, C1, rfl, hx1, hm1⟩
  have hw0 : W0.heap.size = w.heap.size + 2 := by rw [hW0]; simp
  have HM1 : Hid (∀ x y, x < W → y < H → ∃ b o b' o', a1 = some ⟨b, o, none⟩ ∧ w.heap.size + 1 < b ∧ w.heap.size + 1 < b' ∧ w1.cell? ⟨b, o + y, none⟩ = some (.slice (some ⟨b', o', none⟩) W (C1 y)) ∧ w1.cell? ⟨b', o' + x, none⟩ = some (.int .i64 (depI kind W H l x y))) := fun x y h1 h2 => by
    obtain ⟨⟨b, o, e1, q1⟩, h3⟩ := hm1.at (y := y) (by rw [grd_len]; exact h2)
    obtain ⟨b', o', e2, q2⟩ := h3 x (by rw [grd_row h2, grdRow_len]; exact h1)
    have k1 := (World.ownsRow.lt hm1.outer b (by rw [e1]; rfl)).1
    have k2 := ((hm1.rows y (by rw [grd_len]; exact h2)).block (k := b') (by rw [e2]; rfl)).1
    rw [grd_row h2, grdRow_len] at q1
    rw [grd_row h2, grdRow_at h1] at q2
    exact ⟨b, o, b', o', e1, by omega, by omega, by rw [← e2]; exact q1, q2⟩
  rw [grd_len]
  have HX1 := Lib.hid hx1
  clear hm1 hx1
  go_wp2_with fail
  refine (HSP.out w1 (HST.out.x.trans HX1.out)).mono ?_
  rintro e w2 ⟨a2, c2, rfl, hx2, ho2⟩
  have HS0 := Lib.hid (HST.out.ext (HX1.out.trans hx2))
  have HK0 : Hid (KpSt w.heap.size w2 (.slice (some ⟨w.heap.size, 0, none⟩) 0 0) (.slice (some ⟨w.heap.size + 1, 0, none⟩) 0 0) w2) := KpSt.start _ _ _ _ _ _
  have HMX : Hid (∀ u v wr, KpSt w.heap.size w2 u v wr → ∀ x y, x < W → y < H → ∃ b o b' o', a1 = some ⟨b, o, none⟩ ∧ wr.cell? ⟨b, o + y, none⟩ = some (.slice (some ⟨b', o', none⟩) W (C1 y)) ∧ wr.cell? ⟨b', o' + x, none⟩ = some (.int .i64 (depI kind W H l x y))) := fun u v wr hk x y h1 h2 => by
    obtain ⟨b, o, b', o', e1, k1, k2, q1, q2⟩ := HM1.out x y h1 h2
    exact ⟨b, o, b', o', e1, hk.cell (hx2.cell q1) k1, hk.cell (hx2.cell q2) k2⟩
  have HPX : Hid (∀ u v wr, KpSt w.heap.size w2 u v wr → RowP wr a2 (spotsTo W l (H * W))) := fun u v wr hk i hi => by
    obtain ⟨b, o, e1, k1, k2, q1, -⟩ := ho2 i hi
    have := HX1.out.size
    exact ⟨b, o, e1, hk.cell q1 (by dsimp only; omega)⟩
  have HBX : Hid (∀ i, i < (spotsTo W l (H * W)).length → ∃ x y : Nat, x < W ∧ y < H ∧ (spotsTo W l (H * W)).getD i (0, 0) = ((x : Int), (y : Int))) := fun i hi => by
    have hm : (spotsTo W l (H * W)).getD i (0, 0) ∈ spotsTo W l (H * W) := getD_mem hi
    obtain ⟨x, y, e, hx, hy⟩ := pxP_nat (spotsTo_mem.1 hm)
    exact ⟨x, y, hx, hy, e⟩
  have HDA : Hid (∀ i (x y : Nat), i < (spotsTo W l (H * W)).length → (spotsTo W l (H * W)).getD i (0, 0) = ((x : Int), (y : Int)) → (dscTo kind W H l (H * W)).getD i (0, 0, 0) = ((x : Int), (y : Int), depI kind W H l x y)) := fun i x y hi e => by
    unfold dscTo
    rw [List.getD_eq_getElem?_getD, List.getElem?_map, List.getElem?_eq_getElem hi]
    rw [List.getD_eq_getElem?_getD, List.getElem?_eq_getElem hi] at e
    show dOf kind W H l ((spotsTo W l (H * W))[i]) = _
    have e : (spotsTo W l (H * W))[i] = ((x : Int), (y : Int)) := e
    rw [e]
    rfl
  have HDL : Hid ((dscTo kind W H l (H * W)).length = (spotsTo W l (H * W)).length) := by show _ = _; unfold dscTo; rw [List.length_map]
  have HTI : Hid (∀ d, d ∈ dscTo kind W H l (H * W) → InD W H d) := fun d h => dscTo_in hW hH h
  have hpn : (spotsTo W l (H * W)).length ≤ 1600 := Nat.le_trans (spotsTo_len _ _ _) (Nat.le_trans (Nat.mul_le_mul hH hW) (by omega))
  clear HST HM1 HX1 hx2 ho2 HDP HSP hW0 hw0
  generalize spotsTo W l (H * W) = ps at *
  generalize dscTo kind W H l (H * W) = DA at *
  generalize depI kind W H l = g at *
  have hc0 := 0
  go_wp2
  go_loopw [6, 7, 10, 11, 26] (fun u v _ _ i wr => ∃ k : Nat, k ≤ ps.length ∧ i = .int .i64 k ∧ Hid (DiSt w kind W H u v (DA.take k) k wr) ∧ Hid (KpSt w.heap.size w2 u v wr)) (fun _ _ _ _ i _ => ps.length - (intOf i).toNat)
  case atStart => exact ⟨0, Nat.zero_le _, rfl, by rw [List.take_zero]; exact HS0, HK0⟩
  case round =>
    obtain ⟨k, hk, rfl, HS, HK⟩ := hrel
    clear HS0 HK0
    obtain ⟨wo, rfl⟩ : ∃ wo : World, wo = wr := ⟨_, rfl⟩
    have hk0 : (0 : Int) ≤ (k : Int) := by omega
    by_cases hlt : k < ps.length
    · have hlt' : (k : Int) < (ps.length : Int) := by omega
      obtain ⟨b1, o1, rfl, hc0, hc1⟩ := (HPX.out _ _ _ HK.out).at hlt
      obtain ⟨x, y, hxW, hyH, hs⟩ := HBX.out k hlt
      obtain ⟨mb, mo, mb', mo', rfl, q1, q2⟩ := HMX.out _ _ _ HK.out x y hxW hyH
      have HDK := Lib.hid (HDA.out k x y hlt hs)
      rw [hs] at hc0 hc1
      dsimp only at hc0 hc1
      clear hs
      obtain ⟨w3, hw3⟩ : ∃ w3, w3 = wo.alloc (.cells #[.int .i64 x, .int .i64 y] 67) := ⟨_, rfl⟩
      have hx3 : wo.Ext w3 := by rw [hw3]; repeat (first | exact World.Ext.refl _ | exact ⟨_, rfl⟩ | assumption | refine World.Ext.over ?_ _ | refine World.Ext.drewN ?_ _ | refine World.Ext.drew ?_ | refine World.Ext.alloc ?_ _ | refine World.Ext.setCell ?_ (by simp) _)
      have d0 : w3.cell? ⟨wo.heap.size, 0, none⟩ = some (.int .i64 x) := by rw [hw3]; simp [go_sem]
      have d1 : w3.cell? ⟨wo.heap.size, 1, none⟩ = some (.int .i64 y) := by rw [hw3]; simp [go_sem]
      have l3 := World.block_lt_of_cell? _ _ d0
      go_upto_region 5 with fail
      rw [← hw3]
      replace q1 := hx3.cell q1
      replace q2 := hx3.cell q2
      have HS3 := Lib.hid (HS.out.ext hx3)
      have HK3 := Lib.hid (HK.out.ext hx3)
      clear hx3 hc0 hc1 HS HK hw3
      generalize g x y = d at *
      have hx0' : (0 : Int) ≤ (x : Int) := by omega
      have hy0' : (0 : Int) ≤ (y : Int) := by omega
      have hxW' : (x : Int) < (W : Int) := by omega
      have hyH' : (y : Int) < (H : Int) := by omega
      go_region_held3 (fun w' => w'.cell? ⟨wo.heap.size, 0, none⟩ = some (.int .i64 x) ∧ w'.cell? ⟨wo.heap.size, 1, none⟩ = some (.int .i64 y) ∧ w'.cell? ⟨mb, mo + y, none⟩ = some (.slice (some ⟨mb', mo', none⟩) W (C1 y)) ∧ w'.cell? ⟨mb', mo' + x, none⟩ = some (.int .i64 d))
        (first | (refine ⟨World.Ext.cell ?_ d0, World.Ext.cell ?_ d1, World.Ext.cell ?_ q1, World.Ext.cell ?_ q2⟩ <;> ((repeat (first | exact World.Ext.refl _ | exact ⟨_, rfl⟩ | assumption | refine World.Ext.over ?_ _ | refine World.Ext.drewN ?_ _ | refine World.Ext.drew ?_ | refine World.Ext.alloc ?_ _ | refine World.Ext.setCell ?_ ?_ _ | (simp; done))); done)))
        (fail)
      obtain ⟨w4, hw4⟩ : ∃ w4, w4 = (w3.alloc (.cells #[.int .i64 x, .int .i64 y, .int .i64 d] 98)).drew := ⟨_, rfl⟩
      have hx4 : w3.Ext w4 := by rw [hw4]; repeat (first | exact World.Ext.refl _ | exact ⟨_, rfl⟩ | assumption | refine World.Ext.over ?_ _ | refine World.Ext.drewN ?_ _ | refine World.Ext.drew ?_ | refine World.Ext.alloc ?_ _ | refine World.Ext.setCell ?_ (by simp) _)
      have p0 : w4.cell? ⟨w3.heap.size, 0, none⟩ = some (.int .i64 x) := by rw [hw4]; simp [go_sem]
      have p1 : w4.cell? ⟨w3.heap.size, 1, none⟩ = some (.int .i64 y) := by rw [hw4]; simp [go_sem]
      have p2 : w4.cell? ⟨w3.heap.size, 2, none⟩ = some (.int .i64 d) := by rw [hw4]; simp [go_sem]
      have l4 := World.block_lt_of_cell? _ _ p0
      have hul : ∀ k, u6.ownBlock = some k → k < w3.heap.size := fun k hk => (World.ownsRow.lt HS3.out.d k hk).2
      have hvl : ∀ k, u7.ownBlock = some k → k < w3.heap.size := fun k hk => by
        obtain ⟨bs, -, hp, -⟩ := HS3.out.p
        exact (World.ownsRow.lt hp k hk).2
      have HUL := Lib.hid hul
      have HVL := Lib.hid hvl
      have HS4 := Lib.hid (HS3.out.ext hx4)
      have HK4 := Lib.hid (HK3.out.ext hx4)
      have hkl : k < DA.length := by rw [HDL.out]; exact hlt
      have HTK : Hid (DA.take k ++ [((x : Int), (y : Int), d)] = DA.take (k + 1)) := by
        show _ = _
        rw [List.take_succ_eq_append_getElem hkl, ← HDK.out, List.getD_eq_getElem?_getD, List.getElem?_eq_getElem hkl]
        rfl
      have hlk : (DA.take k).length = k := by rw [List.length_take]; omega
      have HLK := Lib.hid hlk
      have HP : Hid (∀ w', w.Ext w' → Calls Try.prog 216 #[.pointer (some ⟨b, 0, none⟩), .int .i64 kind, .agg #[.int .i64 x, .int .i64 y, .int .i64 d]] w' (ImgRet w' W H (pixD kind W H ((DA.take (k + 1)).getD k (0, 0, 0))))) := fun w' hx => by
        have e : (DA.take (k + 1)).getD k (0, 0, 0) = ((x : Int), (y : Int), d) := by
          rw [← HTK.out, List.getD_eq_getElem?_getD, List.getElem?_append_right (by omega), hlk, Nat.sub_self]
          rfl
        rw [e]
        exact painted_any b ab W H l kind x y d w' (by omega) (by omega) (HI.out.ext hx) (by omega) (by omega)
      have HB1 : Hid (k + 1 ≤ maxLen) := by show _ ≤ _; unfold maxLen; omega
      have HB2 : Hid ((k + 1) * 24 ≤ 140737488355328) := by show _ ≤ _; omega
      have HB3 : Hid ((k + 1) * 8 ≤ 140737488355328) := by show _ ≤ _; omega
      have HOD : Hid (w4.ownsRow w.heap.size 98 3 u6 k ((flatD (DA.take k)).map (Value.int .i64))) := by have h := HS4.out.d; unfold GrowD at h; rw [hlk] at h; exact h
      have HXX := Lib.hid HS4.out.x
      have HD1 : Hid (∀ (o : Obj) (v' : Value) (w5 : World), (w4.drew.alloc o).grownBy w5 u6.ownBlock → w5.ownsRow w.heap.size 98 3 v' (k + 1) ((flatD (DA.take k)).map (Value.int .i64) ++ [.int .i64 x, .int .i64 y, .int .i64 d]) → (v'.ownBlock = u6.ownBlock ∨ v'.ownBlock = some (w4.drew.alloc o).heap.size) →
          DiSt w kind W H v' u7 (DA.take (k + 1)) k w5 ∧ KpSt w.heap.size w2 v' u7 w5 ∧ w5.cell? ⟨w3.heap.size, 0, none⟩ = some (.int .i64 x) ∧ w5.cell? ⟨w3.heap.size, 1, none⟩ = some (.int .i64 y) ∧ w5.cell? ⟨w3.heap.size, 2, none⟩ = some (.int .i64 d)) := fun o v' w5 hg ho ha => by
        have hx5 : w4.Ext (w4.drew.alloc o) := by repeat (first | exact World.Ext.refl _ | exact ⟨_, rfl⟩ | assumption | refine World.Ext.over ?_ _ | refine World.Ext.drewN ?_ _ | refine World.Ext.drew ?_ | refine World.Ext.alloc ?_ _ | refine World.Ext.setCell ?_ (by simp) _)
        have h1 := (HS4.out.ext hx5).pushD (d := ((x : Int), (y : Int), d)) (by omega) hg (by rw [hlk]; exact ho)
        rw [HTK.out] at h1
        have hne : some w3.heap.size ≠ u6.ownBlock := fun e => by have := hul _ e.symm; omega
        exact ⟨h1, (HK4.out.ext hx5).pushU hg ha, hg.cell (hx5.cell p0) hne, hg.cell (hx5.cell p1) hne, hg.cell (hx5.cell p2) hne⟩
      have HD2 : Hid (∀ (w5 w6 : World) (o : Obj) (v' : Value) (v7 : Value) (bs : List Nat) (b6 ab6 : Nat), w5.Ext w6 → DiSt w kind W H v' u7 (DA.take (k + 1)) k w5 → KpSt w.heap.size w2 v' u7 w5 → Img w6 b6 ab6 W H (pixD kind W H ((DA.take (k + 1)).getD k (0, 0, 0))) →
          bs.length = k → w6.ownsRow w.heap.size 116 1 u7 k (bs.map ptrV) → Imgs W H bs (fun i => pixD kind W H ((DA.take (k + 1)).getD i (0, 0, 0))) w6 → ∀ w7, (w6.alloc o).grownBy w7 u7.ownBlock → w7.ownsRow w.heap.size 116 1 v7 (k + 1) (bs.map ptrV ++ [.pointer (some ⟨b6, 0, none⟩)]) → (v7.ownBlock = u7.ownBlock ∨ v7.ownBlock = some (w6.alloc o).heap.size) →
          DiSt w kind W H v' v7 (DA.take (k + 1)) (k + 1) w7 ∧ KpSt w.heap.size w2 v' v7 w7 ∧ ∀ (i : Nat) (z : Value), w6.cell? ⟨w3.heap.size, i, none⟩ = some z → w7.cell? ⟨w3.heap.size, i, none⟩ = some z) := fun w5 w6 o v' v7 bs b6 ab6 hx h1 h2 h3 h4 h5 h6 w7 hg ho ha => by
        have hxa : w6.Ext (w6.alloc o) := by repeat (first | exact World.Ext.refl _ | exact ⟨_, rfl⟩ | assumption | refine World.Ext.over ?_ _ | refine World.Ext.drewN ?_ _ | refine World.Ext.drew ?_ | refine World.Ext.alloc ?_ _ | refine World.Ext.setCell ?_ (by simp) _)
        exact ⟨((h1.ext hx).ext hxa).pushP h4 (h5.ext hxa) (h6.ext hxa) (h3.ext hxa) hg ho, ((h2.ext hx).ext hxa).pushV hg ha, fun i z hz => hg.cell (hxa.cell hz) fun e => by have := hvl _ e.symm; dsimp only at this; omega⟩
      have HLO : Hid (∀ w', w.Ext w' → w.heap.size ≤ w'.heap.size) := fun _ hx => hx.size
      go_upto_region 6 with fail
      rw [← hw4]
      clear hw4 hx4 hul hvl hlk hkl d0 d1 q1 q2 l3 HS3 HK3 HDK HTK
      go_region_held3 (fun w' => w'.cell? ⟨w3.heap.size, 0, none⟩ = some (.int .i64 x) ∧ w'.cell? ⟨w3.heap.size, 1, none⟩ = some (.int .i64 y) ∧ w'.cell? ⟨w3.heap.size, 2, none⟩ = some (.int .i64 d))
        (first | exact hk10 | exact hk9 | exact hk8 | (refine ⟨World.Ext.cell ?_ hk9.1, World.Ext.cell ?_ hk9.2.1, World.Ext.cell ?_ hk9.2.2⟩ <;> ((repeat (first | exact World.Ext.refl _ | exact ⟨_, rfl⟩ | assumption | refine World.Ext.over ?_ _ | refine World.Ext.drewN ?_ _ | refine World.Ext.drew ?_ | refine World.Ext.alloc ?_ _ | refine World.Ext.setCell ?_ ?_ _ | (simp; done))); done)) | (refine ⟨World.Ext.cell ?_ p0, World.Ext.cell ?_ p1, World.Ext.cell ?_ p2⟩ <;> ((repeat (first | exact World.Ext.refl _ | exact ⟨_, rfl⟩ | assumption | refine World.Ext.over ?_ _ | refine World.Ext.drewN ?_ _ | refine World.Ext.drew ?_ | refine World.Ext.alloc ?_ _ | refine World.Ext.setCell ?_ ?_ _ | (simp; done))); done)))
        (first
          | (refine step_append_mine rfl _ _ 88 rfl w.heap.size 98 i0 (.agg #[.int .i64 0, .int .i64 0, .int .i64 0]) 3 24 Try.underlying88 hi hz0 hz1 hz2 rfl (by decide) u6 k _ rfl (World.ownsRow.ext HOD.out (by repeat (first | exact World.Ext.refl _ | exact ⟨_, rfl⟩ | assumption | refine World.Ext.over ?_ _ | refine World.Ext.drewN ?_ _ | refine World.Ext.drew ?_ | refine World.Ext.alloc ?_ _ | refine World.Ext.setCell ?_ (by simp) _))) ⟨w4.heap.size, 0, none⟩ 1 1 [.int .i64 x, .int .i64 y, .int .i64 d] rfl rfl (cell_three_at (by simp)) (by simp [Value.oneCell']) HB1.out HB2.out (HLO.out _ (HXX.out.trans (by repeat (first | exact World.Ext.refl _ | exact ⟨_, rfl⟩ | assumption | refine World.Ext.over ?_ _ | refine World.Ext.drewN ?_ _ | refine World.Ext.drew ?_ | refine World.Ext.alloc ?_ _ | refine World.Ext.setCell ?_ (by simp) _)))) (fun v' w5 hown5 hgrow hat => ?_); obtain ⟨hs5, hk5, hk8⟩ := HD1.out _ _ _ hgrow hown5 hat; have HS5 := Lib.hid hs5; have HK5 := Lib.hid hk5; clear hown5 hgrow hat hs5 hk5)
          | (go_at_call 216; go_loud (refine (HP.out _ HS5.out.x).mono ?_; rintro e w6 ⟨b6, ab6, rfl, hx6, hi6, -, -⟩; have hk9 : w6.cell? ⟨w3.heap.size, 0, none⟩ = some (.int .i64 x) ∧ w6.cell? ⟨w3.heap.size, 1, none⟩ = some (.int .i64 y) ∧ w6.cell? ⟨w3.heap.size, 2, none⟩ = some (.int .i64 d) := ⟨hx6.cell hk8.1, hx6.cell hk8.2.1, hx6.cell hk8.2.2⟩; have E6 := hx6; have HI6 := Lib.hid hi6; obtain ⟨bs, hb1, hb2, hb3⟩ := (HS5.out.ext hx6).p; have HQ1 := Lib.hid hb1; have HQ2 := Lib.hid hb2; have HQ3 := Lib.hid hb3; clear hx6 hi6 hb1 hb2 hb3))
          | (refine step_append_mine rfl _ _ 198 rfl w.heap.size 116 j0 (.pointer none) 1 8 Try.underlying198 hji hy0 hy1 hy2 rfl (by decide) u7 k _ rfl (World.ownsRow.ext HQ2.out (by repeat (first | exact World.Ext.refl _ | exact ⟨_, rfl⟩ | assumption | refine World.Ext.over ?_ _ | refine World.Ext.drewN ?_ _ | refine World.Ext.drew ?_ | refine World.Ext.alloc ?_ _ | refine World.Ext.setCell ?_ (by simp) _))) ⟨w6.heap.size, 0, none⟩ 1 1 [.pointer (some ⟨b6, 0, none⟩)] rfl rfl (cell_one_at (by simp)) (by simp [Value.oneCell']) HB1.out HB3.out (HLO.out _ ((HS5.out.x.trans E6).trans (by repeat (first | exact World.Ext.refl _ | exact ⟨_, rfl⟩ | assumption | refine World.Ext.over ?_ _ | refine World.Ext.drewN ?_ _ | refine World.Ext.drew ?_ | refine World.Ext.alloc ?_ _ | refine World.Ext.setCell ?_ (by simp) _)))) (fun v7 w7 hown7 hgrow hat => ?_); obtain ⟨hs7, hk7, hc7⟩ := HD2.out _ _ _ _ _ _ _ _ E6 HS5.out HK5.out HI6.out HQ1.out HQ2.out HQ3.out _ hgrow hown7 hat; have HS7 := Lib.hid hs7; have HK7 := Lib.hid hk7; have hk10 : w7.cell? ⟨w3.heap.size, 0, none⟩ = some (.int .i64 x) ∧ w7.cell? ⟨w3.heap.size, 1, none⟩ = some (.int .i64 y) ∧ w7.cell? ⟨w3.heap.size, 2, none⟩ = some (.int .i64 d) := ⟨hc7 _ _ hk9.1, hc7 _ _ hk9.2.1, hc7 _ _ hk9.2.2⟩; clear hown7 hgrow hat hs7 hk7 hc7))
      clear p0 p1 p2 l4 HOD HXX HD1 HD2 HS4 HK4 hk8 hk9 hk10 HQ1 HQ2 HQ3 HS5 HK5 HI6 HP E6
      go_wp2
      go_roundw
      case rel => exact ⟨k + 1, by omega, by go_num, HS7, HK7⟩
      case measure => simp [intOf]; omega
    · have hke : k = DA.length := by rw [HDL.out]; omega
      have hnl : ¬ (k : Int) < (ps.length : Int) := by omega
      have hst := HS.out
      rw [hke, List.take_length] at hst
      have hdn : DA.length ≤ 1600 := by rw [HDL.out]; exact hpn
      obtain ⟨aD, cD, rfl, _⟩ := hst.d.form
      obtain ⟨bs, hb1, hb2, hb3⟩ := hst.p
      obtain ⟨aP, cP, rfl, _⟩ := World.ownsRow.form hb2
      have HDR : Hid (∀ wr, wo.Ext wr → RowD wr aD DA) := fun wr hx => RowD.ext hst.d.own.row hx
      have HPR : Hid (∀ wr, wo.Ext wr → ∀ i, i < DA.length → ∃ b1 o1, aP = some ⟨b1, o1, none⟩ ∧ wr.cell? ⟨b1, o1 + i, none⟩ = some (.pointer (some ⟨bs.getD i 0, 0, none⟩))) := fun wr hx i hi => by
        obtain ⟨b1, o1, e1, -, -, q, -⟩ := World.ownsRow.own hb2 (i := i) (by omega)
        refine ⟨b1, o1, e1, hx.cell ?_⟩
        rw [q, List.getElem?_map, List.getElem?_eq_getElem (by omega), List.getD_eq_getElem?_getD, List.getElem?_eq_getElem (by omega)]
        rfl
      have HIS : Hid (∀ wr, wo.Ext wr → ∀ i, i < DA.length → ∃ ab, Img wr (bs.getD i 0) ab W H (pixD kind W H (DA.getD i (0, 0, 0)))) := fun wr hx i hi => by
        obtain ⟨ab, h⟩ := hb3 i (by omega)
        exact ⟨ab, h.ext hx⟩
      have HXO := Lib.hid hst.x
      have HDI : Hid (∀ i, i < DA.length → InD W H (DA.getD i (0, 0, 0))) := fun i hi => inD_at HTI.out hi
      have HKS : Hid (∀ k, dscK kind W H DA (k + 1) = if beatB (hasH kind W DA) DA.length (H * W) k then dscK kind W H DA k else dscK kind W H DA k ++ [k]) := fun k => keptL_succ k
      have HKL := Lib.hid (dscK_len kind W H DA)
      have HK0 : Hid (pickD DA (dscK kind W H DA 0) = []) := rfl
      have HNS : Hid (∀ w' (p q : Nat) (i j : Nat), wo.Ext w' → i < DA.length → j < DA.length → p = bs.getD i 0 → q = bs.getD j 0 → ∀ t, subH (hasH kind W DA) (H * W) i j = t → Calls Try.prog 188 #[.pointer (some ⟨p, 0, none⟩), .pointer (some ⟨q, 0, none⟩)] w' fun e w'' => e = .returned (.bool t) ∧ w'.Ext w'') := fun w' p q i j hx h1 h2 e1 e2 t ht => by
        obtain ⟨ab1, hi1⟩ := HIS.out w' hx i h1
        obtain ⟨ab2, hi2⟩ := HIS.out w' hx j h2
        subst e1 e2
        rw [← ht, ← insB_pix]
        exact inside_any _ ab1 W H _ _ ab2 _ w' (by omega) (by omega) hi1 hi2
      clear HS HK hst hb1 hb2 hb3 hnl hke HTI HDA HBX HPX HMX hpn
      obtain ⟨W8, hW8⟩ : ∃ W8, W8 = (wo.alloc (.cells #[] 98)).alloc (.cells #[] 116) := ⟨_, rfl⟩
      have hx8 : wo.Ext W8 := by rw [hW8]; repeat (first | exact World.Ext.refl _ | exact ⟨_, rfl⟩ | assumption | refine World.Ext.over ?_ _ | refine World.Ext.drewN ?_ _ | refine World.Ext.drew ?_ | refine World.Ext.alloc ?_ _ | refine World.Ext.setCell ?_ (by simp) _)
      have HST : Hid (DiSt wo kind W H (.slice (some ⟨wo.heap.size, 0, none⟩) 0 0) (.slice (some ⟨wo.heap.size + 1, 0, none⟩) 0 0) (pickD DA (dscK kind W H DA 0)) (pickD DA (dscK kind W H DA 0)).length W8) := by
        show DiSt _ _ _ _ _ _ _ _ _
        rw [HK0.out]
        refine ⟨hx8, ?_, [], rfl, ?_, fun i hi => by cases hi⟩
        · rw [hW8]; exact (GrowD.empty wo (Nat.le_refl _)).ext (by repeat (first | exact World.Ext.refl _ | exact ⟨_, rfl⟩ | assumption | refine World.Ext.over ?_ _ | refine World.Ext.drewN ?_ _ | refine World.Ext.drew ?_ | refine World.Ext.alloc ?_ _ | refine World.Ext.setCell ?_ (by simp) _))
        · rw [hW8]
          have h := World.ownsRow_made (base := wo.heap.size) (e := 116) (size := 1) (wo.alloc (.cells #[] 98)) #[] 0 (by simp) (Nat.zero_le _) rfl
          simpa using h
      have HHS : Hid (∀ a b : Nat, hasH kind W DA a b = hasH kind W DA a b) := fun _ _ => rfl
      clear hx8 HK0
      generalize dscK kind W H DA = K at *
      generalize hasH kind W DA = hh at *
      generalize H * W = mm at *
      go_upto_region 9 with fail
      rw [← hW8]
      clear hW8
      go_wp2
      go_loopw [12, 13, 14, 15, 16, 17, 60] (fun u v _ _ _ _ i wr => ∃ k : Nat, k ≤ DA.length ∧ i = .int .i64 k ∧ Hid (DiSt wo kind W H u v (pickD DA (K k)) (pickD DA (K k)).length wr)) (fun _ _ _ _ _ _ i _ => DA.length - (intOf i).toNat)
      case atStart => exact ⟨0, Nat.zero_le _, rfl, HST⟩
      case round =>
        obtain ⟨k, hk, rfl, HS⟩ := hrel
        clear HST
        obtain ⟨wp, rfl⟩ : ∃ wp : World, wp = wr := ⟨_, rfl⟩
        have hk0 : (0 : Int) ≤ (k : Int) := by omega
        by_cases hltk : k < DA.length
        · have hltk' : (k : Int) < (DA.length : Int) := by omega
          obtain ⟨b1, o1, rfl, r1, r2, r3⟩ := (HDR.out wp HS.out.x).at hltk
          obtain ⟨⟨k1, k2, k3⟩, hdk⟩ : ∃ d, DA.getD k (0, 0, 0) = d := ⟨_, rfl⟩
          have HDK := Lib.hid hdk
          rw [hdk] at r1 r2 r3
          dsimp only at r1 r2 r3
          clear hdk
          obtain ⟨w3, hw3⟩ : ∃ w3, w3 = wp.alloc (.cells #[.int .i64 k1, .int .i64 k2, .int .i64 k3] 98) := ⟨_, rfl⟩
          have hx3 : wp.Ext w3 := by rw [hw3]; repeat (first | exact World.Ext.refl _ | exact ⟨_, rfl⟩ | assumption | refine World.Ext.over ?_ _ | refine World.Ext.drewN ?_ _ | refine World.Ext.drew ?_ | refine World.Ext.alloc ?_ _ | refine World.Ext.setCell ?_ (by simp) _)
          have HQ : Hid (w3.cell? ⟨wp.heap.size, 0, none⟩ = some (.int .i64 k1) ∧ w3.cell? ⟨wp.heap.size, 1, none⟩ = some (.int .i64 k2) ∧ w3.cell? ⟨wp.heap.size, 2, none⟩ = some (.int .i64 k3)) := by rw [hw3]; refine ⟨?_, ?_, ?_⟩ <;> simp [go_sem]
          have hul : ∀ k, u12.ownBlock = some k → k < wp.heap.size := fun k hk => (World.ownsRow.lt HS.out.d k hk).2
          have hvl : ∀ k, u13.ownBlock = some k → k < wp.heap.size := fun k hk => by
            obtain ⟨bs, -, hp, -⟩ := HS.out.p
            exact (World.ownsRow.lt hp k hk).2
          have HUL := Lib.hid hul
          have HVL := Lib.hid hvl
          have HS3 := Lib.hid (HS.out.ext hx3)
          obtain ⟨AN, hAN⟩ : ∃ AN : Nat → Bool, AN = fun j => (List.range j).any (beat1 hh mm k) := ⟨_, rfl⟩
          have HAN0 : Hid (AN 0 = false) := by rw [hAN]; rfl
          have HANS : Hid (∀ j, AN (j + 1) = (AN j || beat1 hh mm k j)) := fun j => by rw [hAN]; exact any_range_succ _ j
          have HANE : Hid (beatB hh DA.length mm k = AN DA.length) := by rw [hAN]; rfl
          clear hAN hul hvl hx3 HS
          go_upto_region 12 with fail
          rw [← hw3]
          clear hw3 r1 r2 r3
          go_wp2
          go_loopw [16, 17, 67] (fun q _ i wr => ∃ (j : Nat) (bt : Bool), j ≤ DA.length ∧ i = .int .i64 j ∧ q = .bool bt ∧ Hid (bt = AN j) ∧ Hid (w3.Ext wr)) (fun _ _ i _ => DA.length - (intOf i).toNat)
          case atStart => exact ⟨0, false, Nat.zero_le _, rfl, rfl, HAN0.out.symm, .refl _⟩
          case round =>
            obtain ⟨j, bt, hj, rfl, rfl, HBT, HX⟩ := hrel
            obtain ⟨wq, rfl⟩ : ∃ wq : World, wq = wr := ⟨_, rfl⟩
            have hj0 : (0 : Int) ≤ (j : Int) := by omega
            have HXW := Lib.hid (HS3.out.x.trans HX.out)
            by_cases hltj : j < DA.length
            · have hltj' : (j : Int) < (DA.length : Int) := by omega
              obtain ⟨pb, po, rfl, q1⟩ := HPR.out wq HXW.out k hltk
              obtain ⟨pb', po', e2, q2⟩ := HPR.out wq HXW.out j hltj
              cases e2
              cases bt
              · by_cases ekj : j = k
                · have d0 : ((j : Int) != (k : Int)) = false := by rw [ekj]; simp
                  have HB2 : Hid (false = AN (j + 1)) := by
                    show _ = _
                    rw [HANS.out, ← HBT.out]
                    unfold beat1
                    rw [decide_eq_false (fun h => h ekj)]
                    rfl
                  clear HBT ekj
                  go_wp2_with fail
                  refine wp_region_over_lit (by kernel_rfl) (by kernel_rfl) ?_; (repeat (go_big_quiet_step (fail))); refine wpQuiet_nil ?_; rintro _ ⟨x1, rfl⟩
                  have HX3 := Lib.hid (HX.out.over x1)
                  clear HX HXW q1 q2
                  go_wp2
                  go_roundw
                  case rel => exact ⟨j + 1, false, by omega, by go_num, rfl, HB2, HX3⟩
                  case measure => simp [intOf]; omega
                · have d0 : ((j : Int) != (k : Int)) = true := by rw [bne_iff_ne]; omega
                  have HC : Hid (∀ w' (p q : Nat) (t : Bool), wq.Ext w' → ((p = bs.getD k 0 ∧ q = bs.getD j 0) ∧ t = subH hh mm k j) ∨ ((p = bs.getD j 0 ∧ q = bs.getD k 0) ∧ t = subH hh mm j k) → Calls Try.prog 188 #[.pointer (some ⟨p, 0, none⟩), .pointer (some ⟨q, 0, none⟩)] w' fun e w'' => e = .returned (.bool t) ∧ w'.Ext w'') := fun w' p q t hx h => by
                    rcases h with ⟨⟨e1, e2⟩, e3⟩ | ⟨⟨e1, e2⟩, e3⟩
                    · exact HNS.out w' p q k j (HXW.out.trans hx) hltk hltj e1 e2 t e3.symm
                    · exact HNS.out w' p q j k (HXW.out.trans hx) hltj hltk e1 e2 t e3.symm
                  have HB2 : Hid (∀ t, t = (subH hh mm k j && (decide (j < k) || !subH hh mm j k)) → t = AN (j + 1)) := fun t ht => by
                    rw [ht, HANS.out, ← HBT.out]
                    unfold beat1
                    rw [decide_eq_true ekj]
                    simp
                  clear HBT ekj
                  cases h1 : subH hh mm k j
                  · rw [h1] at HC HB2
                    have HB3 := Lib.hid (HB2.out _ rfl)
                    rw [Bool.false_and] at HB3
                    clear HB2 h1
                    generalize subH hh mm j k = s2 at *
                    go_wp2_with fail
                    refine wp_region_over_lit (by kernel_rfl) (by kernel_rfl) ?_; (repeat (go_big_quiet_step ((first | (go_at_call 188; exact Calls.over_of (HC.out _ _ _ _ ⟨_, rfl⟩ (.inl ⟨⟨rfl, rfl⟩, rfl⟩))) | (go_at_call 188; exact Calls.over_of (HC.out _ _ _ _ ⟨_, rfl⟩ (.inr ⟨⟨rfl, rfl⟩, rfl⟩))))))); refine wpQuiet_nil ?_; rintro _ ⟨x1, rfl⟩
                    have HX3 := Lib.hid (HX.out.over x1)
                    clear HX HXW q1 q2
                    go_wp2
                    go_roundw
                    case rel => exact ⟨j + 1, false, by omega, by go_num, rfl, HB3, HX3⟩
                    case measure => simp [intOf]; omega
                  · rw [h1] at HC HB2
                    by_cases h3 : j < k
                    · have d1 : decide (j < k) = true := decide_eq_true h3
                      have HB3 := Lib.hid (HB2.out _ rfl)
                      rw [d1, Bool.true_or, Bool.and_true] at HB3
                      clear HB2 h1
                      generalize subH hh mm j k = s2 at *
                      go_wp2_with fail
                      refine wp_region_over_lit (by kernel_rfl) (by kernel_rfl) ?_; (repeat (go_big_quiet_step ((first | (go_at_call 188; exact Calls.over_of (HC.out _ _ _ _ ⟨_, rfl⟩ (.inl ⟨⟨rfl, rfl⟩, rfl⟩))) | (go_at_call 188; exact Calls.over_of (HC.out _ _ _ _ ⟨_, rfl⟩ (.inr ⟨⟨rfl, rfl⟩, rfl⟩))))))); refine wpQuiet_nil ?_; rintro _ ⟨x1, rfl⟩
                      have HX3 := Lib.hid (HX.out.over x1)
                      clear HX HXW q1 q2
                      go_wp2
                      go_roundw
                      case rel => exact ⟨j + 1, true, by omega, by go_num, rfl, HB3, HX3⟩
                      case measure => simp [intOf]; omega
                    · have d1 : decide (j < k) = false := decide_eq_false h3
                      cases h2 : subH hh mm j k
                      all_goals
                        rw [h2] at HC HB2
                        have HB3 := Lib.hid (HB2.out _ rfl)
                        rw [d1, Bool.false_or, Bool.true_and] at HB3
                        clear HB2 h1 h2
                        go_wp2_with fail
                        refine wp_region_over_lit (by kernel_rfl) (by kernel_rfl) ?_; (repeat (go_big_quiet_step ((first | (go_at_call 188; exact Calls.over_of (HC.out _ _ _ _ ⟨_, rfl⟩ (.inl ⟨⟨rfl, rfl⟩, rfl⟩))) | (go_at_call 188; exact Calls.over_of (HC.out _ _ _ _ ⟨_, rfl⟩ (.inr ⟨⟨rfl, rfl⟩, rfl⟩))))))); refine wpQuiet_nil ?_; rintro _ ⟨x1, rfl⟩
                        have HX3 := Lib.hid (HX.out.over x1)
                        clear HX HXW q1 q2
                        go_wp2
                        go_roundw
                        case rel => exact ⟨j + 1, _, by omega, by go_num, rfl, HB3, HX3⟩
                        case measure => simp [intOf]; omega
              · have HB2 : Hid (true = AN (j + 1)) := by
                  show _ = _
                  rw [HANS.out, ← HBT.out]
                  rfl
                clear HBT
                go_wp2_with fail
                refine wp_region_over_lit (by kernel_rfl) (by kernel_rfl) ?_; (repeat (go_big_quiet_step (fail))); refine wpQuiet_nil ?_; rintro _ ⟨x1, rfl⟩
                have HX3 := Lib.hid (HX.out.over x1)
                clear HX HXW q1 q2
                go_wp2
                go_roundw
                case rel => exact ⟨j + 1, true, by omega, by go_num, rfl, HB2, HX3⟩
                case measure => simp [intOf]; omega
            · have hjn : j = DA.length := by omega
              have hnl : ¬ (j : Int) < (DA.length : Int) := by omega
              have HBB : Hid (bt = beatB hh DA.length mm k) := by show _ = _; rw [HANE.out, ← hjn]; exact HBT.out
              clear HBT HANS HANE HAN0
              cases bt
              · have HKP : Hid (pickD DA (K (k + 1)) = pickD DA (K k) ++ [(k1, k2, k3)]) := by show _ = _; rw [HKS.out, if_neg (by rw [← HBB.out]; decide), pickD_snoc, HDK.out]
                obtain ⟨pb, po, rfl, q1⟩ := HPR.out wq HXW.out k hltk
                obtain ⟨ab7, hI7⟩ := HIS.out wq HXW.out k hltk
                rw [HDK.out] at hI7
                have HI7 := Lib.hid hI7
                obtain ⟨p0, p1, p2⟩ := HQ.out
                replace p0 := HX.out.cell p0
                replace p1 := HX.out.cell p1
                replace p2 := HX.out.cell p2
                have l0 := World.block_lt_of_cell? _ _ p0
                have hw3l : wp.heap.size < w3.heap.size := World.block_lt_of_cell? _ _ HQ.out.1
                have hwl : wp.heap.size < wq.heap.size := l0
                have hul := HUL.out
                have hvl := HVL.out
                have hpl : pb < wo.heap.size := by
                  obtain ⟨b9, o9, e9, q9⟩ := HPR.out wo (.refl _) k hltk
                  cases e9
                  exact World.block_lt_of_cell? _ _ q9
                have HS4 := Lib.hid (HS3.out.ext HX.out)
                have hns : (pickD DA (K k)).length ≤ k := HKL.out k
                obtain ⟨n, hn⟩ : ∃ n, n = (pickD DA (K k)).length := ⟨_, rfl⟩
                have hnk : n ≤ k := by omega
                obtain ⟨bs7, hb1, hb2, hb3⟩ := HS4.out.p
                have HB1 : Hid (n + 1 ≤ maxLen) := by show _ ≤ _; unfold maxLen; omega
                have HB2 : Hid ((n + 1) * 24 ≤ 140737488355328) := by show _ ≤ _; omega
                have HB3 : Hid ((n + 1) * 8 ≤ 140737488355328) := by show _ ≤ _; omega
                have HOD : Hid (wq.ownsRow wo.heap.size 98 3 u12 n ((flatD (pickD DA (K k))).map (Value.int .i64))) := by have h := HS4.out.d; unfold GrowD at h; rw [← hn] at h; exact h
                have HOP : Hid (wq.ownsRow wo.heap.size 116 1 u13 n (bs7.map ptrV)) := by rw [← hn] at hb2; exact hb2
                have HNN := Lib.hid hn
                have hlo7 : ∀ k, u12.ownBlock = some k → wo.heap.size ≤ k := fun k hk => (World.ownsRow.lt HS4.out.d k hk).1
                have HA1 : Hid (∀ (wa w5 : World) (v' : Value), wq.Ext wa → wa.grownBy w5 u12.ownBlock → w5.ownsRow wo.heap.size 98 3 v' (n + 1) ((flatD (pickD DA (K k))).map (Value.int .i64) ++ [.int .i64 k1, .int .i64 k2, .int .i64 k3]) →
                    DiSt wo kind W H v' u13 (pickD DA (K (k + 1))) n w5 ∧ w5.ownsRow wo.heap.size 116 1 u13 n (bs7.map ptrV) ∧ Imgs W H bs7 (fun i => pixD kind W H ((pickD DA (K (k + 1))).getD i (0, 0, 0))) w5 ∧ Img w5 (bs.getD k 0) ab7 W H (pixD kind W H ((pickD DA (K (k + 1))).getD n (0, 0, 0))) ∧
                    (∀ (c i : Nat) (z : Value), wp.heap.size ≤ c → wa.cell? ⟨c, i, none⟩ = some z → w5.cell? ⟨c, i, none⟩ = some z) ∧ w5.cell? ⟨pb, po + k, none⟩ = some (.pointer (some ⟨bs.getD k 0, 0, none⟩))) := fun wa w5 v' hx hg ho => by
                  have h1 := (HS4.out.ext hx).pushD (d := (k1, k2, k3)) (Nat.le_refl _) hg (by rw [← hn]; exact ho)
                  rw [← HKP.out, ← hn] at h1
                  have hown := (HS4.out.ext hx).d
                  have e : (pickD DA (K (k + 1))).getD n (0, 0, 0) = (k1, k2, k3) := by
                    rw [HKP.out, List.getD_eq_getElem?_getD, List.getElem?_append_right (by omega), hn, Nat.sub_self]
                    rfl
                  refine ⟨h1, ownsRow_grown (HOP.out.ext hx) hown (by decide) hg, ?_, ?_, fun c i z hc hz => hg.cell hz fun e => by have := hul _ e.symm; dsimp only at this; omega, hg.cell (hx.cell q1) fun e => by have := hlo7 _ e.symm; dsimp only at this; omega⟩
                  · intro i hi
                    obtain ⟨ab, h⟩ := (hb3.ext hx).grown hown (by decide) (by decide) hg i hi
                    refine ⟨ab, ?_⟩
                    have e : (pickD DA (K (k + 1))).getD i (0, 0, 0) = (pickD DA (K k)).getD i (0, 0, 0) := by rw [HKP.out, List.getD_eq_getElem?_getD, List.getElem?_append_left (by omega), ← List.getD_eq_getElem?_getD]
                    show Img _ _ _ _ _ (pixD kind W H ((pickD DA (K (k + 1))).getD i (0, 0, 0)))
                    rw [e]
                    exact h
                  · rw [e]
                    exact (HI7.out.ext hx).grown hown (by decide) (by decide) hg
                have HA2 : Hid (∀ (w5 wa w7 : World) (v' v7 : Value), w5.Ext wa → DiSt wo kind W H v' u13 (pickD DA (K (k + 1))) n w5 → w5.ownsRow wo.heap.size 116 1 u13 n (bs7.map ptrV) → Imgs W H bs7 (fun i => pixD kind W H ((pickD DA (K (k + 1))).getD i (0, 0, 0))) w5 → Img w5 (bs.getD k 0) ab7 W H (pixD kind W H ((pickD DA (K (k + 1))).getD n (0, 0, 0))) →
                    wa.grownBy w7 u13.ownBlock → w7.ownsRow wo.heap.size 116 1 v7 (n + 1) (bs7.map ptrV ++ [.pointer (some ⟨bs.getD k 0, 0, none⟩)]) → DiSt wo kind W H v' v7 (pickD DA (K (k + 1))) (pickD DA (K (k + 1))).length w7 ∧ (∀ (c i : Nat) (z : Value), (wp.heap.size ≤ c ∨ c < wo.heap.size) → wa.cell? ⟨c, i, none⟩ = some z → w7.cell? ⟨c, i, none⟩ = some z)) := fun w5 wa w7 v' v7 hx h1 h2 h3 h4 hg ho => by
                  have h5 := (h1.ext hx).pushP (by rw [← hn] at hb1; exact hb1) (h2.ext hx) (h3.ext hx) (h4.ext hx) hg ho
                  have e : n + 1 = (pickD DA (K (k + 1))).length := by rw [HKP.out, List.length_append, ← hn]; rfl
                  rw [e] at h5
                  refine ⟨h5, fun c i z hc hz => hg.cell hz fun e => ?_⟩
                  have k1 := hvl _ e.symm
                  have k2 := (World.ownsRow.lt h2 _ e.symm).1
                  dsimp only at k1 k2
                  omega
                have HLO : Hid (∀ w', wo.Ext w' → wo.heap.size ≤ w'.heap.size) := fun _ hx => hx.size
                have HXQ := Lib.hid HS4.out.x
                clear hul hvl hlo7 hb1 hb2 hb3 hn hns hI7 HKP HS3 HS4 HX HXW HBB HQ hw3l
                go_wp2_with fail
                go_region_held3 (fun w' => w'.cell? ⟨wp.heap.size, 0, none⟩ = some (.int .i64 k1) ∧ w'.cell? ⟨wp.heap.size, 1, none⟩ = some (.int .i64 k2) ∧ w'.cell? ⟨wp.heap.size, 2, none⟩ = some (.int .i64 k3) ∧ w'.cell? ⟨pb, po + k, none⟩ = some (.pointer (some ⟨bs.getD k 0, 0, none⟩)))
                  (first | exact hk10 | exact hk8 | (refine ⟨World.Ext.cell ?_ hk8.1, World.Ext.cell ?_ hk8.2.1, World.Ext.cell ?_ hk8.2.2.1, World.Ext.cell ?_ hk8.2.2.2⟩ <;> ((repeat (first | exact World.Ext.refl _ | exact ⟨_, rfl⟩ | assumption | refine World.Ext.over ?_ _ | refine World.Ext.drewN ?_ _ | refine World.Ext.drew ?_ | refine World.Ext.alloc ?_ _ | refine World.Ext.setCell ?_ ?_ _ | (simp; done))); done)) | (refine ⟨World.Ext.cell ?_ p0, World.Ext.cell ?_ p1, World.Ext.cell ?_ p2, World.Ext.cell ?_ q1⟩ <;> ((repeat (first | exact World.Ext.refl _ | exact ⟨_, rfl⟩ | assumption | refine World.Ext.over ?_ _ | refine World.Ext.drewN ?_ _ | refine World.Ext.drew ?_ | refine World.Ext.alloc ?_ _ | refine World.Ext.setCell ?_ ?_ _ | (simp; done))); done)))
                  (first
                    | (refine step_append_mine rfl _ _ 88 rfl wo.heap.size 98 i0 (.agg #[.int .i64 0, .int .i64 0, .int .i64 0]) 3 24 Try.underlying88 hi hz0 hz1 hz2 rfl (by decide) u12 n _ rfl (World.ownsRow.ext HOD.out (by repeat (first | exact World.Ext.refl _ | exact ⟨_, rfl⟩ | assumption | refine World.Ext.over ?_ _ | refine World.Ext.drewN ?_ _ | refine World.Ext.drew ?_ | refine World.Ext.alloc ?_ _ | refine World.Ext.setCell ?_ (by simp) _))) _ 1 1 [.int .i64 k1, .int .i64 k2, .int .i64 k3] rfl rfl (by first | (refine cell_three_at ?_ <;> (simp; done)) | (intro j u hu; refine World.Ext.cell ?_ (cell_three_at (e := 98) rfl j u hu) <;> ((repeat (first | exact World.Ext.refl _ | exact ⟨_, rfl⟩ | assumption | refine World.Ext.over ?_ _ | refine World.Ext.drewN ?_ _ | refine World.Ext.drew ?_ | refine World.Ext.alloc ?_ _ | refine World.Ext.setCell ?_ ?_ _ | (simp; done))); done))) (by simp [Value.oneCell']) HB1.out HB2.out (HLO.out _ (HXQ.out.trans (by repeat (first | exact World.Ext.refl _ | exact ⟨_, rfl⟩ | assumption | refine World.Ext.over ?_ _ | refine World.Ext.drewN ?_ _ | refine World.Ext.drew ?_ | refine World.Ext.alloc ?_ _ | refine World.Ext.setCell ?_ (by simp) _)))) (fun v' w5 hown5 hgrow hat => ?_); obtain ⟨hs5, ho5, hi5, hj5, hc5, hp5⟩ := HA1.out _ _ _ (by repeat (first | exact World.Ext.refl _ | exact ⟨_, rfl⟩ | assumption | refine World.Ext.over ?_ _ | refine World.Ext.drewN ?_ _ | refine World.Ext.drew ?_ | refine World.Ext.alloc ?_ _ | refine World.Ext.setCell ?_ (by simp) _)) hgrow hown5; have hk8 : w5.cell? ⟨wp.heap.size, 0, none⟩ = some (.int .i64 k1) ∧ w5.cell? ⟨wp.heap.size, 1, none⟩ = some (.int .i64 k2) ∧ w5.cell? ⟨wp.heap.size, 2, none⟩ = some (.int .i64 k3) ∧ w5.cell? ⟨pb, po + k, none⟩ = some (.pointer (some ⟨bs.getD k 0, 0, none⟩)) := ⟨hc5 _ _ _ (Nat.le_refl _) (World.Ext.cell (by repeat (first | exact World.Ext.refl _ | exact ⟨_, rfl⟩ | assumption | refine World.Ext.over ?_ _ | refine World.Ext.drewN ?_ _ | refine World.Ext.drew ?_ | refine World.Ext.alloc ?_ _ | refine World.Ext.setCell ?_ (by simp) _)) p0), hc5 _ _ _ (Nat.le_refl _) (World.Ext.cell (by repeat (first | exact World.Ext.refl _ | exact ⟨_, rfl⟩ | assumption | refine World.Ext.over ?_ _ | refine World.Ext.drewN ?_ _ | refine World.Ext.drew ?_ | refine World.Ext.alloc ?_ _ | refine World.Ext.setCell ?_ (by simp) _)) p1), hc5 _ _ _ (Nat.le_refl _) (World.Ext.cell (by repeat (first | exact World.Ext.refl _ | exact ⟨_, rfl⟩ | assumption | refine World.Ext.over ?_ _ | refine World.Ext.drewN ?_ _ | refine World.Ext.drew ?_ | refine World.Ext.alloc ?_ _ | refine World.Ext.setCell ?_ (by simp) _)) p2), hp5⟩; have HS5 := Lib.hid (And.intro hs5 (And.intro ho5 (And.intro hi5 hj5))); have HC5 := Lib.hid hc5; have HX5 := Lib.hid hs5.x; clear hown5 hgrow hat hs5 ho5 hi5 hj5 hc5 hp5)
                    | (refine step_append_mine rfl _ _ 198 rfl wo.heap.size 116 j0 (.pointer none) 1 8 Try.underlying198 hji hy0 hy1 hy2 rfl (by decide) u13 n _ rfl (World.ownsRow.ext HS5.out.2.1 (by repeat (first | exact World.Ext.refl _ | exact ⟨_, rfl⟩ | assumption | refine World.Ext.over ?_ _ | refine World.Ext.drewN ?_ _ | refine World.Ext.drew ?_ | refine World.Ext.alloc ?_ _ | refine World.Ext.setCell ?_ (by simp) _))) _ 1 1 [.pointer (some ⟨bs.getD k 0, 0, none⟩)] rfl rfl (by first | (refine cell_one_at ?_ <;> (simp; done)) | (intro j u hu; rw [Addr.add_mk]; refine HC5.out _ _ _ ?_ ?_; (first | omega | (simp; omega)); rw [← Addr.add_mk]; first | (refine cell_one_at ?_ j u hu <;> (simp; done)) | (refine World.Ext.cell ?_ (cell_one_at (e := 116) rfl j u hu) <;> ((repeat (first | exact World.Ext.refl _ | exact ⟨_, rfl⟩ | assumption | refine World.Ext.over ?_ _ | refine World.Ext.drewN ?_ _ | refine World.Ext.drew ?_ | refine World.Ext.alloc ?_ _ | refine World.Ext.setCell ?_ ?_ _ | (simp; done))); done)))) (by simp [Value.oneCell']) HB1.out HB3.out (HLO.out _ (HX5.out.trans (by repeat (first | exact World.Ext.refl _ | exact ⟨_, rfl⟩ | assumption | refine World.Ext.over ?_ _ | refine World.Ext.drewN ?_ _ | refine World.Ext.drew ?_ | refine World.Ext.alloc ?_ _ | refine World.Ext.setCell ?_ (by simp) _)))) (fun v7 w7 hown7 hgrow hat => ?_); obtain ⟨hs7, hc7⟩ := HA2.out _ _ _ _ _ (by repeat (first | exact World.Ext.refl _ | exact ⟨_, rfl⟩ | assumption | refine World.Ext.over ?_ _ | refine World.Ext.drewN ?_ _ | refine World.Ext.drew ?_ | refine World.Ext.alloc ?_ _ | refine World.Ext.setCell ?_ (by simp) _)) HS5.out.1 HS5.out.2.1 HS5.out.2.2.1 HS5.out.2.2.2 hgrow hown7; have hk10 : w7.cell? ⟨wp.heap.size, 0, none⟩ = some (.int .i64 k1) ∧ w7.cell? ⟨wp.heap.size, 1, none⟩ = some (.int .i64 k2) ∧ w7.cell? ⟨wp.heap.size, 2, none⟩ = some (.int .i64 k3) ∧ w7.cell? ⟨pb, po + k, none⟩ = some (.pointer (some ⟨bs.getD k 0, 0, none⟩)) := ⟨hc7 _ _ _ (.inl (Nat.le_refl _)) (World.Ext.cell (by repeat (first | exact World.Ext.refl _ | exact ⟨_, rfl⟩ | assumption | refine World.Ext.over ?_ _ | refine World.Ext.drewN ?_ _ | refine World.Ext.drew ?_ | refine World.Ext.alloc ?_ _ | refine World.Ext.setCell ?_ (by simp) _)) hk8.1), hc7 _ _ _ (.inl (Nat.le_refl _)) (World.Ext.cell (by repeat (first | exact World.Ext.refl _ | exact ⟨_, rfl⟩ | assumption | refine World.Ext.over ?_ _ | refine World.Ext.drewN ?_ _ | refine World.Ext.drew ?_ | refine World.Ext.alloc ?_ _ | refine World.Ext.setCell ?_ (by simp) _)) hk8.2.1), hc7 _ _ _ (.inl (Nat.le_refl _)) (World.Ext.cell (by repeat (first | exact World.Ext.refl _ | exact ⟨_, rfl⟩ | assumption | refine World.Ext.over ?_ _ | refine World.Ext.drewN ?_ _ | refine World.Ext.drew ?_ | refine World.Ext.alloc ?_ _ | refine World.Ext.setCell ?_ (by simp) _)) hk8.2.2.1), hc7 _ _ _ (.inr hpl) (World.Ext.cell (by repeat (first | exact World.Ext.refl _ | exact ⟨_, rfl⟩ | assumption | refine World.Ext.over ?_ _ | refine World.Ext.drewN ?_ _ | refine World.Ext.drew ?_ | refine World.Ext.alloc ?_ _ | refine World.Ext.setCell ?_ (by simp) _)) hk8.2.2.2)⟩; have HS7 := Lib.hid hs7; clear hown7 hgrow hat hs7 hc7))
                all_goals
                  clear p0 p1 p2 l0 HOD HOP HA1 HA2 HXQ hk8 hk10 HS5 HC5 HX5 HI7
                  go_wp2
                  go_roundw
                  case rel => exact ⟨k + 1, by omega, by go_num, HS7⟩
                  case measure => simp [intOf]; omega
              · have HK2 : Hid (K (k + 1) = K k) := by show _ = _; rw [HKS.out, if_pos HBB.out.symm]
                have HS4 := Lib.hid (HS3.out.ext HX.out)
                clear HBB HX HXW HS3
                go_wp2
                go_roundw
                case rel => exact ⟨k + 1, by omega, by go_num, by rw [HK2.out]; exact HS4⟩
                case measure => simp [intOf]; omega
        · have hke : k = DA.length := by omega
          have hnl : ¬ (k : Int) < (DA.length : Int) := by omega
          rw [hke] at HS
          obtain ⟨a9, c9, rfl, _⟩ := HS.out.d.form
          obtain ⟨bs9, hb1, hb2, hb3⟩ := HS.out.p
          obtain ⟨a8, c8, rfl, _⟩ := World.ownsRow.form hb2
          have HR : Hid (DiscsPix w kind W H (pickD DA (K DA.length)) (.returned (.tuple #[.slice a9 (pickD DA (K DA.length)).length c9, .slice a8 (pickD DA (K DA.length)).length c8])) wp) := by
            refine ⟨a9, c9, a8, c8, bs9, rfl, HXO.out.trans HS.out.x, HS.out.d.own.mono HXO.out.size (Nat.le_refl _), hb1, fun i hi => ?_, hb3⟩
            obtain ⟨b1, o1, e1, -, -, q, -⟩ := World.ownsRow.own hb2 (i := i) (by omega)
            refine ⟨b1, o1, e1, ?_⟩
            rw [q, List.getElem?_map, List.getElem?_eq_getElem hi, List.getD_eq_getElem?_getD, List.getElem?_eq_getElem hi]
            rfl
          clear HS hb1 hb2 hb3
          go_wp2
          go_ret2
          rw [HRR.out]
          exact HR.out
end Go.Proofs.Ytahhnjoeaodcjaa
