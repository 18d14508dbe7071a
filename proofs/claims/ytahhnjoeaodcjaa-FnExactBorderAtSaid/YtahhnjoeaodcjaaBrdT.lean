/- Borders: the program's list of them. -/
import Derived.Test.YtahhnjoeaodcjaaBrdR
namespace Go.Proofs.Ytahhnjoeaodcjaa
open Go Go.RowKit Go.MapKept Go.ChangeMaps
/-- All steps within the box. -/
def boxE : List Edg := (List.range 1156).map fun i => ⟨((i / 4 % 17 : Nat) : Int), ((i / 68 : Nat) : Int), i % 4⟩
theorem boxE_len : boxE.length = 1156 := by unfold boxE; rw [List.length_map, List.length_range]
theorem boxE_mem {f : Int → Int → Bool} (hb : InBx f 16 16) {e : Edg} (h : EOk f e) : e ∈ boxE := by
  obtain ⟨h1, h2, h3, h4⟩ := hb.edge h
  have hk := h.1
  obtain ⟨x, y, k⟩ := e
  dsimp only at h1 h2 h3 h4 hk
  obtain ⟨a, rfl⟩ : ∃ a : Nat, x = a := ⟨x.toNat, by omega⟩
  obtain ⟨b, rfl⟩ : ∃ b : Nat, y = b := ⟨y.toNat, by omega⟩
  unfold boxE
  rw [List.mem_map]
  refine ⟨(b * 17 + a) * 4 + k, List.mem_range.2 (by omega), ?_⟩
  have e1 : ((b * 17 + a) * 4 + k) / 4 % 17 = a := by omega
  have e2 : ((b * 17 + a) * 4 + k) / 68 = b := by omega
  have e3 : ((b * 17 + a) * 4 + k) % 4 = k := by omega
  rw [e1, e2, e3]
/-- What is held to be done. -/
def DnOk (f : Int → Int → Bool) (W k : Nat) (g : Edg → Option Value) : Prop := (∀ e, (g e).getD (.bool false) = .bool (doneB f W (bTo f W k) e)) ∧ ∀ e v, g e = some v → EOk f e
theorem DnOk.no {f : Int → Int → Bool} {W x y : Nat} {g : Edg → Option Value} (h : DnOk f W (y * W + x) g) (hx : x < W) (hn : canB f x y 0 = false ∨ mdB f W (y * W + x) x y = true) : DnOk f W (y * W + x + 1) g := by
  rw [Nat.add_assoc]
  unfold DnOk
  rw [bTo_no hx hn]
  exact h
theorem DnOk.yes {f : Int → Int → Bool} {W x y : Nat} {g : Edg → Option Value} (h : DnOk f W (y * W + x) g) (hx : x < W) (h1 : canB f x y 0 = true) (h2 : mdB f W (y * W + x) x y = false) : DnOk f W (y * W + x + 1) (dnM f ⟨(x : Int), (y : Int), 0⟩ (per f ⟨(x : Int), (y : Int), 0⟩) g) := by
  rw [Nat.add_assoc]
  unfold DnOk
  rw [bTo_yes hx h1 h2]
  have hok : EOk f ⟨(x : Int), (y : Int), 0⟩ := ⟨by show 0 < 4; omega, h1⟩
  constructor
  · intro e
    have hd : doneB f W (bTo f W (y * W + x) ++ [y * W + x]) e = (doneB f W (bTo f W (y * W + x)) e || inOrb f ⟨(x : Int), (y : Int), 0⟩ e) := by
      unfold doneB
      rw [List.any_append, List.any_cons, List.any_nil, Bool.or_false, stE_at hx]
    rw [hd]
    unfold dnM
    by_cases hi : inOrb f ⟨(x : Int), (y : Int), 0⟩ e = true
    · have hi' : ((List.range (per f ⟨(x : Int), (y : Int), 0⟩)).any fun i => decide (itr f i ⟨(x : Int), (y : Int), 0⟩ = e)) = true := hi
      rw [if_pos hi', hi]
      simp
    · have hi' : ¬ ((List.range (per f ⟨(x : Int), (y : Int), 0⟩)).any fun i => decide (itr f i ⟨(x : Int), (y : Int), 0⟩ = e)) = true := hi
      rw [if_neg hi', h.1 e]
      have : inOrb f ⟨(x : Int), (y : Int), 0⟩ e = false := by simpa using hi
      rw [this, Bool.or_false]
  · intro e v he
    unfold dnM at he
    split at he
    · rename_i hh
      rw [List.any_eq_true] at hh
      obtain ⟨i, -, hi⟩ := hh
      rw [← of_decide_eq_true hi]
      exact itr_ok hok i
    · exact h.2 e v he
/-- The borders under way: two maps and the list, each told of by a cell. -/
structure BoSt (w : World) (p4 p5 p3 mo md : Nat) (go : Edg → Option Value) (f : Int → Int → Bool) (W k : Nat) (wr : World) : Prop where
  x : w.Ext wr
  c4 : One wr p4 214 (.map (some mo))
  c5 : One wr p5 214 (.map (some md))
  mo : MapE wr Try.prog 180 mo go
  md : ∃ gd, MapE wr Try.prog 180 md gd ∧ DnOk f W k gd
  g : ∃ v, One wr p3 76 v ∧ GrowBd w.heap.size wr v (brds f W k)
section
variable {w wr w' : World} {p4 p5 p3 mo md : Nat} {go : Edg → Option Value} {f : Int → Int → Bool} {W k : Nat}
theorem BoSt.ext (h : BoSt w p4 p5 p3 mo md go f W k wr) (hx : wr.Ext w') : BoSt w p4 p5 p3 mo md go f W k w' :=
  ⟨h.x.trans hx, h.c4.ext hx, h.c5.ext hx, h.mo.ext hx, let ⟨gd, h1, h2⟩ := h.md; ⟨gd, h1.ext hx, h2⟩, let ⟨v, h1, h2⟩ := h.g; ⟨v, h1.ext hx, World.ownsRow.ext h2 hx⟩⟩
theorem BoSt.no {x y : Nat} (h : BoSt w p4 p5 p3 mo md go f W (y * W + x) wr) (hx : x < W) (hn : canB f x y 0 = false ∨ mdB f W (y * W + x) x y = true) : BoSt w p4 p5 p3 mo md go f W (y * W + x + 1) wr := by
  refine ⟨h.x, h.c4, h.c5, h.mo, let ⟨gd, h1, h2⟩ := h.md; ⟨gd, h1, h2.no hx hn⟩, ?_⟩
  rw [Nat.add_assoc, brds_no hx hn]
  exact h.g
end
set_option maxRecDepth 5000 in
set_option maxHeartbeats 6400000 in
theorem borders1_any (w : World) (p4 p5 p3 mo md W H x y : Nat) (go : Edg → Option Value) (f : Int → Int → Bool) (wr : World) (hbx : InBx f 16 16) (hW : W ≤ 16) (hH : H ≤ 16) (hx : x < W) (hy : y < H) (hgo : SdOk f go) (hlm : w.heap.size ≤ md) (hl3 : w.heap.size ≤ p3) (hne : mo ≠ md) (h34 : p3 ≠ p4) (h35 : p3 ≠ p5)
    (hS : BoSt w p4 p5 p3 mo md go f W (y * W + x) wr) :
    Calls Try.prog 208 #[.int .i64 x, .int .i64 y, .pointer (some ⟨p4, 0, none⟩), .pointer (some ⟨p5, 0, none⟩), .pointer (some ⟨p3, 0, none⟩)] wr fun e w' => e = .returned (.tuple #[]) ∧ BoSt w p4 p5 p3 mo md go f W (y * W + x + 1) w' := by
  obtain ⟨d0', hd, hy0, hy1, hy2⟩ := info_parts Try.infoBord
  obtain ⟨gd, hgd, hdn⟩ := hS.md
  obtain ⟨W1, hW1⟩ : ∃ W1, W1 = wr.alloc (.cells #[.int .i64 x, .int .i64 y, .int .i64 0] 180) := ⟨_, rfl⟩
  have hx1 : wr.Ext W1 := by rw [hW1]; repeat (first | exact World.Ext.refl _ | exact ⟨_, rfl⟩ | assumption | refine World.Ext.over ?_ _ | refine World.Ext.drewN ?_ _ | refine World.Ext.drew ?_ | refine World.Ext.alloc ?_ _ | refine World.Ext.setCell ?_ (by simp) _)
  have HS1 := Lib.hid (hS.ext hx1)
  have c4 := HS1.out.c4.cell
  have c5 := HS1.out.c5.cell
  have l4 := HS1.out.c4.lt
  have l5 := HS1.out.c5.lt
  have g0 : W1.cell? ⟨wr.heap.size, 0, none⟩ = some (.int .i64 x) := by rw [hW1]; simp [go_sem]
  have g1 : W1.cell? ⟨wr.heap.size, 1, none⟩ = some (.int .i64 y) := by rw [hW1]; simp [go_sem]
  have g2 : W1.cell? ⟨wr.heap.size, 2, none⟩ = some (.int .i64 0) := by rw [hW1]; simp [go_sem]
  have lg := World.block_lt_of_cell? _ _ g0
  obtain ⟨t, ht⟩ : ∃ t, canB f x y 0 = t := ⟨_, rfl⟩
  obtain ⟨m, hm⟩ : ∃ m, mdB f W (y * W + x) x y = m := ⟨_, rfl⟩
  have hk1 : (Instr.lookup 214 (.map (some mo)) (.agg #[.int .i64 x, .int .i64 y, .int .i64 0]) false).run Try.prog W1 = .ok (.bool t) W1 := by
    have h := HS1.out.mo.lookB hgo ⟨(x : Int), (y : Int), 0⟩ (by dsimp only; omega) (by dsimp only; omega) (by dsimp only; omega)
    dsimp only at h
    rw [ht] at h
    exact h
  have hk2 : (Instr.lookup 214 (.map (some md)) (.agg #[.int .i64 x, .int .i64 y, .int .i64 0]) false).run Try.prog W1 = .ok (.bool m) W1 := by
    have w1 := spotWf (x := (x : Int)) (y := (y : Int)) (by omega) (by omega)
    have w2 := spotWf (x := ((0 : Nat) : Int)) (y := 0) (by omega) (by omega)
    have h := (hgd.ext hx1).look Try.edgKey edgMap (zeroBool W1) (p := ⟨(x : Int), (y : Int), 0⟩) (edgKeyOf w1.1 w1.2 w2.1)
    rw [hdn.1 _] at h
    unfold mdB at hm
    rw [hm] at h
    exact h
  cases t
  · have HN : Hid (BoSt w p4 p5 p3 mo md go f W (y * W + x + 1) W1) := HS1.out.no hx (Or.inl ht)
    clear hS hgd hdn HS1 ht hm hx1 hgo hbx
    go_enter Try.func208, Try.ntmps208
    go_upto_region 1 with fail
    rw [← hW1]
    clear hW1
    go_wp2
    go_end0
    exact ⟨rfl, HN.out⟩
  · cases m
    · obtain ⟨v, h3', hg'⟩ := hS.g
      have h3 := h3'.ext hx1
      have hg : GrowBd w.heap.size W1 v (brds f W (y * W + x)) := World.ownsRow.ext hg' hx1
      have hvn : some wr.heap.size ≠ v.ownBlock := fun e => by have := (World.ownsRow.lt hg' _ e.symm).2; omega
      have h3n : p3 ≠ wr.heap.size := by have := h3'.lt; omega
      clear h3' hg'
      have hok : EOk f ⟨(x : Int), (y : Int), 0⟩ := ⟨by show 0 < 4; omega, ht⟩
      have hxx : brds f W (y * W + x + 1) = brds f W (y * W + x) ++ [((x : Int), (y : Int), wrd f ⟨(x : Int), (y : Int), 0⟩)] := brds_yes hx ht hm
      have HFOL : Hid (∀ w', W1.Ext w' → Calls Try.prog 209 #[.map (some mo), .agg #[.int .i64 x, .int .i64 y, .int .i64 0], .map (some md)] w' fun e w2 => e = .returned (.agg #[.int .i64 x, .int .i64 y, .string (wrd f ⟨(x : Int), (y : Int), 0⟩)]) ∧ Wrote (fun k => k = md) w' w2 ∧ MapE w2 Try.prog 180 md (dnM f ⟨(x : Int), (y : Int), 0⟩ (per f ⟨(x : Int), (y : Int), 0⟩) gd)) := fun w' hx' =>
        follow_any mo md f go gd x y boxE w' hbx hok (HS1.out.mo.ext hx') hgo ((hgd.ext hx1).ext hx') (fun e v he => boxE_mem hbx (hdn.2 e v he)) (by rw [boxE_len]; omega) hne
      have hkb : y * W + x < 256 := by
        have := Nat.mul_le_mul (show y ≤ 15 by omega) hW
        omega
      have hbl := brds_len f W (y * W + x)
      have HB1 : Hid ((brds f W (y * W + x)).length + 1 ≤ maxLen) := by show _ ≤ _; unfold maxLen; omega
      have HB2 : Hid (((brds f W (y * W + x)).length + 1) * 32 ≤ 140737488355328) := by show _ ≤ _; omega
      have HM : Hid (∀ w' w2, W1.Ext w' → Wrote (fun k => k = md) w' w2 → MapE w2 Try.prog 180 md (dnM f ⟨(x : Int), (y : Int), 0⟩ (per f ⟨(x : Int), (y : Int), 0⟩) gd) → w.Ext w2 ∧ One w2 p4 214 (.map (some mo)) ∧ One w2 p5 214 (.map (some md)) ∧ MapE w2 Try.prog 180 mo go ∧ One w2 p3 76 v ∧ GrowBd w.heap.size w2 v (brds f W (y * W + x)) ∧
          w2.cell? ⟨wr.heap.size, 0, none⟩ = some (.int .i64 x) ∧ w2.cell? ⟨wr.heap.size, 1, none⟩ = some (.int .i64 y) ∧ w2.cell? ⟨wr.heap.size, 2, none⟩ = some (.int .i64 0)) := fun w' w2 hx' hw hmm => by
        have s4 : W1.heap[p4]? = _ := HS1.out.c4
        have s5 : W1.heap[p5]? = _ := HS1.out.c5
        have s3 : W1.heap[p3]? = _ := h3
        have hmd := hgd.ext hx1
        have nb : wr.heap.size ≠ md := by have := hgd.lt; omega
        refine ⟨(HS1.out.x.trans hx').wroteNew hw fun k h1 h2 => by omega, (HS1.out.c4.ext hx').keep (hw.block _ (HS1.out.c4.ext hx').lt (hmd.ne s4)), (HS1.out.c5.ext hx').keep (hw.block _ (HS1.out.c5.ext hx').lt (hmd.ne s5)), (HS1.out.mo.ext hx').keep (hw.block _ (HS1.out.mo.ext hx').lt hne), (h3.ext hx').keep (hw.block _ (h3.ext hx').lt (hmd.ne s3)),
          World.ownsRow.keep (World.ownsRow.ext hg hx') fun k hk => hw.block k (World.ownsRow.lt (World.ownsRow.ext hg hx') k hk).2 fun e => hmd.neRow hg (by rw [hk, ← e]), hw.cell (hx'.cell g0) nb, hw.cell (hx'.cell g1) nb, hw.cell (hx'.cell g2) nb⟩
      have HDN : Hid (DnOk f W (y * W + x + 1) (dnM f ⟨(x : Int), (y : Int), 0⟩ (per f ⟨(x : Int), (y : Int), 0⟩) gd)) := hdn.yes hx ht hm
      have HEND : Hid (∀ (w2 w3 : World) (o : Obj) (v' : Value), w.Ext w2 → One w2 p4 214 (.map (some mo)) → One w2 p5 214 (.map (some md)) → MapE w2 Try.prog 180 mo go → One w2 p3 76 v → GrowBd w.heap.size w2 v (brds f W (y * W + x)) → MapE w2 Try.prog 180 md (dnM f ⟨(x : Int), (y : Int), 0⟩ (per f ⟨(x : Int), (y : Int), 0⟩) gd) →
          (w2.alloc o).grownBy w3 v.ownBlock → w3.ownsRow w.heap.size 69 3 v' ((brds f W (y * W + x)).length + 1) (flatB (brds f W (y * W + x)) ++ [.int .i64 x, .int .i64 y, .string (wrd f ⟨(x : Int), (y : Int), 0⟩)]) →
          w2.cell? ⟨wr.heap.size, 0, none⟩ = some (.int .i64 x) → w2.cell? ⟨wr.heap.size, 1, none⟩ = some (.int .i64 y) → w2.cell? ⟨wr.heap.size, 2, none⟩ = some (.int .i64 0) → (w3.cell? ⟨p4, 0, none⟩ = some (.map (some mo)) ∧ w3.cell? ⟨p5, 0, none⟩ = some (.map (some md)) ∧ w3.cell? ⟨wr.heap.size, 0, none⟩ = some (.int .i64 x) ∧ w3.cell? ⟨wr.heap.size, 1, none⟩ = some (.int .i64 y) ∧ w3.cell? ⟨wr.heap.size, 2, none⟩ = some (.int .i64 0)) ∧ w3.cell? ⟨p3, 0, none⟩ = some v ∧ w3.frozen? ⟨p3, 0, none⟩ = false ∧ ((w3.setCell ⟨p3, 0, none⟩ v').cell? ⟨p4, 0, none⟩ = some (.map (some mo)) ∧ (w3.setCell ⟨p3, 0, none⟩ v').cell? ⟨p5, 0, none⟩ = some (.map (some md)) ∧ (w3.setCell ⟨p3, 0, none⟩ v').cell? ⟨wr.heap.size, 0, none⟩ = some (.int .i64 x) ∧ (w3.setCell ⟨p3, 0, none⟩ v').cell? ⟨wr.heap.size, 1, none⟩ = some (.int .i64 y) ∧ (w3.setCell ⟨p3, 0, none⟩ v').cell? ⟨wr.heap.size, 2, none⟩ = some (.int .i64 0)) ∧ BoSt w p4 p5 p3 mo md go f W (y * W + x + 1) (w3.setCell ⟨p3, 0, none⟩ v')) := fun w2 w3 o v' hX q4 q5 qo q3 qg qm hgr hown n0 n1 n2 => by
        have hxa : w2.Ext (w2.alloc o) := by repeat (first | exact World.Ext.refl _ | exact ⟨_, rfl⟩ | assumption | refine World.Ext.over ?_ _ | refine World.Ext.drewN ?_ _ | refine World.Ext.drew ?_ | refine World.Ext.alloc ?_ _ | refine World.Ext.setCell ?_ (by simp) _)
        have a3 := (q3.ext hxa).grown hgr (World.ownsRow.ne qg q3 (by decide))
        have a4 := (q4.ext hxa).grown hgr (World.ownsRow.ne qg q4 (by decide))
        have a5 := (q5.ext hxa).grown hgr (World.ownsRow.ne qg q5 (by decide))
        have ao := (qo.ext hxa).grown hgr (qo.neRow qg)
        have am := (qm.ext hxa).grown hgr (qm.neRow qg)
        have ag : GrowBd w.heap.size w3 v' (brds f W (y * W + x) ++ [((x : Int), (y : Int), wrd f ⟨(x : Int), (y : Int), 0⟩)]) := GrowBd.push hown
        have s3 : w3.heap[p3]? = _ := a3
        have o0 := hgr.cell (hxa.cell n0) hvn
        have o1 := hgr.cell (hxa.cell n1) hvn
        have o2 := hgr.cell (hxa.cell n2) hvn
        have hoth : ∀ (i : Nat) (u : Value), w3.cell? ⟨wr.heap.size, i, none⟩ = some u → (w3.setCell ⟨p3, 0, none⟩ v').cell? ⟨wr.heap.size, i, none⟩ = some u := fun i u hu => by rw [World.cell?_of_block (a := ⟨wr.heap.size, i, none⟩) (Below.heap_setCell _ _ _ _ (fun e => h3n e.symm))]; exact hu
        refine ⟨⟨a4.cell, a5.cell, o0, o1, o2⟩, a3.cell, a3.free, ⟨(a4.other (a := ⟨p3, 0, none⟩) h34 _).cell, (a5.other (a := ⟨p3, 0, none⟩) h35 _).cell, hoth _ _ o0, hoth _ _ o1, hoth _ _ o2⟩, ?_, a4.other (a := ⟨p3, 0, none⟩) h34 _, a5.other (a := ⟨p3, 0, none⟩) h35 _, ao.setCell (a := ⟨p3, 0, none⟩) (ao.ne s3) _, ⟨_, am.setCell (a := ⟨p3, 0, none⟩) (am.ne s3) _, HDN.out⟩, v', a3.set v', ?_⟩
        · exact ((hX.trans hxa).grown hgr fun k hk => (World.ownsRow.lt qg k hk).1).setCell (p := ⟨p3, 0, none⟩) hl3 v'
        · rw [hxx]
          exact World.ownsRow.keep ag fun k hk => Below.heap_setCell _ _ _ _ fun e => World.ownsRow.ne ag s3 (by decide) (by rw [hk, e])
      have c3 := h3.cell
      have l3 := h3.lt
      have HLE : Hid (∀ w2 : World, w.Ext w2 → ∀ o : Obj, w.heap.size ≤ (w2.alloc o).heap.size) := fun w2 hX o => (hX.alloc o).size
      clear hS hgd hdn HS1 ht hm hx1 hgo hbx hok hxx h3 hg hbl hkb HDN
      generalize wrd f ⟨(x : Int), (y : Int), 0⟩ = word at *
      generalize dnM f ⟨(x : Int), (y : Int), 0⟩ (per f ⟨(x : Int), (y : Int), 0⟩) gd = gd' at *
      generalize brds f W (y * W + x) = bs at *
      go_enter Try.func208, Try.ntmps208
      go_upto_region 1 with fail
      rw [← hW1]
      clear hW1
      go_upto_region 2 with fail
      go_region_law (first
        | (refine step_append_mine rfl _ _ 76 rfl w.heap.size 69 d0' (.agg #[.int .i64 0, .int .i64 0, .string ⟨#[]⟩]) 3 32 Try.underlying76 hd hy0 hy1 hy2 rfl (by decide) v _ _ rfl (World.ownsRow.ext HG2.out (by repeat (first | exact World.Ext.refl _ | exact ⟨_, rfl⟩ | assumption | refine World.Ext.over ?_ _ | refine World.Ext.drewN ?_ _ | refine World.Ext.drew ?_ | refine World.Ext.alloc ?_ _ | refine World.Ext.setCell ?_ (by simp) _))) ⟨w2.heap.size, 0, none⟩ 1 1 [.int .i64 x, .int .i64 y, .string word] rfl rfl (cell3_at (by simp)) (by simp [Value.oneCell']) HB1.out HB2.out (HLE.out _ HX2.out _) (fun v' w3 hown3 hgrow hat => ?_); obtain ⟨hk9, c39, k2, hk10, hs3⟩ := HEND.out w2 w3 _ v' HX2.out H4.out H5.out HO2.out H3.out HG2.out HM2.out hgrow hown3 HN0.out HN1.out HN2.out; have HS3 := Lib.hid hs3; obtain ⟨a7, c7, rfl, _⟩ := World.ownsRow.form hown3; have l39 := World.block_lt_of_cell? _ _ c39; clear hown3 hgrow hat hs3 hk9 hk10)
        | (go_simp; go_at_call 209; (refine (HFOL.out _ (by repeat (first | exact World.Ext.refl _ | exact ⟨_, rfl⟩ | assumption | refine World.Ext.over ?_ _ | refine World.Ext.drewN ?_ _ | refine World.Ext.drew ?_ | refine World.Ext.alloc ?_ _ | refine World.Ext.setCell ?_ (by simp) _))).mono ?_; rintro e w2 ⟨rfl, hw2, hm2⟩; obtain ⟨mX, m4, m5, mo2, m3, mg, n0, n1, n2⟩ := HM.out _ w2 (by repeat (first | exact World.Ext.refl _ | exact ⟨_, rfl⟩ | assumption | refine World.Ext.over ?_ _ | refine World.Ext.drewN ?_ _ | refine World.Ext.drew ?_ | refine World.Ext.alloc ?_ _ | refine World.Ext.setCell ?_ (by simp) _)) hw2 hm2; have c32 := m3.cell; have l32 := m3.lt; have HX2 := Lib.hid mX; have H4 := Lib.hid m4; have H5 := Lib.hid m5; have HO2 := Lib.hid mo2; have H3 := Lib.hid m3; have HG2 := Lib.hid mg; have HM2 := Lib.hid hm2; have HN0 := Lib.hid n0; have HN1 := Lib.hid n1; have HN2 := Lib.hid n2; clear mX m4 m5 mo2 m3 mg n0 n1 n2 hw2 hm2))
        | fail)
      all_goals
        go_wp2
        go_end0
        exact ⟨rfl, HS3.out⟩
    · have HN : Hid (BoSt w p4 p5 p3 mo md go f W (y * W + x + 1) W1) := HS1.out.no hx (Or.inr hm)
      clear hS hgd hdn HS1 ht hm hx1 hgo hbx
      go_enter Try.func208, Try.ntmps208
      go_upto_region 1 with fail
      rw [← hW1]
      clear hW1
      go_wp2
      go_end0
      exact ⟨rfl, HN.out⟩
end Go.Proofs.Ytahhnjoeaodcjaa
