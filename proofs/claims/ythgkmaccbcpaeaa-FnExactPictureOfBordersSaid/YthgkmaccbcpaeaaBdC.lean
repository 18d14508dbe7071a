/- Borders: the program's steps of one. -/
import Derived.Test.YthgkmaccbcpaeaaBdB
import Derived.Test.YthgkmaccbcpaeaaBdA
import Derived.Test.YthgkmaccbcpaeaaLDs
import Derived.Deep.RegionHeld3
import Derived.Lib.Bytealg
namespace Go.Proofs.Ythgkmaccbcpaeaa
open Go Go.RowKit
def edgT (e : Edg) : Int × Int × Int := (e.x, e.y, (e.k : Int))
def edgsL (f : Int → Int → Bool) (e : Edg) (n : Nat) : List (Int × Int × Int) := (List.range n).map fun i => edgT (itr f i e)
theorem edgsL_len (f : Int → Int → Bool) (e : Edg) (n : Nat) : (edgsL f e n).length = n := by simp [edgsL]
theorem edgsL_succ (f : Int → Int → Bool) (e : Edg) (n : Nat) : edgsL f e (n + 1) = edgsL f e n ++ [edgT (itr f n e)] := by simp [edgsL, List.range_succ]
theorem edgsL_at {f : Int → Int → Bool} {e : Edg} {n i : Nat} (h : i < n) : (edgsL f e n).getD i (0, 0, 0) = edgT (itr f i e) := by
  simp [edgsL, List.getD_eq_getElem?_getD, h]
theorem edgT_inj {e e' : Edg} (h : edgT e = edgT e') : e = e' := by
  unfold edgT at h
  simp only [Prod.mk.injEq] at h
  exact Edg.eq_of h.1 h.2.1 (by omega)
theorem edgs_any (f : Int → Int → Bool) (e t : Edg) : ((edgsL f e (per f e)).any fun d => decide (d = edgT t)) = inOrb f e t := by
  unfold edgsL inOrb
  rw [List.any_map]
  congr 1
  funext i
  simp only [Function.comp]
  rw [decide_eq_decide]
  exact ⟨fun h => edgT_inj h, fun h => by rw [h]⟩
theorem Try.infoEdge : (Try.prog.info? 149).map (fun i => (i.zero, i.size, i.bytes)) = some (some (.agg #[.int .i64 0, .int .i64 0, .int .i64 0]), 3, 24) := by kernel_rfl
theorem edg3_at {w : World} {u v x : Value} {e : TypeId} {p : Nat} (hp : p = w.heap.size) : ∀ (j : Nat) (y : Value), [u, v, x][j]? = some y → (w.alloc (.cells #[u, v, x] e)).cell? ((⟨p, 0, none⟩ : Addr).add j) = some y := by
  subst hp
  intro j y hj
  rw [Addr.add_mk]
  match j, hj with
  | 0, hj => simp at hj; subst hj; simp [go_sem]
  | 1, hj => simp at hj; subst hj; simp [go_sem]
  | 2, hj => simp at hj; subst hj; simp [go_sem]
set_option maxRecDepth 100000 in
set_option maxHeartbeats 1600000 in
theorem stepOf_any (k : Nat) (w : World) (hk : k < 4) : Calls Try.prog 188 #[.int .u8 (letN k : Nat)] w fun e w' => e = .returned (.int .i64 (k : Int)) ∧ w.Ext w' := by
  have h4 : k = 0 ∨ k = 1 ∨ k = 2 ∨ k = 3 := by omega
  have HK : Hid (Lib.indexByte (⟨#[114, 100, 108, 117]⟩ : ByteArray).data.toList ((letN k : Nat) : Int).toNat.toUInt8 = (k : Int)) := by
    show _ = _
    rcases h4 with rfl | rfl | rfl | rfl <;> decide
  generalize ((letN k : Nat) : Int) = z at *
  go_enter Try.func188, Try.ntmps188
  go_wp2
  rw [run_callFunc_extern Try.func267 (by kernel_rfl) (by kernel_rfl) (by kernel_rfl) (e := Extern.BytealgIndexByte.indexByte) (by kernel_rfl), Lib.run_indexByteString]
  simp only [Result.andThen]
  rw [Oper.upon_value]
  go_wp2
  go_ret
  exact ⟨by rw [HK.out]; rfl, .refl _⟩
/-- Steps under way, and the corner. -/
structure EdSt (w : World) (p5 : Nat) (v : Value) (ds : List (Int × Int × Int)) (X Y : Int) (wr : World) : Prop where
  x : w.Ext wr
  r : Two wr p5 45 (.int .i64 X) (.int .i64 Y)
  lo : w.heap.size ≤ p5
  g : GrowD w.heap.size 149 wr v ds
section
variable {w wr w' : World} {p5 : Nat} {v v' : Value} {ds : List (Int × Int × Int)} {x y : Int}
theorem EdSt.ext (h : EdSt w p5 v ds x y wr) (hx : wr.Ext w') : EdSt w p5 v ds x y w' := ⟨h.x.trans hx, h.r.ext hx, h.lo, h.g.ext hx⟩
theorem EdSt.one (w : World) (x y : Int) : EdSt w (w.heap.size + 1) (.slice (some ⟨w.heap.size, 0, none⟩) 0 0) [] x y ((w.alloc (.cells #[] 149)).alloc (.cells #[.int .i64 x, .int .i64 y] 45)).drew := by
  refine ⟨by repeat (first | exact World.Ext.refl _ | exact ⟨_, rfl⟩ | assumption | refine World.Ext.over ?_ _ | refine World.Ext.drewN ?_ _ | refine World.Ext.drew ?_ | refine World.Ext.alloc ?_ _ | refine World.Ext.setCell ?_ (by simp) _), (Two.new (w.alloc (.cells #[] 149)) (.int .i64 x) (.int .i64 y) 45 (w.heap.size + 1) (by simp)).ext (by repeat (first | exact World.Ext.refl _ | exact ⟨_, rfl⟩ | assumption | refine World.Ext.over ?_ _ | refine World.Ext.drewN ?_ _ | refine World.Ext.drew ?_ | refine World.Ext.alloc ?_ _ | refine World.Ext.setCell ?_ (by simp) _)), by omega, (GrowD.empty (lo := w.heap.size) (e := 149) w (Nat.le_refl _)).ext (by repeat (first | exact World.Ext.refl _ | exact ⟨_, rfl⟩ | assumption | refine World.Ext.over ?_ _ | refine World.Ext.drewN ?_ _ | refine World.Ext.drew ?_ | refine World.Ext.alloc ?_ _ | refine World.Ext.setCell ?_ (by simp) _))⟩
theorem EdSt.two (w : World) (x y : Int) : EdSt w w.heap.size (.slice (some ⟨w.heap.size + 1, 0, none⟩) 0 0) [] x y ((w.alloc (.cells #[.int .i64 x, .int .i64 y] 45)).alloc (.cells #[] 149)).drew := by
  have hg := GrowD.empty (lo := w.heap.size) (e := 149) (w.alloc (.cells #[.int .i64 x, .int .i64 y] 45)) (by simp)
  have hs : (w.alloc (.cells #[.int .i64 x, .int .i64 y] 45)).heap.size = w.heap.size + 1 := by simp
  rw [hs] at hg
  exact ⟨by repeat (first | exact World.Ext.refl _ | exact ⟨_, rfl⟩ | assumption | refine World.Ext.over ?_ _ | refine World.Ext.drewN ?_ _ | refine World.Ext.drew ?_ | refine World.Ext.alloc ?_ _ | refine World.Ext.setCell ?_ (by simp) _), (Two.new w (.int .i64 x) (.int .i64 y) 45 w.heap.size rfl).ext (by repeat (first | exact World.Ext.refl _ | exact ⟨_, rfl⟩ | assumption | refine World.Ext.over ?_ _ | refine World.Ext.drewN ?_ _ | refine World.Ext.drew ?_ | refine World.Ext.alloc ?_ _ | refine World.Ext.setCell ?_ (by simp) _)), Nat.le_refl _, hg.ext (by repeat (first | exact World.Ext.refl _ | exact ⟨_, rfl⟩ | assumption | refine World.Ext.over ?_ _ | refine World.Ext.drewN ?_ _ | refine World.Ext.drew ?_ | refine World.Ext.alloc ?_ _ | refine World.Ext.setCell ?_ (by simp) _))⟩
end
set_option maxRecDepth 5000 in
set_option maxHeartbeats 6400000 in
theorem edges_any (pb : Nat) (f : Int → Int → Bool) (e : Edg) (w : World) (hbx : InBx f 16 16) (hok : EOk f e)
    (c0 : w.cell? ⟨pb, 0, none⟩ = some (.int .i64 e.x)) (c1 : w.cell? ⟨pb, 1, none⟩ = some (.int .i64 e.y)) (c2 : w.cell? ⟨pb, 2, none⟩ = some (.string (wrd f e))) :
    Calls Try.prog 103 #[.pointer (some ⟨pb, 0, none⟩)] w fun e' w' => ∃ a c, e' = .returned (.tuple #[.slice a (edgsL f e (per f e)).length c, .bool true]) ∧ w.Ext w' ∧ OwnD w.heap.size w'.heap.size w' a (edgsL f e (per f e)) := by
  obtain ⟨ie, hi, hz0, hz1, hz2⟩ := info_parts Try.infoEdge
  have hper := per_of hbx (Nat.le_refl _) (Nat.le_refl _) hok
  have HBX : Hid (∀ i, 0 ≤ (itr f i e).x ∧ (itr f i e).x ≤ 16 ∧ 0 ≤ (itr f i e).y ∧ (itr f i e).y ≤ 16) := fun i => hbx.edge (itr_ok hok i)
  have HK4 : Hid (∀ i, (itr f i e).k < 4) := fun i => (itr_ok hok i).1
  have HSTEP : Hid (∀ i, (itr f (i + 1) e).x = (itr f i e).x + dX (itr f i e).k ∧ (itr f (i + 1) e).y = (itr f i e).y + dY (itr f i e).k) := fun i => ⟨(itr_step (f := f) e i).1, (itr_step (f := f) e i).2.1⟩
  have HLET : Hid (∀ i, i < per f e → ∃ hs : i < (wrd f e).size, (((wrd f e)[i]'hs).toNat : Nat) = letN (itr f i e).k) := fun i hi => wrd_at hi
  have HSZ : Hid ((wrd f e).size = per f e) := wrd_size f e
  have HSU : Hid (∀ i, edgsL f e (i + 1) = edgsL f e i ++ [((itr f i e).x, (itr f i e).y, ((itr f i e).k : Int))]) := fun i => edgsL_succ f e i
  have HLN : Hid (∀ i, (edgsL f e i).length = i) := fun i => edgsL_len f e i
  have hn : per f e ≤ 1200 := hper.2
  have HEND : Hid ((itr f (per f e) e).x = e.x ∧ (itr f (per f e) e).y = e.y) := by rw [hper.1.2.1]; exact ⟨rfl, rfl⟩
  have HX0 : Hid ((itr f 0 e).x = e.x ∧ (itr f 0 e).y = e.y) := ⟨rfl, rfl⟩
  have HZ : Hid (edgsL f e 0 = []) := rfl
  clear hper hbx hok
  generalize per f e = n at *
  generalize wrd f e = word at *
  generalize hX : (fun i => (itr f i e).x) = X at *
  generalize hY : (fun i => (itr f i e).y) = Y at *
  generalize hKK : (fun i => (itr f i e).k) = K at *
  have eX : ∀ i, (itr f i e).x = X i := fun i => congrFun hX i
  have eY : ∀ i, (itr f i e).y = Y i := fun i => congrFun hY i
  have eK : ∀ i, (itr f i e).k = K i := fun i => congrFun hKK i
  generalize edgsL f e = DL at *
  simp only [eX, eY, eK] at HBX HK4 HSTEP HLET HSU HX0 HEND
  clear hX hY hKK eX eY eK
  generalize e.x = ex at *
  generalize e.y = ey at *
  have HCB : Hid (∀ wr, w.Ext wr → wr.cell? ⟨pb, 0, none⟩ = some (.int .i64 ex) ∧ wr.cell? ⟨pb, 1, none⟩ = some (.int .i64 ey) ∧ wr.cell? ⟨pb, 2, none⟩ = some (.string word)) := fun wr hx => ⟨hx.cell c0, hx.cell c1, hx.cell c2⟩
  have HMV := Lib.hid (fun (i : Nat) (w' : World) => moved_any (X i) (Y i) (K i) w' (HK4.out i) (by have := HBX.out i; omega) (by have := HBX.out i; omega))
  have lb := World.block_lt_of_cell? _ _ c0
  have hE : w.Ext w := .refl _
  go_enter Try.func103, Try.ntmps103
  go_upto_region 1 with fail
  go_cut [4, 5] (fun u4 u5 wc => ∃ p5, u5 = .pointer (some ⟨p5, 0, none⟩) ∧ EdSt w p5 u4 [] ex ey wc)
  case first =>
    go_region_held3 (fun w' => w'.cell? ⟨pb, 0, none⟩ = some (.int .i64 ex) ∧ w'.cell? ⟨pb, 1, none⟩ = some (.int .i64 ey))
      (first | (refine ⟨World.Ext.cell ?_ c0, World.Ext.cell ?_ c1⟩ <;> ((repeat (first | exact World.Ext.refl _ | exact ⟨_, rfl⟩ | assumption | refine World.Ext.over ?_ _ | refine World.Ext.drewN ?_ _ | refine World.Ext.drew ?_ | refine World.Ext.alloc ?_ _ | refine World.Ext.setCell ?_ ?_ _ | (simp; done))); done)) | (go_keep))
      (fail)
    all_goals
      go_wp2_with fail
      go_meet
      first
        | exact ⟨_, rfl, EdSt.one _ _ _⟩
        | exact ⟨_, rfl, EdSt.two _ _ _⟩
  case rest =>
    obtain ⟨p5, rfl, hs⟩ := hcut
    obtain ⟨a0, cc0, rfl, -⟩ := hs.g.form
    have HST : Hid (EdSt w p5 (.slice a0 0 cc0) (DL 0) (X 0) (Y 0) wc) := by
      rw [HZ.out, HX0.out.1, HX0.out.2]; exact hs
    obtain ⟨q0, q1, q2⟩ := HCB.out wc hs.x
    have lq := World.block_lt_of_cell? _ _ q0
    clear hs c0 c1 c2 lb hE
    go_wp2
    clear q0 q1 q2 lq
    go_loopw [4, 6, 7, 18] (fun v _ _ z wr => ∃ i : Nat, i ≤ n ∧ z = .int .i64 i ∧ Hid (EdSt w p5 v (DL i) (X i) (Y i) wr)) (fun _ _ _ z _ => n - (intOf z).toNat)
    case atStart => exact ⟨0, Nat.zero_le _, rfl, HST⟩
    case round =>
      clear HST
      obtain ⟨i, hi', rfl, HS⟩ := hrel
      obtain ⟨wo, rfl⟩ : ∃ wo : World, wo = wr := ⟨_, rfl⟩
      obtain ⟨q0, q1, q2⟩ := HCB.out wo HS.out.x
      have lq := World.block_lt_of_cell? _ _ q0
      have hsz : word.size = n := HSZ.out
      have hi0 : (0 : Int) ≤ (i : Int) := by omega
      by_cases hin : i < n
      · obtain ⟨hs, hlet⟩ := HLET.out i hin
        have hin' : (i : Int) < (word.size : Int) := by omega
        have hk4 := HK4.out i
        obtain ⟨bx1, bx2, bx3, bx4⟩ := HBX.out i
        obtain ⟨hX1, hY1⟩ := HSTEP.out i
        have HX1 := Lib.hid hX1
        have HY1 := Lib.hid hY1
        have HST2 : Hid (∀ w', Calls Try.prog 188 #[.int .u8 (((word[i]'hs).toNat : Nat) : Int)] w' fun e w'' => e = .returned (.int .i64 (K i : Int)) ∧ w'.Ext w'') := fun w' => by rw [hlet]; exact stepOf_any (K i) w' hk4
        clear hX1 hY1 hlet hsz
        go_wp2_with fail
        refine (HST2.out _).mono ?_
        rintro e1 w1 ⟨rfl, hx1⟩
        have HS1 := Lib.hid (HS.out.ext hx1)
        have d0 := HS1.out.r.cell0
        have d1 := HS1.out.r.cell1
        have ld := HS1.out.r.lt
        have hkn : ¬ ((K i : Nat) : Int) < 0 := by omega
        have hlen := HLN.out i
        have hown : w1.ownsRow w.heap.size 149 3 u4 (DL i).length ((flatD (DL i)).map (Value.int .i64)) := HS1.out.g
        have HB1 : Hid ((DL i).length + 1 ≤ maxLen) := by show _ ≤ _; unfold maxLen; omega
        have HB2 : Hid (((DL i).length + 1) * 24 ≤ 140737488355328) := by show _ ≤ _; omega
        have HLE : ∀ o' : Obj, w.heap.size ≤ (w1.alloc o').heap.size := fun o' => (HS1.out.x.alloc o').size
        have HNEXT : Hid (∀ (o : Obj) (v' : Value) (w2 : World), (w1.alloc o).grownBy w2 u4.ownBlock → w2.ownsRow w.heap.size 149 3 v' ((DL i).length + 1) ((flatD (DL i)).map (Value.int .i64) ++ [.int .i64 (X i), .int .i64 (Y i), .int .i64 (K i : Int)]) → EdSt w p5 v' (DL (i + 1)) (X i) (Y i) w2) := fun o v' w2 hg ho => by
          have hxa : w1.Ext (w1.alloc o) := by repeat (first | exact World.Ext.refl _ | exact ⟨_, rfl⟩ | assumption | refine World.Ext.over ?_ _ | refine World.Ext.drewN ?_ _ | refine World.Ext.drew ?_ | refine World.Ext.alloc ?_ _ | refine World.Ext.setCell ?_ (by simp) _)
          have hr : w1.heap[p5]? = _ := HS1.out.r
          refine ⟨(HS1.out.x.trans hxa).grown hg fun k hk => (World.ownsRow.lt HS1.out.g k hk).1, (HS1.out.r.ext hxa).keep (hg.block p5 (by have := HS1.out.r.lt; simp; omega) (World.ownsRow.ne HS1.out.g hr (by decide))), HS1.out.lo, ?_⟩
          rw [HSU.out i]
          exact GrowD.push ho
        clear hx1 HS hlen HST2 q0 q1 q2 lq
        go_wp2_with (at_builtin; refine wpList_append_own _ rfl _ _ 145 rfl w.heap.size 149 ie (.agg #[.int .i64 0, .int .i64 0, .int .i64 0]) 3 24 Try.underlying145 hi hz0 hz1 hz2 rfl (by decide) _ _ _ rfl (hown.alloc _) ⟨w1.heap.size, 0, none⟩ 1 1 [.int .i64 (X i), .int .i64 (Y i), .int .i64 (K i : Int)] rfl rfl (edg3_at (by simp)) (by simp [Value.oneCell']) HB1.out HB2.out (HLE _) (fun v' w2 hown' hgrow _ => ?_); have hs2 := HNEXT.out _ _ _ hgrow hown'; obtain ⟨a3, c3, rfl, -⟩ := hs2.g.form; have HS2 := Lib.hid hs2; clear hs2 hgrow hown' hown HS1 d0 d1 ld HNEXT; have d0 := HS2.out.r.cell0; have d1 := HS2.out.r.cell1; have ld := HS2.out.r.lt)
        refine (HMV.out i w2).mono ?_
        rintro e2 w3 ⟨rfl, hx3⟩
        rw [← HX1.out, ← HY1.out]
        have HS3 := Lib.hid (HS2.out.ext hx3)
        clear hx3 HS2 d0 d1 ld
        have d0 := HS3.out.r.cell0
        have d1 := HS3.out.r.cell1
        have f0 := HS3.out.r.free 0
        have f1 := HS3.out.r.free 1
        have ld := HS3.out.r.lt
        have HS4 : Hid (EdSt w p5 (.slice a3 (DL (i + 1)).length c3) (DL (i + 1)) (X (i + 1)) (Y (i + 1)) ((w3.setCell ⟨p5, 0, none⟩ (.int .i64 (X (i + 1)))).setCell ⟨p5, 1, none⟩ (.int .i64 (Y (i + 1))))) := by
          have hlo := HS3.out.lo
          have hr : w3.heap[p5]? = _ := HS3.out.r
          refine ⟨(HS3.out.x.setCell (p := ⟨p5, 0, none⟩) hlo _).setCell (p := ⟨p5, 1, none⟩) hlo _, two_put1 (two_put0 HS3.out.r _) _, hlo, ?_⟩
          exact World.ownsRow.keep HS3.out.g fun k hk => by
            have hne : k ≠ p5 := fun e => World.ownsRow.ne HS3.out.g hr (by decide) (by rw [hk, e])
            rw [Below.heap_setCell _ _ _ _ hne, Below.heap_setCell _ _ _ _ hne]
        clear HS3
        go_wp2
        go_roundw
        case rel => exact ⟨i + 1, by omega, by go_num, HS4⟩
        case measure => simp [intOf]; omega
      · have hie : i = n := by omega
        have hnl : ¬ (i : Int) < (word.size : Int) := by omega
        obtain ⟨a9, c9, rfl, -⟩ := HS.out.g.form
        have d0 := HS.out.r.cell0
        have d1 := HS.out.r.cell1
        have ld := HS.out.r.lt
        rw [hie, HEND.out.1] at d0
        rw [hie, HEND.out.2] at d1
        have HR : Hid (w.Ext wo ∧ OwnD w.heap.size wo.heap.size wo a9 (DL i)) := ⟨HS.out.x, GrowD.own HS.out.g⟩
        rw [hie] at HR ⊢
        clear HS hsz hin hie
        have f1 : (ex == ex && ey == ey) = true := by simp
        go_wp2_with fail
        refine wp_region_over_lit (by kernel_rfl) (by kernel_rfl) ?_; (repeat (go_big_quiet_step (fail))); refine wpQuiet_nil ?_; rintro _ ⟨x1, rfl⟩
        have HR2 : Hid (w.Ext (wo.over x1) ∧ OwnD w.heap.size (wo.over x1).heap.size (wo.over x1) a9 (DL n)) := ⟨HR.out.1.over x1, (HR.out.2.ext ⟨x1, rfl⟩).mono (Nat.le_refl _) (World.Ext.size ⟨x1, rfl⟩)⟩
        go_wp2
        go_ret2
        exact ⟨a9, c9, rfl, HR2.out.1, HR2.out.2⟩
set_option maxRecDepth 5000 in
set_option maxHeartbeats 3200000 in
theorem indexE_any (a : Option Addr) (c : Nat) (ds : List (Int × Int × Int)) (d : Int × Int × Int) (w : World) (hn : ds.length ≤ 1200) (hr : RowD w a ds) :
    Calls Try.prog 190 #[.slice a ds.length c, .agg #[.int .i64 d.1, .int .i64 d.2.1, .int .i64 d.2.2]] w fun e w' => ∃ z : Int, e = .returned (.int .i64 z) ∧ w.Ext w' ∧ (z ≥ 0 ↔ (ds.any fun x => decide (x = d)) = true) := by
  obtain ⟨e0, e1, e2⟩ := d
  dsimp only
  obtain ⟨W0, hW0⟩ : ∃ W0, W0 = w.alloc (.cells #[.int .i64 e0, .int .i64 e1, .int .i64 e2] 149) := ⟨_, rfl⟩
  have hx0 : w.Ext W0 := by rw [hW0]; repeat (first | exact World.Ext.refl _ | exact ⟨_, rfl⟩ | assumption | refine World.Ext.over ?_ _ | refine World.Ext.drewN ?_ _ | refine World.Ext.drew ?_ | refine World.Ext.alloc ?_ _ | refine World.Ext.setCell ?_ (by simp) _)
  have HB : Hid (∀ wr, W0.Ext wr → wr.cell? ⟨w.heap.size, 0, none⟩ = some (.int .i64 e0) ∧ wr.cell? ⟨w.heap.size, 1, none⟩ = some (.int .i64 e1) ∧ wr.cell? ⟨w.heap.size, 2, none⟩ = some (.int .i64 e2)) := fun wr hx => by
    refine ⟨hx.cell ?_, hx.cell ?_, hx.cell ?_⟩ <;> (rw [hW0]; simp [go_sem])
  have HX0 := Lib.hid hx0
  have HR := Lib.hid hr
  have HNO : Hid ((∀ i, i < ds.length → ds.getD i (0, 0, 0) ≠ (e0, e1, e2)) → (ds.any fun x => decide (x = (e0, e1, e2))) = false) := fun h => by
    rw [List.any_eq_false]
    intro x hx
    obtain ⟨i, hi, rfl⟩ := List.getElem_of_mem hx
    have := h i hi
    rw [List.getD_eq_getElem?_getD, List.getElem?_eq_getElem hi] at this
    simpa using this
  have HYES : Hid (∀ i, i < ds.length → ds.getD i (0, 0, 0) = (e0, e1, e2) → (ds.any fun x => decide (x = (e0, e1, e2))) = true) := fun i hi h => by
    rw [List.any_eq_true]
    refine ⟨ds[i], List.getElem_mem hi, ?_⟩
    rw [List.getD_eq_getElem?_getD, List.getElem?_eq_getElem hi] at h
    simpa using h
  generalize (ds.any fun x => decide (x = (e0, e1, e2))) = r at *
  clear hr hx0
  go_enter Try.func190, Try.ntmps190
  go_wp2_with fail
  rw [← hW0]
  clear hW0
  go_loopw [5, 8] (fun _ z wr => ∃ i : Nat, i ≤ ds.length ∧ z = .int .i64 i ∧ Hid (∀ j, j < i → ds.getD j (0, 0, 0) ≠ (e0, e1, e2)) ∧ Hid (W0.Ext wr)) (fun _ z _ => ds.length - (intOf z).toNat)
  case atStart => exact ⟨0, Nat.zero_le _, rfl, fun j hj => by omega, .refl _⟩
  case round =>
    obtain ⟨i, hi, rfl, HJ, HX⟩ := hrel
    obtain ⟨wo, rfl⟩ : ∃ wo : World, wo = wr := ⟨_, rfl⟩
    have hi0 : (0 : Int) ≤ (i : Int) := by omega
    by_cases hin : i < ds.length
    · have hin' : (i : Int) < (ds.length : Int) := by omega
      obtain ⟨b1, o1, rfl, d0, d1, d2⟩ := (HR.out.ext (HX0.out.trans HX.out)).at hin
      obtain ⟨q0, q1, q2⟩ := HB.out wo HX.out
      have HY := Lib.hid (HYES.out i hin)
      have HJ2 : Hid (ds.getD i (0, 0, 0) ≠ (e0, e1, e2) → ∀ j, j < i + 1 → ds.getD j (0, 0, 0) ≠ (e0, e1, e2)) := fun h j hj => by
        by_cases e : j = i
        · rw [e]; exact h
        · exact HJ.out j (by omega)
      generalize ds.getD i (0, 0, 0) = x at *
      obtain ⟨y0, y1, y2⟩ := x
      dsimp only at d0 d1 d2
      have lq := World.block_lt_of_cell? _ _ q0
      have l1 := World.block_lt_of_cell? _ _ d0
      have HNE : Hid (((e0 == y0 && e1 == y1) && e2 == y2) = false → ∀ j, j < i + 1 → ds.getD j (0, 0, 0) ≠ (e0, e1, e2)) := fun hq => HJ2.out (fun e => by simp only [Prod.mk.injEq] at e; obtain ⟨rfl, rfl, rfl⟩ := e; simp at hq)
      have HEQ : Hid ((e0 == y0) = true → (e1 == y1) = true → (e2 == y2) = true → r = true) := fun h0 h1 h2 => HY.out (by rw [beq_iff_eq] at h0 h1 h2; subst h0 h1 h2; rfl)
      have hcases : (e0 == y0) = false ∨ (e0 == y0) = true ∧ ((e1 == y1) = false ∨ (e1 == y1) = true ∧ ((e2 == y2) = false ∨ (e2 == y2) = true)) := by
        cases h0 : (e0 == y0)
        · exact .inl rfl
        · right
          refine ⟨rfl, ?_⟩
          cases h1 : (e1 == y1)
          · exact .inl rfl
          · right
            refine ⟨rfl, ?_⟩
            cases h2 : (e2 == y2)
            · exact .inl rfl
            · exact .inr rfl
      clear HJ HJ2 HY
      rcases hcases with h0 | ⟨h0, h1 | ⟨h1, h2 | h2⟩⟩
      · have HJ3 := Lib.hid (HNE.out (by rw [h0]; rfl))
        clear HNE HEQ
        go_wp2_with fail
        go_region_held3 (fun w' => w'.cell? ⟨w.heap.size, 0, none⟩ = some (.int .i64 e0) ∧ w'.cell? ⟨w.heap.size, 1, none⟩ = some (.int .i64 e1) ∧ w'.cell? ⟨w.heap.size, 2, none⟩ = some (.int .i64 e2) ∧ w'.cell? ⟨b1, o1 + i * 3, none⟩ = some (.int .i64 y0) ∧ w'.cell? ⟨b1, o1 + i * 3 + 1, none⟩ = some (.int .i64 y1) ∧ w'.cell? ⟨b1, o1 + i * 3 + 2, none⟩ = some (.int .i64 y2))
          (first | (refine ⟨World.Ext.cell ?_ q0, World.Ext.cell ?_ q1, World.Ext.cell ?_ q2, World.Ext.cell ?_ d0, World.Ext.cell ?_ d1, World.Ext.cell ?_ d2⟩ <;> ((repeat (first | exact World.Ext.refl _ | exact ⟨_, rfl⟩ | assumption | refine World.Ext.over ?_ _ | refine World.Ext.drewN ?_ _ | refine World.Ext.drew ?_ | refine World.Ext.alloc ?_ _ | refine World.Ext.setCell ?_ ?_ _ | (simp; done))); done)))
          (fail)
        have HX2 : Hid (W0.Ext wo.drew) := HX.out.trans (by repeat (first | exact World.Ext.refl _ | exact ⟨_, rfl⟩ | assumption | refine World.Ext.over ?_ _ | refine World.Ext.drewN ?_ _ | refine World.Ext.drew ?_ | refine World.Ext.alloc ?_ _ | refine World.Ext.setCell ?_ (by simp) _))
        go_wp2
        go_roundw
        case rel => exact ⟨i + 1, by omega, by go_num, HJ3, HX2⟩
        case measure => simp [intOf]; omega
      · have HJ3 := Lib.hid (HNE.out (by rw [h0, h1]; rfl))
        clear HNE HEQ
        go_wp2_with fail
        go_region_held3 (fun w' => w'.cell? ⟨w.heap.size, 0, none⟩ = some (.int .i64 e0) ∧ w'.cell? ⟨w.heap.size, 1, none⟩ = some (.int .i64 e1) ∧ w'.cell? ⟨w.heap.size, 2, none⟩ = some (.int .i64 e2) ∧ w'.cell? ⟨b1, o1 + i * 3, none⟩ = some (.int .i64 y0) ∧ w'.cell? ⟨b1, o1 + i * 3 + 1, none⟩ = some (.int .i64 y1) ∧ w'.cell? ⟨b1, o1 + i * 3 + 2, none⟩ = some (.int .i64 y2))
          (first | (refine ⟨World.Ext.cell ?_ q0, World.Ext.cell ?_ q1, World.Ext.cell ?_ q2, World.Ext.cell ?_ d0, World.Ext.cell ?_ d1, World.Ext.cell ?_ d2⟩ <;> ((repeat (first | exact World.Ext.refl _ | exact ⟨_, rfl⟩ | assumption | refine World.Ext.over ?_ _ | refine World.Ext.drewN ?_ _ | refine World.Ext.drew ?_ | refine World.Ext.alloc ?_ _ | refine World.Ext.setCell ?_ ?_ _ | (simp; done))); done)))
          (fail)
        have HX2 : Hid (W0.Ext wo.drew) := HX.out.trans (by repeat (first | exact World.Ext.refl _ | exact ⟨_, rfl⟩ | assumption | refine World.Ext.over ?_ _ | refine World.Ext.drewN ?_ _ | refine World.Ext.drew ?_ | refine World.Ext.alloc ?_ _ | refine World.Ext.setCell ?_ (by simp) _))
        go_wp2
        go_roundw
        case rel => exact ⟨i + 1, by omega, by go_num, HJ3, HX2⟩
        case measure => simp [intOf]; omega
      · have HJ3 := Lib.hid (HNE.out (by rw [h0, h1, h2]; rfl))
        clear HNE HEQ
        go_wp2_with fail
        go_region_held3 (fun w' => w'.cell? ⟨w.heap.size, 0, none⟩ = some (.int .i64 e0) ∧ w'.cell? ⟨w.heap.size, 1, none⟩ = some (.int .i64 e1) ∧ w'.cell? ⟨w.heap.size, 2, none⟩ = some (.int .i64 e2) ∧ w'.cell? ⟨b1, o1 + i * 3, none⟩ = some (.int .i64 y0) ∧ w'.cell? ⟨b1, o1 + i * 3 + 1, none⟩ = some (.int .i64 y1) ∧ w'.cell? ⟨b1, o1 + i * 3 + 2, none⟩ = some (.int .i64 y2))
          (first | (refine ⟨World.Ext.cell ?_ q0, World.Ext.cell ?_ q1, World.Ext.cell ?_ q2, World.Ext.cell ?_ d0, World.Ext.cell ?_ d1, World.Ext.cell ?_ d2⟩ <;> ((repeat (first | exact World.Ext.refl _ | exact ⟨_, rfl⟩ | assumption | refine World.Ext.over ?_ _ | refine World.Ext.drewN ?_ _ | refine World.Ext.drew ?_ | refine World.Ext.alloc ?_ _ | refine World.Ext.setCell ?_ ?_ _ | (simp; done))); done)))
          (fail)
        have HX2 : Hid (W0.Ext wo.drew) := HX.out.trans (by repeat (first | exact World.Ext.refl _ | exact ⟨_, rfl⟩ | assumption | refine World.Ext.over ?_ _ | refine World.Ext.drewN ?_ _ | refine World.Ext.drew ?_ | refine World.Ext.alloc ?_ _ | refine World.Ext.setCell ?_ (by simp) _))
        go_wp2
        go_roundw
        case rel => exact ⟨i + 1, by omega, by go_num, HJ3, HX2⟩
        case measure => simp [intOf]; omega
      · have HT := Lib.hid (HEQ.out h0 h1 h2)
        clear HNE HEQ
        go_wp2_with fail
        go_region_held3 (fun w' => w'.cell? ⟨w.heap.size, 0, none⟩ = some (.int .i64 e0) ∧ w'.cell? ⟨w.heap.size, 1, none⟩ = some (.int .i64 e1) ∧ w'.cell? ⟨w.heap.size, 2, none⟩ = some (.int .i64 e2) ∧ w'.cell? ⟨b1, o1 + i * 3, none⟩ = some (.int .i64 y0) ∧ w'.cell? ⟨b1, o1 + i * 3 + 1, none⟩ = some (.int .i64 y1) ∧ w'.cell? ⟨b1, o1 + i * 3 + 2, none⟩ = some (.int .i64 y2))
          (first | (refine ⟨World.Ext.cell ?_ q0, World.Ext.cell ?_ q1, World.Ext.cell ?_ q2, World.Ext.cell ?_ d0, World.Ext.cell ?_ d1, World.Ext.cell ?_ d2⟩ <;> ((repeat (first | exact World.Ext.refl _ | exact ⟨_, rfl⟩ | assumption | refine World.Ext.over ?_ _ | refine World.Ext.drewN ?_ _ | refine World.Ext.drew ?_ | refine World.Ext.alloc ?_ _ | refine World.Ext.setCell ?_ ?_ _ | (simp; done))); done)))
          (fail)
        have HX2 : Hid (w.Ext wo.drew) := HX0.out.trans (HX.out.trans (by repeat (first | exact World.Ext.refl _ | exact ⟨_, rfl⟩ | assumption | refine World.Ext.over ?_ _ | refine World.Ext.drewN ?_ _ | refine World.Ext.drew ?_ | refine World.Ext.alloc ?_ _ | refine World.Ext.setCell ?_ (by simp) _)))
        go_wp2
        go_ret
        exact ⟨_, rfl, HX2.out, fun _ => HT.out, fun _ => hi0⟩
    · have hie : i = ds.length := by omega
      have HF := Lib.hid (HNO.out fun j hj => HJ.out j (by omega))
      have HX2 := Lib.hid (HX0.out.trans HX.out)
      clear HJ hie
      go_wp2
      go_ret
      exact ⟨-1, rfl, HX2.out, fun h => by omega, fun h => by rw [HF.out] at h; cases h⟩
set_option maxRecDepth 5000 in
set_option maxHeartbeats 1600000 in
theorem containsE_any (a : Option Addr) (c : Nat) (ds : List (Int × Int × Int)) (d : Int × Int × Int) (w : World) (hn : ds.length ≤ 1200) (hr : RowD w a ds) :
    Calls Try.prog 111 #[.slice a ds.length c, .agg #[.int .i64 d.1, .int .i64 d.2.1, .int .i64 d.2.2]] w fun e w' => e = .returned (.bool (ds.any fun x => decide (x = d))) ∧ w.Ext w' := by
  obtain ⟨W0, hW0⟩ : ∃ W0, W0 = w.alloc (.cells #[.int .i64 d.1, .int .i64 d.2.1, .int .i64 d.2.2] 149) := ⟨_, rfl⟩
  have hx0 : w.Ext W0 := by rw [hW0]; repeat (first | exact World.Ext.refl _ | exact ⟨_, rfl⟩ | assumption | refine World.Ext.over ?_ _ | refine World.Ext.drewN ?_ _ | refine World.Ext.drew ?_ | refine World.Ext.alloc ?_ _ | refine World.Ext.setCell ?_ (by simp) _)
  have HC := Lib.hid (indexE_any a c ds d W0 hn (hr.ext hx0))
  have HX0 := Lib.hid hx0
  generalize (ds.any fun x => decide (x = d)) = r at *
  clear hr hx0
  go_enter Try.func111, Try.ntmps111
  go_wp2_with fail
  rw [← hW0]
  clear hW0
  refine HC.out.mono ?_
  rintro e w1 ⟨z, rfl, hx1, hz⟩
  have HX := Lib.hid (HX0.out.trans hx1)
  clear hx1 HC
  cases r
  · have hzz : ¬ (z ≥ 0) := fun h => by rw [hz] at h; cases h
    clear hz
    go_wp2
    go_ret
    exact ⟨by first | (simp; done) | (simp; omega), HX.out⟩
  · have hzz : z ≥ 0 := hz.2 rfl
    clear hz
    go_wp2
    go_ret
    exact ⟨by first | (simp; done) | (simp; omega), HX.out⟩
end Go.Proofs.Ythgkmaccbcpaeaa

/- BorderAt: the program's. -/
namespace Go.Proofs.Ythgkmaccbcpaeaa
open Go Go.RowKit
set_option maxRecDepth 5000 in
set_option maxHeartbeats 6400000 in
theorem implBat_any (a : Option Addr) (c : Nat) (ss : List ByteArray) (x y : Int) (w : World) (hb : PicBnd ss) (hm : RowS w a ss) :
    Calls Try.prog 38 #[.agg #[.slice a ss.length c], .agg #[.int .i64 x, .int .i64 y]] w (BordRet1 w (bAtR ss x y) (bAtOk ss x y)) := by
  obtain ⟨W0, hW0⟩ : ∃ W0, W0 = ((w.alloc (.cells #[.slice a ss.length c] 26)).alloc (.cells #[.int .i64 x, .int .i64 y] 45)).alloc (.cells #[.int .i64 0, .int .i64 0, .string ⟨#[]⟩] 62) := ⟨_, rfl⟩
  have hx0 : w.Ext W0 := by rw [hW0]; repeat (first | exact World.Ext.refl _ | exact ⟨_, rfl⟩ | assumption | refine World.Ext.over ?_ _ | refine World.Ext.drewN ?_ _ | refine World.Ext.drew ?_ | refine World.Ext.alloc ?_ _ | refine World.Ext.setCell ?_ (by simp) _)
  have HT : Hid (Two W0 (w.heap.size + 1) 45 (.int .i64 x) (.int .i64 y)) := by rw [hW0]; exact (Two.new (w.alloc (.cells #[.slice a ss.length c] 26)) (.int .i64 x) (.int .i64 y) 45 (w.heap.size + 1) (by simp)).ext (by repeat (first | exact World.Ext.refl _ | exact ⟨_, rfl⟩ | assumption | refine World.Ext.over ?_ _ | refine World.Ext.drewN ?_ _ | refine World.Ext.drew ?_ | refine World.Ext.alloc ?_ _ | refine World.Ext.setCell ?_ (by simp) _))
  have HR3 : Hid (Tri W0 (w.heap.size + 1 + 1) 62 (.int .i64 0) (.int .i64 0) (.string ⟨#[]⟩)) := by rw [hW0]; exact Tri.new _ _ _ _ _ _ (by simp)
  have HX0 := Lib.hid hx0
  have HIO : Hid (∀ t, picOk ss = t → Calls Try.prog 72 #[.agg #[.slice a ss.length c]] W0 (ImgOf W0 ss t)) := fun t ht => imageOf_any a c ss W0 hb.1 hb.2 (hm.ext hx0) _ ht
  cases hok : bAtOk ss x y
  · rw [bAt_no hok]
    unfold bAtOk at hok
    unfold bd0
    cases h1 : picOk ss
    · have HI1 := Lib.hid (HIO.out false h1)
      clear hb hm hx0 hok h1 HIO
      go_enter Try.func38, Try.ntmps38
      go_wp2_with fail
      rw [← hW0]
      clear hW0
      refine HI1.out.mono ?_
      rintro e w1 ⟨rfl, hx1⟩
      obtain ⟨s0, s1, s2, s3, s4, s5, s6, s7, s8, HR⟩ := Res.store3 (.int .i64 0) (.int .i64 0) (.string ⟨#[]⟩) (HX0.out.trans hx1) (by omega) (HR3.out.ext hx1)
      clear hx1
      go_wp2
      exact bodyPost_ret (v := .tuple #[.agg #[.int .i64 0, .int .i64 0, .string ⟨#[]⟩], .bool false]) (by simp [results, Try.results38, go_sem, s6, s7, s8]) rfl ⟨rfl, HR.out⟩
    · have HI1 := Lib.hid (HIO.out true h1)
      rw [h1, Bool.true_and] at hok
      obtain ⟨v1, v2, v3, v4, e1, -⟩ := picOk_spec h1
      have HGET : Hid (∀ w' b ab, Img w' b ab (picW ss) ss.length (picL ss) → ∀ (x y : Int) t, pxl (picW ss) ss.length (picL ss) x y = t → Calls Try.prog 108 #[.pointer (some ⟨b, 0, none⟩), .int .i64 x, .int .i64 y] w' fun e w'' => e = .returned (.bool t) ∧ w'.Ext w'') := fun w' b ab hI x y t ht => get_any b ab _ _ _ x y w' (by omega) (by omega) hI t ht
      cases h2 : pxl (picW ss) ss.length (picL ss) x y
      · have HG1 : Hid (∀ w' b ab, Img w' b ab (picW ss) ss.length (picL ss) → Calls Try.prog 108 #[.pointer (some ⟨b, 0, none⟩), .int .i64 x, .int .i64 y] w' fun e w'' => e = .returned (.bool false) ∧ w'.Ext w'') := fun w' b ab hI => HGET.out w' b ab hI x y false h2
        clear hb hm hx0 hok h1 h2 HIO HGET v1 v2 v3 v4 e1
        go_enter Try.func38, Try.ntmps38
        go_wp2_with fail
        rw [← hW0]
        clear hW0
        refine HI1.out.mono ?_
        rintro e w1 ⟨b1, ab1, rfl, hx1, hi1, -, -⟩
        have HC := Lib.hid (HG1.out w1 b1 ab1 hi1)
        have HT1 := Lib.hid (HT.out.ext hx1)
        have d1 := HT1.out.cell0
        have d2 := HT1.out.cell1
        have l1 := HT1.out.lt
        clear hi1
        go_wp2_with fail
        refine HC.out.mono ?_
        rintro e w2 ⟨rfl, hx2⟩
        obtain ⟨s0, s1, s2, s3, s4, s5, s6, s7, s8, HR⟩ := Res.store3 (.int .i64 0) (.int .i64 0) (.string ⟨#[]⟩) (HX0.out.trans (hx1.trans hx2)) (by omega) (HR3.out.ext (hx1.trans hx2))
        clear hx1 hx2 d1 d2 l1
        go_wp2
        exact bodyPost_ret (v := .tuple #[.agg #[.int .i64 0, .int .i64 0, .string ⟨#[]⟩], .bool false]) (by simp [results, Try.results38, go_sem, s6, s7, s8]) rfl ⟨rfl, HR.out⟩
      · have h3 : pxl (picW ss) ss.length (picL ss) x (y - 1) = true := by rw [h2, Bool.true_and, Bool.not_eq_false'] at hok; exact hok
        have HG1 : Hid (∀ w' b ab, Img w' b ab (picW ss) ss.length (picL ss) → Calls Try.prog 108 #[.pointer (some ⟨b, 0, none⟩), .int .i64 x, .int .i64 y] w' fun e w'' => e = .returned (.bool true) ∧ w'.Ext w'') := fun w' b ab hI => HGET.out w' b ab hI x y true h2
        have HG2 : Hid (∀ w' b ab, Img w' b ab (picW ss) ss.length (picL ss) → Calls Try.prog 108 #[.pointer (some ⟨b, 0, none⟩), .int .i64 x, .int .i64 (y - 1)] w' fun e w'' => e = .returned (.bool true) ∧ w'.Ext w'') := fun w' b ab hI => HGET.out w' b ab hI x (y - 1) true h3
        have hy := inBx_pxl _ _ _ x y h2
        have hy0 : 0 ≤ y := hy.2.2.1
        have hy1 : y ≤ 100 := by omega
        clear hb hm hx0 hok h1 h2 h3 HIO HGET v1 v2 v3 v4 e1 hy
        go_enter Try.func38, Try.ntmps38
        go_wp2_with fail
        rw [← hW0]
        clear hW0
        refine HI1.out.mono ?_
        rintro e w1 ⟨b1, ab1, rfl, hx1, hi1, -, -⟩
        have HC := Lib.hid (HG1.out w1 b1 ab1 hi1)
        have HT1 := Lib.hid (HT.out.ext hx1)
        have HI2 := Lib.hid hi1
        have d1 := HT1.out.cell0
        have d2 := HT1.out.cell1
        have l1 := HT1.out.lt
        clear hi1
        go_wp2_with fail
        refine HC.out.mono ?_
        rintro e w2 ⟨rfl, hx2⟩
        have HC2 := Lib.hid (HG2.out w2 b1 ab1 (HI2.out.ext hx2))
        have HX2 := Lib.hid (hx1.trans hx2)
        clear d1 d2 l1
        have HT2 := Lib.hid (HT1.out.ext hx2)
        have d1 := HT2.out.cell0
        have d2 := HT2.out.cell1
        have l1 := HT2.out.lt
        clear hx1 hx2
        go_wp2_with fail
        refine HC2.out.mono ?_
        rintro e w3 ⟨rfl, hx3⟩
        obtain ⟨s0, s1, s2, s3, s4, s5, s6, s7, s8, HR⟩ := Res.store3 (.int .i64 0) (.int .i64 0) (.string ⟨#[]⟩) (HX0.out.trans (HX2.out.trans hx3)) (by omega) (HR3.out.ext (HX2.out.trans hx3))
        clear hx3 d1 d2 l1
        go_wp2
        exact bodyPost_ret (v := .tuple #[.agg #[.int .i64 0, .int .i64 0, .string ⟨#[]⟩], .bool false]) (by simp [results, Try.results38, go_sem, s6, s7, s8]) rfl ⟨rfl, HR.out⟩
  · obtain ⟨X, Y, rfl, rfl, hX, hY, h1, h2, h3, hbx, hat, hR⟩ := bAt_of hok
    rw [hR]
    have HI1 := Lib.hid (HIO.out true h1)
    obtain ⟨v1, v2, v3, v4, e1, -⟩ := picOk_spec h1
    have HGET : Hid (∀ w' b ab, Img w' b ab (picW ss) ss.length (picL ss) → ∀ (x y : Int) t, pxl (picW ss) ss.length (picL ss) x y = t → Calls Try.prog 108 #[.pointer (some ⟨b, 0, none⟩), .int .i64 x, .int .i64 y] w' fun e w'' => e = .returned (.bool t) ∧ w'.Ext w'') := fun w' b ab hI x y t ht => get_any b ab _ _ _ x y w' (by omega) (by omega) hI t ht
    have HG1 : Hid (∀ w' b ab, Img w' b ab (picW ss) ss.length (picL ss) → Calls Try.prog 108 #[.pointer (some ⟨b, 0, none⟩), .int .i64 X, .int .i64 Y] w' fun e w'' => e = .returned (.bool true) ∧ w'.Ext w'') := fun w' b ab hI => HGET.out w' b ab hI X Y true h2
    have HG2 : Hid (∀ w' b ab, Img w' b ab (picW ss) ss.length (picL ss) → Calls Try.prog 108 #[.pointer (some ⟨b, 0, none⟩), .int .i64 X, .int .i64 ((Y : Int) - 1)] w' fun e w'' => e = .returned (.bool false) ∧ w'.Ext w'') := fun w' b ab hI => HGET.out w' b ab hI X (Y - 1) false h3
    have HAR : Hid (∀ w' b ab, Img w' b ab (picW ss) ss.length (picL ss) → Calls Try.prog 102 #[.pointer (some ⟨b, 0, none⟩)] w' (BordsRet w' (bordA ss))) := fun w' b ab hI => borders_any b ab _ _ _ w' v4 v2 hI
    have HED : Hid (∀ (e : Edg) (pb : Nat) (w' : World), EOk (pxl (picW ss) ss.length (picL ss)) e → w'.cell? ⟨pb, 0, none⟩ = some (.int .i64 e.x) → w'.cell? ⟨pb, 1, none⟩ = some (.int .i64 e.y) → w'.cell? ⟨pb, 2, none⟩ = some (.string (wrd (pxl (picW ss) ss.length (picL ss)) e)) →
        Calls Try.prog 103 #[.pointer (some ⟨pb, 0, none⟩)] w' fun e' w'' => ∃ a c, e' = .returned (.tuple #[.slice a (edgsL (pxl (picW ss) ss.length (picL ss)) e (per (pxl (picW ss) ss.length (picL ss)) e)).length c, .bool true]) ∧ w'.Ext w'' ∧ OwnD w'.heap.size w''.heap.size w'' a (edgsL (pxl (picW ss) ss.length (picL ss)) e (per (pxl (picW ss) ss.length (picL ss)) e))) := fun e pb w' he c0 c1 c2 => edges_any pb _ e w' hbx he c0 c1 c2
    have HAY : Hid (∀ e : Edg, ((edgsL (pxl (picW ss) ss.length (picL ss)) e (per (pxl (picW ss) ss.length (picL ss)) e)).any fun d => decide (d = ((X : Int), (Y : Int), ((0 : Nat) : Int)))) = inOrb (pxl (picW ss) ss.length (picL ss)) e ⟨(X : Int), (Y : Int), 0⟩) := fun e => edgs_any _ e ⟨(X : Int), (Y : Int), 0⟩
    have HLN : Hid (∀ e : Edg, EOk (pxl (picW ss) ss.length (picL ss)) e → (edgsL (pxl (picW ss) ss.length (picL ss)) e (per (pxl (picW ss) ss.length (picL ss)) e)).length ≤ 1200) := fun e he => by rw [edgsL_len]; exact (per_of hbx (Nat.le_refl _) (Nat.le_refl _) he).2
    have HAT := Lib.hid hat
    have hlt := hat.lt
    have hfew := hat.few
    clear hb hm hx0 hok h1 h2 h3 HIO HGET hbx hat hR v1 v2 v3 v4 e1
    generalize bAtI ss X Y = i0 at *
    generalize bordA ss = bs at *
    generalize pxl (picW ss) ss.length (picL ss) = f at *
    have hX0 : (0 : Int) ≤ (X : Int) := by omega
    have hY0 : (0 : Int) ≤ (Y : Int) := by omega
    have hX1 : (X : Int) < 16 := by omega
    have hY1 : (Y : Int) < 16 := by omega
    go_enter Try.func38, Try.ntmps38
    go_wp2_with fail
    rw [← hW0]
    clear hW0
    refine HI1.out.mono ?_
    rintro e w1 ⟨b1, ab1, rfl, hx1, hi1, -, -⟩
    have HC := Lib.hid (HG1.out w1 b1 ab1 hi1)
    have HT1 := Lib.hid (HT.out.ext hx1)
    have HI2 := Lib.hid hi1
    have d1 := HT1.out.cell0
    have d2 := HT1.out.cell1
    have l1 := HT1.out.lt
    clear hi1
    go_wp2_with fail
    refine HC.out.mono ?_
    rintro e w2 ⟨rfl, hx2⟩
    have HC2 := Lib.hid (HG2.out w2 b1 ab1 (HI2.out.ext hx2))
    have HX2 := Lib.hid (hx1.trans hx2)
    have HI3 := Lib.hid (HI2.out.ext hx2)
    have HT2 := Lib.hid (HT1.out.ext hx2)
    clear d1 d2 l1
    have d1 := HT2.out.cell0
    have d2 := HT2.out.cell1
    have l1 := HT2.out.lt
    clear hx1 hx2
    go_wp2_with fail
    refine HC2.out.mono ?_
    rintro e w3 ⟨rfl, hx3⟩
    have HC3 := Lib.hid (HAR.out w3 b1 ab1 (HI3.out.ext hx3))
    have HX3 := Lib.hid (HX2.out.trans hx3)
    clear hx3 d1 d2 l1
    go_wp2_with fail
    refine HC3.out.mono ?_
    rintro e w4 ⟨a4, c4, rfl, hx4, ho4⟩
    have HROW := Lib.hid ho4.row
    have HX4 := Lib.hid (HX3.out.trans hx4)
    clear hx4 ho4 HX3 HX2 HC HC2 HC3 HI1 HI2 HI3 HT1 HT2 HG1 HG2 HAR
    go_wp2
    go_loopw [9, 10, 11, 41] (fun _ _ _ z wr => ∃ i : Nat, i ≤ i0 ∧ z = .int .i64 i ∧ Hid (w4.Ext wr)) (fun _ _ _ z _ => bs.length - (intOf z).toNat)
    case atStart => exact ⟨0, Nat.zero_le _, rfl, .refl _⟩
    case round =>
      obtain ⟨i, hi, rfl, HX⟩ := hrel
      obtain ⟨wo, rfl⟩ : ∃ wo : World, wo = wr := ⟨_, rfl⟩
      have hin : i < bs.length := by omega
      have hin' : (i : Int) < (bs.length : Int) := by omega
      have hi0 : (0 : Int) ≤ (i : Int) := by omega
      obtain ⟨e, he, hbd, hno, hyes⟩ := HAT.out.at_ i hin
      obtain ⟨b6, o6, rfl, r0, r1, r2⟩ := (HROW.out.ext HX.out) i hin
      rw [hbd] at r0 r1 r2
      dsimp only at r0 r1 r2
      have lr := World.block_lt_of_cell? _ _ r0
      obtain ⟨W5, hW5⟩ : ∃ W5, W5 = wo.alloc (.cells #[.int .i64 e.x, .int .i64 e.y, .string (wrd f e)] 62) := ⟨_, rfl⟩
      have hx5 : wo.Ext W5 := by rw [hW5]; repeat (first | exact World.Ext.refl _ | exact ⟨_, rfl⟩ | assumption | refine World.Ext.over ?_ _ | refine World.Ext.drewN ?_ _ | refine World.Ext.drew ?_ | refine World.Ext.alloc ?_ _ | refine World.Ext.setCell ?_ (by simp) _)
      have HTR : Hid (Tri W5 wo.heap.size 62 (.int .i64 e.x) (.int .i64 e.y) (.string (wrd f e))) := by rw [hW5]; exact Tri.new _ _ _ _ _ _ rfl
      have HX5 := Lib.hid (HX.out.trans hx5)
      have HC5 := Lib.hid (HED.out e wo.heap.size W5 he HTR.out.cell0 HTR.out.cell1 HTR.out.cell2)
      have hlen := HLN.out e he
      have hay := HAY.out e
      have HBD := Lib.hid hbd
      have HNO := Lib.hid hno
      have HYES := Lib.hid hyes
      clear hbd hno hyes
      generalize edgsL f e (per f e) = ds at *
      generalize inOrb f e ⟨(X : Int), (Y : Int), 0⟩ = hit at *
      generalize e.x = ex at *
      generalize e.y = ey at *
      generalize wrd f e = word at *
      go_wp2_with fail
      rw [← hW5]
      clear hW5 r0 r1 r2 lr hx5
      refine HC5.out.mono ?_
      rintro e' w6 ⟨a6, c6, rfl, hx6, ho6⟩
      have HX6 := Lib.hid (HX5.out.trans hx6)
      have HT6 := Lib.hid (HT.out.ext (HX4.out.trans HX6.out))
      have HTR6 := Lib.hid (HTR.out.ext hx6)
      have HCO : Hid (Calls Try.prog 111 #[.slice a6 ds.length c6, .agg #[.int .i64 X, .int .i64 Y, .int .i64 0]] w6 fun e w' => e = .returned (.bool hit) ∧ w6.Ext w') := by
        have h := containsE_any a6 c6 ds ((X : Int), (Y : Int), ((0 : Nat) : Int)) w6 hlen ho6.row
        rw [hay] at h
        exact h
      have d1 := HT6.out.cell0
      have d2 := HT6.out.cell1
      have l1 := HT6.out.lt
      clear hx6 ho6 HC5 hay
      go_wp2_with fail
      refine HCO.out.mono ?_
      rintro e' w7 ⟨rfl, hx7⟩
      have HX7 := Lib.hid (HX6.out.trans hx7)
      have HTR7 := Lib.hid (HTR6.out.ext hx7)
      clear d1 d2 l1 hx7 HCO HX6 HTR6 HX5 HTR
      by_cases hii : i = i0
      · have hh := HYES.out hii
        subst hh
        have HBD2 : Hid (bs.getD i0 bd0 = (ex, ey, word)) := by show _ = _; rw [← hii]; exact HBD.out
        obtain ⟨s0, s1, s2, s3, s4, s5, s6, s7, s8, HR⟩ := Res.store3 (.int .i64 ex) (.int .i64 ey) (.string word) (HX0.out.trans (HX4.out.trans HX7.out)) (by omega) (HR3.out.ext (HX4.out.trans HX7.out))
        have t0 := HTR7.out.cell0
        have t1 := HTR7.out.cell1
        have t2 := HTR7.out.cell2
        have lt := HTR7.out.lt
        clear hii HTR7 HX7 HX HT6
        go_wp2
        exact bodyPost_ret (v := .tuple #[.agg #[.int .i64 ex, .int .i64 ey, .string word], .bool true]) (by simp [results, Try.results38, go_sem, s6, s7, s8]) rfl ⟨by rw [HBD2.out], HR.out⟩
      · have hh := HNO.out (by omega)
        subst hh
        clear HTR7 HX HT6
        go_wp2
        go_roundw
        case rel => exact ⟨i + 1, by omega, by go_num, HX7⟩
        case measure => simp [intOf]; omega
end Go.Proofs.Ythgkmaccbcpaeaa
