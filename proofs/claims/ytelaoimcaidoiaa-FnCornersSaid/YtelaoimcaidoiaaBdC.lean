/- Borders: the program's steps of one. -/
import Derived.Test.YtelaoimcaidoiaaBdB
import Derived.Test.YtelaoimcaidoiaaBdA
import Derived.Test.YtelaoimcaidoiaaLDs
import Derived.Deep.RegionHeld3
import Derived.Lib.Bytealg
namespace Go.Proofs.Ytelaoimcaidoiaa
open Go Go.RowKit
def edgT (e : Edg) : Int × Int × Int := (e.x, e.y, (e.k : Int))
def edgsL (f : Int → Int → Bool) (e : Edg) (n : Nat) : List (Int × Int × Int) := (List.range n).map fun i => edgT (itr f i e)
theorem edgsL_len (f : Int → Int → Bool) (e : Edg) (n : Nat) : (edgsL f e n).length = n := by simp [edgsL]
theorem edgsL_succ (f : Int → Int → Bool) (e : Edg) (n : Nat) : edgsL f e (n + 1) = edgsL f e n ++ [edgT (itr f n e)] := by simp [edgsL, List.range_succ]
theorem edgsL_at {f : Int → Int → Bool} {e : Edg} {n i : Nat} (h : i < n) : (edgsL f e n).getD i (0, 0, 0) = edgT (itr f i e) := by
  simp [edgsL, List.getD_eq_getElem?_getD, h]
theorem edgT_inj {e e' : Edg} (h : edgT e = edgT e') : e = e' := by
  unfold edgT at h
  simp only [Prod.mk.injEq] at h
  exact Edg.eq_of h.1 h.2.1 (by omega)
theorem edgs_any (f : Int → Int → Bool) (e t : Edg) : ((edgsL f e (per f e)).any fun d => decide (d = edgT t)) = inOrb f e t := by
  unfold edgsL inOrb
  rw [List.any_map]
  congr 1
  funext i
  simp only [Function.comp]
  rw [decide_eq_decide]
  exact ⟨fun h => edgT_inj h, fun h => by rw [h]⟩
theorem Try.infoEdge : (Try.prog.info? 82).map (fun i => (i.zero, i.size, i.bytes)) = some (some (.agg #[.int .i64 0, .int .i64 0, .int .i64 0]), 3, 24) := by kernel_rfl
theorem edg3_at {w : World} {u v x : Value} {e : TypeId} {p : Nat} (hp : p = w.heap.size) : ∀ (j : Nat) (y : Value), [u, v, x][j]? = some y → (w.alloc (.cells #[u, v, x] e)).cell? ((⟨p, 0, none⟩ : Addr).add j) = some y := by
  subst hp
  intro j y hj
  rw [Addr.add_mk]
  match j, hj with
  | 0, hj => simp at hj; subst hj; simp [go_sem]
  | 1, hj => simp at hj; subst hj; simp [go_sem]
  | 2, hj => simp at hj; subst hj; simp [go_sem]
set_option maxRecDepth 100000 in
set_option maxHeartbeats 1600000 in
theorem stepOf_any (k : Nat) (w : World) (hk : k < 4) : Calls Try.prog 59 #[.int .u8 (letN k : Nat)] w fun e w' => e = .returned (.int .i64 (k : Int)) ∧ w.Ext w' := by
  have h4 : k = 0 ∨ k = 1 ∨ k = 2 ∨ k = 3 := by omega
  have HK : Hid (Lib.indexByte (⟨#[114, 100, 108, 117]⟩ : ByteArray).data.toList ((letN k : Nat) : Int).toNat.toUInt8 = (k : Int)) := by
    show _ = _
    rcases h4 with rfl | rfl | rfl | rfl <;> decide
  generalize ((letN k : Nat) : Int) = z at *
  go_enter Try.func59, Try.ntmps59
  go_wp2
  rw [run_callFunc_extern Try.func94 (by kernel_rfl) (by kernel_rfl) (by kernel_rfl) (e := Extern.BytealgIndexByte.indexByte) (by kernel_rfl), Lib.run_indexByteString]
  simp only [Result.andThen]
  rw [Oper.upon_value]
  go_wp2
  go_ret
  exact ⟨by rw [HK.out]; rfl, .refl _⟩
/-- Steps under way, and the corner. -/
structure EdSt (w : World) (p5 : Nat) (v : Value) (ds : List (Int × Int × Int)) (X Y : Int) (wr : World) : Prop where
  x : w.Ext wr
  r : Two wr p5 33 (.int .i64 X) (.int .i64 Y)
  lo : w.heap.size ≤ p5
  g : GrowD w.heap.size 82 wr v ds
section
variable {w wr w' : World} {p5 : Nat} {v v' : Value} {ds : List (Int × Int × Int)} {x y : Int}
theorem EdSt.ext (h : EdSt w p5 v ds x y wr) (hx : wr.Ext w') : EdSt w p5 v ds x y w' := ⟨h.x.trans hx, h.r.ext hx, h.lo, h.g.ext hx⟩
theorem EdSt.one (w : World) (x y : Int) : EdSt w (w.heap.size + 1) (.slice (some ⟨w.heap.size, 0, none⟩) 0 0) [] x y ((w.alloc (.cells #[] 82)).alloc (.cells #[.int .i64 x, .int .i64 y] 33)).drew := by
  refine ⟨by repeat (first | exact World.Ext.refl _ | exact ⟨_, rfl⟩ | assumption | refine World.Ext.over ?_ _ | refine World.Ext.drewN ?_ _ | refine World.Ext.drew ?_ | refine World.Ext.alloc ?_ _ | refine World.Ext.setCell ?_ (by simp) _), (Two.new (w.alloc (.cells #[] 82)) (.int .i64 x) (.int .i64 y) 33 (w.heap.size + 1) (by simp)).ext (by repeat (first | exact World.Ext.refl _ | exact ⟨_, rfl⟩ | assumption | refine World.Ext.over ?_ _ | refine World.Ext.drewN ?_ _ | refine World.Ext.drew ?_ | refine World.Ext.alloc ?_ _ | refine World.Ext.setCell ?_ (by simp) _)), by omega, (GrowD.empty (lo := w.heap.size) (e := 82) w (Nat.le_refl _)).ext (by repeat (first | exact World.Ext.refl _ | exact ⟨_, rfl⟩ | assumption | refine World.Ext.over ?_ _ | refine World.Ext.drewN ?_ _ | refine World.Ext.drew ?_ | refine World.Ext.alloc ?_ _ | refine World.Ext.setCell ?_ (by simp) _))⟩
theorem EdSt.two (w : World) (x y : Int) : EdSt w w.heap.size (.slice (some ⟨w.heap.size + 1, 0, none⟩) 0 0) [] x y ((w.alloc (.cells #[.int .i64 x, .int .i64 y] 33)).alloc (.cells #[] 82)).drew := by
  have hg := GrowD.empty (lo := w.heap.size) (e := 82) (w.alloc (.cells #[.int .i64 x, .int .i64 y] 33)) (by simp)
  have hs : (w.alloc (.cells #[.int .i64 x, .int .i64 y] 33)).heap.size = w.heap.size + 1 := by simp
  rw [hs] at hg
  exact ⟨by repeat (first | exact World.Ext.refl _ | exact ⟨_, rfl⟩ | assumption | refine World.Ext.over ?_ _ | refine World.Ext.drewN ?_ _ | refine World.Ext.drew ?_ | refine World.Ext.alloc ?_ _ | refine World.Ext.setCell ?_ (by simp) _), (Two.new w (.int .i64 x) (.int .i64 y) 33 w.heap.size rfl).ext (by repeat (first | exact World.Ext.refl _ | exact ⟨_, rfl⟩ | assumption | refine World.Ext.over ?_ _ | refine World.Ext.drewN ?_ _ | refine World.Ext.drew ?_ | refine World.Ext.alloc ?_ _ | refine World.Ext.setCell ?_ (by simp) _)), Nat.le_refl _, hg.ext (by repeat (first | exact World.Ext.refl _ | exact ⟨_, rfl⟩ | assumption | refine World.Ext.over ?_ _ | refine World.Ext.drewN ?_ _ | refine World.Ext.drew ?_ | refine World.Ext.alloc ?_ _ | refine World.Ext.setCell ?_ (by simp) _))⟩
end
set_option maxRecDepth 5000 in
set_option maxHeartbeats 6400000 in
theorem edges_any (pb : Nat) (f : Int → Int → Bool) (e : Edg) (w : World) (hbx : InBx f 16 16) (hok : EOk f e)
    (c0 : w.cell? ⟨pb, 0, none⟩ = some (.int .i64 e.x)) (c1 : w.cell? ⟨pb, 1, none⟩ = some (.int .i64 e.y)) (c2 : w.cell? ⟨pb, 2, none⟩ = some (.string (wrd f e))) :
    Calls Try.prog 45 #[.pointer (some ⟨pb, 0, none⟩)] w fun e' w' => ∃ a c, e' = .returned (.tuple #[.slice a (edgsL f e (per f e)).length c, .bool true]) ∧ w.Ext w' ∧ OwnD w.heap.size w'.heap.size w' a (edgsL f e (per f e)) := by
  obtain ⟨ie, hi, hz0, hz1, hz2⟩ := info_parts Try.infoEdge
  have hper := per_of hbx (Nat.le_refl _) (Nat.le_refl _) hok
  have HBX : Hid (∀ i, 0 ≤ (itr f i e).x ∧ (itr f i e).x ≤ 16 ∧ 0 ≤ (itr f i e).y ∧ (itr f i e).y ≤ 16) := fun i => hbx.edge (itr_ok hok i)
  have HK4 : Hid (∀ i, (itr f i e).k < 4) := fun i => (itr_ok hok i).1
  have HSTEP : Hid (∀ i, (itr f (i + 1) e).x = (itr f i e).x + dX (itr f i e).k ∧ (itr f (i + 1) e).y = (itr f i e).y + dY (itr f i e).k) := fun i => ⟨(itr_step (f := f) e i).1, (itr_step (f := f) e i).2.1⟩
  have HLET : Hid (∀ i, i < per f e → ∃ hs : i < (wrd f e).size, (((wrd f e)[i]'hs).toNat : Nat) = letN (itr f i e).k) := fun i hi => wrd_at hi
  have HSZ : Hid ((wrd f e).size = per f e) := wrd_size f e
  have HSU : Hid (∀ i, edgsL f e (i + 1) = edgsL f e i ++ [((itr f i e).x, (itr f i e).y, ((itr f i e).k : Int))]) := fun i => edgsL_succ f e i
  have HLN : Hid (∀ i, (edgsL f e i).length = i) := fun i => edgsL_len f e i
  have hn : per f e ≤ 1200 := hper.2
  have HEND : Hid ((itr f (per f e) e).x = e.x ∧ (itr f (per f e) e).y = e.y) := by rw [hper.1.2.1]; exact ⟨rfl, rfl⟩
  have HX0 : Hid ((itr f 0 e).x = e.x ∧ (itr f 0 e).y = e.y) := ⟨rfl, rfl⟩
  have HZ : Hid (edgsL f e 0 = []) := rfl
  clear hper hbx hok
  generalize per f e = n at *
  generalize wrd f e = word at *
  generalize hX : (fun i => (itr f i e).x) = X at *
  generalize hY : (fun i => (itr f i e).y) = Y at *
  generalize hKK : (fun i => (itr f i e).k) = K at *
  have eX : ∀ i, (itr f i e).x = X i := fun i => congrFun hX i
  have eY : ∀ i, (itr f i e).y = Y i := fun i => congrFun hY i
  have eK : ∀ i, (itr f i e).k = K i := fun i => congrFun hKK i
  generalize edgsL f e = DL at *
  simp only [eX, eY, eK] at HBX HK4 HSTEP HLET HSU HX0 HEND
  clear hX hY hKK eX eY eK
  generalize e.x = ex at *
  generalize e.y = ey at *
  have HCB : Hid (∀ wr, w.Ext wr → wr.cell? ⟨pb, 0, none⟩ = some (.int .i64 ex) ∧ wr.cell? ⟨pb, 1, none⟩ = some (.int .i64 ey) ∧ wr.cell? ⟨pb, 2, none⟩ = some (.string word)) := fun wr hx => ⟨hx.cell c0, hx.cell c1, hx.cell c2⟩
  have HMV := Lib.hid (fun (i : Nat) (w' : World) => moved_any (X i) (Y i) (K i) w' (HK4.out i) (by have := HBX.out i; omega) (by have := HBX.out i; omega))
  have lb := World.block_lt_of_cell? _ _ c0
  have hE : w.Ext w := .refl _
  go_enter Try.func45, Try.ntmps45
  go_upto_region 1 with fail
  go_cut [4, 5] (fun u4 u5 wc => ∃ p5, u5 = .pointer (some ⟨p5, 0, none⟩) ∧ EdSt w p5 u4 [] ex ey wc)
  case first =>
    go_region_held3 (fun w' => w'.cell? ⟨pb, 0, none⟩ = some (.int .i64 ex) ∧ w'.cell? ⟨pb, 1, none⟩ = some (.int .i64 ey))
      (first | (refine ⟨World.Ext.cell ?_ c0, World.Ext.cell ?_ c1⟩ <;> ((repeat (first | exact World.Ext.refl _ | exact ⟨_, rfl⟩ | assumption | refine World.Ext.over ?_ _ | refine World.Ext.drewN ?_ _ | refine World.Ext.drew ?_ | refine World.Ext.alloc ?_ _ | refine World.Ext.setCell ?_ ?_ _ | (simp; done))); done)) | (go_keep))
      (fail)
    all_goals
      go_wp2_with fail
      go_meet
      first
        | exact ⟨_, rfl, EdSt.one _ _ _⟩
        | exact ⟨_, rfl, EdSt.two _ _ _⟩
  case rest =>
    obtain ⟨p5, rfl, hs⟩ := hcut
    obtain ⟨a0, cc0, rfl, -⟩ := hs.g.form
    have HST : Hid (EdSt w p5 (.slice a0 0 cc0) (DL 0) (X 0) (Y 0) wc) := by
      rw [HZ.out, HX0.out.1, HX0.out.2]; exact hs
    obtain ⟨q0, q1, q2⟩ := HCB.out wc hs.x
    have lq := World.block_lt_of_cell? _ _ q0
    clear hs c0 c1 c2 lb hE
    go_wp2
    clear q0 q1 q2 lq
    go_loopw [4, 6, 7, 18] (fun v _ _ z wr => ∃ i : Nat, i ≤ n ∧ z = .int .i64 i ∧ Hid (EdSt w p5 v (DL i) (X i) (Y i) wr)) (fun _ _ _ z _ => n - (intOf z).toNat)
    case atStart => exact ⟨0, Nat.zero_le _, rfl, HST⟩
    case round =>
      clear HST
      obtain ⟨i, hi', rfl, HS⟩ := hrel
      obtain ⟨wo, rfl⟩ : ∃ wo : World, wo = wr := ⟨_, rfl⟩
      obtain ⟨q0, q1, q2⟩ := HCB.out wo HS.out.x
      have lq := World.block_lt_of_cell? _ _ q0
      have hsz : word.size = n := HSZ.out
      have hi0 : (0 : Int) ≤ (i : Int) := by omega
      by_cases hin : i < n
      · obtain ⟨hs, hlet⟩ := HLET.out i hin
        have hin' : (i : Int) < (word.size : Int) := by omega
        have hk4 := HK4.out i
        obtain ⟨bx1, bx2, bx3, bx4⟩ := HBX.out i
        obtain ⟨hX1, hY1⟩ := HSTEP.out i
        have HX1 := Lib.hid hX1
        have HY1 := Lib.hid hY1
        have HST2 : Hid (∀ w', Calls Try.prog 59 #[.int .u8 (((word[i]'hs).toNat : Nat) : Int)] w' fun e w'' => e = .returned (.int .i64 (K i : Int)) ∧ w'.Ext w'') := fun w' => by rw [hlet]; exact stepOf_any (K i) w' hk4
        clear hX1 hY1 hlet hsz
        go_wp2_with fail
        refine (HST2.out _).mono ?_
        rintro e1 w1 ⟨rfl, hx1⟩
        have HS1 := Lib.hid (HS.out.ext hx1)
        have d0 := HS1.out.r.cell0
        have d1 := HS1.out.r.cell1
        have ld := HS1.out.r.lt
        have hkn : ¬ ((K i : Nat) : Int) < 0 := by omega
        have hlen := HLN.out i
        have hown : w1.ownsRow w.heap.size 82 3 u4 (DL i).length ((flatD (DL i)).map (Value.int .i64)) := HS1.out.g
        have HB1 : Hid ((DL i).length + 1 ≤ maxLen) := by show _ ≤ _; unfold maxLen; omega
        have HB2 : Hid (((DL i).length + 1) * 24 ≤ 140737488355328) := by show _ ≤ _; omega
        have HLE : ∀ o' : Obj, w.heap.size ≤ (w1.alloc o').heap.size := fun o' => (HS1.out.x.alloc o').size
        have HNEXT : Hid (∀ (o : Obj) (v' : Value) (w2 : World), (w1.alloc o).grownBy w2 u4.ownBlock → w2.ownsRow w.heap.size 82 3 v' ((DL i).length + 1) ((flatD (DL i)).map (Value.int .i64) ++ [.int .i64 (X i), .int .i64 (Y i), .int .i64 (K i : Int)]) → EdSt w p5 v' (DL (i + 1)) (X i) (Y i) w2) := fun o v' w2 hg ho => by
          have hxa : w1.Ext (w1.alloc o) := by repeat (first | exact World.Ext.refl _ | exact ⟨_, rfl⟩ | assumption | refine World.Ext.over ?_ _ | refine World.Ext.drewN ?_ _ | refine World.Ext.drew ?_ | refine World.Ext.alloc ?_ _ | refine World.Ext.setCell ?_ (by simp) _)
          have hr : w1.heap[p5]? = _ := HS1.out.r
          refine ⟨(HS1.out.x.trans hxa).grown hg fun k hk => (World.ownsRow.lt HS1.out.g k hk).1, (HS1.out.r.ext hxa).keep (hg.block p5 (by have := HS1.out.r.lt; simp; omega) (World.ownsRow.ne HS1.out.g hr (by decide))), HS1.out.lo, ?_⟩
          rw [HSU.out i]
          exact GrowD.push ho
        clear hx1 HS hlen HST2 q0 q1 q2 lq
        go_wp2_with (at_builtin; refine wpList_append_own _ rfl _ _ 85 rfl w.heap.size 82 ie (.agg #[.int .i64 0, .int .i64 0, .int .i64 0]) 3 24 Try.underlying85 hi hz0 hz1 hz2 rfl (by decide) _ _ _ rfl (hown.alloc _) ⟨w1.heap.size, 0, none⟩ 1 1 [.int .i64 (X i), .int .i64 (Y i), .int .i64 (K i : Int)] rfl rfl (edg3_at (by simp)) (by simp [Value.oneCell']) HB1.out HB2.out (HLE _) (fun v' w2 hown' hgrow _ => ?_); have hs2 := HNEXT.out _ _ _ hgrow hown'; obtain ⟨a3, c3, rfl, -⟩ := hs2.g.form; have HS2 := Lib.hid hs2; clear hs2 hgrow hown' hown HS1 d0 d1 ld HNEXT; have d0 := HS2.out.r.cell0; have d1 := HS2.out.r.cell1; have ld := HS2.out.r.lt)
        refine (HMV.out i w2).mono ?_
        rintro e2 w3 ⟨rfl, hx3⟩
        rw [← HX1.out, ← HY1.out]
        have HS3 := Lib.hid (HS2.out.ext hx3)
        clear hx3 HS2 d0 d1 ld
        have d0 := HS3.out.r.cell0
        have d1 := HS3.out.r.cell1
        have f0 := HS3.out.r.free 0
        have f1 := HS3.out.r.free 1
        have ld := HS3.out.r.lt
        have HS4 : Hid (EdSt w p5 (.slice a3 (DL (i + 1)).length c3) (DL (i + 1)) (X (i + 1)) (Y (i + 1)) ((w3.setCell ⟨p5, 0, none⟩ (.int .i64 (X (i + 1)))).setCell ⟨p5, 1, none⟩ (.int .i64 (Y (i + 1))))) := by
          have hlo := HS3.out.lo
          have hr : w3.heap[p5]? = _ := HS3.out.r
          refine ⟨(HS3.out.x.setCell (p := ⟨p5, 0, none⟩) hlo _).setCell (p := ⟨p5, 1, none⟩) hlo _, two_put1 (two_put0 HS3.out.r _) _, hlo, ?_⟩
          exact World.ownsRow.keep HS3.out.g fun k hk => by
            have hne : k ≠ p5 := fun e => World.ownsRow.ne HS3.out.g hr (by decide) (by rw [hk, e])
            rw [Below.heap_setCell _ _ _ _ hne, Below.heap_setCell _ _ _ _ hne]
        clear HS3
        go_wp2
        go_roundw
        case rel => exact ⟨i + 1, by omega, by go_num, HS4⟩
        case measure => simp [intOf]; omega
      · have hie : i = n := by omega
        have hnl : ¬ (i : Int) < (word.size : Int) := by omega
        obtain ⟨a9, c9, rfl, -⟩ := HS.out.g.form
        have d0 := HS.out.r.cell0
        have d1 := HS.out.r.cell1
        have ld := HS.out.r.lt
        rw [hie, HEND.out.1] at d0
        rw [hie, HEND.out.2] at d1
        have HR : Hid (w.Ext wo ∧ OwnD w.heap.size wo.heap.size wo a9 (DL i)) := ⟨HS.out.x, GrowD.own HS.out.g⟩
        rw [hie] at HR ⊢
        clear HS hsz hin hie
        have f1 : (ex == ex && ey == ey) = true := by simp
        go_wp2_with fail
        refine wp_region_over_lit (by kernel_rfl) (by kernel_rfl) ?_; (repeat (go_big_quiet_step (fail))); refine wpQuiet_nil ?_; rintro _ ⟨x1, rfl⟩
        have HR2 : Hid (w.Ext (wo.over x1) ∧ OwnD w.heap.size (wo.over x1).heap.size (wo.over x1) a9 (DL n)) := ⟨HR.out.1.over x1, (HR.out.2.ext ⟨x1, rfl⟩).mono (Nat.le_refl _) (World.Ext.size ⟨x1, rfl⟩)⟩
        go_wp2
        go_ret2
        exact ⟨a9, c9, rfl, HR2.out.1, HR2.out.2⟩
end Go.Proofs.Ytelaoimcaidoiaa

/- BorderAt: the program's. -/
namespace Go.Proofs.Ytelaoimcaidoiaa
open Go Go.RowKit
end Go.Proofs.Ytelaoimcaidoiaa
