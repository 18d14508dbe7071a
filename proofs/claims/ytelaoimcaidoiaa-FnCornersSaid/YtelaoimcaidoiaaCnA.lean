/- The corners of a border: the program's. -/
import Derived.Test.YtelaoimcaidoiaaHulA
import Derived.Test.YtelaoimcaidoiaaCmcF
import Derived.Maps.AppendAt
import Derived.Test.YtelaoimcaidoiaaLayD
import Derived.Test.YtelaoimcaidoiaaEltW
namespace Go.Proofs.Ytelaoimcaidoiaa
open Go Go.RowKit
/-- A list of spots that grows in the call's own memory. -/
structure SmSt (W0 : World) (L : List (Int × Int)) (v : Value) (wr : World) : Prop where
  x : W0.Ext wr
  own : GrowP W0.heap.size 33 wr v L
  sm : ∃ g n cap, v = .slice (some ⟨g, 0, none⟩) n cap
theorem SmSt.start {W0 w1 : World} (hx : W0.Ext w1) : SmSt W0 [] (.slice (some ⟨w1.heap.size, 0, none⟩) 0 0) (w1.alloc (.cells #[] 33)) := ⟨hx.alloc _, GrowP.empty w1 hx.size, _, _, _, rfl⟩
theorem SmSt.ext {W0 wr w' : World} {L : List (Int × Int)} {v : Value} (h : SmSt W0 L v wr) (hx : wr.Ext w') : SmSt W0 L v w' := ⟨h.x.trans hx, h.own.ext hx, h.sm⟩
theorem GrowP.some {lo : Nat} {e : TypeId} {w : World} {v : Value} {ps : List (Int × Int)} (h : GrowP lo e w v ps) (hp : 0 < ps.length) : ∃ g cap, v = .slice (some ⟨g, 0, none⟩) ps.length cap := by
  obtain ⟨g, cap, hv, -⟩ := GrowP.atI h hp
  exact ⟨g, cap, hv⟩
theorem SmSt.push {W0 w3 w4 : World} {L : List (Int × Int)} {v v' : Value} {o : Obj} {x y : Int} (h : SmSt W0 L v w3) (hgrow : (w3.alloc o).grownBy w4 v.ownBlock)
    (hown : w4.ownsRow W0.heap.size 33 2 v' (L.length + 1) ((flatP L).map (Value.int .i64) ++ [.int .i64 x, .int .i64 y])) : SmSt W0 (L ++ [(x, y)]) v' w4 := by
  have hg : GrowP W0.heap.size 33 w4 v' (L ++ [(x, y)]) := GrowP.push (p := (x, y)) hown
  obtain ⟨g, cap, hv⟩ := hg.some (by simp)
  exact ⟨World.ownsRow.pushExt h.own h.x hgrow, hg, g, _, cap, hv⟩
theorem SmSt.form {W0 wr : World} {L : List (Int × Int)} {v : Value} (h : SmSt W0 L v wr) : ∃ g cap, v = .slice (some ⟨g, 0, none⟩) L.length cap := by
  obtain ⟨g, n, cap, rfl⟩ := h.sm
  obtain ⟨a, c, hv, -⟩ := h.own.form
  simp only [Value.slice.injEq] at hv
  obtain ⟨-, rfl, -⟩ := hv
  exact ⟨g, cap, rfl⟩
theorem GrowP.mono {lo lo' : Nat} {e : TypeId} {w : World} {v : Value} {ps : List (Int × Int)} (h : GrowP lo e w v ps) (hl : lo' ≤ lo) : GrowP lo' e w v ps := by
  obtain ⟨h1, h2⟩ := h
  refine ⟨h1, ?_⟩
  rcases h2 with h2 | ⟨g, cap, cur, hv, hb, h3⟩
  · exact .inl h2
  · exact .inr ⟨g, cap, cur, hv, Nat.le_trans hl hb, h3⟩
/-- The same, and blocks that it leaves alone. -/
structure SmKp (W0 : World) (K : Nat → Obj → Prop) (L : List (Int × Int)) (v : Value) (wr : World) : Prop where
  st : SmSt W0 L v wr
  kp : ∀ p ob, K p ob → wr.heap[p]? = some ob ∧ v.ownBlock ≠ some p
theorem SmKp.ext {W0 wr w' : World} {K : Nat → Obj → Prop} {L : List (Int × Int)} {v : Value} (h : SmKp W0 K L v wr) (hx : wr.Ext w') : SmKp W0 K L v w' :=
  ⟨h.st.ext hx, fun p ob hk => by
    obtain ⟨h1, h2⟩ := h.kp p ob hk
    exact ⟨by rw [hx.block (Array.getElem?_eq_some_iff.1 h1).1]; exact h1, h2⟩⟩
theorem SmKp.push {W0 w3 w4 : World} {K : Nat → Obj → Prop} {L : List (Int × Int)} {v v' : Value} {o : Obj} {x y : Int} (h : SmKp W0 K L v w3) (hgrow : (w3.alloc o).grownBy w4 v.ownBlock)
    (hown : w4.ownsRow W0.heap.size 33 2 v' (L.length + 1) ((flatP L).map (Value.int .i64) ++ [.int .i64 x, .int .i64 y])) (hat : v'.ownBlock = v.ownBlock ∨ v'.ownBlock = some (w3.alloc o).heap.size) : SmKp W0 K (L ++ [(x, y)]) v' w4 :=
  ⟨h.st.push hgrow hown, fun p ob hk => by
    obtain ⟨h1, h2⟩ := h.kp p ob hk
    have hl := (Array.getElem?_eq_some_iff.1 h1).1
    have hx : w3.Ext (w3.alloc o) := (World.Ext.refl _).alloc _
    refine ⟨by rw [hgrow.block p (Nat.lt_of_lt_of_le hl hx.size) (Ne.symm h2), hx.block hl]; exact h1, ?_⟩
    rcases hat with e | e
    · rw [e]; exact h2
    · rw [e]
      have := hx.size
      simp only [ne_eq, Option.some.injEq]
      have hs : (w3.alloc o).heap.size = w3.heap.size + 1 := by simp
      omega⟩
theorem SmKp.cell {W0 wr w4 : World} {g : Nat} {L : List (Int × Int)} {v : Value} (h : SmKp W0 (fun p ob => w4.heap[p]? = some ob ∧ p ≠ g) L v wr) {b o : Nat} {x : Value} (hb : b ≠ g) (hc : w4.cell? ⟨b, o, none⟩ = some x) : wr.cell? ⟨b, o, none⟩ = some x := by
  unfold World.cell? at hc ⊢
  cases hh : w4.heap[b]? with
  | none => rw [hh] at hc; cases hc
  | some ob =>
    rw [(h.kp b ob ⟨hh, hb⟩).1]
    rw [hh] at hc
    exact hc
theorem Try.infoSpotG : (Try.prog.info? 33).map (fun i => (i.zero, i.size, i.bytes)) = some (some (.agg #[.int .i64 0, .int .i64 0]), 2, 16) := by kernel_rfl
/-- A list of spots of the call's own. -/
def SpsRet (w : World) (L : List (Int × Int)) (e : Ending) (w' : World) : Prop := ∃ g cap, e = .returned (.slice (some ⟨g, 0, none⟩) L.length cap) ∧ SmSt w L (.slice (some ⟨g, 0, none⟩) L.length cap) w'
theorem corL_yes {c : Nat → Edg} {n i : Nat} (h : isC (cK c) n i = true) : corL c n (i + 1) = corL c n i ++ [((c i).x, (c i).y)] := by
  unfold corL
  rw [corI_yes h, List.map_append]
  rfl
theorem corL_no {c : Nat → Edg} {n i : Nat} (h : isC (cK c) n i = false) : corL c n (i + 1) = corL c n i := by
  unfold corL
  rw [corI_no h]
theorem corL_few (c : Nat → Edg) (n i : Nat) : (corL c n i).length ≤ i := by
  unfold corL
  rw [List.length_map]
  exact corI_len _ _ _
set_option maxRecDepth 20000 in
set_option maxHeartbeats 3200000 in
theorem cornersOf_any (f : Int → Int → Bool) (e : Edg) (w : World) (hbx : InBx f 16 16) (hok : EOk f e) (h6 : per f e ≤ 600) :
    Calls Try.prog 19 #[.agg #[.int .i64 e.x, .int .i64 e.y, .string (wrd f e)]] w (SpsRet w (corL (fun i => itr f i e) (per f e) (per f e))) := by
  obtain ⟨iw, hiw, hz0, hz1, hz2⟩ := info_parts Try.infoSpotG
  obtain ⟨W0, hW0⟩ : ∃ W0, W0 = w.alloc (.cells #[.int .i64 e.x, .int .i64 e.y, .string (wrd f e)] 35) := ⟨_, rfl⟩
  have hx0 : w.Ext W0 := by rw [hW0]; repeat (first | exact World.Ext.refl _ | exact ⟨_, rfl⟩ | assumption | refine World.Ext.over ?_ _ | refine World.Ext.drewN ?_ _ | refine World.Ext.drew ?_ | refine World.Ext.alloc ?_ _ | refine World.Ext.setCell ?_ (by simp) _)
  have HC0 : Hid (∀ w', W0.Ext w' → w'.cell? ⟨w.heap.size, 0, none⟩ = some (.int .i64 e.x) ∧ w'.cell? ⟨w.heap.size, 1, none⟩ = some (.int .i64 e.y) ∧ w'.cell? ⟨w.heap.size, 2, none⟩ = some (.string (wrd f e))) := fun w' hx => by
    refine ⟨hx.cell ?_, hx.cell ?_, hx.cell ?_⟩ <;> (rw [hW0]; simp [go_sem])
  have HED : Hid (∀ w', W0.Ext w' → Calls Try.prog 45 #[.pointer (some ⟨w.heap.size, 0, none⟩)] w' fun e' w'' => ∃ a c, e' = .returned (.tuple #[.slice a (per f e) c, .bool true]) ∧ w'.Ext w'' ∧ OwnD w'.heap.size w''.heap.size w'' a (edgsL f e (per f e))) := fun w' hx => by
    obtain ⟨q0, q1, q2⟩ := HC0.out w' hx
    have q := edges_any w.heap.size f e w' hbx hok q0 q1 q2
    rw [edgsL_len] at q
    exact q
  have HTN : Hid (∀ w' a c, RowD w' a (edgsL f e (per f e)) → Calls Try.prog 46 #[.slice a (per f e) c] w' (TurnsRet w' (per f e) (tnL (fun i => (itr f i e).k) (per f e) (per f e)))) := fun w' a c h =>
    turns_any a c _ _ (fun i => (itr f i e).k) w' (edgsL_len _ _ _) (by omega) (fun i hi => by rw [edgsL_at hi]; rfl) (fun i => (itr_ok hok i).1) h
  have HDA : Hid (∀ w' a, RowD w' a (edgsL f e (per f e)) → ∀ i, i < per f e → ∃ b o, a = some ⟨b, o, none⟩ ∧ w'.cell? ⟨b, o + i * 3, none⟩ = some (.int .i64 (itr f i e).x) ∧ w'.cell? ⟨b, o + i * 3 + 1, none⟩ = some (.int .i64 (itr f i e).y)) := fun w' a h i hi => by
    obtain ⟨b, o, h1, h2, h3, -⟩ := RowD.at h (show i < (edgsL f e (per f e)).length by rw [edgsL_len]; exact hi)
    rw [edgsL_at hi] at h2 h3
    exact ⟨b, o, h1, h2, h3⟩
  have HTA : Hid (∀ i, i < per f e → (tnL (fun i => (itr f i e).k) (per f e) (per f e)).getD i 0 = tnV (fun i => (itr f i e).k) (per f e) i) := fun i hi => tnL_at _ hi
  have HTL := Lib.hid (tnL_len (fun i => (itr f i e).k) (per f e) (per f e))
  have HCY : Hid (∀ i, tnV (fun i => (itr f i e).k) (per f e) i ≠ 0 → corL (fun i => itr f i e) (per f e) (i + 1) = corL (fun i => itr f i e) (per f e) i ++ [((itr f i e).x, (itr f i e).y)]) := fun i h => corL_yes (by
    have h' : tnV (cK fun i => itr f i e) (per f e) i ≠ 0 := h
    unfold isC
    rw [beq_eq_false_iff_ne.2 h']
    rfl)
  have HCN : Hid (∀ i, tnV (fun i => (itr f i e).k) (per f e) i = 0 → corL (fun i => itr f i e) (per f e) (i + 1) = corL (fun i => itr f i e) (per f e) i) := fun i h => corL_no (by
    have h' : tnV (cK fun i => itr f i e) (per f e) i = 0 := h
    unfold isC
    rw [h']
    rfl)
  have HCF := Lib.hid (corL_few (fun i => itr f i e) (per f e))
  have HCS : Hid (corL (fun i => itr f i e) (per f e) 0 = []) := rfl
  have HX0 := Lib.hid hx0
  clear hx0 hbx hok
  generalize wrd f e = word at *
  generalize edgsL f e (per f e) = DL at *
  generalize per f e = n at *
  generalize tnL (fun i => (itr f i e).k) n n = TL at *
  generalize tnV (fun i => (itr f i e).k) n = TV at *
  generalize corL (fun i => itr f i e) n = CL at *
  obtain ⟨c0, c1, c2⟩ := HC0.out W0 (.refl _)
  have l0 := World.block_lt_of_cell? _ _ c0
  go_enter Try.func19, Try.ntmps19
  go_upto_region 1 with fail
  rw [← hW0]
  clear hW0
  go_wp2_with fail
  refine (HED.out W0 (.refl _)).mono ?_
  rintro e9 w2 ⟨a2, cc2, rfl, hx2, ho2⟩
  have HR2 := Lib.hid ho2.row
  have HX2 := Lib.hid (HX0.out.trans hx2)
  have HST := Lib.hid (SmSt.start (W0 := w) HX2.out)
  have HC2 : Hid (∀ w', w2.Ext w' → Calls Try.prog 46 #[.slice a2 n cc2] w' (TurnsRet w' n TL)) := fun w' hx => HTN.out w' a2 cc2 (HR2.out.ext hx)
  clear c0 c1 c2 l0 hx2 ho2 HED HTN HC0 HX0
  obtain ⟨w3, hw3⟩ : ∃ w3, w3 = w2.alloc (.cells #[] 33) := ⟨_, rfl⟩
  have hx3 : w2.Ext w3 := by rw [hw3]; repeat (first | exact World.Ext.refl _ | exact ⟨_, rfl⟩ | assumption | refine World.Ext.over ?_ _ | refine World.Ext.drewN ?_ _ | refine World.Ext.drew ?_ | refine World.Ext.alloc ?_ _ | refine World.Ext.setCell ?_ (by simp) _)
  rw [← hw3] at HST
  have HC3 := Lib.hid (HC2.out w3 hx3)
  have HX24 := Lib.hid hx3
  have HG3 : Hid (w2.heap.size < w3.heap.size) := by show _ < _; rw [hw3]; simp
  clear hx3 HX2 HC2
  go_upto_region 3 with fail
  rw [← hw3]
  clear hw3
  obtain ⟨g5, hg5⟩ : ∃ g, g = w2.heap.size := ⟨_, rfl⟩
  rw [← hg5] at HST HG3 ⊢
  have HG2 : Hid (w2.heap.size = g5) := hg5.symm
  clear hg5
  go_wp2_with fail
  refine HC3.out.mono ?_
  rintro e9 w4 ⟨a4, cc4, rfl, hx4, ho4⟩
  have HS4 : Hid (SmKp w (fun p ob => w4.heap[p]? = some ob ∧ p ≠ g5) (CL 0) (.slice (some ⟨g5, 0, none⟩) 0 0) w4) := ⟨by rw [HCS.out]; exact HST.out.ext hx4, fun p ob h => ⟨h.1, fun e => by cases e; exact h.2 rfl⟩⟩
  have HT4 : Hid (∀ v wr i L, SmKp w (fun p ob => w4.heap[p]? = some ob ∧ p ≠ g5) L v wr → i < n → ∃ b o, a4 = some ⟨b, o, none⟩ ∧ wr.cell? ⟨b, o + i, none⟩ = some (.int .i64 (TL.getD i 0))) := fun v wr i L h hi => by
    obtain ⟨b, o, e, h1, h2, h3, -⟩ := ho4 i (by rw [HTL.out]; exact hi)
    exact ⟨b, o, e, h.cell (by have := HG3.out; omega) h3⟩
  have HD4 : Hid (∀ v wr i L, SmKp w (fun p ob => w4.heap[p]? = some ob ∧ p ≠ g5) L v wr → i < n → ∃ b o, a2 = some ⟨b, o, none⟩ ∧ wr.cell? ⟨b, o + i * 3, none⟩ = some (.int .i64 (itr f i e).x) ∧ wr.cell? ⟨b, o + i * 3 + 1, none⟩ = some (.int .i64 (itr f i e).y)) := fun v wr i L h hi => by
    obtain ⟨b, o, e, h1, h2⟩ := HDA.out w2 a2 HR2.out i hi
    have hb := World.block_lt_of_cell? _ _ h1
    have hne : b ≠ g5 := Nat.ne_of_lt (by have := HG2.out; rw [this] at hb; exact hb)
    exact ⟨b, o, e, h.cell hne ((HX24.out.trans hx4).cell h1), h.cell hne ((HX24.out.trans hx4).cell h2)⟩
  clear hx4 ho4 HST HR2 HC3 HCS HX24 HG3 HG2 HDA
  go_wp2
  go_loopw [5, 6, 7, 16] (fun v _ _ z wr => ∃ i : Nat, i ≤ n ∧ z = .int .i64 i ∧ Hid (SmKp w (fun p ob => w4.heap[p]? = some ob ∧ p ≠ g5) (CL i) v wr)) (fun _ _ _ z _ => n - (intOf z).toNat)
  case atStart => exact ⟨0, Nat.zero_le _, rfl, HS4⟩
  case round =>
    clear HS4
    obtain ⟨i, hi, rfl, HS⟩ := hrel
    obtain ⟨wo, rfl⟩ : ∃ wo : World, wo = wr := ⟨_, rfl⟩
    have hi0 : (0 : Int) ≤ (i : Int) := by omega
    by_cases hin : i < n
    · have hin' : (i : Int) < (n : Int) := by omega
      obtain ⟨b1, o1, rfl, d0⟩ := HT4.out _ _ i _ HS.out hin
      rw [HTA.out i hin] at d0
      obtain ⟨b3, o3, rfl, f0, f1⟩ := HD4.out _ _ i _ HS.out hin
      have ld := World.block_lt_of_cell? _ _ d0
      have lf := World.block_lt_of_cell? _ _ f0
      have HCY1 := Lib.hid (HCY.out i)
      have HCN1 := Lib.hid (HCN.out i)
      have hcf := HCF.out i
      generalize TV i = tv at *
      generalize (itr f i e).x = X at *
      generalize (itr f i e).y = Y at *
      by_cases htv : tv = 0
      · have htb : (tv != 0) = false := by rw [htv]; rfl
        have HS5 : Hid (SmKp w (fun p ob => w4.heap[p]? = some ob ∧ p ≠ g5) (CL (i + 1)) u5 wo) := by rw [HCN1.out htv]; exact HS
        clear HS htv
        go_wp2
        go_roundw
        case rel => exact ⟨i + 1, by omega, by go_num, HS5⟩
        case measure => simp [intOf]; omega
      · have htb : (tv != 0) = true := by simp [htv]
        have hown : wo.ownsRow w.heap.size 33 2 u5 (CL i).length ((flatP (CL i)).map (Value.int .i64)) := HS.out.st.own
        have HB1 : Hid ((CL i).length + 1 ≤ maxLen) := by show _ ≤ _; unfold maxLen; omega
        have HB2 : Hid (((CL i).length + 1) * 16 ≤ 140737488355328) := by show _ ≤ _; omega
        have HLE : Hid (∀ o : Obj, w.heap.size ≤ (wo.alloc o).heap.size) := fun o => (HS.out.st.x.alloc o).size
        have HNX : Hid (∀ (o : Obj) (v' : Value) (w9 : World), (wo.alloc o).grownBy w9 u5.ownBlock → w9.ownsRow w.heap.size 33 2 v' ((CL i).length + 1) ((flatP (CL i)).map (Value.int .i64) ++ [.int .i64 X, .int .i64 Y]) → (v'.ownBlock = u5.ownBlock ∨ v'.ownBlock = some (wo.alloc o).heap.size) → Hid (SmKp w (fun p ob => w4.heap[p]? = some ob ∧ p ≠ g5) (CL (i + 1)) v' w9)) := fun o v' w9 hg ho hat => by
          rw [HCY1.out htv]
          exact HS.out.push hg ho hat
        clear htv HS hcf
        go_wp2_with (at_builtin; refine wpList_append_own_at _ rfl _ _ 37 rfl w.heap.size 33 iw (.agg #[.int .i64 0, .int .i64 0]) 2 16 Try.underlying37 hiw hz0 hz1 hz2 rfl (by decide) _ _ _ rfl (hown.alloc _) ⟨wo.heap.size, 0, none⟩ 1 1 [.int .i64 X, .int .i64 Y] rfl rfl (cell_two_new _ _ _ _) (by simp [Value.oneCell']) HB1.out HB2.out (HLE.out _) (fun v' w9 hown' hgrow _ hat => ?_); have HS9 := HNX.out _ _ _ hgrow hown' hat; clear hgrow hown' hown hat)
        go_roundw
        case rel => exact ⟨i + 1, by omega, by go_num, HS9⟩
        case measure => simp [intOf]; omega
    · have : i = n := by omega
      subst this
      have hin' : ¬ (i : Int) < (i : Int) := by omega
      obtain ⟨g, cap, rfl⟩ := HS.out.st.form
      have HRT : Hid (SpsRet w (CL i) (.returned (.slice (some ⟨g, 0, none⟩) (CL i).length cap)) wo) := ⟨g, cap, rfl, HS.out.st⟩
      clear HS
      go_wp2
      go_ret
      exact HRT.out
end Go.Proofs.Ytelaoimcaidoiaa

/- The corners of a border that is checked; the steps between corners. -/
namespace Go.Proofs.Ytelaoimcaidoiaa
open Go Go.RowKit
def SpsRet2 (w : World) (L : List (Int × Int)) (e : Ending) (w' : World) : Prop := ∃ g cap, e = .returned (.tuple #[.slice (some ⟨g, 0, none⟩) L.length cap, .bool true]) ∧ w.Ext w' ∧ RowP w' (some ⟨g, 0, none⟩) L
set_option maxRecDepth 20000 in
set_option maxHeartbeats 1600000 in
theorem corners_any (f : Int → Int → Bool) (e : Edg) (w : World) (hbx : InBx f 16 16) (hok : EOk f e) (h4 : 4 ≤ per f e) (h6 : per f e ≤ 600) :
    Calls Try.prog 9 #[.agg #[.int .i64 e.x, .int .i64 e.y, .string (wrd f e)]] w (SpsRet2 w (corL (fun i => itr f i e) (per f e) (per f e))) := by
  obtain ⟨W0, hW0⟩ : ∃ W0, W0 = w.alloc (.cells #[.int .i64 e.x, .int .i64 e.y, .string (wrd f e)] 35) := ⟨_, rfl⟩
  have hx0 : w.Ext W0 := by rw [hW0]; repeat (first | exact World.Ext.refl _ | exact ⟨_, rfl⟩ | assumption | refine World.Ext.over ?_ _ | refine World.Ext.drewN ?_ _ | refine World.Ext.drew ?_ | refine World.Ext.alloc ?_ _ | refine World.Ext.setCell ?_ (by simp) _)
  have HC0 : Hid (∀ w', W0.Ext w' → w'.cell? ⟨w.heap.size, 0, none⟩ = some (.int .i64 e.x) ∧ w'.cell? ⟨w.heap.size, 1, none⟩ = some (.int .i64 e.y) ∧ w'.cell? ⟨w.heap.size, 2, none⟩ = some (.string (wrd f e))) := fun w' hx => by
    refine ⟨hx.cell ?_, hx.cell ?_, hx.cell ?_⟩ <;> (rw [hW0]; simp [go_sem])
  have HIB := Lib.hid (isBord_any f e W0 hbx hok h4 h6)
  have HCO := Lib.hid (fun w' => cornersOf_any f e w' hbx hok h6)
  have HX0 := Lib.hid hx0
  clear hx0 hbx hok
  generalize wrd f e = word at *
  generalize corL (fun i => itr f i e) (per f e) (per f e) = CL at *
  obtain ⟨c0, c1, c2⟩ := HC0.out W0 (.refl _)
  have l0 := World.block_lt_of_cell? _ _ c0
  go_enter Try.func9, Try.ntmps9
  go_upto_region 1 with fail
  rw [← hW0]
  clear hW0
  go_wp2_with fail
  refine HIB.out.mono ?_
  rintro e9 w1 ⟨rfl, hx1⟩
  clear c0 c1 c2 l0
  obtain ⟨c0, c1, c2⟩ := HC0.out w1 hx1
  have l0 := World.block_lt_of_cell? _ _ c0
  have HX1 := Lib.hid (HX0.out.trans hx1)
  clear hx1 HX0
  go_wp2_with fail
  refine (HCO.out w1).mono ?_
  rintro e9 w2 ⟨g, cap, rfl, hs⟩
  have HR : Hid (SpsRet2 w CL (.returned (.tuple #[.slice (some ⟨g, 0, none⟩) CL.length cap, .bool true])) w2) := ⟨g, cap, rfl, HX1.out.trans hs.x, (GrowP.own hs.own).row⟩
  clear hs
  go_wp2
  go_ret2
  exact HR.out
/-- The letter of a way, so often. -/
def repB (k d : Nat) : ByteArray := ⟨(Lib.repeatL [UInt8.ofNat (letN k)] d).toArray⟩
set_option maxRecDepth 5000 in
set_option maxHeartbeats 3200000 in
theorem stepsTo_any (ax ay bx by_ : Int) (k d : Nat) (w : World) (hk : k < 4) (hd : 1 ≤ d ∧ d ≤ 16) (ha : 0 ≤ ax ∧ ax ≤ 16 ∧ 0 ≤ ay ∧ ay ≤ 16) (hb : 0 ≤ bx ∧ bx ≤ 16 ∧ 0 ≤ by_ ∧ by_ ≤ 16) (hx : bx = ax + (d : Int) * dX k) (hy : by_ = ay + (d : Int) * dY k) :
    Calls Try.prog 22 #[.agg #[.int .i64 ax, .int .i64 ay], .agg #[.int .i64 bx, .int .i64 by_]] w fun e w' => e = .returned (.tuple #[.string (repB k d), .bool true]) ∧ w.Ext w' := by
  obtain ⟨W0, hW0⟩ : ∃ W0, W0 = (w.alloc (.cells #[.int .i64 ax, .int .i64 ay] 33)).alloc (.cells #[.int .i64 bx, .int .i64 by_] 33) := ⟨_, rfl⟩
  have hx0 : w.Ext W0 := by rw [hW0]; repeat (first | exact World.Ext.refl _ | exact ⟨_, rfl⟩ | assumption | refine World.Ext.over ?_ _ | refine World.Ext.drewN ?_ _ | refine World.Ext.drew ?_ | refine World.Ext.alloc ?_ _ | refine World.Ext.setCell ?_ (by simp) _)
  have a0 : W0.cell? ⟨w.heap.size, 0, none⟩ = some (.int .i64 ax) := by rw [hW0]; simp [go_sem]
  have a1 : W0.cell? ⟨w.heap.size, 1, none⟩ = some (.int .i64 ay) := by rw [hW0]; simp [go_sem]
  have b0 : W0.cell? ⟨w.heap.size + 1, 0, none⟩ = some (.int .i64 bx) := by rw [hW0]; simp [go_sem]
  have b1 : W0.cell? ⟨w.heap.size + 1, 1, none⟩ = some (.int .i64 by_) := by rw [hW0]; simp [go_sem]
  have lb := World.block_lt_of_cell? _ _ b0
  have la := World.block_lt_of_cell? _ _ a0
  have wr1 : IntKind.i64.wrap (ax - bx) = ax - bx := IntWalk.i64_in _ (by omega)
  have wr2 : IntKind.i64.wrap (ay - by_) = ay - by_ := IntWalk.i64_in _ (by omega)
  have HR : Hid (∀ (s : ByteArray) (w' : World), s.size ≤ 1 → Calls Try.prog 50 #[.string s, .int .i64 (d : Int)] w' fun e w'' => e = .returned (.string ⟨(Lib.repeatL s.data.toList d).toArray⟩) ∧ w'.Ext w'') := fun s w' hs =>
    (Try.strings_Repeat s d w' (by omega) (by
      have : s.size * d ≤ 1 * 16 := Nat.mul_le_mul hs hd.2
      omega)).mono fun e w'' h => ⟨h.1, World.Ext.of_below h.2⟩
  have HX0 := Lib.hid hx0
  obtain ⟨D, hD⟩ : ∃ D : Int, D = (d : Int) := ⟨_, rfl⟩
  have hD1 : 1 ≤ D ∧ D ≤ 16 := by omega
  rw [← hD] at hx hy HR
  have HRB : Hid (∀ s : ByteArray, s = ⟨#[UInt8.ofNat (letN k)]⟩ → (⟨(Lib.repeatL s.data.toList d).toArray⟩ : ByteArray) = repB k d) := fun s hs => by rw [hs]; rfl
  clear hx0 hD hd
  have hk4 : k = 0 ∨ k = 1 ∨ k = 2 ∨ k = 3 := by omega
  clear hk
  obtain ⟨sx, hsx⟩ : ∃ s, mxI (ax - bx) (-(ax - bx)) = s := ⟨_, rfl⟩
  obtain ⟨sy, hsy⟩ : ∃ s, mxI (ay - by_) (-(ay - by_)) = s := ⟨_, rfl⟩
  have HSX := Lib.hid (fun w' => size_any (ax - bx) w' (by omega) sx hsx)
  have HSY := Lib.hid (fun w' => size_any (ay - by_) w' (by omega) sy hsy)
  unfold mxI at hsx hsy
  rcases hk4 with rfl | rfl | rfl | rfl
  · have e1 : dX 0 = 1 := rfl
    have e2 : dY 0 = 0 := rfl
    rw [e1] at hx
    rw [e2] at hy
    have v1 : D = sx := by split at hsx <;> omega
    have v2 : 0 = sy := by split at hsy <;> omega
    clear hsx hsy e1 e2
    subst v1
    subst v2
    have q1 : (ax == bx) = false := by rw [beq_eq_false_iff_ne]; omega
    have q2 : (ay == by_) = true := by rw [beq_iff_eq]; omega
    have q3 : (ax != bx) = true := by simp; omega
    have q4 : (ay != by_) = false := by simp; omega
    have q5 : ¬ (bx < ax) := by omega
    have q6 : ¬ (ay < by_) := by omega
    have q7 : ¬ (by_ < ay) := by omega
    have q8 : ¬ (16 < D) := by omega
    have m1 : max D (0 : Int) = D := by omega
    have m2 : max (0 : Int) D = D := by omega
    have HRK := Lib.hid (fun w' => HR.out ⟨#[114]⟩ w' (by decide))
    rw [HRB.out ⟨#[114]⟩ rfl] at HRK
    clear HR HRB hx hy ha hb
    go_enter Try.func22, Try.ntmps22
    go_upto_region 1 with fail
    rw [← hW0]
    clear hW0
    refine wp_region_over_lit (by kernel_rfl) (by kernel_rfl) ?_; (repeat (go_big_quiet_step ((first | (go_at_call_of 49 (Value.int .i64 (ax - bx)); exact Calls.over_of (HSX.out _)) | (go_at_call_of 49 (Value.int .i64 (ay - by_)); exact Calls.over_of (HSY.out _)))))); refine wpQuiet_nil ?_; rintro _ ⟨x1, rfl⟩
    have hxx : W0.Ext (W0.over x1) := ⟨x1, rfl⟩
    have HX1 := Lib.hid (HX0.out.trans hxx)
    replace a0 := hxx.cell a0
    replace a1 := hxx.cell a1
    replace b0 := hxx.cell b0
    replace b1 := hxx.cell b1
    replace la := World.block_lt_of_cell? _ _ a0
    replace lb := World.block_lt_of_cell? _ _ b0
    clear hxx HX0 HSX HSY
    generalize W0.over x1 = w1 at *
    go_wp2_with fail
    refine (HRK.out w1).mono ?_
    rintro e w2 ⟨rfl, hx2⟩
    have HX2 := Lib.hid (HX1.out.trans hx2)
    clear hx2 a0 a1 b0 b1 la lb
    go_wp2
    go_ret2
    exact ⟨rfl, HX2.out⟩
  · have e1 : dX 1 = 0 := rfl
    have e2 : dY 1 = 1 := rfl
    rw [e1] at hx
    rw [e2] at hy
    have v1 : 0 = sx := by split at hsx <;> omega
    have v2 : D = sy := by split at hsy <;> omega
    clear hsx hsy e1 e2
    subst v1
    subst v2
    have q1 : (ax == bx) = true := by rw [beq_iff_eq]; omega
    have q2 : (ay == by_) = false := by rw [beq_eq_false_iff_ne]; omega
    have q3 : (ax != bx) = false := by simp; omega
    have q4 : (ay != by_) = true := by simp; omega
    have q5 : ¬ (bx < ax) := by omega
    have q6 : ay < by_ := by omega
    have q7 : ¬ (by_ < ay) := by omega
    have q8 : ¬ (16 < D) := by omega
    have m1 : max D (0 : Int) = D := by omega
    have m2 : max (0 : Int) D = D := by omega
    have HRK := Lib.hid (fun w' => HR.out ⟨#[100]⟩ w' (by decide))
    rw [HRB.out ⟨#[100]⟩ rfl] at HRK
    clear HR HRB hx hy ha hb
    go_enter Try.func22, Try.ntmps22
    go_upto_region 1 with fail
    rw [← hW0]
    clear hW0
    refine wp_region_over_lit (by kernel_rfl) (by kernel_rfl) ?_; (repeat (go_big_quiet_step ((first | (go_at_call_of 49 (Value.int .i64 (ax - bx)); exact Calls.over_of (HSX.out _)) | (go_at_call_of 49 (Value.int .i64 (ay - by_)); exact Calls.over_of (HSY.out _)))))); refine wpQuiet_nil ?_; rintro _ ⟨x1, rfl⟩
    have hxx : W0.Ext (W0.over x1) := ⟨x1, rfl⟩
    have HX1 := Lib.hid (HX0.out.trans hxx)
    replace a0 := hxx.cell a0
    replace a1 := hxx.cell a1
    replace b0 := hxx.cell b0
    replace b1 := hxx.cell b1
    replace la := World.block_lt_of_cell? _ _ a0
    replace lb := World.block_lt_of_cell? _ _ b0
    clear hxx HX0 HSX HSY
    generalize W0.over x1 = w1 at *
    go_wp2_with fail
    refine (HRK.out w1).mono ?_
    rintro e w2 ⟨rfl, hx2⟩
    have HX2 := Lib.hid (HX1.out.trans hx2)
    clear hx2 a0 a1 b0 b1 la lb
    go_wp2
    go_ret2
    exact ⟨rfl, HX2.out⟩
  · have e1 : dX 2 = -1 := rfl
    have e2 : dY 2 = 0 := rfl
    rw [e1] at hx
    rw [e2] at hy
    have v1 : D = sx := by split at hsx <;> omega
    have v2 : 0 = sy := by split at hsy <;> omega
    clear hsx hsy e1 e2
    subst v1
    subst v2
    have q1 : (ax == bx) = false := by rw [beq_eq_false_iff_ne]; omega
    have q2 : (ay == by_) = true := by rw [beq_iff_eq]; omega
    have q3 : (ax != bx) = true := by simp; omega
    have q4 : (ay != by_) = false := by simp; omega
    have q5 : bx < ax := by omega
    have q6 : ¬ (ay < by_) := by omega
    have q7 : ¬ (by_ < ay) := by omega
    have q8 : ¬ (16 < D) := by omega
    have m1 : max D (0 : Int) = D := by omega
    have m2 : max (0 : Int) D = D := by omega
    have HRK := Lib.hid (fun w' => HR.out ⟨#[108]⟩ w' (by decide))
    rw [HRB.out ⟨#[108]⟩ rfl] at HRK
    clear HR HRB hx hy ha hb
    go_enter Try.func22, Try.ntmps22
    go_upto_region 1 with fail
    rw [← hW0]
    clear hW0
    refine wp_region_over_lit (by kernel_rfl) (by kernel_rfl) ?_; (repeat (go_big_quiet_step ((first | (go_at_call_of 49 (Value.int .i64 (ax - bx)); exact Calls.over_of (HSX.out _)) | (go_at_call_of 49 (Value.int .i64 (ay - by_)); exact Calls.over_of (HSY.out _)))))); refine wpQuiet_nil ?_; rintro _ ⟨x1, rfl⟩
    have hxx : W0.Ext (W0.over x1) := ⟨x1, rfl⟩
    have HX1 := Lib.hid (HX0.out.trans hxx)
    replace a0 := hxx.cell a0
    replace a1 := hxx.cell a1
    replace b0 := hxx.cell b0
    replace b1 := hxx.cell b1
    replace la := World.block_lt_of_cell? _ _ a0
    replace lb := World.block_lt_of_cell? _ _ b0
    clear hxx HX0 HSX HSY
    generalize W0.over x1 = w1 at *
    go_wp2_with fail
    refine (HRK.out w1).mono ?_
    rintro e w2 ⟨rfl, hx2⟩
    have HX2 := Lib.hid (HX1.out.trans hx2)
    clear hx2 a0 a1 b0 b1 la lb
    go_wp2
    go_ret2
    exact ⟨rfl, HX2.out⟩
  · have e1 : dX 3 = 0 := rfl
    have e2 : dY 3 = -1 := rfl
    rw [e1] at hx
    rw [e2] at hy
    have v1 : 0 = sx := by split at hsx <;> omega
    have v2 : D = sy := by split at hsy <;> omega
    clear hsx hsy e1 e2
    subst v1
    subst v2
    have q1 : (ax == bx) = true := by rw [beq_iff_eq]; omega
    have q2 : (ay == by_) = false := by rw [beq_eq_false_iff_ne]; omega
    have q3 : (ax != bx) = false := by simp; omega
    have q4 : (ay != by_) = true := by simp; omega
    have q5 : ¬ (bx < ax) := by omega
    have q6 : ¬ (ay < by_) := by omega
    have q7 : by_ < ay := by omega
    have q8 : ¬ (16 < D) := by omega
    have m1 : max D (0 : Int) = D := by omega
    have m2 : max (0 : Int) D = D := by omega
    have HRK := Lib.hid (fun w' => HR.out ⟨#[117]⟩ w' (by decide))
    rw [HRB.out ⟨#[117]⟩ rfl] at HRK
    clear HR HRB hx hy ha hb
    go_enter Try.func22, Try.ntmps22
    go_upto_region 1 with fail
    rw [← hW0]
    clear hW0
    refine wp_region_over_lit (by kernel_rfl) (by kernel_rfl) ?_; (repeat (go_big_quiet_step ((first | (go_at_call_of 49 (Value.int .i64 (ax - bx)); exact Calls.over_of (HSX.out _)) | (go_at_call_of 49 (Value.int .i64 (ay - by_)); exact Calls.over_of (HSY.out _)))))); refine wpQuiet_nil ?_; rintro _ ⟨x1, rfl⟩
    have hxx : W0.Ext (W0.over x1) := ⟨x1, rfl⟩
    have HX1 := Lib.hid (HX0.out.trans hxx)
    replace a0 := hxx.cell a0
    replace a1 := hxx.cell a1
    replace b0 := hxx.cell b0
    replace b1 := hxx.cell b1
    replace la := World.block_lt_of_cell? _ _ a0
    replace lb := World.block_lt_of_cell? _ _ b0
    clear hxx HX0 HSX HSY
    generalize W0.over x1 = w1 at *
    go_wp2_with fail
    refine (HRK.out w1).mono ?_
    rintro e w2 ⟨rfl, hx2⟩
    have HX2 := Lib.hid (HX1.out.trans hx2)
    clear hx2 a0 a1 b0 b1 la lb
    go_wp2
    go_ret2
    exact ⟨rfl, HX2.out⟩
end Go.Proofs.Ytelaoimcaidoiaa

/- A border out of its corners. -/
namespace Go.Proofs.Ytelaoimcaidoiaa
open Go Go.RowKit
theorem barr_app (a b : ByteArray) : (a ++ b).data.toList = a.data.toList ++ b.data.toList := by simp
theorem barr_ext {a b : ByteArray} (h : a.data.toList = b.data.toList) : a = b := ByteArray.ext (Array.toList_inj.1 h)
theorem app_steps (f : Int → Int → Bool) (e : Edg) (a k : Nat) : ∀ d : Nat, (∀ t, a ≤ t → t < a + d → (itr f t e).k = k) → strOfNums (wordL f e a) ++ repB k d = strOfNums (wordL f e (a + d))
  | 0, _ => by
    apply barr_ext
    rw [barr_app]
    simp [repB, Lib.repeatL]
  | d + 1, h => by
    have ih := app_steps f e a k d fun t h1 h2 => h t h1 (by omega)
    have hk := h (a + d) (by omega) (by omega)
    apply barr_ext
    rw [barr_app, ← Nat.add_assoc, wordL_succ, strOfNums_data, strOfNums_data, List.map_append, hk]
    have ih2 := congrArg (fun b : ByteArray => b.data.toList) ih
    simp only [barr_app, strOfNums_data] at ih2
    rw [← ih2]
    have hr : (repB k (d + 1)).data.toList = (repB k d).data.toList ++ [UInt8.ofNat (letN k)] := by
      show Lib.repeatL _ (d + 1) = Lib.repeatL _ d ++ _
      rw [Lib.repeatL_add, Lib.repeatL_one]
    rw [hr, List.append_assoc]
    rfl
theorem enters_cornerOk : Enters 21 := enters_of Try.func21 (by kernel_rfl) (by kernel_rfl)
set_option maxHeartbeats 800000 in
theorem cornerOk_any (x y : Int) (w : World) (hx : 0 ≤ x ∧ x ≤ 16) (hy : 0 ≤ y ∧ y ≤ 16) :
    Calls Try.prog 21 #[spotV (x, y)] w fun e w' => e = .returned (.bool true) ∧ w.Ext w' := by
  have h1 : inB x 0 16 = true := by unfold inB; simp; omega
  have h2 : inB y 0 16 = true := by unfold inB; simp; omega
  have HI1 := Lib.hid (fun w' => in_any x 0 16 w' true h1)
  have HI2 := Lib.hid (fun w' => in_any y 0 16 w' true h2)
  clear h1 h2
  unfold spotV
  go_enter Try.func21, Try.ntmps21
  go_wp2_with fail
  refine (HI1.out _).mono ?_
  rintro e w1 ⟨rfl, hx1⟩
  have c1 : w1.cell? ⟨w.heap.size, 1, none⟩ = some (.int .i64 y) := hx1.cell (by simp [go_sem])
  have l1 := World.block_lt_of_cell? _ _ c1
  have HX1 : Hid (w.Ext w1) := .trans (by simp) hx1
  clear hx1
  go_wp2_with fail
  refine (HI2.out _).mono ?_
  rintro e w2 ⟨rfl, hx2⟩
  have HX2 := Lib.hid (HX1.out.trans hx2)
  clear hx2 c1 l1
  go_wp2
  go_ret
  exact ⟨by simp, HX2.out⟩
/-- The letters of the way up to a corner. -/
def wrdN (f : Int → Int → Bool) (e : Edg) (j : Nat) : ByteArray := strOfNums (wordL f e (corN (fun i => itr f i e) (per f e) j))
structure BfSt (W0 : World) (q : Nat) (x y : Int) (s : ByteArray) (wr : World) : Prop where
  ex : W0.Ext wr
  lo : W0.heap.size ≤ q
  tri : Tri wr q 35 (.int .i64 x) (.int .i64 y) (.string s)
theorem BfSt.ext {W0 wr w' : World} {q : Nat} {x y : Int} {s : ByteArray} (h : BfSt W0 q x y s wr) (hx : wr.Ext w') : BfSt W0 q x y s w' := ⟨h.ex.trans hx, h.lo, h.tri.ext hx⟩
theorem BfSt.put {W0 wr : World} {q : Nat} {x y : Int} {s : ByteArray} (h : BfSt W0 q x y s wr) (t : ByteArray) : BfSt W0 q x y t (wr.setCell ⟨q, 2, none⟩ (.string t)) := ⟨h.ex.setCell (p := ⟨q, 2, none⟩) h.lo _, h.lo, h.tri.set2 _⟩
set_option maxRecDepth 20000 in
set_option maxHeartbeats 6400000 in
theorem borderFrom_any (f : Int → Int → Bool) (e : Edg) (a : Option Addr) (cc : Nat) (w : World) (hbx : InBx f 16 16) (hok : EOk f e) (h4 : 4 ≤ per f e) (h6 : per f e ≤ 600) (h0 : isC (cK fun i => itr f i e) (per f e) 0 = true)
    (hc4 : 4 ≤ (corL (fun i => itr f i e) (per f e) (per f e)).length) (hm : RowP w a (corL (fun i => itr f i e) (per f e) (per f e))) :
    Calls Try.prog 10 #[.slice a (corL (fun i => itr f i e) (per f e) (per f e)).length cc] w fun e' w' => e' = .returned (.tuple #[.agg #[.int .i64 e.x, .int .i64 e.y, .string (wrd f e)], .bool true]) ∧ w.Ext w' := by
  have hper := (per_of hbx (Nat.le_refl _) (Nat.le_refl _) hok).1
  have hW : Way (fun i => itr f i e) (per f e) := (Ring.of hok hper).way
  have hBX := fun i => hbx.edge (itr_ok hok i)
  have hlen := corL_len (c := fun i => itr f i e) (n := per f e)
  have hle : (corL (fun i => itr f i e) (per f e) (per f e)).length ≤ 600 := Nat.le_trans (corL_few _ _ _) h6
  obtain ⟨W0, hW0⟩ : ∃ W0, W0 = w.alloc (.cells #[.int .i64 0, .int .i64 0, .string ⟨#[]⟩] 35) := ⟨_, rfl⟩
  have hx0 : w.Ext W0 := by rw [hW0]; repeat (first | exact World.Ext.refl _ | exact ⟨_, rfl⟩ | assumption | refine World.Ext.over ?_ _ | refine World.Ext.drewN ?_ _ | refine World.Ext.drew ?_ | refine World.Ext.alloc ?_ _ | refine World.Ext.setCell ?_ (by simp) _)
  have HT2 : Hid (Tri W0 w.heap.size 35 (.int .i64 0) (.int .i64 0) (.string ⟨#[]⟩)) := by rw [hW0]; exact Tri.new _ _ _ _ _ _ rfl
  have hmem : ∀ q, q ∈ corL (fun i => itr f i e) (per f e) (per f e) → 0 ≤ q.1 ∧ q.1 ≤ 16 ∧ 0 ≤ q.2 ∧ q.2 ≤ 16 := fun q hq => by
    unfold corL at hq
    obtain ⟨i, -, rfl⟩ := List.mem_map.1 hq
    exact hBX i
  have HAL : Hid (Calls Try.prog 20 #[.slice a (corL (fun i => itr f i e) (per f e) (per f e)).length cc, .func (.func 21) #[] #[]] W0 fun e' w' => e' = .returned (.bool true) ∧ W0.Ext w') := by
    have q := all_any a cc 21 #[] _ (fun _ => true) W0 (by omega) (RowP.ext hm hx0) enters_cornerOk fun w' _ i hi => by
      have hq := hmem _ (show (corL (fun i => itr f i e) (per f e) (per f e)).getD i (0, 0) ∈ _ by rw [List.getD_eq_getElem?_getD, List.getElem?_eq_getElem hi]; exact List.getElem_mem _)
      exact cornerOk_any _ _ w' ⟨hq.1, hq.2.1⟩ hq.2.2
    have e1 : ((corL (fun i => itr f i e) (per f e) (per f e)).all fun _ => true) = true := by simp
    rw [e1] at q
    exact q
  have HIB := Lib.hid (fun w' => isBord_any f e w' hbx hok h4 h6)
  have HCO := Lib.hid (fun w' => cornersOf_any f e w' hbx hok h6)
  have HEQ : Hid (∀ w' a' c', RowP w' a' (corL (fun i => itr f i e) (per f e) (per f e)) → RowP w' a (corL (fun i => itr f i e) (per f e) (per f e)) → Calls Try.prog 23 #[.slice a' (corL (fun i => itr f i e) (per f e) (per f e)).length c', .slice a (corL (fun i => itr f i e) (per f e) (per f e)).length cc] w' fun e' w'' => e' = .returned (.bool true) ∧ w'.Ext w'') := fun w' a' c' h1 h2 => by
    have q := equalS_any a' c' _ a cc _ w' (by omega) h1 h2
    rw [decide_eq_true rfl] at q
    exact q
  have HM := Lib.hid (RowP.ext hm hx0)
  have HST : Hid (∀ j, j < (corL (fun i => itr f i e) (per f e) (per f e)).length → ∃ k d, wrdN f e j ++ repB k d = wrdN f e (j + 1) ∧ (wrdN f e j).size + (repB k d).size ≤ 1200 ∧ ∀ w', Calls Try.prog 22 #[.agg #[.int .i64 ((corL (fun i => itr f i e) (per f e) (per f e)).getD j (0, 0)).1, .int .i64 ((corL (fun i => itr f i e) (per f e) (per f e)).getD j (0, 0)).2], .agg #[.int .i64 ((corL (fun i => itr f i e) (per f e) (per f e)).getD ((j + 1) % (corL (fun i => itr f i e) (per f e) (per f e)).length) (0, 0)).1, .int .i64 ((corL (fun i => itr f i e) (per f e) (per f e)).getD ((j + 1) % (corL (fun i => itr f i e) (per f e) (per f e)).length) (0, 0)).2]] w' fun e' w'' => e' = .returned (.tuple #[.string (repB k d), .bool true]) ∧ w'.Ext w'') := fun j hj => by
    rw [hlen] at hj
    have S := hW.seg hj
    have e1 := corL_at hj
    have e2 := corL_next hW h0 hj
    have b1 := hBX (corN (fun i => itr f i e) (per f e) j)
    have b2 := hBX (corN (fun i => itr f i e) (per f e) (j + 1))
    have hx := S.x
    have hy := S.y
    have hk4 : cK (fun i => itr f i e) (corN (fun i => itr f i e) (per f e) j) < 4 := hW.k4 _
    have hlt := S.lt
    have hd : corN (fun i => itr f i e) (per f e) (j + 1) - corN (fun i => itr f i e) (per f e) j ≤ 16 := by
      rcases dXY hk4 with ⟨-, k2, k3⟩ | ⟨-, k2, k3⟩
      · rcases k3 with k3 | k3 <;> (rw [k3] at hx; omega)
      · rcases k3 with k3 | k3 <;> (rw [k3] at hy; omega)
    refine ⟨cK (fun i => itr f i e) (corN (fun i => itr f i e) (per f e) j), corN (fun i => itr f i e) (per f e) (j + 1) - corN (fun i => itr f i e) (per f e) j, ?_, ?_, fun w' => ?_⟩
    · have q := app_steps f e (corN (fun i => itr f i e) (per f e) j) (cK (fun i => itr f i e) (corN (fun i => itr f i e) (per f e) j)) (corN (fun i => itr f i e) (per f e) (j + 1) - corN (fun i => itr f i e) (per f e) j) fun t h1 h2 => S.all t h1 (by omega)
      rw [show corN (fun i => itr f i e) (per f e) j + (corN (fun i => itr f i e) (per f e) (j + 1) - corN (fun i => itr f i e) (per f e) j) = corN (fun i => itr f i e) (per f e) (j + 1) by omega] at q
      exact q
    · have s1 : (wrdN f e j).size = corN (fun i => itr f i e) (per f e) j := by unfold wrdN; rw [strOfNums_size, wordL_len]
      have s2 : (repB (cK (fun i => itr f i e) (corN (fun i => itr f i e) (per f e) j)) (corN (fun i => itr f i e) (per f e) (j + 1) - corN (fun i => itr f i e) (per f e) j)).size = corN (fun i => itr f i e) (per f e) (j + 1) - corN (fun i => itr f i e) (per f e) j := by
        unfold repB
        simp [ByteArray.size, Lib.repeatL_length]
      have s3 := S.le
      rw [s1, s2]
      omega
    · rw [hlen, e1, e2]
      exact stepsTo_any _ _ _ _ _ _ w' hk4 ⟨by omega, hd⟩ b1 b2 hx hy
  have HW0 : Hid (wrdN f e 0 = ⟨#[]⟩) := by
    show _ = _
    unfold wrdN
    rw [(corN_zero hW h0).1]
    rfl
  have HWN : Hid (wrdN f e (corL (fun i => itr f i e) (per f e) (per f e)).length = wrd f e) := by
    show _ = _
    unfold wrdN
    rw [hlen, corN_end (Nat.le_refl _)]
    rfl
  have HC0 : Hid ((corL (fun i => itr f i e) (per f e) (per f e)).getD 0 (0, 0) = (e.x, e.y)) := by
    show _ = _
    rw [corL_at (corN_zero hW h0).2, (corN_zero hW h0).1]
    rfl
  have HX0 := Lib.hid hx0
  clear hm hx0 hbx hok h4 h6 h0 hper hW hBX hlen hmem
  generalize wrdN f e = WN at *
  generalize wrd f e = word at *
  generalize corL (fun i => itr f i e) (per f e) (per f e) = CL at *
  generalize e.x = ex at *
  generalize e.y = ey at *
  obtain ⟨n, hn⟩ : ∃ n, CL.length = n := ⟨_, rfl⟩
  have HNN := Lib.hid hn
  rw [hn] at HAL HEQ HST HWN hc4 hle ⊢
  clear hn
  have hn0 : (0 : Int) < (n : Int) := by omega
  have q4' : ¬ ((n : Int) < 4) := by omega
  have q6' : ¬ ((600 : Int) < (n : Int)) := by omega
  go_enter Try.func10, Try.ntmps10
  go_upto_region 1 with fail
  rw [← hW0]
  clear hW0
  go_wp2_with fail
  refine HAL.out.mono ?_
  rintro e9 w1 ⟨rfl, hx1⟩
  have HM1 := Lib.hid (RowP.ext HM.out hx1)
  obtain ⟨b0, o0, rfl, d0, d1⟩ := HM1.out.at (i := 0) (by rw [HNN.out]; omega)
  rw [HC0.out] at d0 d1
  dsimp only at d0 d1
  rw [Nat.zero_mul, Nat.add_zero] at d0 d1
  have ld0 := World.block_lt_of_cell? _ _ d0
  have HX1 := Lib.hid hx1
  clear hx1 HM HAL
  clear HC0
  obtain ⟨w4, hw4⟩ : ∃ w4, w4 = w1.alloc (.cells #[.int .i64 ex, .int .i64 ey, .string ⟨#[]⟩] 35) := ⟨_, rfl⟩
  have HS4 : Hid (BfSt w1 w1.heap.size ex ey (WN 0) w4) := by rw [HW0.out, hw4]; exact ⟨by repeat (first | exact World.Ext.refl _ | exact ⟨_, rfl⟩ | assumption | refine World.Ext.over ?_ _ | refine World.Ext.drewN ?_ _ | refine World.Ext.drew ?_ | refine World.Ext.alloc ?_ _ | refine World.Ext.setCell ?_ (by simp) _), Nat.le_refl _, Tri.new _ _ _ _ _ _ rfl⟩
  go_upto_region 4 with fail
  rw [← hw4]
  clear hw4 d0 d1 ld0 HW0
  generalize w1.heap.size = q4 at *
  go_wp2
  go_loopw [5, 6, 7, 8, 29] (fun _ _ _ _ z wr => ∃ j : Nat, j ≤ n ∧ z = .int .i64 j ∧ Hid (BfSt w1 q4 ex ey (WN j) wr)) (fun _ _ _ _ z _ => n - (intOf z).toNat)
  case atStart => exact ⟨0, Nat.zero_le _, rfl, HS4⟩
  case round =>
    clear HS4
    obtain ⟨j, hj, rfl, HS⟩ := hrel
    obtain ⟨wo, rfl⟩ : ∃ wo : World, wo = wr := ⟨_, rfl⟩
    have hj0 : (0 : Int) ≤ (j : Int) := by omega
    by_cases hjn : j < n
    · have hjn' : (j : Int) < (n : Int) := by omega
      have hnn : ((n : Int) == 0) = false := by rw [beq_eq_false_iff_ne]; omega
      have hpn : (j + 1) % n < n := Nat.mod_lt _ (by omega)
      have hpi3 : (0 : Int) ≤ ((j : Int) + 1) % (n : Int) := Int.emod_nonneg _ (by omega)
      have hpi4 : ((j : Int) + 1) % (n : Int) < (n : Int) := Int.emod_lt_of_pos _ (by omega)
      obtain ⟨kk, dd, hw1, hsz, hst⟩ := HST.out j hjn
      have hsz2 : ¬ (9223372036854775807 < (WN j).size + (repB kk dd).size) := by omega
      have HMo := RowP.ext HM1.out HS.out.ex
      obtain ⟨b1, o1, e1, d0, d1⟩ := HMo.at (i := j) (by rw [HNN.out]; exact hjn)
      cases e1
      obtain ⟨b2, o2, e2, f0, f1⟩ := HMo.at (i := (j + 1) % n) (by rw [HNN.out]; exact hpn)
      cases e2
      have HWJ := Lib.hid hw1
      have HSJ := Lib.hid hst
      clear hw1 hst HMo
      generalize (CL.getD j (0, 0)).1 = X at *
      generalize (CL.getD j (0, 0)).2 = Y at *
      generalize (CL.getD ((j + 1) % n) (0, 0)).1 = X2 at *
      generalize (CL.getD ((j + 1) % n) (0, 0)).2 = Y2 at *
      obtain ⟨w5, hw5⟩ : ∃ w5, w5 = wo.alloc (.cells #[.int .i64 X, .int .i64 Y] 33) := ⟨_, rfl⟩
      have hx5 : wo.Ext w5 := by rw [hw5]; repeat (first | exact World.Ext.refl _ | exact ⟨_, rfl⟩ | assumption | refine World.Ext.over ?_ _ | refine World.Ext.drewN ?_ _ | refine World.Ext.drew ?_ | refine World.Ext.alloc ?_ _ | refine World.Ext.setCell ?_ (by simp) _)
      have g0 : w5.cell? ⟨wo.heap.size, 0, none⟩ = some (.int .i64 X) := by rw [hw5]; simp [go_sem]
      have g1 : w5.cell? ⟨wo.heap.size, 1, none⟩ = some (.int .i64 Y) := by rw [hw5]; simp [go_sem]
      have HS5 := Lib.hid (HS.out.ext hx5)
      have HF0 := Lib.hid (hx5.cell f0)
      have HF1 := Lib.hid (hx5.cell f1)
      have lg := World.block_lt_of_cell? _ _ g0
      have ld := World.block_lt_of_cell? _ _ d0
      clear hx5 HS f0 f1
      go_upto_region 7 with fail
      rw [← hw5]
      clear hw5 d0 d1 ld
      have f0 := HF0.out
      have f1 := HF1.out
      have lf := World.block_lt_of_cell? _ _ f0
      refine wp_region_over_lit (by kernel_rfl) (by kernel_rfl) ?_; (repeat (go_big_quiet_step ((go_at_call 22; exact Calls.over_of (HSJ.out _))))); refine wpQuiet_nil ?_; rintro _ ⟨x1, rfl⟩
      have HS6 := Lib.hid (HS5.out.ext (⟨x1, rfl⟩ : w5.Ext (w5.over x1)))
      clear f0 f1 lf g0 g1 lg HF0 HF1 HS5 HSJ
      generalize w5.over x1 = w6 at *
      have c2 := HS6.out.tri.cell2
      have fr2 := HS6.out.tri.free 2
      have lc := World.block_lt_of_cell? _ _ c2
      have HS7 := Lib.hid (HS6.out.put (WN j ++ repB kk dd))
      rw [HWJ.out] at HS7
      have hwj := HWJ.out
      go_wp2_with fail
      go_roundw
      case rel => exact ⟨j + 1, by omega, by go_num, HS7⟩
      case measure => simp [intOf]; omega
    · have hje : j = n := by omega
      subst hje
      have hjn' : ¬ (j : Int) < (j : Int) := by omega
      have HSN : Hid (BfSt w1 q4 ex ey word wo) := by rw [← HWN.out]; exact HS
      clear HS
      have c0 := HSN.out.tri.cell0
      have c1 := HSN.out.tri.cell1
      have c2 := HSN.out.tri.cell2
      have lc := World.block_lt_of_cell? _ _ c2
      go_wp2_with fail
      refine (HIB.out wo).mono ?_
      rintro e9 w5 ⟨rfl, hx5⟩
      have HS5 := Lib.hid (HSN.out.ext hx5)
      clear hx5 HSN c0 c1 c2 lc
      have c0 := HS5.out.tri.cell0
      have c1 := HS5.out.tri.cell1
      have c2 := HS5.out.tri.cell2
      have lc := World.block_lt_of_cell? _ _ c2
      go_wp2_with fail
      refine (HCO.out w5).mono ?_
      rintro e9 w6 ⟨g6, cap6, rfl, hs6⟩
      rw [HNN.out]
      have HS6 := Lib.hid (HS5.out.ext hs6.x)
      have HEQ6 := Lib.hid (HEQ.out w6 _ cap6 (GrowP.own (by have h := hs6.own; exact h)).row (RowP.ext HM1.out HS6.out.ex))
      clear hs6 HS5 c0 c1 c2 lc
      go_wp2_with fail
      refine HEQ6.out.mono ?_
      rintro e9 w7 ⟨rfl, hx7⟩
      have HS7 := Lib.hid (HS6.out.ext hx7)
      clear hx7 HS6 HEQ6
      have c0 := HS7.out.tri.cell0
      have c1 := HS7.out.tri.cell1
      have c2 := HS7.out.tri.cell2
      have lc := World.block_lt_of_cell? _ _ c2
      obtain ⟨r1, r2, r3, r4, r5, r6, r7, r8, r9, HR⟩ := Res.store3 (.int .i64 ex) (.int .i64 ey) (.string word) (HX0.out.trans (HX1.out.trans HS7.out.ex)) (Nat.le_refl _) (HT2.out.ext (HX1.out.trans HS7.out.ex))
      clear HS7
      go_wp2_with fail
      exact bodyPost_ret (v := .tuple #[.agg #[.int .i64 ex, .int .i64 ey, .string word], .bool true]) (by simp [results, Try.results10, go_sem, r7, r8, r9]) rfl ⟨rfl, HR.out⟩
end Go.Proofs.Ytelaoimcaidoiaa
