/- DiscsOf: the reference's and the program's. -/
import Derived.Test.YtahhnjoeaodcjaaDscJ
namespace Go.Proofs.Ytahhnjoeaodcjaa
open Go Go.RowKit
def optD (ok : Bool) (ds : List (Int × Int × Int)) : List (Int × Int × Int) := if ok then ds else []
/-- Discs and whether there are some are returned, in new memory. -/
def DiscsRet2 (w : World) (ds : List (Int × Int × Int)) (ok : Bool) (e : Ending) (w' : World) : Prop := ∃ a c, e = .returned (.tuple #[.slice a ds.length c, .bool ok]) ∧ w.Ext w' ∧ OwnD w.heap.size w'.heap.size w' a ds
theorem DiscsRet2.no {w w' : World} (hx : w.Ext w') : DiscsRet2 w [] false (.returned (.tuple #[.slice none 0 0, .bool false])) w' := ⟨none, 0, rfl, hx, OwnOf.nil _ _⟩
theorem DiscsRet2.yes {w w1 w' : World} {ds : List (Int × Int × Int)} {a : Option Addr} {c : Nat} (hx : w.Ext w1) (h : w1.Ext w') (ho : OwnD w1.heap.size w'.heap.size w' a ds) : DiscsRet2 w ds true (.returned (.tuple #[.slice a ds.length c, .bool true])) w' :=
  ⟨a, c, rfl, hx.trans h, ho.mono hx.size (Nat.le_refl _)⟩
theorem dscL_len (kind : Int) (W H : Nat) (l : List Bool) : (dscL kind W H l).length ≤ H * W := by
  unfold dscL
  exact Nat.le_trans (dscK_len _ _ _ _ _) (dscTo_len _ _ _ _ _)
theorem optD_bnd (ss : List ByteArray) (kind : Int) : (optD (askOk ss kind) (dscL kind (picW ss) ss.length (picL ss))).length ≤ 262144 := by
  cases h : askOk ss kind
  · show ([] : List (Int × Int × Int)).length ≤ _
    simp
  · have h2 := h
    unfold askOk at h2
    rw [Bool.and_eq_true] at h2
    obtain ⟨q1, q2, q3, q4, -⟩ := picOk_spec h2.1
    show (dscL kind (picW ss) ss.length (picL ss)).length ≤ _
    have := dscL_len kind (picW ss) ss.length (picL ss)
    have := Nat.mul_le_mul (show ss.length ≤ 64 by omega) (show picW ss ≤ 64 by omega)
    omega
set_option maxRecDepth 5000 in
set_option maxHeartbeats 800000 in
theorem specDiscsOf_any (a : Option Addr) (c : Nat) (ss : List ByteArray) (kind : Int) (w : World) (hb : PicBnd ss) (hm : RowS w a ss) :
    Calls Try.prog 58 #[.agg #[.slice a ss.length c], .int .i64 kind] w (DiscsRet2 w (optD (askOk ss kind) (dscL kind (picW ss) ss.length (picL ss))) (askOk ss kind)) := by
  obtain ⟨W0, hW0⟩ : ∃ W0, W0 = w.alloc (.cells #[.slice a ss.length c] 26) := ⟨_, rfl⟩
  have hx0 : w.Ext W0 := by rw [hW0]; repeat (first | exact World.Ext.refl _ | exact ⟨_, rfl⟩ | assumption | refine World.Ext.over ?_ _ | refine World.Ext.drewN ?_ _ | refine World.Ext.drew ?_ | refine World.Ext.alloc ?_ _ | refine World.Ext.setCell ?_ (by simp) _)
  have hc0 : W0.cell? ⟨w.heap.size, 0, none⟩ = some (.slice a ss.length c) := by rw [hW0]; simp [go_sem]
  have HASK : Hid (Calls Try.prog 155 #[.pointer (some ⟨w.heap.size, 0, none⟩), .int .i64 kind] W0 fun e w'' => e = .returned (.bool (askOk ss kind)) ∧ W0.Ext w'') := l06Ask_any _ a c ss kind W0 hb hc0 (hm.ext hx0)
  have HX0 := Lib.hid hx0
  cases h : askOk ss kind
  · rw [h] at HASK
    show Calls _ _ _ _ (DiscsRet2 w [] false)
    clear h hb hm hc0 hx0
    go_enter Try.func58, Try.ntmps58
    go_wp2_with fail
    rw [← hW0]
    refine HASK.out.mono ?_
    rintro e w1 ⟨rfl, hx1⟩
    have HX := Lib.hid (HX0.out.trans hx1)
    clear hx1 hW0
    go_wp2
    go_ret2
    exact DiscsRet2.no HX.out
  · rw [h] at HASK
    unfold askOk at h
    rw [Bool.and_eq_true] at h
    obtain ⟨q1, q2, q3, q4, he, _⟩ := picOk_spec h.1
    have HD : Hid (∀ w', W0.Ext w' → Calls Try.prog 156 #[.pointer (some ⟨w.heap.size, 0, none⟩), .int .i64 kind] w' (DiscsRet w' (dscL kind (picW ss) ss.length (picL ss)))) := fun w' hx => l06Discs_any _ kind a c ss w' he (by omega) (by omega) (hx.cell hc0) (hm.ext (hx0.trans hx))
    show Calls _ _ _ _ (DiscsRet2 w (dscL kind (picW ss) ss.length (picL ss)) true)
    clear h hb hm hc0 hx0 q1 q2 q3 q4 he
    generalize dscL kind (picW ss) ss.length (picL ss) = m at *
    go_enter Try.func58, Try.ntmps58
    go_wp2_with fail
    rw [← hW0]
    refine HASK.out.mono ?_
    rintro e w1 ⟨rfl, hx1⟩
    go_wp2_with fail
    refine (HD.out _ hx1).mono ?_
    rintro e w2 ⟨a2, c2, rfl, hx2, hm2⟩
    have HR : Hid (DiscsRet2 w m true (.returned (.tuple #[.slice a2 m.length c2, .bool true])) w2) := DiscsRet2.yes (HX0.out.trans hx1) hx2 hm2
    clear hx1 hx2 hm2 hW0
    go_wp2
    go_ret2
    exact HR.out
set_option maxRecDepth 5000 in
set_option maxHeartbeats 800000 in
theorem implDiscsOf_any (a : Option Addr) (c : Nat) (ss : List ByteArray) (kind : Int) (w : World) (hb : PicBnd ss) (hm : RowS w a ss) :
    Calls Try.prog 59 #[.agg #[.slice a ss.length c], .int .i64 kind] w (DiscsRet2 w (optD (askOk ss kind) (dscL kind (picW ss) ss.length (picL ss))) (askOk ss kind)) := by
  obtain ⟨W0, hW0⟩ : ∃ W0, W0 = w.alloc (.cells #[.slice a ss.length c] 26) := ⟨_, rfl⟩
  have hx0 : w.Ext W0 := by rw [hW0]; repeat (first | exact World.Ext.refl _ | exact ⟨_, rfl⟩ | assumption | refine World.Ext.over ?_ _ | refine World.Ext.drewN ?_ _ | refine World.Ext.drew ?_ | refine World.Ext.alloc ?_ _ | refine World.Ext.setCell ?_ (by simp) _)
  have hc0 : W0.cell? ⟨w.heap.size, 0, none⟩ = some (.slice a ss.length c) := by rw [hW0]; simp [go_sem]
  have HIO : Hid (Calls Try.prog 90 #[.agg #[.slice a ss.length c]] W0 (ImgOf W0 ss (picOk ss))) := imageOf_any a c ss W0 hb.1 hb.2 (hm.ext hx0) _ rfl
  have HX0 := Lib.hid hx0
  have HK : Hid (∀ w, Calls Try.prog 157 #[.int .i64 kind] w fun e w' => e = .returned (.bool (inB kind 0 2)) ∧ w.Ext w') := fun w => kindOk_any kind w _ rfl
  clear hm hb hx0
  cases h : picOk ss
  · rw [h] at HIO
    have e : askOk ss kind = false := by unfold askOk; rw [h]; rfl
    rw [e]
    show Calls _ _ _ _ (DiscsRet2 w [] false)
    clear h hc0 e
    go_enter Try.func59, Try.ntmps59
    go_wp2_with fail
    rw [← hW0]
    refine HIO.out.mono ?_
    rintro e w1 ⟨rfl, hx1⟩
    have HX := Lib.hid (HX0.out.trans hx1)
    clear hx1 hW0
    go_wp2
    go_ret2
    exact DiscsRet2.no HX.out
  · rw [h] at HIO
    obtain ⟨q1, q2, q3, q4, _⟩ := picOk_spec h
    have e : askOk ss kind = inB kind 0 2 := by unfold askOk; rw [h]; rfl
    rw [e]
    cases hk : inB kind 0 2
    · rw [hk] at HK
      show Calls _ _ _ _ (DiscsRet2 w [] false)
      clear h hc0 e hk
      go_enter Try.func59, Try.ntmps59
      go_wp2_with fail
      rw [← hW0]
      refine HIO.out.mono ?_
      rintro e w1 ⟨b, ab, rfl, hx1, hi1, _⟩
      clear hi1
      go_wp2_with fail
      refine (HK.out _).mono ?_
      rintro e w2 ⟨rfl, hx2⟩
      have HX := Lib.hid (HX0.out.trans (hx1.trans hx2))
      clear hx1 hx2 hW0
      go_wp2
      go_ret2
      exact DiscsRet2.no HX.out
    · rw [hk] at HK
      show Calls _ _ _ _ (DiscsRet2 w (dscL kind (picW ss) ss.length (picL ss)) true)
      clear h hc0 e hk
      go_enter Try.func59, Try.ntmps59
      go_wp2_with fail
      rw [← hW0]
      refine HIO.out.mono ?_
      rintro e w1 ⟨b, ab, rfl, hx1, hi1, _⟩
      have HI := Lib.hid hi1
      clear hi1
      go_wp2_with fail
      refine (HK.out _).mono ?_
      rintro e w2 ⟨rfl, hx2⟩
      have HD := Lib.hid (discs_any b ab (picW ss) ss.length kind (picL ss) w2 (by omega) (by omega) (HI.out.ext hx2))
      have HX := Lib.hid (HX0.out.trans (hx1.trans hx2))
      clear hx1 hx2 hW0 HI
      generalize dscL kind (picW ss) ss.length (picL ss) = m at *
      go_wp2_with fail
      refine HD.out.mono ?_
      rintro e w3 ⟨a2, c2, a3, c3, bs, rfl, hx3, hm2, -, -, -⟩
      have HR : Hid (DiscsRet2 w m true (.returned (.tuple #[.slice a2 m.length c2, .bool true])) w3) := DiscsRet2.yes HX.out hx3 hm2
      clear hx3 hm2
      go_wp2
      go_ret2
      exact HR.out
end Go.Proofs.Ytahhnjoeaodcjaa
