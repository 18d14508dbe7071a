/- OpenAreas: the program's side. -/
import Derived.Test.YtmmanehdmnkekaaGreatGtF
namespace Go.Proofs.YtmmanehdmnkekaaGreat
open Go Go.RowKit
theorem OpRet.no {w w' : World} (hx : w.Ext w') : GreyRet2 w [] false (.returned (.tuple #[.agg #[.slice none 0 0], .bool false])) w' := ⟨none, 0, _, _, rfl, hx, OwnMat.none _ _ _ _⟩
def opnO (m : List (List Int)) (h : Int) : Bool := tableOk m 99 && inB h 1 256
noncomputable def opnL (W H : Nat) (l : List Int) (h : Int) : List Int := (List.range (H * W)).map fun j => openV W H l h j (nodeL W H l).length
theorem opnL_len (W H : Nat) (l : List Int) (h : Int) : (opnL W H l h).length = H * W := by simp [opnL]
theorem opnL_at {W H : Nat} {l : List Int} {h : Int} {j : Nat} (hj : j < H * W) : (opnL W H l h).getD j 0 = openV W H l h j (nodeL W H l).length := by
  unfold opnL
  rw [List.getD_eq_getElem?_getD, List.getElem?_map, List.getElem?_range hj]
  rfl
theorem opn_bnd (m : List (List Int)) (h : Int) (l : List Int) : MatBnd (optM (opnO m h) (grl (m.getD 0 []).length m.length l)) ∧ offM (optM (opnO m h) (grl (m.getD 0 []).length m.length l)) (optM (opnO m h) (grl (m.getD 0 []).length m.length l)).length ≤ 1048576 := by
  cases hc : opnO m h
  · exact ⟨⟨by simp [optM], fun r => by simp [optM]⟩, by simp [optM, offM]⟩
  · unfold opnO at hc
    rw [Bool.and_eq_true] at hc
    obtain ⟨v1, v2, v3, v4, -, -⟩ := tableOk_spec hc.1
    exact optM_bnd true _ _ _ (by omega) (by omega)
theorem lenMap_run {w : World} {b n clock : Nat} {es : Array MapEntry} (hb : w.heap[b]? = some (.map es clock)) (hn : es.size = n) : (Builtin.len_ #[88] 3 #[.map (some b)]).run Tryz.prog w = .ok (.int .i64 (n : Int)) w := by
  subst hn
  simp [Builtin.len_, run_underlying Tryz.underlying88, run_getObj_map w b es clock hb, goInt]
end Go.Proofs.YtmmanehdmnkekaaGreat

/- OpenAreas: the reference's side. -/
namespace Go.Proofs.YtmmanehdmnkekaaGreat
open Go Go.RowKit
set_option maxRecDepth 5000 in
set_option maxHeartbeats 800000 in
theorem l07List_grow (a : Option Addr) (c : Nat) (A : Nat → Option Addr) (C : Nat → Nat) (m : List (List Int)) (w : World) (hn : m.length ≤ 1048576) (hrow : ∀ r, r < m.length → 0 < (m.getD r []).length) (hsum : m.flatten.length ≤ 1048576) (hm : MatAt w a A C m) :
    Calls Tryz.prog 24 #[.slice a m.length c] w fun e w' => ∃ v, e = .returned v ∧ w.Ext w' ∧ GrI w.heap.size w' v m.flatten := by
  obtain ⟨i0, hi, hz0, hz1, hz2⟩ := info_parts Tryz.infoI64'
  have HM := Lib.hid hm
  have HROW := Lib.hid hrow
  have HSUM := Lib.hid hsum
  have hn2 : m.length ≤ 4611686018427387904 := by omega
  have hg0 := GrowOf.empty (f := Value.int .i64) (lo := w.heap.size) (e := 2) w (Nat.le_refl _)
  have hx0 : w.Ext (w.alloc (.cells #[] 2)) := by repeat (first | exact World.Ext.refl _ | exact ⟨_, rfl⟩ | assumption | refine World.Ext.over ?_ _ | refine World.Ext.drewN ?_ _ | refine World.Ext.drew ?_ | refine World.Ext.alloc ?_ _ | refine World.Ext.setCell ?_ (by simp) _)
  have HG0 := Lib.hid hg0
  have HX0 := Lib.hid hx0
  clear hm hrow hsum hn hg0 hx0
  go_enter Tryz.func24, Tryz.ntmps24
  go_wp2
  go_loopw [3, 4] (fun v i wr => ∃ k : Nat, k ≤ m.length ∧ i = .int .i64 k ∧ Hid (w.Ext wr) ∧ Hid (GrowOf (Value.int .i64) w.heap.size 2 wr v (m.take k).flatten)) (fun _ i _ => m.length - (intOf i).toNat)
  case atStart => exact ⟨0, Nat.zero_le _, rfl, HX0, HG0⟩
  case round =>
    obtain ⟨k, hk, rfl, HX, HG⟩ := hrel
    by_cases hlt : k < m.length
    · obtain ⟨⟨b, o, rfl, hc⟩, hr⟩ := (HM.out.ext HX.out) k hlt
      have hrp := HROW.out k hlt
      obtain ⟨b2, o2, hA, _⟩ := hr 0 hrp
      rw [hA] at hc hr
      clear hA
      have hlt' : (k : Int) < (m.length : Int) := by omega
      have hk0 : (0 : Int) ≤ (k : Int) := by omega
      have hfs := flat_succ m k hlt
      have hle := flat_take_le m (k + 1)
      rw [hfs, List.length_append] at hle
      have hown := HG.out
      unfold GrowOf at hown
      have hnext : ∀ (v' : Value) (w1 : World), wr.grownBy w1 u3.ownBlock → w1.ownsRow w.heap.size 2 1 v' ((m.take k).flatten.length + (m.getD k []).length) ((m.take k).flatten.map (Value.int .i64) ++ (m.getD k []).map (Value.int .i64)) →
          w.Ext w1 ∧ GrowOf (Value.int .i64) w.heap.size 2 w1 v' (m.take (k + 1)).flatten := fun v' w1 hgrow hown' => by
        refine ⟨HG.out.pushesExt HX.out hgrow, ?_⟩
        rw [hfs]
        exact GrowOf.pushes hown'
      have hb1 : (m.take k).flatten.length + (m.getD k []).length ≤ maxLen := by unfold maxLen; have := HSUM.out; omega
      have hb2 : ((m.take k).flatten.length + (m.getD k []).length) * 8 ≤ 140737488355328 := by have := HSUM.out; omega
      have HNEXT := Lib.hid hnext
      have HB1 := Lib.hid hb1
      have HB2 := Lib.hid hb2
      have HLE := Lib.hid HX.out.size
      have HNEWS := Lib.hid (RowOf.news hr)
      clear hnext hb1 hb2 hfs hle hr
      generalize m.getD k [] = q at *
      have HLQ : Hid ((q.map (Value.int .i64)).length = q.length * 1) := by show _ = _; simp
      go_wp2_with (at_builtin; refine wpList_append_own _ rfl _ _ 38 rfl w.heap.size 2 i0 (.int .i64 0) 1 8 Tryz.underlying38 hi hz0 hz1 hz2 rfl (by decide) _ _ _ rfl hown ⟨b2, o2, none⟩ q.length _ (q.map (Value.int .i64)) rfl HLQ.out HNEWS.out (by intro u hu; obtain ⟨z, _, rfl⟩ := List.mem_map.1 hu; rfl) HB1.out HB2.out HLE.out (fun v' w1 hown' hgrow _ => ?_); obtain ⟨hx1, hg1⟩ := HNEXT.out _ _ hgrow hown'; have HX1 := Lib.hid hx1; have HG1 := Lib.hid hg1; clear hx1 hg1 hown' hgrow hown)
      go_roundw
      case rel => exact ⟨k + 1, by omega, by go_num, HX1, HG1⟩
      case measure => simp [intOf]; omega
    · have : k = m.length := by omega
      subst this
      have hg1 := HG.out
      rw [List.take_length] at hg1
      go_wp2
      go_ret
      exact ⟨_, rfl, HX.out, hg1⟩
theorem grl_flattenO {W H : Nat} {l : List Int} (hW : 0 < W) (hl : l.length = H * W) : (grl W H l).flatten = l := by
  have hr : ∀ r, r < (grl W H l).length → ((grl W H l).getD r []).length = W := fun r h => by rw [grl_len] at h; exact grl_row h
  have hfl := flat_len W (grl W H l) hr
  rw [grl_len] at hfl
  apply List.ext_getElem?
  intro k
  by_cases hk : k < H * W
  · have e2 : ∀ (m : List Int), k < m.length → m[k]? = some (m.getD k 0) := fun m hm => by rw [List.getD_eq_getElem?_getD, List.getElem?_eq_getElem hm]; rfl
    have hx : k % W < W := Nat.mod_lt _ hW
    have hy : k / W < H := by rw [Nat.div_lt_iff_lt_mul hW]; exact hk
    have he : k / W * W + k % W = k := by rw [Nat.mul_comm]; exact Nat.div_add_mod _ _
    have h := flat_at W (grl W H l) _ _ hr (by rw [grl_len]; exact hy) hx
    rw [he, grl_at hx hy, he] at h
    rw [e2 _ (by rw [hfl, Nat.mul_comm]; exact hk), e2 _ (by rw [hl]; exact hk), h]
  · rw [List.getElem?_eq_none (by rw [hfl, Nat.mul_comm]; omega), List.getElem?_eq_none (by omega)]
/-- A list under way: the first k are new. -/
def mixO (n : Nat) (f g : Nat → Int) (k : Nat) : List Int := (List.range n).map fun j => if j < k then f j else g j
section
variable {n k : Nat} {f g : Nat → Int}
theorem mixO_len : (mixO n f g k).length = n := by simp [mixO]
theorem mixO_at {j : Nat} (hj : j < n) : (mixO n f g k).getD j 0 = if j < k then f j else g j := by
  unfold mixO
  rw [List.getD_eq_getElem?_getD, List.getElem?_map, List.getElem?_range hj]
  rfl
theorem mixO_set (_ : k < n) : (mixO n f g k).set k (f k) = mixO n f g (k + 1) := by
  apply List.ext_getElem?
  intro j
  rw [List.getElem?_set, mixO_len]
  by_cases hj : j < n
  · unfold mixO
    rw [List.getElem?_map, List.getElem?_map, List.getElem?_range hj]
    simp only [Option.map_some]
    by_cases e : k = j
    · subst e
      rw [if_pos rfl, if_pos hj, if_pos (by omega)]
    · rw [if_neg e]
      by_cases hc : j < k
      · rw [if_pos hc, if_pos (by omega)]
      · rw [if_neg hc, if_neg (by omega)]
  · rw [List.getElem?_eq_none (by rw [mixO_len]; omega), List.getElem?_eq_none (by rw [mixO_len]; omega)]
    by_cases e : k = j
    · omega
    · rw [if_neg e]
end
end Go.Proofs.YtmmanehdmnkekaaGreat
