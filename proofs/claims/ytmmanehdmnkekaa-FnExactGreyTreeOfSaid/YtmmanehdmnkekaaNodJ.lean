/- The program's nodes: the walk. -/
import Derived.Test.YtmmanehdmnkekaaNodI
import Derived.Deep.Onto
namespace Go.Proofs.Ytmmanehdmnkekaa
open Go Go.RowKit
theorem Try.infoNode : (Try.prog.info? 196).map (fun i => (i.zero, i.size, i.bytes)) = some (some (.agg #[.int .i64 0, .int .i64 0, .int .i64 0, .map none]), 4, 32) := by kernel_rfl
theorem dnG_step {W H : Nat} {l : List Int} {k : Nat} {ds : List (Int × Int)} {left : Int × Int → Bool} {q : Int × Int} (hq : q ∈ ds) (hl : nbV W l q.1 q.2 = l.getD k 0) (p : Int × Int) : (if p = q then some (Value.bool true) else dnG (dnL W H l k ds left) p) = dnG (dnL W H l k ds (fun r => left r && !(r == q))) p := by
  have h1 := dnL_step (H := H) (l := l) (k := k) (left := left) hq hl p
  by_cases e : p = q
  · rw [if_pos e] at h1 ⊢
    unfold dnG
    rw [← h1]
    rfl
  · rw [if_neg e] at h1 ⊢
    unfold dnG
    rw [h1]
theorem dnG_same {W H : Nat} {l : List Int} {k : Nat} {ds : List (Int × Int)} {left : Int × Int → Bool} {q : Int × Int} (hl : nbV W l q.1 q.2 ≠ l.getD k 0) (p : Int × Int) : dnG (dnL W H l k ds left) p = dnG (dnL W H l k ds (fun r => left r && !(r == q))) p := by
  have h1 := dnL_same (H := H) (l := l) (k := k) (ds := ds) (left := left) hl p
  unfold dnG
  rw [h1]
def NodesRet (w : World) (W H : Nat) (l : List Int) (e : Ending) (w' : World) : Prop :=
  ∃ v qs, e = .returned v ∧ w.Ext w' ∧ GrowN w.heap.size w' v qs ∧ qs.map (ndKey W) = nodeL W H l ∧ ∀ d, d ∈ qs → NdIs W H d ∧ w.heap.size ≤ d.2.2.2 ∧ PartAt w' d.2.2.2 W H l d.1 (ndKey W d).2
theorem cell_four_new (w : World) (a b c d : Value) (e : TypeId) : ∀ (j : Nat) (y : Value), [a, b, c, d][j]? = some y → (w.alloc (.cells #[a, b, c, d] e)).cell? ((⟨w.heap.size, 0, none⟩ : Addr).add j) = some y := by
  intro j y hj
  rw [Addr.add_mk]
  match j, hj with
  | 0, hj => simp at hj; subst hj; simp [go_sem]
  | 1, hj => simp at hj; subst hj; simp [go_sem]
  | 2, hj => simp at hj; subst hj; simp [go_sem]
  | 3, hj => simp at hj; subst hj; simp [go_sem]
  | j + 4, hj => simp at hj
set_option maxRecDepth 5000 in
set_option maxHeartbeats 6400000 in
theorem nodes_any (p W H : Nat) (l : List Int) (w : World) (hW1 : 1 ≤ W) (hH1 : 1 ≤ H) (hW : W ≤ 16) (hH : H ≤ 16) (hg : GrAt w p W H l) (hgl : GrL W H l) :
    Calls Try.prog 144 #[.pointer (some ⟨p, 0, none⟩)] w (NodesRet w W H l) := by
  obtain ⟨iw, hiw, hz0, hz1, hz2⟩ := info_parts Try.infoNode
  obtain ⟨W0, hW0⟩ : ∃ W0, W0 = w.alloc (.cells #[.pointer (some ⟨p, 0, none⟩)] 210) := ⟨_, rfl⟩
  obtain ⟨W2, hW2⟩ : ∃ W2, W2 = (W0.alloc (.cells #[] 196)).alloc (.map #[] 0) := ⟨_, rfl⟩
  have hx0 : w.Ext W0 := by rw [hW0]; repeat (first | exact World.Ext.refl _ | exact ⟨_, rfl⟩ | assumption | refine World.Ext.over ?_ _ | refine World.Ext.drewN ?_ _ | refine World.Ext.drew ?_ | refine World.Ext.alloc ?_ _ | refine World.Ext.setCell ?_ (by simp) _)
  have hx2 : W0.Ext W2 := by rw [hW2]; repeat (first | exact World.Ext.refl _ | exact ⟨_, rfl⟩ | assumption | refine World.Ext.over ?_ _ | refine World.Ext.drewN ?_ _ | refine World.Ext.drew ?_ | refine World.Ext.alloc ?_ _ | refine World.Ext.setCell ?_ (by simp) _)
  have hsz0 : W0.heap.size = w.heap.size + 1 := by rw [hW0]; simp
  have hsz2 : W2.heap.size = w.heap.size + 3 := by rw [hW2, hW0]; simp
  have d1 : W2.cell? ⟨w.heap.size, 0, none⟩ = some (.pointer (some ⟨p, 0, none⟩)) := hx2.cell (by rw [hW0]; simp [go_sem])
  have hM2 : MapS W2 Try.prog 58 (w.heap.size + 1 + 1) (dnG (dnP W H l 0)) := by
    rw [hW2]
    exact (MapS.new _ Try.prog 58 (w.heap.size + 1 + 1) (by simp [hsz0])).congr fun q => by unfold dnG; rw [dnP_zero]; rfl
  have hG2 : GrowN W0.heap.size W2 (.slice (some ⟨w.heap.size + 1, 0, none⟩) 0 0) [] := by
    rw [hW2, ← hsz0]
    exact World.ownsRow.ext (World.ownsRow_made W0 #[] 0 (Nat.le_refl _) (Nat.zero_le _) rfl) (by repeat (first | exact World.Ext.refl _ | exact ⟨_, rfl⟩ | assumption | refine World.Ext.over ?_ _ | refine World.Ext.drewN ?_ _ | refine World.Ext.drew ?_ | refine World.Ext.alloc ?_ _ | refine World.Ext.setCell ?_ (by simp) _))
  have HG := Lib.hid (fun w' (hx : w.Ext w') => hg.ext hx)
  have HSP := Lib.hid ((hg.ext (hx0.trans hx2)).spots (by omega) (by omega))
  have HAT : Hid (∀ w' x y, w.Ext w' → x < W → y < H → Calls Try.prog 80 #[.pointer (some ⟨p, 0, none⟩), .agg #[.int .i64 (x : Nat), .int .i64 (y : Nat)]] w' fun e w'' => e = .returned (.int .i64 (l.getD (y * W + x) 0)) ∧ w'.Ext w'') := fun w' x y hx h1 h2 => (hg.ext hx).at (by omega) (by omega) h1 h2
  have hn : H * W ≤ 256 := Nat.mul_le_mul hH hW
  have HSPR : Hid (∀ (w' : World) (b7 : Nat) (sa : Option Addr) (k : Nat), k < H * W → w.Ext w' → w'.cell? ⟨w.heap.size, 0, none⟩ = some (.pointer (some ⟨p, 0, none⟩)) → w'.cell? ⟨b7, 0, none⟩ = some (.int .i64 (l.getD k 0)) → RowP w' sa [spN W k] →
      Calls Try.prog 187 #[.slice sa 1 1, .bool false, .func (.func 218) #[] #[.pointer (some ⟨w.heap.size, 0, none⟩), .pointer (some ⟨b7, 0, none⟩)]] w' (MapRet w' (lvR W H l (l.getD k 0)) (nbA false) [spN W k])) := fun w' b7 sa k hk hx hc1 hc7 hr => by
    have hbx : ∀ q, lvR W H l (l.getD k 0) q = true → 0 ≤ q.1 ∧ q.1 < W ∧ 0 ≤ q.2 ∧ q.2 < H := fun q hq => by
      unfold lvR at hq
      rw [Bool.and_eq_true, hasB_true] at hq
      exact hq.1
    have hsk := hasB_true.1 (spN_has (W := W) (H := H) hk)
    exact spread_any sa 1 [spN W k] false _ _ _ (boxL 0 0 W H) w' enters_nodes1 hr (by simp) (fun q hq => by simp at hq; subst hq; omega) (fun q hq => by have := hbx q hq; exact boxL_mem (by omega) (by omega) (by omega) (by omega)) (by rw [boxL_len]; omega)
      (fun q hq => by have := hbx q hq; omega) (fun w'' hx' x y _ _ => nodes1_any p _ b7 W H l _ x y w'' (by omega) (by omega) (by omega) (hg.ext (hx.trans hx')) (hx'.cell hc1) (hx'.cell hc7))
  have HGL := Lib.hid hgl
  have HX0 := Lib.hid hx0
  have HX2 := Lib.hid hx2
  have HM2 := Lib.hid hM2
  have HG2 := Lib.hid hG2
  have HD0 : Hid (W0.cell? ⟨w.heap.size, 0, none⟩ = some (.pointer (some ⟨p, 0, none⟩))) := by rw [hW0]; show _ = _; simp [go_sem]
  have hmm := @run_makeMap Try.prog
  have l1 := World.block_lt_of_cell? _ _ d1
  have HBL : Hid ((boxL 0 0 W H).length < maxLen) := by show _ < _; rw [boxL_len]; unfold maxLen; omega
  have HBM : Hid (∀ q : Int × Int, hasB W H q.1 q.2 = true → q ∈ boxL 0 0 W H) := fun q hq => by
    rw [hasB_true] at hq
    exact boxL_mem (by omega) (by omega) (by omega) (by omega)
  rw [hW0] at hW2
  clear hg hgl hx0 hx2 hM2 hG2
  go_enter Try.func144, Try.ntmps144
  go_wp2_with fail
  rw [← hW2]
  clear hmm hW0 hW2
  refine HSP.out.mono ?_
  rintro e w3 ⟨a14, c14, rfl, hx3, ho3⟩
  obtain ⟨n, hnn⟩ : ∃ n, n = H * W := ⟨_, rfl⟩
  rw [gridP_len, ← hnn]
  have HS3 : Hid (NdSt W0 (w.heap.size + 1 + 1) a14 W H l (.slice (some ⟨w.heap.size + 1, 0, none⟩) 0 0) (dnP W H l 0) [] w3) := {
    x := HX2.out.trans hx3
    row := ho3.row
    rb := fun b o e => by
      obtain ⟨b2, o2, e1, q1, q2, -⟩ := ho3 0 (by rw [flatP_len, gridP_len, ← hnn]; have := Nat.mul_pos (show 0 < H by omega) (show 0 < W by omega); omega)
      rw [e] at e1
      simp only [Option.some.injEq, Addr.mk.injEq, and_true] at e1
      obtain ⟨rfl, -⟩ := e1
      refine ⟨by omega, q2, by omega, ?_⟩
      simp only [Value.ownBlock, ne_eq, Option.some.injEq]
      omega
    map := HM2.out.ext hx3
    lo := by omega
    out := World.ownsRow.ext HG2.out hx3
    par := fun d hd => by cases hd }
  have HNN := Lib.hid hnn
  have hn0 : 0 < n := by rw [hnn]; exact Nat.mul_pos (by omega) (by omega)
  clear hx3 ho3 HSP HM2 HG2 hnn
  rw [← HNN.out] at hn
  have HF0 : Hid (([] : List NdV).map (ndKey W) = foundTo W H l 0) := rfl
  go_wp2
  go_loopw [3, 16] (fun v i wr => ∃ (k : Nat) (ds : List NdV), k ≤ n ∧ i = .int .i64 k ∧ Hid (ds.map (ndKey W) = foundTo W H l k) ∧ Hid (NdSt W0 (w.heap.size + 1 + 1) a14 W H l v (dnP W H l k) ds wr)) (fun _ i _ => n - (intOf i).toNat)
  case atStart => exact ⟨0, [], Nat.zero_le _, rfl, HF0, HS3⟩
  case round =>
    clear HS3 HF0
    obtain ⟨k, ds, hk, rfl, HF, HS⟩ := hrel
    obtain ⟨wo, rfl⟩ : ∃ wo : World, wo = wr := ⟨_, rfl⟩
    have HXW : Hid (w.Ext wo) := HX0.out.trans HS.out.x
    have hc1 := HS.out.x.cell HD0.out
    by_cases hltk : k < n
    · have hltk' : (k : Int) < (n : Int) := by omega
      have hk0 : (0 : Int) ≤ (k : Int) := by omega
      have hkn : k < H * W := by rw [← HNN.out]; exact hltk
      have hkW : k % W < W := Nat.mod_lt _ (by omega)
      have hkH : k / W < H := by rw [Nat.div_lt_iff_lt_mul (by omega)]; exact hkn
      obtain ⟨b0, o0, rfl, c0, c1⟩ := RowP.at HS.out.row (show k < (gridP W H).length by rw [gridP_len]; exact hkn)
      rw [gridP_at hkn] at c0 c1
      have HKE : Hid (k / W * W + k % W = k) := by show _ = _; rw [Nat.mul_comm]; exact Nat.div_add_mod _ _
      have HSK : Hid (spN W k = (((k % W : Nat) : Int), ((k / W : Nat) : Int))) := rfl
      have HDK : Hid (dnP W H l k (((k % W : Nat) : Int), ((k / W : Nat) : Int)) = doneB W H l k k) := dnP_at hkn
      have hATK : Hid (∀ w', w.Ext w' → Calls Try.prog 80 #[.pointer (some ⟨p, 0, none⟩), .agg #[.int .i64 ((k % W : Nat) : Int), .int .i64 ((k / W : Nat) : Int)]] w' fun e w'' => e = .returned (.int .i64 (l.getD k 0)) ∧ w'.Ext w'') := fun w' hx => by
        have h := HAT.out w' (k % W) (k / W) hx hkW hkH
        rw [HKE.out] at h
        exact h
      have HSC := Lib.hid (fun w' b7 sa => HSPR.out w' b7 sa k hkn)
      rw [HSK.out] at HSC
      have hxm : ((k % W : Nat) : Int) ≤ 64 := by omega
      have hym : ((k / W : Nat) : Int) ≤ 64 := by omega
      have HKN := Lib.hid hkn
      clear hkW hkH hkn HKE
      generalize k % W = x at *
      generalize k / W = y at *
      obtain ⟨w4, hw4⟩ : ∃ w4, w4 = wo.alloc (.cells #[.int .i64 x, .int .i64 y] 58) := ⟨_, rfl⟩
      have hx4 : wo.Ext w4 := by rw [hw4]; repeat (first | exact World.Ext.refl _ | exact ⟨_, rfl⟩ | assumption | refine World.Ext.over ?_ _ | refine World.Ext.drewN ?_ _ | refine World.Ext.drew ?_ | refine World.Ext.alloc ?_ _ | refine World.Ext.setCell ?_ (by simp) _)
      have s0 : w4.cell? ⟨wo.heap.size, 0, none⟩ = some (.int .i64 x) := by rw [hw4]; simp [go_sem]
      have s1 : w4.cell? ⟨wo.heap.size, 1, none⟩ = some (.int .i64 y) := by rw [hw4]; simp [go_sem]
      have HS4 := Lib.hid (HS.out.ext hx4)
      have hlook := HS4.out.map.lookD (x := x) (y := y) (by omega) (by omega)
      rw [HDK.out] at hlook
      have hc14 := hx4.cell hc1
      have HX4 := Lib.hid (HXW.out.trans hx4)
      have ls := World.block_lt_of_cell? _ _ s0
      have lc := World.block_lt_of_cell? _ _ hc14
      have hsz4 : wo.heap.size < w4.heap.size := by rw [hw4]; simp
      clear hx4 hc1 HDK HS HXW
      cases hdn : doneB W H l k k
      · rw [hdn] at hlook
        have HFM := Lib.hid (found_more hdn)
        have HMD : Hid (∀ m, mnN W H l (l.getD k 0) k = m → foundTo W H l (k + 1) = foundTo W H l k ++ [((l.getD k 0).toNat, m)]) := fun m hm => by rw [HFM.out, hm]
        have hl0_ := (HGL.out k HKN.out).1
        obtain ⟨lev, hlev⟩ : ∃ lev, l.getD k 0 = lev := ⟨_, rfl⟩
        have HLEV := Lib.hid hlev
        rw [hlev] at hATK HSC
        have HATK := hATK
        clear hlev hATK HFM
        go_upto_region 5 with fail
        rw [← hw4]
        clear hw4 c0 c1 hdn
        go_wp2_with fail
        refine (HATK.out w4 HX4.out).mono ?_
        rintro e w5 ⟨rfl, hx5⟩
        obtain ⟨w7, hw7⟩ : ∃ w7, w7 = (w5.alloc (.cells #[.int .i64 lev] 2)).alloc (.cells #[.int .i64 x, .int .i64 y] 58) := ⟨_, rfl⟩
        have hx7 : w5.Ext w7 := by rw [hw7]; repeat (first | exact World.Ext.refl _ | exact ⟨_, rfl⟩ | assumption | refine World.Ext.over ?_ _ | refine World.Ext.drewN ?_ _ | refine World.Ext.drew ?_ | refine World.Ext.alloc ?_ _ | refine World.Ext.setCell ?_ (by simp) _)
        have q7 : w7.cell? ⟨w5.heap.size, 0, none⟩ = some (.int .i64 lev) := by rw [hw7]; simp [go_sem]
        have hrow : RowP w7 (some ⟨w5.heap.size + 1, 0, none⟩) [((x : Int), (y : Int))] := by
          intro i hi
          have hi2 : i < 2 := hi
          refine ⟨w5.heap.size + 1, 0, rfl, ?_⟩
          rw [hw7]
          match i, hi2 with
          | 0, _ => simp [go_sem, flatP]
          | 1, _ => simp [go_sem, flatP]
        have X47 : w4.Ext w7 := hx5.trans hx7
        have HC := Lib.hid (HSC.out w7 w5.heap.size _ (HX4.out.trans X47) (X47.cell hc14) q7 hrow)
        have s0' := hx5.cell s0
        have s1' := hx5.cell s1
        have ls5 := World.block_lt_of_cell? _ _ s0'
        have hszs := hx5.size
        have H47 := Lib.hid X47
        have HQ7 := Lib.hid q7
        have HS0 := Lib.hid (And.intro s0 s1)
        have HC1 := Lib.hid hc14
        have hsz7 : w7.heap.size = w5.heap.size + 2 := by rw [hw7]; simp
        clear hx7 hx5 q7 hrow HSC X47 s0 s1 hc14 ls lc hlook
        go_wp2_with fail
        rw [← hw7]
        clear hw7 s0' s1' ls5
        refine HC.out.mono ?_
        rintro e w8 ⟨bm2, es, rfl, hx8, hlo8, hM8, hnd8, hes8⟩
        have hbm2 : bm2 < w8.heap.size := hM8.lt
        have r7 := hx8.cell HQ7.out
        have r0 := (H47.out.trans hx8).cell HS0.out.1
        have r1 := (H47.out.trans hx8).cell HS0.out.2
        have lr7 := World.block_lt_of_cell? _ _ r7
        have lr0 := World.block_lt_of_cell? _ _ r0
        have H48 := Lib.hid (H47.out.trans hx8)
        obtain ⟨w10, hw10⟩ : ∃ w10, w10 = w8.alloc (.cells #[.int .i64 lev, .int .i64 x, .int .i64 y, .map (some bm2)] 196) := ⟨_, rfl⟩
        have hx10 : w8.Ext w10 := by rw [hw10]; repeat (first | exact World.Ext.refl _ | exact ⟨_, rfl⟩ | assumption | refine World.Ext.over ?_ _ | refine World.Ext.drewN ?_ _ | refine World.Ext.drew ?_ | refine World.Ext.alloc ?_ _ | refine World.Ext.setCell ?_ (by simp) _)
        have hsz10 : w10.heap.size = w8.heap.size + 1 := by rw [hw10]; simp
        have HB10 : Hid (Nbx w10 w8.heap.size lev x y bm2) := by rw [hw10]; exact Nbx.new _ _ _ _ _ rfl
        have HM10 := Lib.hid (hM8.ext hx10)
        have HES : Hid (∀ p, p ∈ es ↔ Rch (lvR W H l (l.getD k 0)) (nbA false) [spN W k] p) := by rw [HLEV.out, HSK.out]; exact hes8
        have HND := Lib.hid hnd8
        have H410 := Lib.hid (H48.out.trans hx10)
        have H710 := Lib.hid (hx8.trans hx10)
        have h5b : w5.heap.size < w8.heap.size := by have := hx8.size; omega
        have hs48 := H48.out.size
        clear hx8 hM8 hnd8 hes8 hx10 HC H47 H48
        go_upto_region 9 with fail
        rw [← hw10]
        clear hw10 r7 r0 r1 lr7 lr0
        go_wp2_with (at_range; refine wpList_range_S _ rfl _ 194 rfl 58 4 boolMap bm2 (mapG es) rfl HM10.out (fun w11 cnt hrg hg11 hsz11 => ?_))
        have hx11 : w10.Ext w11 := World.Ext.made hg11
        have H411 := Lib.hid (H410.out.trans hx11)
        have HS11 := Lib.hid (HS4.out.ext H411.out)
        have hes0 : ∀ q, q ∈ es → (mapG es q).isSome = true := fun q hq => by obtain ⟨v, hv⟩ := (mapG_in q).2 hq; rw [hv]; rfl
        have HR11 : Hid (RgSt w11 (w.heap.size + 1 + 1) w10.heap.size w8.heap.size bm2 W H l k es (fun p => (mapG es p).isSome) cnt k w11) := {
          wrote := Wrote.refl _ _
          map := HS11.out.map.congr fun q => by unfold dnG; rw [dnL_start hes0]
          rg := hrg
          box := by rw [HLEV.out, HSK.out]; exact HB10.out.ext hx11
          mn := MinL.start hes0 }
        have hs11 := hx11.size
        have hmlt := HS4.out.map.lt
        have hA4 := HS4.out.x.size
        have hmd : w.heap.size + 1 + 1 ≠ bm2 := by omega
        have HDB : Hid (∀ d, d ∈ ds → d.2.2.2 < w4.heap.size) := fun d hd => (HS4.out.par d hd).2.2.2.lt
        have HVB : Hid (∀ q, u3.ownBlock = some q → q < w4.heap.size) := fun q hq => (World.ownsRow.lt HS4.out.out q hq).2
        have HRB : Hid (b0 < w4.heap.size ∧ b0 ≠ w.heap.size + 1 + 1) := by obtain ⟨-, a2, a3, -⟩ := HS4.out.rb b0 o0 rfl; exact ⟨a2, a3⟩
        have hdl : ds.length ≤ 256 := by have h := congrArg List.length HF.out; rw [List.length_map] at h; have := found_len (W := W) (H := H) (l := l) (k := k); omega
        have H711 := Lib.hid (H710.out.trans hx11)
        clear hrg hg11 hx11 HM10 HB10 H410 hes0 H710
        obtain ⟨b9, hb9⟩ : ∃ b9, b9 = w8.heap.size := ⟨_, rfl⟩
        obtain ⟨r, hr⟩ : ∃ r, r = w10.heap.size := ⟨_, rfl⟩
        rw [← hb9, ← hr] at HR11
        have hbm9 : bm2 ≠ b9 := by omega
        have hbr : bm2 ≠ r := by omega
        have hb9r : b9 ≠ r := by omega
        have hd9 : w.heap.size + 1 + 1 ≠ b9 := by omega
        have hdr : w.heap.size + 1 + 1 ≠ r := by omega
        have hb94 : w4.heap.size ≤ b9 := by omega
        have h45 : w4.heap.size ≤ w5.heap.size := by omega
        have h59 : w5.heap.size < b9 := by omega
        have h5r : w5.heap.size < r := by omega
        have h511 : w5.heap.size < w11.heap.size := by omega
        have hr4 : w4.heap.size ≤ r := by omega
        have hb211 : bm2 < w11.heap.size := by omega
        have hb2A : W0.heap.size ≤ bm2 := by omega
        have h9A : W0.heap.size ≤ b9 := by omega
        have hrA : W0.heap.size ≤ r := by omega
        have h11A : W0.heap.size ≤ w11.heap.size := by omega
        rw [← hb9, ← hr]
        clear hb9 hr hlo8 hbm2 hs11 hs48 hszs hsz7 hsz10 hsz11
        go_wp2
        go_frame
        go_loopw [10] (fun _ wr => ∃ (left : Int × Int → Bool) (cnt m : Nat), Hid (RgSt w11 (w.heap.size + 1 + 1) r b9 bm2 W H l k es left cnt m wr)) (fun _ wr => wr.rangeLeft bm2 r)
        case atStart => exact ⟨_, _, _, HR11⟩
        case round =>
          clear HR11
          obtain ⟨left, cnt, m, HRS⟩ := hrel
          obtain ⟨wp, rfl⟩ : ∃ wp : World, wp = wr := ⟨_, rfl⟩
          go_wp2_with (at_next; refine wpList_next_S _ rfl _ rfl 58 bm2 r (mapG es) left cnt rfl HRS.out.rg ?_ ?_)
          · intro hl0
            have hl0' : ∀ p, left p = false := fun ⟨a, b⟩ => hl0 a b
            have hm := HRS.out.mn.done HKN.out hl0' HES.out
            obtain ⟨q1, q2, -⟩ := mnN_spec (W := W) (H := H) (l := l) HKN.out (Int.le_refl (l.getD k 0))
            rw [hm] at q1 q2
            have hmn : m < H * W := Nat.lt_of_le_of_lt q1 HKN.out
            have HFD := Lib.hid (HMD.out m hm)
            have HSP := Lib.hid (HS11.out.keep (D' := dnP W H l (k + 1)) HRS.out.wrote (fun q hs => by rcases hs with h | h | h | h <;> omega)
              (fun b o e hs => by
                simp only [Option.some.injEq, Addr.mk.injEq, and_true] at e
                obtain ⟨rfl, -⟩ := e
                have h1 := HRB.out
                have h411s := H411.out.size
                rcases hs with h | h | h | h <;> omega)
              (fun q e hs => by
                have h1 := HVB.out q e
                have h2 := MapS.neRow HS11.out.map HS11.out.out
                have h411s := H411.out.size
                rcases hs with h | h | h | h
                · subst h; exact h2 e.symm
                · omega
                · omega
                · omega)
              (fun d hd hs => by
                have h1 := HDB.out d hd
                have h2 := (HS11.out.par d hd).2.2.1
                have h411s := H411.out.size
                rcases hs with h | h | h | h
                · exact h2 h
                · omega
                · omega
                · omega)
              (HRS.out.map.congr fun q => by unfold dnG; rw [dnL_done HKN.out hl0' HES.out]))
            have HPT : Hid (PartAt wp bm2 W H l lev m) := by
              refine ⟨es, HRS.out.rg.map, HND.out, fun p => (HES.out p).trans ?_⟩
              rw [← HLEV.out]
              exact ⟨fun h => rchTrans q2.symm h, fun h => rchTrans q2 h⟩
            have HBX := HRS.out.box
            rw [HLEV.out] at HBX
            obtain ⟨b90, b91, b92, b93⟩ := HBX.cells
            have lb9 := World.block_lt_of_cell? _ _ b90
            have hown : wp.ownsRow W0.heap.size 196 4 u3 ds.length (ds.flatMap encNd) := HSP.out.out
            have hlo := HSP.out.x.size
            have HLE : Hid (∀ o : Obj, W0.heap.size ≤ (wp.alloc o).heap.size) := fun o => by simp; omega
            have HB1 : Hid (ds.length + 1 ≤ maxLen) := by show _ ≤ _; unfold maxLen; omega
            have HB2 : Hid ((ds.length + 1) * 32 ≤ 140737488355328) := by show _ ≤ _; omega
            have hlev0 : 0 ≤ lev := by rw [← HLEV.out]; exact hl0_
            have HNX : Hid (∀ (o : Obj) (v' : Value) (w1 : World), (wp.alloc o).grownBy w1 u3.ownBlock → w1.ownsRow W0.heap.size 196 4 v' (ds.length + 1) (ds.flatMap encNd ++ [.int .i64 lev, .int .i64 (spN W m).1, .int .i64 (spN W m).2, .map (some bm2)]) → (v'.ownBlock = u3.ownBlock ∨ v'.ownBlock = some (wp.alloc o).heap.size) → NdSt W0 (w.heap.size + 1 + 1) (some ⟨b0, o0, none⟩) W H l v' (dnP W H l (k + 1)) (ds ++ [(lev, (spN W m).1, (spN W m).2, bm2)]) w1) := fun o v' w1 hg ho hat =>
              HSP.out.push (d := (lev, (spN W m).1, (spN W m).2, bm2)) (World.Ext.alloc (.refl _) o) hg ho hat (NdIs.mk' hlev0 hmn) hb2A (fun e => hmd e.symm) (by rw [ndKey_mk hlev0]; exact HPT.out)
            have HFN : Hid ((ds ++ [(lev, (spN W m).1, (spN W m).2, bm2)]).map (ndKey W) = foundTo W H l (k + 1)) := by
              show _ = _
              rw [HFD.out, List.map_append, HF.out, HLEV.out]
              simp only [List.map_cons, List.map_nil, ndKey_mk hlev0]
            clear HBX hl0 hl0' hm q1 q2 HSP HPT HFD hlo
            go_wp2_with (at_builtin; refine wpList_append_own_at _ rfl _ _ 192 rfl W0.heap.size 196 iw (.agg #[.int .i64 0, .int .i64 0, .int .i64 0, .map none]) 4 32 Try.underlying192 hiw hz0 hz1 hz2 rfl (by decide) _ _ _ rfl (hown.alloc _) ⟨wp.heap.size, 0, none⟩ 1 1 [.int .i64 lev, .int .i64 (spN W m).1, .int .i64 (spN W m).2, .map (some bm2)] rfl rfl (cell_four_new _ _ _ _ _ _) (by simp [Value.oneCell']) HB1.out HB2.out (HLE.out _) (fun v' w1 hown' hgrow _ hat => ?_); have HS9 := Lib.hid (HNX.out _ _ _ hgrow hown' hat); clear hgrow hown' hown hat)
            go_roundw
            case rel => exact ⟨k + 1, _, by omega, by go_num, HFN, HS9⟩
            case measure => simp [intOf]; omega
          · intro x2 y2 v2 w12 cnt2 hlx hat hrg2 hlt2 hg12 hsz12 hen
            have hin := (mapG_in (x2, y2)).1 ⟨v2, hat⟩
            have hlv := ((HES.out _).1 hin).right
            obtain ⟨j, hj, hxj⟩ := lvR_box hlv
            have HXJ := Lib.hid hxj
            have HORD : Hid (ordJ (x2, y2) ((spN W m).1, (spN W m).2) < 0 ↔ j < m) := by
              show _ ↔ _
              rw [hxj]
              exact spN_ord (by omega)
            have HLESS : Hid (j < m → MinL W H es (fun q => left q && !(q == spN W j)) k j) := fun h => HRS.out.mn.less (by rw [← hxj]; exact hin) h
            have HMORE : Hid (m ≤ j → MinL W H es (fun q => left q && !(q == spN W j)) k m) := fun h => HRS.out.mn.more h
            have hjW : j % W < W := Nat.mod_lt _ (by omega)
            have hjH : j / W < H := by rw [Nat.div_lt_iff_lt_mul (by omega)]; exact hj
            have hx2j : x2 = ((j % W : Nat) : Int) := congrArg Prod.fst hxj
            have hy2j : y2 = ((j / W : Nat) : Int) := congrArg Prod.snd hxj
            have hjE : j / W * W + j % W = j := by rw [Nat.mul_comm]; exact Nat.div_add_mod _ _
            have HAJ : Hid (∀ w', w.Ext w' → Calls Try.prog 80 #[.pointer (some ⟨p, 0, none⟩), .agg #[.int .i64 x2, .int .i64 y2]] w' fun e w'' => e = .returned (.int .i64 (l.getD j 0)) ∧ w'.Ext w'') := fun w' hx => by
              have h := HAT.out w' (j % W) (j / W) hx hjW hjH
              rw [hjE, ← hx2j, ← hy2j] at h
              exact h
            have hv2 : nbV W l x2 y2 = l.getD j 0 := by
              unfold nbV
              have := spN_idx (W := W) (j := j)
              rw [← hxj] at this
              rw [this]
            have hxb : 0 ≤ x2 ∧ x2 ≤ 64 ∧ 0 ≤ y2 ∧ y2 ≤ 64 := by
              rw [hx2j, hy2j]
              exact ⟨Int.natCast_nonneg _, Int.le_trans (Int.ofNat_le.2 (Nat.le_trans (Nat.le_of_lt hjW) hW)) (by decide), Int.natCast_nonneg _, Int.le_trans (Int.ofNat_le.2 (Nat.le_trans (Nat.le_of_lt hjH) hH)) (by decide)⟩
            obtain ⟨hx20, hx21, hy20, hy21⟩ := hxb
            have HSTEP : Hid (l.getD j 0 = lev → ∀ q, (if q = (x2, y2) then some (Value.bool true) else dnG (dnL W H l k es left) q) = dnG (dnL W H l k es (fun q => left q && !(q == (x2, y2)))) q) := fun h q => dnG_step hin (show nbV W l x2 y2 = l.getD k 0 by rw [hv2, HLEV.out]; exact h) q
            have HSAME : Hid (l.getD j 0 ≠ lev → ∀ q, dnG (dnL W H l k es left) q = dnG (dnL W H l k es (fun q => left q && !(q == (x2, y2)))) q) := fun h q => dnG_same (show nbV W l x2 y2 ≠ l.getD k 0 by rw [hv2, HLEV.out]; exact h) q
            have HLL : Hid (∀ q v, dnG (dnL W H l k es left) q = some v → q ∈ boxL 0 0 W H) := fun q v h => by
              refine HBM.out q ?_
              unfold dnG at h
              cases hd : dnL W H l k es left q
              · rw [hd] at h; cases h
              · unfold dnL at hd
                rw [Bool.or_eq_true, Bool.and_eq_true, decide_eq_true_iff] at hd
                rcases hd with hd | hd
                · unfold dnP at hd
                  rw [Bool.and_eq_true] at hd
                  exact hd.1
                · have h2 := ((HES.out q).1 hd.1).right
                  unfold lvR at h2
                  rw [Bool.and_eq_true] at h2
                  exact h2.1
            have HKEY := Lib.hid (spotKeyOf (p := (x2, y2)) (spotWf (by omega) (by omega)))
            have HW12 : Hid (Wrote (fun q => q = w.heap.size + 1 + 1 ∨ q = r ∨ q = b9 ∨ w11.heap.size ≤ q) w11 w12) := HRS.out.wrote.trans ⟨hg12.os, hg12.tape, hg12.output, hg12.size, fun i hi hs => hg12.block i hi fun e => hs (by cases e; exact .inr (.inl rfl))⟩
            have HM12 := Lib.hid (HRS.out.map.grown hg12 (by simp only [ne_eq, Option.some.injEq]; exact hdr))
            have HBB : Hid (Nbx w12 b9 lev (spN W m).1 (spN W m).2 bm2) := by
              have h := HRS.out.box
              rw [HLEV.out] at h
              exact h.keep (hg12.block _ h.lt (by simp only [ne_eq, Option.some.injEq]; exact hb9r))
            have HRG := Lib.hid hrg2
            have HLT := Lib.hid hlt2
            have hsz12' : w11.heap.size ≤ w12.heap.size := HW12.out.size
            obtain ⟨w13, hw13⟩ : ∃ w13, w13 = w12.alloc (.cells #[.int .i64 x2, .int .i64 y2] 58) := ⟨_, rfl⟩
            have hx13 : w12.Ext w13 := by rw [hw13]; repeat (first | exact World.Ext.refl _ | exact ⟨_, rfl⟩ | assumption | refine World.Ext.over ?_ _ | refine World.Ext.drewN ?_ _ | refine World.Ext.drew ?_ | refine World.Ext.alloc ?_ _ | refine World.Ext.setCell ?_ (by simp) _)
            have t0 : w13.cell? ⟨w12.heap.size, 0, none⟩ = some (.int .i64 x2) := by rw [hw13]; simp [go_sem]
            have t1 : w13.cell? ⟨w12.heap.size, 1, none⟩ = some (.int .i64 y2) := by rw [hw13]; simp [go_sem]
            have HX13 := Lib.hid hx13
            have HWE : Hid (w.Ext w12) := (HX4.out.trans H411.out).wroteNew HW12.out fun q hq hs => by rcases hs with h | h | h | h <;> omega
            have e1 := hx13.cell (HW12.out.cell (H411.out.cell HC1.out) (by simp only; omega))
            have e7 := hx13.cell (HW12.out.cell (H711.out.cell HQ7.out) (by simp only; omega))
            have le1 := World.block_lt_of_cell? _ _ e1
            have le7 := World.block_lt_of_cell? _ _ e7
            have lt0 := World.block_lt_of_cell? _ _ t0
            have h411s := H411.out.size
            have hd12 : w12.heap.size ≠ w.heap.size + 1 + 1 := by omega
            have HM13 := Lib.hid (HM12.out.ext hx13)
            have HB13 := Lib.hid (HBB.out.ext hx13)
            have HR13 := Lib.hid (HRG.out.ext hx13)
            have HW13 := Lib.hid (HW12.out.trans (hx13.wrote _))
            clear hin hlv hj hxj hjW hjH hx2j hy2j hjE hv2 hrg2 hlt2 hat hlx hg12 hsz12 hx13 HM12 HBB HRG HW12 hx20 hx21 hy20 hy21
            generalize l.getD j 0 = z at *
            go_upto_region 12 with fail
            rw [← hw13]
            clear hw13 hen
            refine wp_region_over_lit (by kernel_rfl) (by kernel_rfl) ?_; (repeat (go_big_quiet_step ((go_at_call 80; exact Calls.over_of (HAJ.out _ (HWE.out.trans (HX13.out.trans ⟨_, rfl⟩))))))); refine wpQuiet_nil ?_; rintro _ ⟨x1, rfl⟩
            have hxo : w13.Ext (w13.over x1) := ⟨x1, rfl⟩
            have p0 := hxo.cell t0
            have p1 := hxo.cell t1
            have HM14 := Lib.hid (HM13.out.ext hxo)
            have HB14 := Lib.hid (HB13.out.ext hxo)
            have HR14 := Lib.hid (HR13.out.ext hxo)
            have HW14 := Lib.hid (HW13.out.trans (hxo.wrote _))
            clear hxo t0 t1 lt0 e1 e7 le1 le7 HM13 HB13 HR13 HW13 HX13 HWE HAJ
            generalize w13.over x1 = w14 at *
            have lp := World.block_lt_of_cell? _ _ p0
            by_cases hz : z = lev
            · have HST := Lib.hid (HSTEP.out hz)
              have HUP : Hid (∀ w15, MapS w15 Try.prog 58 (w.heap.size + 1 + 1) (fun q => if q = (x2, y2) then some (Value.bool true) else dnG (dnL W H l k es left) q) → w14.grownBy w15 (some (w.heap.size + 1 + 1)) →
                  Hid (Wrote (fun q => q = w.heap.size + 1 + 1 ∨ q = r ∨ q = b9 ∨ w11.heap.size ≤ q) w11 w15) ∧ Hid (MapS w15 Try.prog 58 (w.heap.size + 1 + 1) (dnG (dnL W H l k es (fun q => left q && !(q == (x2, y2)))))) ∧ Hid (RangeS w15 Try.prog 58 bm2 r (mapG es) (fun q => left q && !(q == (x2, y2))) cnt2) ∧ Hid (Nbx w15 b9 lev (spN W m).1 (spN W m).2 bm2) ∧ w15.cell? ⟨w12.heap.size, 0, none⟩ = some (.int .i64 x2) ∧ w15.cell? ⟨w12.heap.size, 1, none⟩ = some (.int .i64 y2)) := fun w15 hm hg =>
                ⟨HW14.out.trans ⟨hg.os, hg.tape, hg.output, hg.size, fun i hi hs => hg.block i hi fun e => hs (by cases e; exact .inl rfl)⟩, hm.congr HST.out, HR14.out.grown hg (by simp only [ne_eq, Option.some.injEq]; omega) (by simp only [ne_eq, Option.some.injEq]; omega), HB14.out.keep (hg.block _ HB14.out.lt (by simp only [ne_eq, Option.some.injEq]; omega)),
                  hg.cell p0 (by simp only [ne_eq, Option.some.injEq]; exact hd12), hg.cell p1 (by simp only [ne_eq, Option.some.injEq]; exact hd12)⟩
              subst hz
              clear HSTEP HSAME HST
              go_wp2_with (at_mapUpdate; refine wpList_mapUpdate_S _ rfl _ _ _ 194 rfl 58 4 Try.spotKey boolMap (w.heap.size + 1 + 1) (dnG (dnL W H l k es left)) rfl HM14.out (boxL 0 0 W H) HLL.out HBL.out (x2, y2) _ (.bool true) rfl rfl HKEY.out (fun w15 hm15 hg15 => ?_); clear p0 p1 lp; obtain ⟨HWX, HMX, HRX, HBX, p0, p1⟩ := HUP.out w15 hm15 hg15; obtain ⟨b90, b91, b92, b93⟩ := HBX.out.cells; have lb9 := World.block_lt_of_cell? _ _ b90; have lp := World.block_lt_of_cell? _ _ p0; clear hm15 hg15 HUP HM14 HB14 HR14 HW14)
              refine (spotOrder_ext x2 y2 (spN W m).1 (spN W m).2 _).mono ?_
              rintro e wz ⟨rfl, hxz⟩
              have hpz := And.intro (hxz.cell p0) (hxz.cell p1)
              have HZ1 := Lib.hid (HWX.out.trans (hxz.wrote _))
              have HZ2 := Lib.hid (HMX.out.ext hxz)
              have HZ3 := Lib.hid (HRX.out.ext hxz)
              have HZ4 := Lib.hid (HBX.out.ext hxz)
              clear p0 p1 lp
              obtain ⟨p0, p1⟩ := hpz
              clear hxz HWX HMX HRX HBX b90 b91 b92 b93 lb9
              have lp := World.block_lt_of_cell? _ _ p0
              by_cases hjm : j < m
              · have HOL := Lib.hid (HORD.out.2 hjm)
                have hol := HOL.out
                have HMN := Lib.hid (HLESS.out hjm)
                obtain ⟨b90, b91, b92, b93⟩ := HZ4.out.cells
                have lb9 := World.block_lt_of_cell? _ _ b91
                have fb1 := HZ4.out.free 1
                have fb2 := HZ4.out.free 2
                have HFIN : Hid (RgSt w11 (w.heap.size + 1 + 1) r b9 bm2 W H l k es (fun q => left q && !(q == (x2, y2))) cnt2 j ((wz.setCell ⟨b9, 1, none⟩ (.int .i64 x2)).setCell ⟨b9, 2, none⟩ (.int .i64 y2))) := {
                  wrote := (HZ1.out.setCell (p := ⟨b9, 1, none⟩) (.inr (.inr (.inl rfl))) _).setCell (p := ⟨b9, 2, none⟩) (.inr (.inr (.inl rfl))) _
                  map := (HZ2.out.keep (by rw [Below.heap_setCell _ _ _ _ (by simp only; omega), Below.heap_setCell _ _ _ _ (by simp only; omega)]))
                  rg := (HZ3.out.setCell (a := ⟨b9, 1, none⟩) (by simp only; omega) (by simp only; omega) _).setCell (a := ⟨b9, 2, none⟩) (by simp only; omega) (by simp only; omega) _
                  box := by
                    have h := HZ4.out.put x2 y2
                    have e : spN W j = (x2, y2) := HXJ.out.symm
                    rw [e]
                    rw [← HLEV.out] at h
                    exact h
                  mn := by have e := HXJ.out; rw [e]; exact HMN.out }
                clear HZ1 HZ2 HZ3 HZ4 HMN HORD HLESS HMORE HOL
                generalize ordJ (x2, y2) ((spN W m).1, (spN W m).2) = od at *
                go_wp2
                go_roundw
                case rel => first | exact ⟨_, cnt2, j, HFIN⟩ | exact ⟨_, ⟨cnt2, j, HFIN⟩⟩
                case measure => rw [HFIN.out.rg.left_eq, HRS.out.rg.left_eq]; exact HLT.out
              · have HOL : Hid (¬ ordJ (x2, y2) ((spN W m).1, (spN W m).2) < 0) := fun h => hjm (HORD.out.1 h)
                have hol := HOL.out
                have HMN := Lib.hid (HMORE.out (by omega))
                have HFIN : Hid (RgSt w11 (w.heap.size + 1 + 1) r b9 bm2 W H l k es (fun q => left q && !(q == (x2, y2))) cnt2 m wz) := {
                  wrote := HZ1.out
                  map := HZ2.out
                  rg := HZ3.out
                  box := by have h := HZ4.out; rw [← HLEV.out] at h; exact h
                  mn := by have e := HXJ.out; rw [e]; exact HMN.out }
                clear HZ1 HZ2 HZ3 HZ4 HMN HORD HLESS HMORE HOL
                generalize ordJ (x2, y2) ((spN W m).1, (spN W m).2) = od at *
                go_wp2
                go_roundw
                case rel => first | exact ⟨_, cnt2, m, HFIN⟩ | exact ⟨_, ⟨cnt2, m, HFIN⟩⟩
                case measure => rw [HFIN.out.rg.left_eq, HRS.out.rg.left_eq]; exact HLT.out
            · have HMX := Lib.hid (HM14.out.congr (HSAME.out hz))
              have HWX := HW14
              have HRX := HR14
              have HBX := HB14
              obtain ⟨b90, b91, b92, b93⟩ := HBX.out.cells
              have lb9 := World.block_lt_of_cell? _ _ b90
              have hzb : (z == lev) = false := by simpa using hz
              clear HSTEP HSAME HM14 HW14 HR14 HB14 hz
              go_wp2_with fail
              refine (spotOrder_ext x2 y2 (spN W m).1 (spN W m).2 _).mono ?_
              rintro e wz ⟨rfl, hxz⟩
              have hpz := And.intro (hxz.cell p0) (hxz.cell p1)
              have HZ1 := Lib.hid (HWX.out.trans (hxz.wrote _))
              have HZ2 := Lib.hid (HMX.out.ext hxz)
              have HZ3 := Lib.hid (HRX.out.ext hxz)
              have HZ4 := Lib.hid (HBX.out.ext hxz)
              clear p0 p1 lp
              obtain ⟨p0, p1⟩ := hpz
              clear hxz HWX HMX HRX HBX b90 b91 b92 b93 lb9
              have lp := World.block_lt_of_cell? _ _ p0
              by_cases hjm : j < m
              · have HOL := Lib.hid (HORD.out.2 hjm)
                have hol := HOL.out
                have HMN := Lib.hid (HLESS.out hjm)
                obtain ⟨b90, b91, b92, b93⟩ := HZ4.out.cells
                have lb9 := World.block_lt_of_cell? _ _ b91
                have fb1 := HZ4.out.free 1
                have fb2 := HZ4.out.free 2
                have HFIN : Hid (RgSt w11 (w.heap.size + 1 + 1) r b9 bm2 W H l k es (fun q => left q && !(q == (x2, y2))) cnt2 j ((wz.setCell ⟨b9, 1, none⟩ (.int .i64 x2)).setCell ⟨b9, 2, none⟩ (.int .i64 y2))) := {
                  wrote := (HZ1.out.setCell (p := ⟨b9, 1, none⟩) (.inr (.inr (.inl rfl))) _).setCell (p := ⟨b9, 2, none⟩) (.inr (.inr (.inl rfl))) _
                  map := (HZ2.out.keep (by rw [Below.heap_setCell _ _ _ _ (by simp only; omega), Below.heap_setCell _ _ _ _ (by simp only; omega)]))
                  rg := (HZ3.out.setCell (a := ⟨b9, 1, none⟩) (by simp only; omega) (by simp only; omega) _).setCell (a := ⟨b9, 2, none⟩) (by simp only; omega) (by simp only; omega) _
                  box := by
                    have h := HZ4.out.put x2 y2
                    have e : spN W j = (x2, y2) := HXJ.out.symm
                    rw [e]
                    rw [← HLEV.out] at h
                    exact h
                  mn := by have e := HXJ.out; rw [e]; exact HMN.out }
                clear HZ1 HZ2 HZ3 HZ4 HMN HORD HLESS HMORE HOL
                generalize ordJ (x2, y2) ((spN W m).1, (spN W m).2) = od at *
                go_wp2
                go_roundw
                case rel => first | exact ⟨_, cnt2, j, HFIN⟩ | exact ⟨_, ⟨cnt2, j, HFIN⟩⟩
                case measure => rw [HFIN.out.rg.left_eq, HRS.out.rg.left_eq]; exact HLT.out
              · have HOL : Hid (¬ ordJ (x2, y2) ((spN W m).1, (spN W m).2) < 0) := fun h => hjm (HORD.out.1 h)
                have hol := HOL.out
                have HMN := Lib.hid (HMORE.out (by omega))
                have HFIN : Hid (RgSt w11 (w.heap.size + 1 + 1) r b9 bm2 W H l k es (fun q => left q && !(q == (x2, y2))) cnt2 m wz) := {
                  wrote := HZ1.out
                  map := HZ2.out
                  rg := HZ3.out
                  box := by have h := HZ4.out; rw [← HLEV.out] at h; exact h
                  mn := by have e := HXJ.out; rw [e]; exact HMN.out }
                clear HZ1 HZ2 HZ3 HZ4 HMN HORD HLESS HMORE HOL
                generalize ordJ (x2, y2) ((spN W m).1, (spN W m).2) = od at *
                go_wp2
                go_roundw
                case rel => first | exact ⟨_, cnt2, m, HFIN⟩ | exact ⟨_, ⟨cnt2, m, HFIN⟩⟩
                case measure => rw [HFIN.out.rg.left_eq, HRS.out.rg.left_eq]; exact HLT.out
      · rw [hdn] at hlook
        have HSN : Hid (NdSt W0 (w.heap.size + 1 + 1) (some ⟨b0, o0, none⟩) W H l u3 (dnP W H l (k + 1)) ds w4) := by
          have e : dnP W H l (k + 1) = dnP W H l k := funext fun q => dnP_skip hdn q
          rw [e]
          exact HS4.out
        have HFN : Hid (ds.map (ndKey W) = foundTo W H l (k + 1)) := by show _ = _; rw [found_skip hdn]; exact HF.out
        clear HF HS4 HSC hATK hdn
        go_upto_region 5 with fail
        rw [← hw4]
        clear hw4 c0 c1
        go_wp2
        go_roundw
        case rel => exact ⟨k + 1, ds, by omega, by go_num, HFN, HSN⟩
        case measure => simp [intOf]; omega
    · have hke : k = n := by omega
      subst hke
      rw [HNN.out] at HF
      have hdl : ds.length = (foundTo W H l (H * W)).length := by rw [← HF.out, List.length_map]
      have hpos : 0 < ds.length := by
        obtain ⟨j, hj, -⟩ := node_of (p := 0) HGL.out (by rw [← HNN.out]; exact hn0)
        have hm := (found_mem HGL.out).2 (getD_memN hj)
        rw [hdl]
        exact List.length_pos_of_mem hm
      have hle : ds.length ≤ 256 := by
        rw [hdl]
        exact Nat.le_trans found_len (by rw [← HNN.out]; exact hn)
      obtain ⟨g, cap, rfl⟩ : ∃ g cap, u3 = .slice (some ⟨g, 0, none⟩) ds.length cap := by
        rcases HS.out.out.2 with ⟨e, e2⟩ | ⟨g, cap, cur, e, -⟩
        · omega
        · exact ⟨g, cap, e⟩
      have HSO := Lib.hid (sortNode_any W0.heap.size g cap ds wo HS.out.out (by omega))
      have hgA := (World.ownsRow.lt HS.out.out g rfl).1
      have HPA := Lib.hid HS.out.par
      have HXO := Lib.hid HS.out.x
      have HOU := Lib.hid HS.out.out
      clear hdl hpos hle HS
      generalize ds.length = N at *
      go_wp2_with fail
      refine HSO.out.mono ?_
      rintro e w9 ⟨rfl, qs, hp, hs, ho, hgr⟩
      have HR : Hid (NodesRet w W H l (.returned (.slice (some ⟨g, 0, none⟩) N cap)) w9) := by
        refine ⟨_, qs, rfl, HX0.out.trans (HXO.out.grown hgr fun q hq => by cases hq; exact hgA), World.ownsRow.mono (show w9.ownsRow W0.heap.size 196 4 _ qs.length (qs.flatMap encNd) from ho) (show w.heap.size ≤ W0.heap.size by omega), nodes_sorted HGL.out HF.out (fun d hd => (HPA.out d hd).1) hp hs, fun d hd => ?_⟩
        obtain ⟨a1, a2, -, a4⟩ := HPA.out d (hp.mem_iff.1 hd)
        refine ⟨a1, by omega, ?_⟩
        obtain ⟨es, q1, q2⟩ := a4
        exact ⟨es, q1.grown hgr (MapS.neRow q1 HOU.out), q2⟩
      clear hp hs ho hgr HSO HOU HPA HXO
      go_wp2
      go_ret
      exact HR.out
end Go.Proofs.Ytmmanehdmnkekaa
