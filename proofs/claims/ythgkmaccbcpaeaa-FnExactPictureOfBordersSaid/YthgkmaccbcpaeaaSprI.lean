/- What is reached: the program's search, over a map. -/
import Derived.Test.YthgkmaccbcpaeaaRchS
namespace Go.Proofs.Ythgkmaccbcpaeaa
open Go Go.RowKit
def mapG (ds : List (Int × Int)) (p : Int × Int) : Option Value := if p ∈ ds then some (.bool true) else none
theorem mapG_in {ds : List (Int × Int)} (p : Int × Int) : (∃ v, mapG ds p = some v) ↔ p ∈ ds := by
  unfold mapG
  by_cases h : p ∈ ds <;> simp [h]
theorem mapG_push (ds : List (Int × Int)) (p q : Int × Int) : (if q = p then some (Value.bool true) else mapG ds q) = mapG (ds ++ [p]) q := by
  unfold mapG
  by_cases h : q = p
  · subst h; simp
  · by_cases h2 : q ∈ ds <;> simp [h, h2]
theorem mapG_val {ds : List (Int × Int)} (p : Int × Int) : (mapG ds p).getD (.bool false) = .bool (decide (p ∈ ds)) := by
  unfold mapG
  by_cases h : p ∈ ds <;> simp [h]
theorem zeroBool (w : World) : (zeroValue 4).run Try.prog w = .ok (.bool false) w := by kernel_rfl
theorem boolMap : Try.prog.underlying 229 = some (.map 45 4) := Try.underlying229
theorem spotWf {x y : Int} (hx : -1000 ≤ x ∧ x ≤ 1000) (hy : -1000 ≤ y ∧ y ≤ 1000) : SpotWf (x, y) := by
  have m1 : IntKind.i64.min = -9223372036854775808 := by decide
  have m2 : IntKind.i64.max = 9223372036854775807 := by decide
  constructor <;> (show (decide (IntKind.i64.min ≤ _) && decide (_ ≤ IntKind.i64.max)) = true; rw [m1, m2, Bool.and_eq_true, decide_eq_true_eq, decide_eq_true_eq]; simp only; omega)
/-- The search under way: the map of what is entered, of the list of it all but the first i. -/
structure SSt (w : World) (bm : Nat) (a11 : Option Addr) (ks : List (Int × Int)) (ds : List (Int × Int)) (i : Nat) (v : Value) (wr : World) : Prop where
  x : w.Ext wr
  map : MapS wr Try.prog 45 bm (mapG ds)
  q : wr.ownsQ w.heap.size 45 2 v (ds.length - i) ((flatP (ds.drop i)).map (Value.int .i64))
  row : RowP wr a11 ks
  ap : ∀ b o, a11 = some ⟨b, o, none⟩ → b < wr.heap.size ∧ b ≠ bm ∧ v.ownBlock ≠ some b
  lo : w.heap.size ≤ bm
section
variable {w : World} {bm i : Nat} {a11 : Option Addr} {ks ds : List (Int × Int)} {v : Value} {wr : World}
theorem SSt.ext {w' : World} (h : SSt w bm a11 ks ds i v wr) (hx : wr.Ext w') : SSt w bm a11 ks ds i v w' :=
  ⟨h.x.trans hx, h.map.ext hx, h.q.ext hx, h.row.ext hx, fun b o e => ⟨Nat.lt_of_lt_of_le (h.ap b o e).1 hx.size, (h.ap b o e).2⟩, h.lo⟩
theorem SSt.neq (h : SSt w bm a11 ks ds i v wr) : v.ownBlock ≠ some bm := by
  intro e
  obtain ⟨_, g, o, cap, cur, rfl, _, hh, _⟩ := h.q
  simp only [Value.ownBlock, Option.some.injEq] at e
  exact h.map.ne hh e
theorem SSt.look (h : SSt w bm a11 ks ds i v wr) {x y : Int} (hx : -1000 ≤ x ∧ x ≤ 1000) (hy : -1000 ≤ y ∧ y ≤ 1000) :
    (Instr.lookup 229 (.map (some bm)) (.agg #[.int .i64 x, .int .i64 y]) false).run Try.prog wr = .ok (.bool (decide ((x, y) ∈ ds))) wr := by
  have := h.map.look Try.spotKey boolMap (zeroBool wr) (p := (x, y)) (spotKeyOf (spotWf hx hy))
  rw [mapG_val] at this
  exact this
theorem SSt.put (h : SSt w bm a11 ks ds i v wr) {w7 : World} (hg : wr.grownBy w7 (some bm)) : w7.ownsQ w.heap.size 45 2 v (ds.length - i) ((flatP (ds.drop i)).map (Value.int .i64)) :=
  h.q.grown hg h.neq
theorem SSt.push (h : SSt w bm a11 ks ds i v wr) (hi : i ≤ ds.length) {p : Int × Int} {w7 w8 : World} (hm : MapS w7 Try.prog 45 bm (fun q => if q = p then some (.bool true) else mapG ds q)) (hg : wr.grownBy w7 (some bm)) {o : Obj} {v' : Value}
    (hq : w8.ownsQ w.heap.size 45 2 v' (ds.length - i + 1) ((flatP (ds.drop i)).map (Value.int .i64) ++ [.int .i64 p.1, .int .i64 p.2])) (hgrow : (w7.alloc o).grownBy w8 v.ownBlock)
    (hat : v'.ownBlock = v.ownBlock ∨ v'.ownBlock = some (w7.alloc o).heap.size) : SSt w bm a11 ks (ds ++ [p]) i v' w8 := by
  have x7 : w.Ext w7 := h.x.grown hg fun k hk => by simp only [Option.some.injEq] at hk; have := h.lo; omega
  have m8 : MapS w8 Try.prog 45 bm (mapG (ds ++ [p])) := ((hm.congr (mapG_push ds p)).ext ((World.Ext.refl _).alloc o)).grown hgrow (Ne.symm h.neq)
  refine ⟨(x7.alloc o).grown hgrow fun k hk => (h.q.lt _ hk).1, m8, ?_, h.row.keep fun b o' e => ?_, fun b o' e => ⟨?_, (h.ap b o' e).2.1, ?_⟩, h.lo⟩
  · have e1 : (ds ++ [p]).drop i = ds.drop i ++ [p] := by rw [List.drop_append, show i - ds.length = 0 by omega]; rfl
    have e2 : (ds ++ [p]).length - i = ds.length - i + 1 := by simp; omega
    rw [e1, e2, flatP_append, List.map_append]
    exact hq
  · obtain ⟨q1, q2, q3⟩ := h.ap b o' e
    have hs7 := hg.size
    rw [hgrow.block b (by simp; omega) (Ne.symm q3), (MapKept.heap_alloc _ o).2 b (by omega), hg.block b q1 (by simp; exact q2)]
  · have h1 := hgrow.size
    have h2 := hg.size
    have h3 := (h.ap b o' e).1
    simp at h1
    omega
  · obtain ⟨q1, q2, q3⟩ := h.ap b o' e
    rcases hat with e1 | e1
    · rw [e1]; exact q3
    · rw [e1]
      intro e2
      have h2 := hg.size
      simp at e2
      omega
theorem SSt.tail (h : SSt w bm a11 ks ds i v wr) (hi : i < ds.length) {v' : Value} (hq : wr.ownsQ w.heap.size 45 2 v' (ds.length - (i + 1)) (((flatP (ds.drop i)).map (Value.int .i64)).drop 2)) (_ : v'.ownBlock = v.ownBlock) : SSt w bm none [] ds (i + 1) v' wr := by
  refine ⟨h.x, h.map, ?_, RowOf.nil _ _, (fun b o e => by cases e), h.lo⟩
  have e : ds.drop i = ds.getD i (0, 0) :: ds.drop (i + 1) := by
    rw [List.getD_eq_getElem?_getD, List.getElem?_eq_getElem hi]
    exact List.drop_eq_getElem_cons hi
  rw [e] at hq
  exact hq
end
def sliceLen : Value → Nat | .slice _ n _ => n | _ => 0
/-- A map of what is reached is returned. -/
def MapRet (w : World) (R : Int × Int → Bool) (N : Int × Int → List (Int × Int)) (S : List (Int × Int)) (e : Ending) (w' : World) : Prop :=
  ∃ bm ds, e = .returned (.map (some bm)) ∧ w.Ext w' ∧ w.heap.size ≤ bm ∧ MapS w' Try.prog 45 bm (mapG ds) ∧ ds.Nodup ∧ ∀ p, p ∈ ds ↔ Rch R N S p
set_option maxRecDepth 5000 in
set_option maxHeartbeats 3200000 in
theorem spread_any (sa : Option Addr) (sc : Nat) (S : List (Int × Int)) (eight : Bool) (f : Nat) (caps : Array Value) (R : Int × Int → Bool) (L : List (Int × Int)) (w : World) (he : Enters f)
    (hS : RowP w sa S) (hSn : S.length ≤ 100000) (hSb : ∀ q, q ∈ S → -500 ≤ q.1 ∧ q.1 ≤ 500 ∧ -500 ≤ q.2 ∧ q.2 ≤ 500)
    (hL : ∀ p, R p = true → p ∈ L) (hLn : L.length ≤ 8000) (hLb : ∀ p, R p = true → -500 ≤ p.1 ∧ p.1 ≤ 500 ∧ -500 ≤ p.2 ∧ p.2 ≤ 500)
    (hf : ∀ w', w.Ext w' → ∀ x y : Int, -1000 ≤ x ∧ x ≤ 1000 → -1000 ≤ y ∧ y ≤ 1000 → Calls Try.prog f (#[.agg #[.int .i64 x, .int .i64 y]] ++ caps) w' fun e w'' => e = .returned (.bool (R (x, y))) ∧ w'.Ext w'') :
    Calls Try.prog 192 #[.slice sa S.length sc, .bool eight, .func (.func f) #[] caps] w (MapRet w R (nbA eight) S) := by
  obtain ⟨i0, hi, hz0, hz1, hz2⟩ := info_parts Try.infoSpotA
  have HF := Lib.hid hf
  have HS := Lib.hid hS
  have HSB := Lib.hid hSb
  have HLI := Lib.hid hL
  have HLB := Lib.hid hLb
  have HLN := Lib.hid hLn
  have HAR : Hid (∀ w' (x y : Int), -500 ≤ x ∧ x ≤ 500 → -500 ≤ y ∧ y ≤ 500 → Calls Try.prog 107 #[.int .i64 x, .int .i64 y, .bool eight] w' (PairsRet w' (nbA eight (x, y)))) := fun w' x y hx hy => around_any x y eight w' (by omega) (by omega)
  have HNB : Hid (∀ p q, q ∈ nbA eight p → p.1 - 1 ≤ q.1 ∧ q.1 ≤ p.1 + 1 ∧ p.2 - 1 ≤ q.2 ∧ q.2 ≤ p.2 + 1) := fun p q => nbA_near
  have HNL : Hid (∀ p, (nbA eight p).length ≤ 8) := fun p => by rw [nbA_len]; cases eight <;> decide
  have HNP : Hid (∀ p, 0 < (nbA eight p).length) := fun p => by rw [nbA_len]; cases eight <;> decide
  unfold Enters at he
  clear hS hSb hL hLn hLb hf
  generalize nbA eight = N at *
  have HS0 : Hid (SSt w w.heap.size none [] [] 0 (.slice (some ⟨w.heap.size + 1, 0, none⟩) 0 0) ((w.alloc (.map #[] 0)).alloc (.cells #[] 45))) := by
    show SSt _ _ _ _ _ _ _ _
    refine ⟨by repeat (first | exact World.Ext.refl _ | exact ⟨_, rfl⟩ | assumption | refine World.Ext.over ?_ _ | refine World.Ext.drewN ?_ _ | refine World.Ext.drew ?_ | refine World.Ext.alloc ?_ _ | refine World.Ext.setCell ?_ (by simp) _), ((MapS.new w Try.prog 45 w.heap.size rfl).congr fun p => by simp [mapG]).ext ((World.Ext.refl _).alloc _), ?_, RowOf.nil _ _, (fun b o e => by cases e), Nat.le_refl _⟩
    exact World.ownsQ_new (base := w.heap.size) (w.alloc (.map #[] 0)) 45 2 (w.heap.size + 1) (by simp) (by simp)
  have hmm := @run_makeMap Try.prog
  go_enter Try.func192, Try.ntmps192
  go_wp2
  clear hmm
  go_loopw [8, 17] (fun v i wr => ∃ (k : Nat) (ds : List (Int × Int)), k ≤ S.length ∧ i = .int .i64 k ∧ Hid (Bfs0 R N S k ds) ∧ Hid (SSt w w.heap.size none [] ds 0 v wr)) (fun _ i _ => S.length - (intOf i).toNat)
  case atStart => exact ⟨0, [], Nat.zero_le _, rfl, Bfs0.init, HS0⟩
  case round =>
    obtain ⟨k, ds, hk, rfl, HB, HR⟩ := hrel
    clear HS0
    obtain ⟨w4, rfl⟩ : ∃ w4 : World, w4 = wr := ⟨_, rfl⟩
    by_cases hltk : k < S.length
    · have hltk' : (k : Int) < (S.length : Int) := by omega
      obtain ⟨b, o, rfl, c0, c1⟩ := HS.out.at hltk
      have hsb := HSB.out _ (getD_mem hltk)
      replace c0 := HR.out.x.cell c0
      replace c1 := HR.out.x.cell c1
      have HNO := Lib.hid (fun hr => HB.out.no (k := k) hr)
      have HYES := Lib.hid (fun hr hm => HB.out.yes (k := k) hltk hr hm)
      generalize S.getD k (0, 0) = s at c0 c1 hsb HNO HYES
      obtain ⟨x, y⟩ := s
      dsimp only at c0 c1 hsb
      go_wp2_with fail
      obtain ⟨w5, hw5⟩ : ∃ w5, w5 = w4.alloc (.cells #[.int .i64 x, .int .i64 y] 45) := ⟨_, rfl⟩
      rw [← hw5]
      have hx5 : w4.Ext w5 := by rw [hw5]; repeat (first | exact World.Ext.refl _ | exact ⟨_, rfl⟩ | assumption | refine World.Ext.over ?_ _ | refine World.Ext.drewN ?_ _ | refine World.Ext.drew ?_ | refine World.Ext.alloc ?_ _ | refine World.Ext.setCell ?_ (by simp) _)
      have d0 : w5.cell? ⟨w4.heap.size, 0, none⟩ = some (.int .i64 x) := by rw [hw5]; simp [go_sem]
      have d1 : w5.cell? ⟨w4.heap.size, 1, none⟩ = some (.int .i64 y) := by rw [hw5]; simp [go_sem]
      have hbm : w.heap.size < w4.heap.size := HR.out.map.lt
      clear hw5 c0 c1
      refine (HF.out w5 (HR.out.x.trans hx5) x y (by omega) (by omega)).mono ?_
      rintro e w6 ⟨rfl, hx6⟩
      have HR6 := Lib.hid (HR.out.ext (hx5.trans hx6))
      have e0 := hx6.cell d0
      have e1 := hx6.cell d1
      have hb4 : w4.heap.size < w6.heap.size := World.block_lt_of_cell? _ _ e0
      have hlook := HR6.out.look (x := x) (y := y) (by omega) (by omega)
      clear hx5 hx6 d0 d1 HR
      cases hb : R (x, y)
      · have HB2 := Lib.hid (HNO.out (.inl hb))
        clear HB HNO HYES hb hlook
        go_wp2
        go_roundw
        case rel => exact ⟨k + 1, ds, by omega, by go_num, HB2, HR6⟩
        case measure => simp [intOf]; omega
      · by_cases hin : (x, y) ∈ ds
        · have HB2 := Lib.hid (HNO.out (.inr hin))
          rw [decide_eq_true hin] at hlook
          clear HB HNO HYES hb hin
          go_wp2
          go_roundw
          case rel => exact ⟨k + 1, ds, by omega, by go_num, HB2, HR6⟩
          case measure => simp [intOf]; omega
        · have HB2 := Lib.hid (HYES.out hb hin)
          rw [decide_eq_false hin] at hlook
          have HFW : Hid (ds.length ≤ 8000) := Nat.le_trans (HB.out.few L HLI.out) HLN.out
          have HLM : Hid (ds.length < maxLen) := by show _ < _; have := HFW.out; unfold maxLen; omega
          have HB1 : Hid (ds.length - 0 + 1 ≤ maxLen) := by show _ ≤ _; have := HFW.out; unfold maxLen; omega
          have HB3 : Hid ((ds.length - 0 + 1) * 16 ≤ 140737488355328) := by show _ ≤ _; have := HFW.out; omega
          have HKEY := Lib.hid (spotKeyOf (p := (x, y)) (spotWf (by omega) (by omega)))
          have HLL : Hid (∀ p v, mapG ds p = some v → p ∈ ds) := fun p v h => (mapG_in p).1 ⟨v, h⟩
          have HN7 : Hid (∀ w7, MapS w7 Try.prog 45 w.heap.size (fun q => if q = (x, y) then some (.bool true) else mapG ds q) → w6.grownBy w7 (some w.heap.size) →
              w7.cell? ⟨w4.heap.size, 0, none⟩ = some (.int .i64 x) ∧ w7.cell? ⟨w4.heap.size, 1, none⟩ = some (.int .i64 y) ∧ w7.ownsQ w.heap.size 45 2 u8 (ds.length - 0) ((flatP (ds.drop 0)).map (Value.int .i64)) ∧ (∀ o : Obj, w.heap.size ≤ (w7.alloc o).heap.size) ∧
              Hid (∀ (o : Obj) (v' : Value) (w8 : World), (w7.alloc o).grownBy w8 u8.ownBlock → w8.ownsQ w.heap.size 45 2 v' (ds.length - 0 + 1) ((flatP (ds.drop 0)).map (Value.int .i64) ++ [.int .i64 x, .int .i64 y]) → (v'.ownBlock = u8.ownBlock ∨ v'.ownBlock = some (w7.alloc o).heap.size) → Hid (SSt w w.heap.size none [] (ds ++ [(x, y)]) 0 v' w8))) := fun w7 hm7 hg7 => by
            have hk : w7.heap[w4.heap.size]? = w6.heap[w4.heap.size]? := hg7.block _ hb4 (by simp; omega)
            have := hg7.size
            refine ⟨?_, ?_, HR6.out.put hg7, fun o => by simp; omega, fun o v' w8 hgrow hq hat => HR6.out.push (Nat.zero_le _) hm7 hg7 hq hgrow hat⟩
            · rw [World.cell?_of_block (a := ⟨w4.heap.size, 0, none⟩) hk]; exact e0
            · rw [World.cell?_of_block (a := ⟨w4.heap.size, 1, none⟩) hk]; exact e1
          have HMAP := Lib.hid HR6.out.map
          clear HB HNO HYES hb hin HR6
          go_wp2_with (first
            | (at_mapUpdate; refine wpList_mapUpdate_S _ rfl _ _ _ 229 rfl 45 4 Try.spotKey boolMap w.heap.size (mapG ds) rfl HMAP.out ds HLL.out HLM.out (x, y) _ (.bool true) rfl rfl HKEY.out (fun w7 hm7 hg7 => ?_); clear e0 e1 hlook; obtain ⟨e0, e1, hown, HLE, HN8⟩ := HN7.out w7 hm7 hg7; clear hm7 hg7)
            | (at_builtin; refine wpList_append_Q _ rfl _ _ 42 rfl w.heap.size 45 i0 (.agg #[.int .i64 0, .int .i64 0]) 2 16 Try.underlying42 hi hz0 hz1 hz2 rfl _ _ _ rfl (hown.ext ((World.Ext.refl _).alloc _)) ⟨w7.heap.size, 0, none⟩ 1 1 [.int .i64 x, .int .i64 y] rfl rfl (cell_two_at (by simp)) (by simp [Value.oneCell']) HB1.out HB3.out (HLE _) (fun v' w8 hown' hgrow hat => ?_); have HR8 := HN8.out _ _ _ hgrow hown' hat; clear hgrow hown' hown hat e0 e1))
          go_roundw
          case rel => exact ⟨k + 1, _, by omega, by go_num, HB2, HR8⟩
          case measure => simp [intOf]; omega
    · have : k = S.length := by omega
      subst this
      have HB0 := Lib.hid HB.out.done
      clear HB
      go_wp2
      go_loopw [8] (fun v wr => ∃ (i : Nat) (ds : List (Int × Int)), Hid (Bfs R N S i ds) ∧ Hid (SSt w w.heap.size none [] ds i v wr)) (fun v wr => 8001 - (mapLen wr w.heap.size - sliceLen v))
      case atStart => exact ⟨0, ds, HB0, HR⟩
      case round =>
        clear HR HB0
        obtain ⟨i, ds, HB, HR⟩ := hrel
        obtain ⟨w4, rfl⟩ : ∃ w4 : World, w4 = wr := ⟨_, rfl⟩
        have HCNT : Hid (mapLen w4 w.heap.size = ds.length) := HR.out.map.count ds HB.out.nodup mapG_in
        obtain ⟨g8, o8, c8, e8, hn8, hc8⟩ := HR.out.q.form
        subst e8
        by_cases hlti : i < ds.length
        · have hpos : (0 : Int) < ((ds.length - i : Nat) : Int) := by omega
          have hpos2 : 0 < ds.length - i := by omega
          have hdr : ds.drop i = ds.getD i (0, 0) :: ds.drop (i + 1) := by
            rw [List.getD_eq_getElem?_getD, List.getElem?_eq_getElem hlti]
            exact List.drop_eq_getElem_cons hlti
          have c0 := HR.out.q.cells 0 (.int .i64 (ds.getD i (0, 0)).1) (by rw [hdr]; rfl)
          have c1 := HR.out.q.cells 1 (.int .i64 (ds.getD i (0, 0)).2) (by rw [hdr]; rfl)
          rw [Nat.add_zero] at c0
          have hpb := HLB.out _ (HB.out.snd _ (getD_mem hlti)).right
          have HIN := Lib.hid (HB.out.enter hlti)
          generalize ds.getD i (0, 0) = p at c0 c1 hpb HIN
          obtain ⟨x, y⟩ := p
          dsimp only at c0 c1 hpb
          clear HB hdr
          go_wp2_with fail
          go_region_with (go_at_call 107; refine (HAR.out _ x y ?_ ?_).mono ?_; omega; omega; rintro e w6 ⟨a51, c51, rfl, hx6, ho6⟩)
          all_goals go_wp2_with fail
          all_goals dsimp only [List.getElem_toArray, List.getElem_cons_succ, List.getElem_cons_zero]
          all_goals simp only [Act.put, List.setIfInBounds_toArray, List.set_cons_succ, List.set_cons_zero]
          all_goals
            have HR6 : Hid (SSt w w.heap.size a51 (N (x, y)) ds i (.slice (some ⟨g8, o8, none⟩) (ds.length - i) c8) w6) := by
              have hx46 : w4.Ext w6 := ((World.Ext.refl w4).drew).trans hx6
              have h := HR.out.ext hx46
              refine ⟨h.x, h.map, h.q, ho6.row, fun b o e => ?_, h.lo⟩
              have hk := HR.out.map.lt
              have hq := HR.out.q.lt
              by_cases h0 : (N (x, y)).length = 0
              · exact absurd h0 (by have := HNP.out (x, y); omega)
              · obtain ⟨b', o', e1, l1, l2, -⟩ := ho6 0 (by rw [flatP_len]; omega)
                rw [e] at e1
                simp only [Option.some.injEq, Addr.mk.injEq] at e1
                obtain ⟨rfl, -⟩ := e1
                have l1' : w4.heap.size ≤ b := l1
                refine ⟨l2, by omega, fun e2 => ?_⟩
                have := (hq _ e2).2
                omega
            clear HR hx6 ho6 c0 c1
            go_loopw [8, 53] (fun v m wr => ∃ (j : Nat) (es : List (Int × Int)), j ≤ (N (x, y)).length ∧ m = .int .i64 j ∧ Hid (BfsIn R N S i j (x, y) es) ∧ Hid (SSt w w.heap.size a51 (N (x, y)) es i v wr)) (fun _ m _ => (N (x, y)).length - (intOf m).toNat)
            case atStart => exact ⟨0, ds, Nat.zero_le _, rfl, HIN, HR6⟩
            case round =>
              clear HR6 HIN
              obtain ⟨j, es, hj, rfl, HB, HR⟩ := hrel
              obtain ⟨w7, rfl⟩ : ∃ w7 : World, w7 = wr := ⟨_, rfl⟩
              have hlei : i < es.length := HB.out.lt
              by_cases hltj : j < (N (x, y)).length
              · have hltj' : (j : Int) < ((N (x, y)).length : Int) := by omega
                have hj8 : j < 8 := by have := HNL.out (x, y); omega
                obtain ⟨b, o, rfl, c0, c1⟩ := HR.out.row.at hltj
                have hnb := HNB.out _ _ (getD_mem hltj)
                have HNO := Lib.hid (fun hr => HB.out.no hr)
                have HYES := Lib.hid (fun hr hm => HB.out.yes hltj hr hm)
                have HFW : Hid (es.length ≤ 8000) := Nat.le_trans (HB.out.b.few L HLI.out) HLN.out
                generalize (N (x, y)).getD j (0, 0) = s at c0 c1 hnb HNO HYES
                obtain ⟨x2, y2⟩ := s
                dsimp only at c0 c1 hnb
                clear HB
                go_wp2_with fail
                obtain ⟨w8, hw8⟩ : ∃ w8, w8 = w7.alloc (.cells #[.int .i64 x2, .int .i64 y2] 45) := ⟨_, rfl⟩
                rw [← hw8]
                have hx8 : w7.Ext w8 := by rw [hw8]; repeat (first | exact World.Ext.refl _ | exact ⟨_, rfl⟩ | assumption | refine World.Ext.over ?_ _ | refine World.Ext.drewN ?_ _ | refine World.Ext.drew ?_ | refine World.Ext.alloc ?_ _ | refine World.Ext.setCell ?_ (by simp) _)
                have d0 : w8.cell? ⟨w7.heap.size, 0, none⟩ = some (.int .i64 x2) := by rw [hw8]; simp [go_sem]
                have d1 : w8.cell? ⟨w7.heap.size, 1, none⟩ = some (.int .i64 y2) := by rw [hw8]; simp [go_sem]
                have hbm : w.heap.size < w7.heap.size := HR.out.map.lt
                clear hw8 c0 c1
                refine (HF.out w8 (HR.out.x.trans hx8) x2 y2 (by omega) (by omega)).mono ?_
                rintro e w9 ⟨rfl, hx9⟩
                have HR9 := Lib.hid (HR.out.ext (hx8.trans hx9))
                have e0 := hx9.cell d0
                have e1 := hx9.cell d1
                have hb4 : w7.heap.size < w9.heap.size := World.block_lt_of_cell? _ _ e0
                have hlook := HR9.out.look (x := x2) (y := y2) (by omega) (by omega)
                clear hx8 hx9 d0 d1 HR
                cases hb : R (x2, y2)
                · have HB2 := Lib.hid (HNO.out (.inl hb))
                  clear HNO HYES hb hlook
                  go_wp2
                  go_roundw
                  case rel => exact ⟨j + 1, es, by omega, by go_num, HB2, HR9⟩
                  case measure => simp [intOf]; omega
                · by_cases hin : (x2, y2) ∈ es
                  · have HB2 := Lib.hid (HNO.out (.inr hin))
                    rw [decide_eq_true hin] at hlook
                    clear HNO HYES hb hin
                    go_wp2
                    go_roundw
                    case rel => exact ⟨j + 1, es, by omega, by go_num, HB2, HR9⟩
                    case measure => simp [intOf]; omega
                  · have HB2 := Lib.hid (HYES.out hb hin)
                    rw [decide_eq_false hin] at hlook
                    have HLM : Hid (es.length < maxLen) := by show _ < _; have := HFW.out; unfold maxLen; omega
                    have HB1 : Hid (es.length - i + 1 ≤ maxLen) := by show _ ≤ _; have := HFW.out; unfold maxLen; omega
                    have HB3 : Hid ((es.length - i + 1) * 16 ≤ 140737488355328) := by show _ ≤ _; have := HFW.out; omega
                    have HKEY := Lib.hid (spotKeyOf (p := (x2, y2)) (spotWf (by omega) (by omega)))
                    have HLL : Hid (∀ p v, mapG es p = some v → p ∈ es) := fun p v h => (mapG_in p).1 ⟨v, h⟩
                    have HN7 : Hid (∀ w7', MapS w7' Try.prog 45 w.heap.size (fun q => if q = (x2, y2) then some (.bool true) else mapG es q) → w9.grownBy w7' (some w.heap.size) →
                        w7'.cell? ⟨w7.heap.size, 0, none⟩ = some (.int .i64 x2) ∧ w7'.cell? ⟨w7.heap.size, 1, none⟩ = some (.int .i64 y2) ∧ w7'.ownsQ w.heap.size 45 2 u8 (es.length - i) ((flatP (es.drop i)).map (Value.int .i64)) ∧ (∀ o : Obj, w.heap.size ≤ (w7'.alloc o).heap.size) ∧
                        Hid (∀ (o' : Obj) (v' : Value) (w8 : World), (w7'.alloc o').grownBy w8 u8.ownBlock → w8.ownsQ w.heap.size 45 2 v' (es.length - i + 1) ((flatP (es.drop i)).map (Value.int .i64) ++ [.int .i64 x2, .int .i64 y2]) → (v'.ownBlock = u8.ownBlock ∨ v'.ownBlock = some (w7'.alloc o').heap.size) → Hid (SSt w w.heap.size (some ⟨b, o, none⟩) (N (x, y)) (es ++ [(x2, y2)]) i v' w8))) := fun w7' hm7 hg7 => by
                      have hk : w7'.heap[w7.heap.size]? = w9.heap[w7.heap.size]? := hg7.block _ hb4 (by simp; omega)
                      have := hg7.size
                      refine ⟨?_, ?_, HR9.out.put hg7, fun o => by simp; omega, fun o' v' w8 hgrow hq hat => HR9.out.push (Nat.le_of_lt hlei) hm7 hg7 hq hgrow hat⟩
                      · rw [World.cell?_of_block (a := ⟨w7.heap.size, 0, none⟩) hk]; exact e0
                      · rw [World.cell?_of_block (a := ⟨w7.heap.size, 1, none⟩) hk]; exact e1
                    have HMAP := Lib.hid HR9.out.map
                    clear HNO HYES hb hin HR9 HFW
                    go_wp2_with (first
                      | (at_mapUpdate; refine wpList_mapUpdate_S _ rfl _ _ _ 229 rfl 45 4 Try.spotKey boolMap w.heap.size (mapG es) rfl HMAP.out es HLL.out HLM.out (x2, y2) _ (.bool true) rfl rfl HKEY.out (fun w7' hm7 hg7 => ?_); clear e0 e1 hlook; obtain ⟨e0, e1, hown, HLE, HN8⟩ := HN7.out w7' hm7 hg7; clear hm7 hg7)
                      | (at_builtin; refine wpList_append_Q _ rfl _ _ 42 rfl w.heap.size 45 i0 (.agg #[.int .i64 0, .int .i64 0]) 2 16 Try.underlying42 hi hz0 hz1 hz2 rfl _ _ _ rfl (hown.ext ((World.Ext.refl _).alloc _)) ⟨w7'.heap.size, 0, none⟩ 1 1 [.int .i64 x2, .int .i64 y2] rfl rfl (cell_two_at (by simp)) (by simp [Value.oneCell']) HB1.out HB3.out (HLE _) (fun v' w8' hown' hgrow hat => ?_); have HR8 := HN8.out _ _ _ hgrow hown' hat; clear hgrow hown' hown hat e0 e1))
                    go_roundw
                    case rel => exact ⟨j + 1, _, by omega, by go_num, HB2, HR8⟩
                    case measure => simp [intOf]; omega
              · have : j = (N (x, y)).length := by omega
                subst this
                have HB2 := Lib.hid HB.out.leave
                clear HB
                have hq := HR.out.q
                rw [show es.length - i = es.length - (i + 1) + 1 by omega] at hq
                obtain ⟨v8, hrun, hq8, hat8⟩ := run_tail_Q (P := Try.prog) w7 Try.underlying42 hi hz1 hq
                have HR8 := Lib.hid (HR.out.tail hlei hq8 hat8)
                clear hq hq8 hat8
                have HM7 : Hid (mapLen w7 w.heap.size = es.length) := HR.out.map.count es HB2.out.nodup mapG_in
                have HFW : Hid (es.length ≤ 8000) := Nat.le_trans (HB2.out.few L HLI.out) HLN.out
                have HSL : Hid (sliceLen v8 = es.length - (i + 1)) := by
                  obtain ⟨g, o, cap, e1, -, -⟩ := HR8.out.q.form
                  rw [e1]
                  rfl
                clear HR
                go_wp2
                go_roundw
                case rel => exact ⟨i + 1, es, HB2, HR8⟩
                case measure => have h1 := HM7.out; have h2 := HSL.out; have h3 := HFW.out; have h4 := HCNT.out; unfold sliceLen at h2; simp only [h1, h4, sliceLen]; omega
        · have : i = ds.length := by have := HB.out.le; omega
          subst this
          have hz8 : ¬ (0 : Int) < ((ds.length - ds.length : Nat) : Int) := by omega
          have HX := Lib.hid HR.out.x
          have HM := Lib.hid HR.out.map
          have HD := Lib.hid HB.out.nodup
          have HA := Lib.hid HB.out.all
          clear HB HR
          go_wp2
          exact bodyPost_ret (v := .map (some w.heap.size)) (by simp [results, Try.results192, go_sem]) rfl ⟨w.heap.size, ds, rfl, HX.out, Nat.le_refl _, HM.out, HD.out, HA.out⟩
end Go.Proofs.Ythgkmaccbcpaeaa
