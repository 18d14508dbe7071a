/- What is reached: the reference's search. -/
import Derived.Test.YtmmanehdmnkekaaArnd
import Derived.Maps.AppendAt
import Derived.Deep.RegionWith
namespace Go
open Go.RowKit
theorem RowOf.keep {α : Type} {f : α → Value} {d : α} {w w' : World} {a : Option Addr} {xs : List α} (h : RowOf f d w a xs) (hk : ∀ b o, a = some ⟨b, o, none⟩ → w'.heap[b]? = w.heap[b]?) : RowOf f d w' a xs := fun i hi =>
  let ⟨b, o, h1, h2⟩ := h i hi
  ⟨b, o, h1, by rw [World.cell?_of_block (a := ⟨b, o + i, none⟩) (hk b o h1)]; exact h2⟩
end Go
namespace Go.Proofs.Ytmmanehdmnkekaa
open Go.RowKit
def pxP (W H : Nat) (l : List Bool) (p : Int × Int) : Bool := pxl W H l p.1 p.2
theorem pxP_nat {W H : Nat} {l : List Bool} {p : Int × Int} (h : pxP W H l p = true) : ∃ x y : Nat, p = ((x : Int), (y : Int)) ∧ x < W ∧ y < H := by
  have hb : hasB W H p.1 p.2 = true := by
    cases hd : hasB W H p.1 p.2
    · rw [pxP, pxl_out hd] at h; cases h
    · rfl
  obtain ⟨h1, h2, h3, h4⟩ := hasB_true.1 hb
  exact ⟨p.1.toNat, p.2.toNat, Prod.ext (by simp; omega) (by simp; omega), by omega, by omega⟩
theorem pxP_box {W H : Nat} {l : List Bool} {p : Int × Int} (h : pxP W H l p = true) : p ∈ boxL 0 0 W H := by
  obtain ⟨x, y, rfl, h1, h2⟩ := pxP_nat h
  exact boxL_mem (by simp) (by simp; omega) (by simp) (by simp; omega)
theorem Try.infoBoolR : (Try.prog.info? 4).map (fun i => (i.zero, i.size, i.bytes)) = some (some (.bool false), 1, 1) := by kernel_rfl
/-- The search under way: the picture of what is entered, the list of it; a row that stands. -/
structure RSt (w : World) (p6 ab W H : Nat) (a11 : Option Addr) (ks : List (Int × Int)) (ds : List (Int × Int)) (v : Value) (wr : World) : Prop where
  x : w.Ext wr
  one : One wr p6 38 (.slice none 0 0)
  seen : BlkOf Value.bool wr ab 4 (mkl W H (inL ds))
  q : GrowP w.heap.size 58 wr v ds
  row : RowP wr a11 ks
  ap : ∀ b o, a11 = some ⟨b, o, none⟩ → b < wr.heap.size ∧ b ≠ ab ∧ v.ownBlock ≠ some b
  lo : w.heap.size ≤ ab ∧ w.heap.size ≤ p6
section
variable {w : World} {p6 ab W H : Nat} {a11 : Option Addr} {ks ds : List (Int × Int)} {v : Value} {wr : World}
theorem RSt.ext {w' : World} (h : RSt w p6 ab W H a11 ks ds v wr) (hx : wr.Ext w') : RSt w p6 ab W H a11 ks ds v w' :=
  ⟨h.x.trans hx, h.one.ext hx, h.seen.ext hx, h.q.ext hx, h.row.ext hx, fun b o e => ⟨Nat.lt_of_lt_of_le (h.ap b o e).1 hx.size, (h.ap b o e).2⟩, h.lo⟩
theorem RSt.push (h : RSt w p6 ab W H a11 ks ds v wr) {X Y k : Nat} (hX : X < W) (hY : Y < H) (hk : k = Y * W + X) {o : Obj} {v' : Value} {w1 : World} (hgrow : ((wr.setCell ⟨ab, k, none⟩ (.bool true)).alloc o).grownBy w1 v.ownBlock)
    (hown : w1.ownsRow w.heap.size 58 2 v' (ds.length + 1) ((flatP ds).map (Value.int .i64) ++ [.int .i64 X, .int .i64 Y]))
    (hat : v'.ownBlock = v.ownBlock ∨ v'.ownBlock = some ((wr.setCell ⟨ab, k, none⟩ (.bool true)).alloc o).heap.size) : RSt w p6 ab W H a11 ks (ds ++ [((X : Int), (Y : Int))]) v' w1 := by
  have hB : wr.heap[ab]? = some _ := h.seen
  have hO : wr.heap[p6]? = some _ := h.one
  have hne : p6 ≠ ab := by
    rintro rfl
    rw [hB] at hO
    simp at hO
  have nab : some ab ≠ v.ownBlock := World.ownsRow.ne h.q hB (by decide)
  have np6 : some p6 ≠ v.ownBlock := World.ownsRow.ne h.q hO (by decide)
  have hx1 : w.Ext ((wr.setCell ⟨ab, k, none⟩ (.bool true)).alloc o) := (h.x.setCell (p := ⟨ab, k, none⟩) h.lo.1 _).alloc o
  have hsz : ((wr.setCell ⟨ab, k, none⟩ (.bool true)).alloc o).heap.size = wr.heap.size + 1 := by simp
  have one1 := ((h.one.other (a := ⟨ab, k, none⟩) (Ne.symm hne) (.bool true)).ext ((World.Ext.refl _).alloc o)).grown hgrow np6
  have seen1 := (h.seen.set k true).ext ((World.Ext.refl _).alloc o)
  have seen2 := seen1.keep (hgrow.block ab seen1.lt nab)
  rw [hk, mkl_enter hX hY] at seen2
  refine ⟨hx1.grown hgrow fun _ hb => (World.ownsRow.lt h.q _ hb).1, one1, seen2, GrowP.push hown, h.row.keep fun b o' e => ?_, fun b o' e => ⟨?_, (h.ap b o' e).2.1, ?_⟩, h.lo⟩
  · obtain ⟨q1, q2, q3⟩ := h.ap b o' e
    rw [hgrow.block b (by rw [hsz]; omega) (Ne.symm q3), (MapKept.heap_alloc _ o).2 b (by simpa using q1), Below.heap_setCell _ _ _ _ q2]
  · have := hgrow.size
    have := (h.ap b o' e).1
    omega
  · obtain ⟨q1, q2, q3⟩ := h.ap b o' e
    rcases hat with e1 | e1
    · rw [e1]; exact q3
    · rw [e1, hsz]
      intro e2
      simp only [Option.some.injEq] at e2
      omega
end
theorem sameNat {x y W : Nat} : ((y : Int) * (W : Int) + (x : Int)).toNat = y * W + x := by
  have : ((y : Int) * (W : Int) + (x : Int)) = ((y * W + x : Nat) : Int) := by rw [Int.natCast_add, Int.natCast_mul]
  rw [this]
  rfl
set_option maxRecDepth 5000 in
set_option maxHeartbeats 3200000 in
theorem l03Reach_any (p : Nat) (a : Option Addr) (c : Nat) (ss : List ByteArray) (sa : Option Addr) (sc : Nat) (S : List (Int × Int)) (eight : Bool) (w : World) (he : Even ss) (hW1 : 1 ≤ picW ss) (hW : picW ss ≤ 64) (hH : ss.length ≤ 64)
    (hp : w.cell? ⟨p, 0, none⟩ = some (.slice a ss.length c)) (hm : RowS w a ss) (hS : RowP w sa S) (hSn : S.length ≤ 100000) (hSb : ∀ q, q ∈ S → -1000 ≤ q.1 ∧ q.1 ≤ 1000 ∧ -1000 ≤ q.2 ∧ q.2 ≤ 1000)
    (g : Nat → Nat → Bool) (hg : ∀ x y : Nat, x < picW ss → y < ss.length → (g x y = true ↔ Rch (pxP (picW ss) ss.length (picL ss)) (nbS eight) S ((x : Int), (y : Int)))) :
    Calls Try.prog 259 #[.pointer (some ⟨p, 0, none⟩), .slice sa S.length sc, .bool eight] w (PicVal w (picRows (picW ss) ss.length (mkl (picW ss) ss.length g))) := by
  obtain ⟨ib, hib, hb0, hb1, hb2⟩ := info_parts Try.infoBoolR
  obtain ⟨i0, hi, hz0, hz1, hz2⟩ := info_parts Try.infoSpotA
  have HWS : Hid (∀ w', w.Ext w' → Calls Try.prog 212 #[.pointer (some ⟨p, 0, none⟩)] w' fun e w'' => e = .returned (.int .i64 (picW ss)) ∧ w'.Ext w'') := fun w' hx => l01Width_any p a c ss w' he.1 (by omega) (by omega) (hx.cell hp) (RowOf.ext hm hx)
  have HHS : Hid (∀ w', w.Ext w' → Calls Try.prog 211 #[.pointer (some ⟨p, 0, none⟩)] w' fun e w'' => e = .returned (.int .i64 ss.length) ∧ w'.Ext w'') := fun w' hx => l01Height_any p a c ss.length w' (by omega) (hx.cell hp)
  have HBL : Hid (∀ w', w.Ext w' → ∀ (x y : Int) (t : Bool), pxP (picW ss) ss.length (picL ss) (x, y) = t → Calls Try.prog 194 #[.pointer (some ⟨p, 0, none⟩), .int .i64 x, .int .i64 y] w' fun e w'' => e = .returned (.bool t) ∧ w'.Ext w'') := fun w' hx x y t ht => l01Black_any p a c ss x y w' he (by omega) (by omega) (hx.cell hp) (RowOf.ext hm hx) t ht
  have HST : Hid (∀ w', Calls Try.prog 274 #[.bool eight] w' (PairsRet w' (stepL eight))) := fun w' => l03Steps_any eight w'
  have HNAT : Hid (∀ q, pxP (picW ss) ss.length (picL ss) q = true → ∃ x y : Nat, q = ((x : Int), (y : Int)) ∧ x < picW ss ∧ y < ss.length) := fun q => pxP_nat
  have HBOX : Hid (∀ q, pxP (picW ss) ss.length (picL ss) q = true → q ∈ boxL 0 0 (picW ss) ss.length) := fun q => pxP_box
  have HG := Lib.hid hg
  have HS := Lib.hid hS
  have HSB := Lib.hid hSb
  clear hm he hp hg hS hSb
  generalize pxP (picW ss) ss.length (picL ss) = R at *
  generalize picW ss = W at *
  generalize ss.length = H at *
  have hm : W * H ≤ 4096 := Nat.mul_le_mul hW hH
  have C1 : Hid (ib.bytes * (W * H) ≤ 281474976710656) := by show _ ≤ _; rw [hb2]; omega
  have C2 : Hid (W * H ≤ maxLen) := by show _ ≤ _; unfold maxLen; omega
  have hmi : (W : Int) * (H : Int) = ((W * H : Nat) : Int) := by rw [Int.natCast_mul]
  have hmb : (W : Int) * (H : Int) ≤ 4096 := by rw [hmi]; omega
  have hmb0 : 0 ≤ (W : Int) * (H : Int) := by rw [hmi]; omega
  have HMI := Lib.hid hmi
  have HM := Lib.hid hm
  clear hmi hm
  obtain ⟨W0, hW0⟩ : ∃ W0, W0 = w.alloc (.cells #[.slice none 0 0] 38) := ⟨_, rfl⟩
  have HX0 : Hid (w.Ext W0) := by show World.Ext _ _; rw [hW0]; repeat (first | exact World.Ext.refl _ | exact ⟨_, rfl⟩ | assumption | refine World.Ext.over ?_ _ | refine World.Ext.drewN ?_ _ | refine World.Ext.drew ?_ | refine World.Ext.alloc ?_ _ | refine World.Ext.setCell ?_ (by simp) _)
  have HONE : Hid (One W0 w.heap.size 38 (.slice none 0 0)) := by rw [hW0]; exact One.new w _ _ _ rfl
  go_enter Try.func259, Try.ntmps259
  go_wp2_with fail
  rw [← hW0]
  refine (HWS.out _ HX0.out).mono ?_
  rintro e w1 ⟨rfl, hx1⟩
  go_wp2_with fail
  refine (HHS.out _ (HX0.out.trans hx1)).mono ?_
  rintro e w2 ⟨rfl, hx2⟩
  have HX2 := Lib.hid (HX0.out.trans (hx1.trans hx2))
  have HO2 := Lib.hid (HONE.out.ext (hx1.trans hx2))
  clear hx1 hx2 HX0 HONE hW0
  go_wp2_with (at_make; refine wpList_make_full _ rfl _ _ 124 rfl 0 4 ib (.bool false) 1 Try.underlying124 hib hb0 hb1 .i64 .i64 _ _ (W * H) rfl rfl HMI.out HMI.out C1.out C2.out (Nat.zero_le _) (fun w3 hown hgrow => ?_))
  have hB3 : BlkOf Value.bool w3 w2.heap.size 4 (mkl W H (inL [])) := by
    have h := blk_of_made (f := Value.bool) false rfl hown
    rw [show inL [] = fun _ _ => false from by funext x y; simp [inL], mkl_false, Nat.mul_comm]
    exact h
  have hx3 : w2.Ext w3 := World.Ext.made hgrow
  have hx3s := hx3.size
  have h2s := HX2.out.size
  have HR0 : Hid (RSt w w.heap.size w2.heap.size W H none [] [] (.slice (some ⟨w3.heap.size, 0, none⟩) 0 0) (w3.alloc (.cells #[] 58))) :=
    ⟨(HX2.out.trans hx3).alloc _, (HO2.out.ext hx3).ext ((World.Ext.refl _).alloc _), hB3.ext ((World.Ext.refl _).alloc _), GrowP.empty (e := 58) w3 (by omega), RowOf.nil _ _, (fun b o h => by cases h), h2s, Nat.le_refl _⟩
  have HAB : Hid (w.heap.size ≤ w2.heap.size) := h2s
  clear hown hgrow hB3 hx3 hx3s h2s HX2 HO2
  generalize w2.heap.size = ab at *
  have HMB : Hid ((boxL 0 0 W H).length ≤ 4096) := by show _ ≤ _; rw [boxL_len, Nat.mul_comm]; exact HM.out
  have HIDX : Hid (∀ X Y : Nat, X < W → Y < H → Y * W + X < W * H ∧ (Y : Int) * (W : Int) + (X : Int) < ((W * H : Nat) : Int) ∧ 0 ≤ (Y : Int) * (W : Int) ∧ (Y : Int) * (W : Int) ≤ 4096) := fun X Y hX hY => by
    have h := Nat.mul_le_mul_right W (show Y + 1 ≤ H by omega)
    rw [Nat.add_mul, Nat.one_mul, Nat.mul_comm H W] at h
    have e : (Y : Int) * (W : Int) = ((Y * W : Nat) : Int) := by rw [Int.natCast_mul]
    rw [e]
    have := HM.out
    refine ⟨by omega, by omega, by omega, by omega⟩
  go_loopw [9, 10] (fun v i wr => ∃ (k : Nat) (ds : List (Int × Int)), k ≤ S.length ∧ i = .int .i64 k ∧ Hid (Bfs0 R (nbS eight) S k ds) ∧ Hid (RSt w w.heap.size ab W H none [] ds v wr)) (fun _ i _ => S.length - (intOf i).toNat)
  case atStart => exact ⟨0, [], Nat.zero_le _, rfl, Bfs0.init, HR0⟩
  case round =>
    obtain ⟨k, ds, hk, rfl, HB, HR⟩ := hrel
    clear HR0
    obtain ⟨w4, rfl⟩ : ∃ w4 : World, w4 = wr := ⟨_, rfl⟩
    by_cases hltk : k < S.length
    · have hltk' : (k : Int) < (S.length : Int) := by omega
      obtain ⟨b, o, rfl, c0, c1⟩ := HS.out.at hltk
      have hbl : b < w.heap.size := World.block_lt_of_cell? _ _ c0
      have HC0 : Hid (∀ w' : World, w.Ext w' → ∀ (i : Nat) (u : Value), w'.cell? ⟨b, o + k * 2, none⟩ = some (.int .i64 (S.getD k (0, 0)).1) ∧ w'.cell? ⟨b, o + k * 2 + 1, none⟩ = some (.int .i64 (S.getD k (0, 0)).2) ∧ (w'.setCell ⟨ab, i, none⟩ u).cell? ⟨b, o + k * 2, none⟩ = some (.int .i64 (S.getD k (0, 0)).1) ∧ (w'.setCell ⟨ab, i, none⟩ u).cell? ⟨b, o + k * 2 + 1, none⟩ = some (.int .i64 (S.getD k (0, 0)).2)) := fun w' hx i u => by
        have hba : b ≠ ab := by have := HAB.out; omega
        refine ⟨hx.cell c0, hx.cell c1, ?_, ?_⟩
        · rw [World.cell?_of_block (a := ⟨b, o + k * 2, none⟩) (Below.heap_setCell _ _ _ _ hba)]; exact hx.cell c0
        · rw [World.cell?_of_block (a := ⟨b, o + k * 2 + 1, none⟩) (Below.heap_setCell _ _ _ _ hba)]; exact hx.cell c1
      clear c0 c1
      have HNO := Lib.hid (fun hr => HB.out.no (k := k) hr)
      have HYES := Lib.hid (fun hr hm => HB.out.yes (k := k) hltk hr hm)
      generalize S.getD k (0, 0) = s at HC0 HNO HYES
      obtain ⟨sx, sy⟩ := s
      obtain ⟨c0, c1, -, -⟩ := HC0.out w4 HR.out.x 0 undef
      cases hb : R (sx, sy)
      · have HC : Hid (∀ x1, Calls Try.prog 194 #[.pointer (some ⟨p, 0, none⟩), .int .i64 sx, .int .i64 sy] (w4.over x1) fun e w'' => e = .returned (.bool false) ∧ (w4.over x1).Ext w'') := fun x1 => HBL.out _ (HR.out.x.trans ⟨x1, rfl⟩) sx sy _ hb
        have HB2 := Lib.hid (HNO.out (.inl hb))
        clear HB HNO HYES hb
        go_wp2_with fail
        refine wp_region_over_lit (by kernel_rfl) (by kernel_rfl) ?_; (repeat (go_big_quiet_step ((go_at_call 194; exact Calls.over_of (HC.out _))))); refine wpQuiet_nil ?_; rintro _ ⟨x1, rfl⟩
        have HR2 := Lib.hid (HR.out.ext ⟨x1, rfl⟩)
        clear HR
        generalize w4.over x1 = w5 at *
        go_wp2
        go_roundw
        case rel => exact ⟨k + 1, ds, by omega, by go_num, HB2, HR2⟩
        case measure => simp [intOf]; omega
      · obtain ⟨X, Y, hXY, hX, hY⟩ := HNAT.out _ hb
        simp only [Prod.mk.injEq] at hXY
        obtain ⟨rfl, rfl⟩ := hXY
        have HC : Hid (∀ x1, Calls Try.prog 194 #[.pointer (some ⟨p, 0, none⟩), .int .i64 X, .int .i64 Y] (w4.over x1) fun e w'' => e = .returned (.bool true) ∧ (w4.over x1).Ext w'') := fun x1 => HBL.out _ (HR.out.x.trans ⟨x1, rfl⟩) X Y _ hb
        obtain ⟨n1, n2, n3, n4⟩ := HIDX.out X Y hX hY
        have hsl : (mkl W H (inL ds)).length = W * H := by rw [mkl_len, Nat.mul_comm]
        have hcell := HR.out.seen.cell false (i := Y * W + X) (by rw [hsl]; exact n1)
        have hfree := HR.out.seen.free (Y * W + X)
        have hlt := HR.out.seen.lt
        rw [mkl_at W H _ X Y hX hY] at hcell
        have hcell2 := hcell
        have hfree2 := hfree
        rw [← sameNat] at hcell2 hfree2
        cases hin : inL ds X Y
        · have HM0 : ¬ ((X : Int), (Y : Int)) ∈ ds := by simpa [inL] using hin
          have HB2 := Lib.hid (HYES.out hb HM0)
          rw [hin] at hcell hcell2
          have HLN := Lib.hid (HB.out.few _ HBOX.out)
          have HB1 : Hid (ds.length + 1 ≤ maxLen) := by show _ ≤ _; have h1 := HLN.out; have h2 := HMB.out; unfold maxLen; omega
          have HB3 : Hid ((ds.length + 1) * 16 ≤ 140737488355328) := by show _ ≤ _; have h1 := HLN.out; have h2 := HMB.out; omega
          clear HB HNO HYES hb hin HM0 HLN hsl n1
          go_wp2_with fail
          refine wp_region_over_lit (by kernel_rfl) (by kernel_rfl) ?_; (repeat (go_big_quiet_step ((go_at_call 194; exact Calls.over_of (HC.out _))))); refine wpQuiet_nil ?_; rintro _ ⟨x1, rfl⟩
          have HR2 := Lib.hid (HR.out.ext ⟨x1, rfl⟩)
          have hx5 : w4.Ext (w4.over x1) := ⟨x1, rfl⟩
          generalize w4.over x1 = w5 at *
          clear c0 c1 hcell hcell2 hfree hfree2 hlt hx5 HR
          obtain ⟨c0, c1, -, -⟩ := HC0.out w5 HR2.out.x 0 undef
          go_wp2_with fail
          refine wp_region_over_tail 15 (by kernel_rfl) (by kernel_rfl) ?_; simp only [List.take_succ_cons, List.take_zero, List.drop_succ_cons, List.drop_zero]; (repeat (go_big_quiet_step (fail))); refine wpQuiet_nil ?_; rintro _ ⟨x1, rfl⟩
          have HR3 := Lib.hid (HR2.out.ext ⟨x1, rfl⟩)
          generalize w5.over x1 = w6 at *
          clear c0 c1 HR2
          have hcell := HR3.out.seen.cell false (i := Y * W + X) (by rw [mkl_len, Nat.mul_comm H W]; exact (HIDX.out X Y hX hY).1)
          have hfree := HR3.out.seen.free (Y * W + X)
          have hlt := HR3.out.seen.lt
          obtain ⟨-, -, c0, c1⟩ := HC0.out w6 HR3.out.x (Y * W + X) (.bool true)
          have HNEXT : Hid (∀ (o : Obj) (v' : Value) (w1 : World), ((w6.setCell ⟨ab, Y * W + X, none⟩ (.bool true)).alloc o).grownBy w1 u9.ownBlock → w1.ownsRow w.heap.size 58 2 v' (ds.length + 1) ((flatP ds).map (Value.int .i64) ++ [.int .i64 X, .int .i64 Y]) → (v'.ownBlock = u9.ownBlock ∨ v'.ownBlock = some ((w6.setCell ⟨ab, Y * W + X, none⟩ (.bool true)).alloc o).heap.size) → Hid (RSt w w.heap.size ab W H none [] (ds ++ [((X : Int), (Y : Int))]) v' w1)) :=
            fun o v' w1 hgrow hown' hat => HR3.out.push hX hY rfl hgrow hown' hat
          have hown : (w6.setCell ⟨ab, Y * W + X, none⟩ (.bool true)).ownsRow w.heap.size 58 2 u9 ds.length ((flatP ds).map (Value.int .i64)) := World.ownsRow.setCell HR3.out.q (a := ⟨ab, Y * W + X, none⟩) (World.ownsRow.ne HR3.out.q (show w6.heap[ab]? = some _ from HR3.out.seen) (by decide)) _
          have HLE : ∀ o' : Obj, w.heap.size ≤ ((w6.setCell ⟨ab, Y * W + X, none⟩ (.bool true)).alloc o').heap.size := fun o' => by have := HR3.out.x.size; simp; omega
          clear HR3
          go_wp2_with (at_builtin; refine wpList_append_own_at _ rfl _ _ 55 rfl w.heap.size 58 i0 (.agg #[.int .i64 0, .int .i64 0]) 2 16 Try.underlying55 hi hz0 hz1 hz2 rfl (by decide) _ _ _ rfl (hown.alloc _) ⟨w6.heap.size, 0, none⟩ 1 1 [.int .i64 X, .int .i64 Y] rfl rfl (cell_two_at (by simp)) (by simp [Value.oneCell']) HB1.out HB3.out (HLE _) (fun v' w7 hown' hgrow _ hat => ?_); have HR4 := HNEXT.out _ _ _ hgrow hown' hat; clear hgrow hown' hown c0 c1 hcell hfree hlt)
          go_roundw
          case rel => exact ⟨k + 1, _, by omega, by go_num, HB2, HR4⟩
          case measure => simp [intOf]; omega
        · have HM1 : ((X : Int), (Y : Int)) ∈ ds := by simpa [inL] using hin
          have HB2 := Lib.hid (HNO.out (.inr HM1))
          rw [hin] at hcell hcell2
          clear HB HNO HYES hb hin HM1 hsl n1
          go_wp2_with fail
          refine wp_region_over_lit (by kernel_rfl) (by kernel_rfl) ?_; (repeat (go_big_quiet_step ((go_at_call 194; exact Calls.over_of (HC.out _))))); refine wpQuiet_nil ?_; rintro _ ⟨x1, rfl⟩
          have HR2 := Lib.hid (HR.out.ext ⟨x1, rfl⟩)
          clear HR hcell hcell2 hfree hfree2 hlt c0 c1
          generalize w4.over x1 = w5 at *
          go_wp2
          go_roundw
          case rel => exact ⟨k + 1, ds, by omega, by go_num, HB2, HR2⟩
          case measure => simp [intOf]; omega
    · have : k = S.length := by omega
      subst this
      have HB0 := Lib.hid HB.out.done
      clear HB
      go_wp2_with fail
      refine (HST.out _).mono ?_
      rintro e w5 ⟨a11, c11, rfl, hx5, ho5⟩
      have hlen11 : 0 < (stepL eight).length := by cases eight <;> decide
      have hlen12 : (stepL eight).length ≤ 8 := by cases eight <;> decide
      have HSTP := Lib.hid (stepL_at eight)
      have HR5 : Hid (RSt w w.heap.size ab W H a11 (stepL eight) ds u9 w5) := by
        have h := HR.out.ext hx5
        refine ⟨h.x, h.one, h.seen, h.q, ho5.row, fun b o e => ?_, h.lo⟩
        obtain ⟨b', o', e1, l1, l2, -⟩ := ho5 0 (by rw [flatP_len]; omega)
        rw [e] at e1
        simp only [Option.some.injEq, Addr.mk.injEq] at e1
        obtain ⟨rfl, -⟩ := e1
        refine ⟨l2, ?_, ?_⟩
        · rintro rfl
          have := HR.out.seen.lt
          omega
        · intro e2
          have := (World.ownsRow.lt HR.out.q _ e2).2
          omega
      clear HR hx5 ho5
      have HNB : Hid (∀ p, (nbS eight p).length = (stepL eight).length) := nbS_len eight
      have HNA : Hid (∀ p j, j < (stepL eight).length → (nbS eight p).getD j (0, 0) = (p.1 + ((stepL eight).getD j (0, 0)).1, p.2 + ((stepL eight).getD j (0, 0)).2)) := fun p j hj => map_getD_sp _ _ _ hj
      generalize stepL eight = K at *
      have HMAKE : Hid (∀ (a8 : Option Addr) (w' : World), RowB w' a8 (mkl W H g) → Calls Try.prog 136 #[.int .i64 W, .slice a8 (W * H) (W * H)] w' fun e w'' => ∃ a' c', e = .returned (.agg #[.slice a' H c']) ∧ w'.Ext w'' ∧ OwnOf Value.string ByteArray.empty w'.heap.size w''.heap.size w'' a' (picRows W H (mkl W H g))) := fun a8 w' h => by
        have hl : (mkl W H g).length = W * H := by rw [mkl_len, Nat.mul_comm]
        have := l01Make_any a8 (W * H) W H (mkl W H g) w' hW1 hW hH hl h
        rw [hl] at this
        exact this
      go_wp2
      go_loopw [9, 12, 13, 14, 15] (fun v m _ _ _ wr => ∃ (i : Nat) (ds : List (Int × Int)), m = .int .i64 i ∧ Hid (Bfs R (nbS eight) S i ds) ∧ Hid (RSt w w.heap.size ab W H a11 K ds v wr)) (fun _ m _ _ _ _ => 4097 - (intOf m).toNat)
      case atStart => exact ⟨0, ds, rfl, HB0, HR5⟩
      case round =>
        clear HR5 HB0
        obtain ⟨i, es, rfl, HB, HR⟩ := hrel
        obtain ⟨w6, rfl⟩ : ∃ w6 : World, w6 = wr := ⟨_, rfl⟩
        obtain ⟨v9, hv9⟩ : ∃ v : Value, v = u9 := ⟨_, rfl⟩
        obtain ⟨a9, c9, e9, -⟩ := HR.out.q.form
        have hrow := GrowP.own (a := a9) (m := es.length) (cap := c9) (by rw [← e9]; exact HR.out.q)
        subst e9
        have HLN : Hid (es.length ≤ 4096) := Nat.le_trans (HB.out.few _ HBOX.out) HMB.out
        by_cases hlti : i < es.length
        · have hlti' : (i : Int) < (es.length : Int) := by omega
          have h4096 : i < 4096 := by have := HLN.out; omega
          obtain ⟨X, Y, hXY, hX, hY⟩ := HNAT.out _ (HB.out.snd _ (getD_mem hlti)).right
          have HIN := Lib.hid (HB.out.enter hlti)
          rw [hXY] at HIN
          clear HB hXY hrow
          have hX64 : (X : Int) ≤ 64 := by omega
          have hY64 : (Y : Int) ≤ 64 := by omega
          have hX0 : (0 : Int) ≤ (X : Int) := by omega
          have hY0 : (0 : Int) ≤ (Y : Int) := by omega
          go_wp2
          go_loopw [9, 13, 14, 15] (fun v m _ _ wr => ∃ (j : Nat) (ds : List (Int × Int)), j ≤ K.length ∧ m = .int .i64 j ∧ Hid (BfsIn R (nbS eight) S i j ((X : Int), (Y : Int)) ds) ∧ Hid (RSt w w.heap.size ab W H a11 K ds v wr)) (fun _ m _ _ _ => K.length - (intOf m).toNat)
          case atStart => exact ⟨0, es, Nat.zero_le _, rfl, HIN, HR⟩
          case round =>
            clear HR HIN HLN
            obtain ⟨j, es, hj, rfl, HB, HR⟩ := hrel
            obtain ⟨w7, rfl⟩ : ∃ w7 : World, w7 = wr := ⟨_, rfl⟩
            obtain ⟨a9, c9, e9, -⟩ := HR.out.q.form
            have hrow := GrowP.own (a := a9) (m := es.length) (cap := c9) (by rw [← e9]; exact HR.out.q)
            subst e9
            have HLN : Hid (es.length ≤ 4096) := Nat.le_trans (HB.out.b.few _ HBOX.out) HMB.out
            have hlti := HB.out.lt
            have hlti' : (i : Int) < (es.length : Int) := by omega
            obtain ⟨b9, o9, rfl, d0, d1⟩ := hrow.row.at hlti
            rw [HB.out.at_] at d0 d1
            by_cases hltj : j < K.length
            · have hltj' : (j : Int) < (K.length : Int) := by omega
              obtain ⟨b11, o11, rfl, f0, f1⟩ := HR.out.row.at hltj
              have HQ := HNA.out ((X : Int), (Y : Int)) j hltj
              have hdb := HSTP.out _ (getD_mem hltj)
              generalize K.getD j (0, 0) = d at f0 f1 HQ hdb
              obtain ⟨dx, dy⟩ := d
              obtain ⟨g1, g2, g3, g4⟩ := hdb
              dsimp only at f0 f1 HQ g1 g2 g3 g4
              have HD : Hid (∀ w' : World, w7.Ext w' → w'.cell? ⟨b9, o9 + i * 2, none⟩ = some (.int .i64 X) ∧ w'.cell? ⟨b9, o9 + i * 2 + 1, none⟩ = some (.int .i64 Y) ∧ w'.cell? ⟨b11, o11 + j * 2, none⟩ = some (.int .i64 dx) ∧ w'.cell? ⟨b11, o11 + j * 2 + 1, none⟩ = some (.int .i64 dy)) := fun w' hx => ⟨hx.cell d0, hx.cell d1, hx.cell f0, hx.cell f1⟩
              have HNO := Lib.hid (fun hr => HB.out.no hr)
              have HYES := Lib.hid (fun hr hm => HB.out.yes (by rw [HNB.out]; exact hltj) hr hm)
              rw [HQ] at HNO HYES
              clear HQ hrow HB
              go_wp2_with fail
              refine wp_region_over_lit (by kernel_rfl) (by kernel_rfl) ?_; (repeat (go_big_quiet_step (fail))); refine wpQuiet_nil ?_; rintro _ ⟨x1, rfl⟩
              have HR2 := Lib.hid (HR.out.ext ⟨x1, rfl⟩)
              have HX := Lib.hid (show w7.Ext (w7.over x1) from ⟨x1, rfl⟩)
              generalize w7.over x1 = w8 at *
              clear d0 d1 f0 f1
              obtain ⟨d0, d1, f0, f1⟩ := HD.out w8 HX.out
              go_wp2_with fail
              refine wp_region_over_lit (by kernel_rfl) (by kernel_rfl) ?_; (repeat (go_big_quiet_step (fail))); refine wpQuiet_nil ?_; rintro _ ⟨x1, rfl⟩
              have HR3 := Lib.hid (HR2.out.ext ⟨x1, rfl⟩)
              have HX3 := Lib.hid (HX.out.trans (show w8.Ext (w8.over x1) from ⟨x1, rfl⟩))
              generalize w8.over x1 = w9 at *
              clear d0 d1 f0 f1 HR2 HX HR HD
              cases hb : R ((X : Int) + dx, (Y : Int) + dy)
              · have HC := Lib.hid (HBL.out w9 HR3.out.x _ _ _ hb)
                have HB2 := Lib.hid (HNO.out (.inl hb))
                clear HNO HYES hb
                go_wp2_with fail
                refine HC.out.mono ?_
                rintro e w10 ⟨rfl, hx10⟩
                have HR4 := Lib.hid (HR3.out.ext hx10)
                clear hx10 HR3 HC
                go_wp2
                go_roundw
                case rel => exact ⟨j + 1, es, by omega, by go_num, HB2, HR4⟩
                case measure => simp [intOf]; omega
              · obtain ⟨X', Y', hXY, hX', hY'⟩ := HNAT.out _ hb
                simp only [Prod.mk.injEq] at hXY
                obtain ⟨e1, e2⟩ := hXY
                rw [e1, e2] at HNO HYES hb
                rw [e1, e2]
                have HC := Lib.hid (HBL.out w9 HR3.out.x _ _ _ hb)
                obtain ⟨n1, n2, n3, n4⟩ := HIDX.out X' Y' hX' hY'
                cases hin : inL es X' Y'
                · have HM0 : ¬ ((X' : Int), (Y' : Int)) ∈ es := by simpa [inL] using hin
                  have HB2 := Lib.hid (HYES.out hb HM0)
                  have HB1 : Hid (es.length + 1 ≤ maxLen) := by show _ ≤ _; have h1 := HLN.out; unfold maxLen; omega
                  have HB3 : Hid ((es.length + 1) * 16 ≤ 140737488355328) := by show _ ≤ _; have h1 := HLN.out; omega
                  clear HNO HYES hb HM0
                  go_wp2_with fail
                  refine HC.out.mono ?_
                  rintro e w10 ⟨rfl, hx10⟩
                  have HR4 := Lib.hid (HR3.out.ext hx10)
                  clear hx10 HR3 HC
                  have hcell := HR4.out.seen.cell false (i := Y' * W + X') (by rw [mkl_len, Nat.mul_comm H W]; exact n1)
                  rw [mkl_at W H _ X' Y' hX' hY', hin] at hcell
                  have hfree := HR4.out.seen.free (Y' * W + X')
                  have hlt := HR4.out.seen.lt
                  have HNEXT : Hid (∀ (o : Obj) (v' : Value) (w1 : World), ((w10.setCell ⟨ab, Y' * W + X', none⟩ (.bool true)).alloc o).grownBy w1 (Value.ownBlock (.slice (some ⟨b9, o9, none⟩) es.length c9)) → w1.ownsRow w.heap.size 58 2 v' (es.length + 1) ((flatP es).map (Value.int .i64) ++ [.int .i64 X', .int .i64 Y']) → (v'.ownBlock = (Value.ownBlock (.slice (some ⟨b9, o9, none⟩) es.length c9)) ∨ v'.ownBlock = some ((w10.setCell ⟨ab, Y' * W + X', none⟩ (.bool true)).alloc o).heap.size) → Hid (RSt w w.heap.size ab W H (some ⟨b11, o11, none⟩) K (es ++ [((X' : Int), (Y' : Int))]) v' w1)) :=
                    fun o v' w1 hgrow hown' hat => HR4.out.push hX' hY' rfl hgrow hown' hat
                  have hown : (w10.setCell ⟨ab, Y' * W + X', none⟩ (.bool true)).ownsRow w.heap.size 58 2 (.slice (some ⟨b9, o9, none⟩) es.length c9) es.length ((flatP es).map (Value.int .i64)) := World.ownsRow.setCell HR4.out.q (a := ⟨ab, Y' * W + X', none⟩) (World.ownsRow.ne HR4.out.q (show w10.heap[ab]? = some _ from HR4.out.seen) (by decide)) _
                  have HLE : ∀ o' : Obj, w.heap.size ≤ ((w10.setCell ⟨ab, Y' * W + X', none⟩ (.bool true)).alloc o').heap.size := fun o' => by have := HR4.out.x.size; simp; omega
                  clear HR4 hin
                  go_wp2_with (at_builtin; refine wpList_append_own_at _ rfl _ _ 55 rfl w.heap.size 58 i0 (.agg #[.int .i64 0, .int .i64 0]) 2 16 Try.underlying55 hi hz0 hz1 hz2 rfl (by decide) _ _ _ rfl (hown.alloc _) ⟨w10.heap.size, 0, none⟩ 1 1 [.int .i64 X', .int .i64 Y'] rfl rfl (cell_two_at (by simp)) (by simp [Value.oneCell']) HB1.out HB3.out (HLE _) (fun v' w11 hown' hgrow _ hat => ?_); have HR5 := HNEXT.out _ _ _ hgrow hown' hat; clear hgrow hown' hown hcell hfree hlt)
                  go_roundw
                  case rel => exact ⟨j + 1, _, by omega, by go_num, HB2, HR5⟩
                  case measure => simp [intOf]; omega
                · have HM1 : ((X' : Int), (Y' : Int)) ∈ es := by simpa [inL] using hin
                  have HB2 := Lib.hid (HNO.out (.inr HM1))
                  clear HNO HYES hb HM1
                  go_wp2_with fail
                  refine HC.out.mono ?_
                  rintro e w10 ⟨rfl, hx10⟩
                  have HR4 := Lib.hid (HR3.out.ext hx10)
                  clear hx10 HR3 HC
                  have hcell := HR4.out.seen.cell false (i := Y' * W + X') (by rw [mkl_len, Nat.mul_comm H W]; exact n1)
                  rw [mkl_at W H _ X' Y' hX' hY', hin] at hcell
                  clear hin
                  go_wp2
                  go_roundw
                  case rel => exact ⟨j + 1, es, by omega, by go_num, HB2, HR4⟩
                  case measure => simp [intOf]; omega
            · have : j = K.length := by omega
              subst this
              have HB2 : Hid (Bfs R (nbS eight) S (i + 1) es) := by
                have h := HB.out
                rw [← HNB.out ((X : Int), (Y : Int))] at h
                exact h.leave
              clear HB hrow d0 d1
              go_wp2
              go_roundw
              case rel => exact ⟨i + 1, es, by go_num, HB2, HR⟩
              case measure => simp [intOf]; omega
        · have : i = es.length := by have := HB.out.le; omega
          subst this
          have hsame : mkl W H (inL es) = mkl W H g := mkl_congr fun x y hx hy => by
            have h1 := HB.out.all ((x : Int), (y : Int))
            have h2 := HG.out x y hx hy
            rw [Bool.eq_iff_iff, h2, ← h1]
            simp [inL]
          have hseen := HR.out.seen
          rw [hsame] at hseen
          have HMK := Lib.hid (HMAKE.out (some ⟨ab, 0, none⟩) w6 (hseen.own false (Nat.zero_le _) (Nat.le_refl _)).row)
          have HX := Lib.hid HR.out.x
          have HO := Lib.hid HR.out.one
          have HL6 : Hid (w.heap.size < w6.heap.size) := by show _ < _; have := HR.out.one.lt; exact this
          clear HB HR hsame hseen hrow
          go_wp2_with fail
          refine HMK.out.mono ?_
          rintro e w7 ⟨a7, c7, rfl, hx7, ho7⟩
          obtain ⟨r1, r2, r3, HRES⟩ := Res.store (.slice a7 H c7) (HX.out.trans hx7) (Nat.le_refl _) (HO.out.ext hx7) HL6.out ho7
          have HLR : Hid ((picRows W H (mkl W H g)).length = H) := picRows_len _ _ _
          clear hx7 ho7
          go_wp2
          exact bodyPost_ret (v := .agg #[.slice a7 H c7]) (by simp [results, Try.results259, go_sem, r3]) rfl ⟨a7, c7, by rw [HLR.out], HRES.out.1, HRES.out.2⟩
end Go.Proofs.Ytmmanehdmnkekaa
