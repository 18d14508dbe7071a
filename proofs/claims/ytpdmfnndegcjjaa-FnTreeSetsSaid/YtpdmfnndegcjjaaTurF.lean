/- The program's TurnPicture; equal trees. -/
import Derived.Test.YtpdmfnndegcjjaaQtD
import Derived.Test.YtpdmfnndegcjjaaTreeR
import Derived.Test.YtpdmfnndegcjjaaJoinF
namespace Go.Proofs.Ytpdmfnndegcjjaa
open Go Go.RowKit
@[go_sem] theorem Try.eqTreeQ (a b : Int) (s t : ByteArray) (w : World) : (Op.equalIn 10000 72 (.agg #[.int .i64 a, .string s]) (.agg #[.int .i64 b, .string t])).run Try.prog w = .ok (a == b && s.toList == t.toList) w := by
  have u3 := Try.underlying2
  have u9 := Try.underlying9
  have hS : Try.prog.underlying 72 = some (.struct (Try.prog.fieldsOf 72)) := by kernel_rfl
  have hp : Try.prog.stoodInHeld 72 = false := by kernel_rfl
  rw [show (10000 : Nat) = 9999 + 1 from rfl, run_equalIn_agg w 9999 72 _ _ hS hp]
  simp only [Program.fieldsOf, Try.underlying72]
  go_simp
  by_cases h1 : a = b <;> by_cases h2 : s.toList = t.toList <;> simp [h1, h2]
theorem turnP1_any (p1 b ab m : Nat) (l : List Bool) (k : Int) (w : World) (hm : m ≤ 64) (hk : inB k 0 3 = true) (hI : Img w b ab m m l) (h1 : w.cell? ⟨p1, 0, none⟩ = some (.int .i64 k)) :
    Calls Try.prog 164 #[.pointer (some ⟨b, 0, none⟩), .pointer (some ⟨p1, 0, none⟩)] w (DoRet w true m m (mkl m m (trnF k.toNat m (lF m l)))) := by
  have HT : Hid (Calls Try.prog 163 #[.pointer (some ⟨b, 0, none⟩), .int .i64 k] w (ImgRet w m m (mkl m m (trnF k.toNat m (lF m l))))) := (turned_any b ab m l k w hm hI).mono fun e w' h => by
    unfold TurnedRet at h
    rw [if_pos hk] at h
    exact h
  have l1 := World.block_lt_of_cell? _ _ h1
  clear hI hk
  show Calls _ _ _ _ (ImgRet w m m (mkl m m (trnF k.toNat m (lF m l))))
  generalize mkl m m (trnF k.toNat m (lF m l)) = M at *
  go_enter Try.func164, Try.ntmps164
  go_wp2_with fail
  refine HT.out.mono ?_
  rintro e w1 ⟨b1, g1, rfl, hx1, hi1, hb1, hg1⟩
  have HR : Hid (ImgRet w m m M (.returned (.pointer (some ⟨b1, 0, none⟩))) w1) := ⟨b1, g1, rfl, hx1, hi1, hb1, hg1⟩
  clear hx1 hi1 hb1 hg1
  go_wp2
  go_ret
  exact HR.out
theorem enters_turnP1 : Enters 164 := enters_of Try.func164 (by kernel_rfl) (by kernel_rfl)
set_option maxRecDepth 5000 in
set_option maxHeartbeats 1600000 in
theorem turnPicture_any (a : Option Addr) (c : Nat) (ss : List ByteArray) (m : Nat) (k : Int) (w : World) (hm64 : m ≤ 16) (hm1 : 1 ≤ m) (hk : inB k 0 3 = true) (hok : picOk ss = true) (hW : picW ss = m) (hH : ss.length = m) (hm : RowS w a ss) :
    Calls Try.prog 66 #[.agg #[.slice a m c], .int .i64 k] w (PicRet2 w (picRows m m (mkl m m (trnF k.toNat m (lF m (picL ss))))) true) := by
  obtain ⟨W0, hW0⟩ : ∃ W0, W0 = ((w.alloc (.cells #[.slice a m c] 26)).alloc (.cells #[.int .i64 k] 2)).alloc (.cells #[.slice none 0 0] 26) := ⟨_, rfl⟩
  have hx0 : w.Ext W0 := by rw [hW0]; repeat (first | exact World.Ext.refl _ | exact ⟨_, rfl⟩ | assumption | refine World.Ext.over ?_ _ | refine World.Ext.drewN ?_ _ | refine World.Ext.drew ?_ | refine World.Ext.alloc ?_ _ | refine World.Ext.setCell ?_ (by simp) _)
  have d1 : W0.cell? ⟨w.heap.size + 1, 0, none⟩ = some (.int .i64 k) := by rw [hW0]; simp [go_sem]
  have hone : One W0 (w.heap.size + 1 + 1) 26 (.slice none 0 0) := by rw [hW0]; exact One.new _ _ _ _ (by simp)
  have HWI : Hid (Calls Try.prog 115 #[.agg #[.slice a m c], .func (.func 164) #[] #[.pointer (some ⟨w.heap.size + 1, 0, none⟩)]] W0 (PicRet2 W0 (picRows m m (mkl m m (trnF k.toNat m (lF m (picL ss))))) true)) := by
    have h := withImage_any a c 164 #[.pointer (some ⟨w.heap.size + 1, 0, none⟩)] ss true m m (mkl m m (trnF k.toNat m (lF m (picL ss)))) W0 (by omega) (fun y => by
      by_cases hy : y < ss.length
      · rw [(picOk_spec hok).2.2.2.2.1.2 y hy]; omega
      · rw [List.getD_eq_getElem?_getD, List.getElem?_eq_none (by omega)]; simp) (hm.ext hx0) enters_turnP1 (fun _ _ => by omega)
      (fun w' b ab _ hx hI => by
        rw [hW, hH] at hI
        exact turnP1_any _ b ab m _ k w' (by omega) hk hI (hx.cell d1))
    rw [hok, hH] at h
    exact h
  have HX0 := Lib.hid hx0
  have HO := Lib.hid hone
  clear hm hx0 hone d1 hW hH hok
  generalize picRows m m (mkl m m (trnF k.toNat m (lF m (picL ss)))) = R at *
  go_enter Try.func66, Try.ntmps66
  go_wp2_with fail
  rw [← hW0]
  refine HWI.out.mono ?_
  rintro e w1 ⟨a1, c1, rfl, hx1, ho1⟩
  have hl0 : w.heap.size + 1 + 1 < W0.heap.size := HO.out.lt
  obtain ⟨r1, r2, r3, HR⟩ := Res.store (.slice a1 R.length c1) (HX0.out.trans hx1) (by omega) (HO.out.ext hx1) hl0 ho1
  clear hx1 ho1 hW0
  go_wp2
  exact bodyPost_ret (v := .tuple #[.agg #[.slice a1 R.length c1], .bool true]) (by simp [results, Try.results66, go_sem, r3]) rfl ⟨a1, c1, rfl, HR.out.1, HR.out.2⟩
theorem opn_m {n m : Nat} (hm : m = 2 ^ n) (hn : n ≤ 4) (g : Nat → Nat → Bool) : opn (m : Int) (txG n g) = some (n, qtr g n 0 0) := by rw [hm]; exact opn_tx hn g
theorem txG_ok {n : Nat} (hn : n ≤ 4) (g : Nat → Nat → Bool) : (txG n g).size ≤ 1048576 := Nat.le_trans (txG_size g hn) (by decide)
theorem qtr_at {n : Nat} (g : Nat → Nat → Bool) {i j : Nat} (hi : i < 2 ^ n) (hj : j < 2 ^ n) : (qtr g n 0 0).on n 0 0 i j = g i j := qtr_on g n 0 0 i j (Nat.zero_le _) (by omega) (Nat.zero_le _) (by omega)
theorem treeOf_m (a : Option Addr) (c : Nat) (ss : List ByteArray) (n m : Nat) (g : Nat → Nat → Bool) (w : World) (hm : m = 2 ^ n) (hn : n ≤ 4) (hP : PicOf m m ss) (hg : ∀ i j, i < m → j < m → (picL ss).getD (j * m + i) false = g i j) (hr : RowS w a ss) :
    Calls Try.prog 57 #[.agg #[.slice a m c]] w fun e w' => e = .returned (.tuple #[.agg #[.int .i64 m, .string (txG n g)], .bool true]) ∧ w.Ext w' := by
  obtain ⟨h1, h2, h3⟩ := hP
  have h := implTreeOf_any a c ss n g w hn (by rw [h3, hm]) (by rw [h2, hm]) h1 (by rw [← hm]; exact hg) hr
  rw [h2, ← hm] at h
  exact h
theorem combine_m (k n m : Nat) (f g : Nat → Nat → Bool) (w : World) (hk : k ≤ 3) (hm : m = 2 ^ n) (hn : n ≤ 4) :
    Calls Try.prog 63 #[.int .i64 k, .agg #[.int .i64 m, .string (txG n f)], .agg #[.int .i64 m, .string (txG n g)]] w fun e w' => e = .returned (.tuple #[.agg #[.int .i64 m, .string (txG n fun i j => joinB k (f i j) (g i j))], .bool true]) ∧ w.Ext w' := by
  have h := implCombT_any (k : Int) m (txG n f) m (txG n g) w (txG_ok hn f) (txG_ok hn g)
  have e : combO (k : Int) m (txG n f) m (txG n g) = some ((m : Int), txG n fun i j => joinB k (f i j) (g i j)) := by
    unfold combO
    rw [if_pos ⟨inB_true.2 (by omega), rfl⟩, opn_m hm hn, opn_m hm hn]
    show some ((m : Int), txG n fun i j => joinB (k : Int).toNat ((qtr f n 0 0).on n 0 0 i j) ((qtr g n 0 0).on n 0 0 i j)) = _
    rw [txG_congr (n := n) (f := fun i j => joinB (k : Int).toNat ((qtr f n 0 0).on n 0 0 i j) ((qtr g n 0 0).on n 0 0 i j)) (g := fun i j => joinB k (f i j) (g i j)) fun i j hi hj => by rw [qtr_at f hi hj, qtr_at g hi hj, Int.toNat_natCast]]
  rw [e] at h
  exact h
theorem invert_m (n m : Nat) (f : Nat → Nat → Bool) (w : World) (hm : m = 2 ^ n) (hn : n ≤ 4) :
    Calls Try.prog 64 #[.agg #[.int .i64 m, .string (txG n f)]] w fun e w' => e = .returned (.tuple #[.agg #[.int .i64 m, .string (txG n fun i j => !f i j)], .bool true]) ∧ w.Ext w' := by
  have h := invertTree_any m (txG n f) n _ w (txG_ok hn f) (opn_m hm hn f)
  rw [txG_congr (n := n) (f := fun i j => !(qtr f n 0 0).on n 0 0 i j) (g := fun i j => !f i j) fun i j hi hj => by rw [qtr_at f hi hj]] at h
  exact h
theorem turn_m (k n m : Nat) (f : Nat → Nat → Bool) (w : World) (hk : k ≤ 3) (hm : m = 2 ^ n) (hn : n ≤ 4) :
    Calls Try.prog 65 #[.agg #[.int .i64 m, .string (txG n f)], .int .i64 k] w fun e w' => e = .returned (.tuple #[.agg #[.int .i64 m, .string (txG n (trnF k m f))], .bool true]) ∧ w.Ext w' := by
  have h := implTurnT_any m (txG n f) k w (txG_ok hn f)
  have e : turnO (m : Int) (txG n f) k = some ((m : Int), txG n (trnF k m f)) := by
    unfold turnO
    rw [if_pos (inB_true.2 (by omega)), opn_m hm hn]
    show some ((m : Int), txG n _) = _
    rw [Int.toNat_natCast, txG_congr (n := n) (g := trnF k m f) fun i j hi hj => by
      rw [hm]
      exact trnF_congr (fun i j hi hj => qtr_at f hi hj) hi hj]
  rw [e] at h
  exact h
theorem leaves_m (n m : Nat) (f : Nat → Nat → Bool) (w : World) (hm : m = 2 ^ n) (hn : n ≤ 4) :
    Calls Try.prog 59 #[.agg #[.int .i64 m, .string (txG n f)]] w (TabRet w (lvM ((qtr f n 0 0).lvs n 0 0 ⟨#[]⟩))) := implLeavesOf_any m (txG n f) n _ w (txG_ok hn f) (opn_m hm hn f)
end Go.Proofs.Ytpdmfnndegcjjaa
