/- GrowBy: the program's and the reference's agree. -/
import Derived.Test.YtpploijlijnahaaIGrow
import Derived.Test.YtpploijlijnahaaMorF
import Derived.Test.YtpploijlijnahaaSGrow
namespace Go.Proofs.Ytpploijlijnahaa
open Go.RowKit
theorem least_from : ∀ (ds : List Int) (m : Int), 0 ≤ m → (∀ d, d ∈ ds → 0 ≤ d) → (ds.foldl (fun m d => if m < 0 ∨ d < m then d else m) m = m ∨ ds.foldl (fun m d => if m < 0 ∨ d < m then d else m) m ∈ ds) ∧ ds.foldl (fun m d => if m < 0 ∨ d < m then d else m) m ≤ m ∧ (∀ d, d ∈ ds → ds.foldl (fun m d => if m < 0 ∨ d < m then d else m) m ≤ d) ∧ 0 ≤ ds.foldl (fun m d => if m < 0 ∨ d < m then d else m) m
  | [], m, hm, _ => ⟨.inl rfl, Int.le_refl _, (fun d hd => by cases hd), hm⟩
  | d :: ds, m, hm, h => by
    have hd := h d (by simp)
    rw [List.foldl_cons]
    by_cases hc : d < m
    · rw [if_pos (.inr hc)]
      obtain ⟨h1, h2, h3, h4⟩ := least_from ds d hd (fun x hx => h x (by simp [hx]))
      refine ⟨?_, by omega, fun x hx => ?_, h4⟩
      · rcases h1 with h1 | h1
        · right; rw [h1]; simp
        · right; simp [h1]
      · rcases List.mem_cons.1 hx with rfl | hx
        · exact h2
        · exact h3 x hx
    · rw [if_neg (by omega)]
      obtain ⟨h1, h2, h3, h4⟩ := least_from ds m hm (fun x hx => h x (by simp [hx]))
      refine ⟨?_, h2, fun x hx => ?_, h4⟩
      · rcases h1 with h1 | h1
        · exact .inl h1
        · right; simp [h1]
      · rcases List.mem_cons.1 hx with rfl | hx
        · omega
        · exact h3 x hx
theorem leastD_spec (ds : List Int) (h : ∀ d, d ∈ ds → 0 ≤ d) : (ds = [] ∧ leastD ds = -1) ∨ (leastD ds ∈ ds ∧ (∀ d, d ∈ ds → leastD ds ≤ d) ∧ 0 ≤ leastD ds) := by
  cases ds with
  | nil => exact .inl ⟨rfl, rfl⟩
  | cons d ds =>
    right
    have hd := h d (by simp)
    unfold leastD
    rw [List.foldl_cons, if_pos (.inl (by decide))]
    obtain ⟨h1, h2, h3, h4⟩ := least_from ds d hd (fun x hx => h x (by simp [hx]))
    refine ⟨?_, fun x hx => ?_, h4⟩
    · rcases h1 with h1 | h1
      · rw [h1]; simp
      · simp [h1]
    · rcases List.mem_cons.1 hx with rfl | hx
      · exact h2
      · exact h3 x hx
theorem allBox_mem {n : Int} {ps : List (Int × Int)} (h : AllBox n ps) {q : Int × Int} (hq : q ∈ ps) : InBox n q := by
  obtain ⟨i, hi, rfl⟩ := List.getElem_of_mem hq
  have := h i hi
  rwa [List.getD_eq_getElem?_getD, List.getElem?_eq_getElem hi] at this
theorem grow_same (kind d : Int) (W H : Nat) (l : List Bool) (hW : W ≤ 40) (hH : H ≤ 40) (x y : Nat) (hx : x < W) (hy : y < H) : growB kind d W H l x y = growI kind d W H l x y := by
  have hbox := spotsTo_box W H l (by omega) (by omega)
  have hnn : ∀ e, e ∈ (spotsTo W l (H * W)).map (farI kind ((x : Int), (y : Int))) → 0 ≤ e := fun e he => by
    obtain ⟨q, hq, rfl⟩ := List.mem_map.1 he
    obtain ⟨b1, b2, b3, b4⟩ := allBox_mem hbox hq
    exact (farI_bd kind (by dsimp only; omega) (by dsimp only; omega) (by omega) (by omega)).1
  unfold growB growI nearTo
  rcases leastD_spec _ hnn with ⟨h0, h1⟩ | ⟨h1, h2, h3⟩
  · rw [h1]
    have : spotsTo W l (H * W) = [] := by simpa using h0
    rw [this]
    simp
  · generalize leastD ((spotsTo W l (H * W)).map (farI kind ((x : Int), (y : Int)))) = m at *
    rw [decide_eq_true h3, Bool.true_and]
    obtain ⟨q, hq, rfl⟩ := List.mem_map.1 h1
    rw [Bool.eq_iff_iff, decide_eq_true_eq, List.any_eq_true]
    constructor
    · intro hle
      exact ⟨q, hq, by rw [decide_eq_true_eq, farI_comm]; exact hle⟩
    · rintro ⟨r, hr, hle⟩
      rw [decide_eq_true_eq, farI_comm] at hle
      exact Int.le_trans (h2 _ (List.mem_map_of_mem hr)) hle
theorem mkl_congr {W H : Nat} {g h : Nat → Nat → Bool} (e : ∀ x y, x < W → y < H → g x y = h x y) : mkl W H g = mkl W H h := by
  unfold mkl
  refine List.map_congr_left fun k hk => ?_
  have hk' : k < H * W := by simpa using hk
  have hW0 : 0 < W := by
    rcases Nat.eq_zero_or_pos W with e | e
    · rw [e] at hk'; simp at hk'
    · exact e
  exact e _ _ (Nat.mod_lt _ hW0) (Nat.div_lt_of_lt_mul (by rw [Nat.mul_comm]; exact hk'))
set_option maxHeartbeats 400000 in
theorem kindOk_any (k : Int) (w : World) (t : Bool) (ht : inB k 0 2 = t) : Calls Try.prog 140 #[.int .i64 k] w fun e w' => e = .returned (.bool t) ∧ w.Ext w' := by
  go_enter Try.func140, Try.ntmps140
  go_wp2_with fail
  refine (in_any _ _ _ _ _ ht).mono ?_
  rintro e w1 ⟨rfl, hx⟩
  go_wp2
  go_ret
  exact ⟨rfl, hx⟩
set_option maxRecDepth 5000 in
set_option maxHeartbeats 1600000 in
theorem implGrowBy_any (a : Option Addr) (c : Nat) (ss : List ByteArray) (kind d : Int) (w : World) (hb : PicBnd ss) (hm : RowS w a ss) :
    Calls Try.prog 66 #[.agg #[.slice a ss.length c], .int .i64 kind, .int .i64 d] w (PicRet2 w (rowsIf ss (growOk ss kind d) (growB kind d (picW ss) ss.length (picL ss))) (growOk ss kind d)) := by
  obtain ⟨W0, hW0⟩ : ∃ W0, W0 = (((w.alloc (.cells #[.slice a ss.length c] 30)).alloc (.cells #[.int .i64 kind] 2)).alloc (.cells #[.int .i64 d] 2)).alloc (.cells #[.slice none 0 0] 30) := ⟨_, rfl⟩
  have hx0 : w.Ext W0 := by rw [hW0]; repeat (first | exact World.Ext.refl _ | exact ⟨_, rfl⟩ | assumption | refine World.Ext.over ?_ _ | refine World.Ext.drewN ?_ _ | refine World.Ext.drew ?_ | refine World.Ext.alloc ?_ _ | refine World.Ext.setCell ?_ (by simp) _)
  have hck : W0.cell? ⟨w.heap.size + 1, 0, none⟩ = some (.int .i64 kind) := by rw [hW0]; simp [go_sem]
  have hcd : W0.cell? ⟨w.heap.size + 1 + 1, 0, none⟩ = some (.int .i64 d) := by rw [hW0]; simp [go_sem]
  have hcp : W0.cell? ⟨w.heap.size, 0, none⟩ = some (.slice a ss.length c) := by rw [hW0]; simp [go_sem]
  have hr0 : One W0 (w.heap.size + 1 + 1 + 1) 30 (.slice none 0 0) := by rw [hW0]; exact One.new _ _ _ _ (by simp)
  have H0 := Lib.hid (And.intro hx0 (And.intro hck (And.intro hcd (And.intro hcp hr0))))
  clear hx0 hck hcd hcp hr0
  cases hk : inB kind 0 2
  · have e : growOk ss kind d = false := by unfold growOk; rw [hk]; simp
    rw [e]
    show Calls _ _ _ _ (PicRet2 w [] false)
    have HK := Lib.hid (fun w => kindOk_any kind w _ hk)
    clear hm hb hk e
    go_enter Try.func66, Try.ntmps66
    go_wp2_with fail
    rw [← hW0]
    refine (HK.out _).mono ?_
    rintro e w1 ⟨rfl, hx1⟩
    obtain ⟨r1, r2, r3, HR⟩ := Res.store (f := Value.string) (d := ByteArray.empty) (a := none) (xs := []) (lo := w.heap.size + 4) (.slice none 0 0) (H0.out.1.trans hx1) (by omega) (H0.out.2.2.2.2.ext hx1) (by omega) (OwnOf.nil _ _)
    clear hx1 hW0 H0
    go_wp2
    exact bodyPost_ret (v := .tuple #[.agg #[.slice none 0 0], .bool false]) (by simp [results, Try.results66, go_sem, r3]) rfl ⟨none, 0, rfl, HR.out.1, OwnOf.nil _ _⟩
  · have HK := Lib.hid (fun w => kindOk_any kind w _ hk)
    cases hd : inB d 0 512
    · have e : growOk ss kind d = false := by unfold growOk; rw [hd]; simp
      rw [e]
      show Calls _ _ _ _ (PicRet2 w [] false)
      have HD := Lib.hid (fun w => in_any d 0 512 w _ hd)
      clear hm hb hk e hd
      go_enter Try.func66, Try.ntmps66
      go_wp2_with fail
      rw [← hW0]
      refine (HK.out _).mono ?_
      rintro e w1 ⟨rfl, hx1⟩
      have cd := hx1.cell H0.out.2.2.1
      go_wp2_with fail
      refine (HD.out _).mono ?_
      rintro e w2 ⟨rfl, hx2⟩
      obtain ⟨r1, r2, r3, HR⟩ := Res.store (f := Value.string) (d := ByteArray.empty) (a := none) (xs := []) (lo := w.heap.size + 4) (.slice none 0 0) (H0.out.1.trans (hx1.trans hx2)) (by omega) (H0.out.2.2.2.2.ext (hx1.trans hx2)) (by omega) (OwnOf.nil _ _)
      clear hx1 hW0 H0 hx2 cd
      go_wp2
      exact bodyPost_ret (v := .tuple #[.agg #[.slice none 0 0], .bool false]) (by simp [results, Try.results66, go_sem, r3]) rfl ⟨none, 0, rfl, HR.out.1, OwnOf.nil _ _⟩
    · have HD := Lib.hid (fun w => in_any d 0 512 w _ hd)
      have HWI : Hid (∀ w1, W0.Ext w1 → Calls Try.prog 141 #[.agg #[.slice a ss.length c], .func (.func 142) #[] #[.pointer (some ⟨w.heap.size + 1, 0, none⟩), .pointer (some ⟨w.heap.size + 1 + 1, 0, none⟩)]] w1 (PicRet2 w1 (rowsIf ss (growOk ss kind d) (growB kind d (picW ss) ss.length (picL ss))) (growOk ss kind d))) := fun w1 hx1 => by
        have h := withImage_any a c 142 #[.pointer (some ⟨w.heap.size + 1, 0, none⟩), .pointer (some ⟨w.heap.size + 1 + 1, 0, none⟩)] ss true (picW ss) ss.length (mkl (picW ss) ss.length (growI kind d (picW ss) ss.length (picL ss))) w1 hb.1 hb.2 (hm.ext (H0.out.1.trans hx1)) enters_grow1
          (fun h _ => by obtain ⟨q1, q2, q3, q4, _⟩ := picOk_spec h; omega)
          (fun w' b ab hp hx hI => by
            obtain ⟨q1, q2, q3, q4, _⟩ := picOk_spec hp
            exact grow1_any _ _ b ab _ _ kind d _ w' (by omega) (by omega) hI ((hx1.trans hx).cell H0.out.2.1) ((hx1.trans hx).cell H0.out.2.2.1))
        have e : growOk ss kind d = (picOk ss && true) := by unfold growOk; rw [hk, hd]; simp
        rw [e, rowsIf_opt]
        cases hp : picOk ss
        · rw [hp] at h; exact h
        · rw [hp] at h
          obtain ⟨q1, q2, q3, q4, _⟩ := picOk_spec hp
          rw [mkl_congr (fun x y hx hy => grow_same kind d (picW ss) ss.length (picL ss) (by omega) (by omega) x y hx hy)]
          exact h
      clear hm hb hk hd
      generalize rowsIf ss (growOk ss kind d) (growB kind d (picW ss) ss.length (picL ss)) = R at *
      generalize growOk ss kind d = ok at *
      go_enter Try.func66, Try.ntmps66
      go_wp2_with fail
      rw [← hW0]
      refine (HK.out _).mono ?_
      rintro e w1 ⟨rfl, hx1⟩
      have cd := hx1.cell H0.out.2.2.1
      go_wp2_with fail
      refine (HD.out _).mono ?_
      rintro e w2 ⟨rfl, hx2⟩
      have cp := (hx1.trans hx2).cell H0.out.2.2.2.1
      have HW := Lib.hid (HWI.out w2 (hx1.trans hx2))
      have HR1 := Lib.hid (H0.out.2.2.2.2.ext (hx1.trans hx2))
      have HX1 := Lib.hid (H0.out.1.trans (hx1.trans hx2))
      clear hx1 hx2 HWI H0 cd hW0
      go_wp2_with fail
      refine HW.out.mono ?_
      rintro e w3 ⟨a3, c3, rfl, hx3, ho3⟩
      obtain ⟨r1, r2, r3, HR⟩ := Res.store (.slice a3 R.length c3) (HX1.out.trans hx3) (by omega) (HR1.out.ext hx3) HR1.out.lt ho3
      clear hx3 ho3
      go_wp2
      exact bodyPost_ret (v := .tuple #[.agg #[.slice a3 R.length c3], .bool ok]) (by simp [results, Try.results66, go_sem, r3]) rfl ⟨a3, c3, rfl, HR.out.1, HR.out.2⟩
end Go.Proofs.Ytpploijlijnahaa
