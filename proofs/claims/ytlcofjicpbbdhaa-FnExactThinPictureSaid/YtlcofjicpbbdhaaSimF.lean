/- Simple pixels: the reference's walks. -/
import Derived.Test.YtlcofjicpbbdhaaSimS
import Derived.Test.YtlcofjicpbbdhaaAreF
namespace Go.Proofs.Ytlcofjicpbbdhaa
open Go Go.RowKit
theorem stepL_arnd (eight : Bool) (d : Int × Int) : d ∈ stepL eight ↔ d ∈ arndL eight := by
  cases eight
  · rfl
  · simp only [stepL, arndL, if_true, List.cons_append, List.nil_append, List.mem_cons, List.not_mem_nil, or_false]
    constructor <;> rintro (rfl | rfl | rfl | rfl | rfl | rfl | rfl | rfl) <;> simp
def IlSt (w : World) (v : Value) (l : List Int) (wr : World) : Prop := w.Ext wr ∧ GrowOf (Value.int .i64) w.heap.size 2 wr v l
theorem IlSt.next {w w2 : World} {v : Value} {l : List Int} {b : Int} (h : IlSt w v l w2) {o : Obj} {v' : Value} {w1 : World} (hgrow : (w2.alloc o).grownBy w1 v.ownBlock)
    (hown : w1.ownsRow w.heap.size 2 1 v' (l.length + 1) (l.map (Value.int .i64) ++ [.int .i64 b])) : IlSt w v' (l ++ [b]) w1 := ⟨h.2.pushExt h.1 hgrow, GrowOf.push hown⟩
theorem IlSt.start {w : World} : IlSt w (.slice (some ⟨w.heap.size, 0, none⟩) 0 0) [] (w.alloc (.cells #[] 2)) := ⟨by repeat (first | exact World.Ext.refl _ | exact ⟨_, rfl⟩ | assumption | refine World.Ext.over ?_ _ | refine World.Ext.drewN ?_ _ | refine World.Ext.drew ?_ | refine World.Ext.alloc ?_ _ | refine World.Ext.setCell ?_ (by simp) _), GrowOf.empty _ (Nat.le_refl _)⟩
theorem IlSt.ret {w w' : World} {v : Value} {l : List Int} (h : IlSt w v l w') : IntsRet w l (.returned v) w' := by
  obtain ⟨h1, h2⟩ := h
  obtain ⟨a, c, rfl, -⟩ := h2.form
  exact ⟨a, c, rfl, h1, GrowOf.own (n := l.length) (a := a) (cap := c) 0 h2⟩
set_option maxRecDepth 5000 in
set_option maxHeartbeats 1600000 in
theorem l00Put_any (a : Option Addr) (c : Nat) (xs : List Int) (n : Int) (w : World) (hn : xs.length ≤ 1000) (hx : Rising xs) (hr : RowI w a xs) :
    Calls Try.prog 232 #[.slice a xs.length c, .int .i64 n] w fun e w' => ∃ out, Put xs n out ∧ IntsRet w out e w' := by
  obtain ⟨ib, hib, hb0, hb1, hb2⟩ := info_parts Try.infoI64L
  have HR := Lib.hid hr
  have HX := Lib.hid hx
  have HST : Hid (IlSt w (.slice (some ⟨w.heap.size, 0, none⟩) 0 0) [] (w.alloc (.cells #[] 2))) := IlSt.start
  clear hr hx
  go_enter Try.func232, Try.ntmps232
  go_wp2
  go_loopw [5, 6, 7] (fun v d m wr => ∃ (i : Nat) (done : Bool) (out : List Int), i ≤ xs.length ∧ m = .int .i64 i ∧ d = .bool done ∧ Hid (PutSt xs n i done out) ∧ Hid (IlSt w v out wr)) (fun _ _ m _ => xs.length - (intOf m).toNat)
  case atStart => exact ⟨0, false, [], Nat.zero_le _, rfl, rfl, PutSt.start _ _, HST⟩
  case round =>
    obtain ⟨i, done, out, hi, rfl, rfl, HP, HS⟩ := hrel
    clear HST
    obtain ⟨w2, rfl⟩ : ∃ w2 : World, w2 = wr := ⟨_, rfl⟩
    have hlen : out.length ≤ i + 1 := HP.out.1
    have hown := HS.out.2
    unfold GrowOf at hown
    have HLE : ∀ o' : Obj, w.heap.size ≤ (w2.alloc o').heap.size := fun o' => (HS.out.1.alloc o').size
    have HB1 : Hid (out.length + 1 ≤ maxLen) := by show _ ≤ _; unfold maxLen; omega
    have HB2 : Hid ((out.length + 1) * 8 ≤ 140737488355328) := by show _ ≤ _; omega
    have HN1 : Hid (∀ (b : Int) (o : Obj) (v' : Value) (w1 : World), (w2.alloc o).grownBy w1 u5.ownBlock → w1.ownsRow w.heap.size 2 1 v' (out.length + 1) (out.map (Value.int .i64) ++ [.int .i64 b]) → Hid (IlSt w v' (out ++ [b]) w1)) := fun b o v' w1 h1 h2 => IlSt.next HS.out h1 h2
    by_cases hlt : i < xs.length
    · have hlt' : (i : Int) < (xs.length : Int) := by omega
      have hi0 : (0 : Int) ≤ (i : Int) := by omega
      obtain ⟨b, o, rfl, q⟩ := HR.out i hlt
      have Q := Lib.hid q
      have q0 := HS.out.1.cell q
      clear q
      cases done
      · rcases Int.lt_trichotomy (xs.getD i 0) n with hl | hl | hl
        · have HP2 := Lib.hid (HP.out.less HX.out hlt hl)
          have hl2 : ¬ n ≤ xs.getD i 0 := by omega
          clear HP HS hlen
          generalize xs.getD i 0 = z at *
          go_wp2_with ((at_builtin; refine wpList_append_own _ rfl _ _ 58 rfl w.heap.size 2 ib (.int .i64 0) 1 8 Try.underlying58 hib hb0 hb1 hb2 rfl (by decide) _ _ _ rfl (hown.alloc _) ⟨w2.heap.size, 0, none⟩ 1 1 [.int .i64 z] rfl rfl (cell_one_new _ _ _) (by simp [Value.oneCell']) HB1.out HB2.out (HLE _) (fun v' w1 hown' hgrow _ => ?_)); have HS4 := HN1.out _ _ _ _ hgrow hown'; clear hgrow hown' hown)
          go_roundw
          case rel => exact ⟨i + 1, false, out ++ [z], by omega, by go_num, rfl, HP2, HS4⟩
          case measure => simp [intOf]; omega
        · have HP2 := Lib.hid (HP.out.same HX.out hlt hl)
          have hl2 : n ≤ xs.getD i 0 := by omega
          have hl3 : ¬ n < xs.getD i 0 := by omega
          clear HP HS hlen hl
          generalize xs.getD i 0 = z at *
          go_wp2_with ((at_builtin; refine wpList_append_own _ rfl _ _ 58 rfl w.heap.size 2 ib (.int .i64 0) 1 8 Try.underlying58 hib hb0 hb1 hb2 rfl (by decide) _ _ _ rfl (hown.alloc _) ⟨w2.heap.size, 0, none⟩ 1 1 [.int .i64 z] rfl rfl (cell_one_new _ _ _) (by simp [Value.oneCell']) HB1.out HB2.out (HLE _) (fun v' w1 hown' hgrow _ => ?_)); have HS4 := HN1.out _ _ _ _ hgrow hown'; clear hgrow hown' hown)
          go_roundw
          case rel => exact ⟨i + 1, true, out ++ [z], by omega, by go_num, rfl, HP2, HS4⟩
          case measure => simp [intOf]; omega
        · have HP2 := Lib.hid (HP.out.more HX.out hlt hl)
          have hl2 : n ≤ xs.getD i 0 := by omega
          clear HP HS
          generalize xs.getD i 0 = z at *
          go_wp2_with (first
            | ((at_builtin; refine wpList_append_own _ rfl _ _ 58 rfl w.heap.size 2 ib (.int .i64 0) 1 8 Try.underlying58 hib hb0 hb1 hb2 rfl (by decide) _ _ _ rfl (hown.alloc _) ⟨w2.heap.size, 0, none⟩ 1 1 [.int .i64 n] rfl rfl (cell_one_new _ _ _) (by simp [Value.oneCell']) HB1.out HB2.out (HLE _) (fun v' w1 hown' hgrow _ => ?_))
               have HS4 := HN1.out _ _ _ _ hgrow hown'
               clear hgrow hown' hown q0
               have q0 := HS4.out.1.cell Q.out
               obtain ⟨w4, rfl⟩ : ∃ w4 : World, w4 = w1 := ⟨_, rfl⟩
               obtain ⟨v4, rfl⟩ : ∃ v4 : Value, v4 = v' := ⟨_, rfl⟩
               have hown := HS4.out.2
               unfold GrowOf at hown
               have HLE4 : ∀ o' : Obj, w.heap.size ≤ (w4.alloc o').heap.size := fun o' => (HS4.out.1.alloc o').size
               have hlen4 : (out ++ [n]).length = out.length + 1 := by simp
               have HB3 : Hid ((out ++ [n]).length + 1 ≤ maxLen) := by show _ ≤ _; unfold maxLen; omega
               have HB4 : Hid (((out ++ [n]).length + 1) * 8 ≤ 140737488355328) := by show _ ≤ _; omega
               have HN2 : Hid (∀ (b : Int) (o : Obj) (v' : Value) (w1 : World), (w4.alloc o).grownBy w1 v4.ownBlock → w1.ownsRow w.heap.size 2 1 v' ((out ++ [n]).length + 1) ((out ++ [n]).map (Value.int .i64) ++ [.int .i64 b]) → Hid (IlSt w v' (out ++ [n] ++ [b]) w1)) := fun b o v' w1 h1 h2 => IlSt.next HS4.out h1 h2
               clear hlen4 HS4 HN1 HB1 HB2 hlen
               generalize out ++ [n] = out2 at *)
            | ((at_builtin; refine wpList_append_own _ rfl _ _ 58 rfl w.heap.size 2 ib (.int .i64 0) 1 8 Try.underlying58 hib hb0 hb1 hb2 rfl (by decide) _ _ _ rfl (hown.alloc _) ⟨w4.heap.size, 0, none⟩ 1 1 [.int .i64 z] rfl rfl (cell_one_new _ _ _) (by simp [Value.oneCell']) HB3.out HB4.out (HLE4 _) (fun v' w1 hown' hgrow _ => ?_))
               have HS5 := HN2.out _ _ _ _ hgrow hown'
               clear hgrow hown' hown))
          go_roundw
          case rel => exact ⟨i + 1, true, out2 ++ [z], by omega, by go_num, rfl, HP2, HS5⟩
          case measure => simp [intOf]; omega
      · have HP2 := Lib.hid (HP.out.over HX.out hlt)
        clear HP HS hlen
        generalize xs.getD i 0 = z at *
        go_wp2_with ((at_builtin; refine wpList_append_own _ rfl _ _ 58 rfl w.heap.size 2 ib (.int .i64 0) 1 8 Try.underlying58 hib hb0 hb1 hb2 rfl (by decide) _ _ _ rfl (hown.alloc _) ⟨w2.heap.size, 0, none⟩ 1 1 [.int .i64 z] rfl rfl (cell_one_new _ _ _) (by simp [Value.oneCell']) HB1.out HB2.out (HLE _) (fun v' w1 hown' hgrow _ => ?_)); have HS4 := HN1.out _ _ _ _ hgrow hown'; clear hgrow hown' hown)
        go_roundw
        case rel => exact ⟨i + 1, true, out ++ [z], by omega, by go_num, rfl, HP2, HS4⟩
        case measure => simp [intOf]; omega
    · have : i = xs.length := by omega
      subst this
      cases done
      · have HP2 := Lib.hid HP.out.last
        clear HP HS hlen
        go_wp2_with ((at_builtin; refine wpList_append_own _ rfl _ _ 58 rfl w.heap.size 2 ib (.int .i64 0) 1 8 Try.underlying58 hib hb0 hb1 hb2 rfl (by decide) _ _ _ rfl (hown.alloc _) ⟨w2.heap.size, 0, none⟩ 1 1 [.int .i64 n] rfl rfl (cell_one_new _ _ _) (by simp [Value.oneCell']) HB1.out HB2.out (HLE _) (fun v' w1 hown' hgrow _ => ?_)); have HS4 := HN1.out _ _ _ _ hgrow hown'; clear hgrow hown' hown)
        go_ret
        exact ⟨_, HP2.out, HS4.out.ret⟩
      · have HP2 := Lib.hid HP.out.done
        clear HP hlen hown HN1
        go_wp2
        go_ret
        exact ⟨_, HP2.out, HS.out.ret⟩
def PartK (F : Int × Int → Nat) (eight : Bool) (k : Nat) (zs : List Int) : Prop :=
  zs.length ≤ k ∧ Rising zs ∧ ∀ z, z ∈ zs ↔ ∃ d, d ∈ (stepL eight).take k ∧ 0 < F (1 + d.1, 1 + d.2) ∧ z = (F (1 + d.1, 1 + d.2) : Int)
theorem PartK.start (F : Int × Int → Nat) (eight : Bool) : PartK F eight 0 [] := ⟨by simp, List.Pairwise.nil, fun z => by simp⟩
theorem take_nextS {l : List (Int × Int)} {k : Nat} (h : k < l.length) : l.take (k + 1) = l.take k ++ [l.getD k (0, 0)] := by
  rw [List.take_succ_eq_append_getElem h, List.getD_eq_getElem?_getD, List.getElem?_eq_getElem h]
  rfl
theorem PartK.no {F : Int × Int → Nat} {eight : Bool} {k : Nat} {zs : List Int} (h : PartK F eight k zs) (hk : k < (stepL eight).length) {d : Int × Int} (hd : (stepL eight).getD k (0, 0) = d) (hz : F (1 + d.1, 1 + d.2) = 0) : PartK F eight (k + 1) zs := by
  obtain ⟨h1, h2, h3⟩ := h
  refine ⟨by omega, h2, fun z => ?_⟩
  rw [h3, take_nextS hk, hd]
  constructor
  · rintro ⟨e, he, h⟩
    exact ⟨e, List.mem_append_left _ he, h⟩
  · rintro ⟨e, he, h⟩
    rcases List.mem_append.1 he with he | he
    · exact ⟨e, he, h⟩
    · simp at he
      subst he
      omega
theorem PartK.yes {F : Int × Int → Nat} {eight : Bool} {k : Nat} {zs out : List Int} (h : PartK F eight k zs) (hk : k < (stepL eight).length) {d : Int × Int} (hd : (stepL eight).getD k (0, 0) = d) (hz : 0 < F (1 + d.1, 1 + d.2)) (hp : Put zs (F (1 + d.1, 1 + d.2)) out) : PartK F eight (k + 1) out := by
  obtain ⟨h1, h2, h3⟩ := h
  obtain ⟨p1, p2, p3⟩ := hp
  refine ⟨by omega, p2, fun z => ?_⟩
  rw [p3, h3, take_nextS hk, hd]
  constructor
  · rintro (⟨e, he, h⟩ | h)
    · exact ⟨e, List.mem_append_left _ he, h⟩
    · exact ⟨d, List.mem_append_right _ (by simp), hz, h⟩
  · rintro ⟨e, he, h⟩
    rcases List.mem_append.1 he with he | he
    · exact .inl ⟨e, he, h⟩
    · simp at he
      subst he
      exact .inr h.2
theorem numL_mid (F : Int × Int → Nat) {sx sy : Int} (h1 : -1 ≤ sx) (h2 : sx ≤ 1) (h3 : -1 ≤ sy) (h4 : sy ≤ 1) :
    (numL 3 3 F).getD ((1 + sy) * 3 + 1 + sx).toNat 0 = (F (1 + sx, 1 + sy) : Int) ∧ ((1 + sy) * 3 + 1 + sx).toNat < (numL 3 3 F).length := by
  obtain ⟨X, hX⟩ : ∃ X : Nat, 1 + sx = X := ⟨(1 + sx).toNat, by omega⟩
  obtain ⟨Y, hY⟩ : ∃ Y : Nat, 1 + sy = Y := ⟨(1 + sy).toNat, by omega⟩
  have e : ((1 + sy) * 3 + 1 + sx).toNat = Y * 3 + X := by omega
  rw [e, hX, hY, numL_len]
  exact ⟨numL_at 3 3 F (by omega) (by omega), by omega⟩
set_option maxRecDepth 5000 in
set_option maxHeartbeats 1600000 in
theorem l05Parts_any (p : Nat) (a : Option Addr) (c : Nat) (ss : List ByteArray) (eight : Bool) (F : Int × Int → Nat) (NN : Nat) (w : World) (he : Even ss) (hW : picW ss = 3) (hH : ss.length = 3)
    (hp : w.cell? ⟨p, 0, none⟩ = some (.slice a ss.length c)) (hm : RowS w a ss)
    (hF : LabK (pxP 3 3 (picL ss)) (nbS eight) (spotsTo 3 (picL ss) (3 * 3)) (spotsTo 3 (picL ss) (3 * 3)).length F NN) :
    Calls Try.prog 183 #[.pointer (some ⟨p, 0, none⟩), .bool eight] w fun e w' => (∃ zs, e = .returned (.int .i64 zs.length) ∧ PartK F eight (stepL eight).length zs) ∧ w.Ext w' := by
  have HL : Hid (Calls Try.prog 79 #[.pointer (some ⟨p, 0, none⟩), .bool eight] w fun e w' => ∃ a1 c1, e = .returned (.tuple #[.slice a1 9 c1, .int .i64 NN]) ∧ w.Ext w' ∧ RowI w' a1 (numL 3 3 F)) := by
    have h := l05Labels_any p a c ss eight F NN w he (by omega) (by omega) (by omega) hp hm (by rw [hW, hH]; exact hF)
    rw [hW, hH] at h
    exact h.mono fun _ _ ⟨a1, c1, h1, h2, h3⟩ => ⟨a1, c1, h1, h2, h3.row⟩
  have HST := Lib.hid (fun w' => l03Steps_any eight w')
  have HSA : Hid (∀ k, k < (stepL eight).length → -1 ≤ ((stepL eight).getD k (0, 0)).1 ∧ ((stepL eight).getD k (0, 0)).1 ≤ 1 ∧ -1 ≤ ((stepL eight).getD k (0, 0)).2 ∧ ((stepL eight).getD k (0, 0)).2 ≤ 1) := fun k hk => stepL_at eight _ (by
    rw [List.getD_eq_getElem?_getD, List.getElem?_eq_getElem hk]
    exact List.getElem_mem hk)
  have hsl : (stepL eight).length ≤ 8 := by cases eight <;> decide
  have HPS : Hid (∀ k zs, PartK F eight k zs → ∀ hk : k < (stepL eight).length, ∀ d, (stepL eight).getD k (0, 0) = d → (F (1 + d.1, 1 + d.2) = 0 → PartK F eight (k + 1) zs) ∧ ∀ out, 0 < F (1 + d.1, 1 + d.2) → Put zs (F (1 + d.1, 1 + d.2)) out → PartK F eight (k + 1) out) := fun k zs h hk d hd => ⟨h.no hk hd, fun out => h.yes hk hd⟩
  clear hm he hp hF hW hH
  generalize stepL eight = ps at *
  go_enter Try.func183, Try.ntmps183
  go_wp2_with fail
  refine HL.out.mono ?_
  rintro e w1 ⟨a1, c1, rfl, hx1, hr1⟩
  have HR1 := Lib.hid hr1
  have HX1 := Lib.hid hx1
  have hx2 : w1.Ext (w1.alloc (.cells #[] 2)) := by repeat (first | exact World.Ext.refl _ | exact ⟨_, rfl⟩ | assumption | refine World.Ext.over ?_ _ | refine World.Ext.drewN ?_ _ | refine World.Ext.drew ?_ | refine World.Ext.alloc ?_ _ | refine World.Ext.setCell ?_ (by simp) _)
  obtain ⟨w2, hw2⟩ : ∃ w2, w2 = w1.alloc (.cells #[] 2) := ⟨_, rfl⟩
  rw [← hw2] at hx2
  have HX2 := Lib.hid hx2
  clear hr1 hx1 hx2 HL
  go_wp2_with fail
  rw [← hw2]
  clear hw2
  refine (HST.out w2).mono ?_
  rintro e w3 ⟨a3, c3, rfl, hx3, ho3⟩
  have HR3 := Lib.hid ho3.row
  have HX13 := Lib.hid (HX2.out.trans hx3)
  clear hx3 ho3 HX2
  go_wp2
  go_loopw [7, 9, 10] (fun v m _ wr => ∃ (k : Nat) (zs : List Int) (a' : Option Addr) (c' : Nat), k ≤ ps.length ∧ m = .int .i64 k ∧ v = .slice a' zs.length c' ∧ Hid (PartK F eight k zs) ∧ Hid (RowI wr a' zs) ∧ Hid (w3.Ext wr)) (fun _ m _ _ => ps.length - (intOf m).toNat)
  case atStart => exact ⟨0, [], _, _, Nat.zero_le _, rfl, rfl, PartK.start _ _, RowOf.nil _ _, .refl _⟩
  case round =>
    obtain ⟨k, zs, a', c', hk, rfl, rfl, HK, HZ, HX⟩ := hrel
    obtain ⟨w5, rfl⟩ : ∃ w5 : World, w5 = wr := ⟨_, rfl⟩
    by_cases hlt : k < ps.length
    · have hlt' : (k : Int) < (ps.length : Int) := by omega
      have hk0 : (0 : Int) ≤ (k : Int) := by omega
      obtain ⟨b, o, rfl, c0, c1'⟩ := HR3.out.at hlt
      obtain ⟨s1, s2, s3, s4⟩ := HSA.out k hlt
      have HPK := Lib.hid (fun d hd => HPS.out k zs HK.out hlt d hd)
      have hzl : zs.length ≤ 8 := by have := HK.out.1; omega
      have hrz : Hid (Rising zs) := HK.out.2.1
      generalize ps.getD k (0, 0) = d at c0 c1' s1 s2 s3 s4 HPK
      obtain ⟨sx, sy⟩ := d
      simp only at c0 c1' s1 s2 s3 s4
      obtain ⟨n1, n2⟩ := numL_mid F s1 s2 s3 s4
      obtain ⟨b1, o1, rfl, q0⟩ := HR1.out _ n2
      rw [n1] at q0
      replace c0 := HX.out.cell c0
      replace c1' := HX.out.cell c1'
      replace q0 := HX.out.cell (HX13.out.cell q0)
      have HP0 := Lib.hid (HPK.out (sx, sy) rfl)
      simp only at HP0
      have i1 : (0 : Int) ≤ (1 + sy) * 3 + 1 + sx := by omega
      have i2 : (1 + sy) * 3 + 1 + sx < 9 := by omega
      clear HK HPK n1 n2
      generalize F (1 + sx, 1 + sy) = f at *
      by_cases hf : 0 < f
      · have hf' : (0 : Int) < (f : Int) := by omega
        have HPUT : Hid (∀ w', w5.Ext w' → Calls Try.prog 232 #[.slice a' zs.length c', .int .i64 f] w' fun e w'' => ∃ out, Put zs f out ∧ IntsRet w' out e w'') := fun w' hx => l00Put_any a' c' zs f w' (by omega) hrz.out (RowOf.ext HZ.out hx)
        have HP1 := Lib.hid (fun out => HP0.out.2 out hf)
        clear HP0 HZ hf
        go_wp2_with fail
        refine wp_region_over_lit (by kernel_rfl) (by kernel_rfl) ?_; (repeat (go_big_quiet_step (fail))); refine wpQuiet_nil ?_; rintro _ ⟨x1, rfl⟩
        have hx6 : w5.Ext (w5.over x1) := ⟨x1, rfl⟩
        have HPU := Lib.hid (HPUT.out _ hx6)
        have HX6 := Lib.hid (HX.out.trans hx6)
        generalize w5.over x1 = w6 at *
        clear HPUT HX hx6 c0 c1' q0
        go_wp2_with fail
        refine HPU.out.mono ?_
        rintro e w7 ⟨out, hput, a7, c7, rfl, hx7, ho7⟩
        have HP2 := Lib.hid (HP1.out out hput)
        have HX7 := Lib.hid (HX6.out.trans hx7)
        have HZ7 := Lib.hid ho7.row
        clear HPU HP1 hput hx7 ho7 HX6
        go_wp2
        go_roundw
        case rel => exact ⟨k + 1, out, a7, c7, by omega, by go_num, rfl, HP2, HZ7, HX7⟩
        case measure => simp [intOf]; omega
      · have hf0 : f = 0 := by omega
        have HP1 := Lib.hid (HP0.out.1 hf0)
        subst hf0
        clear HP0 hf
        go_wp2_with fail
        refine wp_region_over_lit (by kernel_rfl) (by kernel_rfl) ?_; (repeat (go_big_quiet_step (fail))); refine wpQuiet_nil ?_; rintro _ ⟨x1, rfl⟩
        have hx6 : w5.Ext (w5.over x1) := ⟨x1, rfl⟩
        have HX6 := Lib.hid (HX.out.trans hx6)
        have HZ6 := Lib.hid (RowOf.ext HZ.out hx6)
        generalize w5.over x1 = w6 at *
        clear HX HZ hx6 c0 c1' q0
        go_wp2
        go_roundw
        case rel => exact ⟨k + 1, zs, a', c', by omega, by go_num, rfl, HP1, HZ6, HX6⟩
        case measure => simp [intOf]; omega
    · have : k = ps.length := by omega
      subst this
      clear HZ
      go_wp2
      go_ret
      exact ⟨⟨zs, rfl, HK.out⟩, HX1.out.trans (HX13.out.trans HX.out)⟩
open Classical in
noncomputable def oneB (px : Int → Int → Bool) (x y : Int) (black eight : Bool) : Bool := @decide (OneSide px x y black eight) (Classical.propDecidable _)
theorem oneB_iff {px : Int → Int → Bool} {x y : Int} {black eight : Bool} : oneB px x y black eight = true ↔ OneSide px x y black eight := @decide_eq_true_iff _ (Classical.propDecidable _)
theorem oneB_not {px : Int → Int → Bool} {x y : Int} {black eight : Bool} : oneB px x y black eight = false ↔ ¬ OneSide px x y black eight := @decide_eq_false_iff_not _ (Classical.propDecidable _)
noncomputable def simpB (px : Int → Int → Bool) (x y : Int) (eight : Bool) : Bool := oneB px x y true eight && oneB px x y false (!eight)
theorem parts_one {px : Int → Int → Bool} {x y : Int} {black eight : Bool} {F : Int × Int → Nat} {n : Nat} {zs : List Int}
    (hF : LabK (pxP 3 3 (mkl 3 3 (arB px x y black))) (nbA eight) (spotsTo 3 (mkl 3 3 (arB px x y black)) (3 * 3)) (spotsTo 3 (mkl 3 3 (arB px x y black)) (3 * 3)).length F n)
    (h : PartK F eight (stepL eight).length zs) : ((zs.length : Int) == 1) = oneB px x y black eight := by
  obtain ⟨-, h2, h3⟩ := h
  rw [List.take_length] at h3
  have e : ((zs.length : Int) == 1) = true ↔ zs.length = 1 := by rw [beq_iff_eq]; omega
  rw [Bool.eq_iff_iff, e, rising_one h2]
  rw [oneB_iff, oneSide_labels hF]
  constructor
  · rintro ⟨z, hz, hall⟩
    obtain ⟨d, hd, hf, rfl⟩ := (h3 z).1 hz
    refine ⟨d, (stepL_arnd eight d).1 hd, hf, fun d' hd' hf' => ?_⟩
    have := hall _ ((h3 _).2 ⟨d', (stepL_arnd eight d').2 hd', hf', rfl⟩)
    omega
  · rintro ⟨d, hd, hf, hall⟩
    refine ⟨_, (h3 _).2 ⟨d, (stepL_arnd eight d).2 hd, hf, rfl⟩, fun u hu => ?_⟩
    obtain ⟨d', hd', hf', rfl⟩ := (h3 u).1 hu
    rw [hall d' ((stepL_arnd eight d').1 hd') hf']
set_option maxRecDepth 5000 in
set_option maxHeartbeats 1600000 in
theorem l05Simple_any (p : Nat) (a : Option Addr) (c : Nat) (ss : List ByteArray) (x y : Int) (eight : Bool) (w : World) (he : Even ss) (hH : ss.length ≤ 64) (hW : picW ss ≤ 64) (hp : w.cell? ⟨p, 0, none⟩ = some (.slice a ss.length c)) (hm : RowS w a ss)
    (hx : -1000 ≤ x ∧ x ≤ 1000) (hy : -1000 ≤ y ∧ y ≤ 1000) :
    Calls Try.prog 95 #[.pointer (some ⟨p, 0, none⟩), .int .i64 x, .int .i64 y, .bool eight] w fun e w' => e = .returned (.bool (simpB (pxl (picW ss) ss.length (picL ss)) x y eight)) ∧ w.Ext w' := by
  have HAR := Lib.hid (fun w' black (hx' : w.Ext w') => l05Around_any p a c ss x y black w' he hH hW (hx'.cell hp) (RowOf.ext hm hx') hx hy)
  have HPT : Hid (∀ (w' : World) (p7 : Nat) (a7 : Option Addr) (c7 : Nat) (black ei : Bool), w'.cell? ⟨p7, 0, none⟩ = some (.slice a7 (picRows 3 3 (mkl 3 3 (arB (pxl (picW ss) ss.length (picL ss)) x y black))).length c7) → RowS w' a7 (picRows 3 3 (mkl 3 3 (arB (pxl (picW ss) ss.length (picL ss)) x y black))) →
      Calls Try.prog 183 #[.pointer (some ⟨p7, 0, none⟩), .bool ei] w' fun e w'' => (∃ z : Nat, e = .returned (.int .i64 z) ∧ ((z : Int) == 1) = oneB (pxl (picW ss) ss.length (picL ss)) x y black ei) ∧ w'.Ext w'') := fun w' p7 a7 c7 black ei hc hr => by
    have hml : (mkl 3 3 (arB (pxl (picW ss) ss.length (picL ss)) x y black)).length = 3 * 3 := by rw [mkl_len]
    have e1 := picW_rows (show 0 < 3 by omega) hml
    have e3 := picL_rows hml
    obtain ⟨F, n, hF⟩ := LabK.ex (pxP 3 3 (mkl 3 3 (arB (pxl (picW ss) ss.length (picL ss)) x y black))) (nbA ei) (spotsTo 3 (mkl 3 3 (arB (pxl (picW ss) ss.length (picL ss)) x y black)) (3 * 3)) (spotsTo 3 (mkl 3 3 (arB (pxl (picW ss) ss.length (picL ss)) x y black)) (3 * 3)).length
    have h := l05Parts_any p7 a7 c7 _ ei F n w' (even_rows (show 0 < 3 by omega) hml) e1 (picRows_len _ _ _) hc hr (by rw [e3]; exact LabK.congr1 (fun p q => (nb_same ei p q).symm) hF)
    exact h.mono fun e w'' ⟨⟨zs, h1, h2⟩, h3⟩ => ⟨⟨zs.length, h1, parts_one hF h2⟩, h3⟩
  clear hm he hp
  unfold simpB
  generalize pxl (picW ss) ss.length (picL ss) = px at *
  have HAT := Lib.hid (HAR.out w true (.refl _))
  have HAF := Lib.hid (fun w' hx => HAR.out w' false hx)
  have HPT1 := Lib.hid (fun w' p7 a7 c7 ei => HPT.out w' p7 a7 c7 true ei)
  have HPT2 := Lib.hid (fun w' p7 a7 c7 ei => HPT.out w' p7 a7 c7 false ei)
  clear HAR HPT
  generalize picRows 3 3 (mkl 3 3 (arB px x y true)) = R1 at *
  generalize picRows 3 3 (mkl 3 3 (arB px x y false)) = R2 at *
  go_enter Try.func95, Try.ntmps95
  go_wp2_with fail
  refine HAT.out.mono ?_
  rintro e w1 ⟨a1, c1, rfl, hx1, ho1⟩
  obtain ⟨w2, hw2⟩ : ∃ w2, w2 = w1.alloc (.cells #[.slice a1 R1.length c1] 26) := ⟨_, rfl⟩
  have hx2 : w1.Ext w2 := by rw [hw2]; repeat (first | exact World.Ext.refl _ | exact ⟨_, rfl⟩ | assumption | refine World.Ext.over ?_ _ | refine World.Ext.drewN ?_ _ | refine World.Ext.drew ?_ | refine World.Ext.alloc ?_ _ | refine World.Ext.setCell ?_ (by simp) _)
  have D1 : Hid (w2.cell? ⟨w1.heap.size, 0, none⟩ = some (.slice a1 R1.length c1)) := by rw [hw2]; show _ = _; simp [go_sem]
  have HR1 := Lib.hid (RowOf.ext ho1.row hx2)
  have HX2 := Lib.hid (hx1.trans hx2)
  clear hx1 hx2 ho1
  go_wp2_with fail
  rw [← hw2]
  clear hw2
  refine (HAF.out w2 HX2.out).mono ?_
  rintro e w3 ⟨a3, c3, rfl, hx3, ho3⟩
  obtain ⟨w4, hw4⟩ : ∃ w4, w4 = w3.alloc (.cells #[.slice a3 R2.length c3] 26) := ⟨_, rfl⟩
  have hx4 : w3.Ext w4 := by rw [hw4]; repeat (first | exact World.Ext.refl _ | exact ⟨_, rfl⟩ | assumption | refine World.Ext.over ?_ _ | refine World.Ext.drewN ?_ _ | refine World.Ext.drew ?_ | refine World.Ext.alloc ?_ _ | refine World.Ext.setCell ?_ (by simp) _)
  have d3 : w4.cell? ⟨w3.heap.size, 0, none⟩ = some (.slice a3 R2.length c3) := by rw [hw4]; simp [go_sem]
  have hr3 := RowOf.ext ho3.row hx4
  have HC1 := Lib.hid (HPT1.out w4 w1.heap.size a1 c1 eight (hx4.cell (hx3.cell D1.out)) (RowOf.ext HR1.out (hx3.trans hx4)))
  have HC2 := Lib.hid (fun w' (hx : w4.Ext w') => HPT2.out w' w3.heap.size a3 c3 (!eight) (hx.cell d3) (RowOf.ext hr3 hx))
  have HX4 := Lib.hid (HX2.out.trans (hx3.trans hx4))
  clear hx3 hx4 ho3 d3 hr3 HPT1 HPT2 D1 HR1 HX2 HAT HAF
  go_wp2_with fail
  rw [← hw4]
  clear hw4
  refine HC1.out.mono ?_
  rintro e w5 ⟨⟨z, rfl, hz⟩, hx5⟩
  cases h1 : oneB px x y true eight
  · rw [h1] at hz
    go_wp2
    go_ret
    exact ⟨by rw [h1]; rfl, HX4.out.trans hx5⟩
  · rw [h1] at hz
    go_wp2_with fail
    refine (HC2.out w5 hx5).mono ?_
    rintro e w6 ⟨⟨z2, rfl, hz2⟩, hx6⟩
    have HZ2 := Lib.hid hz2
    have HX6 := Lib.hid (HX4.out.trans (hx5.trans hx6))
    clear hz2 hx5 hx6
    go_wp2
    go_ret
    exact ⟨by rw [h1, ← HZ2.out]; rfl, HX6.out⟩
end Go.Proofs.Ytlcofjicpbbdhaa
