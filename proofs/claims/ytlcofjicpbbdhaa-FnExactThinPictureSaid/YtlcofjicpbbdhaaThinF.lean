/- Thinned pictures: the reference's side. -/
import Derived.Test.YtlcofjicpbbdhaaSimL
import Derived.Test.YtlcofjicpbbdhaaPasP
namespace Go.Proofs.Ytlcofjicpbbdhaa
open Go Go.RowKit
/-- Is a pixel taken away? -/
noncomputable def thC (W H : Nat) (eight : Bool) (least : Nat) (l : List Bool) (k : Nat) : Bool :=
  l.getD k false && (decide (least ≤ nearN (pxl W H l) ((k % W : Nat) : Int) ((k / W : Nat) : Int)) && simpB (pxl W H l) ((k % W : Nat) : Int) ((k / W : Nat) : Int) eight)
def noV (_ : List Bool) (_ : Nat) : Bool := false
theorem mod_at {W x y : Nat} (hx : x < W) : (y * W + x) % W = x ∧ (y * W + x) / W = y :=
  ⟨by rw [Nat.mul_comm, Nat.mul_add_mod, Nat.mod_eq_of_lt hx], by rw [Nat.mul_comm, Nat.mul_add_div (by omega), Nat.div_eq_of_lt hx]; rfl⟩
theorem thC_at {W H : Nat} {eight : Bool} {least : Nat} {l : List Bool} {x y : Nat} (hx : x < W) :
    thC W H eight least l (y * W + x) = (l.getD (y * W + x) false && (decide (least ≤ nearN (pxl W H l) x y) && simpB (pxl W H l) x y eight)) := by
  unfold thC
  rw [(mod_at hx).1, (mod_at hx).2]
theorem count_set : ∀ (m : List Bool) (k : Nat), m.getD k false = true → (m.set k false).countP id + 1 = m.countP id
  | [], k, h => by simp at h
  | a :: m, 0, h => by
    simp at h
    subst h
    simp
  | a :: m, k + 1, h => by
    have := count_set m k (by simpa using h)
    rw [List.set_cons_succ, List.countP_cons, List.countP_cons]
    omega
theorem th_falls (W H : Nat) (eight : Bool) (least M : Nat) : Falls (thC W H eight least) noV M (fun l => l.length = M) (fun l => l.countP id) :=
  ⟨fun l k _ h _ => by rw [List.length_set]; exact h, fun l k _ _ hc => by
    unfold thC at hc
    rw [Bool.and_eq_true] at hc
    have := count_set l k hc.1
    show (l.set k false).countP id < l.countP id
    omega⟩
/-- What is left. -/
def ThinR (W H : Nat) (eight : Bool) (least : Nat) (l res : List Bool) : Prop := PasR (thC W H eight least) noV (H * W) l res
theorem ThinR.ex (W H : Nat) (eight : Bool) (least : Nat) (l : List Bool) (h : l.length = H * W) : ∃ res, ThinR W H eight least l res := PasR.ex (th_falls W H eight least (H * W)) _ l h (Nat.le_refl _)
theorem ThinR.len {W H : Nat} {eight : Bool} {least : Nat} {l res : List Bool} (h : ThinR W H eight least l res) : res.length = l.length := PasR.len h
/-- The picture under way in the cell p7; the result's cell p6 is as it was. -/
structure RmSt (w : World) (p6 p7 W H : Nat) (l : List Bool) (wr : World) : Prop where
  x : w.Ext wr
  one : One wr p6 26 (.slice none 0 0)
  pic : ∃ a c ss, One wr p7 26 (.slice a H c) ∧ RowS wr a ss ∧ Even ss ∧ picW ss = W ∧ ss.length = H ∧ picL ss = l
theorem RmSt.ext {w : World} {p6 p7 W H : Nat} {l : List Bool} {wr w' : World} (h : RmSt w p6 p7 W H l wr) (hx : wr.Ext w') : RmSt w p6 p7 W H l w' :=
  ⟨h.x.trans hx, h.one.ext hx, let ⟨a, c, ss, h1, h2, h3⟩ := h.pic; ⟨a, c, ss, h1.ext hx, RowOf.ext h2 hx, h3⟩⟩
/-- The same with what is left at the end, and the number that falls. -/
def RmP (w : World) (p6 p7 W H : Nat) (eight : Bool) (least : Nat) (res : List Bool) (n : Nat) (v : Value) (wr : World) : Prop :=
  ∃ l again, v = .bool again ∧ RmSt w p6 p7 W H l wr ∧ PasW (thC W H eight least) noV (H * W) res again l ∧ l.length = H * W ∧ l.countP id + (if again then 1 else 0) = n
noncomputable def RmM (w : World) (p6 p7 W H : Nat) (eight : Bool) (least : Nat) (res : List Bool) (v : Value) (wr : World) : Nat := leastN fun n => RmP w p6 p7 W H eight least res n v wr
theorem RmM_lt {w : World} {p6 p7 W H : Nat} {eight : Bool} {least : Nat} {res : List Bool} {v v' : Value} {wr wr' : World} {n n' : Nat} (h0 : RmM w p6 p7 W H eight least res v wr = n) (h : RmP w p6 p7 W H eight least res n' v' wr') (hn : n' < n) :
    RmM w p6 p7 W H eight least res v' wr' < RmM w p6 p7 W H eight least res v wr := by
  rw [h0]
  exact Nat.lt_of_le_of_lt (leastN_le h) hn
theorem RmSt.put {w w' : World} {p6 p7 W H lo hi c : Nat} {a : Option Addr} {l' : List Bool} {v0 : Value} (hx : w.Ext w') (h6 : One w' p6 26 (.slice none 0 0)) (h7 : One w' p7 26 v0) (hne : p6 ≠ p7) (hw : w.heap.size ≤ p7) (hp : p7 < lo)
    (ho : OwnOf Value.string ByteArray.empty lo hi w' a (picRows W H l')) (hH : 0 < H) (hl : l'.length = W * H) : RmSt w p6 p7 W H l' (w'.setCell ⟨p7, 0, none⟩ (.slice a H c)) :=
  ⟨hx.setCell (p := ⟨p7, 0, none⟩) hw _, h6.other (a := ⟨p7, 0, none⟩) (Ne.symm hne) _, a, c, picRows W H l', h7.set _,
    (ho.wrote (Wrote.setCell (S := fun k => k = p7) (Wrote.refl _ _) (p := ⟨p7, 0, none⟩) rfl _) fun k h1 _ e => by omega).row, even_rows hH hl, picW_rows hH hl, picRows_len _ _ _, picL_rows hl⟩
set_option maxRecDepth 5000 in
set_option maxHeartbeats 3200000 in
theorem l05Remove_any (p : Nat) (a : Option Addr) (c : Nat) (ss : List ByteArray) (eight : Bool) (least : Nat) (res : List Bool) (w : World) (he : Even ss) (hH : ss.length ≤ 64) (hW1 : 1 ≤ picW ss) (hW : picW ss ≤ 64) (_ : least ≤ 100) (hp : w.cell? ⟨p, 0, none⟩ = some (.slice a ss.length c)) (hm : RowS w a ss)
    (hR : ThinR (picW ss) ss.length eight least (picL ss) res) :
    Calls Try.prog 99 #[.pointer (some ⟨p, 0, none⟩), .bool eight, .int .i64 least] w (PicVal w (picRows (picW ss) ss.length res)) := by
  obtain ⟨W0, hW0⟩ : ∃ W0, W0 = (w.alloc (.cells #[.slice none 0 0] 26)).alloc (.cells #[.slice a ss.length c] 26) := ⟨_, rfl⟩
  have hx0 : w.Ext W0 := by rw [hW0]; repeat (first | exact World.Ext.refl _ | exact ⟨_, rfl⟩ | assumption | refine World.Ext.over ?_ _ | refine World.Ext.drewN ?_ _ | refine World.Ext.drew ?_ | refine World.Ext.alloc ?_ _ | refine World.Ext.setCell ?_ (by simp) _)
  have h6 : One W0 w.heap.size 26 (.slice none 0 0) := by rw [hW0]; exact (One.new w _ _ _ rfl).ext ((World.Ext.refl _).alloc _)
  have h7 : One W0 (w.heap.size + 1) 26 (.slice a ss.length c) := by rw [hW0]; exact One.new _ _ _ _ (by simp)
  have HWS : Hid (∀ w', w.Ext w' → Calls Try.prog 82 #[.pointer (some ⟨p, 0, none⟩)] w' fun e w'' => e = .returned (.int .i64 (picW ss)) ∧ w'.Ext w'') := fun w' hx => l01Width_any p a c ss w' he.1 (by omega) (by omega) (hx.cell hp) (RowOf.ext hm hx)
  have HHS : Hid (∀ w', w.Ext w' → Calls Try.prog 120 #[.pointer (some ⟨p, 0, none⟩)] w' fun e w'' => e = .returned (.int .i64 ss.length) ∧ w'.Ext w'') := fun w' hx => l01Height_any p a c ss.length w' (by omega) (hx.cell hp)
  have hlen : (picL ss).length = ss.length * picW ss := picL_len he
  have HRES : Hid (res.length = picW ss * ss.length) := by show _ = _; rw [hR.len, hlen, Nat.mul_comm]
  have HP0 : Hid (∃ n, RmP w w.heap.size (w.heap.size + 1) (picW ss) ss.length eight least res n (.bool true) W0) := ⟨_, picL ss, true, rfl, ⟨hx0, h6, a, c, ss, h7, RowOf.ext hm hx0, he, rfl, rfl, rfl⟩, hR, hlen, rfl⟩
  have hl0 := World.block_lt_of_cell? _ _ hp
  have hH1 := he.1
  have HHP : Hid (ss.length * picW ss ≤ 4096) := Nat.mul_le_mul hH hW
  clear hm he hx0 h6 h7 hR hlen
  generalize picL ss = PL at *
  generalize picW ss = W at *
  generalize ss.length = H at *
  go_enter Try.func99, Try.ntmps99
  go_wp2
  rw [← hW0]
  clear hW0 hp hl0
  go_loopw [8] (fun v wr => ∃ n, Hid (RmP w w.heap.size (w.heap.size + 1) W H eight least res n v wr)) (fun v wr => RmM w w.heap.size (w.heap.size + 1) W H eight least res v wr)
  case atStart => exact HP0.out
  case round =>
    clear HP0
    obtain ⟨n1, HP1⟩ := hrel
    obtain ⟨n, hn, HP⟩ : ∃ n, Hid (RmM w w.heap.size (w.heap.size + 1) W H eight least res u8 wr = n) ∧ Hid (RmP w w.heap.size (w.heap.size + 1) W H eight least res n u8 wr) := ⟨_, rfl, leastN_at (p := fun n => RmP w w.heap.size (w.heap.size + 1) W H eight least res n u8 wr) HP1.out⟩
    clear HP1 n1
    obtain ⟨l, again, rfl, hS, hPW, hlen, hcnt⟩ := HP.out
    have HS := Lib.hid hS
    have HPW := Lib.hid hPW
    have HLEN := Lib.hid hlen
    have HCNT := Lib.hid hcnt
    clear HP hS hPW hlen hcnt
    obtain ⟨wo, rfl⟩ : ∃ wo : World, wo = wr := ⟨_, rfl⟩
    cases again
    · have hres := HPW.out.stop
      subst hres
      obtain ⟨a7, c7, ss7, o7, r7, e7, eW, eH, eL⟩ := HS.out.pic
      have HLI : Hid (∀ w', wo.Ext w' → Calls Try.prog 137 #[.pointer (some ⟨w.heap.size + 1, 0, none⟩)] w' fun e w'' => ∃ v, e = .returned v ∧ BlSt w' v l w'') := fun w' hx => by
        have h := l01List_any (w.heap.size + 1) a7 c7 ss7 w' e7 (by omega) (by omega) (by rw [eH]; exact hx.cell o7.cell) (RowOf.ext r7 hx)
        rw [eL] at h
        exact h
      have HRL := Lib.hid (picRows_len W H l)
      have HX := Lib.hid HS.out.x
      have HO := Lib.hid HS.out.one
      have c7' := o7.cell
      clear o7 r7 e7 eW eH eL hn HPW HLEN HCNT HS
      go_wp2_with fail
      refine (HWS.out wo HX.out).mono ?_
      rintro e w1 ⟨rfl, hx1⟩
      go_wp2_with fail
      refine (HLI.out w1 hx1).mono ?_
      rintro e w2 ⟨v, rfl, hx2, hg2⟩
      obtain ⟨a2, c2, rfl, -⟩ := hg2.form
      have hrow := (GrowOf.own (n := l.length) (a := a2) (cap := c2) false hg2).row
      have HMK := Lib.hid (l01Make_any a2 c2 W H l w2 hW1 hW hH HRES.out hrow)
      have HX2 := Lib.hid (HX.out.trans (hx1.trans hx2))
      have HO2 := Lib.hid ((HO.out.ext hx1).ext hx2)
      have hl2 := HO2.out.lt
      clear hrow hg2 hx1 hx2 HX HO c7'
      go_wp2_with fail
      refine HMK.out.mono ?_
      rintro e w3 ⟨a3, c3, rfl, hx3, ho3⟩
      obtain ⟨r1, r2, r3, HRR⟩ := Res.store (.slice a3 H c3) (HX2.out.trans hx3) (Nat.le_refl _) (HO2.out.ext hx3) hl2 ho3
      clear hx3 ho3
      go_wp2
      exact bodyPost_ret (v := .agg #[.slice a3 H c3]) (by simp [results, Try.results99, go_sem, r3]) rfl ⟨a3, c3, by rw [HRL.out], HRR.out.1, HRR.out.2⟩
    · have HNX := Lib.hid HPW.out.next
      have HFL := Lib.hid ((th_falls W H eight least (H * W)).to HLEN.out (H * W) (Nat.le_refl _))
      have hN0 : pasTo (thC W H eight least) noV l 0 = l ∧ tokTo (thC W H eight least) noV l 0 = false := ⟨rfl, rfl⟩
      have HYES : Hid (∀ k, thC W H eight least (pasTo (thC W H eight least) noV l k) k = true → pasTo (thC W H eight least) noV l (k + 1) = (pasTo (thC W H eight least) noV l k).set k false ∧ tokTo (thC W H eight least) noV l (k + 1) = true) := fun k h => pas_yes h
      have HNO : Hid (∀ k, thC W H eight least (pasTo (thC W H eight least) noV l k) k = false → pasTo (thC W H eight least) noV l (k + 1) = pasTo (thC W H eight least) noV l k ∧ tokTo (thC W H eight least) noV l (k + 1) = tokTo (thC W H eight least) noV l k) := fun k h => pas_no h
      have HTL : Hid (∀ k, (pasTo (thC W H eight least) noV l k).length = H * W) := fun k => by rw [pasTo_len, HLEN.out]
      clear HPW
      generalize pasTo (thC W H eight least) noV l = L at *
      generalize tokTo (thC W H eight least) noV l = T at *
      go_wp2
      go_loopw [8, 9] (fun v m wr => ∃ y : Nat, y ≤ H ∧ m = .int .i64 y ∧ v = .bool (T (y * W)) ∧ Hid (RmSt w w.heap.size (w.heap.size + 1) W H (L (y * W)) wr)) (fun _ m _ => H - (intOf m).toNat)
      case atStart => exact ⟨0, Nat.zero_le _, rfl, by rw [Nat.zero_mul, hN0.2], by rw [Nat.zero_mul, hN0.1]; exact HS⟩
      case round =>
        obtain ⟨y, hy, rfl, rfl, HS1⟩ := hrel
        clear HS hN0
        obtain ⟨w1, rfl⟩ : ∃ w1 : World, w1 = wr := ⟨_, rfl⟩
        by_cases hlty : y < H
        · have hlty' : (y : Int) < (H : Int) := by omega
          go_wp2_with fail
          refine (HHS.out w1 HS1.out.x).mono ?_
          rintro e w2 ⟨rfl, hx2⟩
          have HS2 := Lib.hid (HS1.out.ext hx2)
          clear hx2 HS1
          go_wp2
          go_loopw [8, 10] (fun v m wr => ∃ x : Nat, x ≤ W ∧ m = .int .i64 x ∧ v = .bool (T (y * W + x)) ∧ Hid (RmSt w w.heap.size (w.heap.size + 1) W H (L (y * W + x)) wr)) (fun _ m _ => W - (intOf m).toNat)
          case atStart => exact ⟨0, Nat.zero_le _, rfl, rfl, HS2⟩
          case round =>
            clear HS2
            obtain ⟨x, hx, rfl, rfl, HS3⟩ := hrel
            obtain ⟨w3, rfl⟩ : ∃ w3 : World, w3 = wr := ⟨_, rfl⟩
            by_cases hltx : x < W
            · have hltx' : (x : Int) < (W : Int) := by omega
              go_wp2_with fail
              refine (HWS.out w3 HS3.out.x).mono ?_
              rintro e w4 ⟨rfl, hx4⟩
              have HS4 := Lib.hid (HS3.out.ext hx4)
              clear hx4 HS3
              have hK : y * W + x < H * W := by
                have := Nat.mul_le_mul_right W hlty
                rw [Nat.succ_mul] at this
                omega
              have hK4 : y * W + x < 4096 := by have := HHP.out; omega
              have HCA : Hid (thC W H eight least (L (y * W + x)) (y * W + x) = ((L (y * W + x)).getD (y * W + x) false && (decide (least ≤ nearN (pxl W H (L (y * W + x))) x y) && simpB (pxl W H (L (y * W + x))) x y eight))) := thC_at hltx
              have HYE : Hid (thC W H eight least (L (y * W + x)) (y * W + x) = true → L (y * W + (x + 1)) = (L (y * W + x)).set (y * W + x) false ∧ T (y * W + (x + 1)) = true) := HYES.out (y * W + x)
              have HN : Hid (thC W H eight least (L (y * W + x)) (y * W + x) = false → L (y * W + (x + 1)) = L (y * W + x) ∧ T (y * W + (x + 1)) = T (y * W + x)) := HNO.out (y * W + x)
              have HLK := Lib.hid (HTL.out (y * W + x))
              have HPX : Hid (pxl W H (L (y * W + x)) x y = (L (y * W + x)).getD (y * W + x) false) := pxl_at W H _ x y hltx hlty
              obtain ⟨a7, c7, ss7, o7, r7, e7, eW, eH, eL⟩ := HS4.out.pic
              have hP7 : ∀ w', w4.Ext w' → w'.cell? ⟨w.heap.size + 1, 0, none⟩ = some (.slice a7 ss7.length c7) := fun w' hx => by rw [eH]; exact hx.cell o7.cell
              have HBL : Hid (∀ w', w4.Ext w' → Calls Try.prog 94 #[.pointer (some ⟨w.heap.size + 1, 0, none⟩), .int .i64 x, .int .i64 y] w' fun e w'' => e = .returned (.bool ((L (y * W + x)).getD (y * W + x) false)) ∧ w'.Ext w'') := fun w' hx =>
                l01Black_any (w.heap.size + 1) a7 c7 ss7 x y w' e7 (by omega) (by omega) (hP7 w' hx) (RowOf.ext r7 hx) _ (by rw [eW, eH, eL]; exact HPX.out)
              have HNE : Hid (∀ w', w4.Ext w' → Calls Try.prog 189 #[.pointer (some ⟨w.heap.size + 1, 0, none⟩), .int .i64 x, .int .i64 y] w' fun e w'' => e = .returned (.int .i64 (nearN (pxl W H (L (y * W + x))) x y)) ∧ w'.Ext w'') := fun w' hx => by
                have h := l05Near_any (w.heap.size + 1) a7 c7 ss7 x y w' e7 (by omega) (by omega) (hP7 w' hx) (RowOf.ext r7 hx) (by omega) (by omega)
                rw [eW, eH, eL] at h
                exact h
              have HSI : Hid (∀ w', w4.Ext w' → Calls Try.prog 95 #[.pointer (some ⟨w.heap.size + 1, 0, none⟩), .int .i64 x, .int .i64 y, .bool eight] w' fun e w'' => e = .returned (.bool (simpB (pxl W H (L (y * W + x))) x y eight)) ∧ w'.Ext w'') := fun w' hx => by
                have h := l05Simple_any (w.heap.size + 1) a7 c7 ss7 x y eight w' e7 (by omega) (by omega) (hP7 w' hx) (RowOf.ext r7 hx) (by omega) (by omega)
                rw [eW, eH, eL] at h
                exact h
              have HLI : Hid (∀ w', w4.Ext w' → Calls Try.prog 137 #[.pointer (some ⟨w.heap.size + 1, 0, none⟩)] w' fun e w'' => ∃ v, e = .returned v ∧ BlSt w' v (L (y * W + x)) w'') := fun w' hx => by
                have h := l01List_any (w.heap.size + 1) a7 c7 ss7 w' e7 (by omega) (by omega) (hP7 w' hx) (RowOf.ext r7 hx)
                rw [eL] at h
                exact h
              have hnn := nearN_le (pxl W H (L (y * W + x))) x y
              have c7' := o7.cell
              have l7' := o7.lt
              clear hP7 o7 r7 e7 eW eH eL HPX HTL HYES HNO
              generalize nearN (pxl W H (L (y * W + x))) x y = nn at *
              generalize simpB (pxl W H (L (y * W + x))) x y eight = sb at *
              generalize L (y * W + x) = Lk at *
              generalize T (y * W + x) = Tk at *
              generalize hLk : L (y * W + (x + 1)) = Lk' at *
              generalize hTk : T (y * W + (x + 1)) = Tk' at *
              have HLk := Lib.hid hLk
              have HTk := Lib.hid hTk
              clear hLk hTk
              generalize thC W H eight least Lk (y * W + x) = tc at *
              cases hb : Lk.getD (y * W + x) false
              · have htc : tc = false := by rw [HCA.out, hb]; rfl
                obtain ⟨q1, q2⟩ := HN.out htc
                rw [hb] at HBL
                have HQ := Lib.hid (And.intro q1 q2)
                clear HYE HN HCA HNE HSI HLI hb htc q1 q2
                go_wp2_with fail
                refine (HBL.out w4 (.refl _)).mono ?_
                rintro e w5 ⟨rfl, hx5⟩
                have HS5 := Lib.hid (HS4.out.ext hx5)
                clear hx5 HS4 HBL c7' l7'
                go_wp2
                go_roundw
                case rel => exact ⟨x + 1, by omega, by go_num, by rw [HTk.out, HQ.out.2], by rw [HLk.out, HQ.out.1]; exact HS5⟩
                case measure => simp [intOf]; omega
              · rw [hb] at HBL HCA
                go_wp2_with fail
                refine (HBL.out w4 (.refl _)).mono ?_
                rintro e w5 ⟨rfl, hx5⟩
                have HX5 := Lib.hid hx5
                have c5 := hx5.cell c7'
                have l5 := World.block_lt_of_cell? _ _ c5
                clear hx5 HBL hb c7' l7'
                go_wp2_with fail
                refine (HNE.out w5 HX5.out).mono ?_
                rintro e w6 ⟨rfl, hx6⟩
                have HX6 := Lib.hid (HX5.out.trans hx6)
                have c6 := hx6.cell c5
                have l6 := World.block_lt_of_cell? _ _ c6
                clear hx6 HX5 c5 l5 HNE
                by_cases hle : least ≤ nn
                · have hle' : ¬ (nn : Int) < (least : Int) := by omega
                  go_wp2_with fail
                  refine (HSI.out w6 HX6.out).mono ?_
                  rintro e w7 ⟨rfl, hx7⟩
                  have HX7 := Lib.hid (HX6.out.trans hx7)
                  have c7 := hx7.cell c6
                  have l7 := World.block_lt_of_cell? _ _ c7
                  clear hx7 HX6 c6 l6 HSI
                  cases sb
                  · have htc : tc = false := by rw [HCA.out]; simp
                    obtain ⟨q1, q2⟩ := HN.out htc
                    have HQ := Lib.hid (And.intro q1 q2)
                    have HS5 := Lib.hid (HS4.out.ext HX7.out)
                    clear HYE HN HCA HLI htc q1 q2 HX7 HS4 c7 l7
                    go_wp2
                    go_roundw
                    case rel => exact ⟨x + 1, by omega, by go_num, by rw [HTk.out, HQ.out.2], by rw [HLk.out, HQ.out.1]; exact HS5⟩
                    case measure => simp [intOf]; omega
                  · have htc : tc = true := by rw [HCA.out]; simp [hle]
                    obtain ⟨q1, q2⟩ := HYE.out htc
                    have HQ := Lib.hid (And.intro q1 q2)
                    clear HYE HN HCA htc q1 q2
                    go_wp2_with fail
                    refine (HLI.out w7 HX7.out).mono ?_
                    rintro e w8 ⟨v, rfl, hx8, hg8⟩
                    have HX8 := Lib.hid (HX7.out.trans hx8)
                    have c8 := hx8.cell c7
                    have l8 := World.block_lt_of_cell? _ _ c8
                    have HSW := Lib.hid (HS4.out.ext HX8.out)
                    obtain ⟨g, cap, rfl, -⟩ := hg8.atI false (i := y * W + x) (by rw [HLK.out]; exact hK)
                    have HG8 := Lib.hid hg8
                    have HL7 := Lib.hid l7
                    clear hx8 hg8 HLI HX7 HX8 HS4 c7 l7
                    go_wp2_with fail
                    refine (HWS.out w8 HSW.out.x).mono ?_
                    rintro e w9 ⟨rfl, hx9⟩
                    have c9 := hx9.cell c8
                    have l9 := World.block_lt_of_cell? _ _ c9
                    have HS9 := Lib.hid (HSW.out.ext hx9)
                    have HG9 := Lib.hid (HG8.out.ext hx9)
                    obtain ⟨g', cap', hv, hlo, hc, hf, hset⟩ := HG9.out.atI false (i := y * W + x) (by rw [HLK.out]; exact hK)
                    simp only [Value.slice.injEq, Option.some.injEq, Addr.mk.injEq] at hv
                    obtain ⟨⟨rfl, -, -⟩, -, -⟩ := hv
                    have i1 : (y : Int) * (W : Int) = ((y * W : Nat) : Int) := by rw [Int.natCast_mul]
                    have n1 : 0 ≤ (y : Int) * (W : Int) := by rw [i1]; omega
                    have n2 : (y : Int) * (W : Int) + (x : Int) < 4096 := by rw [i1]; omega
                    have n3 : (y : Int) * (W : Int) + (x : Int) < (Lk.length : Int) := by rw [i1, HLK.out]; omega
                    have hl4 : (Lk.length : Int) ≤ 4096 := by rw [HLK.out]; have := HHP.out; omega
                    have e9 : ((y : Int) * (W : Int) + (x : Int)).toNat = y * W + x := by rw [i1]; omega
                    have hc' := hc
                    have hf' := hf
                    rw [← e9] at hc' hf'
                    obtain ⟨w10, hw10⟩ : ∃ w10, w10 = w9.setCell ⟨g, y * W + x, none⟩ (.bool false) := ⟨_, rfl⟩
                    have hx10 : w.Ext w10 := by rw [hw10]; exact HS9.out.x.setCell (p := ⟨g, y * W + x, none⟩) (by have := HL7.out; dsimp only; omega) _
                    have o6 : One w10 w.heap.size 26 (.slice none 0 0) := by rw [hw10]; exact HS9.out.one.other (a := ⟨g, y * W + x, none⟩) (by have := HL7.out; dsimp only; omega) _
                    obtain ⟨a9, d9, ss9, o9, -⟩ := HS9.out.pic
                    have o7 : One w10 (w.heap.size + 1) 26 (.slice a9 H d9) := by rw [hw10]; exact o9.other (a := ⟨g, y * W + x, none⟩) (by have := HL7.out; dsimp only; omega) _
                    have HR10 : Hid (RowB w10 (some ⟨g, 0, none⟩) (Lk.set (y * W + x) false)) := by
                      have h := hset false
                      rw [← hw10] at h
                      exact (GrowOf.own (n := Lk.length) (a := some ⟨g, 0, none⟩) (cap := cap) false h).row
                    have HX10 := Lib.hid hx10
                    have HO10 := Lib.hid (And.intro o6 o7)
                    clear hx10 o6 o7 hset hlo o9 HG8 HG9 HSW HS9 c8 l8 n1 i1
                    generalize Lk.getD (y * W + x) false = old at *
                    go_wp2_with fail
                    rw [← hw10]
                    clear hw10 hc hc' hf hf' c9 l9 n2 n3 e9
                    refine (HWS.out w10 HX10.out).mono ?_
                    rintro e w11 ⟨rfl, hx11⟩
                    have hmk := l01Make_any (some ⟨g, 0, none⟩) cap W H (Lk.set (y * W + x) false) w11 hW1 hW hH (by rw [List.length_set, HLK.out, Nat.mul_comm]) (RowOf.ext HR10.out hx11)
                    rw [List.length_set] at hmk
                    have HMK := Lib.hid hmk
                    have HX11 := Lib.hid (HX10.out.trans hx11)
                    have HO11 := Lib.hid (And.intro (HO10.out.1.ext hx11) (HO10.out.2.ext hx11))
                    have hl11 : w.heap.size + 1 < w11.heap.size := HO11.out.2.lt
                    clear hmk hx11 HX10 HO10 HR10
                    go_wp2_with fail
                    refine HMK.out.mono ?_
                    rintro e w12 ⟨a12, c12, rfl, hx12, ho12⟩
                    have c12' := (HO11.out.2.ext hx12).cell
                    have f12 := (HO11.out.2.ext hx12).free
                    have l12 := (HO11.out.2.ext hx12).lt
                    have HRS : Hid (RmSt w w.heap.size (w.heap.size + 1) W H Lk' (w12.setCell ⟨w.heap.size + 1, 0, none⟩ (.slice a12 H c12))) := by
                      show RmSt _ _ _ _ _ _ _
                      rw [HQ.out.1]
                      exact RmSt.put (HX11.out.trans hx12) (HO11.out.1.ext hx12) (HO11.out.2.ext hx12) (by omega) (by omega) hl11 ho12 hH1 (by rw [List.length_set, HLK.out, Nat.mul_comm])
                    clear hx12 ho12 HMK HO11 HX11
                    go_wp2
                    go_roundw
                    case rel => exact ⟨x + 1, by omega, by go_num, by rw [HTk.out, HQ.out.2], by rw [HLk.out]; exact HRS⟩
                    case measure => simp [intOf]; omega
                · have hle' : (nn : Int) < (least : Int) := by omega
                  have htc : tc = false := by rw [HCA.out]; simp [hle]
                  obtain ⟨q1, q2⟩ := HN.out htc
                  have HQ := Lib.hid (And.intro q1 q2)
                  have HS5 := Lib.hid (HS4.out.ext HX6.out)
                  clear HYE HN HCA HLI HSI htc q1 q2 HX6 HS4 c6 l6
                  go_wp2
                  go_roundw
                  case rel => exact ⟨x + 1, by omega, by go_num, by rw [HTk.out, HQ.out.2], by rw [HLk.out, HQ.out.1]; exact HS5⟩
                  case measure => simp [intOf]; omega
            · have : x = W := by omega
              subst this
              go_wp2_with fail
              refine (HWS.out w3 HS3.out.x).mono ?_
              rintro e w4 ⟨rfl, hx4⟩
              have HS4 : Hid (RmSt w w.heap.size (w.heap.size + 1) x H (L ((y + 1) * x)) w4) := by show RmSt _ _ _ _ _ _ _; rw [Nat.succ_mul]; exact HS3.out.ext hx4
              clear hx4 HS3
              go_wp2
              go_roundw
              case rel => exact ⟨y + 1, by omega, by go_num, by rw [Nat.succ_mul], HS4⟩
              case measure => simp [intOf]; omega
        · have : y = H := by omega
          subst this
          have HPN : Hid (RmP w w.heap.size (w.heap.size + 1) W y eight least res ((L (y * W)).countP id + (if T (y * W) then 1 else 0)) (.bool (T (y * W))) w1) := ⟨_, _, rfl, HS1.out, HNX.out, HTL.out _, rfl⟩
          have hlt2 : (L (y * W)).countP id + (if T (y * W) then 1 else 0) < n := by
            have h1 := HFL.out.2
            have h2 := HCNT.out
            simp only [if_true] at h2
            omega
          have HLT := Lib.hid hlt2
          clear hlt2
          go_wp2_with fail
          refine (HHS.out w1 HS1.out.x).mono ?_
          rintro e w2 ⟨rfl, hx2⟩
          have HPN2 : Hid (RmP w w.heap.size (w.heap.size + 1) W y eight least res ((L (y * W)).countP id + (if T (y * W) then 1 else 0)) (.bool (T (y * W))) w2) := ⟨_, _, rfl, HS1.out.ext hx2, HNX.out, HTL.out _, rfl⟩
          clear hx2 HS1 HPN
          go_wp2
          go_roundw
          case rel => exact ⟨_, HPN2⟩
          case measure => exact RmM_lt hn.out HPN2.out HLT.out
end Go.Proofs.Ytlcofjicpbbdhaa
