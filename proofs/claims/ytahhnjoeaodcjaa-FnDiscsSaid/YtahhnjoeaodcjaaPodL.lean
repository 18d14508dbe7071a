/- FnDiscs: what the law asks, packed. -/
import Derived.Test.YtahhnjoeaodcjaaPodP
import Derived.Test.YtahhnjoeaodcjaaRunT
import Derived.Test.YtahhnjoeaodcjaaFewI
namespace Go.Proofs.Ytahhnjoeaodcjaa
open Go Go.RowKit
set_option maxHeartbeats 400000 in
theorem r8AtD_any (a : Option Addr) (c : Nat) (zs : List Int) (i : Nat) (n : Int) (w : World) (_ : i ≤ 1000) (h : CodeAt w a zs) :
    Calls Try.prog 66 #[.slice a zs.length c, .int .i64 i, .int .i64 n] w fun e w' => ∃ r : Int, e = .returned (.int .i64 r) ∧ w.Ext w' ∧ 0 ≤ r ∧ (r < n ∨ r = 0) := by
  by_cases h1 : n ≤ 1
  · go_enter Try.func66, Try.ntmps66
    go_wp2
    go_ret
    exact ⟨0, rfl, .refl _, by omega, .inr rfl⟩
  · by_cases h2 : i < zs.length
    · have h2' : ¬ (zs.length : Int) ≤ (i : Int) := by omega
      have h2'' : (i : Int) < (zs.length : Int) := by omega
      obtain ⟨b, o, rfl, hc⟩ := h.1 i h2
      obtain ⟨z0, z1⟩ := h.2.1 _ (getD_memZ h2)
      have hl := h.2.2
      clear h
      generalize zs.getD i 0 = z at hc z0 z1
      have HM : Hid (0 ≤ z % n ∧ z % n < n) := ⟨Int.emod_nonneg _ (by omega), Int.emod_lt_of_pos _ (by omega)⟩
      go_enter Try.func66, Try.ntmps66
      go_wp2
      go_ret
      exact ⟨_, rfl, .refl _, HM.out.1, .inl HM.out.2⟩
    · have h2' : (zs.length : Int) ≤ (i : Int) := by omega
      have hl := h.2.2
      clear h
      go_enter Try.func66, Try.ntmps66
      go_wp2
      go_ret
      exact ⟨0, rfl, .refl _, by omega, .inr rfl⟩
theorem pic_bndD {W H : Nat} {s : List ByteArray} (hs : PicOf W H s) (hW : W ≤ 16) (hH : H ≤ 16) : PicBnd s := ⟨by rw [hs.2.1]; omega, fun y => by
  by_cases hy : y < s.length
  · rw [(picOk_spec hs.1).2.2.2.2.1.2 y hy, hs.2.2]; omega
  · rw [List.getD_eq_getElem?_getD, List.getElem?_eq_none (by omega)]; simp⟩
theorem mkl_full {W H : Nat} (hW1 : 1 ≤ W) (g : Nat → Nat → Bool) (L : List Bool) (hl : L.length = W * H) (hg : ∀ x y, x < W → y < H → g x y = L.getD (y * W + x) false) : mkl W H g = L := by
  apply List.ext_getElem (by rw [mkl_len, hl, Nat.mul_comm])
  intro k h1 h2
  have h1' : k < W * H := by rw [mkl_len, Nat.mul_comm] at h1; exact h1
  have hx : k % W < W := Nat.mod_lt _ (by omega)
  have hy : k / W < H := Nat.div_lt_of_lt_mul h1'
  have hk : k / W * W + k % W = k := by rw [Nat.mul_comm]; exact Nat.div_add_mod k W
  have e1 := mkl_at W H g _ _ hx hy
  rw [hg _ _ hx hy, hk, List.getD_eq_getElem?_getD, List.getElem?_eq_getElem h1, List.getD_eq_getElem?_getD, List.getElem?_eq_getElem h2] at e1
  exact e1
/-- Whether a pixel, by its number in the frame, is white and just as far off as the radius. -/
def hitI (kind : Int) (W H : Nat) (l : List Bool) (d : Int × Int × Int) (i : Nat) : Bool := decide (farI kind (d.1, d.2.1) (((i % (W + 2) : Nat) : Int) - 1, ((i / (W + 2) : Nat) : Int) - 1) = d.2.2) && !pxl W H l (((i % (W + 2) : Nat) : Int) - 1) (((i / (W + 2) : Nat) : Int) - 1)
def seenTo (kind : Int) (W H : Nat) (l : List Bool) (d : Int × Int × Int) (n : Nat) : Bool := (List.range n).any (hitI kind W H l d)
theorem seenTo_succ {kind : Int} {W H : Nat} {l : List Bool} {d : Int × Int × Int} {a b : Nat} (ha : a < W + 2) : seenTo kind W H l d (b * (W + 2) + a + 1) = (seenTo kind W H l d (b * (W + 2) + a) || (decide (farI kind (d.1, d.2.1) ((a : Int) - 1, (b : Int) - 1) = d.2.2) && !pxl W H l ((a : Int) - 1) ((b : Int) - 1))) := by
  have e1 : (b * (W + 2) + a) % (W + 2) = a := by rw [Nat.mul_comm, Nat.mul_add_mod, Nat.mod_eq_of_lt ha]
  have e2 : (b * (W + 2) + a) / (W + 2) = b := by rw [Nat.mul_comm, Nat.mul_add_div (by omega), Nat.div_eq_of_lt ha]; rfl
  unfold seenTo
  rw [any_range_succ]
  unfold hitI
  rw [e1, e2]
theorem seenTo_all {kind : Int} {W H : Nat} {l : List Bool} {d : Int × Int × Int} (h : DskAt kind W H l d) : seenTo kind W H l d ((H + 2) * (W + 2)) = true := by
  obtain ⟨a, b, ha, hb, h1, h2⟩ := h.hit
  unfold seenTo
  rw [List.any_eq_true]
  refine ⟨b * (W + 2) + a, List.mem_range.2 ?_, ?_⟩
  · have := Nat.mul_le_mul_right (W + 2) (show b + 1 ≤ H + 2 by omega)
    rw [Nat.succ_mul] at this
    omega
  · have e1 : (b * (W + 2) + a) % (W + 2) = a := by rw [Nat.mul_comm, Nat.mul_add_mod, Nat.mod_eq_of_lt ha]
    have e2 : (b * (W + 2) + a) / (W + 2) = b := by rw [Nat.mul_comm, Nat.mul_add_div (by omega), Nat.div_eq_of_lt ha]; rfl
    unfold hitI
    rw [e1, e2, h1, h2]
    simp
/-- What the law asks of the discs of a picture. -/
structure PodOk (kind : Int) (W H : Nat) (ss : List ByteArray) (ds fs : List (Int × Int × Int)) : Prop where
  okD : DsOk W H ds
  okF : DsOk W H fs
  paint : picRows W H (mkl W H (anyD kind ds)) = ss
  few : picRows W H (mkl W H (anyD kind fs)) = ss
  at_ : ∀ i, i < ds.length → DskAt kind W H (picL ss) (ds.getD i (0, 0, 0))
  sub : fs.Sublist ds
  len : ds.length ≤ 256
theorem podOk {kind : Int} {W H : Nat} {ss : List ByteArray} (hs : PicOf W H ss) (hW1 : 1 ≤ W) (hW : W ≤ 16) (hH : H ≤ 16) : PodOk kind W H ss (dscL kind W H (picL ss)) (fewD kind W H (picL ss)) := by
  obtain ⟨k1, k2, k3⟩ := hs
  have ls : (picL ss).length = W * H := by rw [picL_len (picOk_spec k1).2.2.2.2.1, k2, k3, Nat.mul_comm]
  have sf := pic_self k1
  rw [k2, k3] at sf
  have hlen : (dscL kind W H (picL ss)).length ≤ 256 := Nat.le_trans (dscL_len kind W H (picL ss)) (Nat.mul_le_mul hH hW)
  have hsub := fewD_sub kind W H (picL ss)
  refine ⟨dsOk_of hlen fun d hd => dscL_at (by omega) hH hd, dsOk_of (Nat.le_trans hsub.length_le hlen) fun d hd => fewD_at (by omega) hH hd, ?_, ?_, fun i hi => ?_, hsub, hlen⟩
  · rw [mkl_full hW1 _ _ ls fun x y hx hy => dscL_paint (by omega) hH hx hy]; exact sf
  · rw [mkl_full hW1 _ _ ls fun x y hx hy => fewD_paint (by omega) hH hx hy]; exact sf
  · refine dscL_at (by omega) hH ?_
    rw [List.getD_eq_getElem?_getD, List.getElem?_eq_getElem hi]
    exact List.getElem_mem hi
theorem mat_grdD {w : World} {a : Option Addr} {A : Nat → Option Addr} {C : Nat → Nat} {W H : Nat} {g : Nat → Nat → Int} (h : MatAt w a A C (grd W H g)) {x y : Nat} (hx : x < W) (hy : y < H) :
    ∃ b o bk ok ck, a = some ⟨b, o, none⟩ ∧ w.cell? ⟨b, o + y, none⟩ = some (.slice (some ⟨bk, ok, none⟩) W ck) ∧ w.cell? ⟨bk, ok + x, none⟩ = some (.int .i64 (g x y)) := by
  obtain ⟨⟨b, o, e, hc⟩, hr⟩ := h y (by rw [grd_len]; exact hy)
  rw [grd_row hy, grdRow_len] at hc
  rw [grd_row hy] at hr
  obtain ⟨bk, ok, eA, q⟩ := hr x (by rw [grdRow_len]; exact hx)
  rw [eA] at hc
  rw [grdRow_at hx] at q
  exact ⟨b, o, bk, ok, _, e, hc, q⟩
end Go.Proofs.Ytahhnjoeaodcjaa
