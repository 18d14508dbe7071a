/- Numbers of components: the reference's side. -/
import Derived.Test.YtmmanehdmnkekaaListS
import Derived.Test.YtmmanehdmnkekaaLab
import Derived.Test.YtmmanehdmnkekaaRecF
namespace Go.Proofs.Ytmmanehdmnkekaa
open Go.RowKit
/-- The numbers under way: of all that was there behind W3, just block g has been written. -/
def LsSt (W3 : World) (g : Nat) (xs : List Int) (wr : World) : Prop := Wrote (fun k => k = g ∨ W3.heap.size ≤ k) W3 wr ∧ BlkOf (Value.int .i64) wr g 2 xs
theorem LsSt.ext {W3 : World} {g : Nat} {xs : List Int} {wr w' : World} (h : LsSt W3 g xs wr) (hx : wr.Ext w') : LsSt W3 g xs w' := ⟨h.1.trans (hx.wrote _), h.2.ext hx⟩
theorem LsSt.set {W3 : World} {g : Nat} {xs : List Int} {wr : World} (h : LsSt W3 g xs wr) (k : Nat) (v : Int) : LsSt W3 g (xs.set k v) (wr.setCell ⟨g, k, none⟩ (.int .i64 v)) := ⟨h.1.setCell (p := ⟨g, k, none⟩) (.inl rfl) _, h.2.set k v⟩
/-- Numbers of all pixels, in reading order. -/
def numL (W H : Nat) (f : Int × Int → Nat) : List Int := (List.range (H * W)).map fun j => (f (((j % W : Nat) : Int), ((j / W : Nat) : Int)) : Int)
theorem numL_len (W H : Nat) (f : Int × Int → Nat) : (numL W H f).length = H * W := by simp [numL]
theorem numL_at (W H : Nat) (f : Int × Int → Nat) {x y : Nat} (hx : x < W) (hy : y < H) : (numL W H f).getD (y * W + x) 0 = (f ((x : Int), (y : Int)) : Int) := by
  have e1 : (y * W + x) % W = x := by rw [Nat.mul_comm, Nat.mul_add_mod, Nat.mod_eq_of_lt hx]
  have e2 : (y * W + x) / W = y := by rw [Nat.mul_comm, Nat.mul_add_div (by omega), Nat.div_eq_of_lt hx]; rfl
  have hk : y * W + x < H * W := by
    have := Nat.mul_le_mul_right W (show y + 1 ≤ H by omega)
    rw [Nat.add_mul] at this
    omega
  unfold numL
  rw [List.getD_eq_getElem?_getD, List.getElem?_map, List.getElem?_range hk]
  simp only [Option.map_some, Option.getD_some, e1, e2]
theorem numL_zero (W H : Nat) : numL W H (fun _ => 0) = List.replicate (H * W) 0 := by
  unfold numL
  apply List.ext_getElem?
  intro k
  rw [List.getElem?_map, List.getElem?_replicate]
  by_cases hk : k < H * W
  · rw [List.getElem?_range hk, if_pos hk]; rfl
  · rw [List.getElem?_eq_none (by simp; omega), if_neg hk]; rfl
/-- Of the first k pixels those of a part have the number m. -/
def mixL (W H : Nat) (g : Nat → Nat → Bool) (m : Nat) (f : Int × Int → Nat) (k : Nat) : List Int :=
  (List.range (H * W)).map fun j => if j < k ∧ g (j % W) (j / W) = true then (m : Int) else (f (((j % W : Nat) : Int), ((j / W : Nat) : Int)) : Int)
theorem mixL_len (W H : Nat) (g : Nat → Nat → Bool) (m : Nat) (f : Int × Int → Nat) (k : Nat) : (mixL W H g m f k).length = H * W := by simp [mixL]
theorem mixL_zero (W H : Nat) (g : Nat → Nat → Bool) (m : Nat) (f : Int × Int → Nat) : mixL W H g m f 0 = numL W H f := by
  unfold mixL numL
  refine List.map_congr_left fun j _ => ?_
  rw [if_neg (by omega)]
theorem mixL_all (W H : Nat) (g : Nat → Nat → Bool) (m : Nat) (f f' : Int × Int → Nat) (h : ∀ x y : Nat, x < W → y < H → (g x y = true → f' ((x : Int), (y : Int)) = m) ∧ (g x y = false → f' ((x : Int), (y : Int)) = f ((x : Int), (y : Int)))) : mixL W H g m f (H * W) = numL W H f' := by
  unfold mixL numL
  refine List.map_congr_left fun j hj => ?_
  have hj' : j < H * W := by simpa using hj
  have hW : 0 < W := by
    rcases Nat.eq_zero_or_pos W with e | e
    · rw [e] at hj'; simp at hj'
    · exact e
  have hx : j % W < W := Nat.mod_lt _ hW
  have hy : j / W < H := Nat.div_lt_of_lt_mul (by rw [Nat.mul_comm]; exact hj')
  obtain ⟨h1, h2⟩ := h _ _ hx hy
  cases hg : g (j % W) (j / W)
  · rw [if_neg (by simp), h2 hg]
  · rw [if_pos ⟨hj', rfl⟩, h1 hg]
theorem mixL_no {W H : Nat} {g : Nat → Nat → Bool} {m : Nat} {f : Int × Int → Nat} {k : Nat} (h : g (k % W) (k / W) = false) : mixL W H g m f (k + 1) = mixL W H g m f k := by
  unfold mixL
  refine List.map_congr_left fun j _ => ?_
  by_cases e : j = k
  · subst e
    rw [if_neg (by rw [h]; simp), if_neg (by omega)]
  · have : (j < k + 1 ∧ g (j % W) (j / W) = true) ↔ (j < k ∧ g (j % W) (j / W) = true) := by
      constructor <;> rintro ⟨h1, h2⟩ <;> exact ⟨by omega, h2⟩
    simp only [this]
theorem mixL_yes {W H : Nat} {g : Nat → Nat → Bool} {m : Nat} {f : Int × Int → Nat} {k : Nat} (hk : k < H * W) (h : g (k % W) (k / W) = true) : (mixL W H g m f k).set k (m : Int) = mixL W H g m f (k + 1) := by
  apply List.ext_getElem?
  intro j
  rw [List.getElem?_set]
  by_cases e : k = j
  · subst e
    rw [if_pos rfl, if_pos (by rw [mixL_len]; exact hk)]
    unfold mixL
    rw [List.getElem?_map, List.getElem?_range hk]
    simp [h]
  · rw [if_neg e]
    unfold mixL
    rw [List.getElem?_map, List.getElem?_map]
    by_cases hj : j < H * W
    · rw [List.getElem?_range hj]
      simp only [Option.map_some]
      have : (j < k + 1 ∧ g (j % W) (j / W) = true) ↔ (j < k ∧ g (j % W) (j / W) = true) := by
        constructor <;> rintro ⟨h1, h2⟩ <;> exact ⟨by omega, h2⟩
      simp only [this]
    · rw [List.getElem?_eq_none (by simp; omega)]; rfl
def LabSRet (w : World) (W H : Nat) (f : Int × Int → Nat) (n : Nat) (e : Ending) (w' : World) : Prop :=
  ∃ a c, e = .returned (.tuple #[.slice a (W * H) c, .int .i64 n]) ∧ w.Ext w' ∧ OwnOf (Value.int .i64) 0 w.heap.size w'.heap.size w' a (numL W H f)
/-- .. with just that room. -/
def LabCRet (w : World) (W H : Nat) (f : Int × Int → Nat) (n : Nat) (e : Ending) (w' : World) : Prop :=
  ∃ a, e = .returned (.tuple #[.slice a (W * H) (W * H), .int .i64 n]) ∧ w.Ext w' ∧ OwnOf (Value.int .i64) 0 w.heap.size w'.heap.size w' a (numL W H f)
theorem LabCRet.any {w w' : World} {W H n : Nat} {f : Int × Int → Nat} {e : Ending} (h : LabCRet w W H f n e w') : LabSRet w W H f n e w' := let ⟨a, h1, h2⟩ := h; ⟨a, _, h1, h2⟩
set_option maxRecDepth 5000 in
set_option maxHeartbeats 3200000 in
theorem l05Labels_cap (p : Nat) (a : Option Addr) (c : Nat) (ss : List ByteArray) (eight : Bool) (F : Int × Int → Nat) (NN : Nat) (w : World) (he : Even ss) (hW1 : 1 ≤ picW ss) (hW : picW ss ≤ 64) (hH : ss.length ≤ 64)
    (hp : w.cell? ⟨p, 0, none⟩ = some (.slice a ss.length c)) (hm : RowS w a ss)
    (hF : LabK (pxP (picW ss) ss.length (picL ss)) (nbS eight) (spotsTo (picW ss) (picL ss) (ss.length * picW ss)) (spotsTo (picW ss) (picL ss) (ss.length * picW ss)).length F NN) :
    Calls Try.prog 231 #[.pointer (some ⟨p, 0, none⟩), .bool eight] w (LabCRet w (picW ss) ss.length F NN) := by
  obtain ⟨i0, hi, hz0, hz1, hz2⟩ := info_parts Try.infoI64
  have HWS : Hid (∀ w', w.Ext w' → Calls Try.prog 212 #[.pointer (some ⟨p, 0, none⟩)] w' fun e w'' => e = .returned (.int .i64 (picW ss)) ∧ w'.Ext w'') := fun w' hx => l01Width_any p a c ss w' he.1 (by omega) (by omega) (hx.cell hp) (RowOf.ext hm hx)
  have HHS : Hid (∀ w', w.Ext w' → Calls Try.prog 211 #[.pointer (some ⟨p, 0, none⟩)] w' fun e w'' => e = .returned (.int .i64 ss.length) ∧ w'.Ext w'') := fun w' hx => l01Height_any p a c ss.length w' (by omega) (hx.cell hp)
  have HSP : Hid (∀ w', w.Ext w' → Calls Try.prog 244 #[.pointer (some ⟨p, 0, none⟩)] w' (PairsRet w' (spotsTo (picW ss) (picL ss) (ss.length * picW ss)))) := fun w' hx => l01Spots_any p a c ss w' he hW hH (hx.cell hp) (RowOf.ext hm hx)
  have HPT : Hid (∀ (w' : World) (x y : Int) (g : Nat → Nat → Bool), w.Ext w' → (-1000 ≤ x ∧ x ≤ 1000) → (-1000 ≤ y ∧ y ≤ 1000) → (∀ x' y' : Nat, x' < picW ss → y' < ss.length → (g x' y' = true ↔ Rch (pxP (picW ss) ss.length (picL ss)) (nbS eight) [(x, y)] ((x' : Int), (y' : Int)))) →
      Calls Try.prog 246 #[.pointer (some ⟨p, 0, none⟩), .agg #[.int .i64 x, .int .i64 y], .bool eight] w' (PtrRet w' (picRows (picW ss) ss.length (mkl (picW ss) ss.length g)))) := fun w' x y g hx h1 h2 hg => l05Part_any p a c ss x y eight w' he hW1 hW hH (hx.cell hp) (RowOf.ext hm hx) h1 h2 g hg
  have hH1 := he.1
  have HLI : Hid (∀ (w' : World) (p' : Nat) (a' : Option Addr) (c' : Nat) (g : Nat → Nat → Bool), w'.cell? ⟨p', 0, none⟩ = some (.slice a' (picRows (picW ss) ss.length (mkl (picW ss) ss.length g)).length c') → RowS w' a' (picRows (picW ss) ss.length (mkl (picW ss) ss.length g)) →
      Calls Try.prog 245 #[.pointer (some ⟨p', 0, none⟩)] w' fun e w'' => ∃ v, e = .returned v ∧ BlSt w' v (mkl (picW ss) ss.length g) w'') := fun w' p' a' c' g hc hr => by
    have hml : (mkl (picW ss) ss.length g).length = picW ss * ss.length := by rw [mkl_len, Nat.mul_comm]
    have h := l01List_any p' a' c' _ w' (even_rows hH1 hml) (by rw [picRows_len]; exact hH) (by rw [picW_rows hH1 hml]; exact hW) hc hr
    rw [picL_rows hml] at h
    exact h
  have HSM : Hid (∀ q, q ∈ spotsTo (picW ss) (picL ss) (ss.length * picW ss) → ∃ x y : Nat, q = ((x : Int), (y : Int)) ∧ x < picW ss ∧ y < ss.length) := fun q h => pxP_nat (spotsTo_mem.1 h)
  have hfew : (spotsTo (picW ss) (picL ss) (ss.length * picW ss)).length ≤ 4096 := spotsTo_few hW hH
  have HFF := Lib.hid hF
  clear hm he hp hF
  generalize pxP (picW ss) ss.length (picL ss) = R at *
  generalize spotsTo (picW ss) (picL ss) (ss.length * picW ss) = S at *
  generalize nbS eight = N at *
  generalize picW ss = W at *
  generalize ss.length = H at *
  have hmH : W * H ≤ 4096 := Nat.mul_le_mul hW hH
  have C1 : Hid (i0.bytes * (W * H) ≤ 281474976710656) := by show _ ≤ _; rw [hz2]; omega
  have C2 : Hid (W * H ≤ maxLen) := by show _ ≤ _; unfold maxLen; omega
  have hmi : (W : Int) * (H : Int) = ((W * H : Nat) : Int) := by rw [Int.natCast_mul]
  have hmb : (W : Int) * (H : Int) ≤ 4096 := by rw [hmi]; omega
  have hmb0 : 0 ≤ (W : Int) * (H : Int) := by rw [hmi]; omega
  have HMI := Lib.hid hmi
  have HM := Lib.hid hmH
  have HCOM : Hid (H * W = W * H) := Nat.mul_comm H W
  have HIDX : Hid (∀ X Y : Nat, X < W → Y < H → Y * W + X < W * H ∧ (Y : Int) * (W : Int) + (X : Int) < ((W * H : Nat) : Int) ∧ 0 ≤ (Y : Int) * (W : Int) ∧ (Y : Int) * (W : Int) ≤ 4096) := fun X Y hX hY => by
    have h := Nat.mul_le_mul_right W (show Y + 1 ≤ H by omega)
    rw [Nat.add_mul, Nat.one_mul, Nat.mul_comm H W] at h
    have e : (Y : Int) * (W : Int) = ((Y * W : Nat) : Int) := by rw [Int.natCast_mul]
    rw [e]
    have := HM.out
    refine ⟨by omega, by omega, by omega, by omega⟩
  clear hmi hmH
  go_enter Try.func231, Try.ntmps231
  go_wp2_with fail
  refine (HWS.out _ (.refl _)).mono ?_
  rintro e w1 ⟨rfl, hx1⟩
  go_wp2_with fail
  refine (HHS.out _ hx1).mono ?_
  rintro e w2 ⟨rfl, hx2⟩
  have HX2 := Lib.hid (hx1.trans hx2)
  clear hx1 hx2
  go_wp2_with (at_make; refine wpList_make_full _ rfl _ _ 28 rfl 0 2 i0 (.int .i64 0) 1 Try.underlying28 hi hz0 hz1 .i64 .i64 _ _ (W * H) rfl rfl HMI.out HMI.out C1.out C2.out (Nat.zero_le _) (fun w3 hown hgrow => ?_))
  have hB3 : BlkOf (Value.int .i64) w3 w2.heap.size 2 (numL W H fun _ => 0) := by
    have h := blk_of_made (f := Value.int .i64) 0 rfl hown
    rw [numL_zero, Nat.mul_comm]
    exact h
  have HX3 : Hid (w.Ext w3) := HX2.out.trans (World.Ext.made hgrow)
  have HB3 := Lib.hid hB3
  have hg3 : w.heap.size ≤ w2.heap.size := HX2.out.size
  clear hown hgrow hB3 HX2
  generalize w2.heap.size = g at *
  go_wp2_with fail
  refine (HSP.out _ HX3.out).mono ?_
  rintro e w4 ⟨sa, sc, rfl, hx4, ho4⟩
  have HROW := Lib.hid ho4.row
  have HX4 := Lib.hid (HX3.out.trans hx4)
  have HS0 : Hid (LsSt w4 g (numL W H fun _ => 0) w4) := ⟨Wrote.refl _ _, HB3.out.ext hx4⟩
  have hgl : g < w3.heap.size := HB3.out.lt
  have hs4 := hx4.size
  have HRB : Hid (∀ k' b' o', sa = some ⟨b', o', none⟩ → k' < S.length → g < b') := fun k' b' o' e hk => by
    obtain ⟨b2, o2, e1, l1, -⟩ := ho4 0 (by rw [flatP_len]; omega)
    rw [e] at e1
    simp only [Option.some.injEq, Addr.mk.injEq] at e1
    obtain ⟨rfl, -⟩ := e1
    omega
  clear hx4 ho4 HX3 HB3 HSP
  go_wp2
  go_loopw [8, 10, 11, 12] (fun v m _ _ wr => ∃ (k n : Nat) (f : Int × Int → Nat), k ≤ S.length ∧ m = .int .i64 k ∧ v = .int .i64 n ∧ Hid (LabK R N S k f n) ∧ Hid (LsSt w4 g (numL W H f) wr)) (fun _ m _ _ _ => S.length - (intOf m).toNat)
  case atStart => exact ⟨0, 0, fun _ => 0, Nat.zero_le _, rfl, rfl, LabK.init, HS0⟩
  case round =>
    obtain ⟨k, n, f, hk, rfl, rfl, HL, HS⟩ := hrel
    clear HS0
    obtain ⟨w5, rfl⟩ : ∃ w5 : World, w5 = wr := ⟨_, rfl⟩
    by_cases hltk : k < S.length
    · have hltk' : (k : Int) < (S.length : Int) := by omega
      obtain ⟨b0, o0, rfl, c0, c1⟩ := HROW.out.at hltk
      have hb0 := HRB.out k b0 o0 rfl hltk
      have hb0l := World.block_lt_of_cell? _ _ c0
      dsimp only at hb0l
      obtain ⟨X, Y, hXY, hX, hY⟩ := HSM.out _ (getD_mem hltk)
      have hnk : n ≤ k := HL.out.few.1
      have HSK : Hid (0 < f (S.getD k (0, 0)) → LabK R N S (k + 1) f n) := fun h => HL.out.skip h
      have HAD : Hid (f (S.getD k (0, 0)) = 0 → ∀ f', (∀ q, (Rch R N [S.getD k (0, 0)] q → f' q = n + 1) ∧ (¬ Rch R N [S.getD k (0, 0)] q → f' q = f q)) → LabK R N S (k + 1) f' (n + 1)) := fun h f' h' => HL.out.add h h'
      rw [hXY] at c0 c1 HSK HAD
      dsimp only at c0 c1
      have HC0 : Hid (∀ w' : World, Wrote (fun k => k = g ∨ w4.heap.size ≤ k) w4 w' → w'.cell? ⟨b0, o0 + k * 2, none⟩ = some (.int .i64 X) ∧ w'.cell? ⟨b0, o0 + k * 2 + 1, none⟩ = some (.int .i64 Y)) := fun w' hw => ⟨hw.cell c0 (by dsimp only; omega), hw.cell c1 (by dsimp only; omega)⟩
      clear c0 c1 hXY HL hb0 hb0l
      obtain ⟨c0, c1⟩ := HC0.out w5 HS.out.1
      obtain ⟨n1, n2, n3, n4⟩ := HIDX.out X Y hX hY
      have hcell := HS.out.2.cell 0 (i := Y * W + X) (by rw [numL_len, HCOM.out]; exact n1)
      rw [numL_at W H f hX hY] at hcell
      have hcell2 := hcell
      rw [← sameNat] at hcell2
      by_cases hfp : 0 < f ((X : Int), (Y : Int))
      · have HL2 := Lib.hid (HSK.out hfp)
        have hfp' : (0 : Int) < (f ((X : Int), (Y : Int)) : Int) := by omega
        clear HSK HAD hfp
        generalize (f ((X : Int), (Y : Int)) : Int) = m at *
        go_wp2_with fail
        refine wp_region_over_lit (by kernel_rfl) (by kernel_rfl) ?_; (repeat (go_big_quiet_step (fail))); refine wpQuiet_nil ?_; rintro _ ⟨x1, rfl⟩
        have HS2 := Lib.hid (HS.out.ext ⟨x1, rfl⟩)
        clear HS
        generalize w5.over x1 = w6 at *
        clear hcell hcell2 c0 c1
        go_wp2
        go_roundw
        case rel => exact ⟨k + 1, n, f, by omega, by go_num, rfl, HL2, HS2⟩
        case measure => simp [intOf]; omega
      · have hf0 : f ((X : Int), (Y : Int)) = 0 := by omega
        rw [hf0] at hcell hcell2
        have HADD := Lib.hid (HAD.out hf0)
        obtain ⟨G, hG⟩ : ∃ G : Nat → Nat → Bool, ∀ x' y' : Nat, x' < W → y' < H → (G x' y' = true ↔ Rch R N [((X : Int), (Y : Int))] ((x' : Int), (y' : Int))) :=
          ⟨fun x' y' => @decide (Rch R N [((X : Int), (Y : Int))] ((x' : Int), (y' : Int))) (Classical.propDecidable _), fun x' y' _ _ => by simp⟩
        have HGG := Lib.hid hG
        have HPX : Hid (∀ w', w.Ext w' → Calls Try.prog 246 #[.pointer (some ⟨p, 0, none⟩), .agg #[.int .i64 X, .int .i64 Y], .bool eight] w' (PtrRet w' (picRows W H (mkl W H G)))) := fun w' hx => HPT.out w' X Y G hx (by omega) (by omega) hG
        clear HSK HAD hfp hf0 hG
        go_wp2_with fail
        refine wp_region_over_lit (by kernel_rfl) (by kernel_rfl) ?_; (repeat (go_big_quiet_step (fail))); refine wpQuiet_nil ?_; rintro _ ⟨x1, rfl⟩
        have HS2 := Lib.hid (HS.out.ext ⟨x1, rfl⟩)
        clear HS
        generalize w5.over x1 = w6 at *
        clear hcell hcell2 c0 c1
        obtain ⟨c0, c1⟩ := HC0.out w6 HS2.out.1
        have HX6 := Lib.hid (HX4.out.wroteNew HS2.out.1 (fun k hk => by omega))
        go_wp2_with fail
        refine (HPX.out w6 HX6.out).mono ?_
        rintro e w7 ⟨p7, a7, c7, rfl, hx7, hc7, hr7⟩
        have HC7 := Lib.hid (HLI.out w7 p7 a7 c7 G hc7 hr7)
        have HS7 := Lib.hid (HS2.out.ext hx7)
        clear hx7 hc7 hr7 c0 c1 HS2 HX6 HPX
        go_wp2_with fail
        refine HC7.out.mono ?_
        rintro e w8 ⟨v8, rfl, hx8, hg8⟩
        have hl8 : (mkl W H G).length = W * H := by rw [mkl_len, Nat.mul_comm]
        obtain ⟨a11, c11, rfl, -⟩ := hg8.form
        rw [hl8]
        have HR8 := Lib.hid (hg8.own false).row
        have HB8 : Hid (∀ b' o', a11 = some ⟨b', o', none⟩ → 0 < W * H → g < b') := fun b' o' e hp => by
          obtain ⟨b2, o2, e1, l1, -⟩ := (hg8.own false) 0 (by rw [hl8]; exact hp)
          rw [e] at e1
          simp only [Option.some.injEq, Addr.mk.injEq] at e1
          obtain ⟨rfl, -⟩ := e1
          have := HS7.out.1.size
          omega
        have HS8 := Lib.hid (HS7.out.ext hx8)
        have HI0 : Hid (LsSt w8 g (mixL W H G (n + 1) f 0) w8) := ⟨Wrote.refl _ _, by rw [mixL_zero]; exact HS8.out.2⟩
        have hwl : w4.heap.size ≤ w8.heap.size := HS8.out.1.size
        clear hx8 hg8 HS7 HC7
        go_wp2
        go_loopw [12, 57] (fun _ m wr => ∃ j : Nat, j ≤ W * H ∧ m = .int .i64 j ∧ Hid (LsSt w8 g (mixL W H G (n + 1) f j) wr)) (fun _ m _ => W * H - (intOf m).toNat)
        case atStart => exact ⟨0, Nat.zero_le _, rfl, HI0⟩
        case round =>
          clear HI0
          obtain ⟨j, hj, rfl, HS⟩ := hrel
          obtain ⟨w9, rfl⟩ : ∃ w9 : World, w9 = wr := ⟨_, rfl⟩
          by_cases hltj : j < W * H
          · have hltj' : (j : Int) < ((W * H : Nat) : Int) := by omega
            have hj0 : (0 : Int) ≤ (j : Int) := by omega
            obtain ⟨b8, o8, rfl, d0⟩ := HR8.out j (by rw [hl8]; exact hltj)
            have hb8 := HB8.out b8 o8 rfl (by omega)
            have hb8l := World.block_lt_of_cell? _ _ d0
            dsimp only at hb8l
            have hW0 : 0 < W := hW1
            have hjx : j % W < W := Nat.mod_lt _ hW0
            have hjy : j / W < H := Nat.div_lt_of_lt_mul hltj
            have hje : j / W * W + j % W = j := by rw [Nat.mul_comm]; exact Nat.div_add_mod j W
            have hat := mkl_at W H G _ _ hjx hjy
            rw [hje] at hat
            rw [hat] at d0
            replace d0 := HS.out.1.cell d0 (by dsimp only; omega)
            clear hjx hjy hje hat hb8 hb8l
            cases hb : G (j % W) (j / W)
            · rw [hb] at d0
              have HS3 : Hid (LsSt w8 g (mixL W H G (n + 1) f (j + 1)) w9) := by
                show LsSt _ _ _ _
                rw [mixL_no hb]
                exact HS.out
              clear hb HS
              go_wp2
              go_roundw
              case rel => exact ⟨j + 1, by omega, by go_num, HS3⟩
              case measure => simp [intOf]; omega
            · rw [hb] at d0
              have hml : (mixL W H G (n + 1) f j).length = W * H := by rw [mixL_len, Nat.mul_comm]
              have e0 := HS.out.2.cell 0 (i := j) (by rw [hml]; exact hltj)
              have ef := HS.out.2.free j
              have HS3 : Hid (LsSt w8 g (mixL W H G (n + 1) f (j + 1)) (w9.setCell ⟨g, j, none⟩ (.int .i64 ((n : Int) + 1)))) := by
                have h := HS.out.set j ((n + 1 : Nat) : Int)
                rw [mixL_yes (by rw [HCOM.out]; exact hltj) hb, Int.natCast_add] at h
                exact h
              clear hb HS hml
              generalize (mixL W H G (n + 1) f j).getD j 0 = m0 at e0
              go_wp2
              go_roundw
              case rel => exact ⟨j + 1, by omega, by go_num, HS3⟩
              case measure => simp [intOf]; omega
          · have : j = W * H := by omega
            subst this
            obtain ⟨f', hf'⟩ : ∃ f' : Int × Int → Nat, ∀ q, (Rch R N [((X : Int), (Y : Int))] q → f' q = n + 1) ∧ (¬ Rch R N [((X : Int), (Y : Int))] q → f' q = f q) :=
              ⟨fun q => @ite _ (Rch R N [((X : Int), (Y : Int))] q) (Classical.propDecidable _) (n + 1) (f q), fun q => ⟨fun h => @if_pos _ (Classical.propDecidable _) h _ _ _, fun h => @if_neg _ (Classical.propDecidable _) h _ _ _⟩⟩
            have hsame : mixL W H G (n + 1) f (W * H) = numL W H f' := by
              rw [Nat.mul_comm]
              exact mixL_all W H G (n + 1) f f' fun x y hx hy => ⟨fun h => (hf' _).1 ((HGG.out x y hx hy).1 h), fun h => (hf' _).2 fun h2 => by rw [(HGG.out x y hx hy).2 h2] at h; cases h⟩
            have HS3 : Hid (LsSt w4 g (numL W H f') w9) := by
              refine ⟨HS8.out.1.trans (HS.out.1.mono fun k hk hs => ?_), by rw [← hsame]; exact HS.out.2⟩
              omega
            have HL3 := Lib.hid (HADD.out f' hf')
            clear HS hsame hf' HADD
            go_wp2
            go_roundw
            case rel => exact ⟨k + 1, n + 1, f', by omega, by go_num, by rw [Int.natCast_add]; rfl, HL3, HS3⟩
            case measure => simp [intOf]; omega
    · have : k = S.length := by omega
      subst this
      obtain ⟨hu1, hu2⟩ := LabK.uniq HL.out HFF.out
      subst hu2
      have hu3 : f = F := funext hu1
      subst hu3
      have HR : Hid (LabCRet w W H f n (.returned (.tuple #[.slice (some ⟨g, 0, none⟩) (W * H) (W * H), .int .i64 n])) w5) := ⟨some ⟨g, 0, none⟩, rfl, HX4.out.wroteNew HS.out.1 (fun k hk => by omega), HS.out.2.own 0 hg3 (Nat.le_refl _)⟩
      clear HS HL hu1 HFF
      go_wp2
      go_ret2
      exact HR.out
theorem l05Labels_any (p : Nat) (a : Option Addr) (c : Nat) (ss : List ByteArray) (eight : Bool) (F : Int × Int → Nat) (NN : Nat) (w : World) (he : Even ss) (hW1 : 1 ≤ picW ss) (hW : picW ss ≤ 64) (hH : ss.length ≤ 64)
    (hp : w.cell? ⟨p, 0, none⟩ = some (.slice a ss.length c)) (hm : RowS w a ss)
    (hF : LabK (pxP (picW ss) ss.length (picL ss)) (nbS eight) (spotsTo (picW ss) (picL ss) (ss.length * picW ss)) (spotsTo (picW ss) (picL ss) (ss.length * picW ss)).length F NN) :
    Calls Try.prog 231 #[.pointer (some ⟨p, 0, none⟩), .bool eight] w (LabSRet w (picW ss) ss.length F NN) :=
  (l05Labels_cap p a c ss eight F NN w he hW1 hW hH hp hm hF).mono fun _ _ h => h.any
end Go.Proofs.Ytmmanehdmnkekaa
