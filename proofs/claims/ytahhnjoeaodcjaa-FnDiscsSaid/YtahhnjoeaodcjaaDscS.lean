/- Discs: what they have; the reference's discs of a picture. -/
import Derived.Test.YtahhnjoeaodcjaaDscP
import Derived.Test.YtahhnjoeaodcjaaLDs
import Derived.Test.YtahhnjoeaodcjaaGwP
import Derived.Test.YtahhnjoeaodcjaaDepF
namespace Go.Proofs.Ytahhnjoeaodcjaa
open Go Go.RowKit
def hasT (kind : Int) (d : Int × Int × Int) (x y : Int) : Bool := decide (farI kind (d.1, d.2.1) (x, y) < d.2.2)
/-- The discs of all black pixels. -/
def dOf (kind : Int) (W H : Nat) (l : List Bool) (q : Int × Int) : Int × Int × Int := (q.1, q.2, depI kind W H l q.1.toNat q.2.toNat)
def dscTo (kind : Int) (W H : Nat) (l : List Bool) (k : Nat) : List (Int × Int × Int) := (spotsTo W l k).map (dOf kind W H l)
def hasH (kind : Int) (W : Nat) (D : List (Int × Int × Int)) (k p : Nat) : Bool := hasT kind (D.getD k (0, 0, 0)) ((p % W : Nat) : Int) ((p / W : Nat) : Int)
def pickD (D : List (Int × Int × Int)) (js : List Nat) : List (Int × Int × Int) := js.map fun j => D.getD j (0, 0, 0)
/-- Those of the first k that are kept. -/
def dscK (kind : Int) (W H : Nat) (D : List (Int × Int × Int)) (k : Nat) : List Nat := keptL (hasH kind W D) D.length (H * W) k
def dscL (kind : Int) (W H : Nat) (l : List Bool) : List (Int × Int × Int) := pickD (dscTo kind W H l (H * W)) (dscK kind W H (dscTo kind W H l (H * W)) (dscTo kind W H l (H * W)).length)
theorem dscTo_no {kind : Int} {W H : Nat} {l : List Bool} {k : Nat} (h : l.getD k false = false) : dscTo kind W H l (k + 1) = dscTo kind W H l k := by unfold dscTo; rw [spotsTo_no h]
theorem dscTo_yes {kind : Int} {W H : Nat} {l : List Bool} {x y : Nat} (hx : x < W) (h : l.getD (y * W + x) false = true) : dscTo kind W H l (y * W + x + 1) = dscTo kind W H l (y * W + x) ++ [((x : Int), (y : Int), depI kind W H l x y)] := by
  unfold dscTo
  rw [spotsTo_yes hx h, List.map_append]
  rfl
theorem dscTo_len (kind : Int) (W H : Nat) (l : List Bool) (k : Nat) : (dscTo kind W H l k).length ≤ k := by
  unfold dscTo
  rw [List.length_map]
  exact spotsTo_len W l k
theorem dep_pos {kind : Int} {W H : Nat} {l : List Bool} {x y : Nat} (hx : x < W) (hy : y < H) : decide (0 < depI kind W H l x y) = l.getD (y * W + x) false := shrink_zero hx hy
theorem dep_le {kind : Int} {W H : Nat} {l : List Bool} (hW : W ≤ 38) (hH : H ≤ 38) {x y : Nat} (hx : x < W) (hy : y < H) : depI kind W H l x y ≤ 20000 := by
  unfold depI depthTo
  rcases leastF (kind := kind) (p := ((x : Int), (y : Int))) (spotsP (W + 2) (whiteP W H l) ((H + 2) * (W + 2))) with ⟨-, e⟩ | ⟨-, ⟨q, hq, e⟩, -⟩
  · rw [e]; omega
  · rw [← e]
    have h := spotsP_near (W + 2) (H + 2) (whiteP W H l) (by omega) (by omega) q hq
    exact (farI_bd kind (by dsimp only; omega) (by dsimp only; omega) (by omega) (by omega)).2
/-- A disc within a picture: its centre is one of the pixels, and it has it. -/
def InD (W H : Nat) (d : Int × Int × Int) : Prop := ∃ x y : Nat, x < W ∧ y < H ∧ d.1 = x ∧ d.2.1 = y ∧ 0 < d.2.2 ∧ d.2.2 ≤ 20000
theorem dscTo_in {kind : Int} {W H : Nat} {l : List Bool} (hW : W ≤ 38) (hH : H ≤ 38) {d : Int × Int × Int} (h : d ∈ dscTo kind W H l (H * W)) : InD W H d := by
  unfold dscTo at h
  obtain ⟨q, hq, rfl⟩ := List.mem_map.1 h
  have hp := spotsTo_mem.1 hq
  obtain ⟨x, y, rfl, hx, hy⟩ := pxP_nat hp
  unfold pxP at hp
  rw [pxl_at _ _ _ _ _ hx hy, ← dep_pos (kind := kind) hx hy, decide_eq_true_eq] at hp
  exact ⟨x, y, hx, hy, rfl, rfl, hp, dep_le hW hH hx hy⟩
theorem hasT_own {kind : Int} {W H : Nat} {d : Int × Int × Int} (h : InD W H d) : hasT kind d d.1 d.2.1 = true := by
  obtain ⟨x, y, hx, hy, e1, e2, h1, -⟩ := h
  unfold hasT
  rw [(farI_zero kind _ _).2 rfl, decide_eq_true_eq]
  exact h1
/-- Of two discs, by their pixels. -/
theorem subH_at {kind : Int} {W H : Nat} {D : List (Int × Int × Int)} {a b : Nat} : subH (hasH kind W D) (H * W) a b = true ↔ ∀ x y : Nat, x < W → y < H → hasT kind (D.getD a (0, 0, 0)) x y = true → hasT kind (D.getD b (0, 0, 0)) x y = true := by
  rw [subH_true]
  constructor
  · intro h x y hx hy ha
    have e1 : (y * W + x) % W = x := by rw [Nat.mul_comm, Nat.mul_add_mod, Nat.mod_eq_of_lt hx]
    have e2 : (y * W + x) / W = y := by rw [Nat.mul_comm, Nat.mul_add_div (by omega), Nat.div_eq_of_lt hx]; rfl
    have := h (y * W + x) (by
      have := Nat.mul_le_mul_right W (show y + 1 ≤ H by omega)
      rw [Nat.add_mul] at this
      omega)
    unfold hasH at this
    rw [e1, e2] at this
    exact this ha
  · intro h p hp ha
    have hW0 : 0 < W := by
      rcases Nat.eq_zero_or_pos W with e | e
      · rw [e] at hp; simp at hp
      · exact e
    exact h _ _ (Nat.mod_lt _ hW0) (Nat.div_lt_of_lt_mul (by rw [Nat.mul_comm]; exact hp)) ha
theorem subH_centre {kind : Int} {W H : Nat} {D : List (Int × Int × Int)} {a b : Nat} (ha : InD W H (D.getD a (0, 0, 0))) (h : hasT kind (D.getD b (0, 0, 0)) (D.getD a (0, 0, 0)).1 (D.getD a (0, 0, 0)).2.1 = false) : subH (hasH kind W D) (H * W) a b = false := by
  cases hs : subH (hasH kind W D) (H * W) a b
  · rfl
  · have h1 := hasT_own (kind := kind) ha
    obtain ⟨x, y, hx, hy, e1, e2, -⟩ := ha
    rw [e1, e2] at h h1
    rw [subH_at.1 hs x y hx hy h1] at h
    cases h
/-- A list of discs under way. -/
def DlSt (w : World) (v : Value) (ds : List (Int × Int × Int)) (wr : World) : Prop := w.Ext wr ∧ GrowD w.heap.size 98 wr v ds
theorem DlSt.next {w w2 : World} {v : Value} {ds es : List (Int × Int × Int)} {d : Int × Int × Int} (h : DlSt w v ds w2) (e : es = ds ++ [d]) {o : Obj} {v' : Value} {w1 : World} (hgrow : (w2.alloc o).grownBy w1 v.ownBlock)
    (hown : w1.ownsRow w.heap.size 98 3 v' (ds.length + 1) ((flatD ds).map (Value.int .i64) ++ [.int .i64 d.1, .int .i64 d.2.1, .int .i64 d.2.2])) : DlSt w v' es w1 :=
  ⟨World.ownsRow.pushExt h.2 h.1 hgrow, by rw [e]; exact GrowD.push hown⟩
theorem DlSt.ext {w w1 w2 : World} {v : Value} {ds : List (Int × Int × Int)} (h : DlSt w v ds w1) (hx : w1.Ext w2) : DlSt w v ds w2 := ⟨h.1.trans hx, h.2.ext hx⟩
theorem Try.infoDisc : (Try.prog.info? 98).map (fun i => (i.zero, i.size, i.bytes)) = some (some (.agg #[.int .i64 0, .int .i64 0, .int .i64 0]), 3, 24) := by kernel_rfl
/-- Discs are returned, in new memory. -/
def DiscsRet (w : World) (ds : List (Int × Int × Int)) (e : Ending) (w' : World) : Prop := ∃ a c, e = .returned (.slice a ds.length c) ∧ w.Ext w' ∧ OwnD w.heap.size w'.heap.size w' a ds
set_option maxRecDepth 5000 in
set_option maxHeartbeats 800000 in
theorem l06Holds_any (kind d1 d2 d3 x y : Int) (w : World) (h1 : -50 ≤ d1 ∧ d1 ≤ 50) (h2 : -50 ≤ d2 ∧ d2 ≤ 50) (h3 : -50 ≤ x ∧ x ≤ 50) (h4 : -50 ≤ y ∧ y ≤ 50) (t : Bool) (ht : hasT kind (d1, d2, d3) x y = t) :
    Calls Try.prog 160 #[.int .i64 kind, .agg #[.int .i64 d1, .int .i64 d2, .int .i64 d3], .int .i64 x, .int .i64 y] w fun e w' => e = .returned (.bool t) ∧ w.Ext w' := by
  obtain ⟨W0, hW0⟩ : ∃ W0, W0 = w.alloc (.cells #[.int .i64 d1, .int .i64 d2, .int .i64 d3] 98) := ⟨_, rfl⟩
  have hx0 : w.Ext W0 := by rw [hW0]; repeat (first | exact World.Ext.refl _ | exact ⟨_, rfl⟩ | assumption | refine World.Ext.over ?_ _ | refine World.Ext.drewN ?_ _ | refine World.Ext.drew ?_ | refine World.Ext.alloc ?_ _ | refine World.Ext.setCell ?_ (by simp) _)
  have c0 : W0.cell? ⟨w.heap.size, 0, none⟩ = some (.int .i64 d1) := by rw [hW0]; simp [go_sem]
  have c1 : W0.cell? ⟨w.heap.size, 1, none⟩ = some (.int .i64 d2) := by rw [hW0]; simp [go_sem]
  have c2 : W0.cell? ⟨w.heap.size, 2, none⟩ = some (.int .i64 d3) := by rw [hW0]; simp [go_sem]
  have l0 := World.block_lt_of_cell? _ _ c0
  have HF := Lib.hid (fun w' => l06Far_any kind d1 d2 x y w' h1 h2 h3 h4 _ rfl)
  have HT : Hid (t = decide (farI kind (d1, d2) (x, y) < d3)) := ht.symm
  have HX0 := Lib.hid hx0
  clear ht h1 h2 h3 h4 hx0
  generalize farI kind (d1, d2) (x, y) = F at *
  go_enter Try.func160, Try.ntmps160
  go_wp2_with fail
  rw [← hW0]
  clear hW0
  refine wp_region_over_lit (by kernel_rfl) (by kernel_rfl) ?_; (repeat (go_big_quiet_step ((go_at_call 217; exact Calls.over_of (HF.out _))))); refine wpQuiet_nil ?_; rintro _ ⟨x1, rfl⟩
  have HX := Lib.hid (HX0.out.over x1)
  clear c0 c1 c2 l0
  go_wp2
  go_ret
  exact ⟨ret_bool HT.out.symm, HX.out⟩
set_option maxRecDepth 5000 in
set_option maxHeartbeats 1600000 in
theorem l06In_any (p : Nat) (a : Option Addr) (c : Nat) (ss : List ByteArray) (kind a1 a2 a3 b1 b2 b3 : Int) (w : World) (he : Even ss) (hW : picW ss ≤ 38) (hH : ss.length ≤ 38)
    (hp : w.cell? ⟨p, 0, none⟩ = some (.slice a ss.length c)) (hm : RowS w a ss) (h1 : 0 ≤ a1 ∧ a1 ≤ 40) (h2 : 0 ≤ a2 ∧ a2 ≤ 40) (h3 : 0 ≤ b1 ∧ b1 ≤ 40) (h4 : 0 ≤ b2 ∧ b2 ≤ 40) (t : Bool)
    (ht : t = true ↔ ∀ x y : Nat, x < picW ss → y < ss.length → hasT kind (a1, a2, a3) x y = true → hasT kind (b1, b2, b3) x y = true) :
    Calls Try.prog 215 #[.pointer (some ⟨p, 0, none⟩), .int .i64 kind, .agg #[.int .i64 a1, .int .i64 a2, .int .i64 a3], .agg #[.int .i64 b1, .int .i64 b2, .int .i64 b3]] w fun e w' => e = .returned (.bool t) ∧ w.Ext w' := by
  obtain ⟨W0, hW0⟩ : ∃ W0, W0 = (w.alloc (.cells #[.int .i64 a1, .int .i64 a2, .int .i64 a3] 98)).alloc (.cells #[.int .i64 b1, .int .i64 b2, .int .i64 b3] 98) := ⟨_, rfl⟩
  have hx0 : w.Ext W0 := by rw [hW0]; repeat (first | exact World.Ext.refl _ | exact ⟨_, rfl⟩ | assumption | refine World.Ext.over ?_ _ | refine World.Ext.drewN ?_ _ | refine World.Ext.drew ?_ | refine World.Ext.alloc ?_ _ | refine World.Ext.setCell ?_ (by simp) _)
  obtain ⟨q, hq⟩ : ∃ q, q = w.heap.size := ⟨_, rfl⟩
  have HC : Hid (∀ wr, W0.Ext wr → wr.cell? ⟨q, 0, none⟩ = some (.int .i64 a1) ∧ wr.cell? ⟨q, 1, none⟩ = some (.int .i64 a2) ∧ wr.cell? ⟨q, 2, none⟩ = some (.int .i64 a3) ∧
      wr.cell? ⟨q + 1, 0, none⟩ = some (.int .i64 b1) ∧ wr.cell? ⟨q + 1, 1, none⟩ = some (.int .i64 b2) ∧ wr.cell? ⟨q + 1, 2, none⟩ = some (.int .i64 b3)) := fun wr hx => by
    rw [hq]
    refine ⟨hx.cell ?_, hx.cell ?_, hx.cell ?_, hx.cell ?_, hx.cell ?_, hx.cell ?_⟩ <;> (rw [hW0]; simp [go_sem])
  have HWS : Hid (∀ w', W0.Ext w' → Calls Try.prog 99 #[.pointer (some ⟨p, 0, none⟩)] w' fun e w'' => e = .returned (.int .i64 (picW ss)) ∧ w'.Ext w'') := fun w' hx => l01Width_any p a c ss w' he.1 (by omega) (by omega) ((hx0.trans hx).cell hp) (hm.ext (hx0.trans hx))
  have HHS : Hid (∀ w', W0.Ext w' → Calls Try.prog 100 #[.pointer (some ⟨p, 0, none⟩)] w' fun e w'' => e = .returned (.int .i64 ss.length) ∧ w'.Ext w'') := fun w' hx => l01Height_any p a c ss.length w' (by omega) ((hx0.trans hx).cell hp)
  have HA : Hid (∀ (w' : World) (x y : Nat), x < picW ss → y < ss.length → ∀ t, hasT kind (a1, a2, a3) x y = t → Calls Try.prog 160 #[.int .i64 kind, .agg #[.int .i64 a1, .int .i64 a2, .int .i64 a3], .int .i64 x, .int .i64 y] w' fun e w'' => e = .returned (.bool t) ∧ w'.Ext w'') :=
    fun w' x y h5 h6 t ht => l06Holds_any kind a1 a2 a3 x y w' (by omega) (by omega) (by omega) (by omega) t ht
  have HB : Hid (∀ (w' : World) (x y : Nat), x < picW ss → y < ss.length → ∀ t, hasT kind (b1, b2, b3) x y = t → Calls Try.prog 160 #[.int .i64 kind, .agg #[.int .i64 b1, .int .i64 b2, .int .i64 b3], .int .i64 x, .int .i64 y] w' fun e w'' => e = .returned (.bool t) ∧ w'.Ext w'') :=
    fun w' x y h5 h6 t ht => l06Holds_any kind b1 b2 b3 x y w' (by omega) (by omega) (by omega) (by omega) t ht
  have HT := Lib.hid ht
  have HX0 := Lib.hid hx0
  clear ht h1 h2 h3 h4 hx0 hp hm he
  generalize hasT kind (a1, a2, a3) = fa at *
  generalize hasT kind (b1, b2, b3) = fb at *
  generalize picW ss = W at *
  generalize ss.length = H at *
  go_enter Try.func215, Try.ntmps215
  go_wp2
  rw [← hW0, ← hq]
  clear hW0 hq
  go_loopw [9, 10] (fun i _ wr => ∃ y : Nat, y ≤ H ∧ i = .int .i64 y ∧ Hid (∀ x' y' : Nat, x' < W → y' < y → fa x' y' = true → fb x' y' = true) ∧ Hid (W0.Ext wr)) (fun i _ _ => H - (intOf i).toNat)
  case atStart => exact ⟨0, Nat.zero_le _, rfl, fun _ _ _ h => by omega, .refl _⟩
  case round =>
    obtain ⟨y, hy, rfl, HK, HX⟩ := hrel
    obtain ⟨wo, rfl⟩ : ∃ wo : World, wo = wr := ⟨_, rfl⟩
    by_cases hlty : y < H
    · have hlty' : (y : Int) < (H : Int) := by omega
      go_wp2_with fail
      refine (HHS.out _ HX.out).mono ?_
      rintro e w1 ⟨rfl, hx1⟩
      have HX1 := Lib.hid (HX.out.trans hx1)
      clear hx1 HX
      go_wp2
      go_loopw [10] (fun i wr => ∃ x : Nat, x ≤ W ∧ i = .int .i64 x ∧ Hid (∀ x', x' < x → fa x' y = true → fb x' y = true) ∧ Hid (W0.Ext wr)) (fun i _ => W - (intOf i).toNat)
      case atStart => exact ⟨0, Nat.zero_le _, rfl, fun _ h => by omega, HX1⟩
      case round =>
        obtain ⟨x, hx, rfl, HJ, HX⟩ := hrel
        clear HX1
        obtain ⟨wp, rfl⟩ : ∃ wp : World, wp = wr := ⟨_, rfl⟩
        by_cases hltx : x < W
        · have hltx' : (x : Int) < (W : Int) := by omega
          go_wp2_with fail
          refine (HWS.out _ HX.out).mono ?_
          rintro e w2 ⟨rfl, hx2⟩
          have HX2 := Lib.hid (HX.out.trans hx2)
          clear hx2 HX
          obtain ⟨c0, c1, c2, d0, d1, d2⟩ := HC.out w2 HX2.out
          have l0 := World.block_lt_of_cell? _ _ c0
          have HJ1 : Hid ((fa x y = true → fb x y = true) → ∀ x', x' < x + 1 → fa x' y = true → fb x' y = true) := fun h x' hx' => by
            by_cases e : x' = x
            · rw [e]; exact h
            · exact HJ.out x' (by omega)
          have HT1 : Hid (fa x y = true → fb x y = false → t = false) := fun h5 h6 => by
            cases t
            · rfl
            · have := HT.out.1 rfl x y hltx hlty h5
              rw [h6] at this
              cases this
          cases ha : fa x y
          · have HCA := Lib.hid (fun w' => HA.out w' x y hltx hlty _ ha)
            rw [ha] at HJ1
            have HJ2 := Lib.hid (HJ1.out fun h => by cases h)
            clear HJ1 HT1 ha HJ
            go_wp2_with fail
            refine (HCA.out _).mono ?_
            rintro e w3 ⟨rfl, hx3⟩
            have HX3 := Lib.hid (HX2.out.trans hx3)
            clear hx3 HX2 c0 c1 c2 d0 d1 d2 l0
            go_wp2
            go_roundw
            case rel => exact ⟨x + 1, by omega, by go_num, HJ2, HX3⟩
            case measure => simp [intOf]; omega
          · have HCA := Lib.hid (fun w' => HA.out w' x y hltx hlty _ ha)
            cases hb : fb x y
            · have HCB := Lib.hid (fun w' => HB.out w' x y hltx hlty _ hb)
              have HF := Lib.hid (HT1.out ha hb)
              clear HJ1 HT1 ha hb HJ
              go_wp2_with fail
              refine (HCA.out _).mono ?_
              rintro e w3 ⟨rfl, hx3⟩
              have HX3 := Lib.hid (HX2.out.trans hx3)
              clear hx3 HX2 c0 c1 c2 d0 d1 d2 l0
              obtain ⟨c0, c1, c2, d0, d1, d2⟩ := HC.out w3 HX3.out
              have l0 := World.block_lt_of_cell? _ _ d0
              go_wp2_with fail
              refine (HCB.out _).mono ?_
              rintro e w4 ⟨rfl, hx4⟩
              have HX4 := Lib.hid (HX0.out.trans (HX3.out.trans hx4))
              clear hx4 HX3 c0 c1 c2 d0 d1 d2 l0
              go_wp2
              go_ret
              exact ⟨ret_bool HF.out.symm, HX4.out⟩
            · have HCB := Lib.hid (fun w' => HB.out w' x y hltx hlty _ hb)
              rw [hb] at HJ1
              have HJ2 := Lib.hid (HJ1.out fun _ => rfl)
              clear HJ1 HT1 ha hb HJ
              go_wp2_with fail
              refine (HCA.out _).mono ?_
              rintro e w3 ⟨rfl, hx3⟩
              have HX3 := Lib.hid (HX2.out.trans hx3)
              clear hx3 HX2 c0 c1 c2 d0 d1 d2 l0
              obtain ⟨c0, c1, c2, d0, d1, d2⟩ := HC.out w3 HX3.out
              have l0 := World.block_lt_of_cell? _ _ d0
              go_wp2_with fail
              refine (HCB.out _).mono ?_
              rintro e w4 ⟨rfl, hx4⟩
              have HX4 := Lib.hid (HX3.out.trans hx4)
              clear hx4 HX3 c0 c1 c2 d0 d1 d2 l0
              go_wp2
              go_roundw
              case rel => exact ⟨x + 1, by omega, by go_num, HJ2, HX4⟩
              case measure => simp [intOf]; omega
        · have : x = W := by omega
          subst this
          have HK2 : Hid (∀ x' y' : Nat, x' < x → y' < y + 1 → fa x' y' = true → fb x' y' = true) := fun x' y' h5 h6 => by
            by_cases e : y' = y
            · rw [e]; exact HJ.out x' h5
            · exact HK.out x' y' h5 (by omega)
          clear HK HJ
          go_wp2_with fail
          refine (HWS.out _ HX.out).mono ?_
          rintro e w2 ⟨rfl, hx2⟩
          have HX2 := Lib.hid (HX.out.trans hx2)
          clear hx2 HX
          go_wp2
          go_roundw
          case rel => exact ⟨y + 1, by omega, by go_num, HK2, HX2⟩
          case measure => simp [intOf]; omega
    · have : y = H := by omega
      subst this
      have HF : Hid (t = true) := HT.out.2 HK.out
      clear HK HT
      go_wp2_with fail
      refine (HHS.out _ HX.out).mono ?_
      rintro e w1 ⟨rfl, hx1⟩
      have HX1 := Lib.hid (HX0.out.trans (HX.out.trans hx1))
      clear hx1 HX
      go_wp2
      go_ret
      exact ⟨ret_bool HF.out.symm, HX1.out⟩
end Go.Proofs.Ytahhnjoeaodcjaa
