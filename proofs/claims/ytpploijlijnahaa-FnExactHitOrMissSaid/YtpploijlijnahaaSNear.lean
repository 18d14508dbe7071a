/- The reference's nearest black pixel. -/
import Derived.Test.YtpploijlijnahaaFar
import Derived.Test.YtpploijlijnahaaSMorph
namespace Go
open Go.RowKit
/-- Block 'p' has just two cells. -/
def Two (w : World) (p : Nat) (e : TypeId) (u v : Value) : Prop := w.heap[p]? = some (.cells #[u, v] e (0, 0))
section
variable {w w' : World} {p : Nat} {e : TypeId} {u v : Value}
theorem Two.cell0 (h : Two w p e u v) : w.cell? ⟨p, 0, none⟩ = some u := by unfold Two at h; simp [World.cell?, h]
theorem Two.cell1 (h : Two w p e u v) : w.cell? ⟨p, 1, none⟩ = some v := by unfold Two at h; simp [World.cell?, h]
theorem Two.free (h : Two w p e u v) (i : Nat) : w.frozen? ⟨p, i, none⟩ = false := by unfold Two at h; simp [World.frozen?, h]
theorem Two.lt (h : Two w p e u v) : p < w.heap.size := (Array.getElem?_eq_some_iff.1 h).1
theorem Two.keep (h : Two w p e u v) (hk : w'.heap[p]? = w.heap[p]?) : Two w' p e u v := by unfold Two at *; rw [hk, h]
theorem Two.ext (h : Two w p e u v) (hx : w.Ext w') : Two w' p e u v := h.keep (hx.block h.lt)
theorem Two.set (h : Two w p e u v) (a b : Value) : Two ((w.setCell ⟨p, 0, none⟩ a).setCell ⟨p, 1, none⟩ b) p e a b := by
  unfold Two at *
  simp [World.setCell, Array.getElem?_modify, h]
theorem Two.other (h : Two w p e u v) {a : Addr} (ha : a.block ≠ p) (x : Value) : Two (w.setCell a x) p e u v := h.keep (Below.heap_setCell _ _ _ _ (Ne.symm ha))
theorem Two.new (w : World) (u v : Value) (e : TypeId) (p : Nat) (hp : p = w.heap.size) : Two (w.alloc (.cells #[u, v] e)) p e u v := by
  subst hp
  show (w.heap.push _)[w.heap.size]? = _
  simp
end
end Go
namespace Go.Proofs.Ytpploijlijnahaa
open Go.RowKit
/-- The black ones of the first k pixels. -/
def spotsTo (W : Nat) (l : List Bool) (k : Nat) : List (Int × Int) := ((List.range k).filter fun i => l.getD i false).map fun i => (((i % W : Nat) : Int), ((i / W : Nat) : Int))
theorem spotsTo_no {W : Nat} {l : List Bool} {k : Nat} (h : l.getD k false = false) : spotsTo W l (k + 1) = spotsTo W l k := by
  unfold spotsTo
  rw [List.range_succ, List.filter_append, List.filter_cons_of_neg (by rw [h]; decide), List.filter_nil, List.append_nil]
theorem spotsTo_yes {W : Nat} {l : List Bool} {x y : Nat} (hx : x < W) (h : l.getD (y * W + x) false = true) : spotsTo W l (y * W + x + 1) = spotsTo W l (y * W + x) ++ [((x : Int), (y : Int))] := by
  unfold spotsTo
  have e1 : (y * W + x) % W = x := by rw [Nat.mul_comm, Nat.mul_add_mod, Nat.mod_eq_of_lt hx]
  have e2 : (y * W + x) / W = y := by rw [Nat.mul_comm, Nat.mul_add_div (by omega), Nat.div_eq_of_lt hx]; rfl
  rw [List.range_succ, List.filter_append, List.map_append, List.filter_cons_of_pos (by rw [h]), List.filter_nil, List.map_cons, e1, e2]
  rfl
/-- The least number, the first one of equal ones; -1 of none. -/
def leastD (ds : List Int) : Int := ds.foldl (fun m d => if m < 0 ∨ d < m then d else m) (-1)
theorem leastD_snoc (ds : List Int) (d : Int) : leastD (ds ++ [d]) = if leastD ds < 0 ∨ d < leastD ds then d else leastD ds := by
  unfold leastD
  rw [List.foldl_append]
  rfl
/-- How far the black ones of the first k pixels are. -/
def nearTo (kind : Int) (W : Nat) (l : List Bool) (p : Int × Int) (k : Nat) : Int := leastD ((spotsTo W l k).map (farI kind p))
theorem nearTo_no {kind : Int} {W : Nat} {l : List Bool} {p : Int × Int} {k : Nat} (h : l.getD k false = false) : nearTo kind W l p (k + 1) = nearTo kind W l p k := by unfold nearTo; rw [spotsTo_no h]
theorem nearTo_yes {kind : Int} {W : Nat} {l : List Bool} {p : Int × Int} {x y : Nat} (hx : x < W) (h : l.getD (y * W + x) false = true) :
    nearTo kind W l p (y * W + x + 1) = if nearTo kind W l p (y * W + x) < 0 ∨ farI kind p (x, y) < nearTo kind W l p (y * W + x) then farI kind p (x, y) else nearTo kind W l p (y * W + x) := by
  unfold nearTo; rw [spotsTo_yes hx h, List.map_append, List.map_cons, List.map_nil, leastD_snoc]
/-- A spot and a distance are returned. -/
def NearRet (w : World) (d : Int) (e : Ending) (w' : World) : Prop := ∃ bx by' : Int, e = .returned (.tuple #[.agg #[.int .i64 bx, .int .i64 by'], .int .i64 d]) ∧ w.Ext w'
def NearSt (w : World) (p8 p10 : Nat) (T : TypeId) (wr : World) : Prop := ∃ u v a b : Int, w.Ext wr ∧ Two wr p8 T (.int .i64 u) (.int .i64 v) ∧ Two wr p10 T (.int .i64 a) (.int .i64 b)
theorem NearSt.x {w : World} {p8 p10 : Nat} {T : TypeId} {wr : World} (h : NearSt w p8 p10 T wr) : w.Ext wr := let ⟨_, _, _, _, h1, _⟩ := h; h1
theorem NearSt.put {w : World} {p8 p10 : Nat} {T : TypeId} {wr : World} {u v a b : Int} (hx : w.Ext wr) (h1 : Two wr p8 T (.int .i64 u) (.int .i64 v)) (h2 : Two wr p10 T (.int .i64 a) (.int .i64 b)) (hn : p8 ≠ p10) (hl : w.heap.size ≤ p10) (c d : Int) :
    NearSt w p8 p10 T ((wr.setCell ⟨p10, 0, none⟩ (.int .i64 c)).setCell ⟨p10, 1, none⟩ (.int .i64 d)) :=
  ⟨u, v, c, d, (hx.setCell (p := ⟨p10, 0, none⟩) hl _).setCell (p := ⟨p10, 1, none⟩) hl _, (h1.other (a := ⟨p10, 0, none⟩) (Ne.symm hn) _).other (a := ⟨p10, 1, none⟩) (Ne.symm hn) _, h2.set _ _⟩
theorem NearSt.ext {w : World} {p8 p10 : Nat} {T : TypeId} {wr w' : World} (h : NearSt w p8 p10 T wr) (hx : wr.Ext w') : NearSt w p8 p10 T w' :=
  let ⟨u, v, a, b, h1, h2, h3⟩ := h; ⟨u, v, a, b, h1.trans hx, h2.ext hx, h3.ext hx⟩
set_option maxRecDepth 5000 in
set_option maxHeartbeats 1600000 in
theorem l06Nearest_any (p : Nat) (kind x0 y0 : Int) (a : Option Addr) (c : Nat) (ss : List ByteArray) (w : World) (he : Even ss) (hW : picW ss ≤ 40) (hH : ss.length ≤ 40)
    (hp : w.cell? ⟨p, 0, none⟩ = some (.slice a ss.length c)) (hm : RowS w a ss) (hx : -50 ≤ x0 ∧ x0 ≤ 50) (hy : -50 ≤ y0 ∧ y0 ≤ 50) :
    Calls Try.prog 139 #[.pointer (some ⟨p, 0, none⟩), .int .i64 kind, .int .i64 x0, .int .i64 y0] w (NearRet w (nearTo kind (picW ss) (picL ss) (x0, y0) (ss.length * picW ss))) := by
  have HWS : Hid (∀ w', w.Ext w' → Calls Try.prog 87 #[.pointer (some ⟨p, 0, none⟩)] w' fun e w'' => e = .returned (.int .i64 (picW ss)) ∧ w'.Ext w'') := fun w' hx => l01Width_any p a c ss w' he.1 (by omega) (by omega) (hx.cell hp) (RowOf.ext hm hx)
  have HHS : Hid (∀ w', w.Ext w' → Calls Try.prog 86 #[.pointer (some ⟨p, 0, none⟩)] w' fun e w'' => e = .returned (.int .i64 ss.length) ∧ w'.Ext w'') := fun w' hx => l01Height_any p a c ss.length w' (by omega) (hx.cell hp)
  have HBL : Hid (∀ w', w.Ext w' → ∀ x y : Nat, x < picW ss → y < ss.length → Calls Try.prog 89 #[.pointer (some ⟨p, 0, none⟩), .int .i64 x, .int .i64 y] w' fun e w'' => e = .returned (.bool ((picL ss).getD (y * picW ss + x) false)) ∧ w'.Ext w'') := fun w' hx x y h1 h2 => by
    rw [← pxl_at _ _ _ _ _ h1 h2]
    exact l01Black_any p a c ss x y w' he (by omega) (by omega) (hx.cell hp) (RowOf.ext hm hx) _ rfl
  have HFA : Hid (∀ (w' : World) (x y : Nat), x < picW ss → y < ss.length → Calls Try.prog 183 #[.int .i64 kind, .int .i64 x0, .int .i64 y0, .int .i64 x, .int .i64 y] w' fun e w'' => e = .returned (.int .i64 (farI kind (x0, y0) (x, y))) ∧ w'.Ext w'') := fun w' x y h1 h2 => l06Far_any kind x0 y0 x y w' hx hy (by omega) (by omega) _ rfl
  clear hm he hp hx hy
  generalize picL ss = L at *
  generalize picW ss = W at *
  generalize ss.length = H at *
  have HST : Hid (NearSt w w.heap.size (w.heap.size + 1) 52 (((((w.alloc (.cells #[.int .i64 0, .int .i64 0] 52)).alloc (.cells #[.int .i64 0, .int .i64 0] 52)))))) := by
    refine ⟨0, 0, 0, 0, ?_, (Two.new _ _ _ _ _ rfl).ext ((World.Ext.refl _).alloc _), Two.new _ _ _ _ _ (by simp)⟩
    repeat (first | exact World.Ext.refl _ | exact ⟨_, rfl⟩ | assumption | refine World.Ext.over ?_ _ | refine World.Ext.drewN ?_ _ | refine World.Ext.drew ?_ | refine World.Ext.alloc ?_ _ | refine World.Ext.setCell ?_ (by simp) _)
  go_enter Try.func139, Try.ntmps139
  go_wp2
  have hst := HST.out
  generalize ((w.alloc (.cells #[.int .i64 0, .int .i64 0] 52)).alloc (.cells #[.int .i64 0, .int .i64 0] 52)) = W0 at hst ⊢
  go_loopw [11, 12, 13, 14] (fun m i _ _ wr => ∃ y : Nat, y ≤ H ∧ i = .int .i64 y ∧ m = .int .i64 (nearTo kind W L (x0, y0) (y * W)) ∧ Hid (NearSt w w.heap.size (w.heap.size + 1) 52 wr)) (fun _ i _ _ _ => H - (intOf i).toNat)
  case atStart => exact ⟨0, Nat.zero_le _, rfl, by rw [Nat.zero_mul]; rfl, hst⟩
  case round =>
    obtain ⟨y, hy, rfl, rfl, HS⟩ := hrel
    clear hst HST
    obtain ⟨wo, rfl⟩ : ∃ wo : World, wo = wr := ⟨_, rfl⟩
    by_cases hlty : y < H
    · have hlty' : (y : Int) < (H : Int) := by omega
      go_wp2_with fail
      refine (HHS.out _ HS.out.x).mono ?_
      rintro e w1 ⟨rfl, hx1⟩
      have HS1 := Lib.hid (HS.out.ext hx1)
      clear hx1 HS
      go_wp2
      go_loopw [11, 13, 14] (fun m i _ wr => ∃ x : Nat, x ≤ W ∧ i = .int .i64 x ∧ m = .int .i64 (nearTo kind W L (x0, y0) (y * W + x)) ∧ Hid (NearSt w w.heap.size (w.heap.size + 1) 52 wr)) (fun _ i _ _ => W - (intOf i).toNat)
      case atStart => exact ⟨0, Nat.zero_le _, rfl, rfl, HS1⟩
      case round =>
        obtain ⟨x, hx, rfl, rfl, HS⟩ := hrel
        clear HS1
        by_cases hltx : x < W
        · have hltx' : (x : Int) < (W : Int) := by omega
          go_wp2_with fail
          refine (HWS.out _ HS.out.x).mono ?_
          rintro e w2 ⟨rfl, hx2⟩
          have HS2 := Lib.hid (HS.out.ext hx2)
          clear hx2 HS
          go_wp2_with fail
          refine (HBL.out _ HS2.out.x x y hltx hlty).mono ?_
          rintro e w3 ⟨rfl, hx3⟩
          have HS3 := Lib.hid (HS2.out.ext hx3)
          clear hx3 HS2
          cases hb : L.getD (y * W + x) false
          · have HN : Hid (nearTo kind W L (x0, y0) (y * W + x) = nearTo kind W L (x0, y0) (y * W + (x + 1))) := (nearTo_no hb).symm
            clear hb
            generalize nearTo kind W L (x0, y0) (y * W + x) = m at HN ⊢
            go_wp2
            go_roundw
            case rel => exact ⟨x + 1, by omega, by go_num, by rw [HN.out], HS3⟩
            case measure => simp [intOf]; omega
          · have HN := Lib.hid (nearTo_yes (kind := kind) (p := (x0, y0)) hltx hb)
            have HF := Lib.hid (HFA.out w3 x y hltx hlty)
            clear hb
            generalize nearTo kind W L (x0, y0) (y * W + x) = m at HN ⊢
            generalize farI kind (x0, y0) (↑x, ↑y) = d at HN HF
            go_wp2_with fail
            refine HF.out.mono ?_
            rintro e w4 ⟨rfl, hx4⟩
            have HS4 := Lib.hid (HS3.out.ext hx4)
            clear hx4 HS3 HF
            by_cases h1 : m < 0
            · have HN2 : Hid (d = nearTo kind W L (x0, y0) (y * W + (x + 1))) := by show _ = _; rw [← Nat.add_assoc, HN.out, if_pos (.inl h1)]
              obtain ⟨u, v, a, b, hX, h8, h10⟩ := HS4.out
              have c0 := h10.cell0
              have c1 := h10.cell1
              have f0 := h10.free 0
              have f1 := h10.free 1
              have HP := Lib.hid (NearSt.put hX h8 h10 (by omega) (by omega) x y)
              clear hX h8 h10 HS4 HN
              go_wp2
              go_roundw
              case rel => exact ⟨x + 1, by omega, by go_num, by rw [HN2.out], HP⟩
              case measure => simp [intOf]; omega
            · have h1' : 0 ≤ m := by omega
              by_cases h2 : d < m
              · have HN2 : Hid (d = nearTo kind W L (x0, y0) (y * W + (x + 1))) := by show _ = _; rw [← Nat.add_assoc, HN.out, if_pos (.inr h2)]
                obtain ⟨u, v, a, b, hX, h8, h10⟩ := HS4.out
                have c0 := h10.cell0
                have c1 := h10.cell1
                have f0 := h10.free 0
                have f1 := h10.free 1
                have HP := Lib.hid (NearSt.put hX h8 h10 (by omega) (by omega) x y)
                clear hX h8 h10 HS4 HN
                go_wp2
                go_roundw
                case rel => exact ⟨x + 1, by omega, by go_num, by rw [HN2.out], HP⟩
                case measure => simp [intOf]; omega
              · have HN2 : Hid (m = nearTo kind W L (x0, y0) (y * W + (x + 1))) := by show _ = _; rw [← Nat.add_assoc, HN.out, if_neg (by omega)]
                clear HN
                go_wp2
                go_roundw
                case rel => exact ⟨x + 1, by omega, by go_num, by rw [HN2.out], HS4⟩
                case measure => simp [intOf]; omega
        · have : x = W := by omega
          subst this
          go_wp2_with fail
          refine (HWS.out _ HS.out.x).mono ?_
          rintro e w2 ⟨rfl, hx2⟩
          have HS2 := Lib.hid (HS.out.ext hx2)
          clear hx2 HS
          go_wp2
          go_roundw
          case rel => exact ⟨y + 1, by omega, by go_num, by rw [Nat.succ_mul], HS2⟩
          case measure => simp [intOf]; omega
    · have : y = H := by omega
      subst this
      go_wp2_with fail
      refine (HHS.out _ HS.out.x).mono ?_
      rintro e w1 ⟨rfl, hx1⟩
      obtain ⟨u, v, a, b, hX, h8, h10⟩ := HS.out.ext hx1
      have c0 := h10.cell0
      have c1 := h10.cell1
      have d0 := h8.cell0
      have d1 := h8.cell1
      have f0 := h8.free 0
      have f1 := h8.free 1
      have r := (h8.set (.int .i64 a) (.int .i64 b))
      have r0 := r.cell0
      have r1 := r.cell1
      have HX : Hid (w.Ext ((w1.setCell ⟨w.heap.size, 0, none⟩ (.int .i64 a)).setCell ⟨w.heap.size, 1, none⟩ (.int .i64 b))) := (hX.setCell (p := ⟨w.heap.size, 0, none⟩) (Nat.le_refl _) _).setCell (p := ⟨w.heap.size, 1, none⟩) (Nat.le_refl _) _
      clear hX h8 h10 hx1 HS r
      go_wp2
      exact bodyPost_ret (v := .tuple #[.agg #[.int .i64 a, .int .i64 b], .int .i64 (nearTo kind W L (x0, y0) (y * W))]) (by simp [results, Try.results139, go_sem, r0, r1]) rfl ⟨a, b, rfl, HX.out⟩
end Go.Proofs.Ytpploijlijnahaa
