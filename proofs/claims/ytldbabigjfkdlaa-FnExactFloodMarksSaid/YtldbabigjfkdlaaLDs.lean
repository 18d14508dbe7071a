/- Lists of discs: memory, and what the laws do with them. -/
import Derived.Test.YtldbabigjfkdlaaLMat
import Derived.Test.YtldbabigjfkdlaaKit
namespace Go.Proofs.Ytldbabigjfkdlaa
open Go.RowKit
def flatD : List (Int × Int × Int) → List Int
  | [] => []
  | d :: ds => d.1 :: d.2.1 :: d.2.2 :: flatD ds
theorem flatD_len : ∀ ds, (flatD ds).length = 3 * ds.length
  | [] => rfl
  | d :: ds => by simp [flatD, flatD_len ds]; omega
theorem flatD_append : ∀ a b, flatD (a ++ b) = flatD a ++ flatD b
  | [], b => rfl
  | d :: a, b => by simp [flatD, flatD_append a b]
theorem flatD_at : ∀ (ds : List (Int × Int × Int)) (i : Nat), (flatD ds).getD (i * 3) 0 = (ds.getD i (0, 0, 0)).1 ∧ (flatD ds).getD (i * 3 + 1) 0 = (ds.getD i (0, 0, 0)).2.1 ∧ (flatD ds).getD (i * 3 + 2) 0 = (ds.getD i (0, 0, 0)).2.2
  | [], i => by simp [flatD]
  | d :: ds, 0 => by simp [flatD]
  | d :: ds, i + 1 => by
    have h := flatD_at ds i
    have e1 : (i + 1) * 3 = i * 3 + 1 + 1 + 1 := by omega
    have e2 : (i + 1) * 3 + 1 = i * 3 + 1 + 1 + 1 + 1 := by omega
    have e3 : (i + 1) * 3 + 2 = i * 3 + 2 + 1 + 1 + 1 := by omega
    rw [e3, e2, e1]
    simpa [flatD] using h
def RowD (w : World) (a : Option Addr) (ds : List (Int × Int × Int)) : Prop := RowOf (Value.int .i64) 0 w a (flatD ds)
def OwnD (lo hi : Nat) (w : World) (a : Option Addr) (ds : List (Int × Int × Int)) : Prop := OwnOf (Value.int .i64) 0 lo hi w a (flatD ds)
section
variable {lo hi lo' hi' : Nat} {w w' : World} {a : Option Addr} {ds : List (Int × Int × Int)}
theorem RowD.ext (h : RowD w a ds) (hx : w.Ext w') : RowD w' a ds := RowOf.ext h hx
theorem OwnD.ext (h : OwnD lo hi w a ds) (hx : w.Ext w') : OwnD lo hi w' a ds := OwnOf.ext h hx
theorem OwnD.row (h : OwnD lo hi w a ds) : RowD w a ds := OwnOf.row h
theorem OwnD.mono (h : OwnD lo hi w a ds) (hl : lo' ≤ lo) (hh : hi ≤ hi') : OwnD lo' hi' w a ds := OwnOf.mono h hl hh
theorem OwnD.wrote {S : Nat → Prop} (h : OwnD lo hi w a ds) (hx : Wrote S w w') (hs : ∀ k, lo ≤ k → k < hi → ¬ S k) : OwnD lo hi w' a ds := OwnOf.wrote h hx hs
theorem RowD.at (h : RowD w a ds) {i : Nat} (hi : i < ds.length) : ∃ b o, a = some ⟨b, o, none⟩ ∧ w.cell? ⟨b, o + i * 3, none⟩ = some (.int .i64 (ds.getD i (0, 0, 0)).1) ∧ w.cell? ⟨b, o + i * 3 + 1, none⟩ = some (.int .i64 (ds.getD i (0, 0, 0)).2.1) ∧ w.cell? ⟨b, o + i * 3 + 2, none⟩ = some (.int .i64 (ds.getD i (0, 0, 0)).2.2) := by
  have hl := flatD_len ds
  obtain ⟨h1, h2, h3⟩ := flatD_at ds i
  obtain ⟨b, o, rfl, c1⟩ := h (i * 3) (by omega)
  obtain ⟨b2, o2, e2, c2⟩ := h (i * 3 + 1) (by omega)
  obtain ⟨b3, o3, e3, c3⟩ := h (i * 3 + 2) (by omega)
  simp only [Option.some.injEq, Addr.mk.injEq, and_true] at e2 e3
  obtain ⟨rfl, rfl⟩ := e2
  obtain ⟨rfl, rfl⟩ := e3
  rw [h1] at c1
  rw [h2] at c2
  rw [h3] at c3
  exact ⟨b, o, rfl, c1, by rw [Nat.add_assoc]; exact c2, by rw [Nat.add_assoc]; exact c3⟩
end
/-- A slice value owns these discs. -/
def GrowD (lo : Nat) (e : TypeId) (w : World) (v : Value) (ds : List (Int × Int × Int)) : Prop := w.ownsRow lo e 3 v ds.length ((flatD ds).map (Value.int .i64))
section
variable {lo : Nat} {e : TypeId} {w w' : World} {v : Value} {ds : List (Int × Int × Int)}
theorem GrowD.empty (w : World) (h : lo ≤ w.heap.size) : GrowD lo e (w.alloc (.cells #[] e)) (.slice (some ⟨w.heap.size, 0, none⟩) 0 0) [] := World.ownsRow_made w #[] 0 h (Nat.zero_le _) rfl
theorem GrowD.ext (h : GrowD lo e w v ds) (hx : w.Ext w') : GrowD lo e w' v ds := World.ownsRow.ext h hx
theorem GrowD.form (h : GrowD lo e w v ds) : ∃ a cap, v = .slice a ds.length cap ∧ ds.length ≤ cap := World.ownsRow.form h
theorem GrowD.push {d : Int × Int × Int} {v' : Value} (h : w.ownsRow lo e 3 v' (ds.length + 1) ((flatD ds).map (Value.int .i64) ++ [.int .i64 d.1, .int .i64 d.2.1, .int .i64 d.2.2])) : GrowD lo e w v' (ds ++ [d]) := by
  unfold GrowD
  rw [flatD_append, List.map_append, List.length_append]
  exact h
theorem GrowD.own {a : Option Addr} {m cap : Nat} (h : GrowD lo e w (.slice a m cap) ds) : OwnD lo w.heap.size w a ds := by
  intro i hi
  obtain ⟨b, o, h1, h2, h3, h4, h5⟩ := World.ownsRow.own h (i := i) (by rw [flatD_len] at hi; omega)
  refine ⟨b, o, h1, h2, h3, ?_, h5⟩
  rw [h4, List.getElem?_map, List.getElem?_eq_getElem hi, List.getD_eq_getElem?_getD, List.getElem?_eq_getElem hi]
  rfl
end
theorem cell_three_at {w : World} {u v x : Value} {e : TypeId} {p : Nat} (hp : p = w.heap.size) : ∀ (j : Nat) (y : Value), [u, v, x][j]? = some y → (w.alloc (.cells #[u, v, x] e)).cell? ((⟨p, 0, none⟩ : Addr).add j) = some y := by
  subst hp
  intro j y hj
  rw [Addr.add_mk]
  match j, hj with
  | 0, hj => simp at hj; subst hj; simp [go_sem]
  | 1, hj => simp at hj; subst hj; simp [go_sem]
  | 2, hj => simp at hj; subst hj; simp [go_sem]
  | j + 3, hj => simp at hj
set_option maxHeartbeats 400000 in
theorem eqDisc_any (x y r : Int) (w : World) :
    Calls Try.prog 157 #[.agg #[.int .i64 x, .int .i64 y, .int .i64 r], .agg #[.int .i64 x, .int .i64 y, .int .i64 r]] w fun e w' => e = .returned (.bool true) ∧ w.Ext w' := by
  have e1 : (x != x) = false := by simp
  have e2 : (y != y) = false := by simp
  have e3 : (r != r) = false := by simp
  go_enter Try.func157, Try.ntmps157
  go_wp2
  go_ret
  refine ⟨rfl, ?_⟩
  repeat (first | exact World.Ext.refl _ | exact ⟨_, rfl⟩ | assumption | refine World.Ext.over ?_ _ | refine World.Ext.drewN ?_ _ | refine World.Ext.drew ?_ | refine World.Ext.alloc ?_ _ | refine World.Ext.setCell ?_ (by simp) _)
set_option maxHeartbeats 800000 in
theorem eqDiscS_res (a b : Option Addr) (c c' : Nat) (s : List (Int × Int × Int)) (w : World) (hn : s.length ≤ 262144) (ha : RowD w a s) (hb : RowD w b s) :
    Calls Try.prog 62 #[.slice a s.length c, .slice b s.length c'] w fun e w' => e = .returned (.bool true) ∧ w.Ext w' := by
  have HA := Lib.hid ha
  have HB := Lib.hid hb
  clear ha hb
  go_enter Try.func62, Try.ntmps62
  go_wp2
  go_loopw [5] (fun i wr => ∃ k : Nat, k ≤ s.length ∧ i = .int .i64 k ∧ Hid (w.Ext wr)) (fun i _ => s.length - (intOf i).toNat)
  case atStart => exact ⟨0, Nat.zero_le _, rfl, .refl _⟩
  case round =>
    obtain ⟨k, hk, rfl, HX⟩ := hrel
    by_cases hlt : k < s.length
    · obtain ⟨b1, o1, rfl, c1, c2, c3⟩ := (HA.out.ext HX.out).at hlt
      obtain ⟨b2, o2, rfl, d1, d2, d3⟩ := (HB.out.ext HX.out).at hlt
      generalize s.getD k (0, 0, 0) = d at *
      obtain ⟨x, y, r⟩ := d
      dsimp only at c1 c2 c3 d1 d2 d3
      have hlt' : (k : Int) < (s.length : Int) := by omega
      have hk0 : (0 : Int) ≤ (k : Int) := by omega
      go_wp2_with fail
      refine wp_region_over_lit (by kernel_rfl) (by kernel_rfl) ?_; (repeat (go_big_quiet_step ((go_at_call 157; exact Calls.over_of (eqDisc_any x y r _))))); refine wpQuiet_nil ?_; rintro _ ⟨x1, rfl⟩
      go_wp2
      go_roundw
      case rel => exact ⟨k + 1, by omega, by go_num, HX.out.over _⟩
      case measure => simp [intOf]; omega
    · have : k = s.length := by omega
      subst this
      go_wp2
      go_ret
      exact ⟨rfl, HX.out⟩
set_option maxHeartbeats 800000 in
theorem markDiscS_res (a : Option Addr) (c : Nat) (s : List (Int × Int × Int)) (k0 lo hi : Nat) (w : World) (hn : s.length ≤ 262144) (h1 : k0 ≤ 2097152) (ha : OwnD lo hi w a s) :
    Calls Try.prog 63 #[.slice a s.length c, .int .i64 k0] w fun e w' => e = .returned (.int .i64 (k0 + 3 * s.length : Nat)) ∧ Wrote (fun b => lo ≤ b ∧ b < hi) w w' ∧ OwnOf (Value.int .i64) 0 lo hi w' a (marksI k0 (3 * s.length)) := by
  have hh := HalfOf.start (mk := fun i => (k0 : Int) + (i : Nat)) ha
  rw [flatD_len] at hh
  have HN := Lib.hid hn
  clear ha hn
  generalize s.length = n at *
  have hm2 : n ≤ 262144 := HN.out
  have HH := Lib.hid hh
  clear hh
  go_enter Try.func63, Try.ntmps63
  go_wp2
  go_loopw [1, 5] (fun l i wr => ∃ k : Nat, k ≤ n ∧ i = .int .i64 k ∧ l = .int .i64 (k0 + k * 3 : Nat) ∧ Hid (Wrote (fun b => lo ≤ b ∧ b < hi) w wr ∧ HalfOf (Value.int .i64) (fun i => (k0 : Int) + (i : Nat)) lo hi wr a (3 * n) (k * 3))) (fun _ i _ => n - (intOf i).toNat)
  case atStart => exact ⟨0, Nat.zero_le _, rfl, by simp, .refl _ _, by rw [Nat.zero_mul]; exact HH.out⟩
  case round =>
    obtain ⟨k, hk, rfl, rfl, HW⟩ := hrel
    by_cases hlt : k < n
    · obtain ⟨b, o, v, rfl, h2, h3, h4, _, h6⟩ := HW.out.2 (k * 3) (by omega)
      obtain ⟨b', o', v', e, _, _, h4', _, h6'⟩ := HW.out.2 (k * 3 + 1) (by omega)
      cases e
      obtain ⟨b', o', v2, e, _, _, h4'', _, h6''⟩ := HW.out.2 (k * 3 + 2) (by omega)
      cases e
      have hk0 : (0 : Int) ≤ (k : Int) := by omega
      have hlt' : (k : Int) < (n : Int) := by omega
      rw [← Nat.add_assoc] at h4' h6' h4'' h6''
      have hn1 := ((HW.out.2.next (by omega)).next (by omega)).next (by omega)
      rw [← Nat.add_assoc, show k * 3 + 1 + 1 = k * 3 + 2 by omega, ← Nat.add_assoc] at hn1
      have H1 : Hid (Wrote (fun b => lo ≤ b ∧ b < hi) w (((wr.setCell ⟨b, o + k * 3, none⟩ (.int .i64 ((k0 : Int) + ((k * 3 : Nat) : Int)))).setCell ⟨b, o + k * 3 + 1, none⟩ (.int .i64 ((k0 : Int) + ((k * 3 + 1 : Nat) : Int)))).setCell ⟨b, o + k * 3 + 2, none⟩ (.int .i64 ((k0 : Int) + ((k * 3 + 2 : Nat) : Int)))) ∧
          HalfOf (Value.int .i64) (fun i => (k0 : Int) + (i : Nat)) lo hi (((wr.setCell ⟨b, o + k * 3, none⟩ (.int .i64 ((k0 : Int) + ((k * 3 : Nat) : Int)))).setCell ⟨b, o + k * 3 + 1, none⟩ (.int .i64 ((k0 : Int) + ((k * 3 + 1 : Nat) : Int)))).setCell ⟨b, o + k * 3 + 2, none⟩ (.int .i64 ((k0 : Int) + ((k * 3 + 2 : Nat) : Int)))) (some ⟨b, o, none⟩) (3 * n) ((k + 1) * 3)) := by
        refine ⟨((HW.out.1.setCell ⟨h2, h3⟩ _).setCell ⟨h2, h3⟩ _).setCell ⟨h2, h3⟩ _, ?_⟩
        rw [show (k + 1) * 3 = k * 3 + 2 + 1 by omega]
        exact hn1
      have e1 : ((k0 : Int) + ((k * 3 : Nat) : Int)) = ((k0 + k * 3 : Nat) : Int) := by omega
      have e2 : ((k0 : Int) + ((k * 3 + 1 : Nat) : Int)) = ((k0 + k * 3 : Nat) : Int) + 1 := by omega
      have e3 : ((k0 : Int) + ((k * 3 + 2 : Nat) : Int)) = ((k0 + k * 3 : Nat) : Int) + 1 + 1 := by omega
      rw [e1, e2, e3] at H1
      clear hn1 e1 e2 e3
      go_wp2
      go_roundw
      case rel => exact ⟨k + 1, by omega, by go_num, by go_num, H1.out⟩
      case measure => simp [intOf]; omega
    · have : k = n := by omega
      subst this
      go_wp2
      go_ret
      refine ⟨ret_int (by omega), HW.out.1, ?_⟩
      have h5 := HW.out.2
      rw [Nat.mul_comm k 3] at h5
      have := h5.done 0
      simpa [marksI] using this
set_option maxHeartbeats 800000 in
theorem heldDiscS_res (a : Option Addr) (c : Nat) (s : List (Int × Int × Int)) (k0 : Nat) (w : World) (hn : s.length ≤ 262144) (h1 : k0 ≤ 2097152) (ha : RowI w a (marksI k0 (3 * s.length))) :
    Calls Try.prog 64 #[.slice a s.length c, .int .i64 k0] w fun e w' => e = .returned (.int .i64 (k0 + 3 * s.length : Nat)) ∧ w.Ext w' := by
  have HA := Lib.hid ha
  generalize s.length = n at *
  clear ha
  go_enter Try.func64, Try.ntmps64
  go_wp2
  go_loopw [1, 5] (fun l i wr => ∃ k : Nat, k ≤ n ∧ i = .int .i64 k ∧ l = .int .i64 (k0 + 3 * k : Nat) ∧ w.Ext wr) (fun _ i _ => n - (intOf i).toNat)
  case atStart => exact ⟨0, Nat.zero_le _, rfl, by simp, .refl _⟩
  case round =>
    obtain ⟨k, hk, rfl, rfl, hx⟩ := hrel
    by_cases hlt : k < n
    · obtain ⟨b, o, rfl, hc⟩ := (RowOf.ext HA.out hx) (3 * k) (by rw [marksI_len]; omega)
      obtain ⟨b', o', e', hc'⟩ := (RowOf.ext HA.out hx) (3 * k + 1) (by rw [marksI_len]; omega)
      simp only [Option.some.injEq, Addr.mk.injEq, and_true] at e'
      obtain ⟨rfl, rfl⟩ := e'
      obtain ⟨b', o', e', hc''⟩ := (RowOf.ext HA.out hx) (3 * k + 2) (by rw [marksI_len]; omega)
      simp only [Option.some.injEq, Addr.mk.injEq, and_true] at e'
      obtain ⟨rfl, rfl⟩ := e'
      rw [marksI_at _ _ _ (by omega), Nat.mul_comm 3 k] at hc hc' hc''
      rw [← Nat.add_assoc] at hc' hc''
      have hlt' : (k : Int) < (n : Int) := by omega
      have hk0 : (0 : Int) ≤ (k : Int) := by omega
      obtain ⟨m, hm⟩ : ∃ m : Nat, m = k0 + 3 * k := ⟨_, rfl⟩
      have e1 : (k0 : Int) + ((k * 3 : Nat) : Int) = (m : Int) := by omega
      have e2 : (k0 : Int) + ((k * 3 + 1 : Nat) : Int) = (m : Int) + 1 := by omega
      have e3 : (k0 : Int) + ((k * 3 + 2 : Nat) : Int) = (m : Int) + 1 + 1 := by omega
      rw [e1] at hc
      rw [e2] at hc'
      rw [e3] at hc''
      rw [← hm]
      have hmb : (m : Int) ≤ 4194304 := by omega
      have HM := Lib.hid hm
      clear hm e1 e2 e3
      go_wp2
      go_roundw
      case rel => exact ⟨k + 1, by omega, by go_num, by have := HM.out; congr 1; omega, hx⟩
      case measure => simp [intOf]; omega
    · have : k = n := by omega
      subst this
      go_wp2
      go_ret
      exact ⟨rfl, hx⟩
end Go.Proofs.Ytldbabigjfkdlaa
