/- What the reference makes of a picture by an element. -/
import Derived.Test.YtpploijlijnahaaSPicIs
import Derived.Test.YtpploijlijnahaaSElem
namespace Go.Proofs.Ytpploijlijnahaa
open Go.RowKit
/-- All offsets of an element are small. -/
def Small (os : List (Int × Int)) : Prop := ∀ i, i < os.length → -4 ≤ (os.getD i (0, 0)).1 ∧ (os.getD i (0, 0)).1 ≤ 4 ∧ -4 ≤ (os.getD i (0, 0)).2 ∧ (os.getD i (0, 0)).2 ≤ 4
def someB (W H : Nat) (l : List Bool) (os : List (Int × Int)) (x y : Int) : Bool := os.any fun o => pxl W H l (x - o.1) (y - o.2)
def fitsB (W H : Nat) (l : List Bool) (os : List (Int × Int)) (x y : Int) : Bool := os.all fun o => pxl W H l (x + o.1) (y + o.2)
theorem any_true {α : Type} {p : α → Bool} {xs : List α} {d : α} {k : Nat} (hk : k < xs.length) (h : p (xs.getD k d) = true) : xs.any p = true := by
  rw [List.any_eq_true]
  exact ⟨xs.getD k d, by rw [List.getD_eq_getElem?_getD, List.getElem?_eq_getElem hk]; exact List.getElem_mem hk, h⟩
theorem any_false {α : Type} {p : α → Bool} {xs : List α} {d : α} (h : ∀ i, i < xs.length → p (xs.getD i d) = false) : xs.any p = false := by
  rw [List.any_eq_false]
  intro x hx
  obtain ⟨i, hi, rfl⟩ := List.getElem_of_mem hx
  have := h i hi
  rw [List.getD_eq_getElem?_getD, List.getElem?_eq_getElem hi, Option.getD_some] at this
  rw [this]
  simp
set_option maxRecDepth 5000 in
set_option maxHeartbeats 1600000 in
theorem l03Some_any (p pe : Nat) (a : Option Addr) (c : Nat) (ss : List ByteArray) (ae : Option Addr) (ce : Nat) (os : List (Int × Int)) (x y : Int) (w : World) (he : Even ss) (hn : ss.length ≤ 1048576) (hw : picW ss ≤ 1048576)
    (hp : w.cell? ⟨p, 0, none⟩ = some (.slice a ss.length c)) (hm : RowS w a ss) (hpe : w.cell? ⟨pe, 0, none⟩ = some (.slice ae os.length ce)) (hme : RowP w ae os) (hon : os.length ≤ 1048576) (hs : Small os)
    (hx : -1000 ≤ x ∧ x ≤ 1000) (hy : -1000 ≤ y ∧ y ≤ 1000) (t : Bool) (ht : someB (picW ss) ss.length (picL ss) os x y = t) :
    Calls Try.prog 190 #[.pointer (some ⟨p, 0, none⟩), .pointer (some ⟨pe, 0, none⟩), .int .i64 x, .int .i64 y] w fun e w' => e = .returned (.bool t) ∧ w.Ext w' := by
  have HM := Lib.hid hm
  have HME := Lib.hid hme
  have HE := Lib.hid he
  have HS := Lib.hid hs
  have HT := Lib.hid ht
  have HN := Lib.hid hn
  have HW := Lib.hid hw
  have hn2 : os.length ≤ 4611686018427387904 := by omega
  obtain ⟨hx1, hx2⟩ := hx
  obtain ⟨hy1, hy2⟩ := hy
  clear hm hme he hs ht hn hw hon
  go_enter Try.func190, Try.ntmps190
  go_wp2
  go_loopw [9] (fun i wr => ∃ k : Nat, k ≤ os.length ∧ i = .int .i64 k ∧ Hid (∀ i, i < k → pxl (picW ss) ss.length (picL ss) (x - (os.getD i (0, 0)).1) (y - (os.getD i (0, 0)).2) = false) ∧ Hid (w.Ext wr)) (fun i _ => os.length - (intOf i).toNat)
  case atStart => exact ⟨0, Nat.zero_le _, rfl, fun r hr => by omega, .refl _⟩
  case round =>
    obtain ⟨k, hk, rfl, HK, HX⟩ := hrel
    have hpr := HX.out.cell hpe
    by_cases hlt : k < os.length
    · obtain ⟨b, o, rfl, hc1, hc2⟩ := (HME.out.ext HX.out).at hlt
      have hk0 : (0 : Int) ≤ (k : Int) := by omega
      have hlt' : (k : Int) < (os.length : Int) := by omega
      obtain ⟨o1, o2, o3, o4⟩ := HS.out k hlt
      have HP := Lib.hid (HX.out.cell hp)
      have HN1 : Hid (pxl (picW ss) ss.length (picL ss) (x - (os.getD k (0, 0)).1) (y - (os.getD k (0, 0)).2) = false → ∀ i, i < k + 1 → pxl (picW ss) ss.length (picL ss) (x - (os.getD i (0, 0)).1) (y - (os.getD i (0, 0)).2) = false) := fun h i hi => by
        by_cases e : i = k
        · rw [e]; exact h
        · exact HK.out i (by omega)
      have HB : Hid (pxl (picW ss) ss.length (picL ss) (x - (os.getD k (0, 0)).1) (y - (os.getD k (0, 0)).2) = true → t = true) := fun h => by
        rw [← HT.out]
        unfold someB
        first | exact any_true (d := ((0 : Int), (0 : Int))) hlt h | exact all_false (d := ((0 : Int), (0 : Int))) hlt h
      generalize os.getD k (0, 0) = q at hc1 hc2 HN1 HB o1 o2 o3 o4
      obtain ⟨qx, qy⟩ := q
      dsimp only at hc1 hc2 HN1 HB o1 o2 o3 o4
      have hw1 : IntKind.i64.wrap (x - qx) = x - qx := IntWalk.i64_in _ (by omega)
      have hw2 : IntKind.i64.wrap (y - qy) = y - qy := IntWalk.i64_in _ (by omega)
      cases hv : pxl (picW ss) ss.length (picL ss) (x - qx) (y - qy)
      · have HV := Lib.hid hv
        first
        | (have hf := HB.out hv
           subst hf
           clear hv HB HN1
           go_wp2_with fail
           refine wp_region_over_lit (by kernel_rfl) (by kernel_rfl) ?_; (repeat (go_big_quiet_step ((go_at_call 89; exact Calls.over_of (l01Black_any p a c ss (x - qx) (y - qy) _ HE.out HN.out HW.out (World.Ext.cell ⟨_, rfl⟩ HP.out) (RowOf.ext HM.out (HX.out.over _)) _ HV.out))))); refine wpQuiet_nil ?_; rintro _ ⟨x1, rfl⟩
           go_wp2
           go_ret
           exact ⟨rfl, HX.out.over _⟩)
        | (have HK1 := Lib.hid (HN1.out hv)
           clear hv HB HN1
           go_wp2_with fail
           refine wp_region_over_lit (by kernel_rfl) (by kernel_rfl) ?_; (repeat (go_big_quiet_step ((go_at_call 89; exact Calls.over_of (l01Black_any p a c ss (x - qx) (y - qy) _ HE.out HN.out HW.out (World.Ext.cell ⟨_, rfl⟩ HP.out) (RowOf.ext HM.out (HX.out.over _)) _ HV.out))))); refine wpQuiet_nil ?_; rintro _ ⟨x1, rfl⟩
           clear hw1 hw2
           go_wp2
           go_roundw
           case rel => exact ⟨k + 1, by omega, by go_num, HK1.out, HX.out.over _⟩
           case measure => simp [intOf]; omega)
      · have HV := Lib.hid hv
        first
        | (have hf := HB.out hv
           subst hf
           clear hv HB HN1
           go_wp2_with fail
           refine wp_region_over_lit (by kernel_rfl) (by kernel_rfl) ?_; (repeat (go_big_quiet_step ((go_at_call 89; exact Calls.over_of (l01Black_any p a c ss (x - qx) (y - qy) _ HE.out HN.out HW.out (World.Ext.cell ⟨_, rfl⟩ HP.out) (RowOf.ext HM.out (HX.out.over _)) _ HV.out))))); refine wpQuiet_nil ?_; rintro _ ⟨x1, rfl⟩
           go_wp2
           go_ret
           exact ⟨rfl, HX.out.over _⟩)
        | (have HK1 := Lib.hid (HN1.out hv)
           clear hv HB HN1
           go_wp2_with fail
           refine wp_region_over_lit (by kernel_rfl) (by kernel_rfl) ?_; (repeat (go_big_quiet_step ((go_at_call 89; exact Calls.over_of (l01Black_any p a c ss (x - qx) (y - qy) _ HE.out HN.out HW.out (World.Ext.cell ⟨_, rfl⟩ HP.out) (RowOf.ext HM.out (HX.out.over _)) _ HV.out))))); refine wpQuiet_nil ?_; rintro _ ⟨x1, rfl⟩
           clear hw1 hw2
           go_wp2
           go_roundw
           case rel => exact ⟨k + 1, by omega, by go_num, HK1.out, HX.out.over _⟩
           case measure => simp [intOf]; omega)
    · have : k = os.length := by omega
      subst this
      have hf : t = false := by
        rw [← HT.out]
        unfold someB
        first | exact any_false (d := ((0 : Int), (0 : Int))) HK.out | exact all_getD.2 HK.out
      subst hf
      go_wp2
      go_ret
      exact ⟨rfl, HX.out⟩
set_option maxRecDepth 5000 in
set_option maxHeartbeats 1600000 in
theorem l03Fits_any (p pe : Nat) (a : Option Addr) (c : Nat) (ss : List ByteArray) (ae : Option Addr) (ce : Nat) (os : List (Int × Int)) (x y : Int) (w : World) (he : Even ss) (hn : ss.length ≤ 1048576) (hw : picW ss ≤ 1048576)
    (hp : w.cell? ⟨p, 0, none⟩ = some (.slice a ss.length c)) (hm : RowS w a ss) (hpe : w.cell? ⟨pe, 0, none⟩ = some (.slice ae os.length ce)) (hme : RowP w ae os) (hon : os.length ≤ 1048576) (hs : Small os)
    (hx : -1000 ≤ x ∧ x ≤ 1000) (hy : -1000 ≤ y ∧ y ≤ 1000) (t : Bool) (ht : fitsB (picW ss) ss.length (picL ss) os x y = t) :
    Calls Try.prog 88 #[.pointer (some ⟨p, 0, none⟩), .pointer (some ⟨pe, 0, none⟩), .int .i64 x, .int .i64 y] w fun e w' => e = .returned (.bool t) ∧ w.Ext w' := by
  have HM := Lib.hid hm
  have HME := Lib.hid hme
  have HE := Lib.hid he
  have HS := Lib.hid hs
  have HT := Lib.hid ht
  have HN := Lib.hid hn
  have HW := Lib.hid hw
  have hn2 : os.length ≤ 4611686018427387904 := by omega
  obtain ⟨hx1, hx2⟩ := hx
  obtain ⟨hy1, hy2⟩ := hy
  clear hm hme he hs ht hn hw hon
  go_enter Try.func88, Try.ntmps88
  go_wp2
  go_loopw [9] (fun i wr => ∃ k : Nat, k ≤ os.length ∧ i = .int .i64 k ∧ Hid (∀ i, i < k → pxl (picW ss) ss.length (picL ss) (x + (os.getD i (0, 0)).1) (y + (os.getD i (0, 0)).2) = true) ∧ Hid (w.Ext wr)) (fun i _ => os.length - (intOf i).toNat)
  case atStart => exact ⟨0, Nat.zero_le _, rfl, fun r hr => by omega, .refl _⟩
  case round =>
    obtain ⟨k, hk, rfl, HK, HX⟩ := hrel
    have hpr := HX.out.cell hpe
    by_cases hlt : k < os.length
    · obtain ⟨b, o, rfl, hc1, hc2⟩ := (HME.out.ext HX.out).at hlt
      have hk0 : (0 : Int) ≤ (k : Int) := by omega
      have hlt' : (k : Int) < (os.length : Int) := by omega
      obtain ⟨o1, o2, o3, o4⟩ := HS.out k hlt
      have HP := Lib.hid (HX.out.cell hp)
      have HN1 : Hid (pxl (picW ss) ss.length (picL ss) (x + (os.getD k (0, 0)).1) (y + (os.getD k (0, 0)).2) = true → ∀ i, i < k + 1 → pxl (picW ss) ss.length (picL ss) (x + (os.getD i (0, 0)).1) (y + (os.getD i (0, 0)).2) = true) := fun h i hi => by
        by_cases e : i = k
        · rw [e]; exact h
        · exact HK.out i (by omega)
      have HB : Hid (pxl (picW ss) ss.length (picL ss) (x + (os.getD k (0, 0)).1) (y + (os.getD k (0, 0)).2) = false → t = false) := fun h => by
        rw [← HT.out]
        unfold fitsB
        first | exact any_true (d := ((0 : Int), (0 : Int))) hlt h | exact all_false (d := ((0 : Int), (0 : Int))) hlt h
      generalize os.getD k (0, 0) = q at hc1 hc2 HN1 HB o1 o2 o3 o4
      obtain ⟨qx, qy⟩ := q
      dsimp only at hc1 hc2 HN1 HB o1 o2 o3 o4
      have hw1 : IntKind.i64.wrap (x + qx) = x + qx := IntWalk.i64_in _ (by omega)
      have hw2 : IntKind.i64.wrap (y + qy) = y + qy := IntWalk.i64_in _ (by omega)
      cases hv : pxl (picW ss) ss.length (picL ss) (x + qx) (y + qy)
      · have HV := Lib.hid hv
        first
        | (have hf := HB.out hv
           subst hf
           clear hv HB HN1
           go_wp2_with fail
           refine wp_region_over_lit (by kernel_rfl) (by kernel_rfl) ?_; (repeat (go_big_quiet_step ((go_at_call 89; exact Calls.over_of (l01Black_any p a c ss (x + qx) (y + qy) _ HE.out HN.out HW.out (World.Ext.cell ⟨_, rfl⟩ HP.out) (RowOf.ext HM.out (HX.out.over _)) _ HV.out))))); refine wpQuiet_nil ?_; rintro _ ⟨x1, rfl⟩
           go_wp2
           go_ret
           exact ⟨rfl, HX.out.over _⟩)
        | (have HK1 := Lib.hid (HN1.out hv)
           clear hv HB HN1
           go_wp2_with fail
           refine wp_region_over_lit (by kernel_rfl) (by kernel_rfl) ?_; (repeat (go_big_quiet_step ((go_at_call 89; exact Calls.over_of (l01Black_any p a c ss (x + qx) (y + qy) _ HE.out HN.out HW.out (World.Ext.cell ⟨_, rfl⟩ HP.out) (RowOf.ext HM.out (HX.out.over _)) _ HV.out))))); refine wpQuiet_nil ?_; rintro _ ⟨x1, rfl⟩
           clear hw1 hw2
           go_wp2
           go_roundw
           case rel => exact ⟨k + 1, by omega, by go_num, HK1.out, HX.out.over _⟩
           case measure => simp [intOf]; omega)
      · have HV := Lib.hid hv
        first
        | (have hf := HB.out hv
           subst hf
           clear hv HB HN1
           go_wp2_with fail
           refine wp_region_over_lit (by kernel_rfl) (by kernel_rfl) ?_; (repeat (go_big_quiet_step ((go_at_call 89; exact Calls.over_of (l01Black_any p a c ss (x + qx) (y + qy) _ HE.out HN.out HW.out (World.Ext.cell ⟨_, rfl⟩ HP.out) (RowOf.ext HM.out (HX.out.over _)) _ HV.out))))); refine wpQuiet_nil ?_; rintro _ ⟨x1, rfl⟩
           go_wp2
           go_ret
           exact ⟨rfl, HX.out.over _⟩)
        | (have HK1 := Lib.hid (HN1.out hv)
           clear hv HB HN1
           go_wp2_with fail
           refine wp_region_over_lit (by kernel_rfl) (by kernel_rfl) ?_; (repeat (go_big_quiet_step ((go_at_call 89; exact Calls.over_of (l01Black_any p a c ss (x + qx) (y + qy) _ HE.out HN.out HW.out (World.Ext.cell ⟨_, rfl⟩ HP.out) (RowOf.ext HM.out (HX.out.over _)) _ HV.out))))); refine wpQuiet_nil ?_; rintro _ ⟨x1, rfl⟩
           clear hw1 hw2
           go_wp2
           go_roundw
           case rel => exact ⟨k + 1, by omega, by go_num, HK1.out, HX.out.over _⟩
           case measure => simp [intOf]; omega)
    · have : k = os.length := by omega
      subst this
      have hf : t = true := by
        rw [← HT.out]
        unfold fitsB
        first | exact any_false (d := ((0 : Int), (0 : Int))) HK.out | exact all_getD.2 HK.out
      subst hf
      go_wp2
      go_ret
      exact ⟨rfl, HX.out⟩
def openB (W H : Nat) (l : List Bool) (os : List (Int × Int)) (x y : Int) : Bool := os.any fun o => fitsB W H l os (x - o.1) (y - o.2)
def closeB (W H : Nat) (l : List Bool) (os : List (Int × Int)) (x y : Int) : Bool := os.all fun o => someB W H l os (x + o.1) (y + o.2)
set_option maxHeartbeats 800000 in
theorem l03Pixel0_any (p pe : Nat) (a : Option Addr) (c : Nat) (ss : List ByteArray) (ae : Option Addr) (ce : Nat) (os : List (Int × Int)) (x y : Int) (w : World) (he : Even ss) (hn : ss.length ≤ 1048576) (hw : picW ss ≤ 1048576)
    (hp : w.cell? ⟨p, 0, none⟩ = some (.slice a ss.length c)) (hm : RowS w a ss) (hpe : w.cell? ⟨pe, 0, none⟩ = some (.slice ae os.length ce)) (hme : RowP w ae os) (hon : os.length ≤ 1048576) (hs : Small os)
    (hx : -900 ≤ x ∧ x ≤ 900) (hy : -900 ≤ y ∧ y ≤ 900) (t : Bool) (ht : someB (picW ss) ss.length (picL ss) os x y = t) :
    Calls Try.prog 174 #[.pointer (some ⟨p, 0, none⟩), .pointer (some ⟨pe, 0, none⟩), .int .i64 0, .int .i64 x, .int .i64 y] w fun e w' => e = .returned (.bool t) ∧ w.Ext w' := by
  have HC := Lib.hid (l03Some_any p pe a c ss ae ce os x y w he hn hw hp hm hpe hme hon hs (by omega) (by omega) t ht)
  clear he hn hw hp hm hpe hme hon hs hx hy ht
  go_enter Try.func174, Try.ntmps174
  go_wp2_with fail
  refine HC.out.mono ?_
  rintro e w' ⟨rfl, x1, rfl⟩
  go_wp2
  go_ret
  exact ⟨rfl, x1, rfl⟩
set_option maxHeartbeats 800000 in
theorem l03Pixel1_any (p pe : Nat) (a : Option Addr) (c : Nat) (ss : List ByteArray) (ae : Option Addr) (ce : Nat) (os : List (Int × Int)) (x y : Int) (w : World) (he : Even ss) (hn : ss.length ≤ 1048576) (hw : picW ss ≤ 1048576)
    (hp : w.cell? ⟨p, 0, none⟩ = some (.slice a ss.length c)) (hm : RowS w a ss) (hpe : w.cell? ⟨pe, 0, none⟩ = some (.slice ae os.length ce)) (hme : RowP w ae os) (hon : os.length ≤ 1048576) (hs : Small os)
    (hx : -900 ≤ x ∧ x ≤ 900) (hy : -900 ≤ y ∧ y ≤ 900) (t : Bool) (ht : fitsB (picW ss) ss.length (picL ss) os x y = t) :
    Calls Try.prog 174 #[.pointer (some ⟨p, 0, none⟩), .pointer (some ⟨pe, 0, none⟩), .int .i64 1, .int .i64 x, .int .i64 y] w fun e w' => e = .returned (.bool t) ∧ w.Ext w' := by
  have HC := Lib.hid (l03Fits_any p pe a c ss ae ce os x y w he hn hw hp hm hpe hme hon hs (by omega) (by omega) t ht)
  clear he hn hw hp hm hpe hme hon hs hx hy ht
  go_enter Try.func174, Try.ntmps174
  go_wp2_with fail
  refine HC.out.mono ?_
  rintro e w' ⟨rfl, x1, rfl⟩
  go_wp2
  go_ret
  exact ⟨rfl, x1, rfl⟩
set_option maxRecDepth 5000 in
set_option maxHeartbeats 1600000 in
theorem l03Pixel2_any (p pe : Nat) (a : Option Addr) (c : Nat) (ss : List ByteArray) (ae : Option Addr) (ce : Nat) (os : List (Int × Int)) (x y : Int) (w : World) (he : Even ss) (hn : ss.length ≤ 1048576) (hw : picW ss ≤ 1048576)
    (hp : w.cell? ⟨p, 0, none⟩ = some (.slice a ss.length c)) (hm : RowS w a ss) (hpe : w.cell? ⟨pe, 0, none⟩ = some (.slice ae os.length ce)) (hme : RowP w ae os) (hon : os.length ≤ 1048576) (hs : Small os)
    (hx : -900 ≤ x ∧ x ≤ 900) (hy : -900 ≤ y ∧ y ≤ 900) (t : Bool) (ht : openB (picW ss) ss.length (picL ss) os x y = t) :
    Calls Try.prog 174 #[.pointer (some ⟨p, 0, none⟩), .pointer (some ⟨pe, 0, none⟩), .int .i64 2, .int .i64 x, .int .i64 y] w fun e w' => e = .returned (.bool t) ∧ w.Ext w' := by
  have HM := Lib.hid hm
  have HME := Lib.hid hme
  have HS := Lib.hid hs
  have HT := Lib.hid ht
  have HC := Lib.hid (fun (w' : World) (hx' : w.Ext w') (x' y' : Int) (h1 : -1000 ≤ x' ∧ x' ≤ 1000) (h2 : -1000 ≤ y' ∧ y' ≤ 1000) => l03Fits_any p pe a c ss ae ce os x' y' w' he hn hw (hx'.cell hp) (RowOf.ext hm hx') (hx'.cell hpe) (hme.ext hx') hon hs h1 h2 _ rfl)
  have hn2 : os.length ≤ 4611686018427387904 := by omega
  obtain ⟨hx1, hx2⟩ := hx
  obtain ⟨hy1, hy2⟩ := hy
  clear hm hme he hs ht hn hw hon hp
  go_enter Try.func174, Try.ntmps174
  go_wp2
  go_loopw [11, 12] (fun i _ wr => ∃ k : Nat, k ≤ os.length ∧ i = .int .i64 k ∧ Hid (∀ i, i < k → fitsB (picW ss) ss.length (picL ss) os (x - (os.getD i (0, 0)).1) (y - (os.getD i (0, 0)).2) = false) ∧ Hid (w.Ext wr)) (fun i _ _ => os.length - (intOf i).toNat)
  case atStart => exact ⟨0, Nat.zero_le _, rfl, fun r hr => by omega, .refl _⟩
  case round =>
    obtain ⟨k, hk, rfl, HK, HX⟩ := hrel
    have hpr := HX.out.cell hpe
    by_cases hlt : k < os.length
    · obtain ⟨b, o, rfl, hc1, hc2⟩ := (HME.out.ext HX.out).at hlt
      have hk0 : (0 : Int) ≤ (k : Int) := by omega
      have hlt' : (k : Int) < (os.length : Int) := by omega
      obtain ⟨o1, o2, o3, o4⟩ := HS.out k hlt
      have HN1 : Hid (fitsB (picW ss) ss.length (picL ss) os (x - (os.getD k (0, 0)).1) (y - (os.getD k (0, 0)).2) = false → ∀ i, i < k + 1 → fitsB (picW ss) ss.length (picL ss) os (x - (os.getD i (0, 0)).1) (y - (os.getD i (0, 0)).2) = false) := fun h i hi => by
        by_cases e : i = k
        · rw [e]; exact h
        · exact HK.out i (by omega)
      have HB : Hid (fitsB (picW ss) ss.length (picL ss) os (x - (os.getD k (0, 0)).1) (y - (os.getD k (0, 0)).2) = true → t = true) := fun h => by
        rw [← HT.out]
        unfold openB
        first | exact any_true (d := ((0 : Int), (0 : Int))) hlt h | exact all_false (d := ((0 : Int), (0 : Int))) hlt h
      generalize os.getD k (0, 0) = q at hc1 hc2 HN1 HB o1 o2 o3 o4
      obtain ⟨qx, qy⟩ := q
      dsimp only at hc1 hc2 HN1 HB o1 o2 o3 o4
      go_wp2_with fail
      refine (HC.out _ (HX.out.trans (by repeat (first | exact World.Ext.refl _ | exact ⟨_, rfl⟩ | assumption | refine World.Ext.over ?_ _ | refine World.Ext.drewN ?_ _ | refine World.Ext.drew ?_ | refine World.Ext.alloc ?_ _ | refine World.Ext.setCell ?_ (by simp) _))) (x - qx) (y - qy) (by omega) (by omega)).mono ?_
      rintro e w2 ⟨rfl, hx2⟩
      have HX2 : Hid (w.Ext w2) := (HX.out.trans (by repeat (first | exact World.Ext.refl _ | exact ⟨_, rfl⟩ | assumption | refine World.Ext.over ?_ _ | refine World.Ext.drewN ?_ _ | refine World.Ext.drew ?_ | refine World.Ext.alloc ?_ _ | refine World.Ext.setCell ?_ (by simp) _))).trans hx2
      clear hx2 hpr hc1 hc2
      cases hv : fitsB (picW ss) ss.length (picL ss) os (x - qx) (y - qy)
      · first
        | (have hf := HB.out hv
           subst hf
           clear HB HN1 hv
           go_wp2
           go_ret
           exact ⟨rfl, HX2.out⟩)
        | (have HK1 := Lib.hid (HN1.out hv)
           clear HB HN1 hv
           go_wp2
           go_roundw
           case rel => exact ⟨k + 1, by omega, by go_num, HK1.out, HX2.out⟩
           case measure => simp [intOf]; omega)
      · first
        | (have hf := HB.out hv
           subst hf
           clear HB HN1 hv
           go_wp2
           go_ret
           exact ⟨rfl, HX2.out⟩)
        | (have HK1 := Lib.hid (HN1.out hv)
           clear HB HN1 hv
           go_wp2
           go_roundw
           case rel => exact ⟨k + 1, by omega, by go_num, HK1.out, HX2.out⟩
           case measure => simp [intOf]; omega)
    · have : k = os.length := by omega
      subst this
      have hf : t = false := by
        rw [← HT.out]
        unfold openB
        first | exact any_false (d := ((0 : Int), (0 : Int))) HK.out | exact all_getD.2 HK.out
      subst hf
      go_wp2
      go_ret
      exact ⟨rfl, HX.out⟩
set_option maxRecDepth 5000 in
set_option maxHeartbeats 1600000 in
theorem l03Pixel3_any (p pe : Nat) (a : Option Addr) (c : Nat) (ss : List ByteArray) (ae : Option Addr) (ce : Nat) (os : List (Int × Int)) (x y : Int) (w : World) (he : Even ss) (hn : ss.length ≤ 1048576) (hw : picW ss ≤ 1048576)
    (hp : w.cell? ⟨p, 0, none⟩ = some (.slice a ss.length c)) (hm : RowS w a ss) (hpe : w.cell? ⟨pe, 0, none⟩ = some (.slice ae os.length ce)) (hme : RowP w ae os) (hon : os.length ≤ 1048576) (hs : Small os)
    (hx : -900 ≤ x ∧ x ≤ 900) (hy : -900 ≤ y ∧ y ≤ 900) (t : Bool) (ht : closeB (picW ss) ss.length (picL ss) os x y = t) :
    Calls Try.prog 174 #[.pointer (some ⟨p, 0, none⟩), .pointer (some ⟨pe, 0, none⟩), .int .i64 3, .int .i64 x, .int .i64 y] w fun e w' => e = .returned (.bool t) ∧ w.Ext w' := by
  have HM := Lib.hid hm
  have HME := Lib.hid hme
  have HS := Lib.hid hs
  have HT := Lib.hid ht
  have HC := Lib.hid (fun (w' : World) (hx' : w.Ext w') (x' y' : Int) (h1 : -1000 ≤ x' ∧ x' ≤ 1000) (h2 : -1000 ≤ y' ∧ y' ≤ 1000) => l03Some_any p pe a c ss ae ce os x' y' w' he hn hw (hx'.cell hp) (RowOf.ext hm hx') (hx'.cell hpe) (hme.ext hx') hon hs h1 h2 _ rfl)
  have hn2 : os.length ≤ 4611686018427387904 := by omega
  obtain ⟨hx1, hx2⟩ := hx
  obtain ⟨hy1, hy2⟩ := hy
  clear hm hme he hs ht hn hw hon hp
  go_enter Try.func174, Try.ntmps174
  go_wp2
  go_loopw [11, 12] (fun i _ wr => ∃ k : Nat, k ≤ os.length ∧ i = .int .i64 k ∧ Hid (∀ i, i < k → someB (picW ss) ss.length (picL ss) os (x + (os.getD i (0, 0)).1) (y + (os.getD i (0, 0)).2) = true) ∧ Hid (w.Ext wr)) (fun i _ _ => os.length - (intOf i).toNat)
  case atStart => exact ⟨0, Nat.zero_le _, rfl, fun r hr => by omega, .refl _⟩
  case round =>
    obtain ⟨k, hk, rfl, HK, HX⟩ := hrel
    have hpr := HX.out.cell hpe
    by_cases hlt : k < os.length
    · obtain ⟨b, o, rfl, hc1, hc2⟩ := (HME.out.ext HX.out).at hlt
      have hk0 : (0 : Int) ≤ (k : Int) := by omega
      have hlt' : (k : Int) < (os.length : Int) := by omega
      obtain ⟨o1, o2, o3, o4⟩ := HS.out k hlt
      have HN1 : Hid (someB (picW ss) ss.length (picL ss) os (x + (os.getD k (0, 0)).1) (y + (os.getD k (0, 0)).2) = true → ∀ i, i < k + 1 → someB (picW ss) ss.length (picL ss) os (x + (os.getD i (0, 0)).1) (y + (os.getD i (0, 0)).2) = true) := fun h i hi => by
        by_cases e : i = k
        · rw [e]; exact h
        · exact HK.out i (by omega)
      have HB : Hid (someB (picW ss) ss.length (picL ss) os (x + (os.getD k (0, 0)).1) (y + (os.getD k (0, 0)).2) = false → t = false) := fun h => by
        rw [← HT.out]
        unfold closeB
        first | exact any_true (d := ((0 : Int), (0 : Int))) hlt h | exact all_false (d := ((0 : Int), (0 : Int))) hlt h
      generalize os.getD k (0, 0) = q at hc1 hc2 HN1 HB o1 o2 o3 o4
      obtain ⟨qx, qy⟩ := q
      dsimp only at hc1 hc2 HN1 HB o1 o2 o3 o4
      go_wp2_with fail
      refine (HC.out _ (HX.out.trans (by repeat (first | exact World.Ext.refl _ | exact ⟨_, rfl⟩ | assumption | refine World.Ext.over ?_ _ | refine World.Ext.drewN ?_ _ | refine World.Ext.drew ?_ | refine World.Ext.alloc ?_ _ | refine World.Ext.setCell ?_ (by simp) _))) (x + qx) (y + qy) (by omega) (by omega)).mono ?_
      rintro e w2 ⟨rfl, hx2⟩
      have HX2 : Hid (w.Ext w2) := (HX.out.trans (by repeat (first | exact World.Ext.refl _ | exact ⟨_, rfl⟩ | assumption | refine World.Ext.over ?_ _ | refine World.Ext.drewN ?_ _ | refine World.Ext.drew ?_ | refine World.Ext.alloc ?_ _ | refine World.Ext.setCell ?_ (by simp) _))).trans hx2
      clear hx2 hpr hc1 hc2
      cases hv : someB (picW ss) ss.length (picL ss) os (x + qx) (y + qy)
      · first
        | (have hf := HB.out hv
           subst hf
           clear HB HN1 hv
           go_wp2
           go_ret
           exact ⟨rfl, HX2.out⟩)
        | (have HK1 := Lib.hid (HN1.out hv)
           clear HB HN1 hv
           go_wp2
           go_roundw
           case rel => exact ⟨k + 1, by omega, by go_num, HK1.out, HX2.out⟩
           case measure => simp [intOf]; omega)
      · first
        | (have hf := HB.out hv
           subst hf
           clear HB HN1 hv
           go_wp2
           go_ret
           exact ⟨rfl, HX2.out⟩)
        | (have HK1 := Lib.hid (HN1.out hv)
           clear HB HN1 hv
           go_wp2
           go_roundw
           case rel => exact ⟨k + 1, by omega, by go_num, HK1.out, HX2.out⟩
           case measure => simp [intOf]; omega)
    · have : k = os.length := by omega
      subst this
      have hf : t = true := by
        rw [← HT.out]
        unfold closeB
        first | exact any_false (d := ((0 : Int), (0 : Int))) HK.out | exact all_getD.2 HK.out
      subst hf
      go_wp2
      go_ret
      exact ⟨rfl, HX.out⟩
end Go.Proofs.Ytpploijlijnahaa
