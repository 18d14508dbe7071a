/- The reference's pictures that an element makes. -/
import Derived.Test.YthfggdmbegofoaaMor
namespace Go.Proofs.Ythfggdmbegofoaa
open Go.RowKit
set_option maxRecDepth 5000 in
set_option maxHeartbeats 1600000 in
theorem l03Some_any (p pe : Nat) (a : Option Addr) (c : Nat) (ss : List ByteArray) (ae : Option Addr) (ce : Nat) (os : List (Int × Int)) (x y : Int) (w : World) (he : Even ss) (hn : ss.length ≤ 1048576) (hw : picW ss ≤ 1048576)
    (hp : w.cell? ⟨p, 0, none⟩ = some (.slice a ss.length c)) (hm : RowS w a ss) (hpe : w.cell? ⟨pe, 0, none⟩ = some (.slice ae os.length ce)) (hme : RowP w ae os) (hon : os.length ≤ 1048576) (hs : Small os)
    (hx : -1000 ≤ x ∧ x ≤ 1000) (hy : -1000 ≤ y ∧ y ≤ 1000) (t : Bool) (ht : someB (picW ss) ss.length (picL ss) os x y = t) :
    Calls Try.prog 257 #[.pointer (some ⟨p, 0, none⟩), .pointer (some ⟨pe, 0, none⟩), .int .i64 x, .int .i64 y] w fun e w' => e = .returned (.bool t) ∧ w.Ext w' := by
  have HM := Lib.hid hm
  have HME := Lib.hid hme
  have HE := Lib.hid he
  have HS := Lib.hid hs
  have HT := Lib.hid ht
  have HN := Lib.hid hn
  have HW := Lib.hid hw
  have hn2 : os.length ≤ 4611686018427387904 := by omega
  obtain ⟨hx1, hx2⟩ := hx
  obtain ⟨hy1, hy2⟩ := hy
  clear hm hme he hs ht hn hw hon
  go_enter Try.func257, Try.ntmps257
  go_wp2
  go_loopw [9] (fun i wr => ∃ k : Nat, k ≤ os.length ∧ i = .int .i64 k ∧ Hid (∀ i, i < k → pxl (picW ss) ss.length (picL ss) (x - (os.getD i (0, 0)).1) (y - (os.getD i (0, 0)).2) = false) ∧ Hid (w.Ext wr)) (fun i _ => os.length - (intOf i).toNat)
  case atStart => exact ⟨0, Nat.zero_le _, rfl, fun r hr => by omega, .refl _⟩
  case round =>
    obtain ⟨k, hk, rfl, HK, HX⟩ := hrel
    have hpr := HX.out.cell hpe
    by_cases hlt : k < os.length
    · obtain ⟨b, o, rfl, hc1, hc2⟩ := (HME.out.ext HX.out).at hlt
      have hk0 : (0 : Int) ≤ (k : Int) := by omega
      have hlt' : (k : Int) < (os.length : Int) := by omega
      obtain ⟨o1, o2, o3, o4⟩ := HS.out k hlt
      have HP := Lib.hid (HX.out.cell hp)
      have HN1 : Hid (pxl (picW ss) ss.length (picL ss) (x - (os.getD k (0, 0)).1) (y - (os.getD k (0, 0)).2) = false → ∀ i, i < k + 1 → pxl (picW ss) ss.length (picL ss) (x - (os.getD i (0, 0)).1) (y - (os.getD i (0, 0)).2) = false) := fun h i hi => by
        by_cases e : i = k
        · rw [e]; exact h
        · exact HK.out i (by omega)
      have HB : Hid (pxl (picW ss) ss.length (picL ss) (x - (os.getD k (0, 0)).1) (y - (os.getD k (0, 0)).2) = true → t = true) := fun h => by
        rw [← HT.out]
        unfold someB
        first | exact any_true (d := ((0 : Int), (0 : Int))) hlt h | exact all_false (d := ((0 : Int), (0 : Int))) hlt h
      generalize os.getD k (0, 0) = q at hc1 hc2 HN1 HB o1 o2 o3 o4
      obtain ⟨qx, qy⟩ := q
      dsimp only at hc1 hc2 HN1 HB o1 o2 o3 o4
      have hw1 : IntKind.i64.wrap (x - qx) = x - qx := IntWalk.i64_in _ (by omega)
      have hw2 : IntKind.i64.wrap (y - qy) = y - qy := IntWalk.i64_in _ (by omega)
      cases hv : pxl (picW ss) ss.length (picL ss) (x - qx) (y - qy)
      · have HV := Lib.hid hv
        first
        | (have hf := HB.out hv
           subst hf
           clear hv HB HN1
           go_wp2_with fail
           refine wp_region_over_lit (by kernel_rfl) (by kernel_rfl) ?_; (repeat (go_big_quiet_step ((go_at_call 203; exact Calls.over_of (l01Black_any p a c ss (x - qx) (y - qy) _ HE.out HN.out HW.out (World.Ext.cell ⟨_, rfl⟩ HP.out) (RowOf.ext HM.out (HX.out.over _)) _ HV.out))))); refine wpQuiet_nil ?_; rintro _ ⟨x1, rfl⟩
           go_wp2
           go_ret
           exact ⟨rfl, HX.out.over _⟩)
        | (have HK1 := Lib.hid (HN1.out hv)
           clear hv HB HN1
           go_wp2_with fail
           refine wp_region_over_lit (by kernel_rfl) (by kernel_rfl) ?_; (repeat (go_big_quiet_step ((go_at_call 203; exact Calls.over_of (l01Black_any p a c ss (x - qx) (y - qy) _ HE.out HN.out HW.out (World.Ext.cell ⟨_, rfl⟩ HP.out) (RowOf.ext HM.out (HX.out.over _)) _ HV.out))))); refine wpQuiet_nil ?_; rintro _ ⟨x1, rfl⟩
           clear hw1 hw2
           go_wp2
           go_roundw
           case rel => exact ⟨k + 1, by omega, by go_num, HK1.out, HX.out.over _⟩
           case measure => simp [intOf]; omega)
      · have HV := Lib.hid hv
        first
        | (have hf := HB.out hv
           subst hf
           clear hv HB HN1
           go_wp2_with fail
           refine wp_region_over_lit (by kernel_rfl) (by kernel_rfl) ?_; (repeat (go_big_quiet_step ((go_at_call 203; exact Calls.over_of (l01Black_any p a c ss (x - qx) (y - qy) _ HE.out HN.out HW.out (World.Ext.cell ⟨_, rfl⟩ HP.out) (RowOf.ext HM.out (HX.out.over _)) _ HV.out))))); refine wpQuiet_nil ?_; rintro _ ⟨x1, rfl⟩
           go_wp2
           go_ret
           exact ⟨rfl, HX.out.over _⟩)
        | (have HK1 := Lib.hid (HN1.out hv)
           clear hv HB HN1
           go_wp2_with fail
           refine wp_region_over_lit (by kernel_rfl) (by kernel_rfl) ?_; (repeat (go_big_quiet_step ((go_at_call 203; exact Calls.over_of (l01Black_any p a c ss (x - qx) (y - qy) _ HE.out HN.out HW.out (World.Ext.cell ⟨_, rfl⟩ HP.out) (RowOf.ext HM.out (HX.out.over _)) _ HV.out))))); refine wpQuiet_nil ?_; rintro _ ⟨x1, rfl⟩
           clear hw1 hw2
           go_wp2
           go_roundw
           case rel => exact ⟨k + 1, by omega, by go_num, HK1.out, HX.out.over _⟩
           case measure => simp [intOf]; omega)
    · have : k = os.length := by omega
      subst this
      have hf : t = false := by
        rw [← HT.out]
        unfold someB
        first | exact any_false (d := ((0 : Int), (0 : Int))) HK.out | exact all_getD.2 HK.out
      subst hf
      go_wp2
      go_ret
      exact ⟨rfl, HX.out⟩
set_option maxRecDepth 5000 in
set_option maxHeartbeats 1600000 in
theorem l03Fits_any (p pe : Nat) (a : Option Addr) (c : Nat) (ss : List ByteArray) (ae : Option Addr) (ce : Nat) (os : List (Int × Int)) (x y : Int) (w : World) (he : Even ss) (hn : ss.length ≤ 1048576) (hw : picW ss ≤ 1048576)
    (hp : w.cell? ⟨p, 0, none⟩ = some (.slice a ss.length c)) (hm : RowS w a ss) (hpe : w.cell? ⟨pe, 0, none⟩ = some (.slice ae os.length ce)) (hme : RowP w ae os) (hon : os.length ≤ 1048576) (hs : Small os)
    (hx : -1000 ≤ x ∧ x ≤ 1000) (hy : -1000 ≤ y ∧ y ≤ 1000) (t : Bool) (ht : fitsB (picW ss) ss.length (picL ss) os x y = t) :
    Calls Try.prog 258 #[.pointer (some ⟨p, 0, none⟩), .pointer (some ⟨pe, 0, none⟩), .int .i64 x, .int .i64 y] w fun e w' => e = .returned (.bool t) ∧ w.Ext w' := by
  have HM := Lib.hid hm
  have HME := Lib.hid hme
  have HE := Lib.hid he
  have HS := Lib.hid hs
  have HT := Lib.hid ht
  have HN := Lib.hid hn
  have HW := Lib.hid hw
  have hn2 : os.length ≤ 4611686018427387904 := by omega
  obtain ⟨hx1, hx2⟩ := hx
  obtain ⟨hy1, hy2⟩ := hy
  clear hm hme he hs ht hn hw hon
  go_enter Try.func258, Try.ntmps258
  go_wp2
  go_loopw [9] (fun i wr => ∃ k : Nat, k ≤ os.length ∧ i = .int .i64 k ∧ Hid (∀ i, i < k → pxl (picW ss) ss.length (picL ss) (x + (os.getD i (0, 0)).1) (y + (os.getD i (0, 0)).2) = true) ∧ Hid (w.Ext wr)) (fun i _ => os.length - (intOf i).toNat)
  case atStart => exact ⟨0, Nat.zero_le _, rfl, fun r hr => by omega, .refl _⟩
  case round =>
    obtain ⟨k, hk, rfl, HK, HX⟩ := hrel
    have hpr := HX.out.cell hpe
    by_cases hlt : k < os.length
    · obtain ⟨b, o, rfl, hc1, hc2⟩ := (HME.out.ext HX.out).at hlt
      have hk0 : (0 : Int) ≤ (k : Int) := by omega
      have hlt' : (k : Int) < (os.length : Int) := by omega
      obtain ⟨o1, o2, o3, o4⟩ := HS.out k hlt
      have HP := Lib.hid (HX.out.cell hp)
      have HN1 : Hid (pxl (picW ss) ss.length (picL ss) (x + (os.getD k (0, 0)).1) (y + (os.getD k (0, 0)).2) = true → ∀ i, i < k + 1 → pxl (picW ss) ss.length (picL ss) (x + (os.getD i (0, 0)).1) (y + (os.getD i (0, 0)).2) = true) := fun h i hi => by
        by_cases e : i = k
        · rw [e]; exact h
        · exact HK.out i (by omega)
      have HB : Hid (pxl (picW ss) ss.length (picL ss) (x + (os.getD k (0, 0)).1) (y + (os.getD k (0, 0)).2) = false → t = false) := fun h => by
        rw [← HT.out]
        unfold fitsB
        first | exact any_true (d := ((0 : Int), (0 : Int))) hlt h | exact all_false (d := ((0 : Int), (0 : Int))) hlt h
      generalize os.getD k (0, 0) = q at hc1 hc2 HN1 HB o1 o2 o3 o4
      obtain ⟨qx, qy⟩ := q
      dsimp only at hc1 hc2 HN1 HB o1 o2 o3 o4
      have hw1 : IntKind.i64.wrap (x + qx) = x + qx := IntWalk.i64_in _ (by omega)
      have hw2 : IntKind.i64.wrap (y + qy) = y + qy := IntWalk.i64_in _ (by omega)
      cases hv : pxl (picW ss) ss.length (picL ss) (x + qx) (y + qy)
      · have HV := Lib.hid hv
        first
        | (have hf := HB.out hv
           subst hf
           clear hv HB HN1
           go_wp2_with fail
           refine wp_region_over_lit (by kernel_rfl) (by kernel_rfl) ?_; (repeat (go_big_quiet_step ((go_at_call 203; exact Calls.over_of (l01Black_any p a c ss (x + qx) (y + qy) _ HE.out HN.out HW.out (World.Ext.cell ⟨_, rfl⟩ HP.out) (RowOf.ext HM.out (HX.out.over _)) _ HV.out))))); refine wpQuiet_nil ?_; rintro _ ⟨x1, rfl⟩
           go_wp2
           go_ret
           exact ⟨rfl, HX.out.over _⟩)
        | (have HK1 := Lib.hid (HN1.out hv)
           clear hv HB HN1
           go_wp2_with fail
           refine wp_region_over_lit (by kernel_rfl) (by kernel_rfl) ?_; (repeat (go_big_quiet_step ((go_at_call 203; exact Calls.over_of (l01Black_any p a c ss (x + qx) (y + qy) _ HE.out HN.out HW.out (World.Ext.cell ⟨_, rfl⟩ HP.out) (RowOf.ext HM.out (HX.out.over _)) _ HV.out))))); refine wpQuiet_nil ?_; rintro _ ⟨x1, rfl⟩
           clear hw1 hw2
           go_wp2
           go_roundw
           case rel => exact ⟨k + 1, by omega, by go_num, HK1.out, HX.out.over _⟩
           case measure => simp [intOf]; omega)
      · have HV := Lib.hid hv
        first
        | (have hf := HB.out hv
           subst hf
           clear hv HB HN1
           go_wp2_with fail
           refine wp_region_over_lit (by kernel_rfl) (by kernel_rfl) ?_; (repeat (go_big_quiet_step ((go_at_call 203; exact Calls.over_of (l01Black_any p a c ss (x + qx) (y + qy) _ HE.out HN.out HW.out (World.Ext.cell ⟨_, rfl⟩ HP.out) (RowOf.ext HM.out (HX.out.over _)) _ HV.out))))); refine wpQuiet_nil ?_; rintro _ ⟨x1, rfl⟩
           go_wp2
           go_ret
           exact ⟨rfl, HX.out.over _⟩)
        | (have HK1 := Lib.hid (HN1.out hv)
           clear hv HB HN1
           go_wp2_with fail
           refine wp_region_over_lit (by kernel_rfl) (by kernel_rfl) ?_; (repeat (go_big_quiet_step ((go_at_call 203; exact Calls.over_of (l01Black_any p a c ss (x + qx) (y + qy) _ HE.out HN.out HW.out (World.Ext.cell ⟨_, rfl⟩ HP.out) (RowOf.ext HM.out (HX.out.over _)) _ HV.out))))); refine wpQuiet_nil ?_; rintro _ ⟨x1, rfl⟩
           clear hw1 hw2
           go_wp2
           go_roundw
           case rel => exact ⟨k + 1, by omega, by go_num, HK1.out, HX.out.over _⟩
           case measure => simp [intOf]; omega)
    · have : k = os.length := by omega
      subst this
      have hf : t = true := by
        rw [← HT.out]
        unfold fitsB
        first | exact any_false (d := ((0 : Int), (0 : Int))) HK.out | exact all_getD.2 HK.out
      subst hf
      go_wp2
      go_ret
      exact ⟨rfl, HX.out⟩
set_option maxHeartbeats 800000 in
theorem l03Pixel0_any (p pe : Nat) (a : Option Addr) (c : Nat) (ss : List ByteArray) (ae : Option Addr) (ce : Nat) (os : List (Int × Int)) (x y : Int) (w : World) (he : Even ss) (hn : ss.length ≤ 1048576) (hw : picW ss ≤ 1048576)
    (hp : w.cell? ⟨p, 0, none⟩ = some (.slice a ss.length c)) (hm : RowS w a ss) (hpe : w.cell? ⟨pe, 0, none⟩ = some (.slice ae os.length ce)) (hme : RowP w ae os) (hon : os.length ≤ 1048576) (hs : Small os)
    (hx : -900 ≤ x ∧ x ≤ 900) (hy : -900 ≤ y ∧ y ≤ 900) (t : Bool) (ht : someB (picW ss) ss.length (picL ss) os x y = t) :
    Calls Try.prog 237 #[.pointer (some ⟨p, 0, none⟩), .pointer (some ⟨pe, 0, none⟩), .int .i64 0, .int .i64 x, .int .i64 y] w fun e w' => e = .returned (.bool t) ∧ w.Ext w' := by
  have HC := Lib.hid (l03Some_any p pe a c ss ae ce os x y w he hn hw hp hm hpe hme hon hs (by omega) (by omega) t ht)
  clear he hn hw hp hm hpe hme hon hs hx hy ht
  go_enter Try.func237, Try.ntmps237
  go_wp2_with fail
  refine HC.out.mono ?_
  rintro e w' ⟨rfl, x1, rfl⟩
  go_wp2
  go_ret
  exact ⟨rfl, x1, rfl⟩
set_option maxHeartbeats 800000 in
theorem l03Pixel1_any (p pe : Nat) (a : Option Addr) (c : Nat) (ss : List ByteArray) (ae : Option Addr) (ce : Nat) (os : List (Int × Int)) (x y : Int) (w : World) (he : Even ss) (hn : ss.length ≤ 1048576) (hw : picW ss ≤ 1048576)
    (hp : w.cell? ⟨p, 0, none⟩ = some (.slice a ss.length c)) (hm : RowS w a ss) (hpe : w.cell? ⟨pe, 0, none⟩ = some (.slice ae os.length ce)) (hme : RowP w ae os) (hon : os.length ≤ 1048576) (hs : Small os)
    (hx : -900 ≤ x ∧ x ≤ 900) (hy : -900 ≤ y ∧ y ≤ 900) (t : Bool) (ht : fitsB (picW ss) ss.length (picL ss) os x y = t) :
    Calls Try.prog 237 #[.pointer (some ⟨p, 0, none⟩), .pointer (some ⟨pe, 0, none⟩), .int .i64 1, .int .i64 x, .int .i64 y] w fun e w' => e = .returned (.bool t) ∧ w.Ext w' := by
  have HC := Lib.hid (l03Fits_any p pe a c ss ae ce os x y w he hn hw hp hm hpe hme hon hs (by omega) (by omega) t ht)
  clear he hn hw hp hm hpe hme hon hs hx hy ht
  go_enter Try.func237, Try.ntmps237
  go_wp2_with fail
  refine HC.out.mono ?_
  rintro e w' ⟨rfl, x1, rfl⟩
  go_wp2
  go_ret
  exact ⟨rfl, x1, rfl⟩
set_option maxRecDepth 5000 in
set_option maxHeartbeats 1600000 in
theorem l03Pixel2_any (p pe : Nat) (a : Option Addr) (c : Nat) (ss : List ByteArray) (ae : Option Addr) (ce : Nat) (os : List (Int × Int)) (x y : Int) (w : World) (he : Even ss) (hn : ss.length ≤ 1048576) (hw : picW ss ≤ 1048576)
    (hp : w.cell? ⟨p, 0, none⟩ = some (.slice a ss.length c)) (hm : RowS w a ss) (hpe : w.cell? ⟨pe, 0, none⟩ = some (.slice ae os.length ce)) (hme : RowP w ae os) (hon : os.length ≤ 1048576) (hs : Small os)
    (hx : -900 ≤ x ∧ x ≤ 900) (hy : -900 ≤ y ∧ y ≤ 900) (t : Bool) (ht : openB (picW ss) ss.length (picL ss) os x y = t) :
    Calls Try.prog 237 #[.pointer (some ⟨p, 0, none⟩), .pointer (some ⟨pe, 0, none⟩), .int .i64 2, .int .i64 x, .int .i64 y] w fun e w' => e = .returned (.bool t) ∧ w.Ext w' := by
  have HM := Lib.hid hm
  have HME := Lib.hid hme
  have HS := Lib.hid hs
  have HT := Lib.hid ht
  have HC := Lib.hid (fun (w' : World) (hx' : w.Ext w') (x' y' : Int) (h1 : -1000 ≤ x' ∧ x' ≤ 1000) (h2 : -1000 ≤ y' ∧ y' ≤ 1000) => l03Fits_any p pe a c ss ae ce os x' y' w' he hn hw (hx'.cell hp) (RowOf.ext hm hx') (hx'.cell hpe) (hme.ext hx') hon hs h1 h2 _ rfl)
  have hn2 : os.length ≤ 4611686018427387904 := by omega
  obtain ⟨hx1, hx2⟩ := hx
  obtain ⟨hy1, hy2⟩ := hy
  clear hm hme he hs ht hn hw hon hp
  go_enter Try.func237, Try.ntmps237
  go_wp2
  go_loopw [11, 12] (fun i _ wr => ∃ k : Nat, k ≤ os.length ∧ i = .int .i64 k ∧ Hid (∀ i, i < k → fitsB (picW ss) ss.length (picL ss) os (x - (os.getD i (0, 0)).1) (y - (os.getD i (0, 0)).2) = false) ∧ Hid (w.Ext wr)) (fun i _ _ => os.length - (intOf i).toNat)
  case atStart => exact ⟨0, Nat.zero_le _, rfl, fun r hr => by omega, .refl _⟩
  case round =>
    obtain ⟨k, hk, rfl, HK, HX⟩ := hrel
    have hpr := HX.out.cell hpe
    by_cases hlt : k < os.length
    · obtain ⟨b, o, rfl, hc1, hc2⟩ := (HME.out.ext HX.out).at hlt
      have hk0 : (0 : Int) ≤ (k : Int) := by omega
      have hlt' : (k : Int) < (os.length : Int) := by omega
      obtain ⟨o1, o2, o3, o4⟩ := HS.out k hlt
      have HN1 : Hid (fitsB (picW ss) ss.length (picL ss) os (x - (os.getD k (0, 0)).1) (y - (os.getD k (0, 0)).2) = false → ∀ i, i < k + 1 → fitsB (picW ss) ss.length (picL ss) os (x - (os.getD i (0, 0)).1) (y - (os.getD i (0, 0)).2) = false) := fun h i hi => by
        by_cases e : i = k
        · rw [e]; exact h
        · exact HK.out i (by omega)
      have HB : Hid (fitsB (picW ss) ss.length (picL ss) os (x - (os.getD k (0, 0)).1) (y - (os.getD k (0, 0)).2) = true → t = true) := fun h => by
        rw [← HT.out]
        unfold openB
        first | exact any_true (d := ((0 : Int), (0 : Int))) hlt h | exact all_false (d := ((0 : Int), (0 : Int))) hlt h
      generalize os.getD k (0, 0) = q at hc1 hc2 HN1 HB o1 o2 o3 o4
      obtain ⟨qx, qy⟩ := q
      dsimp only at hc1 hc2 HN1 HB o1 o2 o3 o4
      go_wp2_with fail
      refine (HC.out _ (HX.out.trans (by repeat (first | exact World.Ext.refl _ | exact ⟨_, rfl⟩ | assumption | refine World.Ext.over ?_ _ | refine World.Ext.drewN ?_ _ | refine World.Ext.drew ?_ | refine World.Ext.alloc ?_ _ | refine World.Ext.setCell ?_ (by simp) _))) (x - qx) (y - qy) (by omega) (by omega)).mono ?_
      rintro e w2 ⟨rfl, hx2⟩
      have HX2 : Hid (w.Ext w2) := (HX.out.trans (by repeat (first | exact World.Ext.refl _ | exact ⟨_, rfl⟩ | assumption | refine World.Ext.over ?_ _ | refine World.Ext.drewN ?_ _ | refine World.Ext.drew ?_ | refine World.Ext.alloc ?_ _ | refine World.Ext.setCell ?_ (by simp) _))).trans hx2
      clear hx2 hpr hc1 hc2
      cases hv : fitsB (picW ss) ss.length (picL ss) os (x - qx) (y - qy)
      · first
        | (have hf := HB.out hv
           subst hf
           clear HB HN1 hv
           go_wp2
           go_ret
           exact ⟨rfl, HX2.out⟩)
        | (have HK1 := Lib.hid (HN1.out hv)
           clear HB HN1 hv
           go_wp2
           go_roundw
           case rel => exact ⟨k + 1, by omega, by go_num, HK1.out, HX2.out⟩
           case measure => simp [intOf]; omega)
      · first
        | (have hf := HB.out hv
           subst hf
           clear HB HN1 hv
           go_wp2
           go_ret
           exact ⟨rfl, HX2.out⟩)
        | (have HK1 := Lib.hid (HN1.out hv)
           clear HB HN1 hv
           go_wp2
           go_roundw
           case rel => exact ⟨k + 1, by omega, by go_num, HK1.out, HX2.out⟩
           case measure => simp [intOf]; omega)
    · have : k = os.length := by omega
      subst this
      have hf : t = false := by
        rw [← HT.out]
        unfold openB
        first | exact any_false (d := ((0 : Int), (0 : Int))) HK.out | exact all_getD.2 HK.out
      subst hf
      go_wp2
      go_ret
      exact ⟨rfl, HX.out⟩
set_option maxRecDepth 5000 in
set_option maxHeartbeats 1600000 in
theorem l03Pixel3_any (p pe : Nat) (a : Option Addr) (c : Nat) (ss : List ByteArray) (ae : Option Addr) (ce : Nat) (os : List (Int × Int)) (x y : Int) (w : World) (he : Even ss) (hn : ss.length ≤ 1048576) (hw : picW ss ≤ 1048576)
    (hp : w.cell? ⟨p, 0, none⟩ = some (.slice a ss.length c)) (hm : RowS w a ss) (hpe : w.cell? ⟨pe, 0, none⟩ = some (.slice ae os.length ce)) (hme : RowP w ae os) (hon : os.length ≤ 1048576) (hs : Small os)
    (hx : -900 ≤ x ∧ x ≤ 900) (hy : -900 ≤ y ∧ y ≤ 900) (t : Bool) (ht : closeB (picW ss) ss.length (picL ss) os x y = t) :
    Calls Try.prog 237 #[.pointer (some ⟨p, 0, none⟩), .pointer (some ⟨pe, 0, none⟩), .int .i64 3, .int .i64 x, .int .i64 y] w fun e w' => e = .returned (.bool t) ∧ w.Ext w' := by
  have HM := Lib.hid hm
  have HME := Lib.hid hme
  have HS := Lib.hid hs
  have HT := Lib.hid ht
  have HC := Lib.hid (fun (w' : World) (hx' : w.Ext w') (x' y' : Int) (h1 : -1000 ≤ x' ∧ x' ≤ 1000) (h2 : -1000 ≤ y' ∧ y' ≤ 1000) => l03Some_any p pe a c ss ae ce os x' y' w' he hn hw (hx'.cell hp) (RowOf.ext hm hx') (hx'.cell hpe) (hme.ext hx') hon hs h1 h2 _ rfl)
  have hn2 : os.length ≤ 4611686018427387904 := by omega
  obtain ⟨hx1, hx2⟩ := hx
  obtain ⟨hy1, hy2⟩ := hy
  clear hm hme he hs ht hn hw hon hp
  go_enter Try.func237, Try.ntmps237
  go_wp2
  go_loopw [11, 12] (fun i _ wr => ∃ k : Nat, k ≤ os.length ∧ i = .int .i64 k ∧ Hid (∀ i, i < k → someB (picW ss) ss.length (picL ss) os (x + (os.getD i (0, 0)).1) (y + (os.getD i (0, 0)).2) = true) ∧ Hid (w.Ext wr)) (fun i _ _ => os.length - (intOf i).toNat)
  case atStart => exact ⟨0, Nat.zero_le _, rfl, fun r hr => by omega, .refl _⟩
  case round =>
    obtain ⟨k, hk, rfl, HK, HX⟩ := hrel
    have hpr := HX.out.cell hpe
    by_cases hlt : k < os.length
    · obtain ⟨b, o, rfl, hc1, hc2⟩ := (HME.out.ext HX.out).at hlt
      have hk0 : (0 : Int) ≤ (k : Int) := by omega
      have hlt' : (k : Int) < (os.length : Int) := by omega
      obtain ⟨o1, o2, o3, o4⟩ := HS.out k hlt
      have HN1 : Hid (someB (picW ss) ss.length (picL ss) os (x + (os.getD k (0, 0)).1) (y + (os.getD k (0, 0)).2) = true → ∀ i, i < k + 1 → someB (picW ss) ss.length (picL ss) os (x + (os.getD i (0, 0)).1) (y + (os.getD i (0, 0)).2) = true) := fun h i hi => by
        by_cases e : i = k
        · rw [e]; exact h
        · exact HK.out i (by omega)
      have HB : Hid (someB (picW ss) ss.length (picL ss) os (x + (os.getD k (0, 0)).1) (y + (os.getD k (0, 0)).2) = false → t = false) := fun h => by
        rw [← HT.out]
        unfold closeB
        first | exact any_true (d := ((0 : Int), (0 : Int))) hlt h | exact all_false (d := ((0 : Int), (0 : Int))) hlt h
      generalize os.getD k (0, 0) = q at hc1 hc2 HN1 HB o1 o2 o3 o4
      obtain ⟨qx, qy⟩ := q
      dsimp only at hc1 hc2 HN1 HB o1 o2 o3 o4
      go_wp2_with fail
      refine (HC.out _ (HX.out.trans (by repeat (first | exact World.Ext.refl _ | exact ⟨_, rfl⟩ | assumption | refine World.Ext.over ?_ _ | refine World.Ext.drewN ?_ _ | refine World.Ext.drew ?_ | refine World.Ext.alloc ?_ _ | refine World.Ext.setCell ?_ (by simp) _))) (x + qx) (y + qy) (by omega) (by omega)).mono ?_
      rintro e w2 ⟨rfl, hx2⟩
      have HX2 : Hid (w.Ext w2) := (HX.out.trans (by repeat (first | exact World.Ext.refl _ | exact ⟨_, rfl⟩ | assumption | refine World.Ext.over ?_ _ | refine World.Ext.drewN ?_ _ | refine World.Ext.drew ?_ | refine World.Ext.alloc ?_ _ | refine World.Ext.setCell ?_ (by simp) _))).trans hx2
      clear hx2 hpr hc1 hc2
      cases hv : someB (picW ss) ss.length (picL ss) os (x + qx) (y + qy)
      · first
        | (have hf := HB.out hv
           subst hf
           clear HB HN1 hv
           go_wp2
           go_ret
           exact ⟨rfl, HX2.out⟩)
        | (have HK1 := Lib.hid (HN1.out hv)
           clear HB HN1 hv
           go_wp2
           go_roundw
           case rel => exact ⟨k + 1, by omega, by go_num, HK1.out, HX2.out⟩
           case measure => simp [intOf]; omega)
      · first
        | (have hf := HB.out hv
           subst hf
           clear HB HN1 hv
           go_wp2
           go_ret
           exact ⟨rfl, HX2.out⟩)
        | (have HK1 := Lib.hid (HN1.out hv)
           clear HB HN1 hv
           go_wp2
           go_roundw
           case rel => exact ⟨k + 1, by omega, by go_num, HK1.out, HX2.out⟩
           case measure => simp [intOf]; omega)
    · have : k = os.length := by omega
      subst this
      have hf : t = true := by
        rw [← HT.out]
        unfold closeB
        first | exact any_false (d := ((0 : Int), (0 : Int))) HK.out | exact all_getD.2 HK.out
      subst hf
      go_wp2
      go_ret
      exact ⟨rfl, HX.out⟩
set_option maxRecDepth 5000 in
set_option maxHeartbeats 1600000 in
theorem l03Make_any (p pe : Nat) (kind : Int) (a : Option Addr) (c : Nat) (ss : List ByteArray) (w : World) (he : Even ss) (hW1 : 1 ≤ picW ss) (hW2 : picW ss ≤ 64) (hH2 : ss.length ≤ 64)
    (hp : w.cell? ⟨p, 0, none⟩ = some (.slice a ss.length c)) (hm : RowS w a ss) (g : Nat → Nat → Bool)
    (hg : ∀ w', w.Ext w' → ∀ x y : Nat, x < picW ss → y < ss.length → Calls Try.prog 237 #[.pointer (some ⟨p, 0, none⟩), .pointer (some ⟨pe, 0, none⟩), .int .i64 kind, .int .i64 x, .int .i64 y] w' fun e w'' => e = .returned (.bool (g x y)) ∧ w'.Ext w'') :
    Calls Try.prog 165 #[.pointer (some ⟨p, 0, none⟩), .pointer (some ⟨pe, 0, none⟩), .int .i64 kind] w fun e w' => ∃ a' c', e = .returned (.agg #[.slice a' ss.length c']) ∧ w.Ext w' ∧ OwnOf Value.string ByteArray.empty w.heap.size w'.heap.size w' a' (picRows (picW ss) ss.length (mkl (picW ss) ss.length g)) := by
  obtain ⟨ib, hib, hb0, hb1, hb2⟩ := info_parts Try.infoBoolP
  have HM := Lib.hid hm
  have HG := Lib.hid hg
  have HP := Lib.hid hp
  have HPOS := Lib.hid he.1
  have HLEN : Hid ((mkl (picW ss) ss.length g).length = ss.length * picW ss) := mkl_len _ _ _
  have HAT : Hid (∀ x y, x < picW ss → y < ss.length → (mkl (picW ss) ss.length g).getD (y * picW ss + x) false = g x y) := fun x y hx hy => mkl_at _ _ _ _ _ hx hy
  have hsum : ss.length * picW ss ≤ 4096 := Nat.mul_le_mul hH2 hW2
  have HSUM := Lib.hid hsum
  have HWS : Hid (∀ w', w.Ext w' → Calls Try.prog 151 #[.pointer (some ⟨p, 0, none⟩)] w' fun e w'' => e = .returned (.int .i64 (picW ss)) ∧ w'.Ext w'') := fun w' hx => l01Width_any p a c ss w' he.1 (by omega) (by omega) (hx.cell hp) (RowOf.ext hm hx)
  have HHS : Hid (∀ w', w.Ext w' → Calls Try.prog 152 #[.pointer (some ⟨p, 0, none⟩)] w' fun e w'' => e = .returned (.int .i64 ss.length) ∧ w'.Ext w'') := fun w' hx => l01Height_any p a c ss.length w' (by omega) (hx.cell hp)
  clear hm hg he hp hsum
  generalize hL : mkl (picW ss) ss.length g = L at HLEN HAT ⊢
  generalize picW ss = W at *
  generalize ss.length = H at *
  have hx0 : w.Ext ((w.alloc (.cells #[.slice none 0 0] 38)).alloc (.cells #[] 4)) := by repeat (first | exact World.Ext.refl _ | exact ⟨_, rfl⟩ | assumption | refine World.Ext.over ?_ _ | refine World.Ext.drewN ?_ _ | refine World.Ext.drew ?_ | refine World.Ext.alloc ?_ _ | refine World.Ext.setCell ?_ (by simp) _)
  have hres := ((One.new w (.slice none 0 0) 38 _ rfl).ext ((World.Ext.refl _).alloc (.cells #[] 4)))
  have hgr := (GrowOf.empty (f := Value.bool) (lo := w.heap.size) (e := 4) (w.alloc (.cells #[.slice none 0 0] 38)) (by simp))
  simp only [World.size_alloc] at hgr
  have HX0 := Lib.hid hx0
  have HRES0 := Lib.hid hres
  have HGR0 := Lib.hid hgr
  clear hx0 hres hgr hL
  go_enter Try.func165, Try.ntmps165
  go_wp2
  go_loopw [7, 8, 9] (fun v i _ wr => ∃ y : Nat, y ≤ H ∧ i = .int .i64 y ∧ Hid (w.Ext wr) ∧ Hid (One wr w.heap.size 38 (.slice none 0 0)) ∧ Hid (GrowOf Value.bool w.heap.size 4 wr v (L.take (y * W)))) (fun _ i _ _ => H - (intOf i).toNat)
  case atStart => exact ⟨0, Nat.zero_le _, rfl, HX0, HRES0, by rw [Nat.zero_mul]; exact HGR0⟩
  case round =>
    obtain ⟨y, hy, rfl, HX, HR, HGR⟩ := hrel
    obtain ⟨wo, rfl⟩ : ∃ wo : World, wo = wr := ⟨_, rfl⟩
    obtain ⟨lst, rfl⟩ : ∃ lst : Value, lst = u7 := ⟨_, rfl⟩
    by_cases hlty : y < H
    · have hlty' : (y : Int) < (H : Int) := by omega
      go_wp2_with fail
      refine (HHS.out wo HX.out).mono ?_
      rintro e w1 ⟨rfl, hx1⟩
      have HX1 := Lib.hid (HX.out.trans hx1)
      have HR1 := Lib.hid (HR.out.ext hx1)
      have HGR1 := Lib.hid (HGR.out.ext hx1)
      clear hx1 HX HR HGR
      go_wp2
      go_loopw [7, 9] (fun v i wr => ∃ x : Nat, x ≤ W ∧ i = .int .i64 x ∧ Hid (w.Ext wr) ∧ Hid (One wr w.heap.size 38 (.slice none 0 0)) ∧ Hid (GrowOf Value.bool w.heap.size 4 wr v (L.take (y * W + x)))) (fun _ i _ => W - (intOf i).toNat)
      case atStart => exact ⟨0, Nat.zero_le _, rfl, HX1, HR1, HGR1⟩
      case round =>
        obtain ⟨x, hx, rfl, HX, HR, HGR⟩ := hrel
        by_cases hltx : x < W
        · have hltx' : (x : Int) < (W : Int) := by omega
          go_wp2_with fail
          refine (HWS.out _ HX.out).mono ?_
          rintro e w2 ⟨rfl, hx2⟩
          have HX2 := Lib.hid (HX.out.trans hx2)
          have HR2 := Lib.hid (HR.out.ext hx2)
          have HGR2 := Lib.hid (HGR.out.ext hx2)
          clear hx2 HX HR HGR
          go_wp2_with fail
          refine (HG.out _ HX2.out x y hltx hlty).mono ?_
          rintro e w3 ⟨rfl, hx3⟩
          have HX3 := Lib.hid (HX2.out.trans hx3)
          have HR3 := Lib.hid (HR2.out.ext hx3)
          have hgr3 := HGR2.out.ext hx3
          clear hx3 HX2 HR2 HGR2
          have hk : y * W + x < L.length := by
            rw [HLEN.out]
            have := Nat.mul_le_mul_right W hlty
            rw [Nat.succ_mul] at this
            omega
          have hlen : (L.take (y * W + x)).length = y * W + x := by simp; omega
          have hkl : y * W + x < 4096 := by have h1 := HSUM.out; have h2 := HLEN.out; omega
          have hsucc := take_next hk
          rw [HAT.out x y hltx hlty] at hsucc
          have HGR3 := Lib.hid hgr3
          have hown := hgr3
          unfold GrowOf at hown
          rw [hlen] at hown
          have hnext : ∀ (o' : Obj) (v' : Value) (w1 : World), (w3.alloc o').grownBy w1 u7.ownBlock → w1.ownsRow w.heap.size 4 1 v' (y * W + x + 1) ((L.take (y * W + x)).map Value.bool ++ [Value.bool (g x y)]) →
              Hid (w.Ext w1) ∧ Hid (One w1 w.heap.size 38 (.slice none 0 0)) ∧ Hid (GrowOf Value.bool w.heap.size 4 w1 v' (L.take (y * W + (x + 1)))) := fun o' v' w1 hgrow hown' => by
            refine ⟨HGR3.out.pushExt HX3.out hgrow, (HR3.out.ext ((World.Ext.refl _).alloc o')).grown hgrow (HGR3.out.ne HR3.out (by decide)), ?_⟩
            show GrowOf _ _ _ _ _ _
            rw [← Nat.add_assoc, hsucc]
            exact GrowOf.push (by rw [hlen]; exact hown')
          have HNEXT := Lib.hid hnext
          have HLE : ∀ o' : Obj, w.heap.size ≤ (w3.alloc o').heap.size := fun o' => (HX3.out.alloc o').size
          have HB1 : Hid (y * W + x + 1 ≤ maxLen) := by show _ ≤ _; unfold maxLen; omega
          have HB2 : Hid ((y * W + x + 1) * 1 ≤ 140737488355328) := by show _ ≤ _; omega
          clear hnext hlen hsucc hgr3 hk
          generalize hkk : y * W + x = kk at *
          clear hkk
          go_wp2_with ((at_builtin; refine wpList_append_own _ rfl _ _ 166 rfl w.heap.size 4 ib (.bool false) 1 1 Try.underlying166 hib hb0 hb1 hb2 rfl (by decide) _ _ _ rfl (hown.alloc _) ⟨w3.heap.size, 0, none⟩ 1 1 [.bool (g x y)] rfl rfl (cell_one_new _ _ _) (by simp [Value.oneCell']) HB1.out HB2.out (HLE _) (fun v' w1 hown' hgrow _ => ?_)); obtain ⟨HX4, HR4, HG4⟩ := HNEXT.out _ _ _ hgrow hown'; clear hgrow hown' hown)
          go_roundw
          case rel => exact ⟨x + 1, by omega, by go_num, HX4, HR4, HG4⟩
          case measure => simp [intOf]; omega
        · have : x = W := by omega
          subst this
          have HG5 : Hid (GrowOf Value.bool w.heap.size 4 wr u7 (L.take ((y + 1) * x))) := by show GrowOf _ _ _ _ _ _; rw [Nat.succ_mul]; exact HGR.out
          go_wp2_with fail
          refine (HWS.out _ HX.out).mono ?_
          rintro e w2 ⟨rfl, hx2⟩
          have HX2 := Lib.hid (HX.out.trans hx2)
          have HR2 := Lib.hid (HR.out.ext hx2)
          have HGR2 := Lib.hid (HG5.out.ext hx2)
          clear hx2 HX HR HGR HG5
          go_wp2
          go_roundw
          case rel => exact ⟨y + 1, by omega, by go_num, HX2, HR2, HGR2⟩
          case measure => simp [intOf]; omega
    · have : y = H := by omega
      subst this
      go_wp2_with fail
      refine (HHS.out wo HX.out).mono ?_
      rintro e w1 ⟨rfl, hx1⟩
      have HX1 := Lib.hid (HX.out.trans hx1)
      have HR1 := Lib.hid (HR.out.ext hx1)
      have hg1 := HGR.out.ext hx1
      rw [← HLEN.out, List.take_length] at hg1
      obtain ⟨a2, c2, rfl, _⟩ := hg1.form
      have HB2 := Lib.hid (hg1.own false).row
      clear hx1 HX HR HGR hg1
      go_wp2_with fail
      refine (HWS.out _ HX1.out).mono ?_
      rintro e w2 ⟨rfl, hx2⟩
      go_wp2_with fail
      refine (l01Make_any _ _ _ y L _ hW1 hW2 hH2 (by rw [HLEN.out, Nat.mul_comm]) (RowOf.ext HB2.out hx2)).mono ?_
      rintro e w3 ⟨a3, c3, rfl, hx3, ho3⟩
      have hres := (HR1.out.ext hx2).ext hx3
      have hc4 := hres.cell
      have hf4 := hres.free
      have hsz : w.heap.size < w2.heap.size := by have h1 := HR1.out.lt; have h2 := hx2.size; omega
      have hx4 := (((HX1.out.trans hx2).trans hx3).setCell (p := ⟨w.heap.size, 0, none⟩) (Nat.le_refl _) (.slice a3 y c3))
      have ho4 := (ho3.wrote (S := fun b => b = w.heap.size) (Wrote.setCell (S := fun b => b = w.heap.size) (Wrote.refl _ w3) (p := ⟨w.heap.size, 0, none⟩) rfl (.slice a3 y c3)) (fun k h1 h2 => by omega)).mono (lo' := w.heap.size) (hi' := (w3.setCell ⟨w.heap.size, 0, none⟩ (.slice a3 y c3)).heap.size) (by omega) (by simp)
      have hr4 := (hres.set (.slice a3 y c3)).cell
      have HX4 := Lib.hid hx4
      have HO4 := Lib.hid ho4
      clear hx4 ho4 hx3 hx2 ho3 hres
      go_wp2
      exact bodyPost_ret (v := .agg #[.slice a3 y c3]) (by simp [results, Try.results165, go_sem, hr4]) rfl ⟨a3, c3, rfl, HX4.out, HO4.out⟩
end Go.Proofs.Ythfggdmbegofoaa
