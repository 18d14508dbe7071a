/- The program's pictures that are made by an element. -/
import Derived.Test.YtpploijlijnahaaIWith
namespace Go.Proofs.Ytpploijlijnahaa
open Go.RowKit
theorem enters_withElement1 : Enters 153 := enters_of Try.func153 (by kernel_rfl) (by kernel_rfl)
set_option maxRecDepth 5000 in
set_option maxHeartbeats 1600000 in
theorem withElement_any (a : Option Addr) (c f : Nat) (caps : Array Value) (ss : List ByteArray) (ae : Option Addr) (ce : Nat) (os : List (Int × Int)) (good : Bool) (W H : Nat) (l : List Bool) (w : World) (hn : ss.length ≤ 1048576) (hsz : ∀ y, (ss.getD y ByteArray.empty).size ≤ 1048576) (hm : RowS w a ss) (hne : os.length ≤ 1048576) (hme : RowP w ae os) (he : Enters f) (hW1 : picOk ss = true → good = true → 1 ≤ W ∧ W ≤ 64 ∧ H ≤ 64)
    (hf : ∀ w' b ab, elemOk os = true → picOk ss = true → w.Ext w' → Img w' b ab (picW ss) ss.length (picL ss) → Calls Try.prog f (#[.pointer (some ⟨b, 0, none⟩), .slice ae os.length ce] ++ caps) w' (DoRet w' good W H l)) :
    Calls Try.prog 74 #[.agg #[.slice a ss.length c], .agg #[.slice ae os.length ce], .func (.func f) #[] caps] w (PicRet2 w (optRows (elemOk os && (picOk ss && good)) (picRows W H l)) (elemOk os && (picOk ss && good))) := by
  have HVE : Hid (∀ w', w.Ext w' → Calls Try.prog 37 #[.agg #[.slice ae os.length ce]] w' fun e w'' => e = .returned (.bool (elemOk os)) ∧ w'.Ext w'') := fun w' hx => validElement_any ae ce os w' hne (hme.ext hx) _ rfl
  unfold Enters at he
  have hx0 : w.Ext ((((w.alloc (.cells #[.slice a ss.length c] 30)).alloc (.cells #[.slice ae os.length ce] 36)).alloc (.cells #[.func (.func f) #[] caps] 93)).alloc (.cells #[.slice none 0 0] 30)) := by repeat (first | exact World.Ext.refl _ | exact ⟨_, rfl⟩ | assumption | refine World.Ext.over ?_ _ | refine World.Ext.drewN ?_ _ | refine World.Ext.drew ?_ | refine World.Ext.alloc ?_ _ | refine World.Ext.setCell ?_ (by simp) _)
  have hce : ((((w.alloc (.cells #[.slice a ss.length c] 30)).alloc (.cells #[.slice ae os.length ce] 36)).alloc (.cells #[.func (.func f) #[] caps] 93)).alloc (.cells #[.slice none 0 0] 30)).cell? ⟨w.heap.size + 1, 0, none⟩ = some (.slice ae os.length ce) := by simp [go_sem]
  have hcf : ((((w.alloc (.cells #[.slice a ss.length c] 30)).alloc (.cells #[.slice ae os.length ce] 36)).alloc (.cells #[.func (.func f) #[] caps] 93)).alloc (.cells #[.slice none 0 0] 30)).cell? ⟨w.heap.size + 1 + 1, 0, none⟩ = some (.func (.func f) #[] caps) := by simp [go_sem]
  have hcp : ((((w.alloc (.cells #[.slice a ss.length c] 30)).alloc (.cells #[.slice ae os.length ce] 36)).alloc (.cells #[.func (.func f) #[] caps] 93)).alloc (.cells #[.slice none 0 0] 30)).cell? ⟨w.heap.size, 0, none⟩ = some (.slice a ss.length c) := by simp [go_sem]
  have hcr : One ((((w.alloc (.cells #[.slice a ss.length c] 30)).alloc (.cells #[.slice ae os.length ce] 36)).alloc (.cells #[.func (.func f) #[] caps] 93)).alloc (.cells #[.slice none 0 0] 30)) (w.heap.size + 1 + 1 + 1) 30 (.slice none 0 0) := One.new _ _ _ _ (by simp)
  have H0 := Lib.hid (And.intro hx0 (And.intro hce (And.intro hcf (And.intro hcp hcr))))
  clear hx0 hce hcf hcp hcr
  cases h1 : elemOk os
  · rw [h1] at HVE
    clear hm hn hsz hf hW1 hne hme h1
    show Calls _ _ _ _ (PicRet2 w [] false)
    go_enter Try.func74, Try.ntmps74
    go_wp2_with fail
    refine (HVE.out _ H0.out.1).mono ?_
    rintro e w1 ⟨rfl, hx1⟩
    obtain ⟨r1, r2, r3, HR⟩ := Res.store (f := Value.string) (d := ByteArray.empty) (a := none) (xs := []) (lo := w.heap.size + 4) (.slice none 0 0) (H0.out.1.trans hx1) (by omega) (H0.out.2.2.2.2.ext hx1) (by omega) (OwnOf.nil _ _)
    clear H0 hx1
    go_wp2
    exact bodyPost_ret (v := .tuple #[.agg #[.slice none 0 0], .bool false]) (by simp [results, Try.results74, go_sem, r3]) rfl ⟨none, 0, rfl, HR.out.1, OwnOf.nil _ _⟩
  · rw [h1] at HVE
    rw [Bool.true_and]
    have HWI : Hid (∀ w1, ((((w.alloc (.cells #[.slice a ss.length c] 30)).alloc (.cells #[.slice ae os.length ce] 36)).alloc (.cells #[.func (.func f) #[] caps] 93)).alloc (.cells #[.slice none 0 0] 30)).Ext w1 → _) := fun w1 hx1 =>
      withImage_any a c 153 #[.pointer (some ⟨w.heap.size + 1 + 1, 0, none⟩), .pointer (some ⟨w.heap.size + 1, 0, none⟩)] ss good W H l w1 hn hsz (hm.ext (H0.out.1.trans hx1)) enters_withElement1 hW1 (fun w' b ab hok hx hI => by
        have HC := Lib.hid (hf w' b ab h1 hok ((H0.out.1.trans hx1).trans hx) hI)
        have e1 := (hx1.trans hx).cell H0.out.2.1
        have e2 := (hx1.trans hx).cell H0.out.2.2.1
        clear hf hI hx hok hW1 hm hsz hn hne hme h1 HVE H0 hx1
        go_enter Try.func153, Try.ntmps153
        go_wp2_with fail
        refine HC.out.mono ?_
        cases good
        · intro e w2 hd
          obtain ⟨rfl, hx2⟩ := DoRet.no hd
          clear hd
          have HX := Lib.hid hx2
          clear hx2
          go_wp2
          go_ret
          exact ⟨rfl, HX.out⟩
        · intro e w2 hd
          obtain ⟨b2, ab2, rfl, h5⟩ := DoRet.yes hd
          clear hd
          have HX := Lib.hid h5
          clear h5
          go_wp2
          go_ret
          exact ⟨b2, ab2, rfl, HX.out⟩)
    clear hm hn hsz hf hW1 hne hme h1
    generalize optRows (picOk ss && good) (picRows W H l) = R at HWI ⊢
    generalize (picOk ss && good) = ok at HWI ⊢
    go_enter Try.func74, Try.ntmps74
    go_wp2_with fail
    refine (HVE.out _ H0.out.1).mono ?_
    rintro e w1 ⟨rfl, hx1⟩
    have e1 := hx1.cell H0.out.2.2.2.1
    have HW := Lib.hid (HWI.out w1 hx1)
    have HR1 := Lib.hid (H0.out.2.2.2.2.ext hx1)
    have HX1 := Lib.hid (H0.out.1.trans hx1)
    clear hx1 HWI H0 HVE
    go_wp2_with fail
    refine HW.out.mono ?_
    rintro e w2 ⟨a3, c3, rfl, hx3, ho3⟩
    obtain ⟨r1, r2, r3, HR⟩ := Res.store (.slice a3 R.length c3) (HX1.out.trans hx3) (by omega) (HR1.out.ext hx3) HR1.out.lt ho3
    clear hx3 ho3
    go_wp2
    exact bodyPost_ret (v := .tuple #[.agg #[.slice a3 R.length c3], .bool ok]) (by simp [results, Try.results74, go_sem, r3]) rfl ⟨a3, c3, rfl, HR.out.1, HR.out.2⟩
end Go.Proofs.Ytpploijlijnahaa
