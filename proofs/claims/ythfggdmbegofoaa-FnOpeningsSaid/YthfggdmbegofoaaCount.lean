/- Numbers of black pixels; DistancesOf. -/
import Derived.Test.YthfggdmbegofoaaDepF
namespace Go.Proofs.Ythfggdmbegofoaa
open Go.RowKit
theorem spotsTo_count {W : Nat} {l : List Bool} {k : Nat} : (spotsTo W l (k + 1)).length = (spotsTo W l k).length + (if l.getD k false then 1 else 0) := by
  unfold spotsTo
  rw [List.range_succ, List.filter_append, List.map_append, List.length_append]
  cases h : l.getD k false
  · rw [List.filter_cons_of_neg (by rw [h]; decide)]; simp
  · rw [List.filter_cons_of_pos (by rw [h])]; simp
set_option maxRecDepth 5000 in
set_option maxHeartbeats 800000 in
theorem l01Count_any (p : Nat) (a : Option Addr) (c : Nat) (ss : List ByteArray) (w : World) (he : Even ss) (hH : ss.length ≤ 64) (hW : picW ss ≤ 64) (hp : w.cell? ⟨p, 0, none⟩ = some (.slice a ss.length c)) (hm : RowS w a ss) :
    Calls Try.prog 166 #[.pointer (some ⟨p, 0, none⟩)] w fun e w' => e = .returned (.int .i64 (spotsTo (picW ss) (picL ss) (ss.length * picW ss)).length) ∧ w.Ext w' := by
  have HM := Lib.hid hm
  have HE := Lib.hid he
  have HB : Hid (∀ k, k ≤ 4096 → (spotsTo (picW ss) (picL ss) k).length ≤ 4096) := fun k hk => Nat.le_trans (spotsTo_len _ _ _) hk
  clear hm he
  go_enter Try.func166, Try.ntmps166
  go_wp2
  go_loop [3, 4, 5] (fun n i _ => ∃ y : Nat, y ≤ ss.length ∧ i = .int .i64 y ∧ n = .int .i64 (spotsTo (picW ss) (picL ss) (y * picW ss)).length) (fun _ i _ => ss.length - (intOf i).toNat)
  case atStart => exact ⟨0, Nat.zero_le _, rfl, by rw [Nat.zero_mul]; rfl⟩
  case round =>
    obtain ⟨y, hy, rfl, rfl⟩ := hrel
    by_cases hlty : y < ss.length
    · have hlty' : (y : Int) < (ss.length : Int) := by omega
      have hy0 : (0 : Int) ≤ (y : Int) := by omega
      obtain ⟨b, o, rfl, hc⟩ := HM.out y hlty
      have hsz : (ss.getD y ByteArray.empty).size = picW ss := HE.out.2 y hlty
      have HAT := Lib.hid (fun x (hx : x < picW ss) => picL_at HE.out x y hx hlty)
      have HY : Hid (∀ x, x ≤ picW ss → y * picW ss + x ≤ 4096) := fun x hx => by
        have := Nat.mul_le_mul (show y ≤ 63 by omega) hW
        omega
      generalize ss.getD y ByteArray.empty = s at hc hsz HAT
      have HSZ := Lib.hid hsz
      go_wp2
      go_loop [3, 5] (fun n i => ∃ x : Nat, x ≤ picW ss ∧ i = .int .i64 x ∧ n = .int .i64 (spotsTo (picW ss) (picL ss) (y * picW ss + x)).length) (fun _ i => picW ss - (intOf i).toNat)
      case atStart => exact ⟨0, Nat.zero_le _, rfl, rfl⟩
      case round =>
        obtain ⟨x, hx, rfl, rfl⟩ := hrel
        by_cases hltx : x < picW ss
        · have hltx' : (x : Int) < (s.size : Int) := by omega
          have hlts : x < s.size := by omega
          have hx0 : (0 : Int) ≤ (x : Int) := by omega
          have hbe := byte_eq s x hlts 35
          have hcnt := HB.out (y * picW ss + x) (HY.out x hx)
          have HK := Lib.hid (spotsTo_count (W := picW ss) (l := picL ss) (k := y * picW ss + x))
          rw [HAT.out x hltx, ← hbe] at HK
          clear hbe
          generalize (spotsTo (picW ss) (picL ss) (y * picW ss + x)).length = n at HK hcnt ⊢
          cases hb : (((s[x]'hlts).toNat : Int) == ((35 : UInt8).toNat : Int))
          · have hb2 : (((s[x]'hlts).toNat : Int) == 35) = false := hb
            rw [hb] at HK
            have HK2 : Hid ((spotsTo (picW ss) (picL ss) (y * picW ss + (x + 1))).length = n) := by show _ = _; rw [← Nat.add_assoc, HK.out]; simp
            clear hb HK hsz
            go_wp2
            go_round
            case rel => exact ⟨x + 1, by omega, by go_num, by rw [HK2.out]⟩
            case measure => simp [intOf]; omega
          · have hb2 : (((s[x]'hlts).toNat : Int) == 35) = true := hb
            rw [hb] at HK
            have HK2 : Hid ((spotsTo (picW ss) (picL ss) (y * picW ss + (x + 1))).length = n + 1) := by show _ = _; rw [← Nat.add_assoc, HK.out]; simp
            clear hb HK hsz
            go_wp2
            go_round
            case rel => exact ⟨x + 1, by omega, by go_num, by rw [HK2.out]; go_num⟩
            case measure => simp [intOf]; omega
        · have : x = picW ss := by omega
          subst this
          have hge : ¬ (picW ss : Int) < (s.size : Int) := by omega
          clear hsz
          go_wp2
          go_round
          case rel => exact ⟨y + 1, by omega, by go_num, by rw [Nat.succ_mul]⟩
          case measure => simp [intOf]; omega
    · have : y = ss.length := by omega
      subst this
      go_wp2
      go_ret
      exact ⟨rfl, .refl _⟩
set_option maxHeartbeats 400000 in
theorem count_any (b ab W H : Nat) (l : List Bool) (w : World) (hW : W ≤ 64) (hH : H ≤ 64) (hI : Img w b ab W H l) :
    Calls Try.prog 127 #[.pointer (some ⟨b, 0, none⟩)] w fun e w' => e = .returned (.int .i64 (spotsTo W l (H * W)).length) ∧ w.Ext w' := by
  have HS := Lib.hid (spots_any b ab W H l w hW hH hI)
  have hn : (spotsTo W l (H * W)).length ≤ 4096 := Nat.le_trans (spotsTo_len _ _ _) (Nat.mul_le_mul hH hW)
  clear hI
  generalize spotsTo W l (H * W) = ps at *
  go_enter Try.func127, Try.ntmps127
  go_wp2_with fail
  refine HS.out.mono ?_
  rintro e w1 ⟨a, c, rfl, hx, ho⟩
  clear ho
  go_wp2
  go_ret
  exact ⟨rfl, hx⟩
def someOk (ss : List ByteArray) (kind : Int) : Bool := askOk ss kind && decide (0 < (spotsTo (picW ss) (picL ss) (ss.length * picW ss)).length)
def disI (kind : Int) (W H : Nat) (l : List Bool) (x y : Nat) : Int := nearTo kind W l (x, y) (H * W)
end Go.Proofs.Ythfggdmbegofoaa
