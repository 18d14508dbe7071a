/- An element is drawn. -/
import Derived.Test.YtelaoimcaidoiaaGenA
import Derived.Test.YtelaoimcaidoiaaMor
import Derived.Test.YtelaoimcaidoiaaRowK
import Derived.Deep.RegionLaw
import Derived.Deep.DeepCutAuto
import Derived.Deep.CutBlock
namespace Go.Proofs.Ytelaoimcaidoiaa
open Go Go.RowKit
/-- Where an offset belongs. -/
def putAt (o : Int × Int) : List (Int × Int) → Nat
  | [] => 0
  | p :: ps => if befB p o then putAt o ps + 1 else 0
theorem putAt_le (o : Int × Int) : ∀ ps, putAt o ps ≤ ps.length
  | [] => Nat.le_refl _
  | p :: ps => by
    unfold putAt
    split
    · have := putAt_le o ps
      simp only [List.length_cons]
      omega
    · exact Nat.zero_le _
theorem putAt_bef (o : Int × Int) : ∀ ps i, i < putAt o ps → befB (ps.getD i (0, 0)) o = true
  | [], i, h => by cases h
  | p :: ps, i, h => by
    unfold putAt at h
    split at h
    · rename_i hb
      cases i with
      | zero => simpa using hb
      | succ i => simpa using putAt_bef o ps i (by omega)
    · cases h
theorem putAt_not (o : Int × Int) : ∀ ps, putAt o ps < ps.length → befB (ps.getD (putAt o ps) (0, 0)) o = false
  | [], h => by cases h
  | p :: ps, h => by
    unfold putAt at h ⊢
    split
    · rename_i hb
      rw [if_pos hb] at h
      simpa using putAt_not o ps (by simpa using h)
    · rename_i hb
      simpa using hb
def putL (ps : List (Int × Int)) (o : Int × Int) : List (Int × Int) :=
  if putAt o ps < ps.length ∧ ps.getD (putAt o ps) (0, 0) = o then ps else ps.take (putAt o ps) ++ [o] ++ ps.drop (putAt o ps)
@[go_sem] theorem Try.eqSpotR (a b c d : Int) (w : World) : (Op.equalIn 10000 33 (.agg #[.int .i64 a, .int .i64 b]) (.agg #[.int .i64 c, .int .i64 d])).run Try.prog w = .ok (a == c && b == d) w := by
  have u3 := Try.underlying2
  have hS : Try.prog.underlying 33 = some (.struct (Try.prog.fieldsOf 33)) := by kernel_rfl
  have hp : Try.prog.stoodInHeld 33 = false := by kernel_rfl
  rw [show (10000 : Nat) = 9999 + 1 from rfl, run_equalIn_agg w 9999 33 _ _ hS hp]
  simp only [Program.fieldsOf, Try.underlying33]
  go_simp
  by_cases h1 : a = c <;> by_cases h2 : b = d <;> simp [h1, h2]
theorem Try.infoSpotE : (Try.prog.info? 33).map (fun i => (i.zero, i.size, i.bytes)) = some (some (.agg #[.int .i64 0, .int .i64 0]), 2, 16) := by kernel_rfl
theorem flatP_take : ∀ (ps : List (Int × Int)) (K : Nat), flatP (ps.take K) = (flatP ps).take (K * 2)
  | [], K => by simp [flatP]
  | p :: ps, 0 => by simp [flatP]
  | p :: ps, K + 1 => by
    rw [List.take_succ_cons, show (K + 1) * 2 = K * 2 + 1 + 1 by omega]
    simp only [flatP, List.take_succ_cons]
    rw [flatP_take ps K]
theorem flatP_drop : ∀ (ps : List (Int × Int)) (K : Nat), flatP (ps.drop K) = (flatP ps).drop (K * 2)
  | [], K => by simp [flatP]
  | p :: ps, 0 => by simp
  | p :: ps, K + 1 => by
    rw [List.drop_succ_cons, show (K + 1) * 2 = K * 2 + 1 + 1 by omega]
    simp only [flatP, List.drop_succ_cons]
    rw [flatP_drop ps K]
def PutRet (lo g : Nat) (w : World) (qs : List (Int × Int)) (e : Ending) (w' : World) : Prop :=
  ∃ g' cap, e = .returned (.slice (some ⟨g', 0, none⟩) qs.length cap) ∧ GrowP lo 33 w' (.slice (some ⟨g', 0, none⟩) qs.length cap) qs ∧ Wrote (fun k => k = g) w w'
end Go.Proofs.Ytelaoimcaidoiaa
