/- The law kit for trees as arguments. -/
import Derived.Test.YtlcofjicpbbdhaaLaws
namespace Go.Proofs.Ytlcofjicpbbdhaa
open Go.RowKit
theorem szTree_ok (k : Int) (s : ByteArray) (left : Int) (w : World) (hl : 0 ≤ left) (hl2 : left ≤ 1048576) (hs : s.size ≤ maxLen) :
    Calls Try.prog 70 #[.agg #[.int .i64 k, .string s], .int .i64 left] w fun e w' => ∃ z : Int, e = .returned (.int .i64 z) ∧ w.Ext w' ∧ z ≤ left ∧ (0 ≤ z → s.size ≤ 1048576 ∧ z + s.size ≤ left) :=
  (szTree_any k s left w hl hl2 hs).mono fun e w' h => by
    obtain ⟨rfl, hx⟩ := h
    refine ⟨_, rfl, hx, ?_, fun h0 => ?_⟩
    · unfold szS; split <;> omega
    · unfold szS at h0 ⊢
      split at h0
      · omega
      · rename_i h1
        rw [if_neg h1]
        omega
end Go.Proofs.Ytlcofjicpbbdhaa
