/- One call on both nets answers alike on both. Conditions: as typed. -/
import Derived.Test.YtknhblhdkjgnbaaRefK
namespace Go.Proofs.Ytknhblhdkjgnbaa
open Go.RowKit

def Okl (L : List Pk) : Prop := L.length ≤ 4096 ∧ ∀ p ∈ L, Ref.Good 5 p
theorem Okl.without {L : List Pk} (h : Okl L) (i : Int) : Okl (without L i) := by
  unfold Proofs.Ytknhblhdkjgnbaa.without
  split
  · exact ⟨Nat.le_trans (List.length_eraseIdx_le _ _) h.1, fun p hp => h.2 p (List.mem_of_mem_eraseIdx hp)⟩
  · exact h
theorem Okl.doubled {L : List Pk} (h : Okl L) (i : Int) : Okl (doubled L i) := by
  unfold Proofs.Ytknhblhdkjgnbaa.doubled
  cases hg : getAt L i with
  | none => exact h
  | some p =>
    simp only
    split
    · rename_i h2
      refine ⟨by simp; omega, fun q hq => ?_⟩
      rcases List.mem_append.1 hq with hq | hq
      · exact h.2 q hq
      · rw [List.mem_singleton.1 hq]
        unfold getAt at hg
        split at hg
        · exact h.2 p (List.mem_of_getElem? hg)
        · cases hg
    · exact h
theorem Okl.moved {L : List Pk} (h : Okl L) {i t : Nat} (hi : i < L.length) : Okl (moved L i t) :=
  ⟨by rw [moved_len hi]; exact h.1, fun p hp => h.2 p (moved_mem hp)⟩
theorem Okl.shifted {L : List Pk} (h : Okl L) (i t : Int) : Okl (shifted L i t) := by
  unfold Proofs.Ytknhblhdkjgnbaa.shifted
  split
  · exact h.moved (by omega)
  · exact h
theorem Okl.sent {L : List Pk} (h : Okl L) {f t : Int} {bs : List Int} : Okl (if sendErr 5 f t L.length bs.length = 0 then L ++ [⟨f, t, bs⟩] else L) := by
  split
  · rename_i h0
    obtain ⟨h1, h2⟩ := sendErr_zero h0
    refine ⟨by simp; omega, fun q hq => ?_⟩
    rcases List.mem_append.1 hq with hq | hq
    · exact h.2 q hq
    · rw [List.mem_singleton.1 hq]
      unfold sendErr at h0
      split at h0
      · rename_i h3
        exact ⟨h3.1, h3.2.1, h3.2.2.1, h3.2.2.2, h2⟩
      · omega
  · exact h
/-- Both nets hold the same. -/
def Both (B T N : Nat) (w0 w : World) : Prop := ∃ lv F tv G L s d l, Pair B T N w0 w lv F L s d l tv G L s d l ∧ Okl L
end Go.Proofs.Ytknhblhdkjgnbaa
