/- The reference's New, of five nodes. Conditions: as typed. -/
import Derived.Test.YtknhblhdkjgnbaaRefH
import Derived.Test.YtknhblhdkjgnbaaNetO
import Derived.Test.YtknhblhdkjgnbaaSpoil
namespace Go.Proofs.Ytknhblhdkjgnbaa.Ref
open Go.RowKit

theorem r21_New (w : World) : Calls Try.prog 16 #[.int .i64 5] w fun e w' => e = .returned (.tuple #[.agg #[.int .i64 5, .slice none 0 0, .int .i64 0, .int .i64 0, .int .i64 0], .int .i64 0]) ∧ Below w.heap.size w w' := by
  go_enter Try.func16, Try.ntmps16
  go_wp2
  refine bodyPost_ret (v := .tuple #[.agg #[.int .i64 5, .slice none 0 0, .int .i64 0, .int .i64 0, .int .i64 0], .int .i64 0]) (by simp [results, Try.results16, go_sem, new_cell]) rfl ⟨rfl, (by repeat (first | with_reducible exact Below.refl _ _ | with_reducible assumption | apply bA | apply bN | apply bD | (refine bS ?_ _ _ (by first | exact Nat.le_refl _ | (simp; done) | (simp; omega) | omega)) | refine bT ?_ ?_ (by with_reducible assumption) | exact Nat.le_refl _ | (simp; done) | (simp; omega) | omega))⟩
end Go.Proofs.Ytknhblhdkjgnbaa.Ref
