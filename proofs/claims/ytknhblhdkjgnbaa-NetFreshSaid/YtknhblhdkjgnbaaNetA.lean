import Derived.Test.YtknhblhdkjgnbaaProg
import Derived.WalkKit
import Derived.Deep.Draws
import Derived.KernelRfl
import Derived.Outline
import Derived.Deep.QuietTactic
import Derived.BigQuiet
import Derived.Lib.Hide
namespace Go.Proofs.Ytknhblhdkjgnbaa
open Go.RowKit

theorem net_none_nil (w : World) : Calls Try.prog 23 #[.pointer none] w fun e w' => e = .returned (.bool true) ∧ w = w' := by
  go_enter Try.func23, Try.ntmps23
  go_wp2
  go_ret
  exact ⟨rfl, rfl⟩

theorem net_none_some (g : Nat) (n : Int) (w : World) (h0 : w.cell? ⟨g, 0, none⟩ = some (.int .i64 n)) (hn : (n == 0) = false) :
    Calls Try.prog 23 #[.pointer (some ⟨g, 0, none⟩)] w fun e w' => e = .returned (.bool false) ∧ w = w' := by
  go_enter Try.func23, Try.ntmps23
  go_wp2
  go_ret
  exact ⟨rfl, rfl⟩

theorem net_place (g : Nat) (n i : Int) (A : Option Addr) (l c : Nat) (w : World) (h0 : w.cell? ⟨g, 0, none⟩ = some (.int .i64 n)) (hn : (n == 0) = false)
    (h1 : w.cell? ⟨g, 1, none⟩ = some (.slice A l c)) (r : Int) (hr : r = if 0 ≤ i ∧ i < l then 0 else 2) :
    Calls Try.prog 25 #[.pointer (some ⟨g, 0, none⟩), .int .i64 i] w fun e w' => e = .returned (.int .i64 r) ∧ w = w' := by
  by_cases c1 : i < 0
  · rw [if_neg (by omega)] at hr
    subst hr
    go_enter Try.func25, Try.ntmps25
    go_wp2_with (go_at_call 23; refine (net_none_some _ _ _ h0 hn).mono ?_; rintro e w' ⟨rfl, rfl⟩)
    go_ret
    exact ⟨rfl, rfl⟩
  · by_cases c2 : i < l
    · rw [if_pos (by omega)] at hr
      subst hr
      go_enter Try.func25, Try.ntmps25
      go_wp2_with (go_at_call 23; refine (net_none_some _ _ _ h0 hn).mono ?_; rintro e w' ⟨rfl, rfl⟩)
      go_ret
      exact ⟨rfl, rfl⟩
    · rw [if_neg (by omega)] at hr
      subst hr
      go_enter Try.func25, Try.ntmps25
      go_wp2_with (go_at_call 23; refine (net_none_some _ _ _ h0 hn).mono ?_; rintro e w' ⟨rfl, rfl⟩)
      go_ret
      exact ⟨rfl, rfl⟩

theorem net_New_yes (n : Int) (w : World) (h1 : 1 ≤ n) (h2 : n ≤ 65) :
    Calls Try.prog 5 #[.int .i64 n] w fun e w' => e = .returned (.tuple #[.pointer (some ⟨w.heap.size, 0, none⟩), .int .i64 0]) ∧ w' = w.alloc (.cells #[.int .i64 n, .slice none 0 0, .int .i64 0, .int .i64 0, .int .i64 0] 64) := by
  have g0 : (n == 0) = false := by simp; omega
  go_enter Try.func5, Try.ntmps5
  go_wp2
  go_ret2
  exact ⟨rfl, rfl⟩

end Go.Proofs.Ytknhblhdkjgnbaa
