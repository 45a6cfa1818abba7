/- One call on both nets answers alike on both. Conditions: as typed. -/
import Derived.Test.YtknhblhdkjgnbaaRefO
namespace Go.Proofs.Ytknhblhdkjgnbaa
open Go.RowKit

set_option maxRecDepth 100000 in
set_option maxHeartbeats 2000000 in
theorem law21_same_other (B T N : Nat) (w0 w : World) (oo : OpV) (H : Both B T N w0 w) (hc : ∀ k : Int, 0 ≤ k → k ≤ 5 → oo.call ≠ k) (hsl : Sl .u8 (fun b => b < N) w oo.v oo.bs) :
    Calls Try.prog 17 #[.pointer (some ⟨B, 0, none⟩), .pointer (some ⟨T, 0, none⟩), .agg #[.int .u8 oo.call, .int .i64 oo.a, .int .i64 oo.b, oo.v]] w fun e w' => e = .returned (.bool true) ∧ Both B T N w0 w' := by
  obtain ⟨A, c, hv, _⟩ := id hsl
  rw [hv]
  have g0 : (oo.call == 0) = false := by simpa using hc 0 (by omega) (by omega)
  have g1 : (oo.call == 1) = false := by simpa using hc 1 (by omega) (by omega)
  have g2 : (oo.call == 2) = false := by simpa using hc 2 (by omega) (by omega)
  have g3 : (oo.call == 3) = false := by simpa using hc 3 (by omega) (by omega)
  have g4 : (oo.call == 4) = false := by simpa using hc 4 (by omega) (by omega)
  have g5 : (oo.call == 5) = false := by simpa using hc 5 (by omega) (by omega)
  have HB := Lib.hid H
  clear H hc hv hsl
  go_enter Try.func17, Try.ntmps17
  go_wp2
  go_ret
  obtain ⟨lv, F, tv, G, L, s, d, l, h1, h2⟩ := HB.out
  exact ⟨rfl, _, _, _, _, _, _, _, _, h1.bel (by repeat (first | with_reducible exact Below.refl _ _ | with_reducible assumption | apply bA | apply bN | apply bD | (refine bS ?_ _ _ (by first | exact Nat.le_refl _ | (simp; done) | (simp; omega) | omega)) | refine bT ?_ ?_ (by with_reducible assumption) | exact Nat.le_refl _ | (simp; done) | (simp; omega) | omega)), h2⟩

theorem law21_same (B T N : Nat) (w0 w : World) (oo : OpV) (H : Both B T N w0 w) (hsl : Sl .u8 (fun b => b < N) w oo.v oo.bs) (hbl : oo.bs.length ≤ 140737488351232) :
    Calls Try.prog 17 #[.pointer (some ⟨B, 0, none⟩), .pointer (some ⟨T, 0, none⟩), .agg #[.int .u8 oo.call, .int .i64 oo.a, .int .i64 oo.b, oo.v]] w fun e w' => e = .returned (.bool true) ∧ Both B T N w0 w' := by
  obtain ⟨lv, F, tv, G, L, s, d, l, h1, h2⟩ := id H
  by_cases c0 : oo.call = 0
  · exact law21_same_send B T N w0 w oo lv F tv G L s d l h1 h2 c0 hsl hbl
  by_cases c1 : oo.call = 1
  · exact law21_same_deliver B T N w0 w oo lv F tv G L s d l h1 h2 c1 hsl
  by_cases c2 : oo.call = 2
  · exact law21_same_drop B T N w0 w oo lv F tv G L s d l h1 h2 c2 hsl hbl
  by_cases c3 : oo.call = 3
  · exact law21_same_double B T N w0 w oo lv F tv G L s d l h1 h2 c3 hsl hbl
  by_cases c4 : oo.call = 4
  · exact law21_same_move B T N w0 w oo lv F tv G L s d l h1 h2 c4 hsl hbl
  by_cases c5 : oo.call = 5
  · exact law21_same_pending B T N w0 w oo lv F tv G L s d l h1 h2 c5 hsl
  exact law21_same_other B T N w0 w oo H (fun k h0 h5 => by omega) hsl
end Go.Proofs.Ytknhblhdkjgnbaa
