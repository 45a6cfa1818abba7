/- One call on both nets answers alike on both: Deliver. Conditions: as typed. -/
import Derived.Test.YtknhblhdkjgnbaaRefM
namespace Go.Proofs.Ytknhblhdkjgnbaa
open Go.RowKit

set_option maxRecDepth 100000 in
set_option maxHeartbeats 2000000 in
theorem law21_same_deliver (B T N : Nat) (w0 w : World) (oo : OpV) (lv : Value) (F : Nat → Prop) (tv : Value) (G : Nat → Prop) (L : List Pk) (s d l : Int) (H : Pair B T N w0 w lv F L s d l tv G L s d l) (hk : Okl L) (hc : oo.call = 1) (hsl : Sl .u8 (fun b => b < N) w oo.v oo.bs) :
    Calls Try.prog 17 #[.pointer (some ⟨B, 0, none⟩), .pointer (some ⟨T, 0, none⟩), .agg #[.int .u8 oo.call, .int .i64 oo.a, .int .i64 oo.b, oo.v]] w fun e w' => e = .returned (.bool true) ∧ Both B T N w0 w' := by
  obtain ⟨A, c, hv, _⟩ := id hsl
  rw [hv]
  have g0 : (oo.call == 0) = false := by simp [hc]
  have g1 : (oo.call == 1) = true := by simp [hc]
  have hBl := NetRep.lt H.net
  have hTl := Ref.NetRep.lt H.ref
  have HP := Lib.hid H; have HK := Lib.hid hk
  clear H hk hc hv hsl
  go_enter Try.func17, Try.ntmps17
  go_wp2_with fail
  refine (net_Deliver F B 5 s d l oo.a L lv _ (HP.out.bel (by repeat (first | with_reducible exact Below.refl _ _ | with_reducible assumption | apply bA | apply bN | apply bD | (refine bS ?_ _ _ (by first | exact Nat.le_refl _ | (simp; done) | (simp; omega) | omega)) | refine bT ?_ ?_ (by with_reducible assumption) | exact Nat.le_refl _ | (simp; done) | (simp; omega) | omega))).net (by omega) HK.out.1).mono ?_
  intro e w1 h1
  obtain ⟨bv, he1, hb1, hF1, hs1⟩ := h1.fn
  subst he1
  obtain ⟨A1, c1, rfl, _⟩ := id hb1.sl
  obtain ⟨lv1, F1, H1⟩ := (HP.out.bel (by repeat (first | with_reducible exact Below.refl _ _ | with_reducible assumption | apply bA | apply bN | apply bD | (refine bS ?_ _ _ (by first | exact Nat.le_refl _ | (simp; done) | (simp; omega) | omega)) | refine bT ?_ ?_ (by with_reducible assumption) | exact Nat.le_refl _ | (simp; done) | (simp; omega) | omega))).step hs1
  have x1 : w1.cell? ⟨w.heap.size, 1, none⟩ = some (.int .i64 oo.a) := (NetStep.frame hs1).cell (by exact new_cell _ _ _ _) (by rintro (h | h); exact absurd (show w.heap.size = B from h) (by omega); have := NetRep.row_lt HP.out.net _ h; simp at this)
  have hz1 : w.heap.size < w1.heap.size := by have := (NetStep.frame hs1).size; simp at this; omega
  have HP1 := Lib.hid H1; have HB1 := Lib.hid hb1; have HF1 := Lib.hid hF1
  clear h1 hs1 H1 hb1 hF1
  go_wp2_with fail
  refine (Ref.r21_Deliver G T 5 s d l oo.a L tv _ (HP1.out.bel (by repeat (first | with_reducible exact Below.refl _ _ | with_reducible assumption | apply bA | apply bN | apply bD | (refine bS ?_ _ _ (by first | exact Nat.le_refl _ | (simp; done) | (simp; omega) | omega)) | refine bT ?_ ?_ (by with_reducible assumption) | exact Nat.le_refl _ | (simp; done) | (simp; omega) | omega))).ref (by omega) HK.out.1).mono ?_
  intro e w2 h2
  obtain ⟨bv2, he2, hb2, hF2, hs2⟩ := h2.fn
  subst he2
  obtain ⟨A2, c2, rfl, _⟩ := id hb2.sl
  obtain ⟨tv1, G1, H2⟩ := (HP1.out.bel (by repeat (first | with_reducible exact Below.refl _ _ | with_reducible assumption | apply bA | apply bN | apply bD | (refine bS ?_ _ _ (by first | exact Nat.le_refl _ | (simp; done) | (simp; omega) | omega)) | refine bT ?_ ?_ (by with_reducible assumption) | exact Nat.le_refl _ | (simp; done) | (simp; omega) | omega))).rstep hs2
  obtain ⟨y0, y1, y2⟩ : w2.cell? ⟨w1.heap.size, 0, none⟩ = some (.int .i64 (gotten L oo.a).fr) ∧ w2.cell? ⟨w1.heap.size, 1, none⟩ = some (.int .i64 (gotten L oo.a).dt) ∧ w2.cell? ⟨w1.heap.size, 2, none⟩ = some (.slice A1 (gotten L oo.a).b.length c1) := by
    refine ⟨?_, ?_, ?_⟩ <;> refine (Ref.NetStep.frame hs2).cell (by exact new_cell _ _ _ _) (by rintro (h | h); exact absurd (show w1.heap.size = T from h) (by omega); have := Ref.NetRep.row_lt HP1.out.ref _ h; simp at this)
  have hz2 : w1.heap.size < w2.heap.size := by have := (Ref.NetStep.frame hs2).size; simp at this; omega
  have hs3 : Sl .u8 (fun b => (Value.slice A1 (gotten L oo.a).b.length c1).ownBlock = some b) w2 (.slice A1 (gotten L oo.a).b.length c1) (gotten L oo.a).b := by
    refine (HB1.out.sl.below (by first | exact ((by repeat (first | with_reducible exact Below.refl _ _ | with_reducible assumption | apply bA | apply bN | apply bD | (refine bS ?_ _ _ (by first | exact Nat.le_refl _ | (simp; done) | (simp; omega) | omega)) | refine bT ?_ ?_ (by with_reducible assumption) | exact Nat.le_refl _ | (simp; done) | (simp; omega) | omega)) : Below w1.heap.size w1 (w1.alloc _)) | exact (by repeat (first | with_reducible exact Below.refl _ _ | with_reducible assumption | apply bA | apply bN | apply bD | (refine bS ?_ _ _ (by first | exact Nat.le_refl _ | (simp; done) | (simp; omega) | omega)) | refine bT ?_ ?_ (by with_reducible assumption) | exact Nat.le_refl _ | (simp; done) | (simp; omega) | omega)))).fr (Ref.NetStep.frame hs2) ?_
    rintro b _ hb (h | h)
    · exact HP.out.sep b (.inr (.inr (HF1.out b hb))) (.inl h)
    · exact HP.out.sep b (.inr (.inr (HF1.out b hb))) (.inr (.inl h))
  have HP2 := Lib.hid H2; have HS3 := Lib.hid hs3; have HS4 := Lib.hid hb2.sl
  clear h2 hs2 H2 hb2 hF2 hs3
  go_wp2_with (go_at_call 9; refine (r21_One _ _ (gotten L oo.a) (gotten L oo.a) _ _ _ (HS3.out.below (by repeat (first | with_reducible exact Below.refl _ _ | with_reducible assumption | apply bA | apply bN | apply bD | (refine bS ?_ _ _ (by first | exact Nat.le_refl _ | (simp; done) | (simp; omega) | omega)) | refine bT ?_ ?_ (by with_reducible assumption) | exact Nat.le_refl _ | (simp; done) | (simp; omega) | omega))) (HS4.out.below (by repeat (first | with_reducible exact Below.refl _ _ | with_reducible assumption | apply bA | apply bN | apply bD | (refine bS ?_ _ _ (by first | exact Nat.le_refl _ | (simp; done) | (simp; omega) | omega)) | refine bT ?_ ?_ (by with_reducible assumption) | exact Nat.le_refl _ | (simp; done) | (simp; omega) | omega)))).mono ?_; rintro e w3 ⟨rfl, hb3⟩; rw [oneB_refl])
  go_ret
  exact ⟨rfl, _, _, _, _, _, _, _, _, (HP2.out.bel (by repeat (first | with_reducible exact Below.refl _ _ | with_reducible assumption | apply bA | apply bN | apply bD | (refine bS ?_ _ _ (by first | exact Nat.le_refl _ | (simp; done) | (simp; omega) | omega)) | refine bT ?_ ?_ (by with_reducible assumption) | exact Nat.le_refl _ | (simp; done) | (simp; omega) | omega))).bel hb3, HK.out.without _⟩
end Go.Proofs.Ytknhblhdkjgnbaa
