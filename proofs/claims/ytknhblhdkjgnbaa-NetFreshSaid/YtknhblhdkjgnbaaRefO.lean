/- One call on both nets answers alike on both. Conditions: as typed. -/
import Derived.Test.YtknhblhdkjgnbaaRefN
namespace Go.Proofs.Ytknhblhdkjgnbaa
open Go.RowKit

set_option maxRecDepth 100000 in
set_option maxHeartbeats 2000000 in
theorem law21_same_pending (B T N : Nat) (w0 w : World) (oo : OpV) (lv : Value) (F : Nat → Prop) (tv : Value) (G : Nat → Prop) (L : List Pk) (s d l : Int) (H : Pair B T N w0 w lv F L s d l tv G L s d l) (hk : Okl L) (hc : oo.call = 5) (hsl : Sl .u8 (fun b => b < N) w oo.v oo.bs) :
    Calls Try.prog 17 #[.pointer (some ⟨B, 0, none⟩), .pointer (some ⟨T, 0, none⟩), .agg #[.int .u8 oo.call, .int .i64 oo.a, .int .i64 oo.b, oo.v]] w fun e w' => e = .returned (.bool true) ∧ Both B T N w0 w' := by
  obtain ⟨A, c, hv, _⟩ := id hsl
  rw [hv]
  have g0 : (oo.call == 0) = false := by simp [hc]
  have g1 : (oo.call == 1) = false := by simp [hc]
  have g2 : (oo.call == 2) = false := by simp [hc]
  have g3 : (oo.call == 3) = false := by simp [hc]
  have g4 : (oo.call == 4) = false := by simp [hc]
  have g5 : (oo.call == 5) = true := by simp [hc]
  have hBl := NetRep.lt H.net
  have hTl := Ref.NetRep.lt H.ref
  obtain ⟨t0, t1, t2, t3, t4⟩ := H.ref.netAt.cells
  obtain ⟨Z2, hZ2, hR2⟩ := H.ref
  have HP := Lib.hid H; have HK := Lib.hid hk; have HZ2 := Lib.hid hZ2; have HR2 := Lib.hid hR2
  clear H hk hc hv hsl hZ2 hR2
  have k1 : ∀ o, (w.alloc o).cell? ⟨T, 1, none⟩ = some tv := fun o => cell_al t1 o
  have k2 : ∀ o, (w.alloc o).cell? ⟨T, 2, none⟩ = some (.int .i64 s) := fun o => cell_al t2 o
  have k3 : ∀ o, (w.alloc o).cell? ⟨T, 3, none⟩ = some (.int .i64 d) := fun o => cell_al t3 o
  have k4 : ∀ o, (w.alloc o).cell? ⟨T, 4, none⟩ = some (.int .i64 l) := fun o => cell_al t4 o
  go_enter Try.func17, Try.ntmps17
  go_wp2_with fail
  refine (net_Count B 5 s d l lv _ (NetRep.netAt (HP.out.bel (by repeat (first | with_reducible exact Below.refl _ _ | with_reducible assumption | apply bA | apply bN | apply bD | (refine bS ?_ _ _ (by first | exact Nat.le_refl _ | (simp; done) | (simp; omega) | omega)) | refine bT ?_ ?_ (by with_reducible assumption) | exact Nat.le_refl _ | (simp; done) | (simp; omega) | omega))).net) (by omega)).mono ?_
  rintro e w1 ⟨rfl, nq, rfl⟩
  go_wp2_with fail
  go_region_held3 (fun w' => w'.cell? ⟨T, 1, none⟩ = some tv ∧ w'.cell? ⟨T, 2, none⟩ = some (.int .i64 s) ∧ w'.cell? ⟨T, 3, none⟩ = some (.int .i64 d) ∧ w'.cell? ⟨T, 4, none⟩ = some (.int .i64 l))
    (((try dsimp only); (repeat' apply And.intro) <;> (first | exact k1 _ | exact k2 _ | exact k3 _ | exact k4 _ | (go_keep; done))))
    (first
     | (go_at_call 14; refine (net_Pending F B 5 s d l L lv _ (HP.out.bel (by repeat (first | with_reducible exact Below.refl _ _ | with_reducible assumption | apply bA | apply bN | apply bD | (refine bS ?_ _ _ (by first | exact Nat.le_refl _ | (simp; done) | (simp; omega) | omega)) | refine bT ?_ ?_ (by with_reducible assumption) | exact Nat.le_refl _ | (simp; done) | (simp; omega) | omega))).net (by omega) HK.out.1 (fun p hp => Nat.le_trans (HK.out.2 p hp).2.2.2.2 (by omega))).mono ?_; rintro e w2 ⟨v2, rfl, hp2, hb2⟩; obtain ⟨hc2, hf2⟩ := bcellN hb2 w.heap.size (by simp); have HPN := Lib.hid hp2; (have hbw : Below w.heap.size w w2 := bT (by repeat (first | with_reducible exact Below.refl _ _ | with_reducible assumption | apply bA | apply bN | apply bD | (refine bS ?_ _ _ (by first | exact Nat.le_refl _ | (simp; done) | (simp; omega) | omega)) | refine bT ?_ ?_ (by with_reducible assumption) | exact Nat.le_refl _ | (simp; done) | (simp; omega) | omega)) (by simp) hb2); have HBW := Lib.hid hbw; have HZW := Lib.hid (HR2.out.bel hbw); have HPQ := Lib.hid ((HP.out.bel (w1 := w.alloc _) (by repeat (first | with_reducible exact Below.refl _ _ | with_reducible assumption | apply bA | apply bN | apply bD | (refine bS ?_ _ _ (by first | exact Nat.le_refl _ | (simp; done) | (simp; omega) | omega)) | refine bT ?_ ?_ (by with_reducible assumption) | exact Nat.le_refl _ | (simp; done) | (simp; omega) | omega))).bel (Below.trans (bN (Below.refl _ _) _) hb2)))
     | (go_at_call 22; obtain ⟨Z1, hz1, hz2⟩ := HPN.out; refine (Ref.r21_Same _ G Z1 Z2 _ _ _ (hz2.1.bel (by repeat (first | with_reducible exact Below.refl _ _ | with_reducible assumption | apply bA | apply bN | apply bD | (refine bS ?_ _ _ (by first | exact Nat.le_refl _ | (simp; done) | (simp; omega) | omega)) | refine bT ?_ ?_ (by with_reducible assumption) | exact Nat.le_refl _ | (simp; done) | (simp; omega) | omega))) (hz2.bel (by repeat (first | with_reducible exact Below.refl _ _ | with_reducible assumption | apply bA | apply bN | apply bD | (refine bS ?_ _ _ (by first | exact Nat.le_refl _ | (simp; done) | (simp; omega) | omega)) | refine bT ?_ ?_ (by with_reducible assumption) | exact Nat.le_refl _ | (simp; done) | (simp; omega) | omega))).2.1 ((HZW.out.bel (by repeat (first | with_reducible exact Below.refl _ _ | with_reducible assumption | apply bA | apply bN | apply bD | (refine bS ?_ _ _ (by first | exact Nat.le_refl _ | (simp; done) | (simp; omega) | omega)) | refine bT ?_ ?_ (by with_reducible assumption) | exact Nat.le_refl _ | (simp; done) | (simp; omega) | omega))).2.1) ((HZW.out.bel (by repeat (first | with_reducible exact Below.refl _ _ | with_reducible assumption | apply bA | apply bN | apply bD | (refine bS ?_ _ _ (by first | exact Nat.le_refl _ | (simp; done) | (simp; omega) | omega)) | refine bT ?_ ?_ (by with_reducible assumption) | exact Nat.le_refl _ | (simp; done) | (simp; omega) | omega))).2.2.1) (hz1.trans HZ2.out.symm) (by have := congrArg List.length hz1; have := HK.out.1; simp at *; omega)).mono ?_; rintro e w3 ⟨rfl, hb3⟩; obtain ⟨hc3, hf3⟩ := bcellN hb3 w.heap.size (by have := HBW.out.size; first | omega | (simp; omega))))
  go_wp2
  go_ret
  exact ⟨rfl, _, _, _, _, _, _, _, _, (HP.out.bel HBW.out).bel (bT (by repeat (first | with_reducible exact Below.refl _ _ | with_reducible assumption | apply bA | apply bN | apply bD | (refine bS ?_ _ _ (by first | exact Nat.le_refl _ | (simp; done) | (simp; omega) | omega)) | refine bT ?_ ?_ (by with_reducible assumption) | exact Nat.le_refl _ | (simp; done) | (simp; omega) | omega)) (by first | exact Nat.le_refl _ | simp) hb3), HK.out⟩
end Go.Proofs.Ytknhblhdkjgnbaa
