/- One call on both nets answers alike on both. Conditions: as typed. -/
import Derived.Test.YtknhblhdkjgnbaaRefL
namespace Go.Proofs.Ytknhblhdkjgnbaa
open Go.RowKit

set_option maxRecDepth 100000 in
set_option maxHeartbeats 2000000 in
theorem law21_same_drop (B T N : Nat) (w0 w : World) (oo : OpV) (lv : Value) (F : Nat → Prop) (tv : Value) (G : Nat → Prop) (L : List Pk) (s d l : Int) (H : Pair B T N w0 w lv F L s d l tv G L s d l) (hk : Okl L) (hc : oo.call = 2) (hsl : Sl .u8 (fun b => b < N) w oo.v oo.bs) (hbl : oo.bs.length ≤ 140737488351232) :
    Calls Try.prog 17 #[.pointer (some ⟨B, 0, none⟩), .pointer (some ⟨T, 0, none⟩), .agg #[.int .u8 oo.call, .int .i64 oo.a, .int .i64 oo.b, oo.v]] w fun e w' => e = .returned (.bool true) ∧ Both B T N w0 w' := by
  obtain ⟨A, c, hv, _⟩ := id hsl
  rw [hv]
  have g0 : (oo.call == 0) = false := by simp [hc]
  have g1 : (oo.call == 1) = false := by simp [hc]
  have g2 : (oo.call == 2) = true := by simp [hc]
  have hBl := NetRep.lt H.net
  have hTl := Ref.NetRep.lt H.ref
  have HP := Lib.hid H; have HK := Lib.hid hk; have HSL := Lib.hid (hv ▸ hsl)
  clear H hk hc hv hsl
  go_enter Try.func17, Try.ntmps17
  go_wp2_with fail
  go_region_held3 (fun w' => w'.cell? ⟨w.heap.size, 1, none⟩ = some (.int .i64 oo.a))
    (((try dsimp only); (repeat' apply And.intro) <;> (first | assumption | (go_keep; done))))
    (first
     | (go_at_call 10; refine (net_Drop F B 5 s d l oo.a L lv _ (HP.out.bel (by repeat (first | with_reducible exact Below.refl _ _ | with_reducible assumption | apply bA | apply bN | apply bD | (refine bS ?_ _ _ (by first | exact Nat.le_refl _ | (simp; done) | (simp; omega) | omega)) | refine bT ?_ ?_ (by with_reducible assumption) | exact Nat.le_refl _ | (simp; done) | (simp; omega) | omega))).net (by omega) HK.out.1).mono ?_; rintro e w1 h1; obtain ⟨he1, hs1⟩ := h1.fn; subst he1; obtain ⟨lv1, F1, H1⟩ := (HP.out.bel (by repeat (first | with_reducible exact Below.refl _ _ | with_reducible assumption | apply bA | apply bN | apply bD | (refine bS ?_ _ _ (by first | exact Nat.le_refl _ | (simp; done) | (simp; omega) | omega)) | refine bT ?_ ?_ (by with_reducible assumption) | exact Nat.le_refl _ | (simp; done) | (simp; omega) | omega))).step hs1; (have x1 : w1.cell? ⟨w.heap.size, 1, none⟩ = some (.int .i64 oo.a) := (NetStep.frame hs1).cell (by exact new_cell _ _ _ _) (by rintro (h | h); exact absurd (show w.heap.size = B from h) (by omega); have := NetRep.row_lt HP.out.net _ h; simp at this)); have HP1 := Lib.hid H1)
     | (go_at_call 30; refine (Ref.r21_Drop G T 5 s d l oo.a L tv _ (HP1.out.bel (by repeat (first | with_reducible exact Below.refl _ _ | with_reducible assumption | apply bA | apply bN | apply bD | (refine bS ?_ _ _ (by first | exact Nat.le_refl _ | (simp; done) | (simp; omega) | omega)) | refine bT ?_ ?_ (by with_reducible assumption) | exact Nat.le_refl _ | (simp; done) | (simp; omega) | omega))).ref (by omega) HK.out.1).mono ?_; rintro e w2 h2; obtain ⟨he2, hs2⟩ := h2.fn; subst he2; obtain ⟨tv1, G1, H2⟩ := (HP1.out.bel (by repeat (first | with_reducible exact Below.refl _ _ | with_reducible assumption | apply bA | apply bN | apply bD | (refine bS ?_ _ _ (by first | exact Nat.le_refl _ | (simp; done) | (simp; omega) | omega)) | refine bT ?_ ?_ (by with_reducible assumption) | exact Nat.le_refl _ | (simp; done) | (simp; omega) | omega))).rstep hs2; (have y1 : w2.cell? ⟨w.heap.size, 1, none⟩ = some (.int .i64 oo.a) := (Ref.NetStep.frame hs2).cell x1 (by rintro (h | h); exact absurd (show w.heap.size = T from h) (by omega); have := Ref.NetRep.row_lt HP.out.ref _ h; simp at this)); have HP2 := Lib.hid H2))
  go_wp2
  go_ret
  exact ⟨rfl, _, _, _, _, _, _, _, _, HP2.out, HK.out.without _⟩

set_option maxRecDepth 100000 in
set_option maxHeartbeats 2000000 in
theorem law21_same_double (B T N : Nat) (w0 w : World) (oo : OpV) (lv : Value) (F : Nat → Prop) (tv : Value) (G : Nat → Prop) (L : List Pk) (s d l : Int) (H : Pair B T N w0 w lv F L s d l tv G L s d l) (hk : Okl L) (hc : oo.call = 3) (hsl : Sl .u8 (fun b => b < N) w oo.v oo.bs) (hbl : oo.bs.length ≤ 140737488351232) :
    Calls Try.prog 17 #[.pointer (some ⟨B, 0, none⟩), .pointer (some ⟨T, 0, none⟩), .agg #[.int .u8 oo.call, .int .i64 oo.a, .int .i64 oo.b, oo.v]] w fun e w' => e = .returned (.bool true) ∧ Both B T N w0 w' := by
  obtain ⟨A, c, hv, _⟩ := id hsl
  rw [hv]
  have g0 : (oo.call == 0) = false := by simp [hc]
  have g1 : (oo.call == 1) = false := by simp [hc]
  have g2 : (oo.call == 2) = false := by simp [hc]
  have g3 : (oo.call == 3) = true := by simp [hc]
  have hBl := NetRep.lt H.net
  have hTl := Ref.NetRep.lt H.ref
  have HP := Lib.hid H; have HK := Lib.hid hk; have HSL := Lib.hid (hv ▸ hsl)
  clear H hk hc hv hsl
  go_enter Try.func17, Try.ntmps17
  go_wp2_with fail
  go_region_held3 (fun w' => w'.cell? ⟨w.heap.size, 1, none⟩ = some (.int .i64 oo.a))
    (((try dsimp only); (repeat' apply And.intro) <;> (first | assumption | (go_keep; done))))
    (first
     | (go_at_call 11; refine (net_Double F B 5 s d l oo.a L lv _ (HP.out.bel (by repeat (first | with_reducible exact Below.refl _ _ | with_reducible assumption | apply bA | apply bN | apply bD | (refine bS ?_ _ _ (by first | exact Nat.le_refl _ | (simp; done) | (simp; omega) | omega)) | refine bT ?_ ?_ (by with_reducible assumption) | exact Nat.le_refl _ | (simp; done) | (simp; omega) | omega))).net (by omega) HK.out.1).mono ?_; rintro e w1 h1; obtain ⟨he1, hs1⟩ := h1.fn; subst he1; obtain ⟨lv1, F1, H1⟩ := (HP.out.bel (by repeat (first | with_reducible exact Below.refl _ _ | with_reducible assumption | apply bA | apply bN | apply bD | (refine bS ?_ _ _ (by first | exact Nat.le_refl _ | (simp; done) | (simp; omega) | omega)) | refine bT ?_ ?_ (by with_reducible assumption) | exact Nat.le_refl _ | (simp; done) | (simp; omega) | omega))).step hs1; (have x1 : w1.cell? ⟨w.heap.size, 1, none⟩ = some (.int .i64 oo.a) := (NetStep.frame hs1).cell (by exact new_cell _ _ _ _) (by rintro (h | h); exact absurd (show w.heap.size = B from h) (by omega); have := NetRep.row_lt HP.out.net _ h; simp at this)); have HP1 := Lib.hid H1)
     | (go_at_call 31; refine (Ref.r21_Double G T 5 s d l oo.a L tv _ (HP1.out.bel (by repeat (first | with_reducible exact Below.refl _ _ | with_reducible assumption | apply bA | apply bN | apply bD | (refine bS ?_ _ _ (by first | exact Nat.le_refl _ | (simp; done) | (simp; omega) | omega)) | refine bT ?_ ?_ (by with_reducible assumption) | exact Nat.le_refl _ | (simp; done) | (simp; omega) | omega))).ref HK.out.1 HK.out.2).mono ?_; rintro e w2 h2; obtain ⟨he2, hs2⟩ := h2.fn; subst he2; obtain ⟨tv1, G1, H2⟩ := (HP1.out.bel (by repeat (first | with_reducible exact Below.refl _ _ | with_reducible assumption | apply bA | apply bN | apply bD | (refine bS ?_ _ _ (by first | exact Nat.le_refl _ | (simp; done) | (simp; omega) | omega)) | refine bT ?_ ?_ (by with_reducible assumption) | exact Nat.le_refl _ | (simp; done) | (simp; omega) | omega))).rstep hs2; (have y1 : w2.cell? ⟨w.heap.size, 1, none⟩ = some (.int .i64 oo.a) := (Ref.NetStep.frame hs2).cell x1 (by rintro (h | h); exact absurd (show w.heap.size = T from h) (by omega); have := Ref.NetRep.row_lt HP.out.ref _ h; simp at this)); have HP2 := Lib.hid H2))
  go_wp2
  go_ret
  exact ⟨rfl, _, _, _, _, _, _, _, _, HP2.out, HK.out.doubled _⟩

set_option maxRecDepth 100000 in
set_option maxHeartbeats 2000000 in
theorem law21_same_move (B T N : Nat) (w0 w : World) (oo : OpV) (lv : Value) (F : Nat → Prop) (tv : Value) (G : Nat → Prop) (L : List Pk) (s d l : Int) (H : Pair B T N w0 w lv F L s d l tv G L s d l) (hk : Okl L) (hc : oo.call = 4) (hsl : Sl .u8 (fun b => b < N) w oo.v oo.bs) (hbl : oo.bs.length ≤ 140737488351232) :
    Calls Try.prog 17 #[.pointer (some ⟨B, 0, none⟩), .pointer (some ⟨T, 0, none⟩), .agg #[.int .u8 oo.call, .int .i64 oo.a, .int .i64 oo.b, oo.v]] w fun e w' => e = .returned (.bool true) ∧ Both B T N w0 w' := by
  obtain ⟨A, c, hv, _⟩ := id hsl
  rw [hv]
  have g0 : (oo.call == 0) = false := by simp [hc]
  have g1 : (oo.call == 1) = false := by simp [hc]
  have g2 : (oo.call == 2) = false := by simp [hc]
  have g3 : (oo.call == 3) = false := by simp [hc]
  have g4 : (oo.call == 4) = true := by simp [hc]
  have hBl := NetRep.lt H.net
  have hTl := Ref.NetRep.lt H.ref
  have HP := Lib.hid H; have HK := Lib.hid hk; have HSL := Lib.hid (hv ▸ hsl)
  clear H hk hc hv hsl
  go_enter Try.func17, Try.ntmps17
  go_wp2_with fail
  go_region_held3 (fun w' => w'.cell? ⟨w.heap.size, 1, none⟩ = some (.int .i64 oo.a) ∧ w'.cell? ⟨w.heap.size, 2, none⟩ = some (.int .i64 oo.b))
    (((try dsimp only); (repeat' apply And.intro) <;> (first | assumption | (go_keep; done))))
    (first
     | (go_at_call 12; refine (net_Move F B 5 s d l oo.a oo.b L lv _ (HP.out.bel (by repeat (first | with_reducible exact Below.refl _ _ | with_reducible assumption | apply bA | apply bN | apply bD | (refine bS ?_ _ _ (by first | exact Nat.le_refl _ | (simp; done) | (simp; omega) | omega)) | refine bT ?_ ?_ (by with_reducible assumption) | exact Nat.le_refl _ | (simp; done) | (simp; omega) | omega))).net (by omega) HK.out.1).mono ?_; rintro e w1 h1; obtain ⟨he1, hs1⟩ := h1.fn; subst he1; obtain ⟨lv1, F1, H1⟩ := (HP.out.bel (by repeat (first | with_reducible exact Below.refl _ _ | with_reducible assumption | apply bA | apply bN | apply bD | (refine bS ?_ _ _ (by first | exact Nat.le_refl _ | (simp; done) | (simp; omega) | omega)) | refine bT ?_ ?_ (by with_reducible assumption) | exact Nat.le_refl _ | (simp; done) | (simp; omega) | omega))).step hs1; (have x1 : w1.cell? ⟨w.heap.size, 1, none⟩ = some (.int .i64 oo.a) := (NetStep.frame hs1).cell (by exact new_cell _ _ _ _) (by rintro (h | h); exact absurd (show w.heap.size = B from h) (by omega); have := NetRep.row_lt HP.out.net _ h; simp at this)); (have x2 : w1.cell? ⟨w.heap.size, 2, none⟩ = some (.int .i64 oo.b) := (NetStep.frame hs1).cell (by exact new_cell _ _ _ _) (by rintro (h | h); exact absurd (show w.heap.size = B from h) (by omega); have := NetRep.row_lt HP.out.net _ h; simp at this)); have HP1 := Lib.hid H1)
     | (go_at_call 32; refine (Ref.r21_Move G T 5 s d l oo.a oo.b L tv _ (HP1.out.bel (by repeat (first | with_reducible exact Below.refl _ _ | with_reducible assumption | apply bA | apply bN | apply bD | (refine bS ?_ _ _ (by first | exact Nat.le_refl _ | (simp; done) | (simp; omega) | omega)) | refine bT ?_ ?_ (by with_reducible assumption) | exact Nat.le_refl _ | (simp; done) | (simp; omega) | omega))).ref HK.out.1).mono ?_; rintro e w2 h2; obtain ⟨he2, hs2⟩ := h2.fn; subst he2; obtain ⟨tv1, G1, H2⟩ := (HP1.out.bel (by repeat (first | with_reducible exact Below.refl _ _ | with_reducible assumption | apply bA | apply bN | apply bD | (refine bS ?_ _ _ (by first | exact Nat.le_refl _ | (simp; done) | (simp; omega) | omega)) | refine bT ?_ ?_ (by with_reducible assumption) | exact Nat.le_refl _ | (simp; done) | (simp; omega) | omega))).rstep hs2; (have y1 : w2.cell? ⟨w.heap.size, 1, none⟩ = some (.int .i64 oo.a) := (Ref.NetStep.frame hs2).cell x1 (by rintro (h | h); exact absurd (show w.heap.size = T from h) (by omega); have := Ref.NetRep.row_lt HP.out.ref _ h; simp at this)); (have y2 : w2.cell? ⟨w.heap.size, 2, none⟩ = some (.int .i64 oo.b) := (Ref.NetStep.frame hs2).cell x2 (by rintro (h | h); exact absurd (show w.heap.size = T from h) (by omega); have := Ref.NetRep.row_lt HP.out.ref _ h; simp at this)); have HP2 := Lib.hid H2))
  go_wp2
  go_ret
  exact ⟨rfl, _, _, _, _, _, _, _, _, HP2.out, HK.out.shifted _ _⟩

set_option maxRecDepth 100000 in
set_option maxHeartbeats 2000000 in
theorem law21_same_send (B T N : Nat) (w0 w : World) (oo : OpV) (lv : Value) (F : Nat → Prop) (tv : Value) (G : Nat → Prop) (L : List Pk) (s d l : Int) (H : Pair B T N w0 w lv F L s d l tv G L s d l) (hk : Okl L) (hc : oo.call = 0) (hsl : Sl .u8 (fun b => b < N) w oo.v oo.bs) (hbl : oo.bs.length ≤ 140737488351232) :
    Calls Try.prog 17 #[.pointer (some ⟨B, 0, none⟩), .pointer (some ⟨T, 0, none⟩), .agg #[.int .u8 oo.call, .int .i64 oo.a, .int .i64 oo.b, oo.v]] w fun e w' => e = .returned (.bool true) ∧ Both B T N w0 w' := by
  obtain ⟨A, c, hv, _⟩ := id hsl
  rw [hv]
  have g0 : (oo.call == 0) = true := by simp [hc]
  have hBl := NetRep.lt H.net
  have hTl := Ref.NetRep.lt H.ref
  have HP := Lib.hid H; have HK := Lib.hid hk; have HSL := Lib.hid (hv ▸ hsl)
  clear H hk hc hv hsl
  go_enter Try.func17, Try.ntmps17
  go_wp2_with fail
  go_region_held3 (fun w' => w'.cell? ⟨w.heap.size, 1, none⟩ = some (.int .i64 oo.a) ∧ w'.cell? ⟨w.heap.size, 2, none⟩ = some (.int .i64 oo.b) ∧ w'.cell? ⟨w.heap.size, 3, none⟩ = some (.slice A oo.bs.length c))
    (((try dsimp only); (repeat' apply And.intro) <;> (first | assumption | (go_keep; done))))
    (first
     | (go_at_call 6; refine (net_Send F _ B 5 s d l oo.a oo.b L lv _ oo.bs _ (HP.out.bel (by repeat (first | with_reducible exact Below.refl _ _ | with_reducible assumption | apply bA | apply bN | apply bD | (refine bS ?_ _ _ (by first | exact Nat.le_refl _ | (simp; done) | (simp; omega) | omega)) | refine bT ?_ ?_ (by with_reducible assumption) | exact Nat.le_refl _ | (simp; done) | (simp; omega) | omega))).net (by omega) (HSL.out.below (by repeat (first | with_reducible exact Below.refl _ _ | with_reducible assumption | apply bA | apply bN | apply bD | (refine bS ?_ _ _ (by first | exact Nat.le_refl _ | (simp; done) | (simp; omega) | omega)) | refine bT ?_ ?_ (by with_reducible assumption) | exact Nat.le_refl _ | (simp; done) | (simp; omega) | omega)))).mono ?_; rintro e w1 h1; obtain ⟨he1, hs1⟩ := h1; subst he1; obtain ⟨lv1, F1, H1⟩ := (HP.out.bel (by repeat (first | with_reducible exact Below.refl _ _ | with_reducible assumption | apply bA | apply bN | apply bD | (refine bS ?_ _ _ (by first | exact Nat.le_refl _ | (simp; done) | (simp; omega) | omega)) | refine bT ?_ ?_ (by with_reducible assumption) | exact Nat.le_refl _ | (simp; done) | (simp; omega) | omega))).step hs1; (have x1 : w1.cell? ⟨w.heap.size, 1, none⟩ = some (.int .i64 oo.a) := (NetStep.frame hs1).cell (by exact new_cell _ _ _ _) (by rintro (h | h); exact absurd (show w.heap.size = B from h) (by omega); have := NetRep.row_lt HP.out.net _ h; simp at this)); (have x2 : w1.cell? ⟨w.heap.size, 2, none⟩ = some (.int .i64 oo.b) := (NetStep.frame hs1).cell (by exact new_cell _ _ _ _) (by rintro (h | h); exact absurd (show w.heap.size = B from h) (by omega); have := NetRep.row_lt HP.out.net _ h; simp at this)); (have x3 : w1.cell? ⟨w.heap.size, 3, none⟩ = some (.slice A oo.bs.length c) := (NetStep.frame hs1).cell (by exact new_cell _ _ _ _) (by rintro (h | h); exact absurd (show w.heap.size = B from h) (by omega); have := NetRep.row_lt HP.out.net _ h; simp at this)); have HP1 := Lib.hid H1; have HS1 := Lib.hid (Sl.fr (HSL.out.below (w1 := (w.alloc _).drew) (by repeat (first | with_reducible exact Below.refl _ _ | with_reducible assumption | apply bA | apply bN | apply bD | (refine bS ?_ _ _ (by first | exact Nat.le_refl _ | (simp; done) | (simp; omega) | omega)) | refine bT ?_ ?_ (by with_reducible assumption) | exact Nat.le_refl _ | (simp; done) | (simp; omega) | omega))) (NetStep.frame hs1) (by rintro b _ hb (h | h); have := HP.out.own B (.inl (.inl rfl)); omega; have := HP.out.own b (.inl (.inr (.inl h))); omega)))
     | (go_at_call 18; refine (Ref.r21_Send G _ T 5 s d l oo.a oo.b L tv _ oo.bs _ (HP1.out.bel (by repeat (first | with_reducible exact Below.refl _ _ | with_reducible assumption | apply bA | apply bN | apply bD | (refine bS ?_ _ _ (by first | exact Nat.le_refl _ | (simp; done) | (simp; omega) | omega)) | refine bT ?_ ?_ (by with_reducible assumption) | exact Nat.le_refl _ | (simp; done) | (simp; omega) | omega))).ref ((HS1.out).below (by repeat (first | with_reducible exact Below.refl _ _ | with_reducible assumption | apply bA | apply bN | apply bD | (refine bS ?_ _ _ (by first | exact Nat.le_refl _ | (simp; done) | (simp; omega) | omega)) | refine bT ?_ ?_ (by with_reducible assumption) | exact Nat.le_refl _ | (simp; done) | (simp; omega) | omega))) (by omega)).mono ?_; rintro e w2 h2; obtain ⟨he2, hs2⟩ := h2; subst he2; obtain ⟨tv1, G1, H2⟩ := (HP1.out.bel (by repeat (first | with_reducible exact Below.refl _ _ | with_reducible assumption | apply bA | apply bN | apply bD | (refine bS ?_ _ _ (by first | exact Nat.le_refl _ | (simp; done) | (simp; omega) | omega)) | refine bT ?_ ?_ (by with_reducible assumption) | exact Nat.le_refl _ | (simp; done) | (simp; omega) | omega))).rstep hs2; (have y1 : w2.cell? ⟨w.heap.size, 1, none⟩ = some (.int .i64 oo.a) := (Ref.NetStep.frame hs2).cell x1 (by rintro (h | h); exact absurd (show w.heap.size = T from h) (by omega); have := Ref.NetRep.row_lt HP.out.ref _ h; simp at this)); (have y2 : w2.cell? ⟨w.heap.size, 2, none⟩ = some (.int .i64 oo.b) := (Ref.NetStep.frame hs2).cell x2 (by rintro (h | h); exact absurd (show w.heap.size = T from h) (by omega); have := Ref.NetRep.row_lt HP.out.ref _ h; simp at this)); (have y3 : w2.cell? ⟨w.heap.size, 3, none⟩ = some (.slice A oo.bs.length c) := (Ref.NetStep.frame hs2).cell x3 (by rintro (h | h); exact absurd (show w.heap.size = T from h) (by omega); have := Ref.NetRep.row_lt HP.out.ref _ h; simp at this)); have HP2 := Lib.hid H2))
  go_wp2
  go_ret
  exact ⟨rfl, _, _, _, _, _, _, _, _, HP2.out, HK.out.sent⟩

end Go.Proofs.Ytknhblhdkjgnbaa
