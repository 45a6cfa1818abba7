/- The reference's net: has and Send. Conditions: as typed. -/
import Derived.Test.YtknhblhdkjgnbaaRefA
namespace Go.Proofs.Ytknhblhdkjgnbaa.Ref
open Go.RowKit

def hasB (n : Nat) (i : Int) : Bool := decide (0 ≤ i ∧ i < n)
theorem r21_has (g n c : Nat) (A : Option Addr) (nodes s d l i : Int) (w : World) (hn : NetAt w g nodes (.slice A n c) s d l) :
    Calls Try.prog 34 #[.pointer (some ⟨g, 0, none⟩), .int .i64 i] w fun e w' => e = .returned (.bool (hasB n i)) ∧ w' = w := by
  obtain ⟨k0, k1, k2, k3, k4⟩ := hn.cells
  by_cases h0 : 0 ≤ i
  · by_cases h1 : i < (n : Int)
    · have H : Hid (hasB n i = true) := by simp [Hid, hasB, h0, h1]
      go_enter Try.func34, Try.ntmps34
      go_wp2
      go_ret
      exact ⟨by rw [H.out]; rfl, rfl⟩
    · have H : Hid (hasB n i = false) := by simp [Hid, hasB]; omega
      go_enter Try.func34, Try.ntmps34
      go_wp2
      go_ret
      exact ⟨by rw [H.out]; rfl, rfl⟩
  · have H : Hid (hasB n i = false) := by simp [Hid, hasB]; omega
    go_enter Try.func34, Try.ntmps34
    go_wp2
    go_ret
    exact ⟨by rw [H.out]; rfl, rfl⟩

set_option maxRecDepth 100000 in
set_option maxHeartbeats 800000 in
theorem r21_Send (F G : Nat → Prop) (g : Nat) (nodes s d l f t : Int) (L : List Pk) (lv v : Value) (bs : List Int) (w : World) (h : NetRep F w g nodes L s d l lv) (hb : Sl .u8 G w v bs) (hbl : bs.length ≤ 140737488355328) :
    Calls Try.prog 18 #[.pointer (some ⟨g, 0, none⟩), .int .i64 f, .int .i64 t, v] w (SendR F g lv nodes L s d l f t bs w) := by
  have HR := Lib.hid h
  obtain ⟨Z, hL, hZ⟩ := h
  have h1 := hZ.1; have h2 := hZ.2.1
  have hln : Z.length = L.length := by rw [← hL]; simp
  rw [hln] at h2
  obtain ⟨i0, hi0, hz0, hz1, hz2⟩ := info_parts Try.info_Packet
  obtain ⟨A, c, rfl, hnc, hcm, hA⟩ := h2.slice
  obtain ⟨A1, m1, rfl, _⟩ := id hb
  obtain ⟨k0, k1, k2, k3, k4⟩ := h1.cells
  have f1 := h1.frozen 1
  have f2 := h1.frozen 2
  have hlt := h1.lt
  have hrow := h1.row h2 (by decide)
  have H1 := Lib.hid h1; have H2 := Lib.hid h2; have HZ := Lib.hid hZ; have HL := Lib.hid hL; have HLN := Lib.hid hln; have HB := Lib.hid hb; have HRW := Lib.hid hrow
  clear h1 h2 hZ hL hln hb hrow hA
  have bad : (f < 0 ∨ nodes ≤ f) ∨ (t < 0 ∨ nodes ≤ t) → sendErr nodes f t L.length bs.length = 2 := fun h => by unfold sendErr; rw [if_neg (by omega)]
  by_cases c1 : f < 0
  · have HE := Lib.hid (bad (.inl (.inl c1))); clear bad
    go_enter Try.func18, Try.ntmps18
    go_wp2
    go_ret
    exact SendR.no HE.out (by omega) HR.out (by repeat (first | with_reducible exact Below.refl _ _ | with_reducible assumption | apply bA | apply bN | apply bD | (refine bS ?_ _ _ (by first | exact Nat.le_refl _ | (simp; done) | (simp; omega) | omega)) | refine bT ?_ ?_ (by with_reducible assumption) | exact Nat.le_refl _ | (simp; done) | (simp; omega) | omega))
  by_cases c2 : nodes ≤ f
  · have HE := Lib.hid (bad (.inl (.inr c2))); clear bad
    go_enter Try.func18, Try.ntmps18
    go_wp2
    go_ret
    exact SendR.no HE.out (by omega) HR.out (by repeat (first | with_reducible exact Below.refl _ _ | with_reducible assumption | apply bA | apply bN | apply bD | (refine bS ?_ _ _ (by first | exact Nat.le_refl _ | (simp; done) | (simp; omega) | omega)) | refine bT ?_ ?_ (by with_reducible assumption) | exact Nat.le_refl _ | (simp; done) | (simp; omega) | omega))
  by_cases c3 : t < 0
  · have HE := Lib.hid (bad (.inr (.inl c3))); clear bad
    go_enter Try.func18, Try.ntmps18
    go_wp2
    go_ret
    exact SendR.no HE.out (by omega) HR.out (by repeat (first | with_reducible exact Below.refl _ _ | with_reducible assumption | apply bA | apply bN | apply bD | (refine bS ?_ _ _ (by first | exact Nat.le_refl _ | (simp; done) | (simp; omega) | omega)) | refine bT ?_ ?_ (by with_reducible assumption) | exact Nat.le_refl _ | (simp; done) | (simp; omega) | omega))
  by_cases c4 : nodes ≤ t
  · have HE := Lib.hid (bad (.inr (.inr c4))); clear bad
    go_enter Try.func18, Try.ntmps18
    go_wp2
    go_ret
    exact SendR.no HE.out (by omega) HR.out (by repeat (first | with_reducible exact Below.refl _ _ | with_reducible assumption | apply bA | apply bN | apply bD | (refine bS ?_ _ _ (by first | exact Nat.le_refl _ | (simp; done) | (simp; omega) | omega)) | refine bT ?_ ?_ (by with_reducible assumption) | exact Nat.le_refl _ | (simp; done) | (simp; omega) | omega))
  clear bad
  by_cases c5 : 4096 ≤ L.length
  · have HE : Hid (sendErr nodes f t L.length bs.length = 4) := by unfold Hid sendErr; rw [if_pos (by omega), if_neg (by omega)]
    go_enter Try.func18, Try.ntmps18
    go_wp2
    go_ret
    exact SendR.no HE.out (by omega) HR.out (by repeat (first | with_reducible exact Below.refl _ _ | with_reducible assumption | apply bA | apply bN | apply bD | (refine bS ?_ _ _ (by first | exact Nat.le_refl _ | (simp; done) | (simp; omega) | omega)) | refine bT ?_ ?_ (by with_reducible assumption) | exact Nat.le_refl _ | (simp; done) | (simp; omega) | omega))
  by_cases c6 : 1048576 < bs.length
  · have HE : Hid (sendErr nodes f t L.length bs.length = 4) := by unfold Hid sendErr; rw [if_pos (by omega), if_neg (by omega)]
    go_enter Try.func18, Try.ntmps18
    go_wp2
    go_ret
    exact SendR.no HE.out (by omega) HR.out (by repeat (first | with_reducible exact Below.refl _ _ | with_reducible assumption | apply bA | apply bN | apply bD | (refine bS ?_ _ _ (by first | exact Nat.le_refl _ | (simp; done) | (simp; omega) | omega)) | refine bT ?_ ?_ (by with_reducible assumption) | exact Nat.le_refl _ | (simp; done) | (simp; omega) | omega))
  have HE : Hid (sendErr nodes f t L.length bs.length = 0) := by unfold Hid sendErr; rw [if_pos (by omega), if_pos (by omega)]
  go_enter Try.func18, Try.ntmps18
  go_wp2_with fail
  go_region_law (first
     | (refine st_appendR (by rfl) _ _ _ (by rfl) 34 3 40 _ Try.underlying27 Try.info_Packet rfl (by omega) (.slice A L.length c) L.length (pvCells Z) (by rfl) (H2.out.bel (by repeat (first | with_reducible exact Below.refl _ _ | with_reducible assumption | apply bA | apply bN | apply bD | (refine bS ?_ _ _ (by first | exact Nat.le_refl _ | (simp; done) | (simp; omega) | omega)) | refine bT ?_ ?_ (by with_reducible assumption) | exact Nat.le_refl _ | (simp; done) | (simp; omega) | omega))) (some ⟨_, 0, none⟩) 1 1 [.int .i64 f, .int .i64 t, _] (by rfl) (fun h => by cases h) (by omega) (by rfl) (news_one _ _ _) (by simp [Value.oneCell']) (by unfold maxLen; omega) (by omega) ?_; intro A3 c3 w2 hown2 hgrow hat hat2; (have kg2 : w2.cell? ⟨g, 1, none⟩ = some (.slice A L.length c) := (hgrow.cell_far _ (by simp; omega) HRW.out.symm).trans (cell_al kg _)); have kf2 : w2.frozen? ⟨g, 1, none⟩ = false := (hgrow.frozen_far _ (by simp; omega) HRW.out.symm).trans (fA1 _); have HN2 := Lib.hid (((H1.out.bel (by repeat (first | with_reducible exact Below.refl _ _ | with_reducible assumption | apply bA | apply bN | apply bD | (refine bS ?_ _ _ (by first | exact Nat.le_refl _ | (simp; done) | (simp; omega) | omega)) | refine bT ?_ ?_ (by with_reducible assumption) | exact Nat.le_refl _ | (simp; done) | (simp; omega) | omega))).gr hgrow HRW.out).set1 (.slice A3 (L.length + 1) c3)))
     | (go_simp; go_at_call 7; refine (r08_Bytes _ _ bs _ (HB.out.below (by repeat (first | with_reducible exact Below.refl _ _ | with_reducible assumption | apply bA | apply bN | apply bD | (refine bS ?_ _ _ (by first | exact Nat.le_refl _ | (simp; done) | (simp; omega) | omega)) | refine bT ?_ ?_ (by with_reducible assumption) | exact Nat.le_refl _ | (simp; done) | (simp; omega) | omega))) (by omega)).mono ?_; rintro e w1 ⟨bv, rfl, hown, hbel⟩; obtain ⟨A2, c2, rfl, _⟩ := Sl.own hown; (have hs1 : w.heap.size ≤ w1.heap.size := by have := hbel.size; simpa using this); obtain ⟨hc, hf⟩ := bcellN hbel w.heap.size (by simp); have kf := (hbel.frozen (p := ⟨g, 1, none⟩) (by simp; omega)).trans f1; (have fA1 : ∀ o, (w1.alloc o).frozen? ⟨g, 1, none⟩ = false := fun o => fz_al (a := ⟨g, 1, none⟩) (by simp; omega) kf o); have kg := (hbel.cell (p := ⟨g, 1, none⟩) (by simp; omega)).trans k1; have kgA : ∀ o, (w1.alloc o).cell? ⟨g, 1, none⟩ = some (.slice A L.length c) := fun o => cell_al kg o))
  all_goals
    obtain ⟨j0, j1, j2, j3, j4⟩ := HN2.out.cells
    have q2 := HN2.out.frozen 2
    go_wp2
    go_ret
    refine ⟨by rw [HE.out]; rfl, ?_⟩
    rw [if_pos HE.out, if_pos HE.out]
    have := put_step (Z := Z) (f := f) (t := t) HZ.out (by rw [HLN.out]; exact put_close HN2.out hlt (by repeat (first | with_reducible exact Below.refl _ _ | with_reducible assumption | apply bA | apply bN | apply bD | (refine bS ?_ _ _ (by first | exact Nat.le_refl _ | (simp; done) | (simp; omega) | omega)) | refine bT ?_ ?_ (by with_reducible assumption) | exact Nat.le_refl _ | (simp; done) | (simp; omega) | omega)) hgrow HRW.out H2.out.lt hat hown2 (own_bel hown (by repeat (first | with_reducible exact Below.refl _ _ | with_reducible assumption | apply bA | apply bN | apply bD | (refine bS ?_ _ _ (by first | exact Nat.le_refl _ | (simp; done) | (simp; omega) | omega)) | refine bT ?_ ?_ (by with_reducible assumption) | exact Nat.le_refl _ | (simp; done) | (simp; omega) | omega))) (by simp))
    rwa [HL.out] at this
end Go.Proofs.Ytknhblhdkjgnbaa.Ref
