import Derived.Test.YtknhblhdkjgnbaaNetF
namespace Go.Proofs.Ytknhblhdkjgnbaa
open Go.RowKit

/-- Double. -/
def DoubleR (F : Nat → Prop) (g : Nat) (lv : Value) (nodes : Int) (L : List Pk) (s d l i : Int) (w : World) (e : Ending) (w' : World) : Prop :=
  (placeErr L.length i = 2 ∧ e = .returned (.int .i64 2) ∧ NetStep F g lv w w' nodes L s d l) ∨
  ∃ L1 p L2, L = L1 ++ p :: L2 ∧ (L1.length : Int) = i ∧ ((L.length < 4096 ∧ p.b.length ≤ 1048576 ∧ e = .returned (.int .i64 0) ∧ NetStep F g lv w w' nodes (L ++ [p]) (wrap64 (s + 1)) d l) ∨
    (¬ (L.length < 4096 ∧ p.b.length ≤ 1048576) ∧ e = .returned (.int .i64 4) ∧ NetStep F g lv w w' nodes L s d l))

set_option maxRecDepth 100000 in
set_option maxHeartbeats 400000 in
theorem net_Double (F : Nat → Prop) (g : Nat) (nodes s d l i : Int) (L : List Pk) (lv : Value) (w : World) (h : NetRep F w g nodes L s d l lv) (hn : 0 < nodes) (hL : L.length ≤ 4096) :
    Calls Try.prog 11 #[.pointer (some ⟨g, 0, none⟩), .int .i64 i] w (DoubleR F g lv nodes L s d l i w) := by
  have HR := Lib.hid h
  obtain ⟨Z, rfl, hZ⟩ := h
  have h1 := hZ.1; have h2 := hZ.2.1
  obtain ⟨A, c, rfl, hnc, hcm, hA⟩ := h2.slice
  obtain ⟨k0, k1, k2, k3, k4⟩ := h1.cells
  have hn0 : (nodes == 0) = false := by simp; omega
  have hl : (Z.map Prod.fst).length = Z.length := by simp
  by_cases hi : 0 ≤ i ∧ i < Z.length
  · obtain ⟨q, rfl⟩ : ∃ q : Nat, i = q := ⟨i.toNat, by omega⟩
    have hq : q < Z.length := by omega
    obtain ⟨Y, z, X, hZe, hY, hrow, hpre, hbv, hone, hzs, hzF, hap⟩ := hZ.at_ hq
    obtain ⟨b, o, cur, rfl, c0, c1, c2, _⟩ := hrow.pk hpre
    obtain ⟨zA, zc, zm, hzv⟩ := hbv
    rw [hzv] at c2
    have hlen : Z.length ≤ 4096 := by omega
    have H1 := Lib.hid h1; have H2 := Lib.hid h2; have HZ := Lib.hid hZ; have HZS := Lib.hid hzs; have HZV := Lib.hid hzv
    have HY := Lib.hid hY; have HE := Lib.hid hZe
    clear hZ h1 h2 hY hZe hpre hone hrow hzs hzF hap hL hl hzv hlen
    have HI := Lib.hid hi
    clear hi
    have fin : ∀ e w', ((Z.length < 4096 ∧ z.1.b.length ≤ 1048576 ∧ e = .returned (.int .i64 0) ∧ NetStep F g (.slice (some ⟨b, o, none⟩) Z.length c) w w' nodes (Z.map Prod.fst ++ [z.1]) (wrap64 (s + 1)) d l) ∨
        (¬ (Z.length < 4096 ∧ z.1.b.length ≤ 1048576) ∧ e = .returned (.int .i64 4) ∧ NetStep F g (.slice (some ⟨b, o, none⟩) Z.length c) w w' nodes (Z.map Prod.fst) s d l)) →
        DoubleR F g (.slice (some ⟨b, o, none⟩) Z.length c) nodes (Z.map Prod.fst) s d l q w e w' := by
      intro e w' h
      refine .inr ⟨Y.map Prod.fst, z.1, X.map Prod.fst, by rw [HE.out]; simp, by simp [HY.out], ?_⟩
      simpa using h
    have FIN := Lib.hid fin; clear fin
    by_cases c5 : Z.length < 4096 ∧ z.1.b.length ≤ 1048576
    · have C5 := Lib.hid c5; clear c5
      go_enter Try.func11, Try.ntmps11
      go_wp2_with (first
        | (go_at_call 25; refine (net_place g nodes q _ Z.length c w k0 hn0 k1 0 (by rw [if_pos HI.out])).mono ?_; rintro e w' ⟨rfl, rfl⟩)
        | (go_at_call 24; refine (net_put _ g Z.length nodes s d l z.1.fr z.1.dt _ _ (pvCells Z) z.1.b _ H1.out H2.out (by rw [← HZV.out]; exact HZS.out) C5.out.1 C5.out.2).mono ?_; rintro e w' ⟨rfl, hd⟩))
      go_ret
      exact FIN.out _ _ (.inl ⟨C5.out.1, C5.out.2, rfl, put_step HZ.out hd⟩)
    · have C5 : Hid (4096 ≤ Z.length ∨ 1048576 < z.1.b.length) := by unfold Hid; omega
      have C6 := Lib.hid c5
      clear c5
      go_enter Try.func11, Try.ntmps11
      go_wp2_with (first
        | (go_at_call 25; refine (net_place g nodes q _ Z.length c w k0 hn0 k1 0 (by rw [if_pos HI.out])).mono ?_; rintro e w' ⟨rfl, rfl⟩)
        | (go_at_call 24; refine (net_put_no _ g Z.length c _ nodes s d l z.1.fr z.1.dt _ z.1.b _ H1.out (by rw [← HZV.out]; exact HZS.out) C5.out).mono ?_; rintro e w' ⟨rfl, hd⟩))
      go_ret
      exact FIN.out _ _ (.inr ⟨C6.out, rfl, NetStep.same HR.out hd⟩)
  · have HI := Lib.hid hi
    clear hZ h1 h2 hL hl hi
    go_enter Try.func11, Try.ntmps11
    go_wp2_with (go_at_call 25; refine (net_place g nodes i A Z.length c w k0 hn0 k1 2 (by rw [if_neg HI.out])).mono ?_; rintro e w' ⟨rfl, rfl⟩)
    go_ret
    exact .inl ⟨by unfold placeErr; rw [if_neg (by simpa using HI.out)], rfl, NetStep.same HR.out (Below.refl _ _)⟩

theorem net_Count (g : Nat) (nodes s d l : Int) (lv : Value) (w : World) (h : NetAt w g nodes lv s d l) (hn : 0 < nodes) :
    Calls Try.prog 13 #[.pointer (some ⟨g, 0, none⟩)] w fun e w' => e = .returned (.tuple #[.int .i64 s, .int .i64 d, .int .i64 l]) ∧ ∃ n, w' = w.drewN n := by
  obtain ⟨k0, k1, k2, k3, k4⟩ := h.cells
  have hn0 : (nodes == 0) = false := by simp; omega
  have H1 := Lib.hid h; clear h
  go_enter Try.func13, Try.ntmps13
  go_wp2_with (go_at_call 23; refine (net_none_some _ _ _ k0 hn0).mono ?_; rintro e w' ⟨rfl, rfl⟩)
  go_quiet ((go_at_call 28; exact Calls.quiet_of_same ((atomic_Load _ _ _ _ (by exact k2)).mono fun e w1 h => ⟨h.1, h.2.symm⟩)))
  go_wp2
  go_ret3
  exact ⟨rfl, _, rfl⟩
end Go.Proofs.Ytknhblhdkjgnbaa
