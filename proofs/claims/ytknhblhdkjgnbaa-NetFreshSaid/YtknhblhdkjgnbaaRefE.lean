/- The reference's net: Double. Conditions: each packet is from and to one of its nodes, with no more bytes than Send takes. -/
import Derived.Test.YtknhblhdkjgnbaaRefD
import Derived.StillTailTactics
namespace Go.Proofs.Ytknhblhdkjgnbaa.Ref
open Go.RowKit

theorem NetStep.after {F : Nat → Prop} {g : Nat} {lv : Value} {w0 w w' : World} {nodes : Int} {M : List Pk} {s d l : Int} (h : NetStep F g lv w w' nodes M s d l) (hb : Below w0.heap.size w0 w) : NetStep F g lv w0 w' nodes M s d l := by
  obtain ⟨F', lv', h1, h2, h3, h4⟩ := h
  have hs := hb.size
  refine ⟨F', lv', fun b hb => (h1 b hb).imp id (fun h => by omega), h2, h3.imp id (fun ⟨k, h, hk⟩ => ⟨k, h, by omega⟩), (Fr.bel _ hb).trans h4 (fun _ _ h => h)⟩
theorem SendR.after {F : Nat → Prop} {g : Nat} {lv : Value} {nodes : Int} {L : List Pk} {s d l f t : Int} {bs : List Int} {w0 w w' : World} {e : Ending} (h : SendR F g lv nodes L s d l f t bs w e w') (hb : Below w0.heap.size w0 w) : SendR F g lv nodes L s d l f t bs w0 e w' :=
  ⟨h.1, h.2.after hb⟩

/-- Double. -/
def DoubleR (F : Nat → Prop) (g : Nat) (lv : Value) (nodes : Int) (L : List Pk) (s d l i : Int) (w : World) (e : Ending) (w' : World) : Prop :=
  (placeErr L.length i = 2 ∧ e = .returned (.int .i64 2) ∧ NetStep F g lv w w' nodes L s d l) ∨
  ∃ L1 p L2, L = L1 ++ p :: L2 ∧ (L1.length : Int) = i ∧ ((L.length < 4096 ∧ p.b.length ≤ 1048576 ∧ e = .returned (.int .i64 0) ∧ NetStep F g lv w w' nodes (L ++ [p]) (wrap64 (s + 1)) d l) ∨
    (¬ (L.length < 4096 ∧ p.b.length ≤ 1048576) ∧ e = .returned (.int .i64 4) ∧ NetStep F g lv w w' nodes L s d l))
/-- A packet from one node of so many to another. -/
def Good (nodes : Int) (p : Pk) : Prop := 0 ≤ p.fr ∧ p.fr < nodes ∧ 0 ≤ p.dt ∧ p.dt < nodes ∧ p.b.length ≤ 1048576

set_option maxRecDepth 100000 in
set_option maxHeartbeats 400000 in
theorem r21_Double (F : Nat → Prop) (g : Nat) (nodes s d l i : Int) (L : List Pk) (lv : Value) (w : World) (h : NetRep F w g nodes L s d l lv) (hL : L.length ≤ 4096) (hg : ∀ p ∈ L, Good nodes p) :
    Calls Try.prog 31 #[.pointer (some ⟨g, 0, none⟩), .int .i64 i] w (DoubleR F g lv nodes L s d l i w) := by
  have HR := Lib.hid h
  obtain ⟨Z, rfl, hZ⟩ := h
  have h1 := hZ.1; have h2 := hZ.2.1
  obtain ⟨A, c, rfl, hnc, hcm, hA⟩ := h2.slice
  obtain ⟨k0, k1, k2, k3, k4⟩ := h1.cells
  have hl : (Z.map Prod.fst).length = Z.length := by simp
  by_cases hi : 0 ≤ i ∧ i < Z.length
  · obtain ⟨q, rfl⟩ : ∃ q : Nat, i = q := ⟨i.toNat, by omega⟩
    have hq : q < Z.length := by omega
    obtain ⟨Y, z, X, hZe, hY, hrow, hpre, hbv, hone, hzs, hzF, hap⟩ := hZ.at_ hq
    obtain ⟨b, o, cur, rfl, c0, c1, c2, _⟩ := hrow.pk hpre
    obtain ⟨zA, zc, zm, hzv⟩ := hbv
    rw [hzv] at c2
    have hlen : Z.length ≤ 4096 := by omega
    have hgz : Good nodes z.1 := hg z.1 (by rw [hZe]; simp)
    have H1 := Lib.hid h1; have HZS := Lib.hid hzs; have HZV := Lib.hid hzv; have HGZ := Lib.hid hgz
    have HY := Lib.hid hY; have HE := Lib.hid hZe
    clear hZ h1 h2 hY hZe hpre hone hrow hzs hzF hap hL hl hzv hlen hg hgz
    have HI := Lib.hid hi
    clear hi
    have fin : ∀ e w', SendR F g (.slice (some ⟨b, o, none⟩) Z.length c) nodes (Z.map Prod.fst) s d l z.1.fr z.1.dt z.1.b w e w' → DoubleR F g (.slice (some ⟨b, o, none⟩) Z.length c) nodes (Z.map Prod.fst) s d l q w e w' := by
      intro e w' h
      refine .inr ⟨Y.map Prod.fst, z.1, X.map Prod.fst, by rw [HE.out]; simp, by simp [HY.out], ?_⟩
      obtain ⟨g1, g2, g3, g4, g5⟩ := HGZ.out
      by_cases h0 : (Z.map Prod.fst).length < 4096 ∧ z.1.b.length ≤ 1048576
      · obtain ⟨he, hs⟩ := SendR.ok h (by unfold sendErr; rw [if_pos (by omega), if_pos h0])
        exact .inl ⟨h0.1, h0.2, he, hs⟩
      · have h4 : sendErr nodes z.1.fr z.1.dt (Z.map Prod.fst).length z.1.b.length = 4 := by unfold sendErr; rw [if_pos (by omega), if_neg h0]
        obtain ⟨he, hs⟩ := SendR.bad h (by omega)
        rw [h4] at he
        exact .inr ⟨h0, he, hs⟩
    have FIN := Lib.hid fin; clear fin
    go_enter Try.func31, Try.ntmps31
    go_wp2_with (first
      | (go_at_call 34; refine (r21_has_yes g Z.length c _ nodes s d l q w H1.out HI.out).mono ?_; rintro e w' ⟨rfl, rfl⟩))
    go_still_tail 25, (by kernel_rfl)
    go_wp2_with (first
      | (go_at_call 18; refine (r21_Send F _ g nodes s d l z.1.fr z.1.dt _ _ _ z.1.b _ (HR.out.bel (by repeat (first | with_reducible exact Below.refl _ _ | with_reducible assumption | apply bA | apply bN | apply bD | (refine bS ?_ _ _ (by first | exact Nat.le_refl _ | (simp; done) | (simp; omega) | omega)) | refine bT ?_ ?_ (by with_reducible assumption) | exact Nat.le_refl _ | (simp; done) | (simp; omega) | omega))) (by rw [← HZV.out]; exact HZS.out.below (by repeat (first | with_reducible exact Below.refl _ _ | with_reducible assumption | apply bA | apply bN | apply bD | (refine bS ?_ _ _ (by first | exact Nat.le_refl _ | (simp; done) | (simp; omega) | omega)) | refine bT ?_ ?_ (by with_reducible assumption) | exact Nat.le_refl _ | (simp; done) | (simp; omega) | omega))) (by have := HGZ.out.2.2.2.2; omega)).mono ?_; rintro e w1 hd; obtain ⟨r, rfl⟩ : ∃ r, e = .returned (.int .i64 r) := ⟨_, hd.1⟩))
    go_ret
    exact FIN.out _ _ (hd.after (by repeat (first | with_reducible exact Below.refl _ _ | with_reducible assumption | apply bA | apply bN | apply bD | (refine bS ?_ _ _ (by first | exact Nat.le_refl _ | (simp; done) | (simp; omega) | omega)) | refine bT ?_ ?_ (by with_reducible assumption) | exact Nat.le_refl _ | (simp; done) | (simp; omega) | omega)))
  · have HI := Lib.hid hi
    have H1 := Lib.hid h1
    clear hZ h1 h2 hL hl hi
    go_enter Try.func31, Try.ntmps31
    go_wp2_with (go_at_call 34; refine (r21_has_no g Z.length c A nodes s d l i w H1.out HI.out).mono ?_; rintro e w' ⟨rfl, rfl⟩)
    go_ret
    exact .inl ⟨by unfold placeErr; rw [if_neg (by simpa using HI.out)], rfl, NetStep.same HR.out (Below.refl _ _)⟩
end Go.Proofs.Ytknhblhdkjgnbaa.Ref
