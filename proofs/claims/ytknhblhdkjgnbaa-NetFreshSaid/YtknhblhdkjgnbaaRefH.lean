/- The reference's Same, of two lists that are the same. Conditions: as typed. -/
import Derived.Test.YtknhblhdkjgnbaaRefG
namespace Go.Proofs.Ytknhblhdkjgnbaa.Ref
open Go.RowKit

theorem pv_at {Z : List PV} {k : Nat} (hk : k < Z.length) : ∃ Y z X, Z = Y ++ z :: X ∧ Y.length = k ∧ Z[k]? = some z ∧ pvCells Z = pvCells Y ++ .int .i64 z.1.fr :: .int .i64 z.1.dt :: z.2 :: pvCells X := by
  have e : Z = Z.take k ++ Z[k] :: Z.drop (k + 1) := by simp
  refine ⟨Z.take k, Z[k], Z.drop (k + 1), e, by simp; omega, by simp [hk], ?_⟩
  rw [← pvCells_cons, ← pvCells_app, ← e]

set_option maxRecDepth 100000 in
set_option maxHeartbeats 800000 in
theorem r21_Same (F G : Nat → Prop) (Z1 Z2 : List PV) (u v : Value) (w : World) (hu : Row w 34 3 u Z1.length (pvCells Z1)) (hpu : Pks F w Z1) (hv : Row w 34 3 v Z2.length (pvCells Z2)) (hpv : Pks G w Z2) (he : Z1.map Prod.fst = Z2.map Prod.fst) (hl : Z1.length ≤ 4096) :
    Calls Try.prog 22 #[u, v] w fun e w' => e = .returned (.bool true) ∧ Below w.heap.size w w' := by
  have hll : Z2.length = Z1.length := by have := congrArg List.length he; simpa using this.symm
  rw [hll] at hv
  obtain ⟨A1, c1, rfl, hnc1, hcm1, hA1⟩ := hu.slice
  obtain ⟨A2, c2, rfl, hnc2, hcm2, hA2⟩ := hv.slice
  have HU := Lib.hid hu; have HV := Lib.hid hv; have HPU := Lib.hid hpu; have HPV := Lib.hid hpv; have HE := Lib.hid he; have HLL := Lib.hid hll
  clear hu hv hpu hpv he hll hA1 hA2
  go_enter Try.func22, Try.ntmps22
  go_wp2_with fail
  go_loopw [5] (fun i wr => ∃ k : Nat, k ≤ Z1.length ∧ i = .int .i64 k ∧ Below w.heap.size w wr) (fun i _ => Z1.length - (intOf i).toNat)
  case atStart => exact ⟨0, Nat.zero_le _, rfl, Below.refl _ _⟩
  case round =>
    obtain ⟨k, hk, rfl, hbel⟩ := hrel
    by_cases hlt : k < Z1.length
    · obtain ⟨Y1, z1, X1, e1, e2, e3, e4⟩ := pv_at hlt
      obtain ⟨Y2, z2, X2, f1, f2, f3, f4⟩ := pv_at (Z := Z2) (k := k) (by rw [HLL.out]; exact hlt)
      have hz : z1.1 = z2.1 := by
        have := congrArg (fun l => l[k]?) HE.out
        simp only [List.getElem?_map, e3, f3, Option.map_some, Option.some.injEq] at this
        exact this
      have hu := HU.out
      rw [e4] at hu
      have hv := HV.out
      rw [f4] at hv
      obtain ⟨b1, o1, cur1, rfl, u0, u1, u2, _⟩ := Row.pk hu (i := k) (by rw [pvCells_len]; omega)
      obtain ⟨b2, o2, cur2, rfl, v0, v1, v2, _⟩ := Row.pk hv (i := k) (by rw [pvCells_len]; omega)
      have s1 := (HPU.out.1 z1 (by rw [e1]; simp)).1.sl.below hbel
      have s2 := (HPV.out.1 z2 (by rw [f1]; simp)).1.sl.below hbel
      obtain ⟨B1, m1, g1, _⟩ := id s1
      obtain ⟨B2, m2, g2, _⟩ := id s2
      rw [g1] at s1 u2
      rw [g2] at s2 v2
      have l1 := World.block_lt_of_cell? w _ u0
      have l2 := World.block_lt_of_cell? w _ v0
      have x0 := (hbel.cell (p := ⟨b1, o1 + k * 3, none⟩) l1).trans u0
      have x1 := (hbel.cell (p := ⟨b1, o1 + k * 3 + 1, none⟩) l1).trans u1
      have x2 := (hbel.cell (p := ⟨b1, o1 + k * 3 + 2, none⟩) l1).trans u2
      have y0 := (hbel.cell (p := ⟨b2, o2 + k * 3, none⟩) l2).trans v0
      have y1 := (hbel.cell (p := ⟨b2, o2 + k * 3 + 1, none⟩) l2).trans v1
      have y2 := (hbel.cell (p := ⟨b2, o2 + k * 3 + 2, none⟩) l2).trans v2
      have S1 := Lib.hid s1; have S2 := Lib.hid s2; have HZ := Lib.hid hz; have HBL := Lib.hid hbel
      clear s1 s2 hz hbel u0 u1 u2 v0 v1 v2 hu hv e1 e3 e4 f1 f3 f4 e2 f2 g1 g2
      go_wp2_with fail
      go_still_tail 8, (by kernel_rfl)
      go_wp2_with (first
        | (go_at_call 9; refine (r21_One _ _ z1.1 z2.1 _ _ _ (S1.out.below (by repeat (first | with_reducible exact Below.refl _ _ | with_reducible assumption | apply bA | apply bN | apply bD | (refine bS ?_ _ _ (by first | exact Nat.le_refl _ | (simp; done) | (simp; omega) | omega)) | refine bT ?_ ?_ (by with_reducible assumption) | exact Nat.le_refl _ | (simp; done) | (simp; omega) | omega))) (S2.out.below (by repeat (first | with_reducible exact Below.refl _ _ | with_reducible assumption | apply bA | apply bN | apply bD | (refine bS ?_ _ _ (by first | exact Nat.le_refl _ | (simp; done) | (simp; omega) | omega)) | refine bT ?_ ?_ (by with_reducible assumption) | exact Nat.le_refl _ | (simp; done) | (simp; omega) | omega)))).mono ?_; rintro e w2 ⟨rfl, hb2⟩; rw [HZ.out, oneB_refl]))
      go_roundw
      case rel => exact ⟨k + 1, by omega, by go_num, bT (bN HBL.out _) (by have := HBL.out.size; simpa using this) hb2⟩
      case measure => simp [intOf]; omega
    · obtain rfl : k = Z1.length := by omega
      go_wp2
      go_ret
      exact ⟨rfl, hbel⟩
end Go.Proofs.Ytknhblhdkjgnbaa.Ref
