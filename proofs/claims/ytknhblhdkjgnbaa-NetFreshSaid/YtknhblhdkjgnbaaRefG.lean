/- The reference's net: Move to a place that there is. Conditions: as typed. -/
import Derived.Test.YtknhblhdkjgnbaaRefF
namespace Go.Proofs.Ytknhblhdkjgnbaa.Ref
open Go.RowKit

set_option maxRecDepth 100000 in
set_option maxHeartbeats 4000000 in
theorem r21_Move_ok (F : Nat → Prop) (g q m : Nat) (nodes s d l : Int) (Z : List PV) (lv : Value) (w : World) (hZ : NetZ F w g nodes Z s d l lv) (hL : Z.length ≤ 4096) (hi : 0 ≤ (q : Int) ∧ (q : Int) < Z.length) (ht : 0 ≤ (m : Int) ∧ (m : Int) < Z.length) :
    Calls Try.prog 32 #[.pointer (some ⟨g, 0, none⟩), .int .i64 q, .int .i64 m] w fun e w' => e = .returned (.int .i64 0) ∧ NetStep F g lv w w' nodes (moved (Z.map Prod.fst) q m) s d l := by
  have h1 := hZ.1; have h2 := hZ.2.1
  obtain ⟨A, c, rfl, hnc, hcm, hA⟩ := h2.slice
  obtain ⟨k0, k1, k2, k3, k4⟩ := h1.cells
  have hq : q < Z.length := by omega
  have hm : m < Z.length := by omega
  obtain ⟨Y, z, X, hZe, hY, hrow, hpre, hbv, hone, hzs, hzF, hap⟩ := hZ.at_ hq
  obtain ⟨i0, hi0, hz0, hz1, hz2⟩ := info_parts Try.info_Packet
  obtain ⟨zA, zc, zm, hzv⟩ := hbv
  have hlen : Z.length ≤ 4096 := by omega
  have hlt := h1.lt
  have HOY : Hid (∀ v ∈ pvCells Y, v.oneCell' = true) := Pks.one (hZ.2.2.1.sub (by rw [hZe]; simp))
  have H1 := Lib.hid h1; have HZS := Lib.hid hzs; have HZV := Lib.hid hzv; have HZ := Lib.hid hZ; have HROW := Lib.hid hrow; have HPRE := Lib.hid hpre; have HONE := Lib.hid hone
  have HY := Lib.hid hY; have HE := Lib.hid hZe
  have HI := Lib.hid hi; have HT := Lib.hid ht
  clear hZ h1 h2 hY hZe hpre hone hrow hzs hzF hap hL hzv hi ht hA
  obtain ⟨P1, P2, hP, hP1, hP2, hO1, hO2, hQ1, hQ2⟩ : ∃ P1 P2, pvCells Y ++ pvCells X = P1 ++ P2 ∧ P1.length = m * 3 ∧ P2.length = (Z.length - 1 - m) * 3 ∧ (∀ v ∈ P1, v.oneCell' = true) ∧ (∀ v ∈ P2, v.oneCell' = true) ∧ P1 = pvCells ((Y ++ X).take m) ∧ P2 = pvCells ((Y ++ X).drop m) := by
    have hl : (Y ++ X).length = Z.length - 1 := by rw [HE.out]; simp
    have ho : ∀ v ∈ pvCells Y ++ pvCells X, v.oneCell' = true := fun v hv => (List.mem_append.1 hv).elim (HOY.out v) (HONE.out v)
    have hs : pvCells Y ++ pvCells X = pvCells ((Y ++ X).take m) ++ pvCells ((Y ++ X).drop m) := by rw [← pvCells_app, ← pvCells_app, List.take_append_drop]
    refine ⟨_, _, hs, by rw [pvCells_len, List.length_take, hl]; congr 1; omega, by rw [pvCells_len, List.length_drop, hl], fun v hv => ho v (by rw [hs]; exact List.mem_append_left _ hv), fun v hv => ho v (by rw [hs]; exact List.mem_append_right _ hv), rfl, rfl⟩
  have HP := Lib.hid hP; have HP1 := Lib.hid hP1; have HP2 := Lib.hid hP2; have HO1 := Lib.hid hO1; have HO2 := Lib.hid hO2; have HQ1 := Lib.hid hQ1; have HQ2 := Lib.hid hQ2
  clear hP hP1 hP2 hO1 hO2 hQ1 hQ2
  have hmn : m ≤ Z.length - 1 := by omega
  have hmx : (m : Int) ≤ (Z.length : Int) - 1 := by omega
  have hml : m + 1 + (Z.length - 1 - m) ≤ maxLen := by unfold maxLen; omega
  go_enter Try.func32, Try.ntmps32
  go_wp2_with (first
    | (go_at_call 34; refine (r21_has_yes g Z.length c A nodes s d l _ w H1.out (by first | exact HI.out | exact HT.out)).mono ?_; rintro e w2 ⟨rfl, hww⟩; obtain rfl : w = w2 := hww.symm)
    | (go_at_call 35; refine (r21_take g Z.length q nodes s d l z.1.fr z.1.dt _ z.2 (pvCells Y) (pvCells X) _ H1.out HROW.out HPRE.out ⟨_, _, _, HZV.out⟩ hlen HONE.out HOY.out).mono ?_; rintro e w1 ⟨rfl, hd⟩; rw [HZV.out]; obtain ⟨lv1, t1, t2, t3, t4⟩ := hd; obtain ⟨b1, o1, c1, cur1, hlv1, q1, q2, q3, q4, q5, q6⟩ := row_some t2 t4; subst hlv1; obtain ⟨j0, j1, j2, j3, j4⟩ := t1.cells; have f1 := t1.frozen 1; (have hgl : g < w1.heap.size := t1.lt); (have hbl : b1 < w1.heap.size := (Array.getElem?_eq_some_iff.1 q4).1); have T1 := Lib.hid t1; have T2 := Lib.hid t2; have T3 := Lib.hid t3; (have Q4 : Hid (∀ W, Below w1.heap.size w1 W → W.heap[b1]? = some (.cells cur1 34 (0, 0))) := fun W hW => (hW.block b1 hbl).trans q4); (have Q6 : Hid ((cur1.toList.drop o1).take ((Z.length - 1) * 3) = P1 ++ P2) := q6.trans HP.out); (have hmc : m ≤ c1 := by omega); (have hzs : Z.length - 1 - m ≤ c1 - m := by omega); (have kA2 : ∀ o1' o2', ((w1.alloc o1').alloc o2').cell? ⟨g, 1, none⟩ = some (.slice (some ⟨b1, o1, none⟩) (Z.length - 1) c1) := fun _ _ => cell_al (cell_al j1 _) _); (have fA2 : ∀ o1' o2', ((w1.alloc o1').alloc o2').frozen? ⟨g, 1, none⟩ = false := fun _ _ => fz_al (by simp; omega) (fz_al hgl f1 _) _); clear t1 t2 t3 t4 q4 q6)
    | (at_builtin; go_must (refine wpl_appendR rfl _ _ _ rfl 34 3 40 _ Try.underlying27 Try.info_Packet rfl (by omega) (.slice (some ⟨w1.heap.size + 1, 0, none⟩) 0 0) 0 [] rfl (row_lit2 (k := w1.heap.size + 1) rfl (by simp)) (some ⟨b1, o1, none⟩) m c1 P1 rfl (fun h => by cases h) hmc HP1.out (fun j hj => ⟨_, rfl, cells_head (Q4.out _ (by repeat (first | with_reducible exact Below.refl _ _ | with_reducible assumption | apply bA | apply bN | apply bD | (refine bS ?_ _ _ (by first | exact Nat.le_refl _ | (simp; done) | (simp; omega) | omega)) | refine bT ?_ ?_ (by with_reducible assumption) | exact Nat.le_refl _ | (simp; done) | (simp; omega) | omega))) Q6.out HP1.out j hj⟩) HO1.out (by unfold maxLen; omega) (by omega) ?_); intro A3 c3 w3 hown3 hgrow3 hat3 hat3'; simp only [Nat.zero_add, List.nil_append] at hown3 hat3; have HR3 := Lib.hid hown3; have HG3 := Lib.hid hgrow3; (have kg3 : w3.cell? ⟨g, 1, none⟩ = some (.slice (some ⟨b1, o1, none⟩) (Z.length - 1) c1) := (hgrow3.cell_far _ (by simp; omega) (by simp [Value.ownBlock]; omega)).trans (kA2 _ _)); (have kf3 : w3.frozen? ⟨g, 1, none⟩ = false := (hgrow3.frozen_far _ (by simp; omega) (by simp [Value.ownBlock]; omega)).trans (fA2 _ _)); (have HGE : Hid (∀ k, (Value.slice A3 m c3).ownBlock = some k → w1.heap.size + 1 ≤ k) := own_ge hat3 (by intro k hk; simp [Value.ownBlock] at hk; omega) (by simp)); (have HEX : Hid (∃ k, (Value.slice A3 m c3).ownBlock = some k ∧ w1.heap.size + 1 ≤ k) := own_ex hat3 ⟨_, rfl, Nat.le_refl _⟩ (by simp)); (have HNE3 : Hid (some g ≠ (Value.slice A3 m c3).ownBlock) := fun h => by have := HGE.out g h.symm; omega); (have hs3 : w1.heap.size + 2 ≤ w3.heap.size := (by have := hgrow3.size; simp at this; omega)); (have HC3 : Hid (∀ W, Below w3.heap.size w3 W → W.heap[b1]? = some (.cells cur1 34 (0, 0))) := fun W hW => (hW.block b1 (by omega)).trans ((hgrow3.block b1 (by simp; omega) (by simp [Value.ownBlock]; omega)).trans (Q4.out _ (by repeat (first | with_reducible exact Below.refl _ _ | with_reducible assumption | apply bA | apply bN | apply bD | (refine bS ?_ _ _ (by first | exact Nat.le_refl _ | (simp; done) | (simp; omega) | omega)) | refine bT ?_ ?_ (by with_reducible assumption) | exact Nat.le_refl _ | (simp; done) | (simp; omega) | omega))))); (obtain ⟨u0, u1, u2⟩ : w3.cell? ⟨w1.heap.size, 0, none⟩ = some (.int .i64 z.1.fr) ∧ w3.cell? ⟨w1.heap.size, 1, none⟩ = some (.int .i64 z.1.dt) ∧ w3.cell? ⟨w1.heap.size, 2, none⟩ = some (.slice zA zm zc) := (by refine ⟨?_, ?_, ?_⟩ <;> (rw [HG3.out.cell_far _ (by simp; omega) (by simp [Value.ownBlock])]; go_simp))); clear hown3 hgrow3 hat3 hat3' kA2 fA2))
  have kA3 : ∀ o1', (w3.alloc o1').cell? ⟨g, 1, none⟩ = some (.slice (some ⟨b1, o1, none⟩) (Z.length - 1) c1) := fun _ => cell_al kg3 _
  have fA3 : ∀ o1', (w3.alloc o1').frozen? ⟨g, 1, none⟩ = false := fun _ => fz_al (by simp; omega) kf3 _
  go_region_law (first
    | (refine st_appendR (by rfl) _ _ _ (by rfl) 34 3 40 _ Try.underlying27 Try.info_Packet rfl (by omega) (.slice A4 (m + 1) c4) (m + 1) (P1 ++ [.int .i64 z.1.fr, .int .i64 z.1.dt, .slice zA zm zc]) (by rfl) (HR4.out.bel (by repeat (first | with_reducible exact Below.refl _ _ | with_reducible assumption | apply bA | apply bN | apply bD | (refine bS ?_ _ _ (by first | exact Nat.le_refl _ | (simp; done) | (simp; omega) | omega)) | refine bT ?_ ?_ (by with_reducible assumption) | exact Nat.le_refl _ | (simp; done) | (simp; omega) | omega))) _ (Z.length - 1 - m) (c1 - m) P2 (by rfl) (fun h => by split at h <;> cases h) hzs HP2.out (fun j hj => ⟨⟨b1, o1 + m * 3, none⟩, if_neg (by have := HP2.out; omega), cells_tail (HC4.out _ (by repeat (first | with_reducible exact Below.refl _ _ | with_reducible assumption | apply bA | apply bN | apply bD | (refine bS ?_ _ _ (by first | exact Nat.le_refl _ | (simp; done) | (simp; omega) | omega)) | refine bT ?_ ?_ (by with_reducible assumption) | exact Nat.le_refl _ | (simp; done) | (simp; omega) | omega))) Q6.out HP1.out j _ (List.getElem?_eq_getElem hj)⟩) HO2.out hml (by omega) ?_; intro A5 c5 w5 hown5 hgrow5 hat5 hat5'; have HG5 := Lib.hid hgrow5; (have kg5 : w5.cell? ⟨g, 1, none⟩ = some (.slice (some ⟨b1, o1, none⟩) (Z.length - 1) c1) := (hgrow5.cell_far _ (by simp; omega) HNE4.out).trans kg4); (have kf5 : w5.frozen? ⟨g, 1, none⟩ = false := (hgrow5.frozen_far _ (by simp; omega) HNE4.out).trans kf4))
    | (refine st_appendR (by rfl) _ _ _ (by rfl) 34 3 40 _ Try.underlying27 Try.info_Packet rfl (by omega) (.slice A3 m c3) m P1 (by rfl) (HR3.out.bel (by repeat (first | with_reducible exact Below.refl _ _ | with_reducible assumption | apply bA | apply bN | apply bD | (refine bS ?_ _ _ (by first | exact Nat.le_refl _ | (simp; done) | (simp; omega) | omega)) | refine bT ?_ ?_ (by with_reducible assumption) | exact Nat.le_refl _ | (simp; done) | (simp; omega) | omega))) (some ⟨_, 0, none⟩) 1 1 [.int .i64 z.1.fr, .int .i64 z.1.dt, .slice zA zm zc] (by rfl) (fun h => by cases h) (by omega) (by rfl) (news_one _ _ _) (by simp [Value.oneCell']) (by unfold maxLen; omega) (by omega) ?_; intro A4 c4 w4 hown4 hgrow4 hat4 hat4'; have HR4 := Lib.hid hown4; have HG4 := Lib.hid hgrow4; (have kg4 : w4.cell? ⟨g, 1, none⟩ = some (.slice (some ⟨b1, o1, none⟩) (Z.length - 1) c1) := (hgrow4.cell_far _ (by simp; omega) HNE3.out).trans (kA3 _)); (have kf4 : w4.frozen? ⟨g, 1, none⟩ = false := (hgrow4.frozen_far _ (by simp; omega) HNE3.out).trans (fA3 _)); (have HGE4 : Hid (∀ k, (Value.slice A4 (m + 1) c4).ownBlock = some k → w1.heap.size + 1 ≤ k) := own_ge hat4 HGE.out (by simp; omega)); (have HEX4 : Hid (∃ k, (Value.slice A4 (m + 1) c4).ownBlock = some k ∧ w1.heap.size + 1 ≤ k) := own_ex hat4 HEX.out (by simp; omega)); (have HNE4 : Hid (some g ≠ (Value.slice A4 (m + 1) c4).ownBlock) := fun h => by have := HGE4.out g h.symm; omega); (have hs4 : w3.heap.size + 1 ≤ w4.heap.size := (by have := hgrow4.size; simp at this; omega)); (have HC4 : Hid (∀ W, Below w4.heap.size w4 W → W.heap[b1]? = some (.cells cur1 34 (0, 0))) := fun W hW => (hW.block b1 (by omega)).trans ((hgrow4.block b1 (by simp; omega) (fun h => by have := HGE.out b1 h.symm; omega)).trans (HC3.out _ (by repeat (first | with_reducible exact Below.refl _ _ | with_reducible assumption | apply bA | apply bN | apply bD | (refine bS ?_ _ _ (by first | exact Nat.le_refl _ | (simp; done) | (simp; omega) | omega)) | refine bT ?_ ?_ (by with_reducible assumption) | exact Nat.le_refl _ | (simp; done) | (simp; omega) | omega)))))))
  all_goals
    have hB3 : Below w1.heap.size w1 w3 := Below.grown (by repeat (first | with_reducible exact Below.refl _ _ | with_reducible assumption | apply bA | apply bN | apply bD | (refine bS ?_ _ _ (by first | exact Nat.le_refl _ | (simp; done) | (simp; omega) | omega)) | refine bT ?_ ?_ (by with_reducible assumption) | exact Nat.le_refl _ | (simp; done) | (simp; omega) | omega)) HG3.out (by first | omega | (simp; omega)) (fun k hk => by simp [Value.ownBlock] at hk; omega)
    have hB4 : Below w1.heap.size w1 w4 := Below.grown (by repeat (first | with_reducible exact Below.refl _ _ | with_reducible assumption | apply bA | apply bN | apply bD | (refine bS ?_ _ _ (by first | exact Nat.le_refl _ | (simp; done) | (simp; omega) | omega)) | refine bT ?_ ?_ (by with_reducible assumption) | exact Nat.le_refl _ | (simp; done) | (simp; omega) | omega)) HG4.out (by first | omega | (simp; omega)) (fun k hk => by have := HGE.out k hk; omega)
    have hB5 : Below w1.heap.size w1 w5 := Below.grown (by repeat (first | with_reducible exact Below.refl _ _ | with_reducible assumption | apply bA | apply bN | apply bD | (refine bS ?_ _ _ (by first | exact Nat.le_refl _ | (simp; done) | (simp; omega) | omega)) | refine bT ?_ ?_ (by with_reducible assumption) | exact Nat.le_refl _ | (simp; done) | (simp; omega) | omega)) HG5.out (by first | omega | (simp; omega)) (fun k hk => by have := HGE4.out k hk; omega)
    obtain ⟨k5, hk5, hk6⟩ : ∃ k, (Value.slice A5 (m + 1 + (Z.length - 1 - m)) c5).ownBlock = some k ∧ w1.heap.size + 1 ≤ k := own_ex hat5 HEX4.out (by omega)
    have hset : Fr (fun k => k = g) w5 (w5.setCell ⟨g, 1, none⟩ (.slice A5 (m + 1 + (Z.length - 1 - m)) c5)) := Fr.set (M := fun k => k = g) (Fr.refl _ _) ⟨g, 1, none⟩ _ (fun _ => rfl)
    have HB5 := Lib.hid hB5; have HO5 := Lib.hid hown5; have HST := Lib.hid hset; have HK5 := Lib.hid hk5
    clear hB3 hB4 hB5 hown5 hgrow5 hat5 hat5' hset hk5 hown4 hgrow4 hat4 hat4' kA3 fA3
    go_wp2
    all_goals
      go_ret
      refine ⟨rfl, move_new HZ.out HE.out HY.out ((T1.out.bel HB5.out).set1 _) (n' := m + 1 + (Z.length - 1 - m)) ?_ (by omega) ((T3.out.trans (Fr.bel (fun k => k = g) HB5.out) (fun k _ h => h)).trans HST.out (fun k _ h => h)) ⟨k5, HK5.out, by have := T3.out.size; omega⟩⟩
      rw [HZV.out, ← HQ1.out, ← HQ2.out]
      exact HO5.out.fr HST.out (fun k hk e => by rw [HK5.out] at hk; cases hk; omega)

theorem r21_Move (F : Nat → Prop) (g : Nat) (nodes s d l i t : Int) (L : List Pk) (lv : Value) (w : World) (h : NetRep F w g nodes L s d l lv) (hL : L.length ≤ 4096) :
    Calls Try.prog 32 #[.pointer (some ⟨g, 0, none⟩), .int .i64 i, .int .i64 t] w (MoveR F g lv nodes L s d l i t w) := by
  have HR := Lib.hid h
  obtain ⟨Z, rfl, hZ⟩ := h
  have hl : (Z.map Prod.fst).length = Z.length := by simp
  by_cases hb : 0 ≤ i ∧ i < Z.length ∧ 0 ≤ t ∧ t < Z.length
  · obtain ⟨q, rfl⟩ : ∃ q : Nat, i = q := ⟨i.toNat, by omega⟩
    obtain ⟨m, rfl⟩ : ∃ m : Nat, t = m := ⟨t.toNat, by omega⟩
    refine (r21_Move_ok F g q m nodes s d l Z lv w hZ (by omega) (by omega) (by omega)).mono ?_
    rintro e w' ⟨rfl, hs⟩
    exact .inr ⟨by rw [hl]; exact hb, rfl, hs⟩
  · refine (r21_Move_bad F g nodes s d l i t Z lv w hZ hb).mono ?_
    rintro e w' ⟨rfl, rfl⟩
    exact .inl ⟨by rw [hl]; exact hb, rfl, NetStep.same HR.out (Below.refl _ _)⟩
end Go.Proofs.Ytknhblhdkjgnbaa.Ref
