import Derived.Test.YtknhblhdkjgnbaaNetH
namespace Go.Proofs.Ytknhblhdkjgnbaa
open Go.RowKit

/-- A stretch of a row. -/
theorem cells_mid {w : World} {b o e k m : Nat} {cur : Array Value} {pre mid post : List Value} (hh : w.heap[b]? = some (.cells cur e (0, 0))) (hs : (cur.toList.drop o).take m = pre ++ (mid ++ post)) (hp : pre.length = k) :
    ∀ j v, mid[j]? = some v → w.cell? ((⟨b, o + k, none⟩ : Addr).add j) = some v := by
  intro j v hj
  refine cells_tail hh hs hp j v ?_
  rw [List.getElem?_append_left (List.getElem?_eq_some_iff.1 hj).1]
  exact hj

theorem move_close {w W w2 W' : World} {g b k : Nat} {nodes s d l : Int} {lv u0 u1 u2 : Value} {cur : List Value} (hN : NetAt w2 g nodes lv s d l) (hgb : ¬ b = g) (hb : Below w.heap.size w W) (hg : W.grownBy w2 (some b)) (hB : w2.heap[b]? = some (.cells cur.toArray 34 (0, 0)))
    (hW : W'.heap = (((w2.setCell ⟨b, k, none⟩ u0).setCell ⟨b, k + 1, none⟩ u1).setCell ⟨b, k + 2, none⟩ u2).heap) (hos : W'.os = w2.os) (hta : W'.tape = w2.tape) (hou : W'.output = w2.output) :
    NetAt W' g nodes lv s d l ∧ W'.heap[b]? = some (.cells (((cur.set k u0).set (k + 1) u1).set (k + 2) u2).toArray 34 (0, 0)) ∧ Fr (fun k => k = b) w W' := by
  have h1 : Fr (fun k => k = b) w2 (((w2.setCell ⟨b, k, none⟩ u0).setCell ⟨b, k + 1, none⟩ u1).setCell ⟨b, k + 2, none⟩ u2) :=
    Fr.set (M := fun k => k = b) (Fr.set (M := fun k => k = b) (Fr.set (M := fun k => k = b) (Fr.refl _ _) ⟨b, _, none⟩ u0 (fun _ => rfl)) ⟨b, _, none⟩ u1 (fun _ => rfl)) ⟨b, _, none⟩ u2 (fun _ => rfl)
  have hF : Fr (fun k => k = b) w2 W' := ⟨hos, hta, hou, by rw [hW]; exact h1.size, fun j hj hm => by rw [hW]; exact h1.keep j hj hm⟩
  refine ⟨hN.fr hF (fun e => hgb e.symm), ?_, (Fr.bel _ hb).trans (Fr.of_grown hg) (fun j _ h => by simpa using h) |>.trans hF (fun _ _ h => h)⟩
  rw [hW]
  simp [World.setCell, Array.getElem?_modify, hB]

set_option maxRecDepth 100000 in
set_option maxHeartbeats 800000 in
theorem net_Move_up (g i t b o c : Nat) (nodes s d l : Int) (Y M X : List PV) (z : PV) (cur : Array Value) (w : World) (hn : NetAt w g nodes (.slice (some ⟨b, o, none⟩) (Y ++ z :: (M ++ X)).length c) s d l) (h0 : 0 < nodes)
    (hi : Y.length = i) (ht : Y.length + M.length = t) (hit : i < t) (htn : t < (Y ++ z :: (M ++ X)).length) (hn4 : (Y ++ z :: (M ++ X)).length ≤ 4096) (hnc : (Y ++ z :: (M ++ X)).length ≤ c) (hcm : c ≤ maxLen) (hcur : w.heap[b]? = some (.cells cur 34 (0, 0))) (hcs : o + c * 3 ≤ cur.size)
    (hT : (cur.toList.drop o).take ((Y ++ z :: (M ++ X)).length * 3) = pvCells Y ++ (.int .i64 z.1.fr :: .int .i64 z.1.dt :: z.2 :: (pvCells M ++ pvCells X))) (hz : ∃ A c m, z.2 = .slice A m c) (hone : ∀ v ∈ pvCells M, v.oneCell' = true) (hgb : ¬ b = g) :
    Calls Try.prog 12 #[.pointer (some ⟨g, 0, none⟩), .int .i64 i, .int .i64 t] w fun e w' => e = .returned (.int .i64 0) ∧ NetAt w' g nodes (.slice (some ⟨b, o, none⟩) (Y ++ z :: (M ++ X)).length c) s d l ∧
      w'.heap[b]? = some (.cells ((((splice cur.toList (o + i * 3) (pvCells M)).set (o + t * 3) (.int .i64 z.1.fr)).set (o + t * 3 + 1) (.int .i64 z.1.dt)).set (o + t * 3 + 2) z.2).toArray 34 (0, 0)) ∧ Fr (fun k => k = b) w w' := by
  obtain ⟨zA, zc, zm, hzv⟩ := hz
  generalize hN : (Y ++ z :: (M ++ X)).length = n at *
  have hlM := pvCells_len M
  have hlY := pvCells_len Y
  obtain ⟨k0, k1, k2, k3, k4⟩ := hn.cells
  have hn0 : (nodes == 0) = false := by simp; omega
  have hrow : Row w 34 3 (.slice (some ⟨b, o, none⟩) n c) n (pvCells Y ++ (.int .i64 z.1.fr :: .int .i64 z.1.dt :: z.2 :: (pvCells M ++ pvCells X))) :=
    ⟨by rw [← hT]; simp; omega, .inr ⟨b, o, c, cur, rfl, hnc, hcm, hcur, hcs, hT⟩⟩
  obtain ⟨b', o', cur', e1, c0, c1, c2, _⟩ := hrow.pk (i := i) (by rw [hlY, hi])
  cases e1
  rw [hzv] at c2
  have hlb := (Array.getElem?_eq_some_iff.1 hcur).1
  have hlt := hn.lt
  have HW : Hid (∀ o1, (w.alloc o1).drew.heap[b]? = some (.cells cur 34 (0, 0))) := fun o1 => (Below.heap_alloc w o1 b hlb).trans hcur
  have HN := Lib.hid hn; have HT := Lib.hid hT; have HONE := Lib.hid hone; have HV := Lib.hid hzv; have HLM := Lib.hid hlM; have HC := Lib.hid hcur
  have HP2 : Hid (∃ post, (cur.toList.drop o).take (n * 3) = (pvCells Y ++ [.int .i64 z.1.fr, .int .i64 z.1.dt, z.2]) ++ (pvCells M ++ post) ∧ (pvCells Y ++ [.int .i64 z.1.fr, .int .i64 z.1.dt, z.2]).length = (i + 1) * 3) :=
    ⟨pvCells X, by rw [hT]; simp, by simp; omega⟩
  have hfit : o + i * 3 + (pvCells M).length ≤ cur.size := by omega
  have HF := Lib.hid hfit
  have hML : M.length = t - i := by omega
  have HML := Lib.hid hML
  have hi0 : (0 : Int) ≤ i := by omega
  have q1 : (i : Int) < n := by omega
  have q2 : (t : Int) < n := by omega
  have q3 : i ≤ t := by omega
  have q4 : t ≤ c := by omega
  have q5 : ¬ t = i := by omega
  have v1 : IntKind.i64.wrap ((i : Int) + 1) = (i : Int) + 1 := by rw [IntKind.wrap_i64]; omega
  have v2 : IntKind.i64.wrap ((t : Int) + 1) = (t : Int) + 1 := by rw [IntKind.wrap_i64]; omega
  have v3 : (0 : Int) ≤ (i : Int) + 1 := by omega
  have v4 : (i : Int) + 1 ≤ (t : Int) + 1 := by omega
  have v5 : (t : Int) + 1 ≤ (c : Int) := by omega
  have v6 : ((i : Int) + 1).toNat = i + 1 := by omega
  have v7 : ((t : Int) + 1).toNat = t + 1 := by omega
  have q6 : ¬ c = i + 1 := by omega
  have HS : Hid (∀ o1 j v, (pvCells M)[j]? = some v → (w.alloc o1).drew.cell? ((⟨b, o + (i + 1) * 3, none⟩ : Addr).add j) = some v) := by
    intro o1
    obtain ⟨post, e1, e2⟩ := HP2.out
    exact cells_mid (HW.out o1) e1 e2
  clear hrow hn hT hone hzv hcur hfit hML hlM hlY hN hi ht
  go_enter Try.func12, Try.ntmps12
  go_wp2_with (go_at_call 25; refine (net_place g nodes _ _ n c w k0 hn0 k1 0 (by rw [if_pos (by omega)])).mono ?_; rintro e w' ⟨rfl, rfl⟩)
  have hmin : Hid (Nat.min (t - i) (t - i) = t - i) := Nat.min_self _
  have hnn : Hid ((pvCells M).length = (t - i) * 3) := by have := HLM.out; have := HML.out; unfold Hid; omega
  go_region_law (go_must (refine st_copyS (by rfl) _ _ _ _ (by rfl) 34 3 Try.underlying27 Try.size_Packet _ _ _ _ _ _ (by rfl) (by rfl) b (o + i * 3) cur 34 (HW.out _) (pvCells M) (t - i) hmin.out hnn.out (fun _ => ⟨rfl, ⟨b, o + (i + 1) * 3, none⟩, rfl, HS.out _⟩) HF.out HONE.out ?_); intro w2 hw2b hgr)
  all_goals
    have HN2 := Lib.hid ((HN.out.bel (w1 := (w.alloc _).drew) (by repeat (first | with_reducible exact Below.refl _ _ | with_reducible assumption | apply bA | apply bN | apply bD | (refine bS ?_ _ _ (by first | exact Nat.le_refl _ | (simp; done) | (simp; omega) | omega)) | refine bT ?_ ?_ (by with_reducible assumption) | exact Nat.le_refl _ | (simp; done) | (simp; omega) | omega))).gr hgr (fun e => hgb (by simpa using e)))
    have HG := Lib.hid hgr
    obtain ⟨j0, j1, j2, j3, j4⟩ := HN2.out.cells
    have hsz2 : w.heap.size + 1 ≤ w2.heap.size := by have := hgr.size; simpa using this
    obtain ⟨x0, x1, x2, y0, y1, y2, z0, z1, z2⟩ : ∃ x0 x1 x2, w2.cell? ⟨b, o + t * 3, none⟩ = some x0 ∧ w2.cell? ⟨b, o + t * 3 + 1, none⟩ = some x1 ∧ w2.cell? ⟨b, o + t * 3 + 2, none⟩ = some x2 ∧
        w2.frozen? ⟨b, o + t * 3, none⟩ = false ∧ w2.frozen? ⟨b, o + t * 3 + 1, none⟩ = false ∧ w2.frozen? ⟨b, o + t * 3 + 2, none⟩ = false := three_cells hw2b.out (by rw [List.size_toArray, length_splice _ _ _ (by simpa using HF.out)]; simp; omega)
    obtain ⟨p0, p1, p2⟩ : w2.cell? ⟨w.heap.size, 0, none⟩ = some (.int .i64 z.1.fr) ∧ w2.cell? ⟨w.heap.size, 1, none⟩ = some (.int .i64 z.1.dt) ∧ w2.cell? ⟨w.heap.size, 2, none⟩ = some (.slice zA zm zc) := by
      refine ⟨?_, ?_, ?_⟩ <;> (refine hgr.cell ?_ (by simp; omega); go_simp)
    have HB := Lib.hid hw2b
    clear hgr hw2b
    go_wp2
  all_goals
    go_region
  all_goals
    go_wp2
    go_ret
    rw [HV.out]
    exact ⟨rfl, move_close HN2.out hgb (by exact bN (bA (Below.refl _ _) _) 1) HG.out HB.out rfl rfl rfl rfl⟩
set_option maxRecDepth 100000 in
set_option maxHeartbeats 800000 in
theorem net_Move_down (g i t b o c : Nat) (nodes s d l : Int) (Y M X : List PV) (z : PV) (cur : Array Value) (w : World) (hn : NetAt w g nodes (.slice (some ⟨b, o, none⟩) (Y ++ (M ++ z :: X)).length c) s d l) (h0 : 0 < nodes)
    (ht : Y.length = t) (hi : Y.length + M.length = i) (hit : t < i) (htn : i < (Y ++ (M ++ z :: X)).length) (hn4 : (Y ++ (M ++ z :: X)).length ≤ 4096) (hnc : (Y ++ (M ++ z :: X)).length ≤ c) (hcm : c ≤ maxLen) (hcur : w.heap[b]? = some (.cells cur 34 (0, 0))) (hcs : o + c * 3 ≤ cur.size)
    (hT : (cur.toList.drop o).take ((Y ++ (M ++ z :: X)).length * 3) = pvCells Y ++ (pvCells M ++ (.int .i64 z.1.fr :: .int .i64 z.1.dt :: z.2 :: pvCells X))) (hz : ∃ A c m, z.2 = .slice A m c) (hone : ∀ v ∈ pvCells M, v.oneCell' = true) (hgb : ¬ b = g) :
    Calls Try.prog 12 #[.pointer (some ⟨g, 0, none⟩), .int .i64 i, .int .i64 t] w fun e w' => e = .returned (.int .i64 0) ∧ NetAt w' g nodes (.slice (some ⟨b, o, none⟩) (Y ++ (M ++ z :: X)).length c) s d l ∧
      w'.heap[b]? = some (.cells ((((splice cur.toList (o + (t + 1) * 3) (pvCells M)).set (o + t * 3) (.int .i64 z.1.fr)).set (o + t * 3 + 1) (.int .i64 z.1.dt)).set (o + t * 3 + 2) z.2).toArray 34 (0, 0)) ∧ Fr (fun k => k = b) w w' := by
  obtain ⟨zA, zc, zm, hzv⟩ := hz
  generalize hN : (Y ++ (M ++ z :: X)).length = n at *
  have hlM := pvCells_len M
  have hlY := pvCells_len Y
  obtain ⟨k0, k1, k2, k3, k4⟩ := hn.cells
  have hn0 : (nodes == 0) = false := by simp; omega
  have hrow : Row w 34 3 (.slice (some ⟨b, o, none⟩) n c) n ((pvCells Y ++ pvCells M) ++ (.int .i64 z.1.fr :: .int .i64 z.1.dt :: z.2 :: pvCells X)) :=
    ⟨by rw [List.append_assoc, ← hT]; simp; omega, .inr ⟨b, o, c, cur, rfl, hnc, hcm, hcur, hcs, by rw [hT, List.append_assoc]⟩⟩
  obtain ⟨b', o', cur', e1, c0, c1, c2, _⟩ := hrow.pk (i := i) (by rw [List.length_append, hlY, hlM, ← hi]; omega)
  cases e1
  rw [hzv] at c2
  have hlb := (Array.getElem?_eq_some_iff.1 hcur).1
  have hlt := hn.lt
  have HW : Hid (∀ o1, (w.alloc o1).drew.heap[b]? = some (.cells cur 34 (0, 0))) := fun o1 => (Below.heap_alloc w o1 b hlb).trans hcur
  have HN := Lib.hid hn; have HT := Lib.hid hT; have HONE := Lib.hid hone; have HV := Lib.hid hzv; have HLM := Lib.hid hlM; have HC := Lib.hid hcur
  have HP2 : Hid (∃ post, (cur.toList.drop o).take (n * 3) = pvCells Y ++ (pvCells M ++ post) ∧ (pvCells Y).length = t * 3) := ⟨_, hT, by omega⟩
  have hfit : o + (t + 1) * 3 + (pvCells M).length ≤ cur.size := by omega
  have HF := Lib.hid hfit
  have hML : M.length = i - t := by omega
  have HML := Lib.hid hML
  have hi0 : (0 : Int) ≤ i := by omega
  have q1 : (i : Int) < n := by omega
  have q2 : (t : Int) < n := by omega
  have q3 : t ≤ i := by omega
  have q4 : t ≤ n := by omega
  have q5 : ¬ c = t + 1 := by omega
  have q6 : ¬ c = t := by omega
  have q7 : (t : Int) ≤ (i : Int) := by omega
  have q8 : (i : Int) ≤ (c : Int) := by omega
  have q9 : ¬ (i : Int) < (t : Int) := by omega
  have v1 : IntKind.i64.wrap ((i : Int) + 1) = (i : Int) + 1 := by rw [IntKind.wrap_i64]; omega
  have v2 : IntKind.i64.wrap ((t : Int) + 1) = (t : Int) + 1 := by rw [IntKind.wrap_i64]; omega
  have v3 : (0 : Int) ≤ (t : Int) + 1 := by omega
  have v4 : (t : Int) + 1 ≤ (i : Int) + 1 := by omega
  have v5 : (i : Int) + 1 ≤ (c : Int) := by omega
  have v6 : ((i : Int) + 1).toNat = i + 1 := by omega
  have v7 : ((t : Int) + 1).toNat = t + 1 := by omega
  have HS : Hid (∀ o1 j v, (pvCells M)[j]? = some v → (w.alloc o1).drew.cell? ((⟨b, o + t * 3, none⟩ : Addr).add j) = some v) := by
    intro o1
    obtain ⟨post, e1, e2⟩ := HP2.out
    exact cells_mid (HW.out o1) e1 e2
  clear hrow hn hT hone hzv hcur hfit hML hlM hlY hN hi ht
  go_enter Try.func12, Try.ntmps12
  go_wp2_with (go_at_call 25; refine (net_place g nodes _ _ n c w k0 hn0 k1 0 (by rw [if_pos (by omega)])).mono ?_; rintro e w' ⟨rfl, rfl⟩)
  have hmin : Hid (Nat.min (i - t) (i - t) = i - t) := Nat.min_self _
  have hnn : Hid ((pvCells M).length = (i - t) * 3) := by have := HLM.out; have := HML.out; unfold Hid; omega
  go_region_law (go_must (refine st_copyS (by rfl) _ _ _ _ (by rfl) 34 3 Try.underlying27 Try.size_Packet _ _ _ _ _ _ (by rfl) (by rfl) b (o + (t + 1) * 3) cur 34 (HW.out _) (pvCells M) (i - t) hmin.out hnn.out (fun _ => ⟨rfl, ⟨b, o + t * 3, none⟩, rfl, HS.out _⟩) HF.out HONE.out ?_); intro w2 hw2b hgr)
  all_goals
    have HN2 := Lib.hid ((HN.out.bel (w1 := (w.alloc _).drew) (by repeat (first | with_reducible exact Below.refl _ _ | with_reducible assumption | apply bA | apply bN | apply bD | (refine bS ?_ _ _ (by first | exact Nat.le_refl _ | (simp; done) | (simp; omega) | omega)) | refine bT ?_ ?_ (by with_reducible assumption) | exact Nat.le_refl _ | (simp; done) | (simp; omega) | omega))).gr hgr (fun e => hgb (by simpa using e)))
    have HG := Lib.hid hgr
    obtain ⟨j0, j1, j2, j3, j4⟩ := HN2.out.cells
    have hsz2 : w.heap.size + 1 ≤ w2.heap.size := by have := hgr.size; simpa using this
    obtain ⟨x0, x1, x2, y0, y1, y2, z0, z1, z2⟩ : ∃ x0 x1 x2, w2.cell? ⟨b, o + t * 3, none⟩ = some x0 ∧ w2.cell? ⟨b, o + t * 3 + 1, none⟩ = some x1 ∧ w2.cell? ⟨b, o + t * 3 + 2, none⟩ = some x2 ∧
        w2.frozen? ⟨b, o + t * 3, none⟩ = false ∧ w2.frozen? ⟨b, o + t * 3 + 1, none⟩ = false ∧ w2.frozen? ⟨b, o + t * 3 + 2, none⟩ = false := three_cells hw2b.out (by rw [List.size_toArray, length_splice _ _ _ (by simpa using HF.out)]; simp; omega)
    obtain ⟨p0, p1, p2⟩ : w2.cell? ⟨w.heap.size, 0, none⟩ = some (.int .i64 z.1.fr) ∧ w2.cell? ⟨w.heap.size, 1, none⟩ = some (.int .i64 z.1.dt) ∧ w2.cell? ⟨w.heap.size, 2, none⟩ = some (.slice zA zm zc) := by
      refine ⟨?_, ?_, ?_⟩ <;> (refine hgr.cell ?_ (by simp; omega); go_simp)
    have HB := Lib.hid hw2b
    clear hgr hw2b
    go_wp2
  all_goals
    go_region
  all_goals
    go_wp2
    go_ret
    rw [HV.out]
    exact ⟨rfl, move_close HN2.out hgb (by exact bN (bA (Below.refl _ _) _) 1) HG.out HB.out rfl rfl rfl rfl⟩
set_option maxRecDepth 100000 in
set_option maxHeartbeats 800000 in
theorem net_Move_stay (g i b o c : Nat) (nodes s d l : Int) (Y X : List PV) (z : PV) (cur : Array Value) (w : World) (hn : NetAt w g nodes (.slice (some ⟨b, o, none⟩) (Y ++ z :: X).length c) s d l) (h0 : 0 < nodes)
    (hi : Y.length = i) (htn : i < (Y ++ z :: X).length) (hn4 : (Y ++ z :: X).length ≤ 4096) (hnc : (Y ++ z :: X).length ≤ c) (hcm : c ≤ maxLen) (hcur : w.heap[b]? = some (.cells cur 34 (0, 0))) (hcs : o + c * 3 ≤ cur.size)
    (hT : (cur.toList.drop o).take ((Y ++ z :: X).length * 3) = pvCells Y ++ (.int .i64 z.1.fr :: .int .i64 z.1.dt :: z.2 :: pvCells X)) (hz : ∃ A c m, z.2 = .slice A m c) (hgb : ¬ b = g) :
    Calls Try.prog 12 #[.pointer (some ⟨g, 0, none⟩), .int .i64 i, .int .i64 i] w fun e w' => e = .returned (.int .i64 0) ∧ NetAt w' g nodes (.slice (some ⟨b, o, none⟩) (Y ++ z :: X).length c) s d l ∧
      w'.heap[b]? = some (.cells ((((splice cur.toList o []).set (o + i * 3) (.int .i64 z.1.fr)).set (o + i * 3 + 1) (.int .i64 z.1.dt)).set (o + i * 3 + 2) z.2).toArray 34 (0, 0)) ∧ Fr (fun k => k = b) w w' := by
  obtain ⟨zA, zc, zm, hzv⟩ := hz
  generalize hN : (Y ++ z :: X).length = n at *
  have hlY := pvCells_len Y
  obtain ⟨k0, k1, k2, k3, k4⟩ := hn.cells
  have hn0 : (nodes == 0) = false := by simp; omega
  have hrow : Row w 34 3 (.slice (some ⟨b, o, none⟩) n c) n (pvCells Y ++ (.int .i64 z.1.fr :: .int .i64 z.1.dt :: z.2 :: pvCells X)) :=
    ⟨by rw [← hT]; simp; omega, .inr ⟨b, o, c, cur, rfl, hnc, hcm, hcur, hcs, hT⟩⟩
  obtain ⟨b', o', cur', e1, c0, c1, c2, _⟩ := hrow.pk (i := i) (by rw [hlY, hi])
  cases e1
  rw [hzv] at c2
  have hlb := (Array.getElem?_eq_some_iff.1 hcur).1
  have hlt := hn.lt
  have HW : Hid (∀ o1, (w.alloc o1).drew.heap[b]? = some (.cells cur 34 (0, 0))) := fun o1 => (Below.heap_alloc w o1 b hlb).trans hcur
  have HN := Lib.hid hn; have HT := Lib.hid hT; have HV := Lib.hid hzv; have HC := Lib.hid hcur
  have hfit : o + 0 ≤ cur.size := by omega
  have HF := Lib.hid hfit
  have hi0 : (0 : Int) ≤ i := by omega
  have q1 : (i : Int) < n := by omega
  have q4 : i ≤ n := by omega
  have q5 : i < n := by omega
  have q8 : (i : Int) ≤ (c : Int) := by omega
  have v1 : IntKind.i64.wrap ((i : Int) + 1) = (i : Int) + 1 := by rw [IntKind.wrap_i64]; omega
  have v3 : (0 : Int) ≤ (i : Int) + 1 := by omega
  have v5 : (i : Int) + 1 ≤ (c : Int) := by omega
  have v6 : ((i : Int) + 1).toNat = i + 1 := by omega
  have q6 : ¬ c = i := by omega
  clear hrow hn hT hzv hcur hfit hlY hN hi
  go_enter Try.func12, Try.ntmps12
  go_wp2_with (go_at_call 25; refine (net_place g nodes _ _ n c w k0 hn0 k1 0 (by rw [if_pos (by omega)])).mono ?_; rintro e w' ⟨rfl, rfl⟩)
  have hmin : Hid (Nat.min 0 0 = 0) := rfl
  go_region_law (go_must (refine st_copyS (by rfl) _ _ _ _ (by rfl) 34 3 Try.underlying27 Try.size_Packet _ _ _ _ _ _ (by rfl) (by rfl) b o cur 34 (HW.out _) [] 0 hmin.out rfl (fun h => absurd h (Nat.lt_irrefl 0)) HF.out (by simp) ?_); intro w2 hw2b hgr)
  all_goals
    have HN2 := Lib.hid ((HN.out.bel (w1 := (w.alloc _).drew) (by repeat (first | with_reducible exact Below.refl _ _ | with_reducible assumption | apply bA | apply bN | apply bD | (refine bS ?_ _ _ (by first | exact Nat.le_refl _ | (simp; done) | (simp; omega) | omega)) | refine bT ?_ ?_ (by with_reducible assumption) | exact Nat.le_refl _ | (simp; done) | (simp; omega) | omega))).gr hgr (fun e => hgb (by simpa using e)))
    have HG := Lib.hid hgr
    obtain ⟨j0, j1, j2, j3, j4⟩ := HN2.out.cells
    have hsz2 : w.heap.size + 1 ≤ w2.heap.size := by have := hgr.size; simpa using this
    obtain ⟨x0, x1, x2, y0, y1, y2, z0, z1, z2⟩ : ∃ x0 x1 x2, w2.cell? ⟨b, o + i * 3, none⟩ = some x0 ∧ w2.cell? ⟨b, o + i * 3 + 1, none⟩ = some x1 ∧ w2.cell? ⟨b, o + i * 3 + 2, none⟩ = some x2 ∧
        w2.frozen? ⟨b, o + i * 3, none⟩ = false ∧ w2.frozen? ⟨b, o + i * 3 + 1, none⟩ = false ∧ w2.frozen? ⟨b, o + i * 3 + 2, none⟩ = false := three_cells hw2b.out (by rw [List.size_toArray, length_splice _ _ _ (by simpa using HF.out)]; simp; omega)
    obtain ⟨p0, p1, p2⟩ : w2.cell? ⟨w.heap.size, 0, none⟩ = some (.int .i64 z.1.fr) ∧ w2.cell? ⟨w.heap.size, 1, none⟩ = some (.int .i64 z.1.dt) ∧ w2.cell? ⟨w.heap.size, 2, none⟩ = some (.slice zA zm zc) := by
      refine ⟨?_, ?_, ?_⟩ <;> (refine hgr.cell ?_ (by simp; omega); go_simp)
    have HB := Lib.hid hw2b
    clear hgr hw2b
    go_wp2
  all_goals
    go_region
  all_goals
    go_wp2
    go_ret
    rw [HV.out]
    exact ⟨rfl, move_close HN2.out hgb (by exact bN (bA (Below.refl _ _) _) 1) HG.out HB.out rfl rfl rfl rfl⟩
end Go.Proofs.Ytknhblhdkjgnbaa
