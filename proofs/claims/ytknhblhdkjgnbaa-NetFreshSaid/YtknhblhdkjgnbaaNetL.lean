import Derived.Test.YtknhblhdkjgnbaaNetK
namespace Go.Proofs.Ytknhblhdkjgnbaa
open Go.RowKit

theorem NetRep.new (w : World) (n : Int) : NetRep (fun _ => False) (w.alloc (.cells #[.int .i64 n, .slice none 0 0, .int .i64 0, .int .i64 0, .int .i64 0] 64)) w.heap.size n [] 0 0 0 (.slice none 0 0) :=
  ⟨[], rfl, heap_alloc_new w _, Row.nil _ _ _, ⟨by simp, by simp⟩, fun h => h, fun _ _ h => h, fun _ h => h.elim⟩

/-- A slice that was just written out. -/
theorem sl_lit (k : IntKind) (w : World) (e : Nat) (xs : List Int) (hm : xs.length ≤ maxLen) : Sl k (fun b => b = w.heap.size) (w.alloc (.cells (xs.map (Value.int k)).toArray e)) (.slice (some ⟨w.heap.size, 0, none⟩) xs.length xs.length) xs := by
  refine ⟨_, _, rfl, Nat.le_refl _, hm, (fun h => by cases h), fun j hj => ⟨_, rfl, rfl, ?_⟩⟩
  rw [Addr.add_lit]
  unfold World.cell?
  rw [show (w.alloc (.cells (xs.map (Value.int k)).toArray e)).heap[w.heap.size]? = some _ from heap_alloc_new w _]
  simp [hj]

theorem SendR.ok {F : Nat → Prop} {g : Nat} {lv : Value} {nodes : Int} {L : List Pk} {s d l f t : Int} {bs : List Int} {w w' : World} {e : Ending} (h : SendR F g lv nodes L s d l f t bs w e w') (hr : sendErr nodes f t L.length bs.length = 0) :
    e = .returned (.int .i64 0) ∧ NetStep F g lv w w' nodes (L ++ [⟨f, t, bs⟩]) (wrap64 (s + 1)) d l := by
  obtain ⟨rfl, h⟩ := h
  rw [hr] at h ⊢
  exact ⟨rfl, by simpa using h⟩
theorem SendR.bad {F : Nat → Prop} {g : Nat} {lv : Value} {nodes : Int} {L : List Pk} {s d l f t : Int} {bs : List Int} {w w' : World} {e : Ending} (h : SendR F g lv nodes L s d l f t bs w e w') (hr : sendErr nodes f t L.length bs.length ≠ 0) :
    e = .returned (.int .i64 (sendErr nodes f t L.length bs.length)) ∧ NetStep F g lv w w' nodes L s d l := by
  obtain ⟨rfl, h⟩ := h
  rw [if_neg hr, if_neg hr] at h
  exact ⟨rfl, h⟩
/-- The whole of a step, for a net whose block and row the call itself has made. -/
theorem NetStep.open {F : Nat → Prop} {g B : Nat} {lv : Value} {w0 w w' : World} {nodes : Int} {M : List Pk} {s d l : Int} (h : NetStep F g lv w w' nodes M s d l) (hg : B ≤ g) (hlv : ∀ k, lv.ownBlock = some k → B ≤ k) (hb : Below B w0 w) (hB : B ≤ w.heap.size) :
    ∃ F' lv', (∀ b, F' b → F b ∨ w.heap.size ≤ b) ∧ NetRep F' w' g nodes M s d l lv' ∧ (∀ k, lv'.ownBlock = some k → B ≤ k) ∧ Below B w0 w' ∧ w.heap.size ≤ w'.heap.size ∧ (lv'.ownBlock = lv.ownBlock ∨ ∃ k, lv'.ownBlock = some k ∧ w.heap.size ≤ k) ∧ Fr (fun b => b = g ∨ lv.ownBlock = some b) w w' := by
  obtain ⟨F', lv', h1, h2, h3, h4⟩ := h
  refine ⟨F', lv', h1, h2, ?_, hb.trans (h4.below hB ?_), h4.size, h3, h4⟩
  · intro k hk
    rcases h3 with h3 | ⟨k', h3, hk'⟩
    · exact hlv k (by rw [← h3]; exact hk)
    · rw [h3] at hk
      cases hk
      omega
  · rintro b (rfl | hx)
    · exact hg
    · exact hlv b hx

theorem NetRep.row_lt {F : Nat → Prop} {w : World} {g : Nat} {nodes s d l : Int} {L : List Pk} {lv : Value} (h : NetRep F w g nodes L s d l lv) : ∀ k, lv.ownBlock = some k → k < w.heap.size := by
  obtain ⟨Z, rfl, hZ⟩ := h
  exact hZ.2.1.lt
theorem NetRep.lt {F : Nat → Prop} {w : World} {g : Nat} {nodes s d l : Int} {L : List Pk} {lv : Value} (h : NetRep F w g nodes L s d l lv) : g < w.heap.size := by
  obtain ⟨Z, rfl, hZ⟩ := h
  exact hZ.1.lt
theorem NetRep.not_g {F : Nat → Prop} {w : World} {g : Nat} {nodes s d l : Int} {L : List Pk} {lv : Value} (h : NetRep F w g nodes L s d l lv) : ¬ F g ∧ ∀ k, lv.ownBlock = some k → ¬ F k := by
  obtain ⟨Z, rfl, hZ⟩ := h
  exact ⟨hZ.2.2.2.1, hZ.2.2.2.2.1⟩
theorem DeliverR.at_ {F : Nat → Prop} {g : Nat} {lv : Value} {nodes : Int} {Y X : List Pk} {p : Pk} {s d l i : Int} {w w' : World} {e : Ending} (h : DeliverR F g lv nodes (Y ++ p :: X) s d l i w e w') (hi : (Y.length : Int) = i) :
    ∃ A c F' lv', e = .returned (.tuple #[.agg #[.int .i64 p.fr, .int .i64 p.dt, .slice A p.b.length c], .int .i64 0]) ∧ Sl .u8 (fun b => (Value.slice A p.b.length c).ownBlock = some b) w' (.slice A p.b.length c) p.b ∧ (∀ b, (Value.slice A p.b.length c).ownBlock = some b → F b ∧ ¬ F' b) ∧
    (∀ b, F' b → F b) ∧ NetRep F' w' g nodes (Y ++ X) s (wrap64 (d + 1)) l lv' ∧ lv'.ownBlock = lv.ownBlock ∧ Fr (fun b => b = g ∨ lv.ownBlock = some b) w w' := by
  rcases h with ⟨h, _⟩ | ⟨L1, q, L2, bv, F', hL, hl, rfl, h1, h2, h3, lv', h4, h5, h6⟩
  · unfold placeErr at h
    rw [if_pos (by simp; omega)] at h
    omega
  · have hll : L1.length = Y.length := by omega
    obtain ⟨rfl, h7⟩ := List.append_inj hL.symm hll
    cases h7
    obtain ⟨A, c, rfl, _⟩ := id h1.sl
    exact ⟨A, c, F', lv', rfl, h1.sl, h2, h3, h4, h5, h6⟩
theorem DeliverR.off {F : Nat → Prop} {g : Nat} {lv : Value} {nodes : Int} {L : List Pk} {s d l i : Int} {w w' : World} {e : Ending} (h : DeliverR F g lv nodes L s d l i w e w') (hi : ¬ (0 ≤ i ∧ i < L.length)) :
    e = .returned (.tuple #[.agg #[.int .i64 0, .int .i64 0, .slice none 0 0], .int .i64 2]) ∧ NetStep F g lv w w' nodes L s d l := by
  rcases h with ⟨_, h⟩ | ⟨L1, q, L2, bv, F', hL, hl, _⟩
  · exact h
  · rw [hL] at hi
    exact absurd ⟨by omega, by simp; omega⟩ hi

set_option maxRecDepth 100000 in
set_option maxHeartbeats 1000000 in
theorem law21_anchored (w : World) : Calls Try.prog 15 #[] w fun e w' => e = .returned (.bool true) ∧ Below w.heap.size w w' := by
  have N0 := Lib.hid (NetRep.new w 3)
  go_enter Try.func15, Try.ntmps15
  go_wp2_with fail
  refine (net_New_yes 3 w (by omega) (by omega)).mono ?_
  rintro e w' ⟨rfl, rfl⟩
  go_wp2_with fail
  have S1 := sl_lit .u8 (w.alloc (.cells #[.int .i64 3, .slice none 0 0, .int .i64 0, .int .i64 0, .int .i64 0] 64)) 5 [5] (by simp [maxLen])
  refine (net_Send _ _ w.heap.size 3 0 0 0 0 1 [] (.slice none 0 0) _ [5] _ (N0.out.bel (by repeat (first | with_reducible exact Below.refl _ _ | with_reducible assumption | apply bA | apply bN | apply bD | (refine bS ?_ _ _ (by first | exact Nat.le_refl _ | (simp; done) | (simp; omega) | omega)) | refine bT ?_ ?_ (by with_reducible assumption) | exact Nat.le_refl _ | (simp; done) | (simp; omega) | omega))) (by omega) (by simpa using S1)).mono ?_
  intro e w1 h1
  obtain ⟨he, hs⟩ := SendR.ok h1 (by decide)
  subst he
  clear h1
  obtain ⟨F1, lv1, hF1, R1, B1, E1, Z1, _⟩   := NetStep.open hs (B := w.heap.size) (w0 := w) (Nat.le_refl _) (fun k h => by simp [Value.ownBlock] at h) (by repeat (first | with_reducible exact Below.refl _ _ | with_reducible assumption | apply bA | apply bN | apply bD | (refine bS ?_ _ _ (by first | exact Nat.le_refl _ | (simp; done) | (simp; omega) | omega)) | refine bT ?_ ?_ (by with_reducible assumption) | exact Nat.le_refl _ | (simp; done) | (simp; omega) | omega)) (by first | omega | (simp; done) | (simp; omega))
  have R1 := Lib.hid R1; have B1 := Lib.hid B1; have E1 := Lib.hid E1; have Z1 := Lib.hid Z1
  clear hs hF1 N0 S1
  go_wp2_with fail
  have S1 := sl_lit .u8 w1 5 [6] (by simp [maxLen])
  refine (net_Send _ _ w.heap.size 3 _ 0 0 0 2 _ _ _ [6] _ (R1.out.bel (by repeat (first | with_reducible exact Below.refl _ _ | with_reducible assumption | apply bA | apply bN | apply bD | (refine bS ?_ _ _ (by first | exact Nat.le_refl _ | (simp; done) | (simp; omega) | omega)) | refine bT ?_ ?_ (by with_reducible assumption) | exact Nat.le_refl _ | (simp; done) | (simp; omega) | omega))) (by omega) (by simpa using S1)).mono ?_
  intro e w2 h1
  obtain ⟨he, hs⟩ := SendR.ok h1 (by decide)
  subst he
  clear h1
  obtain ⟨F2, lv2, hF2, R2, B2, E2, Z2, _⟩   := NetStep.open hs (B := w.heap.size) (w0 := w) (Nat.le_refl _) B1.out (E1.out.alloc (by have := E1.out.size; omega) _) (by have := E1.out.size; simp; omega)
  have R2 := Lib.hid R2; have B2 := Lib.hid B2; have E2 := Lib.hid E2; have Z2 := Lib.hid Z2
  clear hs hF2 S1
  go_wp2_with fail
  refine (net_Deliver _ w.heap.size 3 _ 0 0 1 _ _ _ R2.out (by omega) (by simp)).mono ?_
  intro e w3 h3
  obtain ⟨A3, c3, F3, lv3, rfl, D3, D3a, D3b, R3, b3, e3⟩ := DeliverR.at_ (Y := [⟨0, 1, [5]⟩]) (p := ⟨0, 2, [6]⟩) (X := []) h3 rfl
  have E3 : Hid (Below w.heap.size w w3) := E2.out.trans (e3.below (by have := E2.out.size; omega) (by rintro b (rfl | hx); exact Nat.le_refl _; exact B2.out b hx))
  have L3 : Hid (∀ k, lv3.ownBlock = some k → k < w3.heap.size) := NetRep.row_lt R3
  have Z3 : Hid (w.heap.size < w3.heap.size) := NetRep.lt R3
  have R3 := Lib.hid R3; have D3 := Lib.hid D3; have B3 : Hid (∀ k, lv3.ownBlock = some k → w.heap.size ≤ k) := fun k hk => B2.out k (by rw [← b3]; exact hk)
  have G3 : Hid (∀ b, (Value.slice A3 [(6 : Int)].length c3).ownBlock = some b → b ≠ w.heap.size ∧ lv3.ownBlock ≠ some b) := fun b hb =>
    ⟨fun e => (NetRep.not_g R2.out).1 (by rw [← e]; exact (D3a b hb).1), fun e => (NetRep.not_g R2.out).2 b (by rw [← b3]; exact e) (D3a b hb).1⟩
  clear h3 D3a D3b b3 e3
  go_wp2_with fail
  refine (net_Deliver _ w.heap.size 3 _ _ _ 1 _ _ _ (R3.out.bel (by repeat (first | with_reducible exact Below.refl _ _ | with_reducible assumption | apply bA | apply bN | apply bD | (refine bS ?_ _ _ (by first | exact Nat.le_refl _ | (simp; done) | (simp; omega) | omega)) | refine bT ?_ ?_ (by with_reducible assumption) | exact Nat.le_refl _ | (simp; done) | (simp; omega) | omega))) (by omega) (by simp)).mono ?_
  intro e w4 h4
  obtain ⟨he4, hs4⟩ := DeliverR.off h4 (by simp)
  subst he4
  obtain ⟨F4, lv4, _, _, _, E4, _, _, H4⟩ := NetStep.open (B := w.heap.size) (w0 := w) hs4 (Nat.le_refl _) B3.out (E3.out.alloc (by have := Z3.out; omega) _) (by have := Z3.out; simp; omega)
  have hz3 := Z3.out
  obtain ⟨r0, r1, r2, rf⟩ := new_cells (s := w3.heap.size) H4 (by omega) (fun e => by have := L3.out _ e; omega) (heap_alloc_new _ _)
  have D4 : Hid (Sl .u8 (fun b => (Value.slice A3 [(6 : Int)].length c3).ownBlock = some b) w4 (.slice A3 [(6 : Int)].length c3) [6]) := by
    refine (D3.out.below (by repeat (first | with_reducible exact Below.refl _ _ | with_reducible assumption | apply bA | apply bN | apply bD | (refine bS ?_ _ _ (by first | exact Nat.le_refl _ | (simp; done) | (simp; omega) | omega)) | refine bT ?_ ?_ (by with_reducible assumption) | exact Nat.le_refl _ | (simp; done) | (simp; omega) | omega))).fr H4 ?_
    rintro b _ hb (hx | hx)
    · exact (G3.out b hb).1 hx
    · exact (G3.out b hb).2 hx
  have E4 := Lib.hid E4
  have hz4 : w3.heap.size < w4.heap.size := by have := H4.size; simp at this; omega
  have hz5 : w.heap.size < w3.heap.size := Z3.out
  clear h4 hs4 hz3 H4
  go_wp2_with fail
  have S6 := sl_lit .u8 (w4.alloc (.cells #[.int .i64 0, .int .i64 0, .slice none 0 0] 34)) 5 [6] (by simp [maxLen])
  refine (r21_One _ _ ⟨0, 2, [6]⟩ ⟨0, 2, [6]⟩ _ _ _ (D4.out.below (by repeat (first | with_reducible exact Below.refl _ _ | with_reducible assumption | apply bA | apply bN | apply bD | (refine bS ?_ _ _ (by first | exact Nat.le_refl _ | (simp; done) | (simp; omega) | omega)) | refine bT ?_ ?_ (by with_reducible assumption) | exact Nat.le_refl _ | (simp; done) | (simp; omega) | omega))) (by simpa using S6)).mono ?_
  rintro e w5 ⟨rfl, hb⟩
  have E5 : Hid (Below w.heap.size w w5) := by
    refine (E4.out.trans (Below.mono (B := w4.heap.size) ?_ (by omega)))
    exact (by repeat (first | with_reducible exact Below.refl _ _ | with_reducible assumption | apply bA | apply bN | apply bD | (refine bS ?_ _ _ (by first | exact Nat.le_refl _ | (simp; done) | (simp; omega) | omega)) | refine bT ?_ ?_ (by with_reducible assumption) | exact Nat.le_refl _ | (simp; done) | (simp; omega) | omega))
  rw [oneB_refl]
  clear hb
  go_wp2
  go_ret
  exact ⟨rfl, E5.out⟩
end Go.Proofs.Ytknhblhdkjgnbaa
