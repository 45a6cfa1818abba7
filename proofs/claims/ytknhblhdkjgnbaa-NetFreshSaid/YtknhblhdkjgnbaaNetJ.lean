import Derived.Test.YtknhblhdkjgnbaaNetI
namespace Go.Proofs.Ytknhblhdkjgnbaa
open Go.RowKit

theorem three_of {α : Type} (l : List α) (h : l.length = 3) : ∃ a b c, l = [a, b, c] := by
  match l, h with
  | [a, b, c], _ => exact ⟨a, b, c, rfl⟩
theorem splice_up {α : Type} (A z M R : List α) (hz : z.length = 3) : ∃ a b c, splice (A ++ (z ++ (M ++ R))) A.length M = A ++ (M ++ (a :: b :: c :: R)) := by
  obtain ⟨a, b, c, h⟩ := three_of ((z ++ M).drop M.length) (by simp; omega)
  refine ⟨a, b, c, ?_⟩
  unfold splice
  rw [List.take_left, List.drop_append, List.drop_of_length_le (by omega), List.nil_append, show A.length + M.length - A.length = M.length by omega, ← List.append_assoc z, List.drop_append_of_le_length (by simp), h]
  simp
theorem splice_down {α : Type} (A z M R : List α) (hz : z.length = 3) : ∃ a b c, splice (A ++ (M ++ (z ++ R))) (A.length + 3) M = A ++ (a :: b :: c :: (M ++ R)) := by
  obtain ⟨a, b, c, h⟩ := three_of ((M ++ z).take 3) (by simp; omega)
  refine ⟨a, b, c, ?_⟩
  unfold splice
  rw [List.take_append, List.take_of_length_le (by omega), show A.length + 3 - A.length = 3 by omega, ← List.append_assoc M, List.take_append_of_le_length (by simp; omega), h, List.drop_append, List.drop_of_length_le (by omega), List.nil_append,
    show A.length + 3 + M.length - A.length = M.length + 3 by omega, List.drop_append, List.drop_of_length_le (by simp; omega)]
  simp [hz]
theorem set_three {α : Type} (A R : List α) (a b c x y z : α) (k : Nat) (hk : A.length = k) : (((A ++ (a :: b :: c :: R)).set k x).set (k + 1) y).set (k + 2) z = A ++ (x :: y :: z :: R) := by
  subst hk
  simp [List.set_append_right]

/-- A list with the element at i taken out and laid at t. -/
def moved (L : List Pk) (i t : Nat) : List Pk := (L.take i ++ L.drop (i + 1)).take t ++ ((L.drop i).take 1 ++ (L.take i ++ L.drop (i + 1)).drop t)
theorem moved_up (Y M X : List Pk) (z : Pk) : moved (Y ++ z :: (M ++ X)) Y.length (Y.length + M.length) = Y ++ (M ++ z :: X) := by
  unfold moved
  rw [List.take_left, show Y.length + 1 = (Y ++ [z]).length by simp, show Y ++ z :: (M ++ X) = (Y ++ [z]) ++ (M ++ X) by simp, List.drop_left]
  rw [show Y.length + M.length = (Y ++ M).length by simp, show Y ++ (M ++ X) = (Y ++ M) ++ X by simp, List.take_left, List.drop_left, show (Y ++ [z]) ++ (M ++ X) = Y ++ ([z] ++ (M ++ X)) by simp, List.drop_left]
  simp
theorem moved_down (Y M X : List Pk) (z : Pk) : moved (Y ++ (M ++ z :: X)) (Y.length + M.length) Y.length = Y ++ z :: (M ++ X) := by
  unfold moved
  rw [show Y ++ (M ++ z :: X) = (Y ++ M) ++ z :: X by simp, show Y.length + M.length = (Y ++ M).length by simp, List.take_left, List.drop_left]
  rw [show (Y ++ M) ++ z :: X = ((Y ++ M) ++ [z]) ++ X by simp, show (Y ++ M).length + 1 = ((Y ++ M) ++ [z]).length by simp [Nat.add_assoc], List.drop_left, show Y ++ M ++ X = Y ++ (M ++ X) by simp, List.take_left, List.drop_left]
  simp

/-- Move. -/
def MoveR (F : Nat → Prop) (g : Nat) (lv : Value) (nodes : Int) (L : List Pk) (s d l i t : Int) (w : World) (e : Ending) (w' : World) : Prop :=
  (¬ (0 ≤ i ∧ i < L.length ∧ 0 ≤ t ∧ t < L.length) ∧ e = .returned (.int .i64 2) ∧ NetStep F g lv w w' nodes L s d l) ∨
  ((0 ≤ i ∧ i < L.length ∧ 0 ≤ t ∧ t < L.length) ∧ e = .returned (.int .i64 0) ∧ NetStep F g lv w w' nodes (moved L i.toNat t.toNat) s d l)

theorem move_step {F : Nat → Prop} {w w' : World} {g b o c : Nat} {nodes s d l : Int} {Z Z' : List PV} {cur' : List Value} (hZ : NetZ F w g nodes Z s d l (.slice (some ⟨b, o, none⟩) Z.length c)) (hp : List.Perm Z Z') (hN : NetAt w' g nodes (.slice (some ⟨b, o, none⟩) Z.length c) s d l)
    (hb : w'.heap[b]? = some (.cells cur'.toArray 34 (0, 0))) (hc : ∃ P Q, P.length = o ∧ cur' = P ++ (pvCells Z' ++ Q)) (hcs : o + c * 3 ≤ cur'.length) (hnc : Z.length ≤ c) (hcm : c ≤ maxLen) (hF : Fr (fun k => k = b) w w') :
    NetStep F g (.slice (some ⟨b, o, none⟩) Z.length c) w w' nodes (Z'.map Prod.fst) s d l := by
  obtain ⟨h1, h2, h3, h4, h5, h6⟩ := hZ
  have hl := hp.length_eq
  obtain ⟨P, Q, hP, hq⟩ := hc
  refine ⟨F, .slice (some ⟨b, o, none⟩) Z.length c, fun _ h => .inl h, ⟨Z', rfl, hN, ?_, ?_, h4, h5, fun k hk => Nat.lt_of_lt_of_le (h6 k hk) hF.size⟩, .inl rfl, hF.mono fun k _ h => .inr (by rw [h]; rfl)⟩
  · rw [hl]
    refine ⟨pvCells_len _, .inr ⟨b, o, c, _, rfl, by omega, hcm, hb, by simpa using hcs, ?_⟩⟩
    rw [hq, List.toList_toArray, ← hP, List.drop_left]
    exact List.take_left' (pvCells_len _)
  · exact (h3.move fun k hl hk => hF.keep k hl (fun e => h5 b rfl (by rw [← e]; exact hk))).perm hp

/-- The block's cells about a row. -/
theorem cur_parts {w : World} {b o c n : Nat} {cur : Array Value} {P : List Value} (hcs : o + c * 3 ≤ cur.size) (hT : (cur.toList.drop o).take (n * 3) = P) : ∃ A R, A.length = o ∧ cur.toList = A ++ (P ++ R) ∧ True := by
  refine ⟨cur.toList.take o, (cur.toList.drop o).drop (n * 3), by simp; omega, ?_, trivial⟩
  rw [← hT, List.take_append_drop, List.take_append_drop]

set_option maxRecDepth 100000 in
set_option maxHeartbeats 800000 in
theorem net_Move (F : Nat → Prop) (g : Nat) (nodes s d l i t : Int) (L : List Pk) (lv : Value) (w : World) (h : NetRep F w g nodes L s d l lv) (hn : 0 < nodes) (hL : L.length ≤ 4096) :
    Calls Try.prog 12 #[.pointer (some ⟨g, 0, none⟩), .int .i64 i, .int .i64 t] w (MoveR F g lv nodes L s d l i t w) := by
  have HR := Lib.hid h
  obtain ⟨Z, rfl, hZ⟩ := h
  have h1 := hZ.1; have h2 := hZ.2.1
  have hl : (Z.map Prod.fst).length = Z.length := by simp
  by_cases hi : 0 ≤ i ∧ i < Z.length
  · by_cases ht : 0 ≤ t ∧ t < Z.length
    · obtain ⟨p, rfl⟩ : ∃ p : Nat, i = p := ⟨i.toNat, by omega⟩
      obtain ⟨q, rfl⟩ : ∃ q : Nat, t = q := ⟨t.toNat, by omega⟩
      have hgood : 0 ≤ (p : Int) ∧ (p : Int) < (Z.map Prod.fst).length ∧ 0 ≤ (q : Int) ∧ (q : Int) < (Z.map Prod.fst).length := by omega
      have hng := h1.row h2 (by decide)
      rcases h2.2 with ⟨_, h0⟩ | ⟨b, o, c, cur, rfl, hnc, hcm, hcur, hcs, hT⟩
      · omega
      have hgb : ¬ b = g := fun e => hng (by rw [e]; rfl)
      obtain ⟨A, R, hA, hAR, _⟩ := cur_parts (w := w) (b := b) hcs hT
      rcases Nat.lt_trichotomy p q with hpq | hpq | hpq
      · obtain ⟨Y, z, M, X, hZe, hY, hYM⟩ : ∃ Y z M X, Z = Y ++ z :: (M ++ X) ∧ Y.length = p ∧ Y.length + M.length = q :=
          ⟨Z.take p, Z[p]'(by omega), (Z.drop (p + 1)).take (q - p), (Z.drop (p + 1)).drop (q - p), by rw [List.take_append_drop, List.getElem_cons_drop, List.take_append_drop], by simp; omega, by simp; omega⟩
        subst hZe
        have hz := (hZ.2.2.1.1 z (by simp)).1
        obtain ⟨zA, zc, hzv, _⟩ := hz.sl
        have e1 : pvCells (Y ++ z :: (M ++ X)) = pvCells Y ++ (.int .i64 z.1.fr :: .int .i64 z.1.dt :: z.2 :: (pvCells M ++ pvCells X)) := by rw [pvCells_app, pvCells_cons, pvCells_app]
        refine (net_Move_up g p q b o c nodes s d l Y M X z cur w h1 hn hY hYM hpq (by omega) (by omega) hnc hcm hcur hcs (by rw [hT, e1]) ⟨_, _, _, hzv⟩ (Pks.one (hZ.2.2.1.sub (by refine List.Sublist.trans ?_ (List.sublist_append_right _ _); exact (List.sublist_append_left M X).trans (List.sublist_cons_self _ _)))) hgb).mono ?_
        rintro e w' ⟨rfl, k1, k2, k3⟩
        refine .inr ⟨hgood, rfl, ?_⟩
        have hperm : List.Perm (Y ++ z :: (M ++ X)) (Y ++ (M ++ z :: X)) := List.Perm.append_left _ List.perm_middle.symm
        have hm : moved ((Y ++ z :: (M ++ X)).map Prod.fst) ((p : Int)).toNat ((q : Int)).toNat = (Y ++ (M ++ z :: X)).map Prod.fst := by
          have := moved_up (Y.map Prod.fst) (M.map Prod.fst) (X.map Prod.fst) z.1
          rw [List.length_map, List.length_map, hYM, hY] at this
          simpa using this
        rw [hm]
        refine move_step hZ hperm k1 k2 ⟨A, R, hA, ?_⟩ ?_ hnc hcm k3
        · rw [hAR, e1]
          obtain ⟨x1, x2, x3, hx⟩ := splice_up (A ++ pvCells Y) [.int .i64 z.1.fr, .int .i64 z.1.dt, z.2] (pvCells M) (pvCells X ++ R) rfl
          rw [show o + p * 3 = (A ++ pvCells Y).length by rw [List.length_append, pvCells_len, hA, hY]]
          rw [show A ++ (pvCells Y ++ (.int .i64 z.1.fr :: .int .i64 z.1.dt :: z.2 :: (pvCells M ++ pvCells X)) ++ R) = (A ++ pvCells Y) ++ ([.int .i64 z.1.fr, .int .i64 z.1.dt, z.2] ++ (pvCells M ++ (pvCells X ++ R))) by simp, hx]
          rw [← List.append_assoc, set_three _ _ _ _ _ _ _ _ _ (by rw [List.length_append, List.length_append, pvCells_len, pvCells_len]; omega)]
          rw [pvCells_app, pvCells_app, pvCells_cons]
          simp
        · simp only [List.length_set]
          rw [length_splice _ _ _ (by rw [pvCells_len]; simp; omega)]
          simpa using hcs
      · subst hpq
        obtain ⟨Y, z, X, hZe, hY⟩ : ∃ Y z X, Z = Y ++ z :: X ∧ Y.length = p :=
          ⟨Z.take p, Z[p]'(by omega), Z.drop (p + 1), by rw [List.getElem_cons_drop, List.take_append_drop], by simp; omega⟩
        subst hZe
        have hz := (hZ.2.2.1.1 z (by simp)).1
        obtain ⟨zA, zc, hzv, _⟩ := hz.sl
        have e1 : pvCells (Y ++ z :: X) = pvCells Y ++ (.int .i64 z.1.fr :: .int .i64 z.1.dt :: z.2 :: pvCells X) := by rw [pvCells_app, pvCells_cons]
        refine (net_Move_stay g p b o c nodes s d l Y X z cur w h1 hn hY (by omega) (by omega) hnc hcm hcur hcs (by rw [hT, e1]) ⟨_, _, _, hzv⟩ hgb).mono ?_
        rintro e w' ⟨rfl, k1, k2, k3⟩
        refine .inr ⟨hgood, rfl, ?_⟩
        have hm : moved ((Y ++ z :: X).map Prod.fst) ((p : Int)).toNat ((p : Int)).toNat = (Y ++ z :: X).map Prod.fst := by
          have := moved_up (Y.map Prod.fst) [] (X.map Prod.fst) z.1
          rw [List.length_map, List.length_nil, Nat.add_zero, hY] at this
          simpa using this
        rw [hm]
        refine move_step hZ (List.Perm.refl _) k1 k2 ⟨A, R, hA, ?_⟩ ?_ hnc hcm k3
        · rw [hAR, e1]
          have hs : splice (A ++ (pvCells Y ++ (.int .i64 z.1.fr :: .int .i64 z.1.dt :: z.2 :: pvCells X) ++ R)) o [] = (A ++ pvCells Y) ++ (.int .i64 z.1.fr :: .int .i64 z.1.dt :: z.2 :: (pvCells X ++ R)) := by
            simp [splice]
          rw [hs, set_three _ _ _ _ _ _ _ _ _ (by rw [List.length_append, pvCells_len]; omega)]
          simp
        · simp only [List.length_set]
          rw [length_splice _ _ _ (by simp; omega)]
          simpa using hcs
      · obtain ⟨Y, M, z, X, hZe, hY, hYM⟩ : ∃ Y M z X, Z = Y ++ (M ++ z :: X) ∧ Y.length = q ∧ Y.length + M.length = p :=
          ⟨Z.take q, (Z.drop q).take (p - q), Z[p]'(by omega), Z.drop (p + 1), by
            rw [List.getElem_cons_drop, show Z.drop p = (Z.drop q).drop (p - q) by rw [List.drop_drop]; congr 1; omega, List.take_append_drop, List.take_append_drop], by simp; omega, by simp; omega⟩
        subst hZe
        have hz := (hZ.2.2.1.1 z (by simp)).1
        obtain ⟨zA, zc, hzv, _⟩ := hz.sl
        have e1 : pvCells (Y ++ (M ++ z :: X)) = pvCells Y ++ (pvCells M ++ (.int .i64 z.1.fr :: .int .i64 z.1.dt :: z.2 :: pvCells X)) := by rw [pvCells_app, pvCells_app, pvCells_cons]
        refine (net_Move_down g p q b o c nodes s d l Y M X z cur w h1 hn hY hYM hpq (by omega) (by omega) hnc hcm hcur hcs (by rw [hT, e1]) ⟨_, _, _, hzv⟩ (Pks.one (hZ.2.2.1.sub (by refine List.Sublist.trans ?_ (List.sublist_append_right _ _); exact List.sublist_append_left M _))) hgb).mono ?_
        rintro e w' ⟨rfl, k1, k2, k3⟩
        refine .inr ⟨hgood, rfl, ?_⟩
        have hperm : List.Perm (Y ++ (M ++ z :: X)) (Y ++ z :: (M ++ X)) := List.Perm.append_left _ List.perm_middle
        have hm : moved ((Y ++ (M ++ z :: X)).map Prod.fst) ((p : Int)).toNat ((q : Int)).toNat = (Y ++ z :: (M ++ X)).map Prod.fst := by
          have := moved_down (Y.map Prod.fst) (M.map Prod.fst) (X.map Prod.fst) z.1
          rw [List.length_map, List.length_map, hYM, hY] at this
          simpa using this
        rw [hm]
        refine move_step hZ hperm k1 k2 ⟨A, R, hA, ?_⟩ ?_ hnc hcm k3
        · rw [hAR, e1]
          obtain ⟨x1, x2, x3, hx⟩ := splice_down (A ++ pvCells Y) [.int .i64 z.1.fr, .int .i64 z.1.dt, z.2] (pvCells M) (pvCells X ++ R) rfl
          rw [show o + (q + 1) * 3 = (A ++ pvCells Y).length + 3 by rw [List.length_append, pvCells_len, hA, hY]; omega]
          rw [show A ++ (pvCells Y ++ (pvCells M ++ (.int .i64 z.1.fr :: .int .i64 z.1.dt :: z.2 :: pvCells X)) ++ R) = (A ++ pvCells Y) ++ (pvCells M ++ ([.int .i64 z.1.fr, .int .i64 z.1.dt, z.2] ++ (pvCells X ++ R))) by simp, hx]
          rw [set_three _ _ _ _ _ _ _ _ _ (by rw [List.length_append, pvCells_len]; omega)]
          rw [pvCells_app, pvCells_cons, pvCells_app]
          simp
        · simp only [List.length_set]
          rw [length_splice _ _ _ (by rw [pvCells_len]; simp; omega)]
          simpa using hcs
    · obtain ⟨A, c, rfl, hnc, hcm, hA⟩ := h2.slice
      obtain ⟨k0, k1, k2, k3, k4⟩ := h1.cells
      have hn0 : (nodes == 0) = false := by simp; omega
      have HI := Lib.hid hi; have HT := Lib.hid ht; have HL := Lib.hid hl
      clear hZ h1 h2 hl hL hi ht
      go_enter Try.func12, Try.ntmps12
      go_wp2_with fail
      refine (net_place g nodes i A Z.length c w k0 hn0 k1 0 (by rw [if_pos HI.out])).mono ?_
      rintro e w' ⟨rfl, rfl⟩
      go_wp2_with fail
      refine (net_place g nodes t A Z.length c w k0 hn0 k1 2 (by rw [if_neg HT.out])).mono ?_
      rintro e w' ⟨rfl, rfl⟩
      go_wp2
      go_ret
      exact .inl ⟨by have := HT.out; rw [HL.out]; omega, rfl, NetStep.same HR.out (Below.refl _ _)⟩
  · obtain ⟨A, c, rfl, hnc, hcm, hA⟩ := h2.slice
    obtain ⟨k0, k1, k2, k3, k4⟩ := h1.cells
    have hn0 : (nodes == 0) = false := by simp; omega
    have HI := Lib.hid hi; have HL := Lib.hid hl
    clear hZ h1 h2 hl hL hi
    go_enter Try.func12, Try.ntmps12
    go_wp2_with (go_at_call 25; refine (net_place g nodes i A Z.length c w k0 hn0 k1 2 (by rw [if_neg HI.out])).mono ?_; rintro e w' ⟨rfl, rfl⟩)
    go_ret
    exact .inl ⟨by have := HI.out; rw [HL.out]; omega, rfl, NetStep.same HR.out (Below.refl _ _)⟩
end Go.Proofs.Ytknhblhdkjgnbaa
