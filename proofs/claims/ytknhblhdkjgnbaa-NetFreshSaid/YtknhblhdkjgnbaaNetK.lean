import Derived.Test.YtknhblhdkjgnbaaNetJ
import Derived.Laws.BytesArg
namespace Go.Proofs.Ytknhblhdkjgnbaa
open Go.RowKit

theorem r08_Bytes (F : Nat → Prop) (v : Value) (bs : List Int) (w : World) (h : Sl .u8 F w v bs) (hb : bs.length ≤ 140737488355328) : Calls Try.prog 7 #[v] w (NewRow .u8 5 bs w) := by
  obtain ⟨A, c, rfl, h2, h3, h4, h5⟩ := h.cells
  have H5 := Lib.hid h5; have H4 := Lib.hid h4; clear h5 h h4
  go_enter Try.func7, Try.ntmps7
  go_wp2_with (at_builtin; go_must (refine wpl_append rfl (.tmp 3) (.tmp 4) 28 rfl w.heap.size 5 1 1 (.int .u8 0) Try.underlying28 Try.info_u8 rfl (by decide) _ 0 [] rfl (own_lit0 w w.heap.size 5 (Nat.le_refl _)) A bs.length c (bs.map (Value.int .u8)) rfl H4.out h2 (by simp) (fun j hj => by obtain ⟨ad1, e1, hc1⟩ := H5.out j hj; exact ⟨ad1, e1, cell_al hc1 _⟩) ints_one (by unfold maxLen; omega) (by omega) (by simp) ?_))
  intro v' w' hown hg hat
  have hbel : Below w.heap.size w w' := ((Below.refl _ _).alloc (Nat.le_refl _) _).grown hg (by simp) (fun k h => by simp [Value.ownBlock] at h; omega)
  go_wp2
  go_ret
  exact ⟨_, rfl, hown, hbel⟩

theorem conv_sl {P : Program} {src dst e : TypeId} {F : Nat → Prop} {w : World} {v : Value} {bs : List Int} (hs : P.underlying src = some (.slice e)) (he : P.underlying e = some (.int .u8)) (hd : P.underlying dst = some .string) (h : Sl .u8 F w v bs) :
    (convert src dst v).run P w = .ok (.string (strOfNums bs)) w := by
  obtain ⟨A, c, rfl, h2, h3, h4, h5⟩ := h
  cases A with
  | none =>
    obtain rfl : c = 0 := h4 rfl
    obtain rfl : bs = [] := List.eq_nil_of_length_eq_zero (by omega)
    exact run_convert_bytes_nil w src e hs he 0 0 dst hd
  | some ad =>
    have hl : (loadCells ad bs.length).run P w = .ok (bs.map (Value.int .u8)).toArray w := by
      have := run_loadCells_list (P := P) w ad (bs.map (Value.int .u8)) (fun j u hj => by
        obtain ⟨hj', rfl⟩ := List.getElem?_eq_some_iff.1 hj
        obtain ⟨ad', e', _, hc⟩ := h5 j (by simpa using hj')
        cases e'
        simpa using hc)
      simpa using this
    rw [run_convert_bytes_string w src dst e _ bs.length c hs he hd, run_bytesToString w _ bs.length c bs hl, foldl_push_bytes]
    simp [strOfNums, ByteArray.empty, ByteArray.emptyWithCapacity]
    rfl

def sameB (xs ys : List Int) : Bool := (strOfNums xs).toList == (strOfNums ys).toList
theorem sameB_refl (xs : List Int) : sameB xs xs = true := by simp [sameB]
theorem r08_Same (F G : Nat → Prop) (u v : Value) (xs ys : List Int) (w : World) (hu : Sl .u8 F w u xs) (hv : Sl .u8 G w v ys) :
    Calls Try.prog 27 #[u, v] w fun e w' => e = .returned (.bool (sameB xs ys)) ∧ w = w' := by
  have k1 := conv_sl (P := Try.prog) Try.underlying28 Try.underlying5 Try.underlying9 hu
  have k2 := conv_sl (P := Try.prog) Try.underlying28 Try.underlying5 Try.underlying9 hv
  clear hu hv
  unfold sameB
  generalize strOfNums xs = s at *
  generalize strOfNums ys = t at *
  go_enter Try.func27, Try.ntmps27
  go_wp2
  go_ret
  exact ⟨rfl, rfl⟩

def oneB (p q : Pk) : Bool := p.fr == q.fr && (p.dt == q.dt && sameB p.b q.b)
theorem oneB_refl (p : Pk) : oneB p p = true := by simp [oneB, sameB_refl]

theorem r21_One (F G : Nat → Prop) (p q : Pk) (u v : Value) (w : World) (hu : Sl .u8 F w u p.b) (hv : Sl .u8 G w v q.b) :
    Calls Try.prog 9 #[.agg #[.int .i64 p.fr, .int .i64 p.dt, u], .agg #[.int .i64 q.fr, .int .i64 q.dt, v]] w fun e w' => e = .returned (.bool (oneB p q)) ∧ Below w.heap.size w w' := by
  obtain ⟨A1, c1, rfl, _⟩ := id hu
  obtain ⟨A2, c2, rfl, _⟩ := id hv
  unfold oneB
  by_cases h1 : p.fr = q.fr
  · have h1' : (p.fr == q.fr) = true := by simp [h1]
    rw [h1', Bool.true_and]
    clear h1
    by_cases h2 : p.dt = q.dt
    · have h2' : (p.dt == q.dt) = true := by simp [h2]
      rw [h2', Bool.true_and]
      clear h2
      go_enter Try.func9, Try.ntmps9
      go_wp2_with (go_at_call 27; go_must (refine (r08_Same F G _ _ p.b q.b _ (hu.below (by repeat (first | with_reducible exact Below.refl _ _ | with_reducible assumption | apply bA | apply bN | apply bD | (refine bS ?_ _ _ (by first | exact Nat.le_refl _ | (simp; done) | (simp; omega) | omega)) | refine bT ?_ ?_ (by with_reducible assumption) | exact Nat.le_refl _ | (simp; done) | (simp; omega) | omega))) (hv.below (by repeat (first | with_reducible exact Below.refl _ _ | with_reducible assumption | apply bA | apply bN | apply bD | (refine bS ?_ _ _ (by first | exact Nat.le_refl _ | (simp; done) | (simp; omega) | omega)) | refine bT ?_ ?_ (by with_reducible assumption) | exact Nat.le_refl _ | (simp; done) | (simp; omega) | omega)))).mono ?_); rintro e w' ⟨rfl, rfl⟩)
      go_ret
      exact ⟨rfl, (by repeat (first | with_reducible exact Below.refl _ _ | with_reducible assumption | apply bA | apply bN | apply bD | (refine bS ?_ _ _ (by first | exact Nat.le_refl _ | (simp; done) | (simp; omega) | omega)) | refine bT ?_ ?_ (by with_reducible assumption) | exact Nat.le_refl _ | (simp; done) | (simp; omega) | omega))⟩
    · have h2' : (p.dt == q.dt) = false := by simp [h2]
      rw [h2', Bool.false_and]
      clear h2
      go_enter Try.func9, Try.ntmps9
      go_wp2
      go_ret
      exact ⟨rfl, (by repeat (first | with_reducible exact Below.refl _ _ | with_reducible assumption | apply bA | apply bN | apply bD | (refine bS ?_ _ _ (by first | exact Nat.le_refl _ | (simp; done) | (simp; omega) | omega)) | refine bT ?_ ?_ (by with_reducible assumption) | exact Nat.le_refl _ | (simp; done) | (simp; omega) | omega))⟩
  · have h1' : (p.fr == q.fr) = false := by simp [h1]
    rw [h1', Bool.false_and]
    clear h1
    go_enter Try.func9, Try.ntmps9
    go_wp2
    go_ret
    exact ⟨rfl, (by repeat (first | with_reducible exact Below.refl _ _ | with_reducible assumption | apply bA | apply bN | apply bD | (refine bS ?_ _ _ (by first | exact Nat.le_refl _ | (simp; done) | (simp; omega) | omega)) | refine bT ?_ ?_ (by with_reducible assumption) | exact Nat.le_refl _ | (simp; done) | (simp; omega) | omega))⟩
end Go.Proofs.Ytknhblhdkjgnbaa
