import Derived.Test.YtknhblhdkjgnbaaMem
import Derived.Laws.LoneSync
namespace Go.Proofs.Ytknhblhdkjgnbaa
open Go.RowKit

theorem Try.info_u8 : (Try.prog.info? 5).map (fun i => (i.zero, i.size, i.bytes)) = some (some (.int .u8 0), 1, 1) := by kernel_rfl

/-- What a call makes: a new row of its own, nothing else turned. -/
def NewRow (k : IntKind) (e : TypeId) (xs : List Int) (w : World) (r : Ending) (w' : World) : Prop :=
  ∃ v, r = .returned v ∧ w'.ownsRow w.heap.size e 1 v xs.length (xs.map (Value.int k)) ∧ Below w.heap.size w w'

theorem bytes_Clone (F : Nat → Prop) (v : Value) (bs : List Int) (w : World) (h : Sl .u8 F w v bs) (hb : bs.length ≤ 140737488355328) : Calls Try.prog 38 #[v] w (NewRow .u8 5 bs w) := by
  have kq := Lib.run_eql_slice_nil (P := Try.prog)
  obtain ⟨A, c, rfl, h2, h3, h4, h5⟩ := h.cells
  cases A with
  | none =>
    obtain rfl : c = 0 := h4 rfl
    have hl : bs.length = 0 := by omega
    have hbs : bs = [] := List.eq_nil_of_length_eq_zero hl
    subst hbs
    go_enter Try.func38, Try.ntmps38
    go_wp2
    go_ret
    exact ⟨_, rfl, World.ownsRow_nil _ _ _ _, Below.refl _ _⟩
  | some ad =>
    clear h4
    have H5 := Lib.hid h5; clear h5 h
    go_enter Try.func38, Try.ntmps38
    go_wp2_with (at_builtin; go_must (refine wpl_append rfl (.tmp 5) (.tmp 6) 28 rfl w.heap.size 5 1 1 (.int .u8 0) Try.underlying28 Try.info_u8 rfl (by decide) _ 0 [] rfl (own_lit0 w w.heap.size 5 (Nat.le_refl _)) (some ad) bs.length c (bs.map (Value.int .u8)) rfl (fun h => by cases h) h2 (by simp) ?news ints_one (by unfold maxLen; omega) (by omega) (by simp) ?_))
    case news =>
      intro j hj
      obtain ⟨ad1, e1, hc1⟩ := H5.out j hj
      exact ⟨ad1, e1, cell_al hc1 _⟩
    intro v' w' hown hg hat
    have hbel : Below w.heap.size w w' := ((Below.refl _ _).alloc (Nat.le_refl _) _).grown hg (by simp) (fun k h => by simp [Value.ownBlock] at h; omega)
    go_wp2
    go_ret
    exact ⟨_, rfl, hown, hbel⟩

/-- A value that a call hands back, by what it is. -/
def Back (P : Value → World → Prop) (r : Ending) (w' : World) : Prop := ∃ v, r = .returned v ∧ P v w'

theorem net_fresh (F : Nat → Prop) (f t : Int) (v : Value) (bs : List Int) (w : World) (h : Sl .u8 F w v bs) (hb : bs.length ≤ 140737488355328) :
    Calls Try.prog 29 #[.agg #[.int .i64 f, .int .i64 t, v]] w (Back fun r w' => ∃ v', r = .agg #[.int .i64 f, .int .i64 t, v'] ∧ w'.ownsRow w.heap.size 5 1 v' bs.length (bs.map (Value.int .u8)) ∧ Below w.heap.size w w') := by
  obtain ⟨A, c, rfl, _⟩ := id h
  go_enter Try.func29, Try.ntmps29
  go_wp2_with (go_at_call 38; go_must (refine (bytes_Clone F _ bs _ (h.below (by repeat (first | with_reducible exact Below.refl _ _ | with_reducible assumption | apply bA | apply bN | apply bD | (refine bS ?_ _ _ (by first | exact Nat.le_refl _ | (simp; done) | (simp; omega) | omega)) | refine bT ?_ ?_ (by with_reducible assumption) | exact Nat.le_refl _ | (simp; done) | (simp; omega) | omega))) hb).mono ?_); rintro e w1 ⟨v1, rfl, hown, hbel⟩; obtain ⟨A1, c1, rfl, _⟩ := Sl.own hown; obtain ⟨hc, hf⟩ := bcellN hbel (w.heap.size + 2) (by simp))
  refine bodyPost_ret (v := .agg #[.int .i64 f, .int .i64 t, .slice A1 bs.length c1]) (by simp [results, Try.results29, go_sem, hc]) rfl ⟨_, rfl, _, rfl, ?_, ?_⟩
  · refine own_low ?_ (base := w.heap.size + 2) (by omega)
    simp only [World.size_alloc] at hown
    exact (by repeat (first | with_reducible assumption | (refine ownsRow_setCell_below ?_ (by first | (simp; done) | (simp; omega) | omega) _) | refine own_low ?_ ?_ | exact Nat.le_refl _ | (simp; done) | (simp; omega) | omega))
  · exact (by repeat (first | with_reducible exact Below.refl _ _ | with_reducible assumption | apply bA | apply bN | apply bD | (refine bS ?_ _ _ (by first | exact Nat.le_refl _ | (simp; done) | (simp; omega) | omega)) | refine bT ?_ ?_ (by with_reducible assumption) | exact Nat.le_refl _ | (simp; done) | (simp; omega) | omega))

theorem atomic_Add (g o : Nat) (x y : Int) (w : World) (hc : w.cell? ⟨g, o, none⟩ = some (.int .i64 x)) (hz : w.frozen? ⟨g, o, none⟩ = false) :
    Calls Try.prog 36 #[.pointer (some ⟨g, o, none⟩), .int .i64 y] w fun e w' => e = .returned (.int .i64 (wrap64 (x + y))) ∧ w' = w.setCell ⟨g, o, none⟩ (.int .i64 (wrap64 (x + y))) := by
  have hadd := run_call_add (P := Try.prog) Try.func40 (by kernel_rfl) (by kernel_rfl) (by kernel_rfl) .i64 (by kernel_rfl) (y := y) (s := wrap64 (x + y)) hc hz (by simp [go_sem, wrap64, IntKind.wrap_i64])
  go_enter Try.func36, Try.ntmps36
  go_wp2
  go_ret
  exact ⟨rfl, rfl⟩

theorem atomic_Load (g o : Nat) (x : Int) (w : World) (hc : w.cell? ⟨g, o, none⟩ = some (.int .i64 x)) :
    Calls Try.prog 28 #[.pointer (some ⟨g, o, none⟩)] w fun e w' => e = .returned (.int .i64 x) ∧ w = w' := by
  have hl := run_call_load (P := Try.prog) Try.func37 (by kernel_rfl) (by kernel_rfl) (by kernel_rfl) .i64 (by kernel_rfl) hc
  go_enter Try.func28, Try.ntmps28
  go_wp2
  go_ret
  exact ⟨rfl, rfl⟩

theorem atomic_Store (g o : Nat) (x y : Int) (w : World) (hc : w.cell? ⟨g, o, none⟩ = some (.int .i64 x)) (hz : w.frozen? ⟨g, o, none⟩ = false) :
    Calls Try.prog 33 #[.pointer (some ⟨g, o, none⟩), .int .i64 y] w fun e w' => e = .returned (.tuple #[]) ∧ w' = w.setCell ⟨g, o, none⟩ (.int .i64 y) := by
  have hl := run_call_store (P := Try.prog) Try.func39 (by kernel_rfl) (by kernel_rfl) (by kernel_rfl) (by kernel_rfl) (k := .i64) (y := y) hc hz
  go_enter Try.func33, Try.ntmps33
  go_wp2
  go_end0
  exact ⟨rfl, rfl⟩
end Go.Proofs.Ytknhblhdkjgnbaa
