/- What Spoil writes: into its slice's own block, or into a new one. Conditions: as typed. -/
import Derived.Test.YtknhblhdkjgnbaaMemR
import Derived.Test.YtknhblhdkjgnbaaNetB
namespace Go.Proofs.Ytknhblhdkjgnbaa
open Go.RowKit

theorem Row.set1 {w : World} {e n c b o k : Nat} {xs : List Value} {x : Value} (h : Row w e 1 (.slice (some ⟨b, o, none⟩) n c) n xs) (hk : k < n) :
    Row (w.setCell ⟨b, o + k, none⟩ x) e 1 (.slice (some ⟨b, o, none⟩) n c) n (xs.set k x) := by
  refine ⟨by simpa using h.1, ?_⟩
  rcases h.2 with ⟨_, h0⟩ | ⟨b', o', c', cur, hv, h1, h2, h3, h4, h5⟩
  · omega
  · simp only [Value.slice.injEq, Option.some.injEq, Addr.mk.injEq, and_true, true_and] at hv
    obtain ⟨⟨rfl, rfl⟩, rfl⟩ := hv
    refine .inr ⟨b, o, c, cur.setIfInBounds (o + k) x, rfl, h1, h2, ?_, by simpa using h4, ?_⟩
    · simp [World.setCell, Array.getElem?_modify, h3]
    · rw [← h5]
      rw [show (cur.setIfInBounds (o + k) x).toList = cur.toList.set (o + k) x by simp, List.drop_set, if_neg (by omega), Nat.add_sub_cancel_left, List.take_set]
theorem Row.cell1 {w : World} {e n c b o k : Nat} {xs : List Value} (h : Row w e 1 (.slice (some ⟨b, o, none⟩) n c) n xs) (hk : k < n) :
    (∃ x, w.cell? ⟨b, o + k, none⟩ = some x) ∧ w.frozen? ⟨b, o + k, none⟩ = false := by
  rcases h.2 with ⟨_, h0⟩ | ⟨b', o', c', cur, hv, h1, h2, h3, h4, h5⟩
  · omega
  · simp only [Value.slice.injEq, Option.some.injEq, Addr.mk.injEq, and_true, true_and] at hv
    obtain ⟨⟨rfl, rfl⟩, rfl⟩ := hv
    refine ⟨⟨cur[o + k]'(by omega), ?_⟩, ?_⟩
    · simp [World.cell?, h3]
    · simp [World.frozen?, h3]
theorem Row.plain {w : World} {e size n c : Nat} {A : Option Addr} {xs : List Value} (h : Row w e size (.slice A n c) n xs) (hn : 0 < n) : ∃ b o, A = some ⟨b, o, none⟩ := by
  rcases h.2 with ⟨_, h0⟩ | ⟨b', o', c', cur, hv, h1, h2, h3, h4, h5⟩
  · omega
  · simp only [Value.slice.injEq, true_and] at hv
    exact ⟨b', o', hv.1⟩

set_option maxRecDepth 100000 in
set_option maxHeartbeats 800000 in
theorem r08_Spoil (n : Nat) (m : Int) (v : Value) (xs : List Value) (w : World) (h : Row w 5 1 v n xs) (hn : n ≤ 1048576) :
    Calls Try.prog 19 #[v, .int .u8 m] w fun e w' => e = .returned (.tuple #[]) ∧ Fr (fun b => v.ownBlock = some b) w w' := by
  obtain ⟨A, c, rfl, hnc, hcm, hA⟩ := h.slice
  have H := Lib.hid h; clear h hA
  go_enter Try.func19, Try.ntmps19
  go_wp2_with fail
  go_loopw [4] (fun i wr => ∃ (k : Nat) (ys : List Value), k ≤ n ∧ i = .int .i64 k ∧ Row wr 5 1 (.slice A n c) n ys ∧ Fr (fun b => (Value.slice A n c).ownBlock = some b) w wr) (fun i _ => n - (intOf i).toNat)
  case atStart => exact ⟨0, xs, Nat.zero_le _, rfl, H.out, Fr.refl _ _⟩
  case round =>
    obtain ⟨k, ys, hk, rfl, hr, hf⟩ := hrel
    by_cases hlt : k < n
    · obtain ⟨b, o, rfl⟩ := hr.plain (by omega)
      obtain ⟨⟨x, hx⟩, hz⟩ := hr.cell1 hlt
      have HR := Lib.hid hr; have HF := Lib.hid hf; clear hr hf
      go_wp2
      go_roundw
      case rel => exact ⟨k + 1, _, by omega, by go_num, HR.out.set1 hlt, HF.out.set ⟨b, o + k, none⟩ _ (fun _ => rfl)⟩
      case measure => simp [intOf]; omega
    · obtain rfl : k = n := by omega
      have HR := Lib.hid hr; have HF := Lib.hid hf; clear hr hf
      have hlw : ∀ j, (Value.slice A k c).ownBlock = some j → j < wr.heap.size := HR.out.lt
      have HLW := Lib.hid hlw; clear hlw
      go_wp2_with (first
        | (at_builtin; go_must (refine wpl_appendR rfl _ _ _ rfl 5 1 1 _ Try.underlying28 Try.info_u8 rfl (by omega) (.slice A k c) k ys rfl (HR.out.bel (by repeat (first | with_reducible exact Below.refl _ _ | with_reducible assumption | apply bA | apply bN | apply bD | (refine bS ?_ _ _ (by first | exact Nat.le_refl _ | (simp; done) | (simp; omega) | omega)) | refine bT ?_ ?_ (by with_reducible assumption) | exact Nat.le_refl _ | (simp; done) | (simp; omega) | omega))) (some ⟨_, 0, none⟩) 3 3 [.int .u8 m, .int .u8 m, .int .u8 m] rfl (fun h => by cases h) (by omega) rfl (news_one _ _ _) (by simp [Value.oneCell']) (by unfold maxLen; omega) (by omega) ?_); intro A2 c2 w2 hown2 hgrow2 hat2 hat2'; have HR2 := Lib.hid hown2; (have HF2 : Hid (Fr (fun b => (Value.slice A k c).ownBlock = some b) w w2) := (HF.out.trans (Fr.bel (fun b => (Value.slice A k c).ownBlock = some b) (by repeat (first | with_reducible exact Below.refl _ _ | with_reducible assumption | apply bA | apply bN | apply bD | (refine bS ?_ _ _ (by first | exact Nat.le_refl _ | (simp; done) | (simp; omega) | omega)) | refine bT ?_ ?_ (by with_reducible assumption) | exact Nat.le_refl _ | (simp; done) | (simp; omega) | omega))) (fun _ _ h => h)).trans (Fr.of_grown hgrow2) (fun b _ h => h.symm)); (have HAT : Hid (∀ b, (Value.slice A2 (k + 3) c2).ownBlock = some b → b < w.heap.size → (Value.slice A k c).ownBlock = some b) := (by intro b hb hlt'; rcases hat2 with h | ⟨j, h, hj⟩; exact h ▸ hb; exact absurd (HF.out.size) (by rw [h] at hb; cases hb; simp at hj; omega))); clear hown2 hgrow2 hat2 hat2'))
      go_loopw [5] (fun i wr => ∃ (j : Nat) (zs : List Value), j ≤ k + 3 ∧ i = .int .i64 j ∧ Row wr 5 1 (.slice A2 (k + 3) c2) (k + 3) zs ∧ Fr (fun b => (Value.slice A k c).ownBlock = some b) w wr) (fun i _ => k + 3 - (intOf i).toNat)
      case atStart => exact ⟨0, _, Nat.zero_le _, rfl, HR2.out, HF2.out⟩
      case round =>
        obtain ⟨j, zs, hj, rfl, hr, hf⟩ := hrel
        by_cases hjt : j < k + 3
        · obtain ⟨b, o, rfl⟩ := hr.plain (by omega)
          obtain ⟨⟨x, hx⟩, hz⟩ := hr.cell1 hjt
          have HR3 := Lib.hid hr; have HF3 := Lib.hid hf; clear hr hf
          go_wp2
          go_roundw
          case rel => exact ⟨j + 1, _, by omega, by go_num, HR3.out.set1 hjt, HF3.out.set ⟨b, o + j, none⟩ _ (fun hl => HAT.out b rfl hl)⟩
          case measure => simp [intOf]; omega
        · obtain rfl : j = k + 3 := by omega
          have HF3 := Lib.hid hf; clear hr hf
          go_wp2
          go_end0
          exact ⟨rfl, HF3.out⟩
end Go.Proofs.Ytknhblhdkjgnbaa
