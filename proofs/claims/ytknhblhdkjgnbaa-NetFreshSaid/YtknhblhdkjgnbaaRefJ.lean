/- The program's net and the reference's, side by side, in memory that they do not share. Conditions: as typed. -/
import Derived.Test.YtknhblhdkjgnbaaRefI
namespace Go.Proofs.Ytknhblhdkjgnbaa
open Go.RowKit

/-- All that a net's memory is. -/
def Foot (g : Nat) (lv : Value) (F : Nat → Prop) (b : Nat) : Prop := b = g ∨ lv.ownBlock = some b ∨ F b

theorem NetStep.foot {F : Nat → Prop} {g : Nat} {lv : Value} {w w' : World} {nodes : Int} {M : List Pk} {s d l : Int} (h : NetStep F g lv w w' nodes M s d l) :
    ∃ F' lv', NetRep F' w' g nodes M s d l lv' ∧ (∀ b, Foot g lv' F' b → Foot g lv F b ∨ w.heap.size ≤ b) ∧ Fr (Foot g lv F) w w' := by
  obtain ⟨F', lv', h1, h2, h3, h4⟩ := h
  refine ⟨F', lv', h2, ?_, h4.mono (fun b _ h => h.elim .inl (fun h => .inr (.inl h)))⟩
  rintro b (h | h | h)
  · exact .inl (.inl h)
  · rcases h3 with h3 | ⟨k, h3, hk⟩
    · exact .inl (.inr (.inl (by rw [← h3]; exact h)))
    · rw [h3] at h
      cases h
      exact .inr hk
  · exact (h1 b h).imp (fun h => .inr (.inr h)) id
theorem Ref.NetStep.foot {F : Nat → Prop} {g : Nat} {lv : Value} {w w' : World} {nodes : Int} {M : List Pk} {s d l : Int} (h : Ref.NetStep F g lv w w' nodes M s d l) :
    ∃ F' lv', Ref.NetRep F' w' g nodes M s d l lv' ∧ (∀ b, Foot g lv' F' b → Foot g lv F b ∨ w.heap.size ≤ b) ∧ Fr (Foot g lv F) w w' := by
  obtain ⟨F', lv', h1, h2, h3, h4⟩ := h
  refine ⟨F', lv', h2, ?_, h4.mono (fun b _ h => h.elim .inl (fun h => .inr (.inl h)))⟩
  rintro b (h | h | h)
  · exact .inl (.inl h)
  · rcases h3 with h3 | ⟨k, h3, hk⟩
    · exact .inl (.inr (.inl (by rw [← h3]; exact h)))
    · rw [h3] at h
      cases h
      exact .inr hk
  · exact (h1 b h).imp (fun h => .inr (.inr h)) id
theorem NetRep.foot_fr {F M : Nat → Prop} {w w' : World} {g : Nat} {nodes s d l : Int} {L : List Pk} {lv : Value} (h : NetRep F w g nodes L s d l lv) (hf : Fr M w w') (hm : ∀ b, Foot g lv F b → ¬ M b) : NetRep F w' g nodes L s d l lv :=
  h.fr hf (hm g (.inl rfl)) (fun k hk => hm k (.inr (.inl hk))) (fun b hb => hm b (.inr (.inr hb)))
theorem Ref.NetRep.foot_fr {F M : Nat → Prop} {w w' : World} {g : Nat} {nodes s d l : Int} {L : List Pk} {lv : Value} (h : Ref.NetRep F w g nodes L s d l lv) (hf : Fr M w w') (hm : ∀ b, Foot g lv F b → ¬ M b) : Ref.NetRep F w' g nodes L s d l lv :=
  h.fr hf (hm g (.inl rfl)) (fun k hk => hm k (.inr (.inl hk))) (fun b hb => hm b (.inr (.inr hb)))
theorem NetRep.foot_lt {F : Nat → Prop} {w : World} {g : Nat} {nodes s d l : Int} {L : List Pk} {lv : Value} (h : NetRep F w g nodes L s d l lv) : ∀ b, Foot g lv F b → b < w.heap.size := by
  rintro b (rfl | hb | hb)
  · exact NetRep.lt h
  · exact NetRep.row_lt h b hb
  · obtain ⟨Z, _, hZ⟩ := h
    exact hZ.2.2.2.2.2 b hb
theorem Ref.NetRep.foot_lt {F : Nat → Prop} {w : World} {g : Nat} {nodes s d l : Int} {L : List Pk} {lv : Value} (h : Ref.NetRep F w g nodes L s d l lv) : ∀ b, Foot g lv F b → b < w.heap.size := by
  rintro b (rfl | hb | hb)
  · exact Ref.NetRep.lt h
  · exact Ref.NetRep.row_lt h b hb
  · obtain ⟨Z, _, hZ⟩ := h
    exact hZ.2.2.2.2.2 b hb

/-- Both nets at once; N is where the call's own memory begins. -/
structure Pair (B T N : Nat) (w0 w : World) (lv : Value) (F : Nat → Prop) (L : List Pk) (s d l : Int) (tv : Value) (G : Nat → Prop) (M : List Pk) (a b c : Int) : Prop where
  net : NetRep F w B 5 L s d l lv
  ref : Ref.NetRep G w T 5 M a b c tv
  sep : ∀ x, Foot B lv F x → ¬ Foot T tv G x
  own : ∀ x, Foot B lv F x ∨ Foot T tv G x → N ≤ x
  low : Below N w0 w
  size : N ≤ w.heap.size

namespace Pair
variable {B T N : Nat} {w0 w w1 : World} {lv tv : Value} {F G : Nat → Prop} {L M L' : List Pk} {s d l a b c s' d' l' : Int}
theorem fr (h : Pair B T N w0 w lv F L s d l tv G M a b c) {K : Nat → Prop} (hf : Fr K w w1) (h1 : ∀ x, Foot B lv F x → ¬ K x) (h2 : ∀ x, Foot T tv G x → ¬ K x) (h3 : ∀ x, K x → N ≤ x) : Pair B T N w0 w1 lv F L s d l tv G M a b c :=
  ⟨h.net.foot_fr hf h1, h.ref.foot_fr hf h2, h.sep, h.own, h.low.trans (hf.below h.size h3), Nat.le_trans h.size hf.size⟩
theorem bel (h : Pair B T N w0 w lv F L s d l tv G M a b c) (hb : Below w.heap.size w w1) : Pair B T N w0 w1 lv F L s d l tv G M a b c :=
  h.fr (Fr.bel (fun _ => False) hb) (fun _ _ h => h) (fun _ _ h => h) (fun _ h => h.elim)
theorem step (h : Pair B T N w0 w lv F L s d l tv G M a b c) (hs : NetStep F B lv w w1 5 L' s' d' l') : ∃ lv' F', Pair B T N w0 w1 lv' F' L' s' d' l' tv G M a b c := by
  obtain ⟨F', lv', h1, h2, h3⟩ := hs.foot
  refine ⟨lv', F', h1, h.ref.foot_fr h3 (fun x hx hy => h.sep x hy hx), ?_, ?_, h.low.trans (h3.below h.size (fun x hx => h.own x (.inl hx))), Nat.le_trans h.size h3.size⟩
  · intro x hx hy
    rcases h2 x hx with hx | hx
    · exact h.sep x hx hy
    · have := h.ref.foot_lt x hy
      omega
  · rintro x (hx | hx)
    · rcases h2 x hx with hx | hx
      · exact h.own x (.inl hx)
      · exact Nat.le_trans h.size hx
    · exact h.own x (.inr hx)
theorem rstep (h : Pair B T N w0 w lv F L s d l tv G M a b c) (hs : Ref.NetStep G T tv w w1 5 L' s' d' l') : ∃ tv' G', Pair B T N w0 w1 lv F L s d l tv' G' L' s' d' l' := by
  obtain ⟨F', lv', h1, h2, h3⟩ := hs.foot
  refine ⟨lv', F', h.net.foot_fr h3 (fun x hx hy => h.sep x hx hy), h1, ?_, ?_, h.low.trans (h3.below h.size (fun x hx => h.own x (.inr hx))), Nat.le_trans h.size h3.size⟩
  · intro x hx hy
    rcases h2 x hy with hy | hy
    · exact h.sep x hx hy
    · have := h.net.foot_lt x hx
      omega
  · rintro x (hx | hx)
    · exact h.own x (.inl hx)
    · rcases h2 x hx with hx | hx
      · exact h.own x (.inr hx)
      · exact Nat.le_trans h.size hx
/-- As step, with what the net's memory has become. -/
theorem step2 (h : Pair B T N w0 w lv F L s d l tv G M a b c) (hs : NetStep F B lv w w1 5 L' s' d' l') : ∃ lv' F', Pair B T N w0 w1 lv' F' L' s' d' l' tv G M a b c ∧ (∀ x, Foot B lv' F' x → Foot B lv F x ∨ w.heap.size ≤ x) ∧ Fr (Foot B lv F) w w1 := by
  obtain ⟨F', lv', h1, h2, h3⟩ := hs.foot
  refine ⟨lv', F', ⟨h1, h.ref.foot_fr h3 (fun x hx hy => h.sep x hy hx), ?_, ?_, h.low.trans (h3.below h.size (fun x hx => h.own x (.inl hx))), Nat.le_trans h.size h3.size⟩, h2, h3⟩
  · intro x hx hy
    rcases h2 x hx with hx | hx
    · exact h.sep x hx hy
    · have := h.ref.foot_lt x hy
      omega
  · rintro x (hx | hx)
    · rcases h2 x hx with hx | hx
      · exact h.own x (.inl hx)
      · exact Nat.le_trans h.size hx
    · exact h.own x (.inr hx)
theorem rstep2 (h : Pair B T N w0 w lv F L s d l tv G M a b c) (hs : Ref.NetStep G T tv w w1 5 L' s' d' l') : ∃ tv' G', Pair B T N w0 w1 lv F L s d l tv' G' L' s' d' l' ∧ (∀ x, Foot T tv' G' x → Foot T tv G x ∨ w.heap.size ≤ x) ∧ Fr (Foot T tv G) w w1 := by
  obtain ⟨F', lv', h1, h2, h3⟩ := hs.foot
  refine ⟨lv', F', ⟨h.net.foot_fr h3 (fun x hx hy => h.sep x hx hy), h1, ?_, ?_, h.low.trans (h3.below h.size (fun x hx => h.own x (.inr hx))), Nat.le_trans h.size h3.size⟩, h2, h3⟩
  · intro x hx hy
    rcases h2 x hy with hy | hy
    · exact h.sep x hx hy
    · have := h.net.foot_lt x hx
      omega
  · rintro x (hx | hx)
    · exact h.own x (.inl hx)
    · rcases h2 x hx with hx | hx
      · exact h.own x (.inr hx)
      · exact Nat.le_trans h.size hx
end Pair
end Go.Proofs.Ytknhblhdkjgnbaa
