/- Both nets and a copy, in memory that no two of them share; a list of packets that is wiped. Conditions: as typed. -/
import Derived.Test.YtknhblhdkjgnbaaRefP
namespace Go.Proofs.Ytknhblhdkjgnbaa
open Go.RowKit

/-- Both nets, and a copy of the first (at block m). -/
structure Trio (B T N : Nat) (w0 w : World) (lv : Value) (F : Nat → Prop) (L : List Pk) (s d l : Int) (tv : Value) (G : Nat → Prop) (M : List Pk) (a b c : Int) (m : Nat) (mv : Value) (H : Nat → Prop) (K : List Pk) (p q r : Int) : Prop where
  pair : Pair B T N w0 w lv F L s d l tv G M a b c
  cp : NetRep H w m 5 K p q r mv
  sep : ∀ x, Foot m mv H x → ¬ Foot B lv F x ∧ ¬ Foot T tv G x
  own : ∀ x, Foot m mv H x → N ≤ x

namespace Trio
variable {B T N m : Nat} {w0 w w1 : World} {lv tv mv : Value} {F G H : Nat → Prop} {L M K L' : List Pk} {s d l a b c p q r s' d' l' : Int}
theorem fr (h : Trio B T N w0 w lv F L s d l tv G M a b c m mv H K p q r) {J : Nat → Prop} (hf : Fr J w w1) (h1 : ∀ x, Foot B lv F x → ¬ J x) (h2 : ∀ x, Foot T tv G x → ¬ J x) (h3 : ∀ x, Foot m mv H x → ¬ J x) (h4 : ∀ x, J x → N ≤ x) :
    Trio B T N w0 w1 lv F L s d l tv G M a b c m mv H K p q r :=
  ⟨h.pair.fr hf h1 h2 h4, h.cp.foot_fr hf h3, h.sep, h.own⟩
theorem bel (h : Trio B T N w0 w lv F L s d l tv G M a b c m mv H K p q r) (hb : Below w.heap.size w w1) : Trio B T N w0 w1 lv F L s d l tv G M a b c m mv H K p q r :=
  h.fr (Fr.bel (fun _ => False) hb) (fun _ _ h => h) (fun _ _ h => h) (fun _ _ h => h) (fun _ h => h.elim)
theorem new (h : Pair B T N w0 w lv F L s d l tv G M a b c) (hb : Below w.heap.size w w1) (hc : NetRep H w1 m 5 K p q r mv) (hm : w.heap.size ≤ m) (hH : ∀ b, H b → w.heap.size ≤ b) (hv : ∀ b, mv.ownBlock = some b → w.heap.size ≤ b) :
    Trio B T N w0 w1 lv F L s d l tv G M a b c m mv H K p q r := by
  have hx : ∀ x, Foot m mv H x → w.heap.size ≤ x := by
    rintro x (rfl | hx | hx)
    · exact hm
    · exact hv x hx
    · exact hH x hx
  refine ⟨h.bel hb, hc, fun x hm => ⟨fun hy => ?_, fun hy => ?_⟩, fun x hm => Nat.le_trans h.size (hx x hm)⟩
  · have := hx x hm
    have := h.net.foot_lt x hy
    omega
  · have := hx x hm
    have := h.ref.foot_lt x hy
    omega
/-- A call of a method of the copy. -/
theorem cstep (h : Trio B T N w0 w lv F L s d l tv G M a b c m mv H K p q r) (hs : NetStep H m mv w w1 5 L' s' d' l') : ∃ mv' H', Trio B T N w0 w1 lv F L s d l tv G M a b c m mv' H' L' s' d' l' := by
  obtain ⟨F', lv', h1, h2, h3⟩ := hs.foot
  refine ⟨lv', F', h.pair.fr h3 (fun x hx hy => (h.sep x hy).1 hx) (fun x hx hy => (h.sep x hy).2 hx) (fun x hx => h.own x hx), h1, ?_, ?_⟩
  · intro x hx
    rcases h2 x hx with hx | hx
    · exact h.sep x hx
    · refine ⟨fun hy => ?_, fun hy => ?_⟩
      · have := h.pair.net.foot_lt x hy
        omega
      · have := h.pair.ref.foot_lt x hy
        omega
  · intro x hx
    rcases h2 x hx with hx | hx
    · exact h.own x hx
    · exact Nat.le_trans h.pair.size hx
/-- A call of a method of the reference's net. -/
theorem rstep (h : Trio B T N w0 w lv F L s d l tv G M a b c m mv H K p q r) (hs : Ref.NetStep G T tv w w1 5 L' s' d' l') : ∃ tv' G', Trio B T N w0 w1 lv F L s d l tv' G' L' s' d' l' m mv H K p q r := by
  obtain ⟨tv', G', h1, h2, h3⟩ := h.pair.rstep2 hs
  refine ⟨tv', G', h1, h.cp.foot_fr h3 (fun x hx => (h.sep x hx).2), ?_, h.own⟩
  intro x hx
  refine ⟨(h.sep x hx).1, fun hy => ?_⟩
  rcases h2 x hy with hy | hy
  · exact (h.sep x hx).2 hy
  · have := h.cp.foot_lt x hx
    omega
/-- The first packet is delivered: its bytes lie in none of the three nets. -/
theorem deliver (h : Trio B T N w0 w lv F L s d l tv G M a b c m mv H K p q r) {e : Ending} (hL : 0 < L.length) (hd : DeliverR F B lv 5 L s d l 0 w e w1) :
    ∃ z X bv lv' F', L = z :: X ∧ e = .returned (.tuple #[.agg #[.int .i64 z.fr, .int .i64 z.dt, bv], .int .i64 0]) ∧ Bs w1 bv z.b ∧ Trio B T N w0 w1 lv' F' X s (wrap64 (d + 1)) l tv G M a b c m mv H K p q r ∧
      (∀ x, bv.ownBlock = some x → ¬ Foot B lv' F' x ∧ ¬ Foot T tv G x ∧ ¬ Foot m mv H x ∧ N ≤ x) := by
  rcases hd with ⟨h0, _⟩ | ⟨L1, z, L2, bv, F', hLe, hl, rfl, h1, h2, h3, lv', h4, h5, h6⟩
  · unfold placeErr at h0
    rw [if_pos (by omega)] at h0
    omega
  · obtain rfl : L1 = [] := List.eq_nil_of_length_eq_zero (by omega)
    subst hLe
    have hfo : ∀ x, Foot B lv' F' x → Foot B lv F x := by
      rintro x (hx | hx | hx)
      · exact .inl hx
      · exact .inr (.inl (by rw [← h5]; exact hx))
      · exact .inr (.inr (h3 x hx))
    have hfr : Fr (Foot B lv F) w w1 := h6.mono (fun x _ hx => hx.elim .inl (fun hx => .inr (.inl hx)))
    refine ⟨z, L2, bv, lv', F', rfl, rfl, h1, ⟨⟨h4, h.pair.ref.foot_fr hfr (fun x hx hy => h.pair.sep x hy hx), fun x hx => h.pair.sep x (hfo x hx), ?_, ?_, ?_⟩, h.cp.foot_fr hfr (fun x hx => (h.sep x hx).1), ?_, h.own⟩, ?_⟩
    · rintro x (hx | hx)
      · exact h.pair.own x (.inl (hfo x hx))
      · exact h.pair.own x (.inr hx)
    · exact h.pair.low.trans (hfr.below h.pair.size (fun x hx => h.pair.own x (.inl hx)))
    · exact Nat.le_trans h.pair.size hfr.size
    · exact fun x hx => ⟨fun hy => (h.sep x hx).1 (hfo x hy), (h.sep x hx).2⟩
    · intro x hx
      obtain ⟨h7, h8⟩ := h2 x hx
      have h9 : Foot B lv F x := .inr (.inr h7)
      refine ⟨?_, fun hy => h.pair.sep x h9 hy, fun hy => (h.sep x hy).1 h9, h.pair.own x (.inl h9)⟩
      rintro (rfl | hy | hy)
      · exact (NetRep.not_g h.pair.net).1 h7
      · exact (NetRep.not_g h.pair.net).2 x (by rw [← h5]; exact hy) h7
      · exact h8 hy
end Trio

/-- An empty packet. -/
def noPV : PV := (⟨0, 0, []⟩, .slice none 0 0)
/-- One packet's bytes are overwritten, and the packet is struck. -/
theorem PkZ.wipe {B k b o n c : Nat} {w w1 w2 : World} {Y X : List PV} {z : PV} (h : PkZ B w (.slice (some ⟨b, o, none⟩) n c) (Y ++ z :: X)) (hk : Y.length = k) (hf : Fr (fun x => z.2.ownBlock = some x) w w1)
    (h2 : w2 = ((w1.setCell ⟨b, o + k * 3, none⟩ (.int .i64 0)).setCell ⟨b, o + k * 3 + 1, none⟩ (.int .i64 0)).setCell ⟨b, o + k * 3 + 2, none⟩ (.slice none 0 0)) :
    PkZ B w2 (.slice (some ⟨b, o, none⟩) n c) (Y ++ noPV :: X) ∧ Fr (fun x => B ≤ x) w w2 := by
  obtain ⟨g1, g2, g3⟩ := h
  have hB : B ≤ b := g3 b rfl
  have hzB : ∀ x, z.2.ownBlock = some x → B ≤ x ∧ x ≠ b := by
    intro x hx
    obtain ⟨h1, cs, h3⟩ := (g2.1 z (by simp)).2 x hx
    refine ⟨h1, fun e => ?_⟩
    subst e
    obtain ⟨cs2, h4⟩ := g1.typed x rfl
    rw [h3] at h4
    simp at h4
  have hf2 : Fr (fun x => z.2.ownBlock = some x ∨ x = b) w w2 := by
    rw [h2]
    exact (((hf.mono (N := fun x => z.2.ownBlock = some x ∨ x = b) (fun _ _ h => .inl h)).set _ _ (fun _ => .inr rfl)).set _ _ (fun _ => .inr rfl)).set _ _ (fun _ => .inr rfl)
  have hf3 : Fr (fun x => B ≤ x) w w2 := hf2.mono (fun x _ h => by
    rcases h with h | h
    · exact (hzB x h).1
    · omega)
  have hne : ∀ y ∈ Y ++ X, ∀ x, y.2.ownBlock = some x → z.2.ownBlock ≠ some x ∧ x ≠ b := by
    intro y hy x hx
    have hy' : y ∈ Y ++ z :: X := by
      rcases List.mem_append.1 hy with hy | hy
      · exact List.mem_append.2 (.inl hy)
      · exact List.mem_append.2 (.inr (List.mem_cons_of_mem _ hy))
    refine ⟨fun e => ?_, fun e => ?_⟩
    · have hp := g2.2
      rw [List.pairwise_append] at hp
      obtain ⟨_, hp2, hp3⟩ := hp
      rw [List.pairwise_cons] at hp2
      rcases List.mem_append.1 hy with hy | hy
      · exact hp3 y hy z (by simp) x hx e
      · exact hp2.1 y hy x e hx
    · subst e
      obtain ⟨_, cs, h3⟩ := (g2.1 y hy').2 x hx
      obtain ⟨cs2, h4⟩ := g1.typed x rfl
      rw [h3] at h4
      simp at h4
  refine ⟨⟨?_, ⟨?_, ?_⟩, g3⟩, hf3⟩
  · -- the row
    have g1' : Row w1 34 3 (.slice (some ⟨b, o, none⟩) n c) (Y ++ z :: X).length (pvCells (Y ++ z :: X)) := g1.fr hf (fun x hx e => (hzB x e).2 (by cases hx; rfl))
    obtain ⟨e1, e2⟩ := g1'
    refine ⟨by rw [pvCells_len], ?_⟩
    rcases e2 with ⟨_, h0⟩ | ⟨b', o', c', cur, hv, hn, hc, hh, hs, ht⟩
    · simp at h0
    · simp only [Value.slice.injEq, Option.some.injEq, Addr.mk.injEq, and_true] at hv
      obtain ⟨⟨rfl, rfl⟩, hnl, rfl⟩ := hv
      have hlen : (Y ++ z :: X).length = (Y ++ noPV :: X).length := by simp
      refine .inr ⟨b, o, c, ((cur.setIfInBounds (o + k * 3) (.int .i64 0)).setIfInBounds (o + k * 3 + 1) (.int .i64 0)).setIfInBounds (o + k * 3 + 2) (.slice none 0 0), by rw [hnl, hlen], by rw [← hlen]; exact hn, hc, ?_, by simpa using hs, ?_⟩
      · rw [h2]
        simp [World.setCell, Array.getElem?_modify, hh]
      · rw [pvCells_app, pvCells_cons] at ht
        have hl1 : (Y ++ z :: X).length * 3 = (Y ++ noPV :: X).length * 3 := by rw [hlen]
        rw [← hl1]
        rw [pvCells_app, pvCells_cons]
        have hYl : (pvCells Y).length = k * 3 := by rw [pvCells_len, hk]
        simp only [Array.toList_setIfInBounds]
        have hsz : o + k * 3 + 2 < o + (Y ++ z :: X).length * 3 := by simp; omega
        apply List.ext_getElem?
        intro j
        have htj := congrArg (fun l => l[j]?) ht
        simp only [List.getElem?_take, List.getElem?_drop] at htj ⊢
        by_cases hj : j < (Y ++ z :: X).length * 3
        · rw [if_pos hj] at htj ⊢
          simp only [List.getElem?_set]
          have hcs : o + (Y ++ z :: X).length * 3 ≤ cur.size := by
            have := Nat.mul_le_mul_right 3 hn
            omega
          by_cases j0 : j < k * 3
          · rw [if_neg (by omega), if_neg (by omega), if_neg (by omega), htj, List.getElem?_append_left (by omega), List.getElem?_append_left (by omega)]
          · rw [List.getElem?_append_right (by omega), hYl] at htj ⊢
            by_cases j1 : j = k * 3
            · subst j1
              rw [if_neg (by omega), if_neg (by omega), if_pos (by omega)]
              simp [noPV]
              omega
            · by_cases j2 : j = k * 3 + 1
              · subst j2
                rw [if_neg (by omega), if_pos (by omega)]
                simp [noPV]
                omega
              · by_cases j3 : j = k * 3 + 2
                · subst j3
                  rw [if_pos (by omega)]
                  simp [noPV]
                  omega
                · rw [if_neg (by omega), if_neg (by omega), if_neg (by omega), htj]
                  obtain ⟨i, rfl⟩ : ∃ i, j = k * 3 + 3 + i := ⟨j - (k * 3 + 3), by omega⟩
                  rw [show k * 3 + 3 + i - k * 3 = i + 3 by omega]
                  simp
        · rw [if_neg hj]
          symm
          apply List.getElem?_eq_none
          rw [← pvCells_cons, ← pvCells_app, pvCells_len]
          omega
  · intro y hy
    rcases List.mem_append.1 hy with hy | hy
    · obtain ⟨h5, h6⟩ := g2.1 y (by simp [hy])
      refine ⟨h5.fr hf2 (fun x _ hx h => ?_), fun x hx => ?_⟩
      · obtain ⟨n1, n2⟩ := hne y (by simp [hy]) x hx
        rcases h with h | h
        · exact n1 h
        · exact n2 h
      · obtain ⟨h7, cs, h8⟩ := h6 x hx
        obtain ⟨n1, n2⟩ := hne y (by simp [hy]) x hx
        exact ⟨h7, cs, hf2.block h8 (fun h => h.elim n1 n2)⟩
    · rcases List.mem_cons.1 hy with rfl | hy
      · exact ⟨Row.nil _ _ _, fun x hx => by simp [noPV, Value.ownBlock] at hx⟩
      · obtain ⟨h5, h6⟩ := g2.1 y (by simp [hy])
        refine ⟨h5.fr hf2 (fun x _ hx h => ?_), fun x hx => ?_⟩
        · obtain ⟨n1, n2⟩ := hne y (by simp [hy]) x hx
          rcases h with h | h
          · exact n1 h
          · exact n2 h
        · obtain ⟨h7, cs, h8⟩ := h6 x hx
          obtain ⟨n1, n2⟩ := hne y (by simp [hy]) x hx
          exact ⟨h7, cs, hf2.block h8 (fun h => h.elim n1 n2)⟩
  · have hp := g2.2
    rw [List.pairwise_append] at hp ⊢
    obtain ⟨hp1, hp2, hp3⟩ := hp
    rw [List.pairwise_cons] at hp2 ⊢
    refine ⟨hp1, ⟨fun y hy x hx => by simp [noPV, Value.ownBlock] at hx, hp2.2⟩, fun y hy z' hz' => ?_⟩
    rcases List.mem_cons.1 hz' with rfl | hz'
    · intro x _ hx
      simp [noPV, Value.ownBlock] at hx
    · exact hp3 y hy z' (by simp [hz'])
end Go.Proofs.Ytknhblhdkjgnbaa
