/- The reference's net in memory. Conditions: as typed. -/
import Derived.Test.YtknhblhdkjgnbaaNetM
namespace Go.Proofs.Ytknhblhdkjgnbaa.Ref
open Go.RowKit Go.Proofs.Ytknhblhdkjgnbaa

/-- The block of a net: its nodes, its row, and its three counts. -/
def NetAt (w : World) (g : Nat) (nodes : Int) (lv : Value) (s d l : Int) : Prop :=
  w.heap[g]? = some (.cells #[.int .i64 nodes, lv, .int .i64 s, .int .i64 d, .int .i64 l] 46 (0, 0))

theorem NetAt.cells {w : World} {g : Nat} {nodes s d l : Int} {lv : Value} (h : NetAt w g nodes lv s d l) :
    w.cell? ⟨g, 0, none⟩ = some (.int .i64 nodes) ∧ w.cell? ⟨g, 1, none⟩ = some lv ∧ w.cell? ⟨g, 2, none⟩ = some (.int .i64 s) ∧ w.cell? ⟨g, 3, none⟩ = some (.int .i64 d) ∧ w.cell? ⟨g, 4, none⟩ = some (.int .i64 l) := by
  unfold NetAt at h
  refine ⟨?_, ?_, ?_, ?_, ?_⟩ <;> simp [World.cell?, h]
theorem NetAt.frozen {w : World} {g : Nat} {nodes s d l : Int} {lv : Value} (h : NetAt w g nodes lv s d l) (i : Nat) : w.frozen? ⟨g, i, none⟩ = false := by
  unfold NetAt at h
  simp [World.frozen?, h]
theorem NetAt.set1 {w : World} {g : Nat} {nodes s d l : Int} {lv : Value} (h : NetAt w g nodes lv s d l) (v : Value) : NetAt (w.setCell ⟨g, 1, none⟩ v) g nodes v s d l := by
  unfold NetAt at *
  simp [World.setCell, Array.getElem?_modify, h]
theorem NetAt.set2 {w : World} {g : Nat} {nodes s d l : Int} {lv : Value} (h : NetAt w g nodes lv s d l) (v : Int) : NetAt (w.setCell ⟨g, 2, none⟩ (.int .i64 v)) g nodes lv v d l := by
  unfold NetAt at *
  simp [World.setCell, Array.getElem?_modify, h]
theorem NetAt.set3 {w : World} {g : Nat} {nodes s d l : Int} {lv : Value} (h : NetAt w g nodes lv s d l) (v : Int) : NetAt (w.setCell ⟨g, 3, none⟩ (.int .i64 v)) g nodes lv s v l := by
  unfold NetAt at *
  simp [World.setCell, Array.getElem?_modify, h]
theorem NetAt.set4 {w : World} {g : Nat} {nodes s d l : Int} {lv : Value} (h : NetAt w g nodes lv s d l) (v : Int) : NetAt (w.setCell ⟨g, 4, none⟩ (.int .i64 v)) g nodes lv s d v := by
  unfold NetAt at *
  simp [World.setCell, Array.getElem?_modify, h]
theorem NetAt.lt {w : World} {g : Nat} {nodes s d l : Int} {lv : Value} (h : NetAt w g nodes lv s d l) : g < w.heap.size := (Array.getElem?_eq_some_iff.1 h).1
theorem NetAt.fr {M : Nat → Prop} {w w1 : World} {g : Nat} {nodes s d l : Int} {lv : Value} (h : NetAt w g nodes lv s d l) (hf : Fr M w w1) (hm : ¬ M g) : NetAt w1 g nodes lv s d l := hf.block h hm
theorem NetAt.row {w : World} {g n size : Nat} {nodes s d l : Int} {lv v : Value} {xs : List Value} {e : TypeId} (h : NetAt w g nodes lv s d l) (ho : Row w e size v n xs) (he : e ≠ 46) : v.ownBlock ≠ some g := by
  intro hg
  obtain ⟨cur, hh⟩ := ho.typed g hg
  unfold NetAt at h
  rw [hh] at h
  simp at h
  exact he h.2
theorem NetAt.bel {w w1 : World} {g : Nat} {nodes s d l : Int} {lv : Value} (h : NetAt w g nodes lv s d l) (hb : Below w.heap.size w w1) : NetAt w1 g nodes lv s d l := (hb.block g h.lt).trans h
theorem NetAt.gr {w w1 : World} {row : Option Nat} {g : Nat} {nodes s d l : Int} {lv : Value} (h : NetAt w g nodes lv s d l) (hg : w.grownBy w1 row) (hr : row ≠ some g) : NetAt w1 g nodes lv s d l := (hg.block g h.lt hr.symm).trans h

/-- Behind 'put' that was not refused. -/
def PutDone (g : Nat) (nodes : Int) (lv : Value) (n : Nat) (cs : List Value) (s d l f t : Int) (bs : List Int) (w w' : World) : Prop :=
  ∃ lv' bv, NetAt w' g nodes lv' (wrap64 (s + 1)) d l ∧ Row w' 34 3 lv' (n + 1) (cs ++ [.int .i64 f, .int .i64 t, bv]) ∧ w'.ownsRow w.heap.size 5 1 bv bs.length (bs.map (Value.int .u8)) ∧
    Fr (fun b => b = g ∨ lv.ownBlock = some b) w w' ∧ (lv'.ownBlock = lv.ownBlock ∨ ∃ k, lv'.ownBlock = some k ∧ w.heap.size ≤ k)

theorem put_close {w W1 w2 : World} {g n base : Nat} {nodes s d l f t : Int} {lv lv' bv : Value} {cs : List Value} {bs : List Int} (hN : NetAt (w2.setCell ⟨g, 1, none⟩ lv') g nodes lv' s d l)
    (hlt : g < w.heap.size) (hb : Below w.heap.size w W1) (hg : W1.grownBy w2 lv.ownBlock) (hne : lv.ownBlock ≠ some g) (hlv : ∀ k, lv.ownBlock = some k → k < w.heap.size) (hat : lv'.ownBlock = lv.ownBlock ∨ ∃ k, lv'.ownBlock = some k ∧ W1.heap.size ≤ k)
    (ho : Row w2 34 3 lv' (n + 1) (cs ++ [.int .i64 f, .int .i64 t, bv])) (hbv : W1.ownsRow base 5 1 bv bs.length (bs.map (Value.int .u8))) (hbase : w.heap.size ≤ base) :
    PutDone g nodes lv n cs s d l f t bs w ((w2.setCell ⟨g, 1, none⟩ lv').setCell ⟨g, 2, none⟩ (.int .i64 (wrap64 (s + 1)))) := by
  have hgg : lv'.ownBlock ≠ some g := by
    rcases hat with h | ⟨k, h, hk⟩
    · rwa [h]
    · intro e
      rw [h] at e
      have := hb.size
      simp at e
      omega
  have hF : Fr (fun b => b = g ∨ lv.ownBlock = some b) w w2 := (Fr.bel _ hb).trans (Fr.of_grown hg) (fun b _ h => .inr h.symm)
  have hkb : ∀ k, bv.ownBlock = some k → w.heap.size ≤ k := fun k hk => by have := (hbv.lt k hk).1; omega
  have hb2 := hbv.kept hg (by
    cases hbo : bv.ownBlock with
    | none => exact .inl rfl
    | some k => exact .inr fun e => by have := hkb k hbo; have := hlv k e.symm; omega)
  have h2 := (Fr.refl (fun b => b = g) w2).set ⟨g, 1, none⟩ lv' (fun _ => rfl) |>.set ⟨g, 2, none⟩ (.int .i64 (wrap64 (s + 1))) (fun _ => rfl)
  refine ⟨_, bv, hN.set2 _, ?_, ?_, ?_, ?_⟩
  · exact ho.fr h2 (fun k hk e => hgg (by rw [hk, e]))
  · exact own_low (h2.own hb2 (fun k hk => by have := hkb k hk; omega)) hbase
  · exact (hF.set _ _ (fun _ => .inl rfl)).set _ _ (fun _ => .inl rfl)
  · rcases hat with h | ⟨k, h, hk⟩
    · exact .inl h
    · exact .inr ⟨k, h, by have := hb.size; omega⟩

/-- A net in memory: at block g, so many nodes, the packets L, its counts; the packets' bytes lie in blocks of F, which g and the row are none of. -/
def NetZ (F : Nat → Prop) (w : World) (g : Nat) (nodes : Int) (Z : List PV) (s d l : Int) (lv : Value) : Prop :=
  NetAt w g nodes lv s d l ∧ Row w 34 3 lv Z.length (pvCells Z) ∧ Pks F w Z ∧ ¬ F g ∧ (∀ k, lv.ownBlock = some k → ¬ F k) ∧ ∀ b, F b → b < w.heap.size
def NetRep (F : Nat → Prop) (w : World) (g : Nat) (nodes : Int) (L : List Pk) (s d l : Int) (lv : Value) : Prop :=
  ∃ Z, Z.map Prod.fst = L ∧ NetZ F w g nodes Z s d l lv
/-- What a call of a net's method leaves: the packets M, its counts; turned are its block and its row alone. -/
def NetStep (F : Nat → Prop) (g : Nat) (lv : Value) (w w' : World) (nodes : Int) (M : List Pk) (s d l : Int) : Prop :=
  ∃ F' lv', (∀ b, F' b → F b ∨ w.heap.size ≤ b) ∧ NetRep F' w' g nodes M s d l lv' ∧ (lv'.ownBlock = lv.ownBlock ∨ ∃ k, lv'.ownBlock = some k ∧ w.heap.size ≤ k) ∧ Fr (fun b => b = g ∨ lv.ownBlock = some b) w w'

theorem NetZ.fr {F M : Nat → Prop} {w w1 : World} {g : Nat} {nodes s d l : Int} {Z : List PV} {lv : Value} (h : NetZ F w g nodes Z s d l lv) (hf : Fr M w w1) (hg : ¬ M g) (hr : ∀ k, lv.ownBlock = some k → ¬ M k) (hF : ∀ b, F b → ¬ M b) : NetZ F w1 g nodes Z s d l lv := by
  obtain ⟨h1, h2, h3, h4, h5, h6⟩ := h
  exact ⟨h1.fr hf hg, h2.fr hf hr, h3.move (fun b hl hb => hf.keep b hl (hF b hb)), h4, h5, fun b hb => Nat.lt_of_lt_of_le (h6 b hb) hf.size⟩
theorem NetZ.bel {F : Nat → Prop} {w w1 : World} {g : Nat} {nodes s d l : Int} {Z : List PV} {lv : Value} (h : NetZ F w g nodes Z s d l lv) (hb : Below w.heap.size w w1) : NetZ F w1 g nodes Z s d l lv :=
  h.fr (Fr.bel (fun _ => False) hb) (fun h => h) (fun _ _ h => h) (fun _ _ h => h)
theorem NetRep.bel {F : Nat → Prop} {w w1 : World} {g : Nat} {nodes s d l : Int} {L : List Pk} {lv : Value} (h : NetRep F w g nodes L s d l lv) (hb : Below w.heap.size w w1) : NetRep F w1 g nodes L s d l lv := by
  obtain ⟨Z, rfl, h⟩ := h
  exact ⟨Z, rfl, h.bel hb⟩
theorem NetRep.fr {F M : Nat → Prop} {w w1 : World} {g : Nat} {nodes s d l : Int} {L : List Pk} {lv : Value} (h : NetRep F w g nodes L s d l lv) (hf : Fr M w w1) (hg : ¬ M g) (hr : ∀ k, lv.ownBlock = some k → ¬ M k) (hF : ∀ b, F b → ¬ M b) : NetRep F w1 g nodes L s d l lv := by
  obtain ⟨Z, rfl, h⟩ := h
  exact ⟨Z, rfl, h.fr hf hg hr hF⟩
theorem NetStep.same {F : Nat → Prop} {w w1 : World} {g : Nat} {nodes s d l : Int} {L : List Pk} {lv : Value} (h : NetRep F w g nodes L s d l lv) (hb : Below w.heap.size w w1) : NetStep F g lv w w1 nodes L s d l :=
  ⟨F, lv, fun _ h => .inl h, h.bel hb, .inl rfl, Fr.bel _ hb⟩

/-- put, said of the net. -/
theorem put_step {F : Nat → Prop} {w w' : World} {g : Nat} {nodes s d l f t : Int} {Z : List PV} {lv : Value} {bs : List Int} (hZ : NetZ F w g nodes Z s d l lv)
    (h : PutDone g nodes lv Z.length (pvCells Z) s d l f t bs w w') : NetStep F g lv w w' nodes (Z.map Prod.fst ++ [⟨f, t, bs⟩]) (wrap64 (s + 1)) d l := by
  obtain ⟨hN, hr, hp, hg, hf, hF⟩ := hZ
  obtain ⟨lv', bv, h1, h2, h3, h4, h5⟩ := h
  have hlt := hN.lt
  have hb : Bs w' bv bs := Row.own h3
  refine ⟨fun b => F b ∨ bv.ownBlock = some b, lv', ?_, ⟨Z ++ [(⟨f, t, bs⟩, bv)], by simp, h1, by rw [pvCells_app]; simpa [pvCells] using h2, ?_, ?_, ?_, ?_⟩, h5, h4⟩
  · rintro b (hb | hb)
    · exact .inl hb
    · exact .inr (h3.lt b hb).1
  · refine Pks.snoc (Pks.imp (fun _ _ b _ hb => .inl hb) (hp.move fun b hl hb => h4.keep b hl ?_)) hb (fun b hb => .inr hb) ?_
    · rintro (rfl | hx)
      · exact hg hb
      · exact hf b hx hb
    · intro y hy b h1 h2
      have := hF b ((hp.1 y hy).2 b h1)
      have := (h3.lt b h2).1
      omega
  · rintro (hx | hx)
    · exact hg hx
    · have := (h3.lt g hx).1
      omega
  · intro k hk
    rintro (hx | hx)
    · rcases h5 with h5 | ⟨k', h5, hk'⟩
      · exact hf k (by rw [← h5]; exact hk) hx
      · rw [h5] at hk
        have := hF k hx
        simp at hk
        omega
    · exact own_ne h2 h3 (by decide) k hk hx
  · rintro b (hb | hb)
    · exact Nat.lt_of_lt_of_le (hF b hb) h4.size
    · exact (h3.lt b hb).2

/-- What Send answers, and leaves. -/
def SendR (F : Nat → Prop) (g : Nat) (lv : Value) (nodes : Int) (L : List Pk) (s d l f t : Int) (bs : List Int) (w : World) (e : Ending) (w' : World) : Prop :=
  e = .returned (.int .i64 (sendErr nodes f t L.length bs.length)) ∧ NetStep F g lv w w' nodes (if sendErr nodes f t L.length bs.length = 0 then L ++ [⟨f, t, bs⟩] else L) (if sendErr nodes f t L.length bs.length = 0 then wrap64 (s + 1) else s) d l

theorem SendR.no {F : Nat → Prop} {g : Nat} {lv : Value} {nodes : Int} {L : List Pk} {s d l f t : Int} {bs : List Int} {w w' : World} {r : Int} (hr : sendErr nodes f t L.length bs.length = r) (h0 : r ≠ 0) (h : NetRep F w g nodes L s d l lv) (hb : Below w.heap.size w w') :
    SendR F g lv nodes L s d l f t bs w (.returned (.int .i64 r)) w' := by
  subst hr
  exact ⟨rfl, by rw [if_neg h0, if_neg h0]; exact NetStep.same h hb⟩

/-- Parted at a place. -/
theorem NetZ.at_ {F : Nat → Prop} {w : World} {g : Nat} {nodes s d l : Int} {Z : List PV} {lv : Value} {i : Nat} (h : NetZ F w g nodes Z s d l lv) (hi : i < Z.length) :
    ∃ Y z X, Z = Y ++ z :: X ∧ Y.length = i ∧ Row w 34 3 lv Z.length (pvCells Y ++ (.int .i64 z.1.fr :: .int .i64 z.1.dt :: z.2 :: pvCells X)) ∧ (pvCells Y).length = i * 3 ∧ (∃ A c m, z.2 = .slice A m c) ∧ (∀ v ∈ pvCells X, v.oneCell' = true) ∧
      Sl .u8 (fun b => z.2.ownBlock = some b) w z.2 z.1.b ∧ (∀ b, z.2.ownBlock = some b → F b) ∧ (∀ y ∈ Y ++ X, Apart y z) := by
  refine ⟨Z.take i, Z[i], Z.drop (i + 1), by simp, by simp; omega, ?_, ?_, ?_, ?_, ?_⟩
  · rw [← pvCells_cons, ← pvCells_app]
    simpa using h.2.1
  · rw [pvCells_len]; simp; omega
  · obtain ⟨A, c, e, _⟩ := (h.2.2.1.1 Z[i] (List.getElem_mem hi)).1.sl
    exact ⟨A, c, _, e⟩
  · exact Pks.one (h.2.2.1.sub (List.drop_sublist _ _))
  · obtain ⟨h1, h2⟩ := h.2.2.1.1 Z[i] (List.getElem_mem hi)
    refine ⟨h1.sl, h2, ?_⟩
    have hp := h.2.2.1.2
    rw [← List.take_append_drop i Z, List.pairwise_append] at hp
    obtain ⟨_, hp2, hp3⟩ := hp
    rw [List.drop_eq_getElem_cons hi, List.pairwise_cons] at hp2
    intro y hy
    rcases List.mem_append.1 hy with hy | hy
    · exact hp3 y hy _ (by rw [List.drop_eq_getElem_cons hi]; exact List.mem_cons_self)
    · exact (hp2.1 y hy).symm

theorem NetRep.new (w : World) (n : Int) : NetRep (fun _ => False) (w.alloc (.cells #[.int .i64 n, .slice none 0 0, .int .i64 0, .int .i64 0, .int .i64 0] 46)) w.heap.size n [] 0 0 0 (.slice none 0 0) :=
  ⟨[], rfl, heap_alloc_new w _, Row.nil _ _ _, ⟨by simp, by simp⟩, fun h => h, fun _ _ h => h, fun _ h => h.elim⟩

theorem SendR.ok {F : Nat → Prop} {g : Nat} {lv : Value} {nodes : Int} {L : List Pk} {s d l f t : Int} {bs : List Int} {w w' : World} {e : Ending} (h : SendR F g lv nodes L s d l f t bs w e w') (hr : sendErr nodes f t L.length bs.length = 0) :
    e = .returned (.int .i64 0) ∧ NetStep F g lv w w' nodes (L ++ [⟨f, t, bs⟩]) (wrap64 (s + 1)) d l := by
  obtain ⟨rfl, h⟩ := h
  rw [hr] at h ⊢
  exact ⟨rfl, by simpa using h⟩
theorem SendR.bad {F : Nat → Prop} {g : Nat} {lv : Value} {nodes : Int} {L : List Pk} {s d l f t : Int} {bs : List Int} {w w' : World} {e : Ending} (h : SendR F g lv nodes L s d l f t bs w e w') (hr : sendErr nodes f t L.length bs.length ≠ 0) :
    e = .returned (.int .i64 (sendErr nodes f t L.length bs.length)) ∧ NetStep F g lv w w' nodes L s d l := by
  obtain ⟨rfl, h⟩ := h
  rw [if_neg hr, if_neg hr] at h
  exact ⟨rfl, h⟩
theorem NetRep.row_lt {F : Nat → Prop} {w : World} {g : Nat} {nodes s d l : Int} {L : List Pk} {lv : Value} (h : NetRep F w g nodes L s d l lv) : ∀ k, lv.ownBlock = some k → k < w.heap.size := by
  obtain ⟨Z, rfl, hZ⟩ := h
  exact hZ.2.1.lt
theorem NetRep.lt {F : Nat → Prop} {w : World} {g : Nat} {nodes s d l : Int} {L : List Pk} {lv : Value} (h : NetRep F w g nodes L s d l lv) : g < w.heap.size := by
  obtain ⟨Z, rfl, hZ⟩ := h
  exact hZ.1.lt
theorem NetRep.not_g {F : Nat → Prop} {w : World} {g : Nat} {nodes s d l : Int} {L : List Pk} {lv : Value} (h : NetRep F w g nodes L s d l lv) : ¬ F g ∧ ∀ k, lv.ownBlock = some k → ¬ F k := by
  obtain ⟨Z, rfl, hZ⟩ := h
  exact ⟨hZ.2.2.2.1, hZ.2.2.2.2.1⟩
theorem NetRep.typed {F : Nat → Prop} {w : World} {g : Nat} {nodes s d l : Int} {L : List Pk} {lv : Value} (h : NetRep F w g nodes L s d l lv) : (∃ cs, w.heap[g]? = some (.cells cs 46 (0, 0))) ∧ ∀ b, lv.ownBlock = some b → ∃ cs, w.heap[b]? = some (.cells cs 34 (0, 0)) := by
  obtain ⟨Z, rfl, hZ⟩ := h
  exact ⟨⟨_, hZ.1⟩, hZ.2.1.typed⟩
theorem NetRep.netAt {F : Nat → Prop} {w : World} {g : Nat} {nodes s d l : Int} {L : List Pk} {lv : Value} (h : NetRep F w g nodes L s d l lv) : NetAt w g nodes lv s d l := by
  obtain ⟨Z, rfl, hZ⟩ := h
  exact hZ.1
theorem NetStep.frame {F : Nat → Prop} {g : Nat} {lv : Value} {w w' : World} {nodes : Int} {M : List Pk} {s d l : Int} (h : NetStep F g lv w w' nodes M s d l) : Fr (fun b => b = g ∨ lv.ownBlock = some b) w w' := by
  obtain ⟨_, _, _, _, _, h⟩ := h
  exact h

end Go.Proofs.Ytknhblhdkjgnbaa.Ref
