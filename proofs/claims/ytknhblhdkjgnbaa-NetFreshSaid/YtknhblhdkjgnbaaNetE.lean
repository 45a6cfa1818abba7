import Derived.Test.YtknhblhdkjgnbaaNetD
import Derived.Test.YtknhblhdkjgnbaaNetA
namespace Go.Proofs.Ytknhblhdkjgnbaa
open Go.RowKit

/-- The byte slices of a list's packets, one packet three cells. -/
structure Pk where
  fr : Int
  dt : Int
  b : List Int

/-- A packet and the slice that holds its bytes. -/
abbrev PV := Pk × Value
def pvCells (Z : List PV) : List Value := Z.flatMap fun z => [.int .i64 z.1.fr, .int .i64 z.1.dt, z.2]
def Apart (x y : PV) : Prop := ∀ b, x.2.ownBlock = some b → y.2.ownBlock ≠ some b
/-- Bytes in a block of their own, with whatever room stands behind them. -/
def Bs (w : World) (v : Value) (bs : List Int) : Prop := Row w 5 1 v bs.length (bs.map (Value.int .u8))
theorem Bs.move {w w1 : World} {v : Value} {bs : List Int} (h : Bs w v bs) (hm : ∀ b, b < w.heap.size → v.ownBlock = some b → w1.heap[b]? = w.heap[b]?) : Bs w1 v bs :=
  Row.move h fun k hk => hm k (Row.lt h k hk) hk
theorem Bs.fr {M : Nat → Prop} {w w1 : World} {v : Value} {bs : List Int} (h : Bs w v bs) (hf : Fr M w w1) (hd : ∀ b, b < w.heap.size → v.ownBlock = some b → ¬ M b) : Bs w1 v bs :=
  Bs.move h fun b hb hx => hf.keep b hb (hd b hb hx)
theorem Bs.sl {w : World} {v : Value} {bs : List Int} (h : Bs w v bs) : Sl .u8 (fun b => v.ownBlock = some b) w v bs := by
  rcases h.2 with ⟨rfl, h0⟩ | ⟨g, o, c, cur, rfl, hn, hc, hh, hs, ht⟩
  · have : bs = [] := List.eq_nil_of_length_eq_zero h0
    subst this
    exact ⟨none, 0, rfl, by simp, by simp, fun _ => rfl, fun j h => by simp at h⟩
  · refine ⟨some ⟨g, o, none⟩, c, rfl, hn, hc, (fun h => by cases h), fun j hj => ⟨_, rfl, rfl, ?_⟩⟩
    obtain ⟨g', o', e, h1, _⟩ := Row.at_ h j (by simpa using hj)
    cases e
    rw [Addr.add_lit]
    simpa using h1

/-- Each packet's bytes lie in a block of their own, one of F. -/
def Pks (F : Nat → Prop) (w : World) (Z : List PV) : Prop := (∀ z ∈ Z, Bs w z.2 z.1.b ∧ ∀ b, z.2.ownBlock = some b → F b) ∧ Z.Pairwise Apart

theorem pvCells_len (Z : List PV) : (pvCells Z).length = Z.length * 3 := by
  induction Z with
  | nil => rfl
  | cons z Z ih => simp only [pvCells, List.flatMap_cons, List.length_append, List.length_cons, List.length_nil] at *; omega
theorem pvCells_app (Y Z : List PV) : pvCells (Y ++ Z) = pvCells Y ++ pvCells Z := by simp [pvCells]
theorem pvCells_cons (z : PV) (Z : List PV) : pvCells (z :: Z) = .int .i64 z.1.fr :: .int .i64 z.1.dt :: z.2 :: pvCells Z := by simp [pvCells]
theorem Apart.symm {x y : PV} (h : Apart x y) : Apart y x := fun b hy hx => h b hx hy

namespace Pks
variable {F G : Nat → Prop} {w w1 : World} {Z Y : List PV}
theorem move (hm : ∀ b, b < w.heap.size → F b → w1.heap[b]? = w.heap[b]?) (h : Pks F w Z) : Pks F w1 Z :=
  ⟨fun z hz => ⟨(h.1 z hz).1.move (fun b hl hb => hm b hl ((h.1 z hz).2 b hb)), (h.1 z hz).2⟩, h.2⟩
theorem imp (hf : ∀ z ∈ Z, ∀ b, z.2.ownBlock = some b → F b → G b) (h : Pks F w Z) : Pks G w Z := ⟨fun z hz => ⟨(h.1 z hz).1, fun b hb => hf z hz b hb ((h.1 z hz).2 b hb)⟩, h.2⟩
theorem sub (h : Pks F w Z) (hs : List.Sublist Y Z) : Pks F w Y := ⟨fun z hz => h.1 z (hs.subset hz), h.2.sublist hs⟩
theorem perm (h : Pks F w Z) (hp : List.Perm Z Y) : Pks F w Y := ⟨fun z hz => h.1 z (hp.mem_iff.2 hz), (hp.pairwise_iff (fun {_ _} => Apart.symm)).1 h.2⟩
theorem one (h : Pks F w Z) : ∀ v ∈ pvCells Z, v.oneCell' = true := by
  intro v hv
  obtain ⟨z, hz, hv⟩ := List.mem_flatMap.1 hv
  obtain ⟨A, c, e, _⟩ := (h.1 z hz).1.sl
  simp only [List.mem_cons, List.not_mem_nil, or_false] at hv
  rcases hv with rfl | rfl | rfl
  · rfl
  · rfl
  · rw [e]; rfl
theorem snoc (h : Pks F w Z) {z : PV} (hz : Bs w z.2 z.1.b) (hF : ∀ b, z.2.ownBlock = some b → F b) (ha : ∀ y ∈ Z, Apart y z) : Pks F w (Z ++ [z]) := by
  refine ⟨?_, List.pairwise_append.2 ⟨h.2, List.pairwise_singleton _ _, fun x hx y hy => by rw [List.mem_singleton.1 hy]; exact ha x hx⟩⟩
  intro y hy
  rcases List.mem_append.1 hy with hy | hy
  · exact h.1 y hy
  · rw [List.mem_singleton.1 hy]
    exact ⟨hz, hF⟩
end Pks

/-- A net in memory: at block g, so many nodes, the packets L, its counts; the packets' bytes lie in blocks of F, which g and the row are none of. -/
def NetZ (F : Nat → Prop) (w : World) (g : Nat) (nodes : Int) (Z : List PV) (s d l : Int) (lv : Value) : Prop :=
  NetAt w g nodes lv s d l ∧ Row w 34 3 lv Z.length (pvCells Z) ∧ Pks F w Z ∧ ¬ F g ∧ (∀ k, lv.ownBlock = some k → ¬ F k) ∧ ∀ b, F b → b < w.heap.size
def NetRep (F : Nat → Prop) (w : World) (g : Nat) (nodes : Int) (L : List Pk) (s d l : Int) (lv : Value) : Prop :=
  ∃ Z, Z.map Prod.fst = L ∧ NetZ F w g nodes Z s d l lv
/-- What a call of a net's method leaves: the packets M, its counts; turned are its block and its row alone. -/
def NetStep (F : Nat → Prop) (g : Nat) (lv : Value) (w w' : World) (nodes : Int) (M : List Pk) (s d l : Int) : Prop :=
  ∃ F' lv', (∀ b, F' b → F b ∨ w.heap.size ≤ b) ∧ NetRep F' w' g nodes M s d l lv' ∧ (lv'.ownBlock = lv.ownBlock ∨ ∃ k, lv'.ownBlock = some k ∧ w.heap.size ≤ k) ∧ Fr (fun b => b = g ∨ lv.ownBlock = some b) w w'

theorem NetZ.fr {F M : Nat → Prop} {w w1 : World} {g : Nat} {nodes s d l : Int} {Z : List PV} {lv : Value} (h : NetZ F w g nodes Z s d l lv) (hf : Fr M w w1) (hg : ¬ M g) (hr : ∀ k, lv.ownBlock = some k → ¬ M k) (hF : ∀ b, F b → ¬ M b) : NetZ F w1 g nodes Z s d l lv := by
  obtain ⟨h1, h2, h3, h4, h5, h6⟩ := h
  exact ⟨h1.fr hf hg, h2.fr hf hr, h3.move (fun b hl hb => hf.keep b hl (hF b hb)), h4, h5, fun b hb => Nat.lt_of_lt_of_le (h6 b hb) hf.size⟩
theorem NetZ.bel {F : Nat → Prop} {w w1 : World} {g : Nat} {nodes s d l : Int} {Z : List PV} {lv : Value} (h : NetZ F w g nodes Z s d l lv) (hb : Below w.heap.size w w1) : NetZ F w1 g nodes Z s d l lv :=
  h.fr (Fr.bel (fun _ => False) hb) (fun h => h) (fun _ _ h => h) (fun _ _ h => h)
theorem NetRep.bel {F : Nat → Prop} {w w1 : World} {g : Nat} {nodes s d l : Int} {L : List Pk} {lv : Value} (h : NetRep F w g nodes L s d l lv) (hb : Below w.heap.size w w1) : NetRep F w1 g nodes L s d l lv := by
  obtain ⟨Z, rfl, h⟩ := h
  exact ⟨Z, rfl, h.bel hb⟩
theorem NetRep.fr {F M : Nat → Prop} {w w1 : World} {g : Nat} {nodes s d l : Int} {L : List Pk} {lv : Value} (h : NetRep F w g nodes L s d l lv) (hf : Fr M w w1) (hg : ¬ M g) (hr : ∀ k, lv.ownBlock = some k → ¬ M k) (hF : ∀ b, F b → ¬ M b) : NetRep F w1 g nodes L s d l lv := by
  obtain ⟨Z, rfl, h⟩ := h
  exact ⟨Z, rfl, h.fr hf hg hr hF⟩
theorem NetStep.same {F : Nat → Prop} {w w1 : World} {g : Nat} {nodes s d l : Int} {L : List Pk} {lv : Value} (h : NetRep F w g nodes L s d l lv) (hb : Below w.heap.size w w1) : NetStep F g lv w w1 nodes L s d l :=
  ⟨F, lv, fun _ h => .inl h, h.bel hb, .inl rfl, Fr.bel _ hb⟩

theorem own_ne {w : World} {e e' size n base : Nat} {v u : Value} {m : Nat} {xs ys : List Value} (h : Row w e size v n xs) (k : w.ownsRow base e' 1 u m ys) (he : e ≠ e') : ∀ b, v.ownBlock = some b → u.ownBlock ≠ some b := by
  intro b hb hu
  obtain ⟨c1, h1⟩ := h.typed b hb
  obtain ⟨c2, h2⟩ := (Row.own k).typed b hu
  rw [h1] at h2
  simp at h2
  exact he h2.2
theorem Sl.block_lt {k : IntKind} {w : World} {v : Value} {xs : List Int} (h : Sl k (fun b => v.ownBlock = some b) w v xs) (hx : xs ≠ []) : ∀ b, v.ownBlock = some b → b < w.heap.size := by
  obtain ⟨A, c, rfl, _, _, _, h5⟩ := h
  intro b hb
  have hl : 0 < xs.length := List.length_pos_iff.2 hx
  obtain ⟨ad, rfl, _, hc⟩ := h5 0 hl
  have := World.block_lt_of_cell? w _ hc
  rw [add_block] at this
  have e : ad.block = b := by simpa [Value.ownBlock] using hb
  omega

/-- put, said of the net. -/
theorem put_step {F : Nat → Prop} {w w' : World} {g : Nat} {nodes s d l f t : Int} {Z : List PV} {lv : Value} {bs : List Int} (hZ : NetZ F w g nodes Z s d l lv)
    (h : PutDone g nodes lv Z.length (pvCells Z) s d l f t bs w w') : NetStep F g lv w w' nodes (Z.map Prod.fst ++ [⟨f, t, bs⟩]) (wrap64 (s + 1)) d l := by
  obtain ⟨hN, hr, hp, hg, hf, hF⟩ := hZ
  obtain ⟨lv', bv, h1, h2, h3, h4, h5⟩ := h
  have hlt := hN.lt
  have hb : Bs w' bv bs := Row.own h3
  refine ⟨fun b => F b ∨ bv.ownBlock = some b, lv', ?_, ⟨Z ++ [(⟨f, t, bs⟩, bv)], by simp, h1, by rw [pvCells_app]; simpa [pvCells] using h2, ?_, ?_, ?_, ?_⟩, h5, h4⟩
  · rintro b (hb | hb)
    · exact .inl hb
    · exact .inr (h3.lt b hb).1
  · refine Pks.snoc (Pks.imp (fun _ _ b _ hb => .inl hb) (hp.move fun b hl hb => h4.keep b hl ?_)) hb (fun b hb => .inr hb) ?_
    · rintro (rfl | hx)
      · exact hg hb
      · exact hf b hx hb
    · intro y hy b h1 h2
      have := hF b ((hp.1 y hy).2 b h1)
      have := (h3.lt b h2).1
      omega
  · rintro (hx | hx)
    · exact hg hx
    · have := (h3.lt g hx).1
      omega
  · intro k hk
    rintro (hx | hx)
    · rcases h5 with h5 | ⟨k', h5, hk'⟩
      · exact hf k (by rw [← h5]; exact hk) hx
      · rw [h5] at hk
        have := hF k hx
        simp at hk
        omega
    · exact own_ne h2 h3 (by decide) k hk hx
  · rintro b (hb | hb)
    · exact Nat.lt_of_lt_of_le (hF b hb) h4.size
    · exact (h3.lt b hb).2

def sendErr (nodes f t : Int) (n m : Nat) : Int := if 0 ≤ f ∧ f < nodes ∧ 0 ≤ t ∧ t < nodes then (if n < 4096 ∧ m ≤ 1048576 then 0 else 4) else 2
/-- What Send answers, and leaves. -/
def SendR (F : Nat → Prop) (g : Nat) (lv : Value) (nodes : Int) (L : List Pk) (s d l f t : Int) (bs : List Int) (w : World) (e : Ending) (w' : World) : Prop :=
  e = .returned (.int .i64 (sendErr nodes f t L.length bs.length)) ∧ NetStep F g lv w w' nodes (if sendErr nodes f t L.length bs.length = 0 then L ++ [⟨f, t, bs⟩] else L) (if sendErr nodes f t L.length bs.length = 0 then wrap64 (s + 1) else s) d l

theorem SendR.no {F : Nat → Prop} {g : Nat} {lv : Value} {nodes : Int} {L : List Pk} {s d l f t : Int} {bs : List Int} {w w' : World} {r : Int} (hr : sendErr nodes f t L.length bs.length = r) (h0 : r ≠ 0) (h : NetRep F w g nodes L s d l lv) (hb : Below w.heap.size w w') :
    SendR F g lv nodes L s d l f t bs w (.returned (.int .i64 r)) w' := by
  subst hr
  exact ⟨rfl, by rw [if_neg h0, if_neg h0]; exact NetStep.same h hb⟩

set_option maxRecDepth 100000 in
set_option maxHeartbeats 400000 in
theorem net_Send (F G : Nat → Prop) (g : Nat) (nodes s d l f t : Int) (L : List Pk) (lv v : Value) (bs : List Int) (w : World) (h : NetRep F w g nodes L s d l lv) (hn : 0 < nodes) (hb : Sl .u8 G w v bs) :
    Calls Try.prog 6 #[.pointer (some ⟨g, 0, none⟩), .int .i64 f, .int .i64 t, v] w (SendR F g lv nodes L s d l f t bs w) := by
  have HR := Lib.hid h
  obtain ⟨Z, hL, hZ⟩ := h
  have h1 := hZ.1; have h2 := hZ.2.1
  have hln : Z.length = L.length := by rw [← hL]; simp
  rw [hln] at h2
  obtain ⟨A, c, rfl, hnc, hcm, hA⟩ := h2.slice
  obtain ⟨A1, m1, rfl, _⟩ := id hb
  obtain ⟨k0, k1, k2, k3, k4⟩ := h1.cells
  have hn0 : (nodes == 0) = false := by simp; omega
  have H1 := Lib.hid h1; have H2 := Lib.hid h2; have HZ := Lib.hid hZ; have HL := Lib.hid hL; have HLN := Lib.hid hln; have HB := Lib.hid hb
  clear h1 h2 hZ hL hln hb
  have bad : (f < 0 ∨ nodes ≤ f) ∨ (t < 0 ∨ nodes ≤ t) → sendErr nodes f t L.length bs.length = 2 := fun h => by unfold sendErr; rw [if_neg (by omega)]
  by_cases c1 : f < 0
  · have HE := Lib.hid (bad (.inl (.inl c1))); clear bad
    go_enter Try.func6, Try.ntmps6
    go_wp2_with (go_at_call 23; refine (net_none_some _ _ _ k0 hn0).mono ?_; rintro e w' ⟨rfl, rfl⟩)
    go_ret
    exact SendR.no HE.out (by omega) HR.out (by repeat (first | with_reducible exact Below.refl _ _ | with_reducible assumption | apply bA | apply bN | apply bD | (refine bS ?_ _ _ (by first | exact Nat.le_refl _ | (simp; done) | (simp; omega) | omega)) | refine bT ?_ ?_ (by with_reducible assumption) | exact Nat.le_refl _ | (simp; done) | (simp; omega) | omega))
  · by_cases c2 : nodes ≤ f
    · have HE := Lib.hid (bad (.inl (.inr c2))); clear bad
      go_enter Try.func6, Try.ntmps6
      go_wp2_with (go_at_call 23; refine (net_none_some _ _ _ k0 hn0).mono ?_; rintro e w' ⟨rfl, rfl⟩)
      go_ret
      exact SendR.no HE.out (by omega) HR.out (by repeat (first | with_reducible exact Below.refl _ _ | with_reducible assumption | apply bA | apply bN | apply bD | (refine bS ?_ _ _ (by first | exact Nat.le_refl _ | (simp; done) | (simp; omega) | omega)) | refine bT ?_ ?_ (by with_reducible assumption) | exact Nat.le_refl _ | (simp; done) | (simp; omega) | omega))
    · by_cases c3 : t < 0
      · have HE := Lib.hid (bad (.inr (.inl c3))); clear bad
        go_enter Try.func6, Try.ntmps6
        go_wp2_with (go_at_call 23; refine (net_none_some _ _ _ k0 hn0).mono ?_; rintro e w' ⟨rfl, rfl⟩)
        go_ret
        exact SendR.no HE.out (by omega) HR.out (by repeat (first | with_reducible exact Below.refl _ _ | with_reducible assumption | apply bA | apply bN | apply bD | (refine bS ?_ _ _ (by first | exact Nat.le_refl _ | (simp; done) | (simp; omega) | omega)) | refine bT ?_ ?_ (by with_reducible assumption) | exact Nat.le_refl _ | (simp; done) | (simp; omega) | omega))
      · by_cases c4 : nodes ≤ t
        · have HE := Lib.hid (bad (.inr (.inr c4))); clear bad
          go_enter Try.func6, Try.ntmps6
          go_wp2_with (go_at_call 23; refine (net_none_some _ _ _ k0 hn0).mono ?_; rintro e w' ⟨rfl, rfl⟩)
          go_ret
          exact SendR.no HE.out (by omega) HR.out (by repeat (first | with_reducible exact Below.refl _ _ | with_reducible assumption | apply bA | apply bN | apply bD | (refine bS ?_ _ _ (by first | exact Nat.le_refl _ | (simp; done) | (simp; omega) | omega)) | refine bT ?_ ?_ (by with_reducible assumption) | exact Nat.le_refl _ | (simp; done) | (simp; omega) | omega))
        · clear bad
          by_cases c5 : L.length < 4096 ∧ bs.length ≤ 1048576
          · have HE : Hid (sendErr nodes f t L.length bs.length = 0) := by unfold Hid sendErr; rw [if_pos (by omega), if_pos c5]
            have C5 := Lib.hid c5; clear c5
            go_enter Try.func6, Try.ntmps6
            go_wp2_with (first | (go_at_call 23; refine (net_none_some _ _ _ k0 hn0).mono ?_; rintro e w' ⟨rfl, rfl⟩) | (go_at_call 24; refine (net_put G g L.length nodes s d l f t _ _ (pvCells Z) bs _ H1.out H2.out HB.out C5.out.1 C5.out.2).mono ?_; rintro e w' ⟨rfl, hd⟩))
            go_ret
            refine ⟨by rw [HE.out]; rfl, ?_⟩
            rw [if_pos HE.out, if_pos HE.out]
            have := put_step (Z := Z) (f := f) (t := t) HZ.out (by rw [HLN.out]; exact hd)
            rwa [HL.out] at this
          · have HE : Hid (sendErr nodes f t L.length bs.length = 4) := by unfold Hid sendErr; rw [if_pos (by omega), if_neg c5]
            have C5 : Hid (4096 ≤ L.length ∨ 1048576 < bs.length) := by unfold Hid; omega
            clear c5
            go_enter Try.func6, Try.ntmps6
            go_wp2_with (first | (go_at_call 23; refine (net_none_some _ _ _ k0 hn0).mono ?_; rintro e w' ⟨rfl, rfl⟩) | (go_at_call 24; refine (net_put_no G g L.length c A nodes s d l f t _ bs _ H1.out HB.out C5.out).mono ?_; rintro e w' ⟨rfl, hd⟩))
            go_ret
            exact SendR.no HE.out (by omega) HR.out (by repeat (first | with_reducible exact Below.refl _ _ | with_reducible assumption | apply bA | apply bN | apply bD | (refine bS ?_ _ _ (by first | exact Nat.le_refl _ | (simp; done) | (simp; omega) | omega)) | refine bT ?_ ?_ (by with_reducible assumption) | exact Nat.le_refl _ | (simp; done) | (simp; omega) | omega))

/-- Parted at a place. -/
theorem NetZ.at_ {F : Nat → Prop} {w : World} {g : Nat} {nodes s d l : Int} {Z : List PV} {lv : Value} {i : Nat} (h : NetZ F w g nodes Z s d l lv) (hi : i < Z.length) :
    ∃ Y z X, Z = Y ++ z :: X ∧ Y.length = i ∧ Row w 34 3 lv Z.length (pvCells Y ++ (.int .i64 z.1.fr :: .int .i64 z.1.dt :: z.2 :: pvCells X)) ∧ (pvCells Y).length = i * 3 ∧ (∃ A c m, z.2 = .slice A m c) ∧ (∀ v ∈ pvCells X, v.oneCell' = true) ∧
      Sl .u8 (fun b => z.2.ownBlock = some b) w z.2 z.1.b ∧ (∀ b, z.2.ownBlock = some b → F b) ∧ (∀ y ∈ Y ++ X, Apart y z) := by
  refine ⟨Z.take i, Z[i], Z.drop (i + 1), by simp, by simp; omega, ?_, ?_, ?_, ?_, ?_⟩
  · rw [← pvCells_cons, ← pvCells_app]
    simpa using h.2.1
  · rw [pvCells_len]; simp; omega
  · obtain ⟨A, c, e, _⟩ := (h.2.2.1.1 Z[i] (List.getElem_mem hi)).1.sl
    exact ⟨A, c, _, e⟩
  · exact Pks.one (h.2.2.1.sub (List.drop_sublist _ _))
  · obtain ⟨h1, h2⟩ := h.2.2.1.1 Z[i] (List.getElem_mem hi)
    refine ⟨h1.sl, h2, ?_⟩
    have hp := h.2.2.1.2
    rw [← List.take_append_drop i Z, List.pairwise_append] at hp
    obtain ⟨_, hp2, hp3⟩ := hp
    rw [List.drop_eq_getElem_cons hi, List.pairwise_cons] at hp2
    intro y hy
    rcases List.mem_append.1 hy with hy | hy
    · exact hp3 y hy _ (by rw [List.drop_eq_getElem_cons hi]; exact List.mem_cons_self)
    · exact (hp2.1 y hy).symm

/-- take, said of the net. -/
theorem take_step {F : Nat → Prop} {w w' : World} {g : Nat} {nodes s d l : Int} {Y X : List PV} {z : PV} {lv : Value} (hZ : NetZ F w g nodes (Y ++ z :: X) s d l lv) {n : Nat} (hn : (Y ++ z :: X).length = n)
    (h : TakeDone g nodes lv n (pvCells Y) (pvCells X) s d l w w') : ∃ lv', NetZ F w' g nodes (Y ++ X) s d l lv' ∧ lv'.ownBlock = lv.ownBlock ∧ Fr (fun b => b = g ∨ lv.ownBlock = some b) w w' := by
  subst hn
  obtain ⟨lv', h1, h2, h3, h4⟩ := h
  obtain ⟨g1, g2, g3, g4, g5, g6⟩ := hZ
  refine ⟨lv', ⟨h1, ?_, ?_, g4, fun k hk => g5 k (by rw [← h4]; exact hk), fun b hb => Nat.lt_of_lt_of_le (g6 b hb) h3.size⟩, h4, h3⟩
  · rw [pvCells_app]
    simpa using h2
  · refine Pks.move (fun b hl hb => h3.keep b hl ?_) (g3.sub (by simp))
    rintro (rfl | hx)
    · exact g4 hb
    · exact g5 b hx hb
end Go.Proofs.Ytknhblhdkjgnbaa
