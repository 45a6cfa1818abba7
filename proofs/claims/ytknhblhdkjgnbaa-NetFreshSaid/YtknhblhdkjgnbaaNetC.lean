import Derived.Test.YtknhblhdkjgnbaaNetB
import Derived.Deep.AppendLies
import Derived.Test.YtknhblhdkjgnbaaMemR
namespace Go.Proofs.Ytknhblhdkjgnbaa
open Go.RowKit

theorem Try.info_Packet : (Try.prog.info? 34).map (fun i => (i.zero, i.size, i.bytes)) = some (some (.agg #[.int .i64 0, .int .i64 0, .slice none 0 0]), 3, 40) := by kernel_rfl

/-- The block of a net: its nodes, its row, and its three counts. -/
def NetAt (w : World) (g : Nat) (nodes : Int) (lv : Value) (s d l : Int) : Prop :=
  w.heap[g]? = some (.cells #[.int .i64 nodes, lv, .int .i64 s, .int .i64 d, .int .i64 l] 64 (0, 0))

theorem NetAt.cells {w : World} {g : Nat} {nodes s d l : Int} {lv : Value} (h : NetAt w g nodes lv s d l) :
    w.cell? ⟨g, 0, none⟩ = some (.int .i64 nodes) ∧ w.cell? ⟨g, 1, none⟩ = some lv ∧ w.cell? ⟨g, 2, none⟩ = some (.int .i64 s) ∧ w.cell? ⟨g, 3, none⟩ = some (.int .i64 d) ∧ w.cell? ⟨g, 4, none⟩ = some (.int .i64 l) := by
  unfold NetAt at h
  refine ⟨?_, ?_, ?_, ?_, ?_⟩ <;> simp [World.cell?, h]
theorem NetAt.frozen {w : World} {g : Nat} {nodes s d l : Int} {lv : Value} (h : NetAt w g nodes lv s d l) (i : Nat) : w.frozen? ⟨g, i, none⟩ = false := by
  unfold NetAt at h
  simp [World.frozen?, h]
theorem NetAt.set1 {w : World} {g : Nat} {nodes s d l : Int} {lv : Value} (h : NetAt w g nodes lv s d l) (v : Value) : NetAt (w.setCell ⟨g, 1, none⟩ v) g nodes v s d l := by
  unfold NetAt at *
  simp [World.setCell, Array.getElem?_modify, h]
theorem NetAt.set2 {w : World} {g : Nat} {nodes s d l : Int} {lv : Value} (h : NetAt w g nodes lv s d l) (v : Int) : NetAt (w.setCell ⟨g, 2, none⟩ (.int .i64 v)) g nodes lv v d l := by
  unfold NetAt at *
  simp [World.setCell, Array.getElem?_modify, h]
theorem NetAt.set3 {w : World} {g : Nat} {nodes s d l : Int} {lv : Value} (h : NetAt w g nodes lv s d l) (v : Int) : NetAt (w.setCell ⟨g, 3, none⟩ (.int .i64 v)) g nodes lv s v l := by
  unfold NetAt at *
  simp [World.setCell, Array.getElem?_modify, h]
theorem NetAt.set4 {w : World} {g : Nat} {nodes s d l : Int} {lv : Value} (h : NetAt w g nodes lv s d l) (v : Int) : NetAt (w.setCell ⟨g, 4, none⟩ (.int .i64 v)) g nodes lv s d v := by
  unfold NetAt at *
  simp [World.setCell, Array.getElem?_modify, h]
theorem NetAt.lt {w : World} {g : Nat} {nodes s d l : Int} {lv : Value} (h : NetAt w g nodes lv s d l) : g < w.heap.size := (Array.getElem?_eq_some_iff.1 h).1
theorem NetAt.fr {M : Nat → Prop} {w w1 : World} {g : Nat} {nodes s d l : Int} {lv : Value} (h : NetAt w g nodes lv s d l) (hf : Fr M w w1) (hm : ¬ M g) : NetAt w1 g nodes lv s d l := hf.block h hm
theorem NetAt.row {w : World} {g n size : Nat} {nodes s d l : Int} {lv v : Value} {xs : List Value} {e : TypeId} (h : NetAt w g nodes lv s d l) (ho : Row w e size v n xs) (he : e ≠ 64) : v.ownBlock ≠ some g := by
  intro hg
  obtain ⟨cur, hh⟩ := ho.typed g hg
  unfold NetAt at h
  rw [hh] at h
  simp at h
  exact he h.2
theorem NetAt.bel {w w1 : World} {g : Nat} {nodes s d l : Int} {lv : Value} (h : NetAt w g nodes lv s d l) (hb : Below w.heap.size w w1) : NetAt w1 g nodes lv s d l := (hb.block g h.lt).trans h
theorem NetAt.gr {w w1 : World} {row : Option Nat} {g : Nat} {nodes s d l : Int} {lv : Value} (h : NetAt w g nodes lv s d l) (hg : w.grownBy w1 row) (hr : row ≠ some g) : NetAt w1 g nodes lv s d l := (hg.block g h.lt hr.symm).trans h

/-- Behind 'put' that was not refused. -/
def PutDone (g : Nat) (nodes : Int) (lv : Value) (n : Nat) (cs : List Value) (s d l f t : Int) (bs : List Int) (w w' : World) : Prop :=
  ∃ lv' bv, NetAt w' g nodes lv' (wrap64 (s + 1)) d l ∧ Row w' 34 3 lv' (n + 1) (cs ++ [.int .i64 f, .int .i64 t, bv]) ∧ w'.ownsRow w.heap.size 5 1 bv bs.length (bs.map (Value.int .u8)) ∧
    Fr (fun b => b = g ∨ lv.ownBlock = some b) w w' ∧ (lv'.ownBlock = lv.ownBlock ∨ ∃ k, lv'.ownBlock = some k ∧ w.heap.size ≤ k)

theorem put_close {w W1 w2 : World} {g n base : Nat} {nodes s d l f t : Int} {lv lv' bv : Value} {cs : List Value} {bs : List Int} (hN : NetAt (w2.setCell ⟨g, 1, none⟩ lv') g nodes lv' s d l)
    (hlt : g < w.heap.size) (hb : Below w.heap.size w W1) (hg : W1.grownBy w2 lv.ownBlock) (hne : lv.ownBlock ≠ some g) (hlv : ∀ k, lv.ownBlock = some k → k < w.heap.size) (hat : lv'.ownBlock = lv.ownBlock ∨ ∃ k, lv'.ownBlock = some k ∧ W1.heap.size ≤ k)
    (ho : Row w2 34 3 lv' (n + 1) (cs ++ [.int .i64 f, .int .i64 t, bv])) (hbv : W1.ownsRow base 5 1 bv bs.length (bs.map (Value.int .u8))) (hbase : w.heap.size ≤ base) :
    PutDone g nodes lv n cs s d l f t bs w ((w2.setCell ⟨g, 1, none⟩ lv').setCell ⟨g, 2, none⟩ (.int .i64 (wrap64 (s + 1)))) := by
  have hgg : lv'.ownBlock ≠ some g := by
    rcases hat with h | ⟨k, h, hk⟩
    · rwa [h]
    · intro e
      rw [h] at e
      have := hb.size
      simp at e
      omega
  have hF : Fr (fun b => b = g ∨ lv.ownBlock = some b) w w2 := (Fr.bel _ hb).trans (Fr.of_grown hg) (fun b _ h => .inr h.symm)
  have hkb : ∀ k, bv.ownBlock = some k → w.heap.size ≤ k := fun k hk => by have := (hbv.lt k hk).1; omega
  have hb2 := hbv.kept hg (by
    cases hbo : bv.ownBlock with
    | none => exact .inl rfl
    | some k => exact .inr fun e => by have := hkb k hbo; have := hlv k e.symm; omega)
  have h2 := (Fr.refl (fun b => b = g) w2).set ⟨g, 1, none⟩ lv' (fun _ => rfl) |>.set ⟨g, 2, none⟩ (.int .i64 (wrap64 (s + 1))) (fun _ => rfl)
  refine ⟨_, bv, hN.set2 _, ?_, ?_, ?_, ?_⟩
  · exact ho.fr h2 (fun k hk e => hgg (by rw [hk, e]))
  · exact own_low (h2.own hb2 (fun k hk => by have := hkb k hk; omega)) hbase
  · exact (hF.set _ _ (fun _ => .inl rfl)).set _ _ (fun _ => .inl rfl)
  · rcases hat with h | ⟨k, h, hk⟩
    · exact .inl h
    · exact .inr ⟨k, h, by have := hb.size; omega⟩

set_option maxRecDepth 100000 in
theorem net_put_no (F : Nat → Prop) (g n c : Nat) (A : Option Addr) (nodes s d l f t : Int) (v : Value) (bs : List Int) (w : World) (hn : NetAt w g nodes (.slice A n c) s d l) (h : Sl .u8 F w v bs)
    (hno : 4096 ≤ n ∨ 1048576 < bs.length) :
    Calls Try.prog 24 #[.pointer (some ⟨g, 0, none⟩), .agg #[.int .i64 f, .int .i64 t, v]] w fun e w' => e = .returned (.int .i64 4) ∧ Below w.heap.size w w' := by
  obtain ⟨A1, c1, rfl, _⟩ := id h
  obtain ⟨k0, k1, k2, k3, k4⟩ := hn.cells
  have hlt := hn.lt
  by_cases h1 : 4096 ≤ n
  · go_enter Try.func24, Try.ntmps24
    go_wp2
    go_ret
    exact ⟨rfl, (by repeat (first | with_reducible exact Below.refl _ _ | with_reducible assumption | apply bA | apply bN | apply bD | (refine bS ?_ _ _ (by first | exact Nat.le_refl _ | (simp; done) | (simp; omega) | omega)) | refine bT ?_ ?_ (by with_reducible assumption) | exact Nat.le_refl _ | (simp; done) | (simp; omega) | omega))⟩
  · have h2 : 1048576 < bs.length := by omega
    clear hno
    go_enter Try.func24, Try.ntmps24
    go_wp2
    go_ret
    exact ⟨rfl, (by repeat (first | with_reducible exact Below.refl _ _ | with_reducible assumption | apply bA | apply bN | apply bD | (refine bS ?_ _ _ (by first | exact Nat.le_refl _ | (simp; done) | (simp; omega) | omega)) | refine bT ?_ ?_ (by with_reducible assumption) | exact Nat.le_refl _ | (simp; done) | (simp; omega) | omega))⟩

set_option maxRecDepth 100000 in
set_option maxHeartbeats 800000 in
theorem net_put (F : Nat → Prop) (g n : Nat) (nodes s d l f t : Int) (lv v : Value) (cs : List Value) (bs : List Int) (w : World) (hn : NetAt w g nodes lv s d l) (ho : Row w 34 3 lv n cs) (h : Sl .u8 F w v bs)
    (h1 : n < 4096) (h2 : bs.length ≤ 1048576) :
    Calls Try.prog 24 #[.pointer (some ⟨g, 0, none⟩), .agg #[.int .i64 f, .int .i64 t, v]] w fun e w' => e = .returned (.int .i64 0) ∧ PutDone g nodes lv n cs s d l f t bs w w' := by
  obtain ⟨i0, hi0, hz0, hz1, hz2⟩ := info_parts Try.info_Packet
  obtain ⟨A1, c1, rfl, _⟩ := id h
  obtain ⟨k0, k1, k2, k3, k4⟩ := hn.cells
  have f1 := hn.frozen 1
  have f2 := hn.frozen 2
  have hlt := hn.lt
  have hrow := hn.row ho (by decide)
  obtain ⟨A, c, rfl, hnc, hcm, hA⟩ := ho.slice
  have HN := Lib.hid hn; clear hn
  have HH := Lib.hid h; clear h
  have HO := Lib.hid ho; clear ho
  have HR := Lib.hid hrow; clear hrow
  have fA : ∀ o, (w.alloc o).frozen? ⟨g, 1, none⟩ = false := fun o => fz_al hlt f1 o
  go_enter Try.func24, Try.ntmps24
  go_wp2_with fail
  go_region_law (first
     | (refine st_appendR (by rfl) _ _ _ (by rfl) 34 3 40 _ Try.underlying27 Try.info_Packet rfl (by omega) (.slice A n c) n cs (by rfl) (HO.out.bel (by repeat (first | with_reducible exact Below.refl _ _ | with_reducible assumption | apply bA | apply bN | apply bD | (refine bS ?_ _ _ (by first | exact Nat.le_refl _ | (simp; done) | (simp; omega) | omega)) | refine bT ?_ ?_ (by with_reducible assumption) | exact Nat.le_refl _ | (simp; done) | (simp; omega) | omega))) (some ⟨_, 0, none⟩) 1 1 [.int .i64 f, .int .i64 t, _] (by rfl) (fun h => by cases h) (by omega) (by rfl) (news_one _ _ _) (by simp [Value.oneCell']) (by unfold maxLen; omega) (by omega) ?_; intro A3 c3 w2 hown2 hgrow hat hat2; (have kg2 : w2.cell? ⟨g, 1, none⟩ = some (.slice A n c) := (hgrow.cell_far _ (by simp; omega) HR.out.symm).trans (cell_al kg _)); have kf2 : w2.frozen? ⟨g, 1, none⟩ = false := (hgrow.frozen_far _ (by simp; omega) HR.out.symm).trans (fA1 _); have HN2 := Lib.hid (((HN.out.bel (by repeat (first | with_reducible exact Below.refl _ _ | with_reducible assumption | apply bA | apply bN | apply bD | (refine bS ?_ _ _ (by first | exact Nat.le_refl _ | (simp; done) | (simp; omega) | omega)) | refine bT ?_ ?_ (by with_reducible assumption) | exact Nat.le_refl _ | (simp; done) | (simp; omega) | omega))).gr hgrow HR.out).set1 (.slice A3 (n + 1) c3)))
     | (go_simp; go_at_call 29; refine (net_fresh F _ _ _ bs _ (HH.out.below (by repeat (first | with_reducible exact Below.refl _ _ | with_reducible assumption | apply bA | apply bN | apply bD | (refine bS ?_ _ _ (by first | exact Nat.le_refl _ | (simp; done) | (simp; omega) | omega)) | refine bT ?_ ?_ (by with_reducible assumption) | exact Nat.le_refl _ | (simp; done) | (simp; omega) | omega))) (by omega)).mono ?_; rintro e w1 ⟨_, rfl, bv, rfl, hown, hbel⟩; obtain ⟨A2, c2, rfl, _⟩ := Sl.own hown; (have hs1 : w.heap.size + 1 ≤ w1.heap.size := by have := hbel.size; simpa using this); obtain ⟨hc, hf⟩ := bcellN hbel (w.heap.size + 1) (by simp); have kf := (hbel.frozen (p := ⟨g, 1, none⟩) (by simp; omega)).trans (fz_al hlt f1 _); (have fA1 : ∀ o, (w1.alloc o).frozen? ⟨g, 1, none⟩ = false := fun o => fz_al (a := ⟨g, 1, none⟩) (by simp; omega) kf o); have kg := (hbel.cell (p := ⟨g, 1, none⟩) (by simp; omega)).trans (cell_al k1 _); have kgA : ∀ o, (w1.alloc o).cell? ⟨g, 1, none⟩ = some (.slice A n c) := fun o => cell_al kg o))
  all_goals
    obtain ⟨j0, j1, j2, j3, j4⟩ := HN2.out.cells
    have q2 := HN2.out.frozen 2
    go_wp2_with (go_at_call 36; refine (atomic_Add _ _ _ _ _ j2 q2).mono ?_; rintro e w' ⟨rfl, rfl⟩)
    go_ret
    exact ⟨rfl, put_close HN2.out hlt (by repeat (first | with_reducible exact Below.refl _ _ | with_reducible assumption | apply bA | apply bN | apply bD | (refine bS ?_ _ _ (by first | exact Nat.le_refl _ | (simp; done) | (simp; omega) | omega)) | refine bT ?_ ?_ (by with_reducible assumption) | exact Nat.le_refl _ | (simp; done) | (simp; omega) | omega)) hgrow HR.out HO.out.lt hat hown2 (own_bel hown (by repeat (first | with_reducible exact Below.refl _ _ | with_reducible assumption | apply bA | apply bN | apply bD | (refine bS ?_ _ _ (by first | exact Nat.le_refl _ | (simp; done) | (simp; omega) | omega)) | refine bT ?_ ?_ (by with_reducible assumption) | exact Nat.le_refl _ | (simp; done) | (simp; omega) | omega))) (by simp)⟩
end Go.Proofs.Ytknhblhdkjgnbaa
