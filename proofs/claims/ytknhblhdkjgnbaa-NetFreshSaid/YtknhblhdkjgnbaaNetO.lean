/- A copy of a net: its packets, in memory of its own. Conditions: as typed. -/
import Derived.Test.YtknhblhdkjgnbaaNetN
import Derived.StillTailTactics
namespace Go.Proofs.Ytknhblhdkjgnbaa
open Go.RowKit

theorem new_cell (w : World) (cs : Array Value) (e j : Nat) : (w.alloc (.cells cs e)).cell? ⟨w.heap.size, j, none⟩ = cs[j]? := by
  unfold World.cell?
  rw [show (w.alloc (.cells cs e)).heap[w.heap.size]? = some _ from heap_alloc_new w _]
  simp
theorem new_frozen (w : World) (cs : Array Value) (e j : Nat) : (w.alloc (.cells cs e)).frozen? ⟨w.heap.size, j, none⟩ = false := by
  unfold World.frozen?
  rw [show (w.alloc (.cells cs e)).heap[w.heap.size]? = some _ from heap_alloc_new w _]
  simp
theorem new_set (w : World) (cs : Array Value) (e j : Nat) (v : Value) : ((w.alloc (.cells cs e)).setCell ⟨w.heap.size, j, none⟩ v).heap[w.heap.size]? = some (.cells (cs.setIfInBounds j v) e (0, 0)) := by
  have h := heap_alloc_new w (.cells cs e)
  generalize w.alloc (.cells cs e) = W at h
  simp [World.setCell, Array.getElem?_modify, h]

def CopyR (nodes : Int) (L : List Pk) (s d l : Int) (w : World) (e : Ending) (w' : World) : Prop :=
  ∃ k F' lv', e = .returned (.pointer (some ⟨k, 0, none⟩)) ∧ w.heap.size ≤ k ∧ NetRep F' w' k nodes L s d l lv' ∧ (∀ b, F' b → w.heap.size ≤ b) ∧ (∀ b, lv'.ownBlock = some b → w.heap.size ≤ b) ∧ Below w.heap.size w w'

theorem copy_close {w1 w2 : World} {nodes s d l : Int} {L : List Pk} {v : Value} {B k : Nat} (hB : B ≤ w1.heap.size) (hp : PkList B w1 v L) (hb : Below w1.heap.size w1 w2) (hk : w1.heap.size ≤ k) (hN : NetAt w2 k nodes v s d l) :
    ∃ F', NetRep F' w2 k nodes L s d l v ∧ (∀ b, F' b → B ≤ b) ∧ (∀ b, v.ownBlock = some b → B ≤ b) := by
  obtain ⟨Z, rfl, hz⟩ := hp
  have h2 := hz.bel hb
  refine ⟨fun b => ∃ z ∈ Z, z.2.ownBlock = some b, ⟨Z, rfl, hN, h2.1, ?_, ?_, ?_, ?_⟩, ?_, hz.2.2⟩
  · exact h2.2.1.imp (fun z hz b hb _ => ⟨z, hz, hb⟩)
  · rintro ⟨z, hzm, hzb⟩
    have := hz.lt z hzm k hzb
    omega
  · rintro b hvb ⟨z, hzm, hzb⟩
    obtain ⟨_, c, hc⟩ := (h2.2.1.1 z hzm).2 b hzb
    obtain ⟨c2, hc2⟩ := h2.1.typed b hvb
    rw [hc] at hc2
    simp at hc2
  · rintro b ⟨z, hzm, hzb⟩
    exact h2.lt z hzm b hzb
  · rintro b ⟨z, hzm, hzb⟩
    exact ((hz.2.1.1 z hzm).2 b hzb).1

set_option maxRecDepth 100000 in
set_option maxHeartbeats 800000 in
theorem net_Copy (F : Nat → Prop) (g : Nat) (nodes s d l : Int) (L : List Pk) (lv : Value) (w : World) (h : NetRep F w g nodes L s d l lv) (hn : 0 < nodes) (hL : L.length ≤ 4096) (hb : ∀ p ∈ L, p.b.length ≤ 140737488355328) :
    Calls Try.prog 20 #[.pointer (some ⟨g, 0, none⟩)] w (CopyR nodes L s d l w) := by
  obtain ⟨k0, k1, k2, k3, k4⟩ := h.netAt.cells
  have hlt := NetRep.lt h
  have hn0 : (nodes == 0) = false := by simp; omega
  have HR := Lib.hid h; have HB := Lib.hid hb; have H1 := Lib.hid h.netAt
  clear h hb
  go_enter Try.func20, Try.ntmps20
  go_wp2_with (go_at_call 23; refine (net_none_some _ _ _ k0 hn0).mono ?_; rintro e w' ⟨rfl, rfl⟩)
  go_region_held3 (fun w' => w'.cell? ⟨g, 0, none⟩ = some (.int .i64 nodes) ∧ w'.cell? ⟨g, 3, none⟩ = some (.int .i64 d) ∧ w'.cell? ⟨g, 4, none⟩ = some (.int .i64 l))
    (((try dsimp only); (repeat' apply And.intro) <;> (go_keep; done)))
    (first
     | (go_at_call 14; refine (net_Pending F g nodes s d l L lv _ (HR.out.bel (by repeat (first | with_reducible exact Below.refl _ _ | with_reducible assumption | apply bA | apply bN | apply bD | (refine bS ?_ _ _ (by first | exact Nat.le_refl _ | (simp; done) | (simp; omega) | omega)) | refine bT ?_ ?_ (by with_reducible assumption) | exact Nat.le_refl _ | (simp; done) | (simp; omega) | omega))) hn hL HB.out).mono ?_; rintro e w1 ⟨v1, rfl, hp1, hb1⟩; obtain ⟨A1, c1, rfl⟩ := PkList.shape hp1; obtain ⟨hc, hf⟩ := bcellN hb1 w.heap.size (by simp); (have hs1 : w.heap.size ≤ w1.heap.size := by have := hb1.size; simpa using this); (have q2 : w1.cell? ⟨g, 2, none⟩ = some (.int .i64 s) := (hc g 2 hlt).trans k2); have HP1 := Lib.hid hp1; have HB1 := Lib.hid hb1))
  have qA : ∀ o, (w1.alloc o).cell? ⟨g, 2, none⟩ = some (.int .i64 s) := fun o => cell_al q2 o
  have hnew := heap_alloc_new w1 (.cells #[.int .i64 nodes, .slice A1 L.length c1, .int .i64 0, .int .i64 d, .int .i64 l] 64)
  have sA : (w1.alloc (.cells #[.int .i64 nodes, .slice A1 L.length c1, .int .i64 0, .int .i64 d, .int .i64 l] 64)).cell? ⟨w1.heap.size, 2, none⟩ = some (.int .i64 0) := new_cell _ _ _ _
  have zA : (w1.alloc (.cells #[.int .i64 nodes, .slice A1 L.length c1, .int .i64 0, .int .i64 d, .int .i64 l] 64)).frozen? ⟨w1.heap.size, 2, none⟩ = false := new_frozen _ _ _ _
  have HNEW := Lib.hid hnew
  clear hc hf hp1 hb1 hnew
  go_wp2_with fail
  go_region_law (first
    | (go_simp; go_at_call 28; refine (atomic_Load g 2 s _ (by exact qA _)).mono ?_; rintro e w4 ⟨rfl, hww⟩; cases hww)
    | (go_simp; go_at_call 33; refine (atomic_Store _ 2 0 s _ (by exact sA) (by exact zA)).mono ?_; rintro e w4 ⟨rfl, rfl⟩))
  all_goals
    go_wp2
    go_ret
    obtain ⟨F', r1, r2, r3⟩ := copy_close (by have := HB1.out.size; exact this) HP1.out (w2 := (w1.alloc (.cells #[.int .i64 nodes, .slice A1 L.length c1, .int .i64 s, .int .i64 d, .int .i64 l] 64)).drew) (by repeat (first | with_reducible exact Below.refl _ _ | with_reducible assumption | apply bA | apply bN | apply bD | (refine bS ?_ _ _ (by first | exact Nat.le_refl _ | (simp; done) | (simp; omega) | omega)) | refine bT ?_ ?_ (by with_reducible assumption) | exact Nat.le_refl _ | (simp; done) | (simp; omega) | omega)) (Nat.le_refl _) (heap_alloc_new w1 _)
    exact ⟨_, F', _, rfl, hs1, r1, r2, r3, by first | exact bT (bN (Below.refl _ _) _) (by simp) (bT HB1.out (by exact HB1.out.size) (by repeat (first | with_reducible exact Below.refl _ _ | with_reducible assumption | apply bA | apply bN | apply bD | (refine bS ?_ _ _ (by first | exact Nat.le_refl _ | (simp; done) | (simp; omega) | omega)) | refine bT ?_ ?_ (by with_reducible assumption) | exact Nat.le_refl _ | (simp; done) | (simp; omega) | omega))) | exact (Below.trans (w := w) (w1 := w.drew) (by repeat (first | with_reducible exact Below.refl _ _ | with_reducible assumption | apply bA | apply bN | apply bD | (refine bS ?_ _ _ (by first | exact Nat.le_refl _ | (simp; done) | (simp; omega) | omega)) | refine bT ?_ ?_ (by with_reducible assumption) | exact Nat.le_refl _ | (simp; done) | (simp; omega) | omega)) HB1.out).trans (Below.mono (by repeat (first | with_reducible exact Below.refl _ _ | with_reducible assumption | apply bA | apply bN | apply bD | (refine bS ?_ _ _ (by first | exact Nat.le_refl _ | (simp; done) | (simp; omega) | omega)) | refine bT ?_ ?_ (by with_reducible assumption) | exact Nat.le_refl _ | (simp; done) | (simp; omega) | omega)) hs1)⟩
end Go.Proofs.Ytknhblhdkjgnbaa
