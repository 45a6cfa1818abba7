import Derived.Test.YtknhblhdkjgnbaaNetC
import Derived.Deep.RegionLaw
namespace Go.Proofs.Ytknhblhdkjgnbaa
open Go.RowKit

theorem Try.size_Packet : (Try.prog.info? 34).map (·.size) = some 3 := by kernel_rfl

/-- Behind 'take'. -/
def TakeDone (g : Nat) (nodes : Int) (lv : Value) (n : Nat) (pre post : List Value) (s d l : Int) (w w' : World) : Prop :=
  ∃ lv', NetAt w' g nodes lv' s d l ∧ Row w' 34 3 lv' (n - 1) (pre ++ post) ∧ Fr (fun b => b = g ∨ lv.ownBlock = some b) w w' ∧ lv'.ownBlock = lv.ownBlock

theorem take_close {w w2 : World} {g b o n c : Nat} {nodes s d l : Int} {cur : Array Value} {pre post rest : List Value} {u0 u1 u2 r0 r1 r2 : Value} (hN : NetAt w2 g nodes (.slice (some ⟨b, o, none⟩) n c) s d l)
    (hlt : g < w.heap.size) (hne : b ≠ g) (hlb : b < w.heap.size) (hF : Fr (fun k => k = b) w w2) (hcm : c ≤ maxLen) (hnc : n ≤ c) (hcs : o + c * 3 ≤ cur.size) (hT : (cur.toList.drop o).take (n * 3) = pre ++ rest)
    (hn : pre.length + post.length + 3 = n * 3) (hb2 : w2.heap[b]? = some (.cells (splice cur.toList (o + pre.length) post).toArray 34 (0, 0))) :
    TakeDone g nodes (.slice (some ⟨b, o, none⟩) n c) n pre post s d l w (((((((w2.setCell ⟨b, o + (n - 1) * 3, none⟩ u0).setCell ⟨b, o + (n - 1) * 3 + 1, none⟩ u1).setCell ⟨b, o + (n - 1) * 3 + 2, none⟩ u2).setCell ⟨g, 1, none⟩ (.slice (some ⟨b, o, none⟩) (n - 1) (n - 1))).setCell ⟨w.heap.size, 0, none⟩ r0).setCell ⟨w.heap.size, 1, none⟩ r1).setCell ⟨w.heap.size, 2, none⟩ r2) := by
  have hsz := hF.size
  have h1 : Fr (fun k => k = b) w2 (((w2.setCell ⟨b, o + (n - 1) * 3, none⟩ u0).setCell ⟨b, o + (n - 1) * 3 + 1, none⟩ u1).setCell ⟨b, o + (n - 1) * 3 + 2, none⟩ u2) :=
    Fr.set (M := fun k => k = b) (Fr.set (M := fun k => k = b) (Fr.set (M := fun k => k = b) (Fr.refl _ _) ⟨b, _, none⟩ u0 (fun _ => rfl)) ⟨b, _, none⟩ u1 (fun _ => rfl)) ⟨b, _, none⟩ u2 (fun _ => rfl)
  have hN1 := (hN.fr h1 (fun e => hne e.symm)).set1 (.slice (some ⟨b, o, none⟩) (n - 1) (n - 1))
  have hb3 : (((w2.setCell ⟨b, o + (n - 1) * 3, none⟩ u0).setCell ⟨b, o + (n - 1) * 3 + 1, none⟩ u1).setCell ⟨b, o + (n - 1) * 3 + 2, none⟩ u2).heap[b]? = some (.cells ((((splice cur.toList (o + pre.length) post).set (o + (n - 1) * 3) u0).set (o + (n - 1) * 3 + 1) u1).set (o + (n - 1) * 3 + 2) u2).toArray 34 (0, 0)) := by
    simp [World.setCell, Array.getElem?_modify, hb2]
  generalize hW : (((w2.setCell ⟨b, o + (n - 1) * 3, none⟩ u0).setCell ⟨b, o + (n - 1) * 3 + 1, none⟩ u1).setCell ⟨b, o + (n - 1) * 3 + 2, none⟩ u2) = w3 at *
  have h3 : w.heap.size ≤ w3.heap.size := by have := h1.size; omega
  have h2 : Fr (fun k => k = w.heap.size) (w3.setCell ⟨g, 1, none⟩ (.slice (some ⟨b, o, none⟩) (n - 1) (n - 1))) ((((w3.setCell ⟨g, 1, none⟩ (.slice (some ⟨b, o, none⟩) (n - 1) (n - 1))).setCell ⟨w.heap.size, 0, none⟩ r0).setCell ⟨w.heap.size, 1, none⟩ r1).setCell ⟨w.heap.size, 2, none⟩ r2) :=
    Fr.set (M := fun k => k = w.heap.size) (Fr.set (M := fun k => k = w.heap.size) (Fr.set (M := fun k => k = w.heap.size) (Fr.refl _ _) ⟨w.heap.size, _, none⟩ r0 (fun _ => rfl)) ⟨w.heap.size, _, none⟩ r1 (fun _ => rfl)) ⟨w.heap.size, _, none⟩ r2 (fun _ => rfl)
  have hg3 : Fr (fun k => k = g) w3 (w3.setCell ⟨g, 1, none⟩ (.slice (some ⟨b, o, none⟩) (n - 1) (n - 1))) := Fr.set (M := fun k => k = g) (Fr.refl _ _) ⟨g, 1, none⟩ _ (fun _ => rfl)
  refine ⟨_, hN1.fr h2 (by omega), ?_, ?_, rfl⟩
  · refine ⟨by simp; omega, .inr ⟨b, o, n - 1, _, rfl, Nat.le_refl _, by omega, h2.block (hg3.block hb3 hne) (by omega), ?_, ?_⟩⟩
    · rw [List.size_toArray, List.length_set, List.length_set, List.length_set, length_splice _ _ _ (by simp; omega)]
      simp
      omega
    · rw [List.toList_toArray, set_take _ _ _ _ _ (by omega), set_take _ _ _ _ _ (by omega), set_take _ _ _ _ _ (by omega)]
      have := splice_take cur.toList pre post rest o (n * 3) hT (by simp; omega)
      rwa [show pre.length + post.length = (n - 1) * 3 by omega] at this
  · refine (hF.trans h1 (fun k _ h => h)).mono (N := fun k => k = g ∨ (Value.slice (some ⟨b, o, none⟩) n c).ownBlock = some k) (fun k _ h => .inr (by rw [h]; rfl)) |>.trans hg3 (fun k _ h => .inl h) |>.trans h2 (fun k hk h => by omega)

set_option maxRecDepth 100000 in
set_option maxHeartbeats 800000 in
theorem net_take (g n i : Nat) (nodes s d l f t : Int) (lv bv : Value) (pre post : List Value) (w : World) (hn : NetAt w g nodes lv s d l)
    (ho : Row w 34 3 lv n (pre ++ (.int .i64 f :: .int .i64 t :: bv :: post))) (hpre : pre.length = i * 3) (hbv : ∃ A c m, bv = .slice A m c) (hnm : n ≤ 4096) (hone : ∀ v ∈ post, v.oneCell' = true) :
    Calls Try.prog 26 #[.pointer (some ⟨g, 0, none⟩), .int .i64 i] w fun e w' => e = .returned (.agg #[.int .i64 f, .int .i64 t, bv]) ∧ TakeDone g nodes lv n pre post s d l w w' := by
  have hlen := ho.1
  simp only [List.length_append, List.length_cons] at hlen
  have hin : i < n := by omega
  obtain ⟨A, c, rfl, hnc, hcm, hA⟩ := ho.slice
  have hrow := hn.row ho (by decide)
  obtain ⟨b, o, cur, rfl, c0, c1, c2, hcur, hcs, hct⟩ := ho.pk hpre
  obtain ⟨Ab, cb, mb, rfl⟩ := hbv
  obtain ⟨k0, k1, k2, k3, k4⟩ := hn.cells
  have f1 := hn.frozen 1
  have hlt := hn.lt
  have hlb := (Array.getElem?_eq_some_iff.1 hcur).1
  have HN := Lib.hid hn; clear hn
  have HO := Lib.hid ho; clear ho
  have HR := Lib.hid hrow; clear hrow
  have HC := Lib.hid hcur; clear hcur
  have hci : ¬ c = i := by omega
  clear hA
  go_enter Try.func26, Try.ntmps26
  go_wp2_with fail
  have hW : ∀ o1 o2, ((w.alloc o1).alloc o2).drew.heap[b]? = some (.cells cur 34 (0, 0)) := fun o1 o2 => (Below.heap_alloc _ o2 b (by simp; omega)).trans ((Below.heap_alloc w o1 b hlb).trans HC.out)
  have HW := Lib.hid hW; clear hW
  have HT := Lib.hid hct; clear hct
  have hin0 : i ≤ n := by omega
  have hw1 : IntKind.i64.wrap ((i : Int) + 1) = (i : Int) + 1 := by rw [IntKind.wrap_i64]; omega
  have hw2 : (0 : Int) ≤ (i : Int) + 1 := by omega
  have hw3 : (i : Int) + 1 ≤ (n : Int) := by omega
  have hw4 : ((i : Int) + 1).toNat = i + 1 := by omega
  have hkk : Nat.min (n - (i + 1)) (n - i) = n - (i + 1) := Nat.min_eq_left (by omega)
  have hnn : post.length = (n - (i + 1)) * 3 := by omega
  have hfit : o + i * 3 + post.length ≤ cur.size := by omega
  have hpp : (pre ++ [.int .i64 f, .int .i64 t, Value.slice Ab mb cb]).length = (i + 1) * 3 := by simp; omega
  have HT' : Hid ((cur.toList.drop o).take (n * 3) = (pre ++ [.int .i64 f, .int .i64 t, Value.slice Ab mb cb]) ++ post) := by have := HT.out; simpa [Hid] using this
  have HK := Lib.hid hkk; clear hkk
  have HNN := Lib.hid hnn; clear hnn
  have HPP := Lib.hid hpp; clear hpp
  have HONE := Lib.hid hone; clear hone
  go_region_law (go_must (refine st_copyS (by rfl) _ _ _ _ (by rfl) 34 3 Try.underlying27 Try.size_Packet _ _ _ _ _ _ (by rfl) (by rfl) b (o + i * 3) cur 34 (HW.out _ _) post (n - (i + 1)) HK.out HNN.out (fun _ => ⟨rfl, ⟨b, o + (i + 1) * 3, none⟩, if_neg (by omega), cells_tail (HW.out _ _) HT'.out HPP.out⟩) hfit HONE.out ?_); intro w2 hw2b hgr)
  all_goals
    have HN2 := Lib.hid ((HN.out.bel (w1 := ((w.alloc _).alloc _).drew) (by repeat (first | with_reducible exact Below.refl _ _ | with_reducible assumption | apply bA | apply bN | apply bD | (refine bS ?_ _ _ (by first | exact Nat.le_refl _ | (simp; done) | (simp; omega) | omega)) | refine bT ?_ ?_ (by with_reducible assumption) | exact Nat.le_refl _ | (simp; done) | (simp; omega) | omega))).gr hgr (fun e => HR.out e))
    have HG := Lib.hid hgr
    have hbs : b < w.heap.size := hlb
    obtain ⟨j0, j1, j2, j3, j4⟩ := HN2.out.cells
    have q1 := HN2.out.frozen 1
    have hgb : ¬ b = g := fun e => HR.out (by simp [Value.ownBlock, e])
    have hl1 : (0 : Int) ≤ (n : Int) - 1 := by omega
    have hl4 : ((n : Int) - 1).toNat = n - 1 := by omega
    have hl5 : (n : Int) - 1 ≤ (c : Int) := by omega
    have hsz2 : w.heap.size + 2 ≤ w2.heap.size := by have := hgr.size; simpa using this
    obtain ⟨x0, x1, x2, y0, y1, y2, z0, z1, z2⟩ : ∃ x0 x1 x2, w2.cell? ⟨b, o + (n - 1) * 3, none⟩ = some x0 ∧ w2.cell? ⟨b, o + (n - 1) * 3 + 1, none⟩ = some x1 ∧ w2.cell? ⟨b, o + (n - 1) * 3 + 2, none⟩ = some x2 ∧
        w2.frozen? ⟨b, o + (n - 1) * 3, none⟩ = false ∧ w2.frozen? ⟨b, o + (n - 1) * 3 + 1, none⟩ = false ∧ w2.frozen? ⟨b, o + (n - 1) * 3 + 2, none⟩ = false := three_cells hw2b.out (by rw [List.size_toArray, length_splice _ _ _ (by simpa using hfit)]; simp; omega)
    obtain ⟨p0, p1, p2⟩ : w2.cell? ⟨w.heap.size + 1, 0, none⟩ = some (.int .i64 f) ∧ w2.cell? ⟨w.heap.size + 1, 1, none⟩ = some (.int .i64 t) ∧ w2.cell? ⟨w.heap.size + 1, 2, none⟩ = some (.slice Ab mb cb) := by
      refine ⟨?_, ?_, ?_⟩ <;> (refine hgr.cell ?_ (by simp; omega); go_simp)
    obtain ⟨r0, r1, r2⟩ : w2.cell? ⟨w.heap.size, 0, none⟩ = some (.int .i64 0) ∧ w2.cell? ⟨w.heap.size, 1, none⟩ = some (.int .i64 0) ∧ w2.cell? ⟨w.heap.size, 2, none⟩ = some (.slice none 0 0) := by
      refine ⟨?_, ?_, ?_⟩ <;> (refine hgr.cell ?_ (by simp; omega); go_simp)
    have rf : ∀ k, w2.frozen? ⟨w.heap.size, k, none⟩ = false := fun k => (hgr.frozen_far _ (by simp; omega) (by simp; omega)).trans (by go_simp)
    clear hgr
    have HB := Lib.hid hw2b
    clear hw2b
    go_wp2
    all_goals
      refine bodyPost_ret (v := .agg #[.int .i64 f, .int .i64 t, .slice Ab mb cb]) (by simp [results, Try.results26, go_sem, r0, r1, r2]) rfl ⟨rfl, ?_⟩
      have hF : Fr (fun k => k = b) w w2 := (Fr.bel _ (w1 := ((w.alloc _).alloc _).drew) (by repeat (first | with_reducible exact Below.refl _ _ | with_reducible assumption | apply bA | apply bN | apply bD | (refine bS ?_ _ _ (by first | exact Nat.le_refl _ | (simp; done) | (simp; omega) | omega)) | refine bT ?_ ?_ (by with_reducible assumption) | exact Nat.le_refl _ | (simp; done) | (simp; omega) | omega))).trans (Fr.of_grown HG.out) (fun k _ h => by simpa using h)
      have := HNN.out
      first
        | exact take_close HN2.out hlt hgb hlb hF hcm (by omega) hcs HT.out (by omega) (by rw [hpre]; exact HB.out)
        | (have hc : c = i + 1 := by assumption
           subst hc
           exact take_close HN2.out hlt hgb hlb hF hcm (by omega) hcs HT.out (by omega) (by rw [hpre]; exact HB.out))
end Go.Proofs.Ytknhblhdkjgnbaa
