/- The reference's net: take. Conditions: as typed. -/
import Derived.Test.YtknhblhdkjgnbaaRefB
namespace Go.Proofs.Ytknhblhdkjgnbaa.Ref
open Go.RowKit

theorem row_lit0 (w : World) (e size : Nat) : Row (w.alloc (.cells #[] e)) e size (.slice (some ⟨w.heap.size, 0, none⟩) 0 0) 0 [] :=
  ⟨by simp, .inr ⟨w.heap.size, 0, 0, #[], rfl, Nat.le_refl _, by simp [maxLen], heap_alloc_new w _, by simp, by simp⟩⟩
theorem row_lit2 {W w : World} {k e size : Nat} (hW : W.heap = (w.alloc (.cells #[] e)).heap) (hk : k = w.heap.size) : Row W e size (.slice (some ⟨k, 0, none⟩) 0 0) 0 [] := by
  subst hk
  exact ⟨by simp, .inr ⟨w.heap.size, 0, 0, #[], rfl, Nat.le_refl _, by simp [maxLen], by rw [hW]; exact heap_alloc_new w _, by simp, by simp⟩⟩
theorem own_ge {v v' : Value} {a b : Nat} (h : v'.ownBlock = v.ownBlock ∨ ∃ k, v'.ownBlock = some k ∧ a ≤ k) (hv : ∀ k, v.ownBlock = some k → b ≤ k) (hab : b ≤ a) : ∀ k, v'.ownBlock = some k → b ≤ k := by
  intro k hk
  rcases h with h | ⟨k', h, hk'⟩
  · exact hv k (by rw [← h]; exact hk)
  · rw [h] at hk
    simp at hk
    omega
theorem own_ex {v v' : Value} {a b : Nat} (h : v'.ownBlock = v.ownBlock ∨ ∃ k, v'.ownBlock = some k ∧ a ≤ k) (hv : ∃ k, v.ownBlock = some k ∧ b ≤ k) (hab : b ≤ a) : ∃ k, v'.ownBlock = some k ∧ b ≤ k := by
  rcases h with h | ⟨k', h, hk'⟩
  · rwa [h]
  · exact ⟨k', h, by omega⟩
theorem cells_head {w : World} {b o e k m : Nat} {cur : Array Value} {pre post : List Value} (hh : w.heap[b]? = some (.cells cur e (0, 0))) (hs : (cur.toList.drop o).take m = pre ++ post) (hp : pre.length = k) :
    ∀ j (h : j < pre.length), w.cell? ((⟨b, o, none⟩ : Addr).add j) = some pre[j] := by
  intro j hj
  have := cells_tail (pre := []) (post := pre ++ post) (k := 0) hh (by simpa using hs) rfl j pre[j] (by rw [List.getElem?_append_left hj]; simp)
  simpa using this

/-- What 'take' leaves. -/
def TakeNew (g : Nat) (nodes : Int) (n : Nat) (pre post : List Value) (s d l : Int) (w w' : World) : Prop :=
  ∃ lv', NetAt w' g nodes lv' s d l ∧ Row w' 34 3 lv' (n - 1) (pre ++ post) ∧ Fr (fun b => b = g) w w' ∧ ∃ k, lv'.ownBlock = some k ∧ w.heap.size ≤ k

theorem take_close {w W3 w3 w4 : World} {g n m : Nat} {nodes s d l : Int} {lv v3 lv' r0 r1 r2 : Value} {pre post : List Value} (hN : NetAt w g nodes lv s d l) (hlt : g < w.heap.size) (hb : Below w.heap.size w W3) (hW : W3.heap.size = w.heap.size + 3)
    (hg3 : W3.grownBy w3 (Value.slice (some ⟨w.heap.size + 1 + 1, 0, none⟩) 0 0).ownBlock) (hg4 : w3.grownBy w4 v3.ownBlock) (hge : ∀ k, v3.ownBlock = some k → w.heap.size + 2 ≤ k) (hex : ∃ k, v3.ownBlock = some k ∧ w.heap.size + 2 ≤ k) (hat : lv'.ownBlock = v3.ownBlock ∨ ∃ k, lv'.ownBlock = some k ∧ w3.heap.size ≤ k)
    (ho : Row w4 34 3 lv' m (pre ++ post)) (hm : n - 1 = m) :
    TakeNew g nodes n pre post s d l w ((((w4.setCell ⟨g, 1, none⟩ lv').setCell ⟨w.heap.size, 0, none⟩ r0).setCell ⟨w.heap.size, 1, none⟩ r1).setCell ⟨w.heap.size, 2, none⟩ r2) := by
  subst hm
  have hs3 := hg3.size
  have hlow3 : Below w.heap.size w w3 := hb.grown hg3 (by omega) (fun k hk => by simp [Value.ownBlock] at hk; omega)
  have hlow4 : Below w.heap.size w w4 := hlow3.grown hg4 (by omega) (fun k hk => by have := hge k hk; omega)
  have hown : ∀ k, lv'.ownBlock = some k → w.heap.size + 2 ≤ k := own_ge hat hge (by omega)
  have hg : Fr (fun k => k = g) w4 (w4.setCell ⟨g, 1, none⟩ lv') := Fr.set (M := fun k => k = g) (Fr.refl _ _) ⟨g, 1, none⟩ _ (fun _ => rfl)
  have hr : Fr (fun k => k = w.heap.size) (w4.setCell ⟨g, 1, none⟩ lv') ((((w4.setCell ⟨g, 1, none⟩ lv').setCell ⟨w.heap.size, 0, none⟩ r0).setCell ⟨w.heap.size, 1, none⟩ r1).setCell ⟨w.heap.size, 2, none⟩ r2) :=
    Fr.set (M := fun k => k = w.heap.size) (Fr.set (M := fun k => k = w.heap.size) (Fr.set (M := fun k => k = w.heap.size) (Fr.refl _ _) ⟨w.heap.size, _, none⟩ r0 (fun _ => rfl)) ⟨w.heap.size, _, none⟩ r1 (fun _ => rfl)) ⟨w.heap.size, _, none⟩ r2 (fun _ => rfl)
  refine ⟨lv', (((hN.bel hlow4).set1 lv').fr hr (by omega)), ?_, ?_, own_ex hat (by obtain ⟨k, h, hk⟩ := hex; exact ⟨k, h, by omega⟩) (by omega)⟩
  · exact (ho.fr hg (fun k hk e => by have := hown k hk; omega)).fr hr (fun k hk e => by have := hown k hk; omega)
  · exact ((Fr.bel (fun k => k = g) hlow4).trans hg (fun k _ h => h)).trans hr (fun k hk h => by omega)

set_option maxRecDepth 100000 in
set_option maxHeartbeats 800000 in
theorem r21_take (g n i : Nat) (nodes s d l f t : Int) (lv bv : Value) (pre post : List Value) (w : World) (hn : NetAt w g nodes lv s d l)
    (ho : Row w 34 3 lv n (pre ++ (.int .i64 f :: .int .i64 t :: bv :: post))) (hpre : pre.length = i * 3) (hbv : ∃ A c m, bv = .slice A m c) (hnm : n ≤ 4096) (hone : ∀ v ∈ post, v.oneCell' = true) (hone' : ∀ v ∈ pre, v.oneCell' = true) :
    Calls Try.prog 35 #[.pointer (some ⟨g, 0, none⟩), .int .i64 i] w fun e w' => e = .returned (.agg #[.int .i64 f, .int .i64 t, bv]) ∧ TakeNew g nodes n pre post s d l w w' := by
  have hlen := ho.1
  simp only [List.length_append, List.length_cons] at hlen
  have hin : i < n := by omega
  obtain ⟨A, c, rfl, hnc, hcm, hA⟩ := ho.slice
  have hrow := hn.row ho (by decide)
  obtain ⟨b, o, cur, rfl, c0, c1, c2, hcur, hcs, hct⟩ := ho.pk hpre
  obtain ⟨Ab, cb, mb, rfl⟩ := hbv
  obtain ⟨k0, k1, k2, k3, k4⟩ := hn.cells
  have f1 := hn.frozen 1
  have hlt := hn.lt
  have hlb := (Array.getElem?_eq_some_iff.1 hcur).1
  have HN := Lib.hid hn; clear hn
  have HO := Lib.hid ho; clear ho
  have HR := Lib.hid hrow; clear hrow
  have HC := Lib.hid hcur; clear hcur
  have HT := Lib.hid hct; clear hct
  clear hA
  have hw1 : IntKind.i64.wrap ((i : Int) + 1) = (i : Int) + 1 := by rw [IntKind.wrap_i64]; omega
  have hw2 : (0 : Int) ≤ (i : Int) + 1 := by omega
  have hw3 : (i : Int) + 1 ≤ (n : Int) := by omega
  have hw4 : ((i : Int) + 1).toNat = i + 1 := by omega
  have hin0 : i ≤ n := by omega
  have hic : i ≤ c := by omega
  have hmm : n - (i + 1) ≤ c - (i + 1) := by omega
  have hml : i + (n - (i + 1)) ≤ maxLen := by unfold maxLen; omega
  have hnn : post.length = (n - (i + 1)) * 3 := by omega
  have hpp : (pre ++ [.int .i64 f, .int .i64 t, Value.slice Ab mb cb]).length = (i + 1) * 3 := by simp; omega
  have HT' : Hid ((cur.toList.drop o).take (n * 3) = (pre ++ [.int .i64 f, .int .i64 t, Value.slice Ab mb cb]) ++ post) := by have := HT.out; simpa [Hid] using this
  have HNN := Lib.hid hnn; clear hnn
  have HPP := Lib.hid hpp; clear hpp
  have HONE := Lib.hid hone; have HONE' := Lib.hid hone'; clear hone hone'
  have HPR := Lib.hid hpre; clear hpre hlen
  go_enter Try.func35, Try.ntmps35
  go_wp2_with fail
  have HC1 : Hid (∀ W, Below w.heap.size w W → W.heap[b]? = some (.cells cur 34 (0, 0))) := fun W hW => (hW.block b hlb).trans HC.out
  have kA3 : ∀ o1 o2 o3, (((w.alloc o1).alloc o2).alloc o3).cell? ⟨g, 1, none⟩ = some (.slice (some ⟨b, o, none⟩) n c) := fun o1 o2 o3 => cell_al (cell_al (cell_al k1 _) _) _
  have fA3 : ∀ o1 o2 o3, (((w.alloc o1).alloc o2).alloc o3).frozen? ⟨g, 1, none⟩ = false := fun o1 o2 o3 => fz_al (by simp; omega) (fz_al (by simp; omega) (fz_al hlt f1 _) _) _
  go_region_law (first
    | (refine st_appendR (by rfl) _ _ _ (by rfl) 34 3 40 _ Try.underlying27 Try.info_Packet rfl (by omega) (.slice A3 i c3) i pre (by rfl) (HR3.out.bel (by repeat (first | with_reducible exact Below.refl _ _ | with_reducible assumption | apply bA | apply bN | apply bD | (refine bS ?_ _ _ (by first | exact Nat.le_refl _ | (simp; done) | (simp; omega) | omega)) | refine bT ?_ ?_ (by with_reducible assumption) | exact Nat.le_refl _ | (simp; done) | (simp; omega) | omega))) _ (n - (i + 1)) (c - (i + 1)) post (by rfl) (fun h => by split at h <;> cases h) hmm HNN.out (fun j hj => ⟨⟨b, o + (i + 1) * 3, none⟩, if_neg (by have := HNN.out; omega), cells_tail (HC3.out _ ((by repeat (first | with_reducible exact Below.refl _ _ | with_reducible assumption | apply bA | apply bN | apply bD | (refine bS ?_ _ _ (by first | exact Nat.le_refl _ | (simp; done) | (simp; omega) | omega)) | refine bT ?_ ?_ (by with_reducible assumption) | exact Nat.le_refl _ | (simp; done) | (simp; omega) | omega)))) HT'.out HPP.out j _ (List.getElem?_eq_getElem hj)⟩) HONE.out hml (by omega) ?_; intro A4 c4 w4 hown4 hgrow4 hat4 hat4'; have HG4 := Lib.hid hgrow4; (have kg4 : w4.cell? ⟨g, 1, none⟩ = some (.slice (some ⟨b, o, none⟩) n c) := (hgrow4.cell_far _ (by simp; omega) HNE3.out).trans kg3); (have kf4 : w4.frozen? ⟨g, 1, none⟩ = false := (hgrow4.frozen_far _ (by simp; omega) HNE3.out).trans kf3))
    | (refine st_appendR (by rfl) _ _ _ (by rfl) 34 3 40 _ Try.underlying27 Try.info_Packet rfl (by omega) (.slice (some ⟨w.heap.size + 1 + 1, 0, none⟩) 0 0) 0 [] (by rfl) (row_lit2 (k := w.heap.size + 1 + 1) rfl (by simp)) (some ⟨b, o, none⟩) i c pre (by rfl) (fun h => by cases h) hic HPR.out (fun j hj => ⟨_, rfl, cells_head (HC1.out _ (by repeat (first | with_reducible exact Below.refl _ _ | with_reducible assumption | apply bA | apply bN | apply bD | (refine bS ?_ _ _ (by first | exact Nat.le_refl _ | (simp; done) | (simp; omega) | omega)) | refine bT ?_ ?_ (by with_reducible assumption) | exact Nat.le_refl _ | (simp; done) | (simp; omega) | omega))) HT.out HPR.out j hj⟩) HONE'.out (by unfold maxLen; omega) (by omega) ?_; intro A3 c3 w3 hown3 hgrow3 hat3 hat3'; simp only [Nat.zero_add, List.nil_append] at hown3 hat3; have HR3 := Lib.hid hown3; have HG3 := Lib.hid hgrow3; (have kg3 : w3.cell? ⟨g, 1, none⟩ = some (.slice (some ⟨b, o, none⟩) n c) := (hgrow3.cell_far _ (by simp; omega) (by simp [Value.ownBlock]; omega)).trans (kA3 _ _ _)); (have kf3 : w3.frozen? ⟨g, 1, none⟩ = false := (hgrow3.frozen_far _ (by simp; omega) (by simp [Value.ownBlock]; omega)).trans (fA3 _ _ _)); (have HGE : Hid (∀ k, (Value.slice A3 i c3).ownBlock = some k → w.heap.size + 2 ≤ k) := own_ge hat3 (by intro k hk; simp [Value.ownBlock] at hk; omega) (by simp)); have HEX : Hid (∃ k, (Value.slice A3 i c3).ownBlock = some k ∧ w.heap.size + 2 ≤ k) := own_ex hat3 ⟨_, rfl, Nat.le_refl _⟩ (by simp); (have HNE3 : Hid (some g ≠ (Value.slice A3 i c3).ownBlock) := fun h => by have := HGE.out g h.symm; omega); have hs3 : w.heap.size + 3 ≤ w3.heap.size := (by have := hgrow3.size; simp at this; omega); (have HC3 : Hid (∀ W, Below w3.heap.size w3 W → W.heap[b]? = some (.cells cur 34 (0, 0))) := fun W hW => (hW.block b (by omega)).trans ((hgrow3.block b (by simp; omega) (by simp [Value.ownBlock]; omega)).trans (HC1.out _ (by repeat (first | with_reducible exact Below.refl _ _ | with_reducible assumption | apply bA | apply bN | apply bD | (refine bS ?_ _ _ (by first | exact Nat.le_refl _ | (simp; done) | (simp; omega) | omega)) | refine bT ?_ ?_ (by with_reducible assumption) | exact Nat.le_refl _ | (simp; done) | (simp; omega) | omega)))))))
  all_goals
    have hs4 : w3.heap.size ≤ w4.heap.size := HG4.out.size
    have far : ∀ (x k : Nat), x < w.heap.size + 2 → w4.cell? ⟨x, k, none⟩ = (((w.alloc (.cells #[.int .i64 0, .int .i64 0, .slice none 0 0] 34)).alloc (.cells #[.int .i64 f, .int .i64 t, .slice Ab mb cb] 34)).alloc (.cells #[] 34)).cell? ⟨x, k, none⟩ := fun x k hx =>
      (HG4.out.cell_far ⟨x, k, none⟩ (by simp; omega) (fun h => by have := HGE.out _ h.symm; simp at this; omega)).trans (HG3.out.cell_far ⟨x, k, none⟩ (by simp; omega) (by simp [Value.ownBlock]; omega))
    have ffar : ∀ (x k : Nat), x < w.heap.size + 2 → w4.frozen? ⟨x, k, none⟩ = (((w.alloc (.cells #[.int .i64 0, .int .i64 0, .slice none 0 0] 34)).alloc (.cells #[.int .i64 f, .int .i64 t, .slice Ab mb cb] 34)).alloc (.cells #[] 34)).frozen? ⟨x, k, none⟩ := fun x k hx =>
      (HG4.out.frozen_far ⟨x, k, none⟩ (by simp; omega) (fun h => by have := HGE.out _ h.symm; simp at this; omega)).trans (HG3.out.frozen_far ⟨x, k, none⟩ (by simp; omega) (by simp [Value.ownBlock]; omega))
    obtain ⟨p0, p1, p2⟩ : w4.cell? ⟨w.heap.size + 1, 0, none⟩ = some (.int .i64 f) ∧ w4.cell? ⟨w.heap.size + 1, 1, none⟩ = some (.int .i64 t) ∧ w4.cell? ⟨w.heap.size + 1, 2, none⟩ = some (.slice Ab mb cb) := by
      refine ⟨?_, ?_, ?_⟩ <;> (rw [far _ _ (by omega)]; go_simp)
    obtain ⟨r0, r1, r2⟩ : w4.cell? ⟨w.heap.size, 0, none⟩ = some (.int .i64 0) ∧ w4.cell? ⟨w.heap.size, 1, none⟩ = some (.int .i64 0) ∧ w4.cell? ⟨w.heap.size, 2, none⟩ = some (.slice none 0 0) := by
      refine ⟨?_, ?_, ?_⟩ <;> (rw [far _ _ (by omega)]; go_simp)
    have rf : ∀ k, w4.frozen? ⟨w.heap.size, k, none⟩ = false := fun k => (ffar _ _ (by omega)).trans (by go_simp)
    have hs5 : w.heap.size + 3 ≤ w4.heap.size := by omega
    clear far ffar
    have HO4 := Lib.hid hown4; have HA4 := Lib.hid hat4
    clear hown4 hgrow4 hat4 hat4' hown3 hgrow3 hat3 hat3'
    go_wp2
    all_goals
      refine bodyPost_ret (v := .agg #[.int .i64 f, .int .i64 t, .slice Ab mb cb]) (by simp [results, Try.results35, go_sem, r0, r1, r2]) rfl ⟨rfl, ?_⟩
      exact take_close HN.out hlt (W3 := (((w.alloc _).alloc _).alloc _).drew) (by repeat (first | with_reducible exact Below.refl _ _ | with_reducible assumption | apply bA | apply bN | apply bD | (refine bS ?_ _ _ (by first | exact Nat.le_refl _ | (simp; done) | (simp; omega) | omega)) | refine bT ?_ ?_ (by with_reducible assumption) | exact Nat.le_refl _ | (simp; done) | (simp; omega) | omega)) (by simp) HG3.out HG4.out HGE.out HEX.out HA4.out HO4.out (by omega)
end Go.Proofs.Ytknhblhdkjgnbaa.Ref
