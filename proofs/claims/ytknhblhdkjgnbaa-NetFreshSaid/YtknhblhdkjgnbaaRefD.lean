/- The reference's net: Drop and Deliver. Conditions: as typed. -/
import Derived.Test.YtknhblhdkjgnbaaRefC
namespace Go.Proofs.Ytknhblhdkjgnbaa.Ref
open Go.RowKit

theorem r21_has_yes (g n c : Nat) (A : Option Addr) (nodes s d l i : Int) (w : World) (hn : NetAt w g nodes (.slice A n c) s d l) (hi : 0 ≤ i ∧ i < n) :
    Calls Try.prog 34 #[.pointer (some ⟨g, 0, none⟩), .int .i64 i] w fun e w' => e = .returned (.bool true) ∧ w' = w := by
  have h := r21_has g n c A nodes s d l i w hn
  rwa [show hasB n i = true by simp [hasB]; omega] at h
theorem r21_has_no (g n c : Nat) (A : Option Addr) (nodes s d l i : Int) (w : World) (hn : NetAt w g nodes (.slice A n c) s d l) (hi : ¬ (0 ≤ i ∧ i < n)) :
    Calls Try.prog 34 #[.pointer (some ⟨g, 0, none⟩), .int .i64 i] w fun e w' => e = .returned (.bool false) ∧ w' = w := by
  have h := r21_has g n c A nodes s d l i w hn
  rwa [show hasB n i = false by simp [hasB]; omega] at h

/-- take, said of the net. -/
theorem take_step {F : Nat → Prop} {w w' : World} {g : Nat} {nodes s d l : Int} {Y X : List PV} {z : PV} {lv : Value} (hZ : NetZ F w g nodes (Y ++ z :: X) s d l lv) {n : Nat} (hn : (Y ++ z :: X).length = n)
    (h : TakeNew g nodes n (pvCells Y) (pvCells X) s d l w w') : ∃ lv', NetZ F w' g nodes (Y ++ X) s d l lv' ∧ (∃ k, lv'.ownBlock = some k ∧ w.heap.size ≤ k) ∧ Fr (fun b => b = g) w w' := by
  subst hn
  obtain ⟨lv', h1, h2, h3, h4⟩ := h
  obtain ⟨g1, g2, g3, g4, g5, g6⟩ := hZ
  refine ⟨lv', ⟨h1, ?_, ?_, g4, fun k hk hF => by obtain ⟨k', h4, h5⟩ := h4; rw [h4] at hk; cases hk; have := g6 _ hF; omega, fun b hb => Nat.lt_of_lt_of_le (g6 b hb) h3.size⟩, h4, h3⟩
  · rw [pvCells_app]
    simpa using h2
  · refine Pks.move (fun b hl hb => h3.keep b hl ?_) (g3.sub (by simp))
    rintro rfl
    exact g4 hb
/-- Drop. -/
def DropR (F : Nat → Prop) (g : Nat) (lv : Value) (nodes : Int) (L : List Pk) (s d l i : Int) (w : World) (e : Ending) (w' : World) : Prop :=
  (placeErr L.length i = 2 ∧ e = .returned (.int .i64 2) ∧ NetStep F g lv w w' nodes L s d l) ∨
  ∃ L1 p L2, L = L1 ++ p :: L2 ∧ (L1.length : Int) = i ∧ e = .returned (.int .i64 0) ∧ NetStep F g lv w w' nodes (L1 ++ L2) s d (wrap64 (l + 1))

set_option maxRecDepth 100000 in
set_option maxHeartbeats 400000 in
theorem r21_Drop (F : Nat → Prop) (g : Nat) (nodes s d l i : Int) (L : List Pk) (lv : Value) (w : World) (h : NetRep F w g nodes L s d l lv) (hn : 0 < nodes) (hL : L.length ≤ 4096) :
    Calls Try.prog 30 #[.pointer (some ⟨g, 0, none⟩), .int .i64 i] w (DropR F g lv nodes L s d l i w) := by
  have HR := Lib.hid h
  obtain ⟨Z, rfl, hZ⟩ := h
  have h1 := hZ.1; have h2 := hZ.2.1
  obtain ⟨A, c, rfl, hnc, hcm, hA⟩ := h2.slice
  obtain ⟨k0, k1, k2, k3, k4⟩ := h1.cells
  have f4 := h1.frozen 4
  have hn0 : (nodes == 0) = false := by simp; omega
  have hl : (Z.map Prod.fst).length = Z.length := by simp
  by_cases hi : 0 ≤ i ∧ i < Z.length
  · obtain ⟨q, rfl⟩ : ∃ q : Nat, i = q := ⟨i.toNat, by omega⟩
    have hq : q < Z.length := by omega
    obtain ⟨Y, z, X, hZe, hY, hrow, hpre, hbv, hone, hzs, hzF, hap⟩ := hZ.at_ hq
    have hZ4 : NetZ F (w.setCell ⟨g, 4, none⟩ (.int .i64 (wrap64 (l + 1)))) g nodes Z s d (wrap64 (l + 1)) (.slice A Z.length c) := by
      obtain ⟨g1, g2, g3, g4, g5, g6⟩ := hZ
      have hf : Fr (fun b => b = g) w (w.setCell ⟨g, 4, none⟩ (.int .i64 (wrap64 (l + 1)))) := Fr.set (M := fun b => b = g) (Fr.refl _ _) _ _ (fun _ => rfl)
      exact ⟨g1.set4 _, g2.fr hf (fun k hk e => g1.row g2 (by decide) (by rw [hk, e])), g3.move (fun b hl hb => hf.keep b hl (fun e => g4 (by rw [← e]; exact hb))), g4, g5, fun b hb => Nat.lt_of_lt_of_le (g6 b hb) hf.size⟩
    have hrow4 : Row (w.setCell ⟨g, 4, none⟩ (.int .i64 (wrap64 (l + 1)))) 34 3 (.slice A Z.length c) Z.length (pvCells Y ++ (.int .i64 z.1.fr :: .int .i64 z.1.dt :: z.2 :: pvCells X)) := by
      rw [← pvCells_cons, ← pvCells_app, ← hZe]
      exact hZ4.2.1
    have HZ := Lib.hid hZ; have H4 := Lib.hid hZ4; have H1 := Lib.hid h1; have HW4 := Lib.hid hrow4
    have HOY : Hid (∀ v ∈ pvCells Y, v.oneCell' = true) := Pks.one (hZ.2.2.1.sub (by rw [hZe]; simp))
    have HY := Lib.hid hY; have HE := Lib.hid hZe; have HP := Lib.hid hpre; have HO := Lib.hid hone
    have hlen : Z.length ≤ 4096 := by omega
    have HLN := Lib.hid hlen
    clear hZ hZ4 h1 hrow4 hY hZe hpre hone h2 hrow hzs hzF hap hL hl
    have HI := Lib.hid hi
    clear hi
    go_enter Try.func30, Try.ntmps30
    go_wp2_with (first
      | (go_at_call 34; refine (r21_has_yes g Z.length c A nodes s d l q w H1.out HI.out).mono ?_; rintro e w' ⟨rfl, rfl⟩)
      | (go_at_call 35; refine (r21_take g Z.length q nodes s d (wrap64 (l + 1)) z.1.fr z.1.dt _ z.2 (pvCells Y) (pvCells X) _ H4.out.1 HW4.out HP.out hbv HLN.out HO.out HOY.out).mono ?_; rintro e w' ⟨rfl, hd⟩))
    go_ret
    obtain ⟨lv', r1, r2, r3⟩ := take_step (by rw [← HE.out]; exact H4.out) (by rw [← HE.out]) hd
    refine .inr ⟨Y.map Prod.fst, z.1, X.map Prod.fst, by rw [HE.out]; simp, by simp [HY.out], rfl, F, lv', fun _ h => .inl h, ⟨_, by simp, r1⟩, .inr (by obtain ⟨k, h, hk⟩ := r2; exact ⟨k, h, by simpa using hk⟩), ?_⟩
    refine (Fr.set (M := fun b => b = g ∨ (Value.slice A Z.length c).ownBlock = some b) (Fr.refl _ _) ⟨g, 4, none⟩ _ (fun _ => .inl rfl)).trans r3 (fun _ _ h => .inl h)
  · have H1 := Lib.hid h1
    clear hZ h1 h2 hL hl
    have HI := Lib.hid hi
    clear hi
    go_enter Try.func30, Try.ntmps30
    go_wp2_with (go_at_call 34; refine (r21_has_no g Z.length c A nodes s d l i w H1.out HI.out).mono ?_; rintro e w' ⟨rfl, rfl⟩)
    go_ret
    exact .inl ⟨by unfold placeErr; rw [if_neg (by simpa using HI.out)], rfl, NetStep.same HR.out (Below.refl _ _)⟩

/-- Deliver. -/
def DeliverR (F : Nat → Prop) (g : Nat) (lv : Value) (nodes : Int) (L : List Pk) (s d l i : Int) (w : World) (e : Ending) (w' : World) : Prop :=
  (placeErr L.length i = 2 ∧ e = .returned (.tuple #[.agg #[.int .i64 0, .int .i64 0, .slice none 0 0], .int .i64 2]) ∧ NetStep F g lv w w' nodes L s d l) ∨
  ∃ L1 p L2 bv F', L = L1 ++ p :: L2 ∧ (L1.length : Int) = i ∧ e = .returned (.tuple #[.agg #[.int .i64 p.fr, .int .i64 p.dt, bv], .int .i64 0]) ∧ Bs w' bv p.b ∧ (∀ b, bv.ownBlock = some b → F b ∧ ¬ F' b) ∧
    (∀ b, F' b → F b) ∧ ∃ lv', NetRep F' w' g nodes (L1 ++ L2) s (wrap64 (d + 1)) l lv' ∧ (lv'.ownBlock = lv.ownBlock ∨ ∃ k, lv'.ownBlock = some k ∧ w.heap.size ≤ k) ∧ Fr (fun b => b = g ∨ lv.ownBlock = some b) w w'

/-- The cells of a variable of a packet's kind that was laid before a call. -/
theorem new_cells {w w' : World} {g s e : Nat} {lv x0 x1 x2 : Value} (hf : Fr (fun b => b = g ∨ lv.ownBlock = some b) w w') (hg : s ≠ g) (hr : lv.ownBlock ≠ some s) (hh : w.heap[s]? = some (.cells #[x0, x1, x2] e (0, 0))) :
    w'.cell? ⟨s, 0, none⟩ = some x0 ∧ w'.cell? ⟨s, 1, none⟩ = some x1 ∧ w'.cell? ⟨s, 2, none⟩ = some x2 ∧ ∀ k, w'.frozen? ⟨s, k, none⟩ = false := by
  have h := hf.block hh (fun h => h.elim hg hr)
  refine ⟨?_, ?_, ?_, fun k => ?_⟩ <;> simp [World.cell?, World.frozen?, h]

theorem done_fr {g n : Nat} {nodes s d l : Int} {lv : Value} {pre post : List Value} {w w' : World} (h : TakeNew g nodes n pre post s d l w w') : Fr (fun b => b = g ∨ lv.ownBlock = some b) w w' := by
  obtain ⟨_, _, _, h, _⟩ := h
  exact h.mono (fun b _ h => .inl h)
theorem deliver_close {F : Nat → Prop} {w W w1 : World} {g n i : Nat} {nodes s d l : Int} {Y X : List PV} {z : PV} {lv u0 u1 u2 : Value} (hZ : NetZ F W g nodes (Y ++ z :: X) s (wrap64 (d + 1)) l lv) (hn : (Y ++ z :: X).length = n) (hY : Y.length = i)
    (hd : TakeNew g nodes n (pvCells Y) (pvCells X) s (wrap64 (d + 1)) l W w1) (hF : Fr (fun b => b = g) w W) (hFb : ∀ b, F b → b < w.heap.size) (hg : g < w.heap.size) (hr : ∀ k, lv.ownBlock = some k → k < w.heap.size) (hs : w.heap.size < W.heap.size)
    (hzs : Bs W z.2 z.1.b) (hzF : ∀ b, z.2.ownBlock = some b → F b) (hap : ∀ y ∈ Y ++ X, Apart y z) :
    DeliverR F g lv nodes ((Y ++ z :: X).map Prod.fst) s d l i w (.returned (.tuple #[.agg #[.int .i64 z.1.fr, .int .i64 z.1.dt, z.2], .int .i64 0])) (((w1.setCell ⟨w.heap.size, 0, none⟩ u0).setCell ⟨w.heap.size, 1, none⟩ u1).setCell ⟨w.heap.size, 2, none⟩ u2) := by
  obtain ⟨lv', r1, r2, r3⟩ := take_step hZ hn hd
  have hf : Fr (fun k => k = w.heap.size) w1 (((w1.setCell ⟨w.heap.size, 0, none⟩ u0).setCell ⟨w.heap.size, 1, none⟩ u1).setCell ⟨w.heap.size, 2, none⟩ u2) :=
    Fr.set (M := fun k => k = w.heap.size) (Fr.set (M := fun k => k = w.heap.size) (Fr.set (M := fun k => k = w.heap.size) (Fr.refl _ _) ⟨w.heap.size, _, none⟩ u0 (fun _ => rfl)) ⟨w.heap.size, _, none⟩ u1 (fun _ => rfl)) ⟨w.heap.size, _, none⟩ u2 (fun _ => rfl)
  have hng := hZ.2.2.2.1
  have hnr := hZ.2.2.2.2.1
  refine .inr ⟨Y.map Prod.fst, z.1, X.map Prod.fst, z.2, fun b => F b ∧ z.2.ownBlock ≠ some b, by simp, by simp [hY], rfl, ?_, fun b hb => ⟨hzF b hb, fun h => h.2 hb⟩, fun b hb => hb.1, lv', ⟨Y ++ X, by simp, ?_⟩, (by obtain ⟨k, h, hk⟩ := r2; exact .inr ⟨k, h, by omega⟩), ?_⟩
  · refine (hzs.move (fun b hl hb => r3.keep b hl ?_)).fr hf (fun b _ hb => by have := hFb b (hzF b hb); omega)
    rintro rfl
    exact hng (hzF _ hb)
  · obtain ⟨g1, g2, g3, g4, g5, g6⟩ := r1.fr hf (by omega) (fun k hk => by obtain ⟨k', h, hk'⟩ := r2; rw [h] at hk; cases hk; omega) (fun b hb => by have := hFb b hb; omega)
    exact ⟨g1, g2, g3.imp (fun y hy b hb h => ⟨h, fun e => hap y hy b hb e⟩), fun h => g4 h.1, fun k hk h => g5 k hk h.1, fun b hb => g6 b hb.1⟩
  · exact (hF.mono (N := fun b => b = g ∨ lv.ownBlock = some b) (fun b _ h => .inl h)).trans r3 (fun b _ h => .inl h) |>.trans hf (fun b hb h => by omega)

set_option maxRecDepth 100000 in
set_option maxHeartbeats 400000 in
theorem r21_Deliver (F : Nat → Prop) (g : Nat) (nodes s d l i : Int) (L : List Pk) (lv : Value) (w : World) (h : NetRep F w g nodes L s d l lv) (hn : 0 < nodes) (hL : L.length ≤ 4096) :
    Calls Try.prog 21 #[.pointer (some ⟨g, 0, none⟩), .int .i64 i] w (DeliverR F g lv nodes L s d l i w) := by
  have HR := Lib.hid h
  obtain ⟨Z, rfl, hZ⟩ := h
  have hlt0 := hZ.1.lt
  have h1 := hZ.1; have h2 := hZ.2.1
  obtain ⟨A, c, rfl, hnc, hcm, hA⟩ := h2.slice
  obtain ⟨k0, k1, k2, k3, k4⟩ := h1.cells
  have f3 := h1.frozen 3
  have hn0 : (nodes == 0) = false := by simp; omega
  have hl : (Z.map Prod.fst).length = Z.length := by simp
  by_cases hi : 0 ≤ i ∧ i < Z.length
  · obtain ⟨q, rfl⟩ : ∃ q : Nat, i = q := ⟨i.toNat, by omega⟩
    have hq : q < Z.length := by omega
    have hf : Fr (fun b => b = g) w ((w.setCell ⟨g, 3, none⟩ (.int .i64 (wrap64 (d + 1)))).alloc (.cells #[.int .i64 0, .int .i64 0, .slice none 0 0] 34)) := (Fr.set (M := fun b => b = g) (Fr.refl _ _) ⟨g, 3, none⟩ _ (fun _ => rfl)).alloc _
    have hng := hZ.2.2.2.1
    have hnr := hZ.2.2.2.2.1
    have hrl := h2.lt
    have hrg := h1.row h2 (by decide)
    have hZ4 : NetZ F ((w.setCell ⟨g, 3, none⟩ (.int .i64 (wrap64 (d + 1)))).alloc (.cells #[.int .i64 0, .int .i64 0, .slice none 0 0] 34)) g nodes Z s (wrap64 (d + 1)) l (.slice A Z.length c) := by
      obtain ⟨g1, g2, g3, g4, g5, g6⟩ := hZ
      exact ⟨(g1.set3 _).bel (by repeat (first | with_reducible exact Below.refl _ _ | with_reducible assumption | apply bA | apply bN | apply bD | (refine bS ?_ _ _ (by first | exact Nat.le_refl _ | (simp; done) | (simp; omega) | omega)) | refine bT ?_ ?_ (by with_reducible assumption) | exact Nat.le_refl _ | (simp; done) | (simp; omega) | omega)), g2.fr hf (fun k hk e => hrg (by rw [hk, e])), g3.move (fun b hl hb => hf.keep b hl (fun e => g4 (by rw [← e]; exact hb))), g4, g5, fun b hb => Nat.lt_of_lt_of_le (g6 b hb) hf.size⟩
    obtain ⟨Y, z, X, hZe, hY, hrow, hpre, hbv, hone, hzs, hzF, hap⟩ := hZ4.at_ hq
    obtain ⟨zA, zc, zm, hzv⟩ := hbv
    replace hzs : Bs _ z.2 z.1.b := (hZ4.2.2.1.1 z (by rw [hZe]; simp)).1
    have H4 := Lib.hid hZ4; have HW4 := Lib.hid hrow; have HB4 := Lib.hid hzs; have HZF := Lib.hid hzF; have HZV := Lib.hid hzv; have HNR := Lib.hid hnr; have HNG := Lib.hid hng; have HAP := Lib.hid hap
    have HOY : Hid (∀ v ∈ pvCells Y, v.oneCell' = true) := Pks.one (hZ4.2.2.1.sub (by rw [hZe]; simp))
    have H1 := Lib.hid h1
    have HY := Lib.hid hY; have HE := Lib.hid hZe; have HP := Lib.hid hpre; have HO := Lib.hid hone; have HRL := Lib.hid hrl; have HFB := Lib.hid hZ.2.2.2.2.2
    have hlen : Z.length ≤ 4096 := by omega
    have HLN := Lib.hid hlen
    have HF := Lib.hid hf
    clear hZ hZ4 h1 hY hZe hpre hone h2 hrow hzs hzF hap hL hl hzv hnr hf hng hrl hrg
    have HI := Lib.hid hi
    clear hi
    go_enter Try.func21, Try.ntmps21
    go_wp2_with (first
      | (go_at_call 34; refine (r21_has_yes g Z.length c A nodes s d l q _ (H1.out.bel (by repeat (first | with_reducible exact Below.refl _ _ | with_reducible assumption | apply bA | apply bN | apply bD | (refine bS ?_ _ _ (by first | exact Nat.le_refl _ | (simp; done) | (simp; omega) | omega)) | refine bT ?_ ?_ (by with_reducible assumption) | exact Nat.le_refl _ | (simp; done) | (simp; omega) | omega))) HI.out).mono ?_; rintro e w' ⟨rfl, rfl⟩)
      | (go_at_call 35; refine (r21_take g Z.length q nodes s (wrap64 (d + 1)) l z.1.fr z.1.dt _ z.2 (pvCells Y) (pvCells X) _ H4.out.1 HW4.out HP.out ⟨_, _, _, HZV.out⟩ HLN.out HO.out HOY.out).mono ?_; rintro e w1 ⟨rfl, hd⟩; obtain ⟨r0, r1, r2, rf⟩ := new_cells (s := w.heap.size) (lv := .slice A Z.length c) (done_fr hd) (by simp; omega) (fun e => by have := HRL.out _ e; omega) (show ((w.setCell ⟨g, 3, none⟩ (.int .i64 (wrap64 (d + 1)))).alloc (.cells #[.int .i64 0, .int .i64 0, .slice none 0 0] 34)).heap[w.heap.size]? = some _ from heap_alloc_new' _ _ (by simp)); have HD := Lib.hid hd; clear hd; rw [HZV.out]))
    refine bodyPost_ret (v := .tuple #[.agg #[.int .i64 z.1.fr, .int .i64 z.1.dt, .slice zA zm zc], .int .i64 0]) (by simp [results, Try.results21, go_sem, r0, r1, r2]) rfl ?_
    have h := deliver_close (u0 := .int .i64 z.1.fr) (u1 := .int .i64 z.1.dt) (u2 := z.2) (by rw [← HE.out]; exact H4.out) (by rw [← HE.out]) HY.out HD.out HF.out HFB.out hlt0 HRL.out (by simp) HB4.out HZF.out HAP.out
    rw [← HE.out, HZV.out] at h
    exact h
  · have HI := Lib.hid hi
    have H1 := Lib.hid h1
    clear hZ h1 h2 hL hl hi
    go_enter Try.func21, Try.ntmps21
    go_wp2_with (go_at_call 34; refine (r21_has_no g Z.length c A nodes s d l i _ (H1.out.bel (by repeat (first | with_reducible exact Below.refl _ _ | with_reducible assumption | apply bA | apply bN | apply bD | (refine bS ?_ _ _ (by first | exact Nat.le_refl _ | (simp; done) | (simp; omega) | omega)) | refine bT ?_ ?_ (by with_reducible assumption) | exact Nat.le_refl _ | (simp; done) | (simp; omega) | omega))) HI.out).mono ?_; rintro e w' ⟨rfl, rfl⟩)
    refine bodyPost_ret (v := .tuple #[.agg #[.int .i64 0, .int .i64 0, .slice none 0 0], .int .i64 2]) (by simp [results, Try.results21, go_sem]) rfl ?_
    exact .inl ⟨by unfold placeErr; rw [if_neg (by simpa using HI.out)], rfl, NetStep.same HR.out (by repeat (first | with_reducible exact Below.refl _ _ | with_reducible assumption | apply bA | apply bN | apply bD | (refine bS ?_ _ _ (by first | exact Nat.le_refl _ | (simp; done) | (simp; omega) | omega)) | refine bT ?_ ?_ (by with_reducible assumption) | exact Nat.le_refl _ | (simp; done) | (simp; omega) | omega))⟩
end Go.Proofs.Ytknhblhdkjgnbaa.Ref
