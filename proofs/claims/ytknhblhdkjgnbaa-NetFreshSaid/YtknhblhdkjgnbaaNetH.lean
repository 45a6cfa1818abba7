import Derived.Test.YtknhblhdkjgnbaaNetG
namespace Go.Proofs.Ytknhblhdkjgnbaa
open Go.RowKit

/-- A list of packets that a call has made: its row, its bytes, all of them new and each apart. -/
def PkZ (B : Nat) (w : World) (v : Value) (Z : List PV) : Prop :=
  Row w 34 3 v Z.length (pvCells Z) ∧ Pks (fun b => B ≤ b ∧ ∃ c, w.heap[b]? = some (.cells c 5 (0, 0))) w Z ∧ ∀ k, v.ownBlock = some k → B ≤ k
def PkList (B : Nat) (w : World) (v : Value) (L : List Pk) : Prop := ∃ Z : List PV, Z.map Prod.fst = L ∧ PkZ B w v Z

theorem PkZ.nil (B : Nat) (w : World) : PkZ B w (.slice none 0 0) [] := ⟨Row.nil _ _ _, ⟨by simp, by simp⟩, fun k h => by simp [Value.ownBlock] at h⟩
theorem PkZ.bel {B : Nat} {w w1 : World} {v : Value} {Z : List PV} (h : PkZ B w v Z) (hb : Below w.heap.size w w1) : PkZ B w1 v Z := by
  obtain ⟨h2, h3, h4⟩ := h
  refine ⟨h2.bel hb, ?_, h4⟩
  refine Pks.imp (F := fun b => B ≤ b ∧ ∃ c, w.heap[b]? = some (.cells c 5 (0, 0))) ?_ (h3.move fun b hl _ => hb.block b hl)
  rintro z _ b _ ⟨hB, c, hc⟩
  exact ⟨hB, c, (hb.block b (Array.getElem?_eq_some_iff.1 hc).1).trans hc⟩
theorem PkZ.lt {B : Nat} {w : World} {v : Value} {Z : List PV} (h : PkZ B w v Z) : ∀ z ∈ Z, ∀ b, z.2.ownBlock = some b → b < w.heap.size := by
  intro z hz b hb
  obtain ⟨_, c, hc⟩ := (h.2.1.1 z hz).2 b hb
  exact (Array.getElem?_eq_some_iff.1 hc).1
/-- One more at its end: the bytes first, then the append (from W on, to w2). -/
theorem PkZ.app {B b0 : Nat} {W w2 : World} {v v' bv : Value} {Z : List PV} {p : Pk} (h : PkZ B W v Z) (hbW : W.ownsRow b0 5 1 bv p.b.length (p.b.map (Value.int .u8))) (hB : B ≤ b0) (hZ : ∀ z ∈ Z, ∀ b, z.2.ownBlock = some b → b < b0)
    (k1 : Row w2 34 3 v' (Z.length + 1) (pvCells Z ++ [.int .i64 p.fr, .int .i64 p.dt, bv])) (hg : W.grownBy w2 v.ownBlock) (hat : v'.ownBlock = v.ownBlock ∨ ∃ k, v'.ownBlock = some k ∧ W.heap.size ≤ k) (hBW : B ≤ W.heap.size) : PkZ B w2 v' (Z ++ [(p, bv)]) := by
  obtain ⟨h2, h3, h4⟩ := h
  have far : ∀ b, (∃ c, W.heap[b]? = some (Obj.cells c 5 (0, 0))) → some b ≠ v.ownBlock := by
    rintro b ⟨c, hc⟩ e
    obtain ⟨c2, hc2⟩ := h2.typed b e.symm
    rw [hc] at hc2
    simp at hc2
  have keep : ∀ (b : Nat) (c : Array Value), W.heap[b]? = some (Obj.cells c 5 (0, 0)) → w2.heap[b]? = some (Obj.cells c 5 (0, 0)) := fun b c hc => (hg.block b (Array.getElem?_eq_some_iff.1 hc).1 (far b ⟨c, hc⟩)).trans hc
  refine ⟨by rw [pvCells_app]; simpa [pvCells] using k1, ?_, ?_⟩
  · refine Pks.snoc ?_ ?_ ?_ (fun y hy b h1 h2 => by have := hZ y hy b h1; have := (hbW.lt b h2).1; omega)
    · refine Pks.imp (F := fun b => B ≤ b ∧ ∃ c, W.heap[b]? = some (.cells c 5 (0, 0))) ?_ (h3.move fun b hl hb => hg.block b hl (far b hb.2))
      rintro z _ b _ ⟨hB, c, hc⟩
      exact ⟨hB, c, keep b c hc⟩
    · exact Bs.move (Row.own hbW) (fun b hl hb => hg.block b hl (far b ((Row.own hbW).typed b hb)))
    · intro b hb
      obtain ⟨c, hc⟩ := (Row.own hbW).typed b hb
      exact ⟨Nat.le_trans hB (hbW.lt b hb).1, c, keep b c hc⟩
  · intro k hk
    rcases hat with h | ⟨k', h, hk'⟩
    · exact h4 k (by rw [← h]; exact hk)
    · rw [h] at hk
      cases hk
      omega

def PendR (L : List Pk) (w : World) (e : Ending) (w' : World) : Prop := ∃ v, e = .returned v ∧ PkList w.heap.size w' v L ∧ Below w.heap.size w w'

set_option maxRecDepth 100000 in
set_option maxHeartbeats 800000 in
theorem net_Pending (F : Nat → Prop) (g : Nat) (nodes s d l : Int) (L : List Pk) (lv : Value) (w : World) (h : NetRep F w g nodes L s d l lv) (hn : 0 < nodes) (hL : L.length ≤ 4096) (hb : ∀ p ∈ L, p.b.length ≤ 140737488355328) :
    Calls Try.prog 14 #[.pointer (some ⟨g, 0, none⟩)] w (PendR L w) := by
  obtain ⟨Z, rfl, hZ⟩ := h
  have h1 := hZ.1; have h2 := hZ.2.1
  obtain ⟨A, c, rfl, hnc, hcm, hA⟩ := h2.slice
  obtain ⟨k0, k1, k2, k3, k4⟩ := h1.cells
  have hn0 : (nodes == 0) = false := by simp; omega
  have hl : (Z.map Prod.fst).length = Z.length := by simp
  rw [hl] at hL
  have hl' := hl
  have HZ := Lib.hid hZ; have HL := Lib.hid hl; have HB := Lib.hid hb; have HM := Lib.hid hL
  clear hZ h1 h2 hl hb
  go_enter Try.func14, Try.ntmps14
  go_wp2_with (go_at_call 23; refine (net_none_some _ _ _ k0 hn0).mono ?_; rintro e w' ⟨rfl, rfl⟩)
  go_loopw [3, 13] (fun v i wr => ∃ (k : Nat) (A3 : Option Addr) (m3 : Nat) (Z3 : List PV), k ≤ Z.length ∧ i = .int .i64 k ∧ v = .slice A3 k m3 ∧ Z3.length = k ∧ Z3.map Prod.fst = (Z.map Prod.fst).take k ∧ PkZ w.heap.size wr (.slice A3 k m3) Z3 ∧ Below w.heap.size w wr) (fun _ i _ => Z.length - (intOf i).toNat)
  case atStart => exact ⟨0, none, 0, [], Nat.zero_le _, rfl, rfl, rfl, by simp, PkZ.nil _ _, Below.refl _ _⟩
  case round =>
    obtain ⟨k, A3, m3, Z3, hk, rfl, rfl, hz3, hzm, hp, hbel⟩ := hrel
    by_cases hlt : k < Z.length
    · obtain ⟨Y, z, X, hZe, hY, hrow, hpre, ⟨zA, zc, zm, hzv⟩, hone, hzs, hzF, hap⟩ := HZ.out.at_ hlt
      obtain ⟨b, o, cur, rfl, c0, c1, c2, hcur, _⟩ := hrow.pk hpre
      rw [hzv] at c2
      have hlb := (Array.getElem?_eq_some_iff.1 hcur).1
      have d0 := (hbel.cell (p := ⟨b, o + k * 3, none⟩) hlb).trans c0
      have d1 := (hbel.cell (p := ⟨b, o + k * 3 + 1, none⟩) hlb).trans c1
      have d2 := (hbel.cell (p := ⟨b, o + k * 3 + 2, none⟩) hlb).trans c2
      have hsz := hbel.size
      have hlb2 : b < wr.heap.size := by omega
      have hsr := hzs.below hbel
      have hbl : z.1.b.length ≤ 140737488355328 := HB.out z.1 (by rw [hZe]; simp)
      have HM1 := Lib.hid (show k ≤ m3 ∧ m3 ≤ maxLen ∧ (A3 = none → m3 = 0) by obtain ⟨A4, m4, e3, r⟩ := hp.1.slice; rw [hz3] at e3 r; cases e3; exact r)
      have HR3 : Hid (Row wr 34 3 (.slice A3 k m3) k (pvCells Z3)) := by have := hp.1; rwa [hz3] at this
      have HZ3 := Lib.hid hz3; have HZM := Lib.hid hzm; clear hz3 hzm
      have HS := Lib.hid hsr; have HP := Lib.hid hp; have HY := Lib.hid hY; have HE := Lib.hid hZe; have HV := Lib.hid hzv
      clear hsr hp hY hZe hzs hzF hap hone hpre hrow hcur c0 c1 c2 hzv
      go_wp2_with (first
        | (go_at_call 29; go_must (refine (net_fresh _ z.1.fr z.1.dt _ z.1.b _ (by rw [← HV.out]; exact HS.out.below (by repeat (first | with_reducible exact Below.refl _ _ | with_reducible assumption | apply bA | apply bN | apply bD | (refine bS ?_ _ _ (by first | exact Nat.le_refl _ | (simp; done) | (simp; omega) | omega)) | refine bT ?_ ?_ (by with_reducible assumption) | exact Nat.le_refl _ | (simp; done) | (simp; omega) | omega))) hbl).mono ?_); rintro e w1 ⟨_, rfl, bv, rfl, hown, hbel1⟩; obtain ⟨A2, c2, rfl, _⟩ := Sl.own hown)
        | (at_builtin; go_must (refine wpl_appendR rfl _ _ _ rfl 34 3 40 _ Try.underlying27 Try.info_Packet rfl (by omega) (.slice A3 k m3) k (pvCells Z3) rfl (HR3.out.bel (by repeat (first | with_reducible exact Below.refl _ _ | with_reducible assumption | apply bA | apply bN | apply bD | (refine bS ?_ _ _ (by first | exact Nat.le_refl _ | (simp; done) | (simp; omega) | omega)) | refine bT ?_ ?_ (by with_reducible assumption) | exact Nat.le_refl _ | (simp; done) | (simp; omega) | omega))) (some ⟨_, 0, none⟩) 1 1 [.int .i64 z.1.fr, .int .i64 z.1.dt, .slice A2 z.1.b.length c2] rfl (fun h => by cases h) (by omega) rfl (news_one _ _ _) (by simp [Value.oneCell']) (by unfold maxLen; omega) (by omega) ?_); intro A5 c5 w2 hrow2 hg2 hat2 _; have HPZ := Lib.hid (PkZ.app (p := z.1) (HP.out.bel (w1 := w1.alloc (.cells #[.int .i64 z.1.fr, .int .i64 z.1.dt, .slice A2 z.1.b.length c2] 34)) (by repeat (first | with_reducible exact Below.refl _ _ | with_reducible assumption | apply bA | apply bN | apply bD | (refine bS ?_ _ _ (by first | exact Nat.le_refl _ | (simp; done) | (simp; omega) | omega)) | refine bT ?_ ?_ (by with_reducible assumption) | exact Nat.le_refl _ | (simp; done) | (simp; omega) | omega))) (own_bel hown (by repeat (first | with_reducible exact Below.refl _ _ | with_reducible assumption | apply bA | apply bN | apply bD | (refine bS ?_ _ _ (by first | exact Nat.le_refl _ | (simp; done) | (simp; omega) | omega)) | refine bT ?_ ?_ (by with_reducible assumption) | exact Nat.le_refl _ | (simp; done) | (simp; omega) | omega))) (by simp; omega) (fun y hy b hb => Nat.lt_of_lt_of_le (HP.out.lt y hy b hb) (by simp)) (by rw [HZ3.out]; exact hrow2) hg2 hat2 (by have := hbel1.size; simp at this ⊢; omega))))
      go_roundw
      case rel =>
        refine ⟨k + 1, A5, c5, _, by omega, by go_num, rfl, ?_, ?_, HPZ.out, ?_⟩
        · simp [HZ3.out]
        · rw [List.map_append, HZM.out, HE.out, List.take_add_one]
          congr 1
          simp [← HY.out]
        · exact ((by repeat (first | with_reducible exact Below.refl _ _ | with_reducible assumption | apply bA | apply bN | apply bD | (refine bS ?_ _ _ (by first | exact Nat.le_refl _ | (simp; done) | (simp; omega) | omega)) | refine bT ?_ ?_ (by with_reducible assumption) | exact Nat.le_refl _ | (simp; done) | (simp; omega) | omega)) : Below w.heap.size w (w1.alloc (.cells #[.int .i64 z.1.fr, .int .i64 z.1.dt, .slice A2 z.1.b.length c2] 34))).grown hg2 (by have := hbel1.size; simp at this ⊢; omega) (fun j hj => HP.out.2.2 j hj)
      case measure => simp [intOf]; omega
    · obtain rfl : k = Z.length := by omega
      have HP := Lib.hid hp; have HZM := Lib.hid hzm; clear hp hzm hz3
      go_wp2
      go_ret
      exact ⟨_, rfl, ⟨Z3, by rw [HZM.out, List.take_of_length_le (by simp)], HP.out⟩, hbel⟩
end Go.Proofs.Ytknhblhdkjgnbaa
