import Derived.Test.YtknhblhdkjgnbaaNetL
namespace Go.Proofs.Ytknhblhdkjgnbaa
open Go.RowKit

/-- A call of the script, and the slice that holds its bytes. -/
structure OpV where
  call : Int
  a : Int
  b : Int
  bs : List Int
  v : Value
def OpsAt (w : World) (A : Option Addr) (Zo : List OpV) : Prop := ∀ j (h : j < Zo.length), ∃ b o, A = some ⟨b, o, none⟩ ∧ w.cell? ⟨b, o + j * 4, none⟩ = some (.int .u8 (Zo[j]).call) ∧ w.cell? ⟨b, o + j * 4 + 1, none⟩ = some (.int .i64 (Zo[j]).a) ∧
  w.cell? ⟨b, o + j * 4 + 2, none⟩ = some (.int .i64 (Zo[j]).b) ∧ w.cell? ⟨b, o + j * 4 + 3, none⟩ = some (Zo[j]).v ∧ Sl .u8 (fun b => b < w.heap.size) w (Zo[j]).v (Zo[j]).bs ∧ (Zo[j]).bs.length ≤ 140737488351232

/-- What holds between two calls of the script: the net (at block B), what was sent (sv). -/
structure HI (B : Nat) (w0 w : World) (k : Nat) (sv lv : Value) (L : List Pk) (s d l : Int) (F : Nat → Prop) (Zs : List PV) : Prop where
  rep : NetRep F w B 5 L s d l lv
  sent : PkZ B w sv Zs
  low : Below B w0 w
  cnt : (L.length : Int) = s - d - l
  rng : 0 ≤ s ∧ s ≤ k ∧ 0 ≤ d ∧ d ≤ k ∧ 0 ≤ l ∧ l ≤ k
  lim : L.length ≤ 4096 ∧ ∀ p ∈ L, p.b.length ≤ 1048576
  lvB : ∀ b, lv.ownBlock = some b → B ≤ b
  sep : ∀ b, sv.ownBlock = some b → b ≠ B ∧ lv.ownBlock ≠ some b ∧ ¬ F b
  hB : B ≤ w.heap.size

theorem NetRep.typed {F : Nat → Prop} {w : World} {g : Nat} {nodes s d l : Int} {L : List Pk} {lv : Value} (h : NetRep F w g nodes L s d l lv) : (∃ cs, w.heap[g]? = some (.cells cs 64 (0, 0))) ∧ ∀ b, lv.ownBlock = some b → ∃ cs, w.heap[b]? = some (.cells cs 34 (0, 0)) := by
  obtain ⟨Z, rfl, hZ⟩ := h
  exact ⟨⟨_, hZ.1⟩, hZ.2.1.typed⟩
theorem PkZ.fr {B : Nat} {M : Nat → Prop} {w w1 : World} {v : Value} {Z : List PV} (h : PkZ B w v Z) (hf : Fr M w w1) (hv : ∀ b, v.ownBlock = some b → ¬ M b) (hM : ∀ b, M b → ¬ ∃ cs, w.heap[b]? = some (Obj.cells cs 5 (0, 0))) : PkZ B w1 v Z := by
  obtain ⟨h2, h3, h4⟩ := h
  refine ⟨h2.fr hf hv, ?_, h4⟩
  refine Pks.imp (F := fun b => B ≤ b ∧ ∃ c, w.heap[b]? = some (.cells c 5 (0, 0))) ?_ (h3.move fun b hl hb => hf.keep b hl (fun hm => hM b hm hb.2))
  rintro z _ b _ ⟨hB, c, hc⟩
  exact ⟨hB, c, hf.block hc (fun hm => hM b hm ⟨c, hc⟩)⟩

theorem HI.bel {B k : Nat} {w0 w w1 : World} {sv lv : Value} {L : List Pk} {s d l : Int} {F : Nat → Prop} {Zs : List PV} (h : HI B w0 w k sv lv L s d l F Zs) (hb : Below w.heap.size w w1) : HI B w0 w1 k sv lv L s d l F Zs :=
  ⟨h.rep.bel hb, h.sent.bel hb, bT h.low h.hB hb, h.cnt, h.rng, h.lim, h.lvB, h.sep, Nat.le_trans h.hB hb.size⟩

/-- A call of a method of the net. -/
theorem HI.net {B k k' : Nat} {w0 w w1 : World} {sv lv : Value} {L M : List Pk} {s d l s' d' l' : Int} {F : Nat → Prop} {Zs : List PV} (h : HI B w0 w k sv lv L s d l F Zs) (hs : NetStep F B lv w w1 5 M s' d' l')
    (hc : (M.length : Int) = s' - d' - l') (hr : 0 ≤ s' ∧ s' ≤ k' ∧ 0 ≤ d' ∧ d' ≤ k' ∧ 0 ≤ l' ∧ l' ≤ k') (hl : M.length ≤ 4096 ∧ ∀ p ∈ M, p.b.length ≤ 1048576) : ∃ lv' F', HI B w0 w1 k' sv lv' M s' d' l' F' Zs := by
  obtain ⟨F', lv', h1, h2, h3, h4⟩ := hs
  have ht := h.rep.typed
  have hlow : Below B w0 w1 := h.low.trans (h4.below h.hB (by rintro b (rfl | hx); exact Nat.le_refl _; exact h.lvB b hx))
  refine ⟨lv', F', h2, h.sent.fr h4 ?_ ?_, hlow, hc, hr, hl, ?_, ?_, Nat.le_trans h.hB h4.size⟩
  · rintro b hb (hx | hx)
    · exact (h.sep b hb).1 hx
    · exact (h.sep b hb).2.1 hx
  · rintro b (rfl | hx) ⟨cs, hcs⟩
    · obtain ⟨c2, h5⟩ := ht.1
      rw [h5] at hcs
      simp at hcs
    · obtain ⟨c2, h5⟩ := ht.2 b hx
      rw [h5] at hcs
      simp at hcs
  · intro b hb
    rcases h3 with h3 | ⟨k', h3, hk'⟩
    · exact h.lvB b (by rw [← h3]; exact hb)
    · rw [h3] at hb
      cases hb
      exact Nat.le_trans h.hB hk'
  · intro b hb
    have hlt := h.sent.1.lt b hb
    obtain ⟨e1, e2, e3⟩ := h.sep b hb
    refine ⟨e1, ?_, fun hF => ?_⟩
    · intro e
      rcases h3 with h3 | ⟨k', h3, hk'⟩
      · exact e2 (by rw [← h3]; exact e)
      · rw [h3] at e
        cases e
        omega
    · rcases h1 b hF with h1 | h1
      · exact e3 h1
      · omega

/-- What was sent has grown. -/
theorem HI.app {B k b0 : Nat} {w0 w w2 : World} {sv sv' lv bv : Value} {L : List Pk} {s d l : Int} {F : Nat → Prop} {Zs : List PV} {p : Pk} (h : HI B w0 w k sv lv L s d l F Zs) (hbW : w.ownsRow b0 5 1 bv p.b.length (p.b.map (Value.int .u8))) (hB : B ≤ b0)
    (hZ : ∀ z ∈ Zs, ∀ b, z.2.ownBlock = some b → b < b0) (k1 : Row w2 34 3 sv' (Zs.length + 1) (pvCells Zs ++ [.int .i64 p.fr, .int .i64 p.dt, bv])) (hg : w.grownBy w2 sv.ownBlock) (hat : sv'.ownBlock = sv.ownBlock ∨ ∃ k, sv'.ownBlock = some k ∧ w.heap.size ≤ k) :
    HI B w0 w2 k sv' lv L s d l F (Zs ++ [(p, bv)]) := by
  have hf := Fr.of_grown hg
  refine ⟨h.rep.fr hf ?_ ?_ ?_, h.sent.app hbW hB hZ k1 hg hat h.hB, h.low.grown hg h.hB (fun j hj => h.sent.2.2 j hj), h.cnt, h.rng, h.lim, h.lvB, ?_, Nat.le_trans h.hB hg.size⟩
  · exact fun e => (h.sep B e.symm).1 rfl
  · exact fun j hj e => (h.sep j e.symm).2.1 hj
  · exact fun j hj e => (h.sep j e.symm).2.2 hj
  · intro b hb
    rcases hat with hat | ⟨k', hat, hk'⟩
    · exact h.sep b (by rw [← hat]; exact hb)
    · rw [hat] at hb
      cases hb
      refine ⟨?_, fun e => ?_, fun e => ?_⟩
      · have := NetRep.lt h.rep
        omega
      · have := NetRep.row_lt h.rep b e
        omega
      · obtain ⟨Z, _, hZ'⟩ := h.rep
        have := hZ'.2.2.2.2.2 b e
        omega

theorem wr1 {x : Int} {k : Nat} (h0 : 0 ≤ x) (h1 : x ≤ k) (hk : k ≤ 140737488351232) : wrap64 (x + 1) = x + 1 := by unfold wrap64; omega
theorem sendErr_zero {nodes f t : Int} {n m : Nat} (h : sendErr nodes f t n m = 0) : n < 4096 ∧ m ≤ 1048576 := by
  unfold sendErr at h
  split at h
  · split at h
    · assumption
    · omega
  · omega
theorem moved_mem {L : List Pk} {i t : Nat} {p : Pk} (h : p ∈ moved L i t) : p ∈ L := by
  unfold moved at h
  rcases List.mem_append.1 h with h | h
  · rcases List.mem_append.1 (List.mem_of_mem_take h) with h | h
    · exact List.mem_of_mem_take h
    · exact List.mem_of_mem_drop h
  · rcases List.mem_append.1 h with h | h
    · exact List.mem_of_mem_drop (List.mem_of_mem_take h)
    · rcases List.mem_append.1 (List.mem_of_mem_drop h) with h | h
      · exact List.mem_of_mem_take h
      · exact List.mem_of_mem_drop h
theorem moved_len {L : List Pk} {i t : Nat} (hi : i < L.length) : (moved L i t).length = L.length := by
  unfold moved
  simp
  omega

/-! Each call, said of HI. -/
section
variable {B k : Nat} {w0 w w1 : World} {sv lv : Value} {L : List Pk} {s d l : Int} {F : Nat → Prop} {Zs : List PV}
theorem HI.send_bad (h : HI B w0 w k sv lv L s d l F Zs) {f t : Int} {bs : List Int} {e : Ending} (hs : SendR F B lv 5 L s d l f t bs w e w1) (hr : sendErr 5 f t L.length bs.length ≠ 0) :
    e = .returned (.int .i64 (sendErr 5 f t L.length bs.length)) ∧ ∃ lv' F', HI B w0 w1 (k + 1) sv lv' L s d l F' Zs := by
  obtain ⟨he, hs1⟩ := SendR.bad hs hr
  have := h.rng
  exact ⟨he, h.net hs1 h.cnt (by omega) h.lim⟩
theorem HI.send_ok (h : HI B w0 w k sv lv L s d l F Zs) {f t : Int} {bs : List Int} {e : Ending} (hs : SendR F B lv 5 L s d l f t bs w e w1) (hr : sendErr 5 f t L.length bs.length = 0) (hk : k ≤ 140737488351232) :
    e = .returned (.int .i64 0) ∧ ∃ lv' F', HI B w0 w1 (k + 1) sv lv' (L ++ [⟨f, t, bs⟩]) (s + 1) d l F' Zs := by
  obtain ⟨he, hs1⟩ := SendR.ok hs hr
  have hr' := h.rng
  have hc := h.cnt
  obtain ⟨h1, h2⟩ := sendErr_zero hr
  rw [wr1 hr'.1 hr'.2.1 hk] at hs1
  refine ⟨he, h.net hs1 (by simp; omega) (by omega) ⟨by simp; omega, ?_⟩⟩
  intro p hp
  rcases List.mem_append.1 hp with hp | hp
  · exact h.lim.2 p hp
  · rw [List.mem_singleton.1 hp]
    exact h2
theorem HI.drop (h : HI B w0 w k sv lv L s d l F Zs) {i : Int} {e : Ending} (hs : DropR F B lv 5 L s d l i w e w1) (hk : k ≤ 140737488351232) :
    ∃ r, e = .returned (.int .i64 r) ∧ ∃ lv' F' M s' d' l', HI B w0 w1 (k + 1) sv lv' M s' d' l' F' Zs ∧ ∀ p ∈ M, p ∈ L := by
  have hr := h.rng
  have hc := h.cnt
  rcases hs with ⟨_, rfl, hs1⟩ | ⟨L1, q, L2, rfl, _, rfl, hs1⟩
  · obtain ⟨lv', F', h'⟩ := h.net hs1 hc (k' := k + 1) (by omega) h.lim
    exact ⟨_, rfl, lv', F', _, _, _, _, h', fun _ hp => hp⟩
  · rw [wr1 hr.2.2.2.2.1 hr.2.2.2.2.2 hk] at hs1
    have hm : ∀ p ∈ L1 ++ L2, p ∈ L1 ++ q :: L2 := by
      intro p hp
      rcases List.mem_append.1 hp with hp | hp
      · exact List.mem_append_left _ hp
      · exact List.mem_append_right _ (List.mem_cons_of_mem _ hp)
    simp at hc
    obtain ⟨lv', F', h'⟩ := h.net hs1 (k' := k + 1) (by simp; omega) (by omega) ⟨by have := h.lim.1; simp at this ⊢; omega, fun p hp => h.lim.2 p (hm p hp)⟩
    exact ⟨_, rfl, lv', F', _, _, _, _, h', hm⟩
theorem HI.double (h : HI B w0 w k sv lv L s d l F Zs) {i : Int} {e : Ending} (hs : DoubleR F B lv 5 L s d l i w e w1) (hk : k ≤ 140737488351232) :
    ∃ r, e = .returned (.int .i64 r) ∧ ∃ lv' F' M s' d' l', HI B w0 w1 (k + 1) sv lv' M s' d' l' F' Zs ∧ ∀ p ∈ M, p ∈ L := by
  have hr := h.rng
  have hc := h.cnt
  have same : ∀ r : Int, NetStep F B lv w w1 5 L s d l → e = .returned (.int .i64 r) → ∃ r, e = .returned (.int .i64 r) ∧ ∃ lv' F' M s' d' l', HI B w0 w1 (k + 1) sv lv' M s' d' l' F' Zs ∧ ∀ p ∈ M, p ∈ L := by
    intro r hs1 he
    obtain ⟨lv', F', h'⟩ := h.net hs1 hc (k' := k + 1) (by omega) h.lim
    exact ⟨_, he, lv', F', _, _, _, _, h', fun _ hp => hp⟩
  rcases hs with ⟨_, he, hs1⟩ | ⟨L1, q, L2, hL, _, ⟨h1, h2, rfl, hs1⟩ | ⟨_, he, hs1⟩⟩
  · exact same _ hs1 he
  · rw [wr1 hr.1 hr.2.1 hk] at hs1
    have hm : ∀ p ∈ L ++ [q], p ∈ L := by
      intro p hp
      rcases List.mem_append.1 hp with hp | hp
      · exact hp
      · rw [List.mem_singleton.1 hp, hL]
        simp
    obtain ⟨lv', F', h'⟩ := h.net hs1 (k' := k + 1) (by simp; omega) (by omega) ⟨by simp; omega, fun p hp => h.lim.2 p (hm p hp)⟩
    exact ⟨_, rfl, lv', F', _, _, _, _, h', hm⟩
  · exact same _ hs1 he
theorem HI.move (h : HI B w0 w k sv lv L s d l F Zs) {i t : Int} {e : Ending} (hs : MoveR F B lv 5 L s d l i t w e w1) :
    ∃ r, e = .returned (.int .i64 r) ∧ ∃ lv' F' M s' d' l', HI B w0 w1 (k + 1) sv lv' M s' d' l' F' Zs ∧ ∀ p ∈ M, p ∈ L := by
  have hr := h.rng
  have hc := h.cnt
  rcases hs with ⟨_, rfl, hs1⟩ | ⟨hi, rfl, hs1⟩
  · obtain ⟨lv', F', h'⟩ := h.net hs1 hc (k' := k + 1) (by omega) h.lim
    exact ⟨_, rfl, lv', F', _, _, _, _, h', fun _ hp => hp⟩
  · have hl : (moved L i.toNat t.toNat).length = L.length := moved_len (by omega)
    obtain ⟨lv', F', h'⟩ := h.net hs1 (k' := k + 1) (by rw [hl]; exact hc) (by omega) ⟨by rw [hl]; exact h.lim.1, fun p hp => h.lim.2 p (moved_mem hp)⟩
    exact ⟨_, rfl, lv', F', _, _, _, _, h', fun p hp => moved_mem hp⟩
/-- Deliver: what it hands back, told for both ways. -/
theorem HI.deliver (h : HI B w0 w k sv lv L s d l F Zs) {i : Int} {e : Ending} (hs : DeliverR F B lv 5 L s d l i w e w1) (hk : k ≤ 140737488351232) :
    ∃ (p : Pk) (A : Option Addr) (c : Nat) (r : Int), e = .returned (.tuple #[.agg #[.int .i64 p.fr, .int .i64 p.dt, .slice A p.b.length c], .int .i64 r]) ∧ Sl .u8 (fun b => b < w1.heap.size) w1 (.slice A p.b.length c) p.b ∧ (r = 0 → p ∈ L) ∧
    ∃ lv' F' M s' d' l', HI B w0 w1 (k + 1) sv lv' M s' d' l' F' Zs ∧ ∀ p ∈ M, p ∈ L := by
  have hr := h.rng
  have hc := h.cnt
  rcases hs with ⟨_, rfl, hs1⟩ | ⟨L1, q, L2, bv, F1, rfl, _, rfl, h1, h2, h3, lv', h4, h5, h6⟩
  · obtain ⟨lv', F', h'⟩ := h.net hs1 hc (k' := k + 1) (by omega) h.lim
    exact ⟨⟨0, 0, []⟩, none, 0, 2, rfl, Sl.nil _ _ _, by omega, lv', F', _, _, _, _, h', fun _ hp => hp⟩
  · rw [wr1 hr.2.2.1 hr.2.2.2.1 hk] at h4
    have hm : ∀ p ∈ L1 ++ L2, p ∈ L1 ++ q :: L2 := by
      intro p hp
      rcases List.mem_append.1 hp with hp | hp
      · exact List.mem_append_left _ hp
      · exact List.mem_append_right _ (List.mem_cons_of_mem _ hp)
    simp at hc
    obtain ⟨A, c, rfl, _⟩ := id h1.sl
    obtain ⟨lv2, F2, h'⟩ := h.net ⟨F1, lv', fun b hb => .inl (h3 b hb), h4, .inl h5, h6⟩ (k' := k + 1) (by simp; omega) (by omega) ⟨by have := h.lim.1; simp at this ⊢; omega, fun p hp => h.lim.2 p (hm p hp)⟩
    refine ⟨q, A, c, 0, rfl, h1.sl.imp (fun b _ hl => hl), fun _ => by simp, lv2, F2, _, _, _, _, h', hm⟩
end
end Go.Proofs.Ytknhblhdkjgnbaa
