/- Memory words of this session: frames (Fr), byte and number slices that are read, rows that are owned. -/
import Derived.Test.YtknhblhdkjgnbaaProg
import Derived.WalkKit
import Derived.WalkSpells
import Derived.Deep.Draws
import Derived.KernelRfl
import Derived.Outline
import Derived.Deep.QuietTactic
import Derived.BigQuiet
import Derived.Lib.Hide
import Derived.Maps.AppendAt
import Derived.Laws.OwnMore
import Derived.Laws.MakeOwn
import Derived.Laws.CopyOwn
import Derived.Laws.NewBlocks
import Derived.Laws.AppendOwnNone
import Derived.OwnWalk
import Derived.Deep.LoopGhost
import Derived.Deep.RegionHeld3
import Derived.Deep.DeepCutAuto
import Derived.RegionTactic
import Derived.ChangeAlike
import Derived.Deep.RegionWith
namespace Go.Proofs.Ytknhblhdkjgnbaa
open Go.RowKit

/-- What may have turned between two worlds lies in the blocks of M, or is new. -/
structure Fr (M : Nat → Prop) (w w' : World) : Prop where
  os : w'.os = w.os
  tape : w'.tape = w.tape
  output : w'.output = w.output
  size : w.heap.size ≤ w'.heap.size
  keep : ∀ b, b < w.heap.size → ¬ M b → w'.heap[b]? = w.heap[b]?

namespace Fr
variable {M N : Nat → Prop} {w w1 w2 : World}
theorem refl (M : Nat → Prop) (w : World) : Fr M w w := ⟨rfl, rfl, rfl, Nat.le_refl _, fun _ _ _ => rfl⟩
theorem trans (h : Fr M w w1) (k : Fr N w1 w2) (hn : ∀ b, b < w.heap.size → N b → M b) : Fr M w w2 :=
  ⟨k.os.trans h.os, k.tape.trans h.tape, k.output.trans h.output, Nat.le_trans h.size k.size,
   fun b hb hm => (k.keep b (Nat.lt_of_lt_of_le hb h.size) (fun hx => hm (hn b hb hx))).trans (h.keep b hb hm)⟩
theorem mono (h : Fr M w w1) (hn : ∀ b, b < w.heap.size → M b → N b) : Fr N w w1 :=
  ⟨h.os, h.tape, h.output, h.size, fun b hb hm => h.keep b hb (fun hx => hm (hn b hb hx))⟩
theorem of_below {B : Nat} (h : Below B w w1) : Fr (fun b => B ≤ b) w w1 := ⟨h.os, h.tape, h.output, h.size, fun b _ hm => h.block b (by omega)⟩
theorem bel (M : Nat → Prop) (h : Below w.heap.size w w1) : Fr M w w1 := ⟨h.os, h.tape, h.output, h.size, fun b hb _ => h.block b hb⟩
theorem of_grown {row : Option Nat} (h : w.grownBy w1 row) : Fr (fun b => some b = row) w w1 := ⟨h.os, h.tape, h.output, h.size, fun b hb hm => h.block b hb hm⟩
theorem below {B : Nat} (h : Fr M w w1) (hB : B ≤ w.heap.size) (hm : ∀ b, M b → B ≤ b) : Below B w w1 :=
  ⟨h.os, h.tape, h.output, h.size, fun b hb => h.keep b (by omega) (fun hx => by have := hm b hx; omega)⟩
theorem alloc (h : Fr M w w1) (o : Obj) : Fr M w (w1.alloc o) := h.trans (of_grown (World.grownBy_alloc w1 o none)) (fun b _ hx => by simp at hx)
theorem drewN (h : Fr M w w1) (n : Nat) : Fr M w (w1.drewN n) := ⟨h.os, h.tape, h.output, h.size, h.keep⟩
theorem set (h : Fr M w w1) (p : Addr) (u : Value) (hp : p.block < w.heap.size → M p.block) : Fr M w (w1.setCell p u) :=
  h.trans (N := fun b => b = p.block) ⟨rfl, rfl, rfl, by simp [World.setCell], fun b _ hm => Below.heap_setCell _ _ _ _ hm⟩ (fun b hb hx => by subst hx; exact hp hb)
theorem cell (h : Fr M w w1) {p : Addr} {v : Value} (hc : w.cell? p = some v) (hm : ¬ M p.block) : w1.cell? p = some v :=
  (World.cell?_of_block (w := w) (h.keep p.block (World.block_lt_of_cell? w p hc) hm)).trans hc
theorem block (h : Fr M w w1) {b : Nat} {o : Obj} (hb : w.heap[b]? = some o) (hm : ¬ M b) : w1.heap[b]? = some o :=
  (h.keep b (Array.getElem?_eq_some_iff.1 hb).1 hm).trans hb
theorem own (h : Fr M w w1) {base n size : Nat} {e : TypeId} {v : Value} {xs : List Value} (ho : w.ownsRow base e size v n xs) (hm : ∀ k, v.ownBlock = some k → ¬ M k) : w1.ownsRow base e size v n xs := by
  obtain ⟨hl, hr⟩ := ho
  refine ⟨hl, ?_⟩
  rcases hr with hr | ⟨g, cap, cur, rfl, hg, hh, r⟩
  · exact .inl hr
  · exact .inr ⟨g, cap, cur, rfl, hg, h.block hh (hm g rfl), r⟩
end Fr

/-- A slice of whole numbers of kind k, read; its cells lie in a block of F. -/
def Sl (k : IntKind) (F : Nat → Prop) (w : World) (v : Value) (xs : List Int) : Prop :=
  ∃ A c, v = .slice A xs.length c ∧ xs.length ≤ c ∧ c ≤ maxLen ∧ (A = none → c = 0) ∧
    ∀ j (h : j < xs.length), ∃ ad, A = some ad ∧ F ad.block ∧ w.cell? (ad.add j) = some (.int k xs[j])

theorem add_block (ad : Addr) (j : Nat) : (ad.add j).block = ad.block := by unfold Addr.add; split <;> rfl

namespace Sl
variable {k : IntKind} {F G : Nat → Prop} {w w1 : World} {v : Value} {xs : List Int}
theorem nil (k : IntKind) (F : Nat → Prop) (w : World) : Sl k F w (.slice none 0 0) [] := ⟨none, 0, rfl, by simp, by simp, fun _ => rfl, fun j h => by simp at h⟩
theorem imp (h : Sl k F w v xs) (hf : ∀ b, F b → b < w.heap.size → G b) : Sl k G w v xs := by
  obtain ⟨A, c, h1, h2, h3, h4, h5⟩ := h
  refine ⟨A, c, h1, h2, h3, h4, fun j hj => ?_⟩
  obtain ⟨ad, e, hb, hc⟩ := h5 j hj
  exact ⟨ad, e, hf _ hb (by have := World.block_lt_of_cell? w _ hc; rwa [add_block] at this), hc⟩
theorem move (h : Sl k F w v xs) (hm : ∀ b, b < w.heap.size → F b → w1.heap[b]? = w.heap[b]?) : Sl k F w1 v xs := by
  obtain ⟨A, c, h1, h2, h3, h4, h5⟩ := h
  refine ⟨A, c, h1, h2, h3, h4, fun j hj => ?_⟩
  obtain ⟨ad, e, hb, hc⟩ := h5 j hj
  have hlt := World.block_lt_of_cell? w _ hc
  rw [add_block] at hlt
  exact ⟨ad, e, hb, (World.cell?_of_block (w := w) (by rw [add_block]; exact hm _ hlt hb)).trans hc⟩
theorem fr {M : Nat → Prop} (h : Sl k F w v xs) (hf : Fr M w w1) (hd : ∀ b, b < w.heap.size → F b → ¬ M b) : Sl k F w1 v xs := h.move fun b hb hx => hf.keep b hb (hd b hb hx)
theorem below (h : Sl k F w v xs) (hb : Below w.heap.size w w1) : Sl k F w1 v xs := h.move fun b hl _ => hb.block b hl
theorem own {base n : Nat} {e : TypeId} (h : w.ownsRow base e 1 v n (xs.map (Value.int k))) : Sl k (fun b => v.ownBlock = some b) w v xs := by
  have hl : xs.length = n := by have := h.1; simpa using this
  rcases h.2 with ⟨rfl, h0⟩ | ⟨g, cap, cur, rfl, hb, hh, hc, hm, _⟩
  · have : xs = [] := List.eq_nil_of_length_eq_zero (by omega)
    subst this
    exact ⟨none, 0, rfl, by simp, by simp, fun _ => rfl, fun j h => by simp at h⟩
  · refine ⟨some ⟨g, 0, none⟩, cap, by rw [hl], by omega, hm, (fun h => by cases h), fun j hj => ⟨_, rfl, rfl, ?_⟩⟩
    exact h.cells (g := g) rfl j _ (by simp [List.getElem?_eq_getElem hj])
theorem len_le (h : Sl k F w v xs) : xs.length ≤ maxLen := by obtain ⟨A, c, h1, h2, h3, _⟩ := h; omega
end Sl

section
variable {P : Program}
/-- append(v, x): v a row of the call's own, x whatever is read (nil too). -/
theorem wpl_append {ops : Array Oper} {rest : List Oper} {o : Oper} {a : Act} {Q : Exit → Act → World → Prop} {w : World} (hgd : o.guard = none) (s x : Operand) (t : TypeId)
    (ho : o.op = .call { callee := .builtin .append, args := #[s, x], argTypes := #[t, t] })
    (base e size bytes : Nat) (z : Value) (ht : P.underlying t = some (.slice e)) (hinfo : (P.info? e).map (fun i => (i.zero, i.size, i.bytes)) = some (some z, size, bytes)) (hzs : z.cells.size = size) (hsz : 0 < size)
    (v : Value) (n : Nat) (xs : List Value) (hs : a.eval s = v) (hown : w.ownsRow base e size v n xs)
    (B : Option Addr) (m c : Nat) (news : List Value) (hx : a.eval x = .slice B m c) (hB : B = none → c = 0) (hmc : m ≤ c) (hl : news.length = m * size)
    (hnews : ∀ j (h : j < news.length), ∃ ad, B = some ad ∧ w.cell? (ad.add j) = some news[j]) (h1 : ∀ u ∈ news, u.oneCell' = true)
    (h63 : n + m ≤ maxLen) (hbytes : (n + m) * bytes ≤ 140737488355328) (hbase : base ≤ w.heap.size)
    (h : ∀ v' w', w'.ownsRow base e size v' (n + m) (xs ++ news) → w.grownBy w' v.ownBlock → (v'.ownBlock = v.ownBlock ∨ v'.ownBlock = some w.heap.size) → wpList P ops Q rest (a.put o.dst v') w') :
    wpList P ops Q (o :: rest) a w := by
  obtain ⟨i0, hi, hz0, hz1, hz2⟩ := info_parts hinfo
  cases B with
  | none =>
    obtain rfl : c = 0 := hB rfl
    obtain rfl : m = 0 := by omega
    have hn : news = [] := List.eq_nil_of_length_eq_zero (by simpa using hl)
    subst hn
    refine wpList_append_own_none hgd s x t ho base e i0 size ht hi v n xs hs hown hx ?_
    exact h v w (by simpa using hown) ⟨rfl, rfl, rfl, Nat.le_refl _, fun _ _ _ => rfl⟩ (.inl rfl)
  | some ad =>
    refine wpList_append_own_at w hgd s x t ho base e i0 z size bytes ht hi hz0 hz1 hz2 hzs hsz v n xs hs hown ad m c news hx hl (fun j u hj => ?_) h1 h63 hbytes hbase ?_
    · obtain ⟨hj', rfl⟩ := List.getElem?_eq_some_iff.1 hj
      obtain ⟨ad', e', hc⟩ := hnews j hj'
      cases e'
      exact hc
    · intro v' w' h1 h2 _ h4
      exact h v' w' h1 h2 h4
end

theorem Sl.cells {k : IntKind} {F : Nat → Prop} {w : World} {v : Value} {xs : List Int} (h : Sl k F w v xs) : ∃ A c, v = .slice A xs.length c ∧ xs.length ≤ c ∧ c ≤ maxLen ∧ (A = none → c = 0) ∧
    ∀ j (h : j < (xs.map (Value.int k)).length), ∃ ad, A = some ad ∧ w.cell? (ad.add j) = some (xs.map (Value.int k))[j] := by
  obtain ⟨A, c, h1, h2, h3, h4, h5⟩ := h
  refine ⟨A, c, h1, h2, h3, h4, fun j hj => ?_⟩
  obtain ⟨ad, e, _, hc⟩ := h5 j (by simpa using hj)
  exact ⟨ad, e, by simpa using hc⟩
theorem cell_al {w : World} {a : Addr} {v : Value} (h : w.cell? a = some v) (o : Obj) : (w.alloc o).cell? a = some v :=
  (World.cell?_of_block (w := w) (Below.heap_alloc w o a.block (World.block_lt_of_cell? w a h))).trans h
theorem bcell {W w1 : World} (hb : Below W.heap.size W w1) : (∀ b o, b < W.heap.size → w1.cell? ⟨b, o, none⟩ = W.cell? ⟨b, o, none⟩) ∧ (∀ b o, b < W.heap.size → w1.frozen? ⟨b, o, none⟩ = W.frozen? ⟨b, o, none⟩) :=
  ⟨fun b o h => hb.cell (p := ⟨b, o, none⟩) h, fun b o h => hb.frozen (p := ⟨b, o, none⟩) h⟩
theorem bcellN {W w1 : World} (hb : Below W.heap.size W w1) (n : Nat) (hn : n ≤ W.heap.size) : (∀ b o, b < n → w1.cell? ⟨b, o, none⟩ = W.cell? ⟨b, o, none⟩) ∧ (∀ b o, b < n → w1.frozen? ⟨b, o, none⟩ = W.frozen? ⟨b, o, none⟩) :=
  ⟨fun b o h => hb.cell (p := ⟨b, o, none⟩) (Nat.lt_of_lt_of_le h hn), fun b o h => hb.frozen (p := ⟨b, o, none⟩) (Nat.lt_of_lt_of_le h hn)⟩
theorem own_low {w : World} {base base' n size : Nat} {e : TypeId} {v : Value} {xs : List Value} (h : w.ownsRow base e size v n xs) (hb : base' ≤ base) : w.ownsRow base' e size v n xs := by
  obtain ⟨h1, h2⟩ := h
  refine ⟨h1, ?_⟩
  rcases h2 with h2 | ⟨g, cap, cur, hv, hg, r⟩
  · exact .inl h2
  · exact .inr ⟨g, cap, cur, hv, Nat.le_trans hb hg, r⟩
theorem own_bel {w W : World} {base n size : Nat} {e : TypeId} {v : Value} {xs : List Value} (h : w.ownsRow base e size v n xs) (hb : Below w.heap.size w W) : W.ownsRow base e size v n xs :=
  h.kept (row := Option.none) ⟨hb.os, hb.tape, hb.output, hb.size, fun k hk _ => hb.block k hk⟩ (by cases v.ownBlock <;> simp)
theorem fz_al {w : World} {a : Addr} (hl : a.block < w.heap.size) (h : w.frozen? a = false) (o : Obj) : (w.alloc o).frozen? a = false :=
  (World.frozen?_of_block (w := w) (Below.heap_alloc w o a.block hl)).trans h
theorem bA {w W : World} (h : Below w.heap.size w W) (o : Obj) : Below w.heap.size w (W.alloc o) := h.alloc h.size o
theorem bD {B : Nat} {w W : World} (h : Below B w W) : Below B w W.drew := h.drew
theorem bN {B : Nat} {w W : World} (h : Below B w W) (n : Nat) : Below B w (W.drewN n) := ⟨h.os, h.tape, h.output, h.size, h.block⟩
theorem bS {B : Nat} {w W : World} (h : Below B w W) (p : Addr) (u : Value) (hp : B ≤ p.block) : Below B w (W.setCell p u) := h.setCell hp u
theorem bT {B : Nat} {w W W1 : World} (h : Below B w W) (hB : B ≤ W.heap.size) (k : Below W.heap.size W W1) : Below B w W1 := h.trans (k.mono hB)
theorem own_lit0 (w : World) (base : Nat) (e : TypeId) (hb : base ≤ w.heap.size) : (w.alloc (.cells #[] e)).ownsRow base e 1 (.slice (some ⟨w.heap.size, 0, none⟩) 0 0) 0 [] :=
  ⟨by simp, .inr ⟨w.heap.size, 0, #[], rfl, hb, heap_alloc_new w _, by simp, by simp [maxLen], by simp, by simp⟩⟩
theorem ints_one {k : IntKind} {xs : List Int} : ∀ u ∈ xs.map (Value.int k), u.oneCell' = true := by
  intro u hu
  obtain ⟨x, _, rfl⟩ := List.mem_map.1 hu
  rfl
end Go.Proofs.Ytknhblhdkjgnbaa
