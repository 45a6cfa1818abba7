/- Rows of the call's own: a slice over a block of cells, its capacity no matter which; append and copy as laws. -/
import Derived.Test.YtknhblhdkjgnbaaMem
import Derived.ArgAppend
namespace Go.Proofs.Ytknhblhdkjgnbaa
open Go.RowKit

/-- v is a slice of n elements of type e (size cells each) that reads as xs, writable up to its capacity. -/
def Row (w : World) (e size : Nat) (v : Value) (n : Nat) (xs : List Value) : Prop :=
  xs.length = n * size ∧ ((v = .slice none 0 0 ∧ n = 0) ∨
    ∃ g o c cur, v = .slice (some ⟨g, o, none⟩) n c ∧ n ≤ c ∧ c ≤ maxLen ∧ w.heap[g]? = some (.cells cur e (0, 0)) ∧ o + c * size ≤ cur.size ∧ (cur.toList.drop o).take (n * size) = xs)

namespace Row
variable {w w1 : World} {e size n : Nat} {v : Value} {xs : List Value}
theorem own {base : Nat} (h : w.ownsRow base e size v n xs) : Row w e size v n xs := by
  obtain ⟨h1, h2⟩ := h
  refine ⟨h1, ?_⟩
  rcases h2 with h2 | ⟨g, cap, cur, hv, _, hh, hn, hc, hs, ht⟩
  · exact .inl h2
  · exact .inr ⟨g, 0, cap, cur, hv, hn, hc, hh, by omega, by simpa using ht⟩
theorem nil (w : World) (e size : Nat) : Row w e size (.slice none 0 0) 0 [] := ⟨by simp, .inl ⟨rfl, rfl⟩⟩
theorem lt (h : Row w e size v n xs) : ∀ k, v.ownBlock = some k → k < w.heap.size := by
  intro k hk
  rcases h.2 with ⟨rfl, _⟩ | ⟨g, o, c, cur, rfl, _, _, hh, _⟩
  · simp [Value.ownBlock] at hk
  · have : g = k := by simpa [Value.ownBlock] using hk
    subst this
    exact (Array.getElem?_eq_some_iff.1 hh).1
theorem typed (h : Row w e size v n xs) : ∀ k, v.ownBlock = some k → ∃ cur, w.heap[k]? = some (.cells cur e (0, 0)) := by
  intro k hk
  rcases h.2 with ⟨rfl, _⟩ | ⟨g, o, c, cur, rfl, _, _, hh, _⟩
  · simp [Value.ownBlock] at hk
  · have : g = k := by simpa [Value.ownBlock] using hk
    subst this
    exact ⟨cur, hh⟩
theorem move (h : Row w e size v n xs) (hm : ∀ k, v.ownBlock = some k → w1.heap[k]? = w.heap[k]?) : Row w1 e size v n xs := by
  refine ⟨h.1, ?_⟩
  rcases h.2 with h2 | ⟨g, o, c, cur, rfl, hn, hc, hh, r⟩
  · exact .inl h2
  · exact .inr ⟨g, o, c, cur, rfl, hn, hc, (hm g rfl).trans hh, r⟩
theorem fr {M : Nat → Prop} (h : Row w e size v n xs) (hf : Fr M w w1) (hm : ∀ k, v.ownBlock = some k → ¬ M k) : Row w1 e size v n xs :=
  h.move fun k hk => hf.keep k (h.lt k hk) (hm k hk)
theorem bel (h : Row w e size v n xs) (hb : Below w.heap.size w w1) : Row w1 e size v n xs := h.move fun k hk => hb.block k (h.lt k hk)
theorem gr {row : Option Nat} (h : Row w e size v n xs) (hg : w.grownBy w1 row) (hne : ∀ k, v.ownBlock = some k → row ≠ some k) : Row w1 e size v n xs :=
  h.move fun k hk => hg.block k (h.lt k hk) (hne k hk).symm
theorem slice (h : Row w e size v n xs) : ∃ A c, v = .slice A n c ∧ n ≤ c ∧ c ≤ maxLen ∧ (A = none → c = 0) := by
  rcases h.2 with ⟨rfl, rfl⟩ | ⟨g, o, c, cur, rfl, hn, hc, _⟩
  · exact ⟨_, _, rfl, by simp, by simp, fun _ => rfl⟩
  · exact ⟨_, _, rfl, hn, hc, fun h => by cases h⟩
/-- The cells, in the form that reading wants. -/
theorem at_ {A : Option Addr} {c : Nat} (h : Row w e size (.slice A n c) n xs) (j : Nat) (hj : j < xs.length) : ∃ g o, A = some ⟨g, o, none⟩ ∧ w.cell? ⟨g, o + j, none⟩ = some xs[j] ∧ w.frozen? ⟨g, o + j, none⟩ = false ∧ (∃ cur, w.heap[g]? = some (.cells cur e (0, 0))) := by
  have hl := h.1
  rcases h.2 with ⟨hv, h0⟩ | ⟨g, o, c', cur, hv, hn, hc, hh, hs, ht⟩
  · subst h0
    simp at hl
    subst hl
    simp at hj
  · injection hv with h1 h2 h3
    subst h1
    subst h3
    refine ⟨g, o, rfl, ?_, by simp [World.frozen?, hh], cur, hh⟩
    subst ht
    have hj2 : j < n * size := by omega
    have hb : o + j < cur.size := by
      simp at hj
      omega
    simp [World.cell?, hh, hb]
theorem take_ {A : Option Addr} {c m c' : Nat} (h : Row w e size (.slice A n c) n xs) (hm : m ≤ n) (hc1 : m ≤ c') (hc2 : c' ≤ c) : Row w e size (.slice A m c') m (xs.take (m * size)) := by
  have hl := h.1
  refine ⟨by rw [List.length_take, hl]; exact Nat.min_eq_left (Nat.mul_le_mul_right _ hm), ?_⟩
  rcases h.2 with ⟨hv, h0⟩ | ⟨g, o, c0, cur, hv, hn, hc, hh, hs, ht⟩
  · injection hv with h1 h2 h3
    subst h1
    exact .inl ⟨by rw [show m = 0 by omega, show c' = 0 by omega], by omega⟩
  · injection hv with h1 h2 h3
    subst h1
    subst h3
    refine .inr ⟨g, o, c', cur, rfl, hc1, by omega, hh, by have := Nat.mul_le_mul_right size hc2; omega, ?_⟩
    rw [← ht, List.take_take, Nat.min_eq_left (Nat.mul_le_mul_right _ hm)]
end Row

theorem Row.pk {w : World} {e n i c : Nat} {A : Option Addr} {x y z : Value} {pre post : List Value} (h : Row w e 3 (.slice A n c) n (pre ++ x :: y :: z :: post)) (hp : pre.length = i * 3) :
    ∃ b o cur, A = some ⟨b, o, none⟩ ∧ w.cell? ⟨b, o + i * 3, none⟩ = some x ∧ w.cell? ⟨b, o + i * 3 + 1, none⟩ = some y ∧ w.cell? ⟨b, o + i * 3 + 2, none⟩ = some z ∧ w.heap[b]? = some (.cells cur e (0, 0)) ∧
      o + c * 3 ≤ cur.size ∧ (cur.toList.drop o).take (n * 3) = pre ++ x :: y :: z :: post := by
  have hl := h.1
  simp only [List.length_append, List.length_cons] at hl
  rcases h.2 with ⟨_, h0⟩ | ⟨b, o, c', cur, hv, hn, hc, hh, hs, ht⟩
  · omega
  · injection hv with h1 h2 h3
    subst h1
    subst h3
    have hc : ∀ j, j < 3 → w.cell? ⟨b, o + i * 3 + j, none⟩ = (pre ++ x :: y :: z :: post)[i * 3 + j]? := by
      intro j hj
      have hb : o + i * 3 + j < cur.size := by omega
      rw [← ht]
      rw [List.getElem?_take_of_lt (by omega), List.getElem?_drop]
      simp [World.cell?, hh, Nat.add_assoc]
    have g0 := hc 0 (by omega)
    have g1 := hc 1 (by omega)
    have g2 := hc 2 (by omega)
    refine ⟨b, o, cur, rfl, ?_, ?_, ?_, hh, hs, ht⟩
    · simpa [← hp] using g0
    · simpa [← hp] using g1
    · simpa [← hp] using g2

theorem setCells_row {g e : Nat} : ∀ (vs : List Value) (o : Nat) (w : World) (cur : Array Value), w.heap[g]? = some (.cells cur e (0, 0)) → o + vs.length ≤ cur.size →
    ∃ cur', (w.setCells g o vs).heap[g]? = some (.cells cur' e (0, 0)) ∧ cur'.size = cur.size ∧ cur'.toList = cur.toList.take o ++ vs ++ cur.toList.drop (o + vs.length)
  | [], o, w, cur, h, _ => ⟨cur, h, rfl, by simp⟩
  | v :: vs, o, w, cur, h, hl => by
    simp only [List.length_cons] at hl
    obtain ⟨cur', h1, h2, h3⟩ := setCells_row (g := g) (e := e) vs (o + 1) (w.setCell ⟨g, o, none⟩ v) (cur.setIfInBounds o v) (by simp [World.setCell, Array.getElem?_modify, h]) (by simp; omega)
    refine ⟨cur', h1, by simpa using h2, ?_⟩
    rw [h3]
    have := list_seg_step cur.toList o v vs (by simp; omega)
    simpa [Nat.add_assoc, Nat.add_comm, Nat.add_left_comm] using this
theorem setCells_same (g : Nat) : ∀ (vs : List Value) (o : Nat) (w : World), (w.setCells g o vs).os = w.os ∧ (w.setCells g o vs).tape = w.tape ∧ (w.setCells g o vs).output = w.output ∧ (w.setCells g o vs).heap.size = w.heap.size
  | [], _, _ => ⟨rfl, rfl, rfl, rfl⟩
  | v :: vs, o, w => by
    obtain ⟨a, b, c, d⟩ := setCells_same g vs (o + 1) (w.setCell ⟨g, o, none⟩ v)
    exact ⟨a, b, c, d.trans (by simp [World.setCell])⟩
theorem setCells_far {g : Nat} : ∀ (vs : List Value) (o : Nat) (w : World) (k : Nat), k ≠ g → (w.setCells g o vs).heap[k]? = w.heap[k]?
  | [], _, _, _, _ => rfl
  | v :: vs, o, w, k, hk => (setCells_far vs (o + 1) _ k hk).trans (Below.heap_setCell w ⟨g, o, none⟩ v k hk)

section
variable {P : Program}
/-- append as a run. -/
theorem run_append_row (w : World) (t ty e size bytes : Nat) (z : Value) (ht : P.underlying t = some (.slice e)) (hinfo : (P.info? e).map (fun i => (i.zero, i.size, i.bytes)) = some (some z, size, bytes)) (hzs : z.cells.size = size) (hsz : 0 < size)
    (v : Value) (n : Nat) (xs : List Value) (hown : Row w e size v n xs)
    (B : Option Addr) (m c : Nat) (news : List Value) (hB : B = none → c = 0) (hmc : m ≤ c) (hl : news.length = m * size)
    (hnews : ∀ j (h : j < news.length), ∃ ad, B = some ad ∧ w.cell? (ad.add j) = some news[j]) (h1 : ∀ u ∈ news, u.oneCell' = true)
    (h63 : n + m ≤ maxLen) (hbytes : (n + m) * bytes ≤ 140737488355328) :
    ∃ v' w', (Builtin.append_ #[t, t] ty #[v, .slice B m c]).run P w = .ok v' w' ∧ Row w' e size v' (n + m) (xs ++ news) ∧ w.grownBy w' v.ownBlock ∧ (v'.ownBlock = v.ownBlock ∨ ∃ k, v'.ownBlock = some k ∧ w.heap.size ≤ k) ∧ (∀ k, v'.ownBlock = some k → v.ownBlock ≠ some k → w.heap.size ≤ k) := by
  obtain ⟨i0, hi, hz0, hz1, hz2⟩ := info_parts hinfo
  have same : w.grownBy w v.ownBlock := ⟨rfl, rfl, rfl, Nat.le_refl _, fun _ _ _ => rfl⟩
  by_cases hm0 : m = 0
  · -- nothing comes: the row stays
    subst hm0
    have hn : news = [] := List.eq_nil_of_length_eq_zero (by simpa using hl)
    subst hn
    obtain ⟨A, cv, hv, hnc, hcm, hA⟩ := hown.slice
    have hfc : (Builtin.firstCells i0.size 0 (.slice B 0 c)).run P w = .ok #[] w := by
      cases B with
      | none => rfl
      | some ad => simpa [Builtin.firstCells] using run_loadCells_list (P := P) w ad [] (by simp)
    refine ⟨v, w, ?_, by simpa using hown, same, .inl rfl, fun k hk hk' => absurd hk hk'⟩
    subst hv
    cases A <;> simp [Builtin.append_, run_underlying ht, sizeOf, typeInfo, hi, Builtin.lenOf, hnc, hfc, storeCells]
  · obtain ⟨ad, rfl⟩ : ∃ ad, B = some ad := by
      cases B with
      | none => exact absurd (hB rfl) (by omega)
      | some ad => exact ⟨ad, rfl⟩
    have hnews' : ∀ j u, news[j]? = some u → w.cell? (ad.add j) = some u := fun j u hj => by
      obtain ⟨hj', rfl⟩ := List.getElem?_eq_some_iff.1 hj
      obtain ⟨ad', e', hc⟩ := hnews j hj'
      cases e'
      exact hc
    have grows : ∀ (b : Addr) (cap : Nat), cap < n + m → (∀ j u, xs[j]? = some u → w.cell? (b.add j) = some u) → v = .slice (some b) n cap →
        ∃ v' w', (Builtin.append_ #[t, t] ty #[v, .slice (some ad) m c]).run P w = .ok v' w' ∧ Row w' e size v' (n + m) (xs ++ news) ∧ w.grownBy w' v.ownBlock ∧ (v'.ownBlock = v.ownBlock ∨ ∃ k, v'.ownBlock = some k ∧ w.heap.size ≤ k) ∧ (∀ k, v'.ownBlock = some k → v.ownBlock ≠ some k → w.heap.size ≤ k) := by
      intro b cap hcap hcells hv
      obtain ⟨v', w', hr, ho, hg⟩ := run_append_arg_grows (P := P) (w := w) t ty e i0 z size bytes ht hi hz0 hz1 hz2 hzs hsz b n cap xs hown.1 hcells ad m c news hl hnews' hcap h63 hbytes
      refine ⟨v', w', by rw [hv]; exact hr, Row.own ho, ⟨hg.os, hg.tape, hg.output, hg.size, fun k hk _ => hg.block k hk (by simp)⟩, ?_, fun k hk _ => (ho.lt k hk).1⟩
      rcases ho.2 with ⟨_, h0⟩ | ⟨g', cap', cur', he, hb, _⟩
      · omega
      · exact .inr ⟨g', by rw [he]; rfl, hb⟩
    rcases hown.2 with ⟨hv, h0⟩ | ⟨g, o, cap, cur, hv, hnc, hcm, hg, hcs, htake⟩
    · subst h0
      have ho : w.ownsRow 0 e size v 0 xs := ⟨hown.1, .inl ⟨hv, rfl⟩⟩
      obtain ⟨v', w', hr, ho', hg, _, hat⟩ := run_append_own_at (P := P) w 0 t ty e i0 z size bytes ht hi hz0 hz1 hz2 hzs hsz v 0 xs ho ad m c news hl hnews' h1 h63 hbytes (Nat.zero_le _)
      refine ⟨v', w', hr, Row.own ho', hg, ?_, ?_⟩
      · rcases hat with hat | hat
        · exact .inl hat
        · exact .inr ⟨_, hat, Nat.le_refl _⟩
      · intro k hk hk'
        rcases hat with hat | hat
        · rw [hat] at hk; exact absurd hk hk'
        · rw [hat] at hk; cases hk; exact Nat.le_refl _
    · by_cases hroom : n + m ≤ cap
      · have hle : n * size + news.length ≤ cap * size := by rw [hl, ← Nat.add_mul]; exact Nat.mul_le_mul_right _ hroom
        have hfit : o + n * size + news.length ≤ cur.size := by omega
        subst hz1
        have hr := run_append_room_cells (P := P) (w := w) t ty e i0 ht hi g o n cap ad m c news hl hnews' h1 hroom
          (fun j hj => by simp [World.cell?, hg]; omega) (fun j _ => by simp [World.frozen?, hg])
        obtain ⟨cur', h3, h4, h5⟩ := setCells_row news (o + n * i0.size) w cur hg hfit
        obtain ⟨s1, s2, s3, s4⟩ := setCells_same g news (o + n * i0.size) w
        refine ⟨_, _, by rw [hv]; exact hr, ⟨by rw [List.length_append, hown.1, hl, Nat.add_mul], .inr ⟨g, o, cap, cur', rfl, hroom, hcm, h3, by omega, ?_⟩⟩,
          ⟨s1, s2, s3, by rw [s4]; exact Nat.le_refl _, fun k _ hk => setCells_far news _ w k (fun he => hk (by rw [hv, he]; rfl))⟩, .inl (by rw [hv]; rfl), fun k hk hk' => absurd (by rw [hv]; exact hk) hk'⟩
        rw [h5, List.append_assoc, List.drop_append_of_le_length (by rw [List.length_take, Array.length_toList]; omega), List.drop_take, show o + n * i0.size - o = n * i0.size by omega, htake, ← List.append_assoc]
        exact List.take_left' (by rw [List.length_append, hown.1, hl, Nat.add_mul])
      · refine grows ⟨g, o, none⟩ cap (by omega) (fun j u hu => ?_) hv
        obtain ⟨hj, rfl⟩ := List.getElem?_eq_some_iff.1 hu
        obtain ⟨g', o', e1, hc, _⟩ := Row.at_ (by rw [← hv]; exact hown) j hj
        cases e1
        rw [Addr.add_lit]
        exact hc

theorem wpl_appendR {ops : Array Oper} {rest : List Oper} {o : Oper} {a : Act} {Q : Exit → Act → World → Prop} {w : World} (hgd : o.guard = none) (s x : Operand) (t : TypeId)
    (ho : o.op = .call { callee := .builtin .append, args := #[s, x], argTypes := #[t, t] })
    (e size bytes : Nat) (z : Value) (ht : P.underlying t = some (.slice e)) (hinfo : (P.info? e).map (fun i => (i.zero, i.size, i.bytes)) = some (some z, size, bytes)) (hzs : z.cells.size = size) (hsz : 0 < size)
    (v : Value) (n : Nat) (xs : List Value) (hs : a.eval s = v) (hown : Row w e size v n xs)
    (B : Option Addr) (m c : Nat) (news : List Value) (hx : a.eval x = .slice B m c) (hB : B = none → c = 0) (hmc : m ≤ c) (hl : news.length = m * size)
    (hnews : ∀ j (h : j < news.length), ∃ ad, B = some ad ∧ w.cell? (ad.add j) = some news[j]) (h1 : ∀ u ∈ news, u.oneCell' = true)
    (h63 : n + m ≤ maxLen) (hbytes : (n + m) * bytes ≤ 140737488355328)
    (h : ∀ A' c' w', Row w' e size (.slice A' (n + m) c') (n + m) (xs ++ news) → w.grownBy w' v.ownBlock → ((Value.slice A' (n + m) c').ownBlock = v.ownBlock ∨ ∃ k, (Value.slice A' (n + m) c').ownBlock = some k ∧ w.heap.size ≤ k) → (∀ k, (Value.slice A' (n + m) c').ownBlock = some k → v.ownBlock ≠ some k → w.heap.size ≤ k) → wpList P ops Q rest (a.put o.dst (.slice A' (n + m) c')) w') :
    wpList P ops Q (o :: rest) a w := by
  obtain ⟨v', w', hr, h2, h3, h4, h5⟩ := run_append_row (P := P) w t o.type e size bytes z ht hinfo hzs hsz v n xs hown B m c news hB hmc hl hnews h1 h63 hbytes
  obtain ⟨A', c', rfl, _⟩ := h2.slice
  refine wpList_plain hgd fun K hK => ?_
  unfold Oper.wp execOp
  simp only [ho, resolve, invoke, builtin, Sem.run_bind, Sem.run_pure, Result.andThen_ok, List.map_toArray, List.map_cons, List.map_nil, hs, hx, hr]
  exact hK _ _ (h A' c' w' h2 h3 h4 h5)

theorem st_appendR {ops : Array Oper} {o : Oper} {a : Act} {K : Act → World → Prop} {Q : Exit → Act → World → Prop} {E : Prop} {w : World} (hgd : o.guard = none) (s x : Operand) (t : TypeId)
    (ho : o.op = .call { callee := .builtin .append, args := #[s, x], argTypes := #[t, t] })
    (e size bytes : Nat) (z : Value) (ht : P.underlying t = some (.slice e)) (hinfo : (P.info? e).map (fun i => (i.zero, i.size, i.bytes)) = some (some z, size, bytes)) (hzs : z.cells.size = size) (hsz : 0 < size)
    (v : Value) (n : Nat) (xs : List Value) (hs : a.eval s = v) (hown : Row w e size v n xs)
    (B : Option Addr) (m c : Nat) (news : List Value) (hx : a.eval x = .slice B m c) (hB : B = none → c = 0) (hmc : m ≤ c) (hl : news.length = m * size)
    (hnews : ∀ j (h : j < news.length), ∃ ad, B = some ad ∧ w.cell? (ad.add j) = some news[j]) (h1 : ∀ u ∈ news, u.oneCell' = true)
    (h63 : n + m ≤ maxLen) (hbytes : (n + m) * bytes ≤ 140737488355328)
    (h : ∀ A' c' w', Row w' e size (.slice A' (n + m) c') (n + m) (xs ++ news) → w.grownBy w' v.ownBlock → ((Value.slice A' (n + m) c').ownBlock = v.ownBlock ∨ ∃ k, (Value.slice A' (n + m) c').ownBlock = some k ∧ w.heap.size ≤ k) → (∀ k, (Value.slice A' (n + m) c').ownBlock = some k → v.ownBlock ≠ some k → w.heap.size ≤ k) → K (a.put o.dst (.slice A' (n + m) c')) w') :
    if Region.wanted o (yielded ops a.tmps) = true then Oper.wp P o a w K Q else E := by
  have hw : Region.wanted o (yielded ops a.tmps) = true := by simp [Region.wanted, hgd]
  rw [if_pos hw]
  obtain ⟨v', w', hr, h2, h3, h4, h5⟩ := run_append_row (P := P) w t o.type e size bytes z ht hinfo hzs hsz v n xs hown B m c news hB hmc hl hnews h1 h63 hbytes
  obtain ⟨A', c', rfl, _⟩ := h2.slice
  unfold Oper.wp execOp
  simp only [ho, resolve, invoke, builtin, Sem.run_bind, Sem.run_pure, Result.andThen_ok, List.map_toArray, List.map_cons, List.map_nil, hs, hx, hr]
  exact h A' c' w' h2 h3 h4 h5
end

/-- One new element in a block of its own, as append's variadic has it. -/
theorem news_one (w : World) (e : Nat) (cs : List Value) : ∀ j (h : j < cs.length), ∃ ad, (some ⟨w.heap.size, 0, none⟩ : Option Addr) = some ad ∧ (w.alloc (.cells cs.toArray e)).cell? (ad.add j) = some cs[j] := by
  intro j hj
  refine ⟨_, rfl, ?_⟩
  rw [Addr.add_lit]
  unfold World.cell?
  rw [show (w.alloc (.cells cs.toArray e)).heap[w.heap.size]? = some _ from heap_alloc_new w _]
  simp [hj]

section
variable {P : Program}
/-- copy into the block g; what is laid over it may come out of it. -/
theorem run_copyS (w : World) (dT sT ty elem size : Nat) (hu : P.underlying dT = some (.slice elem)) (hs : (P.info? elem).map (·.size) = some size) (dp sp : Option Addr) (dLen dCap sLen sCap : Nat)
    (g off : Nat) (cur : Array Value) (t : TypeId) (hg : w.heap[g]? = some (.cells cur t (0, 0))) (cs : List Value) (hn : cs.length = Nat.min sLen dLen * size)
    (hpos : 0 < Nat.min sLen dLen → dp = some ⟨g, off, none⟩ ∧ ∃ ad, sp = some ad ∧ ∀ j v, cs[j]? = some v → w.cell? (ad.add j) = some v)
    (hfit : off + cs.length ≤ cur.size) (h1 : ∀ v ∈ cs, v.oneCell' = true) :
    ∃ w', (Builtin.copy_ #[dT, sT] ty #[.slice dp dLen dCap, .slice sp sLen sCap]).run P w = .ok (goInt (Nat.min sLen dLen)) w' ∧ w'.heap[g]? = some (.cells (splice cur.toList off cs).toArray t (0, 0)) ∧ w.grownBy w' (some g) := by
  cases hq : P.info? elem with
  | none => simp [hq] at hs
  | some i =>
    have hi : i.size = size := by simpa [hq] using hs
    by_cases h0 : Nat.min sLen dLen = 0
    · have hcs : cs = [] := List.eq_nil_of_length_eq_zero (by rw [hn, h0, Nat.zero_mul])
      subst hcs
      have hl : ∀ (x : Addr), (loadCells x 0).run P w = .ok #[] w := fun x => by simpa using run_loadCells_list (P := P) w x [] (by simp)
      refine ⟨w, ?_, by simpa [splice] using hg, ⟨rfl, rfl, rfl, Nat.le_refl _, fun _ _ _ => rfl⟩⟩
      cases dp <;> cases sp <;> simp [Builtin.copy_, run_underlying hu, Builtin.lenOf, Builtin.firstCells, sizeOf, typeInfo, hq, h0, storeCells, hl]
    · obtain ⟨rfl, ad, rfl, hsrc⟩ := hpos (by omega)
      have hl := run_loadCells_list (P := P) w ad cs hsrc
      have hst := run_storeCells_at P g off t cs 0 cur w hg (by simpa using hfit) h1
      refine ⟨w.setRow g (cur.toList.take off ++ cs ++ cur.toList.drop (off + cs.length)).toArray, ?_, by simpa [splice] using setRow_heap w g cur _ t _ hg, ⟨rfl, rfl, rfl, by simp [World.setRow], fun k _ hk => setRow_other w g k _ (fun e => hk (by rw [e]))⟩⟩
      simp only [Nat.add_zero] at hst
      rw [hn] at hl
      simp [Builtin.copy_, run_underlying hu, Builtin.lenOf, Builtin.firstCells, sizeOf, typeInfo, hq, hi, hl, hst]

theorem st_copyS {ops : Array Oper} {o : Oper} {a : Act} {w : World} {K : Act → World → Prop} {Q : Exit → Act → World → Prop} {E : Prop} (hgd : o.guard = none) (d s : Operand) (dT sT : TypeId)
    (ho : o.op = .call { callee := .builtin .copy, args := #[d, s], argTypes := #[dT, sT] }) (elem size : Nat) (hu : P.underlying dT = some (.slice elem)) (hs : (P.info? elem).map (·.size) = some size)
    (dp sp : Option Addr) (dLen dCap sLen sCap : Nat) (hd : a.eval d = .slice dp dLen dCap) (hse : a.eval s = .slice sp sLen sCap)
    (g off : Nat) (cur : Array Value) (t : TypeId) (hg : w.heap[g]? = some (.cells cur t (0, 0))) (cs : List Value) (k : Nat) (hk : Nat.min sLen dLen = k) (hn : cs.length = k * size)
    (hpos : 0 < k → dp = some ⟨g, off, none⟩ ∧ ∃ ad, sp = some ad ∧ ∀ j v, cs[j]? = some v → w.cell? (ad.add j) = some v)
    (hfit : off + cs.length ≤ cur.size) (h1 : ∀ v ∈ cs, v.oneCell' = true)
    (h : ∀ w', Hid (w'.heap[g]? = some (.cells (splice cur.toList off cs).toArray t (0, 0))) → w.grownBy w' (some g) → K (a.put o.dst (goInt k)) w') :
    if Region.wanted o (yielded ops a.tmps) = true then Oper.wp P o a w K Q else E := by
  have hw : Region.wanted o (yielded ops a.tmps) = true := by simp [Region.wanted, hgd]
  subst hk
  rw [if_pos hw]
  obtain ⟨w', hr, h2, h3⟩ := run_copyS (P := P) w dT sT o.type elem size hu hs dp sp dLen dCap sLen sCap g off cur t hg cs hn hpos hfit h1
  unfold Oper.wp
  simp [execOp, ho, resolve, invoke, builtin, hd, hse, hr, Result.andThen]
  exact h w' h2 h3
end

/-- A tail of a row, as copy reads it. -/
theorem cells_tail {w : World} {b o e k m : Nat} {cur : Array Value} {pre post : List Value} (hh : w.heap[b]? = some (.cells cur e (0, 0))) (hs : (cur.toList.drop o).take m = pre ++ post) (hp : pre.length = k) :
    ∀ j v, post[j]? = some v → w.cell? ((⟨b, o + k, none⟩ : Addr).add j) = some v := by
  intro j v hj
  rw [Addr.add_lit]
  have h1 : (pre ++ post)[k + j]? = some v := by rw [← hp, List.getElem?_append_right (by omega)]; simpa using hj
  rw [← hs] at h1
  have hlt : k + j < m := by
    rcases Nat.lt_or_ge (k + j) m with h | h
    · exact h
    · rw [List.getElem?_take, if_neg (by omega)] at h1; cases h1
  rw [List.getElem?_take_of_lt hlt, List.getElem?_drop] at h1
  simp only [World.cell?, hh]
  simpa [Nat.add_assoc] using h1

theorem three_cells {w : World} {b k e : Nat} {cur : Array Value} (hh : w.heap[b]? = some (.cells cur e (0, 0))) (hk : k + 2 < cur.size) :
    ∃ x0 x1 x2, w.cell? ⟨b, k, none⟩ = some x0 ∧ w.cell? ⟨b, k + 1, none⟩ = some x1 ∧ w.cell? ⟨b, k + 2, none⟩ = some x2 ∧ w.frozen? ⟨b, k, none⟩ = false ∧ w.frozen? ⟨b, k + 1, none⟩ = false ∧ w.frozen? ⟨b, k + 2, none⟩ = false := by
  refine ⟨cur[k], cur[k + 1], cur[k + 2], ?_, ?_, ?_, ?_, ?_, ?_⟩ <;> simp [World.cell?, World.frozen?, hh] <;> omega

theorem splice_take {α : Type} (L pre post rest : List α) (o m : Nat) (h : (L.drop o).take m = pre ++ rest) (hfit : o + pre.length + post.length ≤ L.length) :
    ((splice L (o + pre.length) post).drop o).take (pre.length + post.length) = pre ++ post := by
  have hp : (L.drop o).take pre.length = pre := by
    have h2 := congrArg (List.take pre.length) h
    rw [List.take_take, List.take_left] at h2
    have hm : pre.length ≤ m := by
      have := congrArg List.length h
      simp at this
      omega
    rwa [Nat.min_eq_left hm] at h2
  unfold splice
  rw [List.drop_append_of_le_length (by simp; omega), List.drop_take, show o + pre.length - o = pre.length by omega, hp, ← List.append_assoc]
  exact List.take_left' (by simp)
theorem set_take {α : Type} (L : List α) (o k m : Nat) (x : α) (h : o + m ≤ k) : ((L.set k x).drop o).take m = (L.drop o).take m := by
  apply List.ext_getElem?
  intro j
  simp only [List.getElem?_take, List.getElem?_drop, List.getElem?_set]
  split
  · rw [if_neg (by omega)]
  · rfl
end Go.Proofs.Ytknhblhdkjgnbaa
