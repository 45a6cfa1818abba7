/- Opens what a law is handed: slices of whole numbers, and slices of structs of one-cell fields. Conditions: as typed. -/
import Derived.Test.YtknhblhdkjgnbaaMem
import Derived.Deep.Slices
import Derived.Deep.Fields
import Derived.ChangeSlices
import Derived.SizedLaws
namespace Go.Proofs.Ytknhblhdkjgnbaa
open Go.RowKit Go.ChangeShapes

section
variable {H : Type} {enc : TypeId × Value → H} {P : Program} {w : World} {held : Bool}
/-- What a reading weighs, part by part. -/
def Wt (P : Program) (t : TypeId) (d : DataW H) : Prop := ∀ n ∈ d.weights P t, n ≤ 140737488351232
theorem Wt.arg {ts : List TypeId} {ds : List (DataW H)} {j : Nat} {t : TypeId} {d : DataW H} (hsz : (DataW.weightsEach P ts ds).all (· ≤ reachBytes) = true) (ht : ts[j]? = some t) (hd : ds[j]? = some d) : Wt P t d := by
  intro n hn
  have := List.all_eq_true.1 hsz _ (DataW.weights_mem_each ht hd n hn)
  exact of_decide_eq_true this
theorem Wt.size {t e : TypeId} {el sp : List (DataW H)} (h : Wt P t (.slice el sp)) (hu : P.underlying t = some (.slice e)) : (el.length + sp.length) * P.bytesOf e ≤ 140737488351232 :=
  h _ (by simp [DataW.weights, hu])
theorem all_mem {e : TypeId} {d : DataW H} {n : Nat} (hn : n ∈ d.weights P e) : ∀ {el : List (DataW H)}, d ∈ el → n ∈ DataW.weightsAll P e el
  | [], h => by simp at h
  | x :: el, h => by
    rw [DataW.weightsAll]
    rcases List.mem_cons.1 h with rfl | h
    · exact List.mem_append_left _ hn
    · exact List.mem_append_right _ (all_mem hn h)
theorem Wt.elem {t e : TypeId} {el sp : List (DataW H)} {d : DataW H} (h : Wt P t (.slice el sp)) (hu : P.underlying t = some (.slice e)) (hd : d ∈ el) : Wt P e d := by
  intro n hn
  apply h
  simp only [DataW.weights, hu]
  exact List.mem_cons_of_mem _ (List.mem_append_left _ (all_mem hn hd))
theorem Wt.part {t : TypeId} {fs : Array Field} {f : Field} {parts : List (DataW H)} {d : DataW H} {j : Nat} (h : Wt P t (.agg parts)) (hu : P.underlying t = some (.struct fs)) (hf : fs[j]? = some f) (hd : parts[j]? = some d) : Wt P f.type d := by
  intro n hn
  apply h
  simp only [DataW.weights, hu]
  exact DataW.weights_mem_each (j := j) (t := f.type) (by simp [hf]) hd n hn

/-- A slice of whole numbers. -/
theorem open_sl {t e : TypeId} {k : IntKind} {fuel B : Nat} {v : Value} {x : DataW H × List MemPlace} (ht : P.underlying t = some (.slice e)) (he : P.underlying e = some (.int k)) (hc : P.cellsOf e = 1) (hB : P.bytesOf e = B)
    (h : DataW.trod enc P w 0 (fun _ => true) held fuel t [v] = some x) (hw : Wt P t x.1) : ∃ bs : List Int, Sl k (fun b => b < w.heap.size) w v bs ∧ bs.length * B ≤ 140737488351232 ∧ ∀ n ∈ bs, (Lit.int k n).wf = true := by
  rcases open_ints ht he hc h with ⟨hcs, _⟩ | ⟨a, len, cap, zs, hcs, _, hl, hm, hz, rfl, hcell, hwf⟩
  · simp only [List.cons.injEq, and_true] at hcs
    subst hcs
    exact ⟨[], ⟨none, 0, by simp, by simp, by unfold maxLen; omega, fun _ => rfl, by simp⟩, by simp, by simp⟩
  · simp only [List.cons.injEq, and_true] at hcs
    subst hcs
    have hz' : zs.length = cap := by simpa using hz
    have h1 := hw.size ht
    rw [hB] at h1
    have h2 : (lits (H := H) k (zs.take len)).length + (lits (H := H) k (zs.drop len)).length = cap := by
      simp [lits]
      omega
    rw [h2] at h1
    have h3 : len * B ≤ cap * B := Nat.mul_le_mul_right _ hl
    refine ⟨zs.take len, ⟨some a, cap, by simp; omega, by simp; omega, hm, by simp, ?_⟩, by simp; rw [Nat.min_eq_left (by omega)]; omega, fun n hn => hwf n (List.mem_of_mem_take hn)⟩
    intro j hj
    simp at hj
    have hc := hcell j (by omega)
    refine ⟨a, rfl, ?_, ?_⟩
    · have := World.block_lt_of_cell? w _ hc
      rwa [add_block] at this
    · rw [hc]
      simp [List.getD_eq_getElem?_getD, List.getElem?_eq_getElem (show j < zs.length by omega)]

/-- A slice of structs, each of whose fields fills one cell. -/
theorem open_rows {t e : TypeId} {fs : Array Field} {n fuel : Nat} {v : Value} {x : DataW H × List MemPlace} (ht : P.underlying t = some (.slice e)) (he : P.underlying e = some (.struct fs)) (ce : P.cellsOf e = n) (hn : fs.size ≤ n) (hpos : 0 < fs.size)
    (hone : Deep.oneCellFields P fs = true) (h : DataW.trod enc P w 0 (fun _ => true) held fuel t [v] = some x) (hw : Wt P t x.1) :
    ∃ A m c, v = .slice A m c ∧ m ≤ c ∧ c ≤ maxLen ∧ (A = none → c = 0) ∧ m * P.bytesOf e ≤ 140737488351232 ∧
      ∀ i, i < m → ∃ b o, A = some ⟨b, o, none⟩ ∧ ∀ (j : Nat) f, fs[j]? = some f → ∃ u fu y, w.cell? ⟨b, o + i * n + j, none⟩ = some u ∧ DataW.trod enc P w 0 (fun _ => true) held fu f.type [u] = some y ∧ Wt P f.type y.1 := by
  rcases Deep.open_slice ht h with ⟨hcs, _⟩ | ⟨a, len, cap, m, nn, D, Pl, hcs, _, hl, hm, hmm, rfl, hx⟩
  · simp only [List.cons.injEq, and_true] at hcs
    subst hcs
    exact ⟨none, 0, 0, rfl, Nat.le_refl _, by unfold maxLen; omega, fun _ => rfl, by simp, by omega⟩
  · simp only [List.cons.injEq, and_true] at hcs
    subst hcs
    have hmc : m = cap := by simpa using hmm
    subst hmc
    have h1 := hw.size ht
    simp at h1
    have h3 : len * P.bytesOf e ≤ m * P.bytesOf e := Nat.mul_le_mul_right _ hl
    rw [show len + (m - len) = m by omega] at h1
    have each : ∀ i, i < len → ∀ (j : Nat) f, fs[j]? = some f → ∃ u fu y, w.cell? ((a.add (i * n)).add j) = some u ∧ DataW.trod enc P w 0 (fun _ => true) held fu f.type [u] = some y ∧ Wt P f.type y.1 := by
      intro i hi j f hf
      obtain ⟨cs', h5, h6⟩ := hx i (by omega)
      rw [ce] at h5
      obtain ⟨_, hlen, hcell⟩ := World.cells?_some h5
      obtain ⟨xs, k, _, hxy, _, hxl, hfs⟩ := DataW.trod_struct he h6
      obtain ⟨ho, hc1⟩ := Deep.hone_of hone j f hf
      have hj : j < fs.size := (Array.getElem?_eq_some_iff.1 hf).1
      have h7 := hfs j f hf
      rw [ho, hc1, Deep.take1_drop cs' j (.bool false) (by omega), List.getElem?_eq_getElem (by omega)] at h7
      refine ⟨_, _, _, ?_, h7, ?_⟩
      · rw [hcell j (by omega), List.getD_eq_getElem?_getD, List.getElem?_eq_getElem (by omega)]
        simp
      · have hD : Wt P e (D i) := hw.elem ht (List.mem_map.2 ⟨i, List.mem_range.2 hi, rfl⟩)
        simp only [Prod.mk.injEq] at hxy
        rw [hxy.1] at hD
        exact hD.part he hf (by simp [List.getElem?_eq_getElem (show j < xs.length by omega)])
    refine ⟨some a, len, m, rfl, hl, hm, by simp, by omega, fun i hi => ?_⟩
    have hsp : a.spot = none := by
      obtain ⟨u, _, _, hc, _⟩ := each 0 (by omega) 0 fs[0] (by simp [hpos])
      simp [Addr.add] at hc
      unfold World.cell? at hc
      cases hs : a.spot with
      | none => rfl
      | some s =>
        rw [hs] at hc
        simp at hc
        split at hc <;> simp at hc
    obtain ⟨b, o, s⟩ := a
    simp only at hsp
    subst hsp
    refine ⟨b, o, rfl, fun j f hf => ?_⟩
    obtain ⟨u, fu, y, h8, h9, h10⟩ := each i hi j f hf
    refine ⟨u, fu, y, ?_, h9, h10⟩
    rw [← h8, Deep.add_add]
    unfold Addr.add
    split
    · rw [show o + i * n + j = o by omega]
    · rw [Nat.add_assoc]
end
end Go.Proofs.Ytknhblhdkjgnbaa
