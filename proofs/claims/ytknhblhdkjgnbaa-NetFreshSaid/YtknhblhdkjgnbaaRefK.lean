/- What a call on a net does to its list, as functions of the list: the same for both nets. Conditions: as typed. -/
import Derived.Test.YtknhblhdkjgnbaaRefJ
namespace Go.Proofs.Ytknhblhdkjgnbaa
open Go.RowKit

def getAt (L : List Pk) (i : Int) : Option Pk := if 0 ≤ i then L[i.toNat]? else none
def moveErr (L : List Pk) (i t : Int) : Int := if 0 ≤ i ∧ i < L.length ∧ 0 ≤ t ∧ t < L.length then 0 else 2
def shifted (L : List Pk) (i t : Int) : List Pk := if 0 ≤ i ∧ i < L.length ∧ 0 ≤ t ∧ t < L.length then moved L i.toNat t.toNat else L
def gotten (L : List Pk) (i : Int) : Pk := (getAt L i).getD ⟨0, 0, []⟩
def without (L : List Pk) (i : Int) : List Pk := if 0 ≤ i then L.eraseIdx i.toNat else L
def doubleErr (L : List Pk) (i : Int) : Int := match getAt L i with | some p => if L.length < 4096 ∧ p.b.length ≤ 1048576 then 0 else 4 | none => 2
def doubled (L : List Pk) (i : Int) : List Pk := match getAt L i with | some p => if L.length < 4096 ∧ p.b.length ≤ 1048576 then L ++ [p] else L | none => L
theorem get_no {L : List Pk} {i : Int} (h : placeErr L.length i = 2) : getAt L i = none := by
  unfold getAt
  unfold placeErr at h
  split at h
  · omega
  · split
    · exact List.getElem?_eq_none (by omega)
    · rfl
theorem without_no {L : List Pk} {i : Int} (h : placeErr L.length i = 2) : without L i = L := by
  unfold without
  unfold placeErr at h
  split at h
  · omega
  · split
    · exact List.eraseIdx_of_length_le (by omega)
    · rfl
theorem get_at {L1 L2 : List Pk} {p : Pk} {i : Int} (h : (L1.length : Int) = i) : getAt (L1 ++ p :: L2) i = some p := by
  subst h
  unfold getAt
  rw [if_pos (by omega)]
  simp
theorem without_at {L1 L2 : List Pk} {p : Pk} {i : Int} (h : (L1.length : Int) = i) : without (L1 ++ p :: L2) i = L1 ++ L2 := by
  subst h
  unfold without
  rw [if_pos (by omega)]
  simp [List.eraseIdx_append_of_length_le]
theorem place_at {L1 L2 : List Pk} {p : Pk} {i : Int} (h : (L1.length : Int) = i) : placeErr (L1 ++ p :: L2).length i = 0 := by
  subst h
  unfold placeErr
  rw [if_pos (by simp; omega)]

theorem DropR.fn {F : Nat → Prop} {g : Nat} {lv : Value} {nodes : Int} {L : List Pk} {s d l i : Int} {w w' : World} {e : Ending} (h : DropR F g lv nodes L s d l i w e w') :
    e = .returned (.int .i64 (placeErr L.length i)) ∧ NetStep F g lv w w' nodes (without L i) s d (if placeErr L.length i = 0 then wrap64 (l + 1) else l) := by
  rcases h with ⟨h1, rfl, h2⟩ | ⟨L1, p, L2, rfl, h1, rfl, h2⟩
  · rw [h1, without_no h1]
    exact ⟨rfl, by simpa using h2⟩
  · rw [place_at h1, without_at h1]
    exact ⟨rfl, by simpa using h2⟩
theorem DoubleR.fn {F : Nat → Prop} {g : Nat} {lv : Value} {nodes : Int} {L : List Pk} {s d l i : Int} {w w' : World} {e : Ending} (h : DoubleR F g lv nodes L s d l i w e w') :
    e = .returned (.int .i64 (doubleErr L i)) ∧ NetStep F g lv w w' nodes (doubled L i) (if doubleErr L i = 0 then wrap64 (s + 1) else s) d l := by
  rcases h with ⟨h1, rfl, h2⟩ | ⟨L1, p, L2, rfl, h1, ⟨h3, h4, rfl, h2⟩ | ⟨h3, rfl, h2⟩⟩
  · have e1 : doubleErr L i = 2 := by unfold doubleErr; rw [get_no h1]
    have e2 : doubled L i = L := by unfold doubled; rw [get_no h1]
    rw [e1, e2]
    exact ⟨rfl, by simpa using h2⟩
  · have e1 : doubleErr (L1 ++ p :: L2) i = 0 := by unfold doubleErr; rw [get_at h1]; simp only; rw [if_pos ⟨h3, h4⟩]
    have e2 : doubled (L1 ++ p :: L2) i = (L1 ++ p :: L2) ++ [p] := by unfold doubled; rw [get_at h1]; simp only; rw [if_pos ⟨h3, h4⟩]
    rw [e1, e2]
    exact ⟨rfl, by simpa using h2⟩
  · have e1 : doubleErr (L1 ++ p :: L2) i = 4 := by unfold doubleErr; rw [get_at h1]; simp only; rw [if_neg h3]
    have e2 : doubled (L1 ++ p :: L2) i = L1 ++ p :: L2 := by unfold doubled; rw [get_at h1]; simp only; rw [if_neg h3]
    rw [e1, e2]
    exact ⟨rfl, by simpa using h2⟩
theorem DeliverR.fn {F : Nat → Prop} {g : Nat} {lv : Value} {nodes : Int} {L : List Pk} {s d l i : Int} {w w' : World} {e : Ending} (h : DeliverR F g lv nodes L s d l i w e w') :
    ∃ bv, e = .returned (.tuple #[.agg #[.int .i64 (gotten L i).fr, .int .i64 (gotten L i).dt, bv], .int .i64 (placeErr L.length i)]) ∧ Bs w' bv (gotten L i).b ∧ (∀ b, bv.ownBlock = some b → F b) ∧
      NetStep F g lv w w' nodes (without L i) s (if placeErr L.length i = 0 then wrap64 (d + 1) else d) l := by
  rcases h with ⟨h1, rfl, h2⟩ | ⟨L1, p, L2, bv, F1, rfl, h1, rfl, h2, h3, h4, lv', h5, h6, h7⟩
  · have e1 : gotten L i = ⟨0, 0, []⟩ := by unfold gotten; rw [get_no h1]; rfl
    rw [e1, h1, without_no h1]
    exact ⟨_, rfl, Row.nil _ _ _, fun b hb => by simp [Value.ownBlock] at hb, by simpa using h2⟩
  · have e1 : gotten (L1 ++ p :: L2) i = p := by unfold gotten; rw [get_at h1]; rfl
    rw [e1, place_at h1, without_at h1]
    exact ⟨bv, rfl, h2, fun b hb => (h3 b hb).1, F1, lv', fun b hb => .inl (h4 b hb), by simpa using h5, .inl h6, h7⟩
theorem MoveR.fn {F : Nat → Prop} {g : Nat} {lv : Value} {nodes : Int} {L : List Pk} {s d l i t : Int} {w w' : World} {e : Ending} (h : MoveR F g lv nodes L s d l i t w e w') :
    e = .returned (.int .i64 (moveErr L i t)) ∧ NetStep F g lv w w' nodes (shifted L i t) s d l := by
  unfold moveErr shifted
  rcases h with ⟨h1, rfl, h2⟩ | ⟨h1, rfl, h2⟩
  · rw [if_neg h1, if_neg h1]
    exact ⟨rfl, h2⟩
  · rw [if_pos h1, if_pos h1]
    exact ⟨rfl, h2⟩
namespace Ref
theorem DropR.fn {F : Nat → Prop} {g : Nat} {lv : Value} {nodes : Int} {L : List Pk} {s d l i : Int} {w w' : World} {e : Ending} (h : DropR F g lv nodes L s d l i w e w') :
    e = .returned (.int .i64 (placeErr L.length i)) ∧ NetStep F g lv w w' nodes (without L i) s d (if placeErr L.length i = 0 then wrap64 (l + 1) else l) := by
  rcases h with ⟨h1, rfl, h2⟩ | ⟨L1, p, L2, rfl, h1, rfl, h2⟩
  · rw [h1, without_no h1]
    exact ⟨rfl, by simpa using h2⟩
  · rw [place_at h1, without_at h1]
    exact ⟨rfl, by simpa using h2⟩
theorem DoubleR.fn {F : Nat → Prop} {g : Nat} {lv : Value} {nodes : Int} {L : List Pk} {s d l i : Int} {w w' : World} {e : Ending} (h : DoubleR F g lv nodes L s d l i w e w') :
    e = .returned (.int .i64 (doubleErr L i)) ∧ NetStep F g lv w w' nodes (doubled L i) (if doubleErr L i = 0 then wrap64 (s + 1) else s) d l := by
  rcases h with ⟨h1, rfl, h2⟩ | ⟨L1, p, L2, rfl, h1, ⟨h3, h4, rfl, h2⟩ | ⟨h3, rfl, h2⟩⟩
  · have e1 : doubleErr L i = 2 := by unfold doubleErr; rw [get_no h1]
    have e2 : doubled L i = L := by unfold doubled; rw [get_no h1]
    rw [e1, e2]
    exact ⟨rfl, by simpa using h2⟩
  · have e1 : doubleErr (L1 ++ p :: L2) i = 0 := by unfold doubleErr; rw [get_at h1]; simp only; rw [if_pos ⟨h3, h4⟩]
    have e2 : doubled (L1 ++ p :: L2) i = (L1 ++ p :: L2) ++ [p] := by unfold doubled; rw [get_at h1]; simp only; rw [if_pos ⟨h3, h4⟩]
    rw [e1, e2]
    exact ⟨rfl, by simpa using h2⟩
  · have e1 : doubleErr (L1 ++ p :: L2) i = 4 := by unfold doubleErr; rw [get_at h1]; simp only; rw [if_neg h3]
    have e2 : doubled (L1 ++ p :: L2) i = L1 ++ p :: L2 := by unfold doubled; rw [get_at h1]; simp only; rw [if_neg h3]
    rw [e1, e2]
    exact ⟨rfl, by simpa using h2⟩
theorem DeliverR.fn {F : Nat → Prop} {g : Nat} {lv : Value} {nodes : Int} {L : List Pk} {s d l i : Int} {w w' : World} {e : Ending} (h : DeliverR F g lv nodes L s d l i w e w') :
    ∃ bv, e = .returned (.tuple #[.agg #[.int .i64 (gotten L i).fr, .int .i64 (gotten L i).dt, bv], .int .i64 (placeErr L.length i)]) ∧ Bs w' bv (gotten L i).b ∧ (∀ b, bv.ownBlock = some b → F b) ∧
      NetStep F g lv w w' nodes (without L i) s (if placeErr L.length i = 0 then wrap64 (d + 1) else d) l := by
  rcases h with ⟨h1, rfl, h2⟩ | ⟨L1, p, L2, bv, F1, rfl, h1, rfl, h2, h3, h4, lv', h5, h6, h7⟩
  · have e1 : gotten L i = ⟨0, 0, []⟩ := by unfold gotten; rw [get_no h1]; rfl
    rw [e1, h1, without_no h1]
    exact ⟨_, rfl, Row.nil _ _ _, fun b hb => by simp [Value.ownBlock] at hb, by simpa using h2⟩
  · have e1 : gotten (L1 ++ p :: L2) i = p := by unfold gotten; rw [get_at h1]; rfl
    rw [e1, place_at h1, without_at h1]
    exact ⟨bv, rfl, h2, fun b hb => (h3 b hb).1, F1, lv', fun b hb => .inl (h4 b hb), by simpa using h5, h6, h7⟩
theorem MoveR.fn {F : Nat → Prop} {g : Nat} {lv : Value} {nodes : Int} {L : List Pk} {s d l i t : Int} {w w' : World} {e : Ending} (h : MoveR F g lv nodes L s d l i t w e w') :
    e = .returned (.int .i64 (moveErr L i t)) ∧ NetStep F g lv w w' nodes (shifted L i t) s d l := by
  unfold moveErr shifted
  rcases h with ⟨h1, rfl, h2⟩ | ⟨h1, rfl, h2⟩
  · rw [if_neg h1, if_neg h1]
    exact ⟨rfl, h2⟩
  · rw [if_pos h1, if_pos h1]
    exact ⟨rfl, h2⟩
end Ref
end Go.Proofs.Ytknhblhdkjgnbaa
