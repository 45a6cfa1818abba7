/- The reference's net: Move. Conditions: as typed. -/
import Derived.Test.YtknhblhdkjgnbaaRefE
namespace Go.Proofs.Ytknhblhdkjgnbaa.Ref
open Go.RowKit

/-- Move. -/
def MoveR (F : Nat → Prop) (g : Nat) (lv : Value) (nodes : Int) (L : List Pk) (s d l i t : Int) (w : World) (e : Ending) (w' : World) : Prop :=
  (¬ (0 ≤ i ∧ i < L.length ∧ 0 ≤ t ∧ t < L.length) ∧ e = .returned (.int .i64 2) ∧ NetStep F g lv w w' nodes L s d l) ∨
  ((0 ≤ i ∧ i < L.length ∧ 0 ≤ t ∧ t < L.length) ∧ e = .returned (.int .i64 0) ∧ NetStep F g lv w w' nodes (moved L i.toNat t.toNat) s d l)

theorem row_some {w : World} {e size n B : Nat} {v : Value} {xs : List Value} (h : Row w e size v n xs) (ho : ∃ k, v.ownBlock = some k ∧ B ≤ k) :
    ∃ b o c cur, v = .slice (some ⟨b, o, none⟩) n c ∧ B ≤ b ∧ n ≤ c ∧ c ≤ maxLen ∧ w.heap[b]? = some (.cells cur e (0, 0)) ∧ o + c * size ≤ cur.size ∧ (cur.toList.drop o).take (n * size) = xs := by
  obtain ⟨k, hk, hB⟩ := ho
  rcases h.2 with ⟨rfl, _⟩ | ⟨b, o, c, cur, rfl, h1, h2, h3, h4, h5⟩
  · simp [Value.ownBlock] at hk
  · simp [Value.ownBlock] at hk
    exact ⟨b, o, c, cur, rfl, by omega, h1, h2, h3, h4, h5⟩

theorem move_new {F : Nat → Prop} {w w' : World} {g q m n' : Nat} {nodes s d l : Int} {Z Y X : List PV} {z : PV} {lv lv' : Value} (hZ : NetZ F w g nodes Z s d l lv) (hE : Z = Y ++ z :: X) (hY : Y.length = q) (hN : NetAt w' g nodes lv' s d l)
    (hR : Row w' 34 3 lv' n' (pvCells ((Y ++ X).take m) ++ [.int .i64 z.1.fr, .int .i64 z.1.dt, z.2] ++ pvCells ((Y ++ X).drop m))) (hn : n' = Z.length) (hF : Fr (fun b => b = g) w w') (hx : ∃ k, lv'.ownBlock = some k ∧ w.heap.size ≤ k) :
    NetStep F g lv w w' nodes (moved (Z.map Prod.fst) q m) s d l := by
  obtain ⟨g1, g2, g3, g4, g5, g6⟩ := hZ
  obtain ⟨k, hk, hk2⟩ := hx
  have hp : List.Perm Z ((Y ++ X).take m ++ z :: (Y ++ X).drop m) := by
    rw [hE]
    refine List.perm_middle.trans (List.Perm.trans ?_ List.perm_middle.symm)
    rw [List.take_append_drop]
  have hl : ((Y ++ X).take m ++ z :: (Y ++ X).drop m).length = Z.length := hp.length_eq.symm
  refine ⟨F, lv', fun _ h => .inl h, ⟨(Y ++ X).take m ++ z :: (Y ++ X).drop m, ?_, hN, ?_, ?_, g4, fun k' hk' hF' => ?_, fun b hb => Nat.lt_of_lt_of_le (g6 b hb) hF.size⟩, .inr ⟨k, hk, hk2⟩, hF.mono (fun b _ h => .inl h)⟩
  · subst hE; subst hY
    unfold moved
    have e1 : (List.map Prod.fst (Y ++ z :: X)).take Y.length ++ (List.map Prod.fst (Y ++ z :: X)).drop (Y.length + 1) = List.map Prod.fst (Y ++ X) := by
      rw [List.map_append, List.take_left' (by simp), List.map_cons, show List.map Prod.fst Y ++ z.1 :: List.map Prod.fst X = (List.map Prod.fst Y ++ [z.1]) ++ List.map Prod.fst X by simp, List.drop_left' (by simp)]
      simp
    have e2 : ((List.map Prod.fst (Y ++ z :: X)).drop Y.length).take 1 = [z.1] := by
      rw [List.map_append, List.drop_left' (by simp)]
      simp
    rw [e1, e2]
    simp [List.map_take, List.map_drop]
  · rw [hl, ← hn]
    rw [pvCells_app, pvCells_cons]
    simpa using hR
  · exact (g3.move (fun b hl hb => hF.keep b hl (fun e => g4 (by rw [← e]; exact hb)))).perm hp
  · rw [hk] at hk'
    cases hk'
    have := g6 _ hF'
    omega

set_option maxRecDepth 100000 in
set_option maxHeartbeats 1600000 in
theorem r21_Move_bad (F : Nat → Prop) (g : Nat) (nodes s d l i t : Int) (Z : List PV) (lv : Value) (w : World) (hZ : NetZ F w g nodes Z s d l lv) (hb : ¬ (0 ≤ i ∧ i < Z.length ∧ 0 ≤ t ∧ t < Z.length)) :
    Calls Try.prog 32 #[.pointer (some ⟨g, 0, none⟩), .int .i64 i, .int .i64 t] w fun e w' => e = .returned (.int .i64 2) ∧ w' = w := by
  have h1 := hZ.1; have h2 := hZ.2.1
  obtain ⟨A, c, rfl, hnc, hcm, hA⟩ := h2.slice
  obtain ⟨k0, k1, k2, k3, k4⟩ := h1.cells
  by_cases hi : 0 ≤ i ∧ i < Z.length
  · have ht : ¬ (0 ≤ t ∧ t < Z.length) := by omega
    have HI := Lib.hid hi
    have HT := Lib.hid ht
    have H1 := Lib.hid h1
    clear h1 h2 hZ hi ht hb
    go_enter Try.func32, Try.ntmps32
    go_wp2_with fail
    refine (r21_has_yes g Z.length c A nodes s d l i w H1.out HI.out).mono ?_
    rintro e w2 ⟨rfl, hww⟩
    obtain rfl : w = w2 := hww.symm
    go_wp2_with fail
    refine (r21_has_no g Z.length c A nodes s d l t w H1.out HT.out).mono ?_
    rintro e w2 ⟨rfl, hww⟩
    obtain rfl : w = w2 := hww.symm
    go_wp2
    go_ret
    exact ⟨rfl, rfl⟩
  · have HI := Lib.hid hi
    have H1 := Lib.hid h1
    clear h1 h2 hZ hi hb
    go_enter Try.func32, Try.ntmps32
    go_wp2_with fail
    refine (r21_has_no g Z.length c A nodes s d l i w H1.out HI.out).mono ?_
    rintro e w2 ⟨rfl, hww⟩
    obtain rfl : w = w2 := hww.symm
    go_wp2
    go_ret
    exact ⟨rfl, rfl⟩
end Go.Proofs.Ytknhblhdkjgnbaa.Ref
