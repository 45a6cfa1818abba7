/- Whatever the script of calls and the bytes, conclavelaw21.NetFresh returns true, and what came in reads behind the call as it read before. No condition. -/
import Derived.Test.YtknhblhdkjgnbaaRows
import Derived.Test.YtknhblhdkjgnbaaRefQ
import Derived.Test.YtknhblhdkjgnbaaOpen
import Derived.ProofKit
import Derived.OpenShut
import Derived.ShutString
import Derived.ChangeOld
import Derived.Below
namespace Go.Proofs.Ytknhblhdkjgnbaa.netFresh
open Go.ChangeShapes Go.WideShapes Go.ChangeAt Go.RowKit
set_option linter.unusedVariables false
theorem own : ownKnob Try.prog.godebug = none := by kernel_rfl
theorem laidOut : laidOutB Try.prog = true := by kernel_rfl

theorem open_ops {H : Type} {enc : TypeId × Value → H} {w : World} {held : Bool} {fuel : Nat} {v : Value} {x : DataW H × List MemPlace} (h : DataW.trod enc Try.prog w 0 (fun _ => true) held fuel 22 [v] = some x) (hw : Wt Try.prog 22 x.1) :
    ∃ A c Zo, v = .slice A (List.length Zo) c ∧ OpsAt w A Zo ∧ Zo.length * 48 ≤ 140737488351232 ∧ Zo.length ≤ c := by
  obtain ⟨A, m, c, rfl, h1, h2, h3, h4, h5⟩ := open_rows (n := 4) Try.underlying22 Try.underlying30 (by kernel_rfl) (by decide) (by decide) (by kernel_rfl) h hw
  have hb : Try.prog.bytesOf 30 = 48 := by kernel_rfl
  rw [hb] at h4
  have each : ∀ i, i < m → ∃ z : OpV, ∃ b o, A = some ⟨b, o, none⟩ ∧ w.cell? ⟨b, o + i * 4, none⟩ = some (.int .u8 z.call) ∧ w.cell? ⟨b, o + i * 4 + 1, none⟩ = some (.int .i64 z.a) ∧
      w.cell? ⟨b, o + i * 4 + 2, none⟩ = some (.int .i64 z.b) ∧ w.cell? ⟨b, o + i * 4 + 3, none⟩ = some z.v ∧ Sl .u8 (fun b => b < w.heap.size) w z.v z.bs ∧ z.bs.length ≤ 140737488351232 := by
    intro i hi
    obtain ⟨b, o, hA, hf⟩ := h5 i hi
    obtain ⟨u0, f0, y0, c0, t0, _⟩ := hf 0 _ rfl
    obtain ⟨u1, f1, y1, c1, t1, _⟩ := hf 1 _ rfl
    obtain ⟨u2, f2, y2, c2, t2, _⟩ := hf 2 _ rfl
    obtain ⟨u3, f3, y3, c3, t3, w3⟩ := hf 3 _ rfl
    obtain ⟨n0, e0, _⟩ := DataW.trod_int Try.underlying5 t0
    obtain ⟨n1, e1, _⟩ := DataW.trod_int Try.underlying3 t1
    obtain ⟨n2, e2, _⟩ := DataW.trod_int Try.underlying3 t2
    obtain ⟨bs, g1, g2, _⟩ := open_sl (B := 1) Try.underlying28 Try.underlying5 (by kernel_rfl) (by kernel_rfl) t3 w3
    simp only [List.cons.injEq, and_true] at e0 e1 e2
    subst e0; subst e1; subst e2
    exact ⟨⟨n0, n1, n2, bs, u3⟩, b, o, hA, c0, c1, c2, c3, g1, by simp only; omega⟩
  haveI : Inhabited OpV := ⟨⟨0, 0, 0, [], .bool false⟩⟩
  obtain ⟨f, hf⟩ := Deep.choose_lt each
  refine ⟨A, c, (List.range m).map f, by simp, ?_, by simp; omega, by simp; omega⟩
  intro j hj
  simp at hj
  simpa using hf j hj

set_option maxRecDepth 100000 in
theorem lifted (os : Os) (started : os.Started) (H : Type) (enc : TypeId × Value → H) :
    ReturnsInHanded {} Try.checked os 4 .any (Rows.netFreshSpec.pre6 enc Try.prog Try.f4 Rows.netFreshRow.domain false) (Rows.netFreshSpec.post enc Try.prog Try.f4 false true false false) := by
  refine returnsInHanded_of_change_sized (C := Try.checked) own started (by kernel_rfl) Try.func4
    (ChangeSpec.witness6 (enc := enc) (C := Try.checked) false ⟨#[], #[.slice none 0 0, .slice none 0 0], []⟩ 8 (by kernel_rfl) (by kernel_rfl) (by kernel_rfl) (by kernel_rfl)) ?_
  intro W base args ds gs before hval0 hW hcnd hsz0 _
  have hsz : (DataW.weightsEach Try.prog (Try.f4.params.toList ++ Rows.netFreshSpec.plain.varTypes Try.prog) (ds ++ gs)).all (· ≤ reachBytes) = true := hsz0
  have hval : ∀ (j : Nat) t v, Try.f4.params[j]? = some t → args[j]? = some v → Value.okWide Try.prog W .any base t v := hval0
  have hW' := hW
  obtain ⟨p, q, hA0, hV, rfl, hfz, hnd⟩ := hW
  have hA : DataW.TrodAll enc Try.prog W 0 (fun _ => true) true Try.f4.params.toList args.toList ds p := hA0
  rw [Try.params4] at hA hval hsz
  obtain ⟨v0, vs0, d0, ds0, p0, q0, hargs, rfl, rfl, h0, r0⟩ := trodAll_cons hA
  obtain ⟨v1, vs1, d1, ds1, p1, q1, rfl, rfl, rfl, h1, r1⟩ := trodAll_cons r0
  obtain ⟨rfl, rfl, rfl⟩ := trodAll_nil r1
  obtain rfl : args = #[v0, v1] := by cases args; simp_all
  obtain ⟨rfl, rfl⟩ := trodVars_none hV
  obtain ⟨a0, len0, cap0, rfl⟩ := okWide_slice Try.underlying22 (hval 0 22 v0 rfl rfl)
  obtain ⟨a1, len1, cap1, rfl⟩ := okWide_slice Try.underlying28 (hval 1 28 v1 rfl rfl)
  have k0 := h0
  have k1 := h1
  have lt0 : ∀ x ∈ p0, x.block < W.heap.size := by obtain ⟨m, hm⟩ := k0; exact DataW.trod_lt m _ _ _ hm
  have lt1 : ∀ x ∈ p1, x.block < W.heap.size := by obtain ⟨m, hm⟩ := k1; exact DataW.trod_lt m _ _ _ hm
  have w0 : Wt Try.prog 22 d0 := Wt.arg (j := 0) hsz rfl rfl
  have w1 : Wt Try.prog 28 d1 := Wt.arg (j := 1) hsz rfl rfl
  obtain ⟨fu, hf⟩ := h0
  obtain ⟨fu1, hf1⟩ := h1
  obtain ⟨A, c, Zo, e0, g1, g2, g3⟩ := open_ops hf w0
  obtain ⟨bs, b1, b2, _⟩ := open_sl (B := 1) Try.underlying28 Try.underlying5 (by kernel_rfl) (by kernel_rfl) hf1 w1
  cases e0
  clear hA0 hval0 hsz0 hsz
  refine (law21_NetFresh _ _ Zo _ bs W g1 g2 g3 b1 (by omega)).mono fun e W' ⟨he, bel⟩ => ?_
  subst he
  exact ⟨_, rfl, _, _, _, [], _, [], hW', trodAll_mk1 (shut_bool Try.underlying4 _), (trodAll_cons_mk (Below.trod laidOut (by kernel_rfl) (of_decide_eq_true (by kernel_rfl)) k0 bel lt0) (trodAll_cons_mk (Below.trod laidOut (by kernel_rfl) (of_decide_eq_true (by kernel_rfl)) k1 bel lt1) trodAll_mk0)), rfl, bel.frame _, fun h => by cases h⟩
theorem over : Rows.netFreshRow.holds Try.pinned (OpenSpec.ofChange Rows.netFreshSpec) :=
  OpenClaim.holds_of_wide 4 Try.f4 rfl rfl rfl rfl rfl rfl rfl ⟨rfl, rfl, rfl, rfl, rfl⟩ rfl rfl rfl rfl rfl (by kernel_rfl) Try.func4 (by kernel_rfl)
    (of_decide_eq_true (by kernel_rfl)) (by unfold Func.isWrapper; first | (rw [if_pos (by decide +kernel)]; kernel_rfl) | (rw [if_neg (by decide +kernel)]; exact ⟨rfl, rfl⟩))
    (fun os started H enc _ => lifted os started H enc)
end Go.Proofs.Ytknhblhdkjgnbaa.netFresh
namespace Go.Proofs.Ytknhblhdkjgnbaa
theorem netFresh_holds : Rows.NetFreshSaid := netFresh.over
#print axioms netFresh_holds
end Go.Proofs.Ytknhblhdkjgnbaa
