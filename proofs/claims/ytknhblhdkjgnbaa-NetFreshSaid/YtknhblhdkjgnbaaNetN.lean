import Derived.Test.YtknhblhdkjgnbaaNetM
namespace Go.Proofs.Ytknhblhdkjgnbaa
open Go.RowKit

theorem NetRep.netAt {F : Nat → Prop} {w : World} {g : Nat} {nodes s d l : Int} {L : List Pk} {lv : Value} (h : NetRep F w g nodes L s d l lv) : NetAt w g nodes lv s d l := by
  obtain ⟨Z, rfl, hZ⟩ := h
  exact hZ.1
theorem PkList.shape {B : Nat} {w : World} {v : Value} {L : List Pk} (h : PkList B w v L) : ∃ A c, v = .slice A L.length c := by
  obtain ⟨Z, rfl, h⟩ := h
  obtain ⟨A, c, e, _⟩ := h.1.slice
  exact ⟨A, c, by simpa using e⟩
theorem NetStep.frame {F : Nat → Prop} {g : Nat} {lv : Value} {w w' : World} {nodes : Int} {M : List Pk} {s d l : Int} (h : NetStep F g lv w w' nodes M s d l) : Fr (fun b => b = g ∨ lv.ownBlock = some b) w w' := by
  obtain ⟨_, _, _, _, _, h⟩ := h
  exact h
theorem DeliverR.frame {F : Nat → Prop} {g : Nat} {lv : Value} {nodes s d l i : Int} {L : List Pk} {w w' : World} {e : Ending} (h : DeliverR F g lv nodes L s d l i w e w') : Fr (fun b => b = g ∨ lv.ownBlock = some b) w w' := by
  rcases h with ⟨_, _, h⟩ | ⟨_, _, _, _, _, _, _, _, _, _, _, _, _, _, h⟩
  · exact h.frame
  · exact h
set_option maxRecDepth 100000 in
set_option maxHeartbeats 2000000 in
theorem law21_NetHonest (A : Option Addr) (c : Nat) (Zo : List OpV) (w : World) (ho : OpsAt w A Zo) (hn : Zo.length * 48 ≤ 140737488351232) (hnc : Zo.length ≤ c) :
    Calls Try.prog 3 #[.slice A Zo.length c] w fun e w' => e = .returned (.bool true) ∧ Below w.heap.size w w' := by
  have N0 := NetRep.new w 5
  have I0 : Hid (HI w.heap.size w (w.alloc (.cells #[.int .i64 5, .slice none 0 0, .int .i64 0, .int .i64 0, .int .i64 0] 64)) 0 (.slice none 0 0) (.slice none 0 0) [] 0 0 0 (fun _ => False) []) :=
    ⟨N0, PkZ.nil _ _, (by repeat (first | with_reducible exact Below.refl _ _ | with_reducible assumption | apply bA | apply bN | apply bD | (refine bS ?_ _ _ (by first | exact Nat.le_refl _ | (simp; done) | (simp; omega) | omega)) | refine bT ?_ ?_ (by with_reducible assumption) | exact Nat.le_refl _ | (simp; done) | (simp; omega) | omega)), by simp, by omega, by simp, fun b h => by simp [Value.ownBlock] at h, fun b h => by simp [Value.ownBlock] at h, by simp⟩
  clear N0
  have HO := Lib.hid ho; clear ho
  go_enter Try.func3, Try.ntmps3
  go_wp2_with (first | (go_at_call 5; refine (net_New_yes 5 w (by omega) (by omega)).mono ?_; rintro e w' ⟨rfl, rfl⟩))
  go_loopw [5, 6] (fun v i wr => ∃ (k : Nat) (A5 : Option Addr) (c5 : Nat) (lv : Value) (L : List Pk) (s d l : Int) (F : Nat → Prop) (Zs : List PV), k ≤ Zo.length ∧ i = .int .i64 k ∧ v = .slice A5 Zs.length c5 ∧ Zs.length ≤ k ∧ (∀ p ∈ L, p ∈ Zs.map Prod.fst) ∧ HI w.heap.size w wr k (.slice A5 Zs.length c5) lv L s d l F Zs)
    (fun _ i _ => Zo.length - (intOf i).toNat)
  case atStart => exact ⟨0, none, 0, _, [], 0, 0, 0, _, [], Nat.zero_le _, rfl, rfl, Nat.le_refl _, by simp, I0.out⟩
  case round =>
    obtain ⟨k, A5, c5, lv, L, s, d, l, F, Zs, hk, rfl, rfl, hzk, hsub, hi⟩ := hrel
    by_cases hlt : k < Zo.length
    · obtain ⟨b, o, rfl, o0, o1, o2, o3, hsl, hbl⟩ := HO.out k hlt
      obtain ⟨Ao, co, hov, hoc, _⟩ := id hsl
      rw [hov] at o3
      have hlow := hi.low
      have hlb := World.block_lt_of_cell? w _ o0
      have d0 := (hlow.cell (p := ⟨b, o + k * 4, none⟩) hlb).trans o0
      have d1 := (hlow.cell (p := ⟨b, o + k * 4 + 1, none⟩) hlb).trans o1
      have d2 := (hlow.cell (p := ⟨b, o + k * 4 + 2, none⟩) hlb).trans o2
      have d3 := (hlow.cell (p := ⟨b, o + k * 4 + 3, none⟩) hlb).trans o3
      have hsr : Hid (Sl .u8 (fun b => b < w.heap.size) wr (Zo[k]).v (Zo[k]).bs) := hsl.below hlow
      have hB := hi.hB
      have hlb2 : b < wr.heap.size := by simp at hlb; omega
      have HS := Lib.hid hsub; have HV := Lib.hid hov; have HIc := Lib.hid hi
      have HBL := Lib.hid hbl
      clear hsub hov hi hbl hsl o0 o1 o2 o3 hlow
      generalize Zo[k] = oo at *
      by_cases e0 : oo.call = 0
      · skip
        have g0 : (oo.call == 0) = true := by simp [e0]
        clear e0
        by_cases hse : sendErr 5 oo.a oo.b L.length oo.bs.length = 0
        · have HSE := Lib.hid hse; clear hse
          go_wp2_with fail
          refine (net_Send _ _ w.heap.size 5 _ _ _ _ _ _ _ _ oo.bs _ (HIc.out.bel (by repeat (first | with_reducible exact Below.refl _ _ | with_reducible assumption | apply bA | apply bN | apply bD | (refine bS ?_ _ _ (by first | exact Nat.le_refl _ | (simp; done) | (simp; omega) | omega)) | refine bT ?_ ?_ (by with_reducible assumption) | exact Nat.le_refl _ | (simp; done) | (simp; omega) | omega))).rep (by omega) (by rw [← HV.out]; exact hsr.out.below (by repeat (first | with_reducible exact Below.refl _ _ | with_reducible assumption | apply bA | apply bN | apply bD | (refine bS ?_ _ _ (by first | exact Nat.le_refl _ | (simp; done) | (simp; omega) | omega)) | refine bT ?_ ?_ (by with_reducible assumption) | exact Nat.le_refl _ | (simp; done) | (simp; omega) | omega)))).mono ?_
          intro e w1 h1
          obtain ⟨he1, lv1, F1, HJ0⟩ := (HIc.out.bel (by repeat (first | with_reducible exact Below.refl _ _ | with_reducible assumption | apply bA | apply bN | apply bD | (refine bS ?_ _ _ (by first | exact Nat.le_refl _ | (simp; done) | (simp; omega) | omega)) | refine bT ?_ ?_ (by with_reducible assumption) | exact Nat.le_refl _ | (simp; done) | (simp; omega) | omega))).send_ok h1 HSE.out (by omega)
          subst he1
          have hs1 := (SendR.ok h1 HSE.out).2
          have HJ1 := Lib.hid HJ0
          have HSB : Hid (∀ j, (Value.slice A5 Zs.length c5).ownBlock = some j → j < wr.heap.size) := HIc.out.sent.1.lt
          clear HJ0 h1
          have hfr := NetStep.frame hs1
          have hBg := NetRep.lt HIc.out.rep
          have hblk := hfr.block (heap_alloc_new wr (.cells #[.int .u8 oo.call, .int .i64 oo.a, .int .i64 oo.b, .slice Ao oo.bs.length co] 30)) (by rintro (hx | hx); omega; have := NetRep.row_lt HIc.out.rep _ hx; omega)
          obtain ⟨x1, x2, x3⟩ : w1.cell? ⟨wr.heap.size, 1, none⟩ = some (.int .i64 oo.a) ∧ w1.cell? ⟨wr.heap.size, 2, none⟩ = some (.int .i64 oo.b) ∧ w1.cell? ⟨wr.heap.size, 3, none⟩ = some (.slice Ao oo.bs.length co) := by
            refine ⟨?_, ?_, ?_⟩ <;> simp [World.cell?, hblk]
          have hsr1 : Hid (Sl .u8 (fun b => b < w.heap.size) w1 (.slice Ao oo.bs.length co) oo.bs) := by
            have h := (hsr.out.below (by repeat (first | with_reducible exact Below.refl _ _ | with_reducible assumption | apply bA | apply bN | apply bD | (refine bS ?_ _ _ (by first | exact Nat.le_refl _ | (simp; done) | (simp; omega) | omega)) | refine bT ?_ ?_ (by with_reducible assumption) | exact Nat.le_refl _ | (simp; done) | (simp; omega) | omega))).fr hfr (fun b _ hb hx => by rcases hx with hx | hx; omega; have := HIc.out.lvB b hx; omega)
            rwa [HV.out] at h
          have hz1 : wr.heap.size < w1.heap.size := by have := hfr.size; simp at this; omega
          have HRW : Hid (Row w1 34 3 (.slice A5 Zs.length c5) Zs.length (pvCells Zs)) := HJ1.out.sent.1
          clear hfr hblk hs1
          go_wp2_with fail
          go_region_held3 (fun w' => w'.cell? ⟨wr.heap.size, 1, none⟩ = some (.int .i64 oo.a) ∧ w'.cell? ⟨wr.heap.size, 2, none⟩ = some (.int .i64 oo.b) ∧ w'.cell? ⟨wr.heap.size, 3, none⟩ = some (.slice Ao oo.bs.length co))
            (((try dsimp only); (repeat' apply And.intro) <;> (first | (go_keep; done) | (rw [hgrow.cell_far _ (by simp; omega) (by intro hx; have := HSB.out _ hx.symm; simp at this)]; first | assumption | (go_simp; done)))))
            (first
             | (go_at_call 7; refine (r08_Bytes _ _ oo.bs _ (hsr1.out.below (by repeat (first | with_reducible exact Below.refl _ _ | with_reducible assumption | apply bA | apply bN | apply bD | (refine bS ?_ _ _ (by first | exact Nat.le_refl _ | (simp; done) | (simp; omega) | omega)) | refine bT ?_ ?_ (by with_reducible assumption) | exact Nat.le_refl _ | (simp; done) | (simp; omega) | omega))) (by have := HBL.out; omega)).mono ?_; rintro e w2 ⟨bv, rfl, hown, hbel⟩; obtain ⟨A2, c2, rfl, _⟩ := Sl.own hown; (have hs2 : wr.heap.size < w2.heap.size := by have := hbel.size; simp at this; omega); obtain ⟨hc, hf⟩ := bcellN hbel (wr.heap.size + 1) (by simp; omega))
             | (refine st_appendR (by rfl) _ _ _ (by rfl) 34 3 40 _ Try.underlying27 Try.info_Packet rfl (by omega) (.slice A5 Zs.length c5) Zs.length (pvCells Zs) (by rfl) (HRW.out.bel (by repeat (first | with_reducible exact Below.refl _ _ | with_reducible assumption | apply bA | apply bN | apply bD | (refine bS ?_ _ _ (by first | exact Nat.le_refl _ | (simp; done) | (simp; omega) | omega)) | refine bT ?_ ?_ (by with_reducible assumption) | exact Nat.le_refl _ | (simp; done) | (simp; omega) | omega))) (some ⟨_, 0, none⟩) 1 1 [.int .i64 oo.a, .int .i64 oo.b, _] (by rfl) (fun h => by cases h) (by omega) (by rfl) (news_one _ _ _) (by simp [Value.oneCell']) (by unfold maxLen; omega) (by omega) ?_; intro A3 c3 w3 hown2 hgrow hat hat2))
          obtain ⟨L1, Zs1, hz1l, HJ, HSUB⟩ : ∃ (L1 : List Pk) (Zs1 : List PV), Zs1.length = Zs.length + 1 ∧ Hid (HI w.heap.size w w3 (k + 1) (.slice A3 Zs1.length c3) lv1 L1 (s + 1) d l F1 Zs1) ∧ Hid (∀ p ∈ L1, p ∈ Zs1.map Prod.fst) := by
            refine ⟨L ++ [⟨oo.a, oo.b, oo.bs⟩], Zs ++ [(⟨oo.a, oo.b, oo.bs⟩, .slice A2 oo.bs.length c2)], by simp, ?_, ?_⟩
            · have h := HI.app (p := ⟨oo.a, oo.b, oo.bs⟩) (b0 := w1.drew.heap.size) (HJ1.out.bel (w1 := w2.alloc (.cells #[.int .i64 oo.a, .int .i64 oo.b, .slice A2 oo.bs.length c2] 34)) (by repeat (first | with_reducible exact Below.refl _ _ | with_reducible assumption | apply bA | apply bN | apply bD | (refine bS ?_ _ _ (by first | exact Nat.le_refl _ | (simp; done) | (simp; omega) | omega)) | refine bT ?_ ?_ (by with_reducible assumption) | exact Nat.le_refl _ | (simp; done) | (simp; omega) | omega))) (own_bel hown (by repeat (first | with_reducible exact Below.refl _ _ | with_reducible assumption | apply bA | apply bN | apply bD | (refine bS ?_ _ _ (by first | exact Nat.le_refl _ | (simp; done) | (simp; omega) | omega)) | refine bT ?_ ?_ (by with_reducible assumption) | exact Nat.le_refl _ | (simp; done) | (simp; omega) | omega))) (by simp; omega) (fun z hz b hb => by have := HJ1.out.sent.lt z hz b hb; simpa using this) hown2 hgrow hat
              have e : (Zs ++ [((⟨oo.a, oo.b, oo.bs⟩ : Pk), Value.slice A2 oo.bs.length c2)]).length = Zs.length + 1 := by simp
              rw [e]
              exact h
            · intro p hp
              rcases List.mem_append.1 hp with hp | hp
              · have := HS.out p hp
                rw [List.map_append]
                exact List.mem_append_left _ this
              · rw [List.mem_singleton.1 hp]
                simp
          have HZK : Hid (Zs1.length ≤ k + 1) := by unfold Hid; omega
          rw [← hz1l]
          clear hgrow hown hown2 hat hat2 HJ1 hbel hc hf HSE hsr1 HRW HSB
          go_wp2_with fail
          refine (net_Count _ _ _ _ _ _ _ (NetRep.netAt (HJ.out.bel (by repeat (first | with_reducible exact Below.refl _ _ | with_reducible assumption | apply bA | apply bN | apply bD | (refine bS ?_ _ _ (by first | exact Nat.le_refl _ | (simp; done) | (simp; omega) | omega)) | refine bT ?_ ?_ (by with_reducible assumption) | exact Nat.le_refl _ | (simp; done) | (simp; omega) | omega))).rep) (by omega)).mono ?_
          rintro e w8 ⟨rfl, nq, rfl⟩
          go_wp2_with fail
          refine (net_Pending _ _ _ _ _ _ _ _ _ (HJ.out.bel (by repeat (first | with_reducible exact Below.refl _ _ | with_reducible assumption | apply bA | apply bN | apply bD | (refine bS ?_ _ _ (by first | exact Nat.le_refl _ | (simp; done) | (simp; omega) | omega)) | refine bT ?_ ?_ (by with_reducible assumption) | exact Nat.le_refl _ | (simp; done) | (simp; omega) | omega))).rep (by omega) HJ.out.lim.1 (fun p hp => Nat.le_trans (HJ.out.lim.2 p hp) (by omega))).mono ?_
          rintro e w9 ⟨v9, rfl, hp9, hb9⟩
          obtain ⟨A9, c9, rfl⟩ := PkList.shape hp9
          have HK := Lib.hid ((HJ.out.bel (by repeat (first | with_reducible exact Below.refl _ _ | with_reducible assumption | apply bA | apply bN | apply bD | (refine bS ?_ _ _ (by first | exact Nat.le_refl _ | (simp; done) | (simp; omega) | omega)) | refine bT ?_ ?_ (by with_reducible assumption) | exact Nat.le_refl _ | (simp; done) | (simp; omega) | omega))).bel hb9)
          have hcnt : ((L1.length : Int) != (s + 1) - d - l) = false := by have := HJ.out.cnt; simp only [bne_eq_false_iff_eq]; omega
          have hr9 := HJ.out.rng
          obtain ⟨t1, t2, t3, t4, t5, t6⟩ := hr9
          have hkk : (k : Int) ≤ 140737488351232 := by omega
          clear hp9 hb9
          go_wp2
          go_roundw
          case rel =>
            exact ⟨k + 1, A3, c3, lv1, L1, (s + 1), d, l, F1, Zs1, by omega, by go_num, by rw [hz1l], HZK.out, HSUB.out, HK.out⟩
          case measure => simp [intOf]; omega
        · have hse' : (sendErr 5 oo.a oo.b L.length oo.bs.length == 0) = false := by simpa using hse
          have HSE := Lib.hid hse; clear hse
          go_wp2_with fail
          refine (net_Send _ _ w.heap.size 5 _ _ _ _ _ _ _ _ oo.bs _ (HIc.out.bel (by repeat (first | with_reducible exact Below.refl _ _ | with_reducible assumption | apply bA | apply bN | apply bD | (refine bS ?_ _ _ (by first | exact Nat.le_refl _ | (simp; done) | (simp; omega) | omega)) | refine bT ?_ ?_ (by with_reducible assumption) | exact Nat.le_refl _ | (simp; done) | (simp; omega) | omega))).rep (by omega) (by rw [← HV.out]; exact hsr.out.below (by repeat (first | with_reducible exact Below.refl _ _ | with_reducible assumption | apply bA | apply bN | apply bD | (refine bS ?_ _ _ (by first | exact Nat.le_refl _ | (simp; done) | (simp; omega) | omega)) | refine bT ?_ ?_ (by with_reducible assumption) | exact Nat.le_refl _ | (simp; done) | (simp; omega) | omega)))).mono ?_
          intro e w1 h1
          obtain ⟨he1, lv1, F1, HJ0⟩ := (HIc.out.bel (by repeat (first | with_reducible exact Below.refl _ _ | with_reducible assumption | apply bA | apply bN | apply bD | (refine bS ?_ _ _ (by first | exact Nat.le_refl _ | (simp; done) | (simp; omega) | omega)) | refine bT ?_ ?_ (by with_reducible assumption) | exact Nat.le_refl _ | (simp; done) | (simp; omega) | omega))).send_bad h1 HSE.out
          subst he1
          have HJ := Lib.hid HJ0
          have HZK : Hid (Zs.length ≤ k + 1) := by unfold Hid; omega
          have HSUB := HS
          clear HJ0 h1
          go_wp2_with fail
          refine (net_Count _ _ _ _ _ _ _ (NetRep.netAt (HJ.out.bel (by repeat (first | with_reducible exact Below.refl _ _ | with_reducible assumption | apply bA | apply bN | apply bD | (refine bS ?_ _ _ (by first | exact Nat.le_refl _ | (simp; done) | (simp; omega) | omega)) | refine bT ?_ ?_ (by with_reducible assumption) | exact Nat.le_refl _ | (simp; done) | (simp; omega) | omega))).rep) (by omega)).mono ?_
          rintro e w8 ⟨rfl, nq, rfl⟩
          go_wp2_with fail
          refine (net_Pending _ _ _ _ _ _ _ _ _ (HJ.out.bel (by repeat (first | with_reducible exact Below.refl _ _ | with_reducible assumption | apply bA | apply bN | apply bD | (refine bS ?_ _ _ (by first | exact Nat.le_refl _ | (simp; done) | (simp; omega) | omega)) | refine bT ?_ ?_ (by with_reducible assumption) | exact Nat.le_refl _ | (simp; done) | (simp; omega) | omega))).rep (by omega) HJ.out.lim.1 (fun p hp => Nat.le_trans (HJ.out.lim.2 p hp) (by omega))).mono ?_
          rintro e w9 ⟨v9, rfl, hp9, hb9⟩
          obtain ⟨A9, c9, rfl⟩ := PkList.shape hp9
          have HK := Lib.hid ((HJ.out.bel (by repeat (first | with_reducible exact Below.refl _ _ | with_reducible assumption | apply bA | apply bN | apply bD | (refine bS ?_ _ _ (by first | exact Nat.le_refl _ | (simp; done) | (simp; omega) | omega)) | refine bT ?_ ?_ (by with_reducible assumption) | exact Nat.le_refl _ | (simp; done) | (simp; omega) | omega))).bel hb9)
          have hcnt : ((L.length : Int) != s - d - l) = false := by have := HJ.out.cnt; simp only [bne_eq_false_iff_eq]; omega
          have hr9 := HJ.out.rng
          obtain ⟨t1, t2, t3, t4, t5, t6⟩ := hr9
          have hkk : (k : Int) ≤ 140737488351232 := by omega
          clear hp9 hb9
          go_wp2
          go_roundw
          case rel =>
            exact ⟨k + 1, A5, c5, lv1, L, s, d, l, F1, Zs, by omega, by go_num, rfl, HZK.out, HSUB.out, HK.out⟩
          case measure => simp [intOf]; omega
      by_cases e1 : oo.call = 1
      · skip
        have g0 : (oo.call == 0) = false := by simp [e0]
        have g1 : (oo.call == 1) = true := by simp [e1]
        clear e0 e1
        go_wp2_with fail
        refine (net_Deliver _ w.heap.size 5 _ _ _ oo.a _ _ _ (HIc.out.bel (by repeat (first | with_reducible exact Below.refl _ _ | with_reducible assumption | apply bA | apply bN | apply bD | (refine bS ?_ _ _ (by first | exact Nat.le_refl _ | (simp; done) | (simp; omega) | omega)) | refine bT ?_ ?_ (by with_reducible assumption) | exact Nat.le_refl _ | (simp; done) | (simp; omega) | omega))).rep (by omega) HIc.out.lim.1).mono ?_
        intro e w1 h1
        have hfr := DeliverR.frame h1
        have hz1 : wr.heap.size < w1.heap.size := by have := hfr.size; simp at this; omega
        obtain ⟨p, A1, c1, r1, he1, hsp, hrp, lv1, F1, M1, s1, d1, l1, HJ0, hsub1⟩ := (HIc.out.bel (by repeat (first | with_reducible exact Below.refl _ _ | with_reducible assumption | apply bA | apply bN | apply bD | (refine bS ?_ _ _ (by first | exact Nat.le_refl _ | (simp; done) | (simp; omega) | omega)) | refine bT ?_ ?_ (by with_reducible assumption) | exact Nat.le_refl _ | (simp; done) | (simp; omega) | omega))).deliver h1 (by omega)
        subst he1
        have HJ1 := Lib.hid HJ0
        have HZK : Hid (Zs.length ≤ k + 1) := by unfold Hid; omega
        have HSUB : Hid (∀ p ∈ M1, p ∈ Zs.map Prod.fst) := fun p hp => HS.out p (hsub1 p hp)
        have HIN : Hid (r1 = 0 → ∃ j, j < Zs.length ∧ ∃ z, Zs[j]? = some z ∧ z.1 = p) := by
          intro hr
          obtain ⟨z, hz, rfl⟩ := List.mem_map.1 (HS.out p (hrp hr))
          obtain ⟨j, hj, rfl⟩ := List.mem_iff_getElem.1 hz
          exact ⟨j, hj, _, List.getElem?_eq_getElem hj, rfl⟩
        have HSP := Lib.hid hsp
        clear HJ0 h1 hsub1 hrp hsp hfr
        go_wp2_with fail
        go_loopw [10, 11] (fun was kk w2 => ∃ (bb : Bool) (kn : Nat), kn ≤ Zs.length ∧ was = .bool bb ∧ kk = .int .i64 kn ∧ ((r1 ≠ 0 ∨ ∃ j, j < kn ∧ ∃ z, Zs[j]? = some z ∧ z.1 = p) → bb = true) ∧ Below (w1.heap.size + 1) (w1.alloc (.cells #[.int .i64 p.fr, .int .i64 p.dt, .slice A1 p.b.length c1] 34)) w2)
          (fun _ i _ => Zs.length - (intOf i).toNat)
        case atStart => exact ⟨_, 0, Nat.zero_le _, rfl, rfl, by rintro (h | ⟨j, h, _⟩); simpa using h; omega, Below.refl _ _⟩
        case round =>
          obtain ⟨bb, kn, hkn, rfl, rfl, hbb, hb2⟩ := hrel
          have hb3 : Below w1.heap.size w1 wr := Below.trans ((by repeat (first | with_reducible exact Below.refl _ _ | with_reducible assumption | apply bA | apply bN | apply bD | (refine bS ?_ _ _ (by first | exact Nat.le_refl _ | (simp; done) | (simp; omega) | omega)) | refine bT ?_ ?_ (by with_reducible assumption) | exact Nat.le_refl _ | (simp; done) | (simp; omega) | omega)) : Below w1.heap.size w1 (w1.alloc (.cells #[.int .i64 p.fr, .int .i64 p.dt, .slice A1 p.b.length c1] 34))) (hb2.mono (Nat.le_succ _))
          have HBB := Lib.hid hbb; clear hbb
          have HBL := Lib.hid hb2; have HBL3 := Lib.hid hb3
          have hz2 : w1.heap.size < wr.heap.size := by have := hb2.size; simp at this; omega
          clear hb2 hb3
          by_cases hkl : kn < Zs.length
          · obtain ⟨Y, z, X, hZe, hY⟩ : ∃ Y z X, Zs = Y ++ z :: X ∧ Y.length = kn := ⟨Zs.take kn, Zs[kn], Zs.drop (kn + 1), by simp, by simp; omega⟩
            have hget : Hid (Zs[kn]? = some z) := by unfold Hid; rw [hZe, ← hY]; simp
            have hrow := HJ1.out.sent.1
            rw [show pvCells Zs = pvCells Y ++ .int .i64 z.1.fr :: .int .i64 z.1.dt :: z.2 :: pvCells X by rw [hZe, pvCells_app, pvCells_cons]] at hrow
            obtain ⟨b2, o2, cur, rfl, c20, c21, c22, hcur, _, _⟩ := Row.pk hrow (i := kn) (by rw [pvCells_len]; omega)
            have hsz := (HJ1.out.sent.2.1.1 z (by rw [hZe]; simp)).1.sl
            obtain ⟨Az, cz, hzv, _⟩ := id hsz
            rw [hzv] at hsz c22
            have hlb2 := World.block_lt_of_cell? w1 _ c20
            simp only at hlb2
            have d20 := (HBL3.out.cell (p := ⟨b2, o2 + kn * 3, none⟩) hlb2).trans c20
            have d21 := (HBL3.out.cell (p := ⟨b2, o2 + kn * 3 + 1, none⟩) hlb2).trans c21
            have d22 := (HBL3.out.cell (p := ⟨b2, o2 + kn * 3 + 2, none⟩) hlb2).trans c22
            have hlb3 : b2 < wr.heap.size := by omega
            obtain ⟨x0, x1, x2⟩ : wr.cell? ⟨w1.heap.size, 0, none⟩ = some (.int .i64 p.fr) ∧ wr.cell? ⟨w1.heap.size, 1, none⟩ = some (.int .i64 p.dt) ∧ wr.cell? ⟨w1.heap.size, 2, none⟩ = some (.slice A1 p.b.length c1) := by
              refine ⟨?_, ?_, ?_⟩ <;> (rw [HBL.out.cell (by simp)]; simp)
            have HSZ := Lib.hid (hsz.below HBL3.out)
            have HSQ := Lib.hid (HSP.out.below HBL3.out)
            clear hsz hrow hcur c20 c21 c22 hzv hZe hY
            cases bb with
            | true =>
              go_wp2
              go_quiet (fail)
              go_wp2
              go_roundw
              case rel => exact ⟨true, kn + 1, by omega, rfl, by go_num, fun _ => rfl, bN HBL.out _⟩
              case measure => simp [intOf]; omega
            | false =>
              go_wp2_with fail
              go_region_held3 (fun w' => w'.cell? ⟨b2, o2 + kn * 3, none⟩ = some (.int .i64 z.1.fr) ∧ w'.cell? ⟨b2, o2 + kn * 3 + 1, none⟩ = some (.int .i64 z.1.dt) ∧ w'.cell? ⟨b2, o2 + kn * 3 + 2, none⟩ = some (.slice Az z.1.b.length cz) ∧ w'.cell? ⟨w1.heap.size, 0, none⟩ = some (.int .i64 p.fr) ∧ w'.cell? ⟨w1.heap.size, 1, none⟩ = some (.int .i64 p.dt) ∧ w'.cell? ⟨w1.heap.size, 2, none⟩ = some (.slice A1 p.b.length c1))
                (((try dsimp only); (repeat' apply And.intro) <;> (go_keep; done)))
                (first
                 | (go_at_call 9; refine (r21_One _ _ z.1 p _ _ _ (HSZ.out.below (by repeat (first | with_reducible exact Below.refl _ _ | with_reducible assumption | apply bA | apply bN | apply bD | (refine bS ?_ _ _ (by first | exact Nat.le_refl _ | (simp; done) | (simp; omega) | omega)) | refine bT ?_ ?_ (by with_reducible assumption) | exact Nat.le_refl _ | (simp; done) | (simp; omega) | omega))) (HSQ.out.below (by repeat (first | with_reducible exact Below.refl _ _ | with_reducible assumption | apply bA | apply bN | apply bD | (refine bS ?_ _ _ (by first | exact Nat.le_refl _ | (simp; done) | (simp; omega) | omega)) | refine bT ?_ ?_ (by with_reducible assumption) | exact Nat.le_refl _ | (simp; done) | (simp; omega) | omega)))).mono ?_; rintro e w2 ⟨rfl, hbel⟩; obtain ⟨hc, hf⟩ := bcellN hbel wr.heap.size (by simp)))
              clear hc hf
              go_wp2
              go_roundw
              case rel =>
                refine ⟨_, kn + 1, by omega, rfl, by go_num, ?_, bT (bN HBL.out _) (by simp; omega) hbel⟩
                rintro (hr0 | ⟨j, hj, y, hy, hyp⟩)
                · exact absurd (HBB.out (.inl hr0)) (by simp)
                · by_cases hjk : j < kn
                  · exact absurd (HBB.out (.inr ⟨j, hjk, y, hy, hyp⟩)) (by simp)
                  · obtain rfl : j = kn := by omega
                    rw [hget.out] at hy
                    cases hy
                    rw [hyp]
                    exact oneB_refl p
              case measure => simp [intOf]; omega
          · obtain rfl : kn = Zs.length := by omega
            have hbt : bb = true := by
              apply HBB.out
              by_cases hr0 : r1 = 0
              · exact .inr (HIN.out hr0)
              · exact .inl hr0
            subst hbt
            have HJ : Hid (HI w.heap.size w wr (k + 1) (.slice A5 Zs.length c5) lv1 M1 s1 d1 l1 F1 Zs) := HJ1.out.bel HBL3.out
            clear HBB HIN HSP HBL HJ1
            go_wp2_with fail
            refine (net_Count _ _ _ _ _ _ _ (NetRep.netAt (HJ.out.bel (by repeat (first | with_reducible exact Below.refl _ _ | with_reducible assumption | apply bA | apply bN | apply bD | (refine bS ?_ _ _ (by first | exact Nat.le_refl _ | (simp; done) | (simp; omega) | omega)) | refine bT ?_ ?_ (by with_reducible assumption) | exact Nat.le_refl _ | (simp; done) | (simp; omega) | omega))).rep) (by omega)).mono ?_
            rintro e w8 ⟨rfl, nq, rfl⟩
            go_wp2_with fail
            refine (net_Pending _ _ _ _ _ _ _ _ _ (HJ.out.bel (by repeat (first | with_reducible exact Below.refl _ _ | with_reducible assumption | apply bA | apply bN | apply bD | (refine bS ?_ _ _ (by first | exact Nat.le_refl _ | (simp; done) | (simp; omega) | omega)) | refine bT ?_ ?_ (by with_reducible assumption) | exact Nat.le_refl _ | (simp; done) | (simp; omega) | omega))).rep (by omega) HJ.out.lim.1 (fun p hp => Nat.le_trans (HJ.out.lim.2 p hp) (by omega))).mono ?_
            rintro e w9 ⟨v9, rfl, hp9, hb9⟩
            obtain ⟨A9, c9, rfl⟩ := PkList.shape hp9
            have HK := Lib.hid ((HJ.out.bel (by repeat (first | with_reducible exact Below.refl _ _ | with_reducible assumption | apply bA | apply bN | apply bD | (refine bS ?_ _ _ (by first | exact Nat.le_refl _ | (simp; done) | (simp; omega) | omega)) | refine bT ?_ ?_ (by with_reducible assumption) | exact Nat.le_refl _ | (simp; done) | (simp; omega) | omega))).bel hb9)
            have hcnt : ((M1.length : Int) != s1 - d1 - l1) = false := by have := HJ.out.cnt; simp only [bne_eq_false_iff_eq]; omega
            have hr9 := HJ.out.rng
            obtain ⟨t1, t2, t3, t4, t5, t6⟩ := hr9
            have hkk : (k : Int) ≤ 140737488351232 := by omega
            clear hp9 hb9
            go_wp2
            go_roundw
            case rel =>
              exact ⟨k + 1, A5, c5, lv1, M1, s1, d1, l1, F1, Zs, by omega, by go_num, rfl, HZK.out, HSUB.out, HK.out⟩
            case measure => simp [intOf]; omega
      by_cases e2 : oo.call = 2
      · skip
        have g0 : (oo.call == 0) = false := by simp [e0]
        have g1 : (oo.call == 1) = false := by simp [e1]
        have g2 : (oo.call == 2) = true := by simp [e2]
        clear e0 e1 e2
        go_wp2_with fail
        refine (net_Drop _ w.heap.size 5 _ _ _ oo.a _ _ _ (HIc.out.bel (by repeat (first | with_reducible exact Below.refl _ _ | with_reducible assumption | apply bA | apply bN | apply bD | (refine bS ?_ _ _ (by first | exact Nat.le_refl _ | (simp; done) | (simp; omega) | omega)) | refine bT ?_ ?_ (by with_reducible assumption) | exact Nat.le_refl _ | (simp; done) | (simp; omega) | omega))).rep (by omega) HIc.out.lim.1).mono ?_
        intro e w1 h1
        obtain ⟨r1, he1, lv1, F1, M1, s1, d1, l1, HJ0, hsub1⟩ := (HIc.out.bel (by repeat (first | with_reducible exact Below.refl _ _ | with_reducible assumption | apply bA | apply bN | apply bD | (refine bS ?_ _ _ (by first | exact Nat.le_refl _ | (simp; done) | (simp; omega) | omega)) | refine bT ?_ ?_ (by with_reducible assumption) | exact Nat.le_refl _ | (simp; done) | (simp; omega) | omega))).drop h1 (by omega)
        subst he1
        have HJ := Lib.hid HJ0
        have HZK : Hid (Zs.length ≤ k + 1) := by unfold Hid; omega
        have HSUB : Hid (∀ p ∈ M1, p ∈ Zs.map Prod.fst) := fun p hp => HS.out p (hsub1 p hp)
        clear HJ0 h1 hsub1
        go_wp2_with fail
        refine (net_Count _ _ _ _ _ _ _ (NetRep.netAt (HJ.out.bel (by repeat (first | with_reducible exact Below.refl _ _ | with_reducible assumption | apply bA | apply bN | apply bD | (refine bS ?_ _ _ (by first | exact Nat.le_refl _ | (simp; done) | (simp; omega) | omega)) | refine bT ?_ ?_ (by with_reducible assumption) | exact Nat.le_refl _ | (simp; done) | (simp; omega) | omega))).rep) (by omega)).mono ?_
        rintro e w8 ⟨rfl, nq, rfl⟩
        go_wp2_with fail
        refine (net_Pending _ _ _ _ _ _ _ _ _ (HJ.out.bel (by repeat (first | with_reducible exact Below.refl _ _ | with_reducible assumption | apply bA | apply bN | apply bD | (refine bS ?_ _ _ (by first | exact Nat.le_refl _ | (simp; done) | (simp; omega) | omega)) | refine bT ?_ ?_ (by with_reducible assumption) | exact Nat.le_refl _ | (simp; done) | (simp; omega) | omega))).rep (by omega) HJ.out.lim.1 (fun p hp => Nat.le_trans (HJ.out.lim.2 p hp) (by omega))).mono ?_
        rintro e w9 ⟨v9, rfl, hp9, hb9⟩
        obtain ⟨A9, c9, rfl⟩ := PkList.shape hp9
        have HK := Lib.hid ((HJ.out.bel (by repeat (first | with_reducible exact Below.refl _ _ | with_reducible assumption | apply bA | apply bN | apply bD | (refine bS ?_ _ _ (by first | exact Nat.le_refl _ | (simp; done) | (simp; omega) | omega)) | refine bT ?_ ?_ (by with_reducible assumption) | exact Nat.le_refl _ | (simp; done) | (simp; omega) | omega))).bel hb9)
        have hcnt : ((M1.length : Int) != s1 - d1 - l1) = false := by have := HJ.out.cnt; simp only [bne_eq_false_iff_eq]; omega
        have hr9 := HJ.out.rng
        obtain ⟨t1, t2, t3, t4, t5, t6⟩ := hr9
        have hkk : (k : Int) ≤ 140737488351232 := by omega
        clear hp9 hb9
        go_wp2
        go_roundw
        case rel =>
          exact ⟨k + 1, A5, c5, lv1, M1, s1, d1, l1, F1, Zs, by omega, by go_num, rfl, HZK.out, HSUB.out, HK.out⟩
        case measure => simp [intOf]; omega
      by_cases e3 : oo.call = 3
      · skip
        have g0 : (oo.call == 0) = false := by simp [e0]
        have g1 : (oo.call == 1) = false := by simp [e1]
        have g2 : (oo.call == 2) = false := by simp [e2]
        have g3 : (oo.call == 3) = true := by simp [e3]
        clear e0 e1 e2 e3
        go_wp2_with fail
        refine (net_Double _ w.heap.size 5 _ _ _ oo.a _ _ _ (HIc.out.bel (by repeat (first | with_reducible exact Below.refl _ _ | with_reducible assumption | apply bA | apply bN | apply bD | (refine bS ?_ _ _ (by first | exact Nat.le_refl _ | (simp; done) | (simp; omega) | omega)) | refine bT ?_ ?_ (by with_reducible assumption) | exact Nat.le_refl _ | (simp; done) | (simp; omega) | omega))).rep (by omega) HIc.out.lim.1).mono ?_
        intro e w1 h1
        obtain ⟨r1, he1, lv1, F1, M1, s1, d1, l1, HJ0, hsub1⟩ := (HIc.out.bel (by repeat (first | with_reducible exact Below.refl _ _ | with_reducible assumption | apply bA | apply bN | apply bD | (refine bS ?_ _ _ (by first | exact Nat.le_refl _ | (simp; done) | (simp; omega) | omega)) | refine bT ?_ ?_ (by with_reducible assumption) | exact Nat.le_refl _ | (simp; done) | (simp; omega) | omega))).double h1 (by omega)
        subst he1
        have HJ := Lib.hid HJ0
        have HZK : Hid (Zs.length ≤ k + 1) := by unfold Hid; omega
        have HSUB : Hid (∀ p ∈ M1, p ∈ Zs.map Prod.fst) := fun p hp => HS.out p (hsub1 p hp)
        clear HJ0 h1 hsub1
        go_wp2_with fail
        refine (net_Count _ _ _ _ _ _ _ (NetRep.netAt (HJ.out.bel (by repeat (first | with_reducible exact Below.refl _ _ | with_reducible assumption | apply bA | apply bN | apply bD | (refine bS ?_ _ _ (by first | exact Nat.le_refl _ | (simp; done) | (simp; omega) | omega)) | refine bT ?_ ?_ (by with_reducible assumption) | exact Nat.le_refl _ | (simp; done) | (simp; omega) | omega))).rep) (by omega)).mono ?_
        rintro e w8 ⟨rfl, nq, rfl⟩
        go_wp2_with fail
        refine (net_Pending _ _ _ _ _ _ _ _ _ (HJ.out.bel (by repeat (first | with_reducible exact Below.refl _ _ | with_reducible assumption | apply bA | apply bN | apply bD | (refine bS ?_ _ _ (by first | exact Nat.le_refl _ | (simp; done) | (simp; omega) | omega)) | refine bT ?_ ?_ (by with_reducible assumption) | exact Nat.le_refl _ | (simp; done) | (simp; omega) | omega))).rep (by omega) HJ.out.lim.1 (fun p hp => Nat.le_trans (HJ.out.lim.2 p hp) (by omega))).mono ?_
        rintro e w9 ⟨v9, rfl, hp9, hb9⟩
        obtain ⟨A9, c9, rfl⟩ := PkList.shape hp9
        have HK := Lib.hid ((HJ.out.bel (by repeat (first | with_reducible exact Below.refl _ _ | with_reducible assumption | apply bA | apply bN | apply bD | (refine bS ?_ _ _ (by first | exact Nat.le_refl _ | (simp; done) | (simp; omega) | omega)) | refine bT ?_ ?_ (by with_reducible assumption) | exact Nat.le_refl _ | (simp; done) | (simp; omega) | omega))).bel hb9)
        have hcnt : ((M1.length : Int) != s1 - d1 - l1) = false := by have := HJ.out.cnt; simp only [bne_eq_false_iff_eq]; omega
        have hr9 := HJ.out.rng
        obtain ⟨t1, t2, t3, t4, t5, t6⟩ := hr9
        have hkk : (k : Int) ≤ 140737488351232 := by omega
        clear hp9 hb9
        go_wp2
        go_roundw
        case rel =>
          exact ⟨k + 1, A5, c5, lv1, M1, s1, d1, l1, F1, Zs, by omega, by go_num, rfl, HZK.out, HSUB.out, HK.out⟩
        case measure => simp [intOf]; omega
      by_cases e4 : oo.call = 4
      · skip
        have g0 : (oo.call == 0) = false := by simp [e0]
        have g1 : (oo.call == 1) = false := by simp [e1]
        have g2 : (oo.call == 2) = false := by simp [e2]
        have g3 : (oo.call == 3) = false := by simp [e3]
        have g4 : (oo.call == 4) = true := by simp [e4]
        clear e0 e1 e2 e3 e4
        go_wp2_with fail
        refine (net_Move _ w.heap.size 5 _ _ _ oo.a oo.b _ _ _ (HIc.out.bel (by repeat (first | with_reducible exact Below.refl _ _ | with_reducible assumption | apply bA | apply bN | apply bD | (refine bS ?_ _ _ (by first | exact Nat.le_refl _ | (simp; done) | (simp; omega) | omega)) | refine bT ?_ ?_ (by with_reducible assumption) | exact Nat.le_refl _ | (simp; done) | (simp; omega) | omega))).rep (by omega) HIc.out.lim.1).mono ?_
        intro e w1 h1
        obtain ⟨r1, he1, lv1, F1, M1, s1, d1, l1, HJ0, hsub1⟩ := (HIc.out.bel (by repeat (first | with_reducible exact Below.refl _ _ | with_reducible assumption | apply bA | apply bN | apply bD | (refine bS ?_ _ _ (by first | exact Nat.le_refl _ | (simp; done) | (simp; omega) | omega)) | refine bT ?_ ?_ (by with_reducible assumption) | exact Nat.le_refl _ | (simp; done) | (simp; omega) | omega))).move h1
        subst he1
        have HJ := Lib.hid HJ0
        have HZK : Hid (Zs.length ≤ k + 1) := by unfold Hid; omega
        have HSUB : Hid (∀ p ∈ M1, p ∈ Zs.map Prod.fst) := fun p hp => HS.out p (hsub1 p hp)
        clear HJ0 h1 hsub1
        go_wp2_with fail
        refine (net_Count _ _ _ _ _ _ _ (NetRep.netAt (HJ.out.bel (by repeat (first | with_reducible exact Below.refl _ _ | with_reducible assumption | apply bA | apply bN | apply bD | (refine bS ?_ _ _ (by first | exact Nat.le_refl _ | (simp; done) | (simp; omega) | omega)) | refine bT ?_ ?_ (by with_reducible assumption) | exact Nat.le_refl _ | (simp; done) | (simp; omega) | omega))).rep) (by omega)).mono ?_
        rintro e w8 ⟨rfl, nq, rfl⟩
        go_wp2_with fail
        refine (net_Pending _ _ _ _ _ _ _ _ _ (HJ.out.bel (by repeat (first | with_reducible exact Below.refl _ _ | with_reducible assumption | apply bA | apply bN | apply bD | (refine bS ?_ _ _ (by first | exact Nat.le_refl _ | (simp; done) | (simp; omega) | omega)) | refine bT ?_ ?_ (by with_reducible assumption) | exact Nat.le_refl _ | (simp; done) | (simp; omega) | omega))).rep (by omega) HJ.out.lim.1 (fun p hp => Nat.le_trans (HJ.out.lim.2 p hp) (by omega))).mono ?_
        rintro e w9 ⟨v9, rfl, hp9, hb9⟩
        obtain ⟨A9, c9, rfl⟩ := PkList.shape hp9
        have HK := Lib.hid ((HJ.out.bel (by repeat (first | with_reducible exact Below.refl _ _ | with_reducible assumption | apply bA | apply bN | apply bD | (refine bS ?_ _ _ (by first | exact Nat.le_refl _ | (simp; done) | (simp; omega) | omega)) | refine bT ?_ ?_ (by with_reducible assumption) | exact Nat.le_refl _ | (simp; done) | (simp; omega) | omega))).bel hb9)
        have hcnt : ((M1.length : Int) != s1 - d1 - l1) = false := by have := HJ.out.cnt; simp only [bne_eq_false_iff_eq]; omega
        have hr9 := HJ.out.rng
        obtain ⟨t1, t2, t3, t4, t5, t6⟩ := hr9
        have hkk : (k : Int) ≤ 140737488351232 := by omega
        clear hp9 hb9
        go_wp2
        go_roundw
        case rel =>
          exact ⟨k + 1, A5, c5, lv1, M1, s1, d1, l1, F1, Zs, by omega, by go_num, rfl, HZK.out, HSUB.out, HK.out⟩
        case measure => simp [intOf]; omega
      · skip
        have g0 : (oo.call == 0) = false := by simp [e0]
        have g1 : (oo.call == 1) = false := by simp [e1]
        have g2 : (oo.call == 2) = false := by simp [e2]
        have g3 : (oo.call == 3) = false := by simp [e3]
        have g4 : (oo.call == 4) = false := by simp [e4]
        clear e0 e1 e2 e3 e4
        have HJ : Hid (HI w.heap.size w wr (k + 1) (.slice A5 Zs.length c5) lv L s d l F Zs) := by
          obtain ⟨q1, q2, q3, q4, q5, q6, q7, q8, q9⟩ := HIc.out
          exact ⟨q1, q2, q3, q4, by omega, q6, q7, q8, q9⟩
        have HZK : Hid (Zs.length ≤ k + 1) := by unfold Hid; omega
        have HSUB := HS
        go_wp2_with fail
        refine (net_Count _ _ _ _ _ _ _ (NetRep.netAt (HJ.out.bel (by repeat (first | with_reducible exact Below.refl _ _ | with_reducible assumption | apply bA | apply bN | apply bD | (refine bS ?_ _ _ (by first | exact Nat.le_refl _ | (simp; done) | (simp; omega) | omega)) | refine bT ?_ ?_ (by with_reducible assumption) | exact Nat.le_refl _ | (simp; done) | (simp; omega) | omega))).rep) (by omega)).mono ?_
        rintro e w8 ⟨rfl, nq, rfl⟩
        go_wp2_with fail
        refine (net_Pending _ _ _ _ _ _ _ _ _ (HJ.out.bel (by repeat (first | with_reducible exact Below.refl _ _ | with_reducible assumption | apply bA | apply bN | apply bD | (refine bS ?_ _ _ (by first | exact Nat.le_refl _ | (simp; done) | (simp; omega) | omega)) | refine bT ?_ ?_ (by with_reducible assumption) | exact Nat.le_refl _ | (simp; done) | (simp; omega) | omega))).rep (by omega) HJ.out.lim.1 (fun p hp => Nat.le_trans (HJ.out.lim.2 p hp) (by omega))).mono ?_
        rintro e w9 ⟨v9, rfl, hp9, hb9⟩
        obtain ⟨A9, c9, rfl⟩ := PkList.shape hp9
        have HK := Lib.hid ((HJ.out.bel (by repeat (first | with_reducible exact Below.refl _ _ | with_reducible assumption | apply bA | apply bN | apply bD | (refine bS ?_ _ _ (by first | exact Nat.le_refl _ | (simp; done) | (simp; omega) | omega)) | refine bT ?_ ?_ (by with_reducible assumption) | exact Nat.le_refl _ | (simp; done) | (simp; omega) | omega))).bel hb9)
        have hcnt : ((L.length : Int) != s - d - l) = false := by have := HJ.out.cnt; simp only [bne_eq_false_iff_eq]; omega
        have hr9 := HJ.out.rng
        obtain ⟨t1, t2, t3, t4, t5, t6⟩ := hr9
        have hkk : (k : Int) ≤ 140737488351232 := by omega
        clear hp9 hb9
        go_wp2
        go_roundw
        case rel =>
          exact ⟨k + 1, A5, c5, lv, L, s, d, l, F, Zs, by omega, by go_num, rfl, HZK.out, HSUB.out, HK.out⟩
        case measure => simp [intOf]; omega
    · obtain rfl : k = Zo.length := by omega
      have HIc := Lib.hid hi; clear hi hsub
      go_wp2_with (go_at_call 15; refine (law21_anchored _).mono ?_; rintro e w' ⟨rfl, hb⟩)
      go_ret
      exact ⟨rfl, bT HIc.out.low HIc.out.hB hb⟩
end Go.Proofs.Ytknhblhdkjgnbaa
