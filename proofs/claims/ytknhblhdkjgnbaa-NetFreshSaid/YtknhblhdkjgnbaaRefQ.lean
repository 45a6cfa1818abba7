/- NetFresh's walk. Conditions: as typed. -/
import Derived.Test.YtknhblhdkjgnbaaRefPb
namespace Go.Proofs.Ytknhblhdkjgnbaa
open Go.RowKit

theorem both_new (w w1 : World) (h1 : NetRep (fun _ => False) w1 w.heap.size 5 [] 0 0 0 (.slice none 0 0)) (hb : Below w.heap.size w w1) (hz : w.heap.size < w1.heap.size) : Both w.heap.size w1.heap.size w.heap.size w (w1.alloc (.cells #[.int .i64 5, .slice none 0 0, .int .i64 0, .int .i64 0, .int .i64 0] 46)) := by
  refine ⟨_, _, _, _, [], 0, 0, 0, ⟨h1.bel (by repeat (first | with_reducible exact Below.refl _ _ | with_reducible assumption | apply bA | apply bN | apply bD | (refine bS ?_ _ _ (by first | exact Nat.le_refl _ | (simp; done) | (simp; omega) | omega)) | refine bT ?_ ?_ (by with_reducible assumption) | exact Nat.le_refl _ | (simp; done) | (simp; omega) | omega)), Ref.NetRep.new w1 5, ?_, ?_, (by repeat (first | with_reducible exact Below.refl _ _ | with_reducible assumption | apply bA | apply bN | apply bD | (refine bS ?_ _ _ (by first | exact Nat.le_refl _ | (simp; done) | (simp; omega) | omega)) | refine bT ?_ ?_ (by with_reducible assumption) | exact Nat.le_refl _ | (simp; done) | (simp; omega) | omega)), by simp; omega⟩, by simp [Okl]⟩
  · rintro x (rfl | hx | hx) (hy | hy | hy)
    · omega
    · simp [Value.ownBlock] at hy
    · exact hy
    · simp [Value.ownBlock] at hx
    · simp [Value.ownBlock] at hx
    · exact hy
    · exact hx
    · exact hx
    · exact hx
  · rintro x (hx | hx)
    · rcases hx with rfl | hx | hx
      · exact Nat.le_refl _
      · simp [Value.ownBlock] at hx
      · exact hx.elim
    · rcases hx with rfl | hx | hx
      · omega
      · simp [Value.ownBlock] at hx
      · exact hx.elim

set_option maxRecDepth 100000 in
set_option maxHeartbeats 2000000 in
theorem law21_NetFresh (A : Option Addr) (c : Nat) (Zo : List OpV) (bv : Value) (bs : List Int) (w : World) (ho : OpsAt w A Zo) (hn : Zo.length * 48 ≤ 140737488351232) (hnc : Zo.length ≤ c) (hb : Sl .u8 (fun b => b < w.heap.size) w bv bs) (hbl : bs.length ≤ 140737488351232) :
    Calls Try.prog 4 #[.slice A Zo.length c, bv] w fun e w' => e = .returned (.bool true) ∧ Below w.heap.size w w' := by
  have HO := Lib.hid ho; clear ho
  obtain ⟨Ab, cb, hbv, _⟩ := id hb
  have HB := Lib.hid hb; clear hb
  subst hbv
  go_enter Try.func4, Try.ntmps4
  go_wp2_with fail
  refine (net_New_yes 5 w (by omega) (by omega)).mono ?_
  rintro e w' ⟨rfl, rfl⟩
  have N0 := NetRep.new w 5
  go_wp2_with fail
  refine (Ref.r21_New _).mono ?_
  rintro e w1 ⟨rfl, hb1⟩
  have hz1 : w.heap.size < w1.heap.size := by have := hb1.size; simp at this; omega
  have I0 := Lib.hid (both_new w w1 (N0.bel hb1) (bT (by repeat (first | with_reducible exact Below.refl _ _ | with_reducible assumption | apply bA | apply bN | apply bD | (refine bS ?_ _ _ (by first | exact Nat.le_refl _ | (simp; done) | (simp; omega) | omega)) | refine bT ?_ ?_ (by with_reducible assumption) | exact Nat.le_refl _ | (simp; done) | (simp; omega) | omega)) (by simp) hb1) hz1)
  clear N0 hb1
  go_wp2_with fail
  go_loopw [9] (fun i wr => ∃ k : Nat, k ≤ Zo.length ∧ i = .int .i64 k ∧ Both w.heap.size w1.heap.size w.heap.size w wr) (fun i _ => Zo.length - (intOf i).toNat)
  case atStart => exact ⟨0, Nat.zero_le _, rfl, I0.out⟩
  case round =>
    obtain ⟨k, hk, rfl, hbo⟩ := hrel
    have hlow : Below w.heap.size w wr := by obtain ⟨_, _, _, _, _, _, _, _, h, _⟩ := hbo; exact h.low
    by_cases hlt : k < Zo.length
    · obtain ⟨b, o, rfl, o0, o1, o2, o3, hsl, hol⟩ := HO.out k hlt
      obtain ⟨Ao, co, hov, _⟩ := id hsl
      have hlb := World.block_lt_of_cell? w _ o0
      simp only at hlb
      have d0 := (hlow.cell (p := ⟨b, o + k * 4, none⟩) hlb).trans o0
      have d1 := (hlow.cell (p := ⟨b, o + k * 4 + 1, none⟩) hlb).trans o1
      have d2 := (hlow.cell (p := ⟨b, o + k * 4 + 2, none⟩) hlb).trans o2
      have d3 := (hlow.cell (p := ⟨b, o + k * 4 + 3, none⟩) hlb).trans o3
      have hsr := hsl.below hlow
      generalize Zo[k] = oo at *
      have HBO := Lib.hid hbo; have HSR := Lib.hid hsr
      clear hbo hsr hsl o0 o1 o2 o3 hlow
      go_wp2_with fail
      rw [← hov]
      refine (law21_same w.heap.size w1.heap.size w.heap.size w wr oo HBO.out HSR.out hol).mono ?_
      rintro e w2 ⟨rfl, hb2⟩
      go_wp2
      go_roundw
      case rel => exact ⟨k + 1, by omega, by go_num, hb2⟩
      case measure => simp [intOf]; omega
    · obtain rfl : k = Zo.length := by omega
      obtain ⟨lv, F, tv, G, L, s, d, l, hp, hok⟩ := hbo
      have hBl := NetRep.lt hp.net
      have hTl := Ref.NetRep.lt hp.ref
      have hsr := HB.out.below hlow
      have HP := Lib.hid hp; have HK := Lib.hid hok; have HSR := Lib.hid hsr
      clear hp hok hsr hlow
      go_wp2_with fail
      refine (r08_Bytes _ _ bs wr HSR.out (by omega)).mono ?_
      rintro e w2 ⟨v2, rfl, hown, hb2⟩
      obtain ⟨A2, c2, rfl, _⟩ := Sl.own hown
      have HOW := Lib.hid hown
      have HP2 := Lib.hid (HP.out.bel hb2)
      have HBS : Hid (Bs w2 (.slice A2 bs.length c2) bs) := Row.own hown
      have hz2 := hb2.size
      clear hown hb2
      go_wp2_with fail
      by_cases hse : sendErr 5 1 2 L.length bs.length = 0
      · refine (net_Send F _ w.heap.size 5 s d l 1 2 L lv _ bs _ HP2.out.net (by omega) HBS.out.sl).mono ?_
        intro e w3 h3
        obtain ⟨he3, hs3⟩ := SendR.ok h3 hse
        subst he3
        obtain ⟨h40, hbl2⟩ := sendErr_zero hse
        have HSE := Lib.hid hse
        obtain ⟨lv3, F3, hp3, hfo3, hfr3⟩ := HP2.out.step2 hs3
        have hcb : ∀ x, (Value.slice A2 bs.length c2).ownBlock = some x → wr.heap.size ≤ x ∧ x < w2.heap.size := fun x hx => HOW.out.lt x hx
        have hn2 : ∀ x, Foot w.heap.size lv F x → x < wr.heap.size := HP.out.net.foot_lt
        have ht2 : ∀ x, Foot w1.heap.size tv G x → x < wr.heap.size := HP.out.ref.foot_lt
        have hb3 : Bs w3 (.slice A2 bs.length c2) bs := HBS.out.fr hfr3 (fun b _ hb hx => by have := hcb b hb; have := hn2 b hx; omega)
        have hz3 := hfr3.size
        have HP3 := Lib.hid hp3; have HFO3 := Lib.hid hfo3; have HCB := Lib.hid hcb; have HN2 := Lib.hid hn2; have HT2 := Lib.hid ht2; have HB3 := Lib.hid hb3
        clear h3 hs3 hp3 hfo3 hcb hn2 ht2 hb3 hfr3 hse
        go_wp2_with fail
        refine (Ref.r21_Send G _ w1.heap.size 5 s d l 1 2 L tv _ bs _ (HP3.out.bel (by repeat (first | with_reducible exact Below.refl _ _ | with_reducible assumption | apply bA | apply bN | apply bD | (refine bS ?_ _ _ (by first | exact Nat.le_refl _ | (simp; done) | (simp; omega) | omega)) | refine bT ?_ ?_ (by with_reducible assumption) | exact Nat.le_refl _ | (simp; done) | (simp; omega) | omega))).ref ((HB.out.below HP3.out.low).below (by repeat (first | with_reducible exact Below.refl _ _ | with_reducible assumption | apply bA | apply bN | apply bD | (refine bS ?_ _ _ (by first | exact Nat.le_refl _ | (simp; done) | (simp; omega) | omega)) | refine bT ?_ ?_ (by with_reducible assumption) | exact Nat.le_refl _ | (simp; done) | (simp; omega) | omega))) (by omega)).mono ?_
        intro e w4 h4
        obtain ⟨he4, hs4⟩ := Ref.SendR.ok h4 HSE.out
        subst he4
        obtain ⟨tv4, G4, hp4, hfo4, hfr4⟩ := (HP3.out.bel (by repeat (first | with_reducible exact Below.refl _ _ | with_reducible assumption | apply bA | apply bN | apply bD | (refine bS ?_ _ _ (by first | exact Nat.le_refl _ | (simp; done) | (simp; omega) | omega)) | refine bT ?_ ?_ (by with_reducible assumption) | exact Nat.le_refl _ | (simp; done) | (simp; omega) | omega))).rstep2 hs4
        have hb4 : Bs w4 (.slice A2 bs.length c2) bs := Bs.fr (Row.bel HB3.out (by repeat (first | with_reducible exact Below.refl _ _ | with_reducible assumption | apply bA | apply bN | apply bD | (refine bS ?_ _ _ (by first | exact Nat.le_refl _ | (simp; done) | (simp; omega) | omega)) | refine bT ?_ ?_ (by with_reducible assumption) | exact Nat.le_refl _ | (simp; done) | (simp; omega) | omega))) hfr4 (fun b _ hb hx => by have := HCB.out b hb; have := HT2.out b hx; omega)
        have hz4 := hfr4.size
        try simp at hz4
        have HP4 := Lib.hid hp4; have HFO4 := Lib.hid hfo4; have HB4 := Lib.hid hb4
        clear h4 hs4 hp4 hfo4 hb4 hfr4
        go_wp2_with fail
        refine (r08_Spoil bs.length 9 _ _ _ HB4.out hbl2).mono ?_
        rintro e w5 ⟨rfl, hf5⟩
        have hp5 := HP4.out.fr hf5
          (by
            intro x hx hc
            have := HCB.out x hc
            rcases HFO3.out x hx with h | h
            · have := HN2.out x h
              omega
            · omega)
          (by
            intro x hx hc
            have := HCB.out x hc
            rcases HFO4.out x hx with h | h
            · have := HT2.out x h
              omega
            · omega)
          (by
            intro x hc
            have := HCB.out x hc
            have := HP2.out.low.size
            have := HP.out.size
            omega)
        have hz5 := hf5.size
        have hok5 : Okl (L ++ [⟨1, 2, bs⟩]) := by
          have := Okl.sent (f := 1) (t := 2) (bs := bs) HK.out
          rwa [if_pos HSE.out] at this
        have HP5 := Lib.hid hp5; have HK5 := Lib.hid hok5
        clear hf5 hp5 hok5
        generalize hLL : L ++ [⟨1, 2, bs⟩] = LL at *
        have HLL := Lib.hid hLL
        clear hLL
        go_wp2_with fail
        refine (net_Pending _ w.heap.size 5 _ _ _ LL _ _ HP5.out.net (by omega) HK5.out.1 (fun q hq => Nat.le_trans (HK5.out.2 q hq).2.2.2.2 (by omega))).mono ?_
        rintro e w6 ⟨v6, rfl, hp6, hb6⟩
        obtain ⟨A6, c6, rfl⟩ := PkList.shape hp6
        obtain ⟨Z6, hz6m, hz6⟩ := hp6
        have hz6l : Z6.length = LL.length := by rw [← hz6m]; simp
        have hz6b : ∀ q ∈ Z6, q.1.b.length ≤ 1048576 := fun q hq => (HK5.out.2 q.1 (by rw [← hz6m]; exact List.mem_map_of_mem hq)).2.2.2.2
        have hz6s := hb6.size
        have hz6n : LL.length ≤ 4096 := HK5.out.1
        have HZ6 := Lib.hid hz6; have HZL := Lib.hid hz6l; have HZB := Lib.hid hz6b; have HB6 := Lib.hid hb6
        clear hz6 hz6l hz6b hb6 hz6m
        go_wp2_with fail
        go_loopw [12] (fun i wr => ∃ k : Nat, k ≤ LL.length ∧ i = .int .i64 k ∧ PkZ w5.heap.size wr (.slice A6 LL.length c6) (List.replicate k noPV ++ Z6.drop k) ∧ Below w5.heap.size w5 wr) (fun i _ => LL.length - (intOf i).toNat)
        case atStart => exact ⟨0, Nat.zero_le _, rfl, by simpa using HZ6.out, HB6.out⟩
        case round =>
          obtain ⟨k, hk, rfl, hpz, hlow⟩ := hrel
          by_cases hlt : k < LL.length
          · have hkz : k < Z6.length := by rw [HZL.out]; exact hlt
            have hdr : Z6.drop k = Z6[k] :: Z6.drop (k + 1) := List.drop_eq_getElem_cons hkz
            have hzl : (Z6[k]).1.b.length ≤ 1048576 := HZB.out _ (List.getElem_mem hkz)
            rw [hdr] at hpz
            have hrow := hpz.1
            rw [pvCells_app, pvCells_cons] at hrow
            have hln : (List.replicate k noPV ++ Z6[k] :: Z6.drop (k + 1)).length = LL.length := by have := HZL.out; simp; omega
            rw [hln] at hrow
            have hnc6 : LL.length ≤ c6 := by
              obtain ⟨_, _, hv, h, _⟩ := hrow.slice
              injection hv with _ _ h3
              omega
            have hbs := (hpz.2.1.1 Z6[k] (List.mem_append_right _ List.mem_cons_self)).1
            generalize Z6[k] = z at *
            obtain ⟨b, o, cur, rfl, r0, r1, r2, hcur, hcs, _⟩ := Row.pk hrow (i := k) (by rw [pvCells_len]; simp)
            obtain ⟨Az, cz, hzv, _⟩ := id hbs.sl
            rw [hzv] at r2
            have hlb := World.block_lt_of_cell? wr _ r0
            simp only at hlb
            have HPZ := Lib.hid hpz; have HDR := Lib.hid hdr; have HLOW := Lib.hid hlow; have HBZ := Lib.hid hbs; have HZV := Lib.hid hzv; have HCUR := Lib.hid hcur
            clear hpz hdr hrow hbs hlow hzv hcur
            go_wp2_with fail
            refine (r08_Spoil z.1.b.length _ _ _ _ (by rw [← HZV.out]; exact HBZ.out) hzl).mono ?_
            rintro e w7 ⟨rfl, hf7⟩
            have hnb : (Value.slice Az z.1.b.length cz).ownBlock ≠ some b := by
              intro e
              obtain ⟨_, cs, h3⟩ := (HPZ.out.2.1.1 z (List.mem_append_right _ List.mem_cons_self)).2 b (by rw [HZV.out]; exact e)
              rw [HCUR.out] at h3
              simp at h3
            have hcur7 := hf7.block HCUR.out hnb
            obtain ⟨x0, x1, x2, y0, y1, y2, z0, z1, z2⟩ := three_cells (k := o + k * 3) hcur7 (by omega)
            have HF7 : Hid (Fr (fun x => z.2.ownBlock = some x) wr w7) := by rw [HZV.out]; exact hf7
            have hz7 := hf7.size
            clear hf7 hcur7 hnb
            go_wp2
            go_roundw
            case rel =>
              obtain ⟨p1, p2⟩ := HPZ.out.wipe (k := k) (by simp) HF7.out rfl
              refine ⟨k + 1, by omega, by go_num, ?_, HLOW.out.trans (p2.below (by have := HLOW.out.size; omega) (fun _ h => h))⟩
              rw [List.replicate_succ', List.append_assoc]
              exact p1
            case measure => simp [intOf]; omega
          · obtain rfl : k = LL.length := by omega
            have hp8 := HP5.out.bel hlow
            have hz8 := hlow.size
            have HP8 := Lib.hid hp8
            clear hpz hlow hp8
            go_wp2_with fail
            refine (net_Copy _ w.heap.size 5 _ _ _ LL _ _ HP8.out.net (by omega) HK5.out.1 (fun q hq => Nat.le_trans (HK5.out.2 q hq).2.2.2.2 (by omega))).mono ?_
            rintro e w9 ⟨m, H9, mv9, rfl, hm9, hr9, hH9, hv9, hb9⟩
            have ht9 := Trio.new HP8.out hb9 hr9 hm9 hH9 hv9
            have hz9 := hb9.size
            have HT9 := Lib.hid ht9
            clear hr9 hH9 hv9 hb9 ht9
            go_wp2_with fail
            refine (net_Drop _ m 5 _ _ _ 0 LL _ _ HT9.out.cp (by omega) HK5.out.1).mono ?_
            intro e wa ha
            obtain ⟨hea, hsa⟩ := ha.fn
            subst hea
            obtain ⟨mva, Ha, hta⟩ := HT9.out.cstep hsa
            have hza := hsa.frame.size
            have HTA := Lib.hid hta
            clear ha hsa hta
            go_wp2_with fail
            refine (net_Deliver _ w.heap.size 5 _ _ _ 0 LL _ _ HTA.out.pair.net (by omega) HK5.out.1).mono ?_
            intro e wb hdb
            obtain ⟨z, X, bv, lvb, Fb, hLX, heb, hbv, htb, hnb⟩ := HTA.out.deliver (by rw [← HLL.out]; simp) hdb
            subst heb
            obtain ⟨Ab2, cb2, rfl, _⟩ := id hbv.sl
            have hzb : wa.heap.size ≤ wb.heap.size := hdb.frame.size
            have hzl : z.b.length ≤ 1048576 := (HK5.out.2 z (by rw [hLX]; simp)).2.2.2.2
            have HTB := Lib.hid htb; have HBV := Lib.hid hbv; have HNB := Lib.hid hnb; have HLX := Lib.hid hLX
            clear hdb htb hbv hnb hLX
            go_wp2_with fail
            have hba : Below wb.heap.size wb (wb.alloc (.cells #[.int .i64 z.fr, .int .i64 z.dt, .slice Ab2 z.b.length cb2] 34)) := (by repeat (first | with_reducible exact Below.refl _ _ | with_reducible assumption | apply bA | apply bN | apply bD | (refine bS ?_ _ _ (by first | exact Nat.le_refl _ | (simp; done) | (simp; omega) | omega)) | refine bT ?_ ?_ (by with_reducible assumption) | exact Nat.le_refl _ | (simp; done) | (simp; omega) | omega))
            have HBA := Lib.hid hba
            clear hba
            refine (r08_Spoil z.b.length 3 _ _ _ (Row.bel HBV.out HBA.out) hzl).mono ?_
            rintro e wc ⟨rfl, hfc⟩
            have htc := (HTB.out.bel HBA.out).fr hfc (fun x hx hy => (HNB.out x hy).1 hx) (fun x hx hy => (HNB.out x hy).2.1 hx) (fun x hx hy => (HNB.out x hy).2.2.1 hx) (fun x hy => (HNB.out x hy).2.2.2)
            have hzc : wb.heap.size + 1 ≤ wc.heap.size := by have := hfc.size; simpa using this
            have HTC := Lib.hid htc
            clear hfc htc
            go_wp2_with fail
            refine (Ref.r21_Deliver _ w1.heap.size 5 _ _ _ 0 LL _ _ HTC.out.pair.ref (by omega) HK5.out.1).mono ?_
            intro e wd hd
            obtain ⟨bvd, hed, hbd, _, hsd⟩ := Ref.DeliverR.fn hd
            subst hed
            obtain ⟨tvd, Gd, htd⟩ := HTC.out.rstep hsd
            have hzd := (Ref.NetStep.frame hsd).size
            obtain ⟨Ad, cd, rfl, _⟩ := id hbd.sl
            have HTD := Lib.hid htd
            clear hd hsd htd hbd
            have hwo : without LL 0 = X := by rw [HLX.out]; rfl
            rw [hwo] at HTD
            have hXl : X.length ≤ 4096 ∧ ∀ q ∈ X, q.b.length ≤ 140737488355328 := by
              have h := HK5.out
              rw [HLX.out] at h
              exact ⟨by have := h.1; simp at this; omega, fun q hq => Nat.le_trans (h.2 q (List.mem_cons_of_mem _ hq)).2.2.2.2 (by omega)⟩
            have hX4 := hXl.1
            have HXL := Lib.hid hXl
            clear hwo hXl
            obtain ⟨t0, t1, t2, t3, t4⟩ := HTD.out.pair.ref.netAt.cells
            have hTd := Ref.NetRep.lt HTD.out.pair.ref
            have hmd := NetRep.lt HTD.out.cp
            have hBd := NetRep.lt HTD.out.pair.net
            obtain ⟨ZT, hZT, hRT⟩ := HTD.out.pair.ref
            obtain ⟨AT, cT, htv, _⟩ := hRT.2.1.slice
            have hzl2 : ZT.length = X.length := by rw [← hZT]; simp
            rw [hzl2] at htv
            subst htv
            have HZT := Lib.hid hZT; have HRT := Lib.hid hRT
            clear hZT hRT hzl2
            go_wp2_with fail
            go_region_held3 (fun w' => w'.cell? ⟨w1.heap.size, 1, none⟩ = some (.slice AT X.length cT))
              (((try dsimp only); (first | exact t1 | (go_keep; done))))
              (first
               | (go_at_call 15; refine (law21_anchored _).mono ?_; rintro e we ⟨rfl, hbe⟩; (have hbwe : Below wd.heap.size wd we := bT (by repeat (first | with_reducible exact Below.refl _ _ | with_reducible assumption | apply bA | apply bN | apply bD | (refine bS ?_ _ _ (by first | exact Nat.le_refl _ | (simp; done) | (simp; omega) | omega)) | refine bT ?_ ?_ (by with_reducible assumption) | exact Nat.le_refl _ | (simp; done) | (simp; omega) | omega)) (by simp) hbe); obtain ⟨hce, hfe⟩ := bcellN hbe wd.heap.size (by simp); (have hze := hbwe.size); have HBE := Lib.hid hbwe; clear hbe hbwe)
               | (go_at_call 14; ((with_reducible refine (net_Pending _ w.heap.size 5 _ _ _ X _ _ ((HTD.out.bel HBE.out).bel (by repeat (first | with_reducible exact Below.refl _ _ | with_reducible assumption | apply bA | apply bN | apply bD | (refine bS ?_ _ _ (by first | exact Nat.le_refl _ | (simp; done) | (simp; omega) | omega)) | refine bT ?_ ?_ (by with_reducible assumption) | exact Nat.le_refl _ | (simp; done) | (simp; omega) | omega))).pair.net (by omega) HXL.out.1 HXL.out.2).mono ?_); rintro e wf ⟨vf, rfl, hpf, hbf⟩; obtain ⟨Af, cf, rfl⟩ := PkList.shape hpf; obtain ⟨hcf, hff⟩ := bcellN hbf wd.heap.size (by first | omega | (simp; omega)); (have hbwf : Below wd.heap.size wd wf := bT HBE.out (by first | omega | (simp; omega)) hbf); (have hzf := hbwf.size); have HPF := Lib.hid hpf; have HBF := Lib.hid hbwf; clear hpf hbf hbwf))
               | (go_at_call 22; obtain ⟨Z1, hz1, hz2⟩ := HPF.out; refine (Ref.r21_Same _ _ Z1 ZT _ _ _ (hz2.1.bel (by repeat (first | with_reducible exact Below.refl _ _ | with_reducible assumption | apply bA | apply bN | apply bD | (refine bS ?_ _ _ (by first | exact Nat.le_refl _ | (simp; done) | (simp; omega) | omega)) | refine bT ?_ ?_ (by with_reducible assumption) | exact Nat.le_refl _ | (simp; done) | (simp; omega) | omega))) (hz2.bel (by repeat (first | with_reducible exact Below.refl _ _ | with_reducible assumption | apply bA | apply bN | apply bD | (refine bS ?_ _ _ (by first | exact Nat.le_refl _ | (simp; done) | (simp; omega) | omega)) | refine bT ?_ ?_ (by with_reducible assumption) | exact Nat.le_refl _ | (simp; done) | (simp; omega) | omega))).2.1 (((HRT.out.bel HBF.out).bel (by repeat (first | with_reducible exact Below.refl _ _ | with_reducible assumption | apply bA | apply bN | apply bD | (refine bS ?_ _ _ (by first | exact Nat.le_refl _ | (simp; done) | (simp; omega) | omega)) | refine bT ?_ ?_ (by with_reducible assumption) | exact Nat.le_refl _ | (simp; done) | (simp; omega) | omega))).2.1) (((HRT.out.bel HBF.out).bel (by repeat (first | with_reducible exact Below.refl _ _ | with_reducible assumption | apply bA | apply bN | apply bD | (refine bS ?_ _ _ (by first | exact Nat.le_refl _ | (simp; done) | (simp; omega) | omega)) | refine bT ?_ ?_ (by with_reducible assumption) | exact Nat.le_refl _ | (simp; done) | (simp; omega) | omega))).2.2.1) (hz1.trans HZT.out.symm) (by have := congrArg List.length hz1; simp at *; omega)).mono ?_; rintro e wg ⟨rfl, hbg⟩; obtain ⟨hcg, hfg⟩ := bcellN hbg wd.heap.size (by first | omega | (simp; omega)); (have hbwg : Below wd.heap.size wd wg := bT HBF.out (by first | omega | (simp; omega)) hbg); (have hzg := hbwg.size); have HBG := Lib.hid hbwg; clear hbg hbwg)
               | (go_at_call 14; ((with_reducible refine (net_Pending _ m 5 _ _ _ X _ _ ((HTD.out.bel HBG.out).bel (by repeat (first | with_reducible exact Below.refl _ _ | with_reducible assumption | apply bA | apply bN | apply bD | (refine bS ?_ _ _ (by first | exact Nat.le_refl _ | (simp; done) | (simp; omega) | omega)) | refine bT ?_ ?_ (by with_reducible assumption) | exact Nat.le_refl _ | (simp; done) | (simp; omega) | omega))).cp (by omega) HXL.out.1 HXL.out.2).mono ?_); rintro e wh ⟨vh, rfl, hph, hbh⟩; obtain ⟨Ah, ch, rfl⟩ := PkList.shape hph; obtain ⟨hch, hfh⟩ := bcellN hbh wd.heap.size (by first | omega | (simp; omega)); (have hbwh : Below wd.heap.size wd wh := bT HBG.out (by first | omega | (simp; omega)) hbh); have HBH := Lib.hid hbwh; clear hph hbh hbwh)))
            go_wp2
            go_ret
            exact ⟨rfl, bT HTD.out.pair.low HTD.out.pair.size HBH.out⟩
      · refine (net_Send F _ w.heap.size 5 s d l 1 2 L lv _ bs _ HP2.out.net (by omega) HBS.out.sl).mono ?_
        intro e w3 h3
        obtain ⟨he3, hs3⟩ := SendR.bad h3 hse
        subst he3
        have hne : (sendErr 5 1 2 L.length bs.length != 0) = true := by simpa using hse
        obtain ⟨lv3, F3, hp3⟩ := HP2.out.step hs3
        have HP3 := Lib.hid hp3
        have hbig : L.length = 4096 ∨ 1048576 < bs.length := by
          have := HK.out.1
          unfold sendErr at hse
          simp at hse
          omega
        have hlw3 := hp3.low
        obtain ⟨t0, t1, t2, t3, t4⟩ := hp3.ref.netAt.cells
        have hT3 := Ref.NetRep.lt hp3.ref
        obtain ⟨Z4, hz4, hr4⟩ := hp3.ref
        obtain ⟨A4, c4, htv, _⟩ := hr4.2.1.slice
        have hzl : Z4.length = L.length := by rw [← hz4]; simp
        rw [hzl] at htv
        subst htv
        clear h3 hs3 hp3 hz4 hr4 hzl
        go_wp2_with fail
        refine (law21_anchored _).mono ?_
        rintro e w4 ⟨rfl, hb4⟩
        have u1 := (hb4.cell (p := ⟨w1.heap.size, 1, none⟩) hT3).trans t1
        by_cases h4 : L.length = 4096
        · have q4 : ((L.length : Int) == 4096) = true := by simp; omega
          go_wp2
          go_ret
          exact ⟨rfl, bT hlw3 (by have := hlw3.size; omega) hb4⟩
        · have q4 : ((L.length : Int) == 4096) = false := by simp; omega
          have q5 : (1048576 : Int) < bs.length := by omega
          go_wp2
          go_ret
          exact ⟨rfl, bT hlw3 (by have := hlw3.size; omega) hb4⟩
end Go.Proofs.Ytknhblhdkjgnbaa
