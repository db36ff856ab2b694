/- The law HyperParts. (written by gen52.py) -/
import Derived.Test.YtnnfhnehieoeaaaDoorEA52
namespace Go.Proofs.YtnnfhnehieoeaaaDoor.Hy
open Go.RowKit Go.Shelf Go.Proofs.YtnnfhnehieoeaaaDoorW.PrintWords Go.Proofs.YtnnfhnehieoeaaaDoorW.PrintLast Go.Proofs.YtnnfhnehieoeaaaDoorW.PrintMore Go.Proofs.YtnnfhnehieoeaaaDoor.PHyperTells
set_option linter.unusedVariables false
set_option linter.unusedSimpArgs false
set_option maxHeartbeats 8000000 in
set_option maxRecDepth 100000 in
theorem parts_law_right (many : Int) (A : Option Addr) (c : Nat) (xs : List (List Int)) (w : World) (hc0 : xs.length ≤ c) (hr : KL.C w A xs.length xs) (hT : Tab w) (hR : rightB many (cutRows 41 xs) = true) :
    Calls Tryd.prog 5 #[.agg #[.int .i64 many, .slice A xs.length c]] w fun e w' => e = .returned (.bool true) ∧ Below w.heap.size w w' := by
  obtain ⟨y, hy⟩ : ∃ y, y = cutRows 41 xs := ⟨_, rfl⟩
  have HOWN : Aside0 (∀ W, KL.C W A xs.length xs → Calls Tryd.prog 7 #[.agg #[.int .i64 many, .slice A xs.length c]] W fun e w' => ∃ v, e = .returned (.agg #[.int .i64 many, v]) ∧ KL.R 30 w' W.heap.size anyK v y ∧ Below W.heap.size W w') := ⟨fun W h => hy ▸ own_any many A c xs W h hc0⟩
  have hty : tame y := hy ▸ cutRows_tame 41 (by omega) xs
  rw [← hy] at hR
  have HCK : Aside0 (∀ W (Av : Option Addr) (cv : Nat), KL.C W Av y.length y → y.length ≤ cv → Calls Tryd.prog 19 #[.agg #[.int .i64 many, .slice Av y.length cv]] W fun e w' => e = .returned (.int .i64 0) ∧ Below W.heap.size W w') := ⟨fun W Av cv h hc => by
    have := check_any many Av cv y W h hc hty.short
    rw [show checkE many y = 0 by unfold checkE; rw [if_pos hR]] at this
    exact this⟩
  have hyl : y.length ≤ 1000 := hty.1
  have hrm := right_many hR
  obtain ⟨m, rfl⟩ := Int.eq_ofNat_of_zero_le hrm.1
  have hm32 : m ≤ 32 := by omega
  obtain ⟨P, hP⟩ : ∃ P, P = refParts m y m := ⟨_, rfl⟩
  have hPL : partsL m y = P := by unfold partsL; rw [if_pos hR, hP]; rfl
  have htP : tame P := hPL ▸ partsL_tame
  have HPN : Aside0 (∀ p, p ∈ P → p ≠ [] ∧ p.Pairwise (· < ·) ∧ p.length ≤ 1000) := ⟨fun p hp => ⟨parts_ne hR (hP ▸ hp), (parts_nice hR (hP ▸ hp)).2, htP.2 p hp⟩⟩
  have HPH : Aside0 (P.Pairwise (fun p q => p.getD 0 0 < q.getD 0 0)) := ⟨hP ▸ parts_heads⟩
  have HPE : Aside0 (∀ p, p ∈ P → ∀ e, e ∈ y → inN p e = 0 ∨ inN p e = e.length) := ⟨fun p hp e he => inN_cases (parts_edge hR (hP ▸ hp) he)⟩
  have HPS : Aside0 (∀ l' : List Int, l'.Perm P.flatten → l'.Pairwise (· ≤ ·) → l' = rangeL m) := ⟨fun l' h1 h2 => sorted_range (parts_nodup hR) (parts_mem hR) (hP ▸ h1) h2⟩
  have hfl : P.flatten.length = m := by
    have := HPS.out (P.flatten.mergeSort fun x y => decide (x ≤ y)) (List.mergeSort_perm _ _) ((List.pairwise_mergeSort (le := fun (x y : Int) => decide (x ≤ y)) (fun a b c h1 h2 => by simp at h1 h2 ⊢; omega) (fun a b => by simp; omega) P.flatten).imp (fun h => by simpa using h))
    rw [← rangeL_len m, ← this, List.length_mergeSort]
  have HFL := Aside0.mk hfl
  have HACY : Aside0 (allB (fun j => acyB (onesOf y (rdL P j))) P.length = acyB y) := ⟨by
    rw [Bool.eq_iff_iff, allB_iff, acy_parts hR, ← hP]
    constructor
    · intro h p hp
      obtain ⟨j, hj, rfl⟩ := List.mem_iff_getElem.1 hp
      rw [← rdL_at P j hj]; exact h j hj
    · intro h j hj
      exact h _ (by rw [rdL_at P j hj]; exact List.getElem_mem hj)⟩
  have HP12 : Aside0 (∀ W (Av : Option Addr) (cv : Nat), KL.C W Av y.length y → y.length ≤ cv → Tab W → Calls Tryd.prog 12 #[.agg #[.int .i64 m, .slice Av y.length cv]] W fun e w' => ∃ A c, e = .returned (.slice A P.length c) ∧ P.length ≤ c ∧ KL.C w' A P.length P ∧ Below W.heap.size W w') := ⟨fun W Av cv h hc hT => by
    refine (p12 m Av cv y W hty h hc hT).mono ?_
    rintro e w' ⟨⟨A, c, h1, h2, h3⟩, h4⟩
    rw [hPL] at h1 h2 h3
    exact ⟨A, c, h1, h2, h3, h4⟩⟩
  have HP14 : Aside0 (∀ W (Ax : Option Addr) (cx : Nat) (x : List (List Int)), rightB m x = true → tame x → KL.C W Ax x.length x → x.length ≤ cx → Tab W → Calls Tryd.prog 14 #[.agg #[.int .i64 m, .slice Ax x.length cx]] W fun e w' => e = .returned (.bool (acyB x)) ∧ Below W.heap.size W w') := ⟨fun W Ax cx x hRx htx h hc hT => by
    obtain ⟨L, hL⟩ := left_ex (right_nice hRx)
    have := p14 m Ax cx x W L hRx hL htx h hc hT
    rw [acyB_of hL]; exact this⟩
  have HTO : Aside0 (∀ p, rightB m (onesOf y p) = true ∧ tame (onesOf y p)) := ⟨fun p => ⟨onesOf_right hR p, by
    refine ⟨by have : (onesOf y p).length ≤ y.length := List.length_filter_le _ _; omega, fun e he => hty.2 e (onesOf_mem.1 he).1⟩⟩⟩
  have HTP := Aside0.mk htP
  have hPb : P.length ≤ 1000 := htP.1
  have HR := Aside0.mk hr
  have HT := Aside0.mk hT
  have HTY := Aside0.mk hty
  have HW := Aside0.mk hR
  clear hrm hr hT hR hy hty hP hPL htP hfl
  go_enter Tryd.func5, Tryd.ntmps5
  go_wp2_with (first
    | ((with_reducible refine gate_dst (N := 1) rfl ?_); refine box_event ?hg (N := 1) ?hd (cs := #[.int .i64 (m : Int), .slice A xs.length c]) (t := 24) ?hr ?_; (case hd => rfl); (case hg => rfl); (case hr => first | (go_simp; done) | (go_simp; rfl)); intro gb hg w2 hbox hb; have HG := Aside0.mk (show w.heap.size ≤ gb by omega); have HBX := Aside0.mk hbox; have HB := Aside0.mk hb; have hcz0 : w2.cell? ⟨gb, 0, none⟩ = some (.int .i64 (m : Int)) := (blk_cell HBX.out 0).trans rfl; have hcz1 : w2.cell? ⟨gb, 1, none⟩ = some (.slice A xs.length c) := (blk_cell HBX.out 1).trans rfl; clear hg hbox hb)
    | (go_at_call 6; (with_reducible refine (wakes_any _ (HT.out.below HT.out.lt HB.out)).mono ?_); rintro e w3 ⟨rfl, hb⟩; replace HBX := Aside0.mk (blk_below HBX.out hb); replace HB := Aside0.mk (HB.out.trans (hb.mono HB.out.size)); have hcz3 : w3.cell? ⟨gb, 0, none⟩ = some (.int .i64 (m : Int)) := (blk_cell HBX.out 0).trans rfl; have hcz4 : w3.cell? ⟨gb, 1, none⟩ = some (.slice A xs.length c) := (blk_cell HBX.out 1).trans rfl; clear hb)
    | (go_at_call 7; (with_reducible refine (HOWN.out _ (Kd.C_below HR.out HB.out)).mono ?_); rintro e w4 ⟨v, rfl, hv, hb⟩; obtain ⟨Av, cv, hvf⟩ := Kd.R_slice hv; subst hvf; have hcv : y.length ≤ cv := (Kd.R_reads' hv).2.1; have HH := Aside0.mk (own_held (m : Int) A c y HB.out HBX.out (HT.out.below HT.out.lt HB.out) hv hb); clear hb hv HB HBX hcz0 hcz1 hcz3 hcz4)
    | (go_at_call 12; (with_reducible refine (HP12.out _ Av cv HH.out.rd hcv HH.out.held.tab).mono ?_); rintro e w6 ⟨A6, c6, rfl, hc6, hC6, hb⟩; have HC6 := Aside0.mk hC6; replace HH := Aside0.mk (HH.out.below hb); have hz0 : w6.cell? ⟨w4.heap.size, 0, none⟩ = some (.int .i64 (m : Int)) := HH.out.z0; have hz1 : w6.cell? ⟨w4.heap.size, 1, none⟩ = some (.slice Av y.length cv) := HH.out.z1; have hq0 : w6.cell? ⟨gb, 0, none⟩ = some (.int .i64 (m : Int)) := HH.out.q0; have hq1 : w6.cell? ⟨gb, 1, none⟩ = some (.slice A xs.length c) := HH.out.q1; clear hb hC6)
    | (go_at_call 19; (with_reducible refine (HCK.out _ Av cv HH.out.rd hcv).mono ?_); rintro e w7 ⟨rfl, hb⟩; replace HC6 := Aside0.mk (Kd.C_below HC6.out hb); clear hz0 hz1 hq0 hq1; replace HH := Aside0.mk (HH.out.below hb); have hz0 : w7.cell? ⟨w4.heap.size, 0, none⟩ = some (.int .i64 (m : Int)) := HH.out.z0; have hz1 : w7.cell? ⟨w4.heap.size, 1, none⟩ = some (.slice Av y.length cv) := HH.out.z1; have hq0 : w7.cell? ⟨gb, 0, none⟩ = some (.int .i64 (m : Int)) := HH.out.q0; have hq1 : w7.cell? ⟨gb, 1, none⟩ = some (.slice A xs.length c) := HH.out.q1; clear hb))
  have HBW := Aside0.mk HH.out.held.bel.size
  clear hz0 hz1 hq0 hq1
  go_loopg [5, 6, 36] (P.length + 1) (fun k v5 v6 v36 wr => ∃ (i : Nat) (b : Bool), v36 = .int .i64 i ∧ i ≤ P.length ∧ v6 = .bool b ∧ Aside0 (k + i = P.length + 1) ∧ Aside0 (b = allB (fun j => acyB (onesOf y (rdL P j))) i) ∧ Aside0 (Below w7.heap.size w7 wr) ∧ Aside0 (KI.R 3 wr w7.heap.size anyK v5 (P.take i).flatten))
  case atStart => exact ⟨0, true, rfl, by omega, rfl, ⟨by omega⟩, ⟨rfl⟩, ⟨Below.refl _ _⟩, ⟨by rw [List.take_zero, List.flatten_nil]; exact Kd.R_nil _ _ _ _ _⟩⟩
  case round =>
    obtain ⟨i, b, rfl, hi, rfl, hk, hbi, hbr, hall⟩ := hrel
    obtain ⟨g1, rfl⟩ : ∃ g1 : Nat, g1 = gk := ⟨_, rfl⟩
    by_cases hlt : i < P.length
    · obtain ⟨ad, A8, c8, hA, hx7, hxc8, hxr7⟩ := at_row HC6.out i hlt
      subst hA
      have hx8 := (hbr.out.cell (World.block_lt_of_cell? w7 _ hx7)).trans hx7
      have hxr8 := Kd.C_below hxr7 hbr.out
      clear hx7
      obtain ⟨p, hp⟩ : ∃ p, p = rdL P i := ⟨_, rfl⟩
      have hpm : p ∈ P := by rw [hp, rdL_at P i hlt]; exact List.getElem_mem hlt
      rw [← hp] at hx8 hxc8 hxr8 hxr7
      obtain ⟨hpn, hps, hpl⟩ := HPN.out p hpm
      have hp0 : 0 < p.length := List.length_pos_iff.2 hpn
      obtain ⟨ad8, hA8, hc80⟩ := Kd.at_int hxr8 (0 : Int) (by omega) (by omega)
      subst hA8
      obtain ⟨p0, hp0e⟩ : ∃ p0, p0 = rd p 0 := ⟨_, rfl⟩
      rw [← hp0e] at hc80
      have HXR := Aside0.mk hxr8
      have HX7 := Aside0.mk hxr7
      have HPM := Aside0.mk hpm
      have HPP := Aside0.mk hp
      have HP0 := Aside0.mk hp0e
      have HPSS := Aside0.mk hps
      have HPNE := Aside0.mk hpn
      have hpl0 : (((p.length : Nat) : Int) == 0) = false := by rw [beq_eq_false_iff_ne]; omega
      have hal : (P.take i).flatten.length + p.length ≤ 1000 := by
        have h1 : (P.take (i + 1)).flatten = (P.take i).flatten ++ p := by rw [List.take_succ_eq_append_getElem hlt, List.flatten_append, hp, rdL_at P i hlt]; simp
        have h2 : P.flatten = (P.take (i + 1)).flatten ++ (P.drop (i + 1)).flatten := by rw [← List.flatten_append, List.take_append_drop]
        have h3 := congrArg List.length h2
        rw [h1, List.length_append, List.length_append, HFL.out] at h3
        omega
      clear hxr8 hxr7 hpm hp hp0e hps hpn
      go_upto_region 12 with fail
      go_cut [65] (fun s65 wx => s65 = .bool false ∧ Aside0 (Below wr.heap.size wr wx))
      case first =>
        have HSO : Aside0 (∀ n, Calls Tryd.prog 21 #[.slice (some ad8) p.length c8] (wr.drewN n) fun e w' => e = .returned (.bool true) ∧ ∃ m, w' = (wr.drewN n).drewN m) := ⟨fun n => (sorted_any (some ad8) c8 p (wr.drewN n) (Kd.C_drewN HXR.out n) hxc8 hpl HPNE.out HPSS.out).mono fun _ _ h => ⟨h.1, h.2.out⟩⟩
        by_cases hi0 : i = 0
        · subst hi0
          go_quiet ((go_at_call 21; exact Calls.quiet_of (HSO.out _)))
          go_wp2_with fail
          go_meet
          exact ⟨rfl, ⟨pw_below_drewN (Below.refl _ _) _⟩⟩
        · obtain ⟨adq, Aq, cq, hAq, hxq, hxcq, hxrq⟩ := at_row (Kd.C_below HC6.out hbr.out) (i - 1) (by omega)
          obtain rfl : ad = adq := by injection hAq
          clear hAq
          have hqm : rdL P (i - 1) ∈ P := by rw [rdL_at P (i - 1) (by omega)]; exact List.getElem_mem (by omega)
          obtain ⟨hqn, _, hql⟩ := HPN.out _ hqm
          have hlt0 : rd (rdL P (i - 1)) 0 < rd p 0 := by
            have h1 := List.pairwise_iff_getElem.1 HPH.out (i - 1) i (by omega) hlt (by omega)
            rw [HPP.out, rdL_at P i hlt, rdL_at P (i - 1) (by omega)]
            exact h1
          obtain ⟨q, hq⟩ : ∃ q, q = rdL P (i - 1) := ⟨_, rfl⟩
          rw [← hq] at hxq hxcq hxrq hqn hql hlt0
          have hq0 : 0 < q.length := List.length_pos_iff.2 hqn
          obtain ⟨aq, hAq, hcq0⟩ := Kd.at_int hxrq (0 : Int) (by omega) (by omega)
          subst hAq
          obtain ⟨q0, hq0e⟩ : ∃ q0, q0 = rd q 0 := ⟨_, rfl⟩
          rw [← hq0e, ← HP0.out] at hlt0
          rw [← hq0e] at hcq0
          have hcq1 : wr.cell? aq = some (.int .i64 q0) := by simpa [Addr.add] using hcq0
          have hc81 : wr.cell? ad8 = some (.int .i64 p0) := by simpa [Addr.add] using hc80
          have hge : decide (p0 ≤ q0) = false := by simp; omega
          have hge2 : ¬ p0 ≤ q0 := by omega
          have hip : decide ((0 : Int) < (i : Int)) = true := by simp; omega
          have hip2 : decide (0 < i) = true := by simp; omega
          obtain ⟨kq, hkq⟩ : ∃ kq, kq = i - 1 := ⟨_, rfl⟩
          have hw2 : IntKind.i64.wrap ((i : Int) - 1) = (kq : Int) := by rw [wrap_pred i (by omega) (by have := HTP.out.1; omega)]; omega
          have hb1 : kq < P.length := by omega
          have hb2 : (kq : Int) < (P.length : Int) := by omega
          rw [← hkq] at hxq
          clear hkq
          have hb3 : (0 : Int) < (q.length : Int) := by omega
          have hb4 : (0 : Int) < (p.length : Int) := by omega
          clear hxrq hqm hqn hq hq0e hi0
          go_quiet ((go_at_call 21; exact Calls.quiet_of (HSO.out _)))
          go_wp2_with fail
          go_meet
          exact ⟨rfl, ⟨pw_below_drewN (Below.refl _ _) _⟩⟩
      case rest =>
        obtain ⟨rfl, hb12⟩ := hcut
        have HXC := Aside0.mk (Kd.C_below HXR.out hb12.out)
        have HBC := Aside0.mk (hbr.out.trans (hb12.out.mono hbr.out.size))
        have HAC := Aside0.mk (Kd.R_below hall.out hb12.out)
        clear hb12 hx8 hc80 hpl0
        go_upto_region 16 with (at_builtin; go_must (refine Kd.R_append_row (Value.int .i64) 0 (h1 := fun _ => rfl) (w0 := w7) w7.heap.size rfl (.tmp 66) (.tmp 67) 30 3 (.int .i64 0) 8 rfl Tryd.underlying30 info3 rfl (by decide) u5 (P.take i).flatten p (some ad8) p.length c8 anyK rfl rfl ?aF ?aO ?aR ?aB ?aS ?aL ?_); (case aF => exact fun _ _ => trivial); (case aO => exact HAC.out); (case aR => exact HXC.out); (case aB => exact HBC.out); (case aS => exact HBC.out.size); (case aL => omega); intro v5 w8 ho hb1 hg hat; have HA8 := Aside0.mk ho; have HB8 := Aside0.mk hb1; have HH8 := HH.out.below hb1; have hz0 : w8.cell? ⟨w4.heap.size, 0, none⟩ = some (.int .i64 m) := HH8.z0; have hz1 : w8.cell? ⟨w4.heap.size, 1, none⟩ = some (.slice Av y.length cv) := HH8.z1; clear ho hb1 hg hat HH8)
        have hz2 : (w8.alloc (.cells #[.int .i64 m, .slice none 0 0] 24)).cell? ⟨w4.heap.size, 1, none⟩ = some (.slice Av y.length cv) := (HH.out.below (since_alloc HB8.out _)).z1
        have HI := Aside0.mk (InP.start (B := w.heap.size) (m := (m : Int)) HB8.out HBW.out HA8.out)
        clear HXC HBC HAC HXR hz0 hz1 HA8
        go_wp2
        clear hz2
        go_loopg [75] (y.length + 1) (fun k v75 wr2 => ∃ (j : Nat) (v9 : Value), v75 = .int .i64 j ∧ j ≤ y.length ∧ Aside0 (k + j = y.length + 1) ∧ Aside0 (InP w.heap.size w7 w8.heap.size m v9 (onesOf (y.take j) p) v5 ((P.take i).flatten ++ p) wr2))
        case atStart =>
          refine ⟨0, .slice none 0 0, rfl, Nat.zero_le _, ⟨Nat.add_zero _⟩, ?_⟩
          rw [List.take_zero]
          exact HI
        case round =>
          obtain ⟨j, v9, rfl, hj, hkj, hip⟩ := hrel
          clear HI
          obtain ⟨w2, rfl⟩ : ∃ w2 : World, w2 = wr := ⟨_, rfl⟩
          obtain ⟨g2, rfl⟩ : ∃ g2 : Nat, g2 = gk := ⟨_, rfl⟩
          by_cases hjl : j < y.length
          · obtain ⟨ade, A0, c0, hA, hxe, hre⟩ := at_made HH.out.vr j hjl
            subst hA
            obtain ⟨e0, he0⟩ : ∃ e0, e0 = rdL y j := ⟨_, rfl⟩
            have hmem : e0 ∈ y := by rw [he0, rdL_at y j hjl]; exact List.getElem_mem hjl
            rw [← he0] at hxe hre
            have hxe2 := (hip.out.bel.cell (World.block_lt_of_cell? w7 _ hxe)).trans hxe
            have hel : e0.length ≤ 1000 := HTY.out.2 _ hmem
            have HRE := Aside0.mk hre
            have HSN : Aside0 (onesOf (y.take (j + 1)) p = onesOf (y.take j) p ++ if 0 < inN p e0 then [e0] else []) := ⟨by rw [onesOf_snoc y p j hjl, he0, rdL_at y j hjl]⟩
            have hin := HPE.out p HPM.out e0 hmem
            clear hxe hre he0 hmem
            go_wp2
            go_loopg [12, 81] (e0.length + 1) (fun k v12 v81 w3 => ∃ (l n : Nat), v81 = .int .i64 l ∧ l ≤ e0.length ∧ v12 = .int .i64 n ∧ n ≤ l ∧ Aside0 (n = inN p (e0.take l)) ∧ Aside0 (k + l = e0.length + 1) ∧ Aside0 (Below w2.heap.size w2 w3))
            case atStart => exact ⟨0, 0, rfl, Nat.zero_le _, rfl, Nat.le_refl _, ⟨by rw [List.take_zero]; rfl⟩, ⟨Nat.add_zero _⟩, ⟨Below.refl _ _⟩⟩
            case round =>
              obtain ⟨l, n, rfl, hl, rfl, hnl, hn, hkl, hb3⟩ := hrel
              have H3 := Aside0.mk (hip.out.below hb3.out)
              by_cases hle : l < e0.length
              · have hCe : KI.C wr A0 e0.length e0 := Kd.C_below (Kd.R_reads' HRE.out).2.2 H3.out.bel
                obtain ⟨a0, hA0, hxl⟩ := Kd.at_int hCe (l : Int) (by omega) (by omega)
                subst hA0
                rw [rd_nat e0 l hle] at hxl
                simp only [Int.toNat_natCast] at hxl
                have HSN3 := inN_snoc p e0 l hle
                obtain ⟨x, hx⟩ : ∃ x, x = e0[l] := ⟨_, rfl⟩
                rw [← hx] at hxl HSN3
                have HCT := contains_any (some ad8) c8 p x wr (Kd.C_below HX7.out H3.out.bel) hxc8 hpl
                clear hCe hx
                cases hpx : p.contains x with
                | true =>
                  rw [hpx] at HCT HSN3
                  rw [if_pos rfl, ← hn.out] at HSN3
                  have HS3 := Aside0.mk HSN3
                  have HC3 := Aside0.mk HCT
                  clear HSN3 HCT hpx
                  go_wp2_with (go_at_call 22; (with_reducible refine (HC3.out).mono ?_); rintro e w22 ⟨rfl, hd⟩; have HB22 := Aside0.mk (hb3.out.trans ((drawn_below hd).mono hb3.out.size)); clear hd)
                  go_roundg (gk - 1)
                  case measure => have := hkl.out; omega
                  case rel => exact ⟨l + 1, n + 1, by go_num, by omega, by go_num, by omega, ⟨HS3.out.symm⟩, ⟨by have := hkl.out; omega⟩, HB22⟩
                | false =>
                  rw [hpx] at HCT HSN3
                  rw [if_neg (by decide), Nat.add_zero, ← hn.out] at HSN3
                  have HS3 := Aside0.mk HSN3
                  have HC3 := Aside0.mk HCT
                  clear HSN3 HCT hpx
                  go_wp2_with (go_at_call 22; (with_reducible refine (HC3.out).mono ?_); rintro e w22 ⟨rfl, hd⟩; have HB22 := Aside0.mk (hb3.out.trans ((drawn_below hd).mono hb3.out.size)); clear hd)
                  go_roundg (gk - 1)
                  case measure => have := hkl.out; omega
                  case rel => exact ⟨l + 1, n, by go_num, by omega, rfl, by omega, ⟨HS3.out.symm⟩, ⟨by have := hkl.out; omega⟩, HB22⟩
              · have hll : l = e0.length := by omega
                have hn2 : n = inN p e0 := by rw [hn.out, hll, List.take_length]
                by_cases hn0 : n = 0
                · have HS4 : Aside0 (onesOf (y.take (j + 1)) p = onesOf (y.take j) p) := ⟨by rw [HSN.out, if_neg (by omega), List.append_nil]⟩
                  subst hn0
                  clear hn2 hn hin
                  go_wp2
                  go_roundg (g2 - 1)
                  case measure => have := hkj.out; omega
                  case rel => exact ⟨j + 1, v9, by go_num, by omega, ⟨by have := hkj.out; omega⟩, ⟨by rw [HS4.out]; exact H3.out⟩⟩
                · have HS4 : Aside0 (onesOf (y.take (j + 1)) p = onesOf (y.take j) p ++ [e0]) := ⟨by rw [HSN.out, if_pos (by omega)]⟩
                  have hne : n = e0.length := by rcases hin with h | h <;> omega
                  have hpos : 0 < e0.length := by omega
                  subst hll
                  subst hne
                  have hq1 : (((e0.length : Nat) : Int) != 0) = true := by rw [bne_iff_ne]; omega
                  have hq2 : decide ((0 : Int) < (e0.length : Int)) = true := by simp; omega
                  have hq3 : decide (0 < e0.length) = true := by simp; omega
                  have hos : (onesOf (y.take j) p).length ≤ 1000 := by
                    have h1 : (onesOf (y.take j) p).length ≤ (y.take j).length := List.length_filter_le _ _
                    rw [List.length_take] at h1; omega
                  have hk0 := H3.out.k0
                  have hk1 := H3.out.k1
                  clear hn2 hn hin hn0 hle
                  go_wp2_with (at_builtin; go_must (refine app_push (wS := w7) (B := w.heap.size) (.tmp 102) (.tmp 104) rfl rfl rfl rfl H3.out.row HRE.out H3.out.bel HBW.out hos ?_); intro v1 w23 h1 h2 h3; have hkb := H3.out.blk1 h3; have hk2 : w23.cell? ⟨w8.heap.size, 1, none⟩ = some v9 := (blk_cell hkb.1 1).trans rfl; have hk3 : w23.frozen? ⟨w8.heap.size, 1, none⟩ = false := blk_frozen hkb.1 1; have hp1 := H3.out.pushed h1 h2 h3; rw [← HS4.out] at hp1 h1; obtain ⟨A1, c1, hv1⟩ := Kd.R_slice h1.1; subst hv1; have HP1 := Aside0.mk hp1; clear h1 h2 h3 hkb hp1)
                  go_roundg (g2 - 1)
                  case measure => have := hkj.out; omega
                  case rel => exact ⟨j + 1, _, by go_num, by omega, ⟨by have := hkj.out; omega⟩, HP1⟩
          · have hjj : j = y.length := by omega
            subst hjj
            have HI2 := Aside0.mk (show InP w.heap.size w7 w8.heap.size m v9 (onesOf y p) v5 ((P.take i).flatten ++ p) w2 by have := hip.out; rwa [List.take_length] at this)
            clear hip
            obtain ⟨A9, c9, hv9⟩ := Kd.R_slice HI2.out.row.1
            subst hv9
            have hi1 : i + 1 ≤ P.length := by omega
            have HFT : Aside0 ((P.take (i + 1)).flatten = (P.take i).flatten ++ p) := ⟨by rw [List.take_succ_eq_append_getElem hlt, List.flatten_append, HPP.out, rdL_at P i hlt]; simp⟩
            cases b with
            | true =>
              have HH2 := Aside0.mk (HH.out.below HI2.out.bel)
              have HC14 := Aside0.mk (HP14.out w2 A9 c9 (onesOf y p) (HTO.out p).1 (HTO.out p).2 (Kd.R_reads' HI2.out.row.1).2.2 (Kd.R_reads' HI2.out.row.1).2.1 HH2.out.held.tab)
              obtain ⟨ba, hba⟩ : ∃ ba, ba = acyB (onesOf y p) := ⟨_, rfl⟩
              rw [← hba] at HC14
              have HBA := Aside0.mk hba
              have hk0 := HI2.out.k0
              have hk1 := HI2.out.k1
              clear hba hj hjl
              go_wp2_with (go_at_call 14; (with_reducible refine (HC14.out).mono ?_); rintro e w21 ⟨rfl, hb⟩; have HE := Aside0.mk (HI2.out.below hb); clear hb)
              go_roundg (g1 - 1)
              case measure => have := hk.out; omega
              case rel => exact ⟨i + 1, ba, by go_num, hi1, rfl, ⟨by have := hk.out; omega⟩, ⟨by rw [allB_succ, ← hbi.out, HBA.out, HPP.out]; rfl⟩, ⟨HE.out.bel⟩, ⟨by rw [HFT.out]; exact HE.out.all_⟩⟩
            | false =>
              clear hj hjl
              go_wp2
              go_roundg (g1 - 1)
              case measure => have := hk.out; omega
              case rel => exact ⟨i + 1, false, by go_num, hi1, rfl, ⟨by have := hk.out; omega⟩, ⟨by rw [allB_succ, ← hbi.out]; rfl⟩, ⟨HI2.out.bel⟩, ⟨by rw [HFT.out]; exact HI2.out.all_⟩⟩
    · have him : i = P.length := by omega
      subst him
      have HAL := Aside0.mk (show KI.R 3 wr w7.heap.size anyK u5 P.flatten by have := hall.out; rwa [List.take_length] at this)
      obtain ⟨A5, c5, hv5⟩ := Kd.R_slice HAL.out
      rw [HFL.out] at hv5
      subst hv5
      have HSRT := Aside0.mk (sortI_any wr w7.heap.size (.slice A5 m c5) P.flatten HAL.out (by rw [HFL.out]; omega) hbr.out.size)
      have HB14 : Aside0 (∀ W, KL.C W Av y.length y → Tab W → Calls Tryd.prog 14 #[.agg #[.int .i64 m, .slice Av y.length cv]] W fun e w' => e = .returned (.bool b) ∧ Below W.heap.size W w') := ⟨fun W h hT => by
        rw [hbi.out, HACY.out]; exact HP14.out W Av cv y HW.out HTY.out h hcv hT⟩
      clear hall hi hlt
      go_wp2_with (go_at_call 23; (with_reducible refine (HSRT.out).mono ?_); rintro e w20 ⟨rfl, ys, hp, hs, hR, hb⟩; obtain rfl := HPS.out ys hp hs; have HR5 := Aside0.mk hR; have HB5 := Aside0.mk (hbr.out.trans hb); clear hp hs hR hb)
      go_loopg [118] (m + 1) (fun k v118 wq => ∃ (j : Nat), v118 = .int .i64 j ∧ j ≤ m ∧ Aside0 (k + j = m + 1) ∧ Aside0 (Below w20.heap.size w20 wq))
      case atStart => exact ⟨0, rfl, by omega, ⟨by omega⟩, ⟨Below.refl _ _⟩⟩
      case round =>
        obtain ⟨j, rfl, hj, hkj, hbq⟩ := hrel
        by_cases hjm : j < m
        · have hC : KI.C wr A5 (rangeL m).length (rangeL m) := Kd.C_below (Kd.R_reads' HR5.out).2.2 hbq.out
          obtain ⟨a5, hA5, hx⟩ := Kd.at_int hC (j : Int) (by omega) (by rw [rangeL_len]; omega)
          subst hA5
          rw [rangeL_rd m j hjm] at hx
          simp only [Int.toNat_natCast] at hx
          clear hC
          go_wp2
          go_roundg (gk - 1)
          case measure => have := hkj.out; omega
          case rel => exact ⟨j + 1, by go_num, by omega, ⟨by have := hkj.out; omega⟩, hbq⟩
        · have hjj : m = j := by omega
          subst hjj
          have HQ := Aside0.mk (HH.out.below (HB5.out.trans (hbq.out.mono HB5.out.size)))
          have hz0 : wr.cell? ⟨w4.heap.size, 0, none⟩ = some (.int .i64 m) := HQ.out.z0; have hz1 : wr.cell? ⟨w4.heap.size, 1, none⟩ = some (.slice Av y.length cv) := HQ.out.z1
          clear hj hjm
          cases b with
          | true =>
            go_wp2_with (go_at_call 14; (with_reducible refine (HB14.out _ HQ.out.rd HQ.out.held.tab).mono ?_); rintro e w21 ⟨rfl, hb⟩; have HE := Aside0.mk (HQ.out.below hb); clear hb)
            go_ret
            exact ⟨rfl, HE.out.held.bel⟩
          | false =>
            go_wp2_with (go_at_call 14; (with_reducible refine (HB14.out _ HQ.out.rd HQ.out.held.tab).mono ?_); rintro e w21 ⟨rfl, hb⟩; have HE := Aside0.mk (HQ.out.below hb); clear hb)
            go_ret
            exact ⟨rfl, HE.out.held.bel⟩

end Go.Proofs.YtnnfhnehieoeaaaDoor.Hy
