/- The law HyperTells where the hypergraph may not be. (written by gen27.py) -/
import Derived.Test.YtnnfhnehieoeaaaDoorGA27
namespace Go.Proofs.YtnnfhnehieoeaaaDoor.Hy
open Go.RowKit Go.Shelf Go.Proofs.YtnnfhnehieoeaaaDoorW.PrintWords Go.Proofs.YtnnfhnehieoeaaaDoorW.PrintLast Go.Proofs.YtnnfhnehieoeaaaDoorW.PrintMore Go.Proofs.YtnnfhnehieoeaaaDoor.PHyperTells
set_option linter.unusedVariables false
set_option linter.unusedSimpArgs false
set_option maxHeartbeats 8000000 in
set_option maxRecDepth 100000 in
theorem tells_wrong (many : Int) (A : Option Addr) (c : Nat) (xs : List (List Int)) (Ap : Option Addr) (cp : Nat) (ps : List (List Int)) (w : World) (hc0 : xs.length ≤ c) (hr : KL.C w A xs.length xs) (hcp : ps.length ≤ cp) (hrp : KL.C w Ap ps.length ps) (hT : Tab w) (hR : rightB many (cutRows 41 xs) = false) :
    Calls Tryd.prog 3 #[.agg #[.int .i64 many, .slice A xs.length c], .slice Ap ps.length cp] w fun e w' => e = .returned (.bool true) ∧ Below w.heap.size w w' := by
  obtain ⟨y, hy⟩ : ∃ y, y = cutRows 41 xs := ⟨_, rfl⟩
  have HOWN : Aside0 (∀ W, KL.C W A xs.length xs → Calls Tryd.prog 7 #[.agg #[.int .i64 many, .slice A xs.length c]] W fun e w' => ∃ v, e = .returned (.agg #[.int .i64 many, v]) ∧ KL.R 30 w' W.heap.size anyK v y ∧ Below W.heap.size W w') := ⟨fun W h => hy ▸ own_any many A c xs W h hc0⟩
  have hty : tame y := hy ▸ cutRows_tame 41 (by omega) xs
  rw [← hy] at hR
  have HRT : Aside0 (∀ W (Av : Option Addr) (cv : Nat), KL.C W Av y.length y → y.length ≤ cv → Calls Tryd.prog 8 #[.agg #[.int .i64 many, .slice Av y.length cv]] W fun e w' => e = .returned (.bool false) ∧ Below W.heap.size W w') := ⟨fun W Av cv h hc => by have := refRight_any many Av cv y W h hc hty; rw [hR] at this; exact this⟩
  have HE0 : ∀ (W : World) (A : Option Addr), KL.C W A 0 [] := fun W A => ⟨rfl, by decide, fun h => absurd h (by decide)⟩
  have HSAME : Aside0 (∀ W (A : Option Addr) (c : Nat) (A' : Option Addr) (c' : Nat), Calls Tryd.prog 11 #[.slice A 0 c, .slice A' 0 c'] W fun e w' => e = .returned (.bool true) ∧ Below W.heap.size W w') := ⟨fun W A c A' c' => same_any A c [] A' c' [] W (HE0 W A) (Nat.zero_le _) (HE0 W A') (Nat.zero_le _) ⟨by simp, fun e he => by cases he⟩⟩
  have HP12 : Aside0 (∀ W (Av : Option Addr) (cv : Nat), KL.C W Av y.length y → y.length ≤ cv → Tab W → Calls Tryd.prog 12 #[.agg #[.int .i64 many, .slice Av y.length cv]] W fun e w' => ∃ A c, e = .returned (.slice A 0 c) ∧ Below W.heap.size W w') := ⟨fun W Av cv h hc hT => by
    refine (p12 many Av cv y W hty h hc hT).mono ?_
    rintro e w' ⟨⟨A, c, h1, _, _⟩, h2⟩
    have e0 : partsL many y = [] := by unfold partsL; rw [hR]; rfl
    rw [e0] at h1
    exact ⟨A, c, h1, h2⟩⟩
  have HP13 : Aside0 (∀ W (Av : Option Addr) (cv : Nat), KL.C W Av y.length y → y.length ≤ cv → Calls Tryd.prog 13 #[.agg #[.int .i64 many, .slice Av y.length cv]] W fun e w' => e = .returned (.slice none 0 0) ∧ Below W.heap.size W w') := ⟨fun W Av cv h hc => p13w many Av cv y W hR hty h hc⟩
  have HP14 : Aside0 (∀ W (Av : Option Addr) (cv : Nat), KL.C W Av y.length y → y.length ≤ cv → Tab W → Calls Tryd.prog 14 #[.agg #[.int .i64 many, .slice Av y.length cv]] W fun e w' => e = .returned (.bool false) ∧ Below W.heap.size W w') := ⟨fun W Av cv h hc hT => p14w many Av cv y W hR hty h hc hT⟩
  have HP15 : Aside0 (∀ W (Av : Option Addr) (cv : Nat), KL.C W Av y.length y → y.length ≤ cv → Calls Tryd.prog 15 #[.agg #[.int .i64 many, .slice Av y.length cv]] W fun e w' => ∃ A c, e = .returned (.tuple #[.slice A 0 c, .int .i64 300]) ∧ KI.R 3 w' W.heap.size anyK (.slice A 0 c) [] ∧ Below W.heap.size W w') := ⟨fun W Av cv h hc => by
    refine (p15 many Av cv y W [] (fun h => by rw [hR] at h; cases h) hty h hc).mono ?_
    rintro e w' ⟨A, c, t, err, h1, h2, h3, h4⟩
    rcases h3 with ⟨_, h5, h6⟩ | ⟨h5, _⟩ | ⟨h5, _⟩
    · subst h5; subst h6; exact ⟨A, c, h1, h2, h4⟩
    · rw [hR] at h5; cases h5
    · rw [hR] at h5; cases h5⟩
  obtain ⟨qs, hqs⟩ : ∃ qs, qs = cutRows 6 ps := ⟨_, rfl⟩
  have htq : tame qs := hqs ▸ cutRows_tame 6 (by omega) ps
  have HQL : Aside0 (qs.length ≤ 1099511627776) := ⟨by have := htq.1; omega⟩
  have HTQ := Aside0.mk htq
  have HROWS : Aside0 (∀ W, KL.C W Ap ps.length ps → Calls Tryd.prog 17 #[.slice Ap ps.length cp, .int .i64 6] W fun e w' => ∃ v, e = .returned v ∧ KL.R 30 w' W.heap.size anyK v qs ∧ Below W.heap.size W w') := ⟨fun W h => hqs ▸ rows_any Ap cp ps 6 W h hcp (by omega)⟩
  clear hqs htq
  have HR := Aside0.mk hr
  have HP := Aside0.mk hrp
  have HT := Aside0.mk hT
  have HW := Aside0.mk hR
  have HTY := Aside0.mk hty
  clear hr hrp hT hR hy hty HE0
  go_enter Tryd.func3, Tryd.ntmps3
  go_wp2_with (first
    | ((with_reducible refine gate_dst (N := 2) rfl ?_); refine box_event ?hg (N := 2) ?hd (cs := #[.int .i64 many, .slice A xs.length c]) (t := 24) ?hr ?_; (case hd => rfl); (case hg => rfl); (case hr => first | (go_simp; done) | (go_simp; rfl)); intro gb hg w2 hbox hb; have HG := Aside0.mk (show w.heap.size ≤ gb by omega); have HBX := Aside0.mk hbox; have HB := Aside0.mk hb; have hcz0 : w2.cell? ⟨gb, 0, none⟩ = some (.int .i64 many) := (blk_cell HBX.out 0).trans rfl; have hcz1 : w2.cell? ⟨gb, 1, none⟩ = some (.slice A xs.length c) := (blk_cell HBX.out 1).trans rfl; clear hg hbox hb)
    | (go_at_call 6; (with_reducible refine (wakes_any _ (HT.out.below HT.out.lt HB.out)).mono ?_); rintro e w3 ⟨rfl, hb⟩; replace HBX := Aside0.mk (blk_below HBX.out hb); replace HB := Aside0.mk (HB.out.trans (hb.mono HB.out.size)); have hcz3 : w3.cell? ⟨gb, 0, none⟩ = some (.int .i64 many) := (blk_cell HBX.out 0).trans rfl; have hcz4 : w3.cell? ⟨gb, 1, none⟩ = some (.slice A xs.length c) := (blk_cell HBX.out 1).trans rfl; clear hb)
    | (go_at_call 7; (with_reducible refine (HOWN.out _ (Kd.C_below HR.out HB.out)).mono ?_); rintro e w4 ⟨v, rfl, hv, hb⟩; obtain ⟨Av, cv, hvf⟩ := Kd.R_slice hv; subst hvf; have hcv : y.length ≤ cv := (Kd.R_reads' hv).2.1; have HH := Aside0.mk (own_held many A c y HB.out HBX.out (HT.out.below HT.out.lt HB.out) hv hb); clear hb hv HB HBX hcz0 hcz1 hcz3 hcz4)
    | (go_at_call 8; (with_reducible refine (HRT.out _ Av cv HH.out.rd hcv).mono ?_); rintro e w5 ⟨rfl, hb⟩; replace HH := Aside0.mk (HH.out.below hb); have hz0 : w5.cell? ⟨w4.heap.size, 0, none⟩ = some (.int .i64 many) := HH.out.z0; have hz1 : w5.cell? ⟨w4.heap.size, 1, none⟩ = some (.slice Av y.length cv) := HH.out.z1; have hq0 : w5.cell? ⟨gb, 0, none⟩ = some (.int .i64 many) := HH.out.q0; have hq1 : w5.cell? ⟨gb, 1, none⟩ = some (.slice A xs.length c) := HH.out.q1; clear hb)
    | (go_at_call 12; (with_reducible refine (HP12.out _ Av cv HH.out.rd hcv HH.out.held.tab).mono ?_); rintro e w6 ⟨A6, c6, rfl, hb⟩; clear hz0 hz1 hq0 hq1; replace HH := Aside0.mk (HH.out.below hb); have hz0 : w6.cell? ⟨w4.heap.size, 0, none⟩ = some (.int .i64 many) := HH.out.z0; have hz1 : w6.cell? ⟨w4.heap.size, 1, none⟩ = some (.slice Av y.length cv) := HH.out.z1; have hq0 : w6.cell? ⟨gb, 0, none⟩ = some (.int .i64 many) := HH.out.q0; have hq1 : w6.cell? ⟨gb, 1, none⟩ = some (.slice A xs.length c) := HH.out.q1; clear hb)
    | (go_at_call 11; (with_reducible refine (HSAME.out _ _ _ _ _).mono ?_); rintro e w7 ⟨rfl, hb⟩; clear hz0 hz1 hq0 hq1; replace HH := Aside0.mk (HH.out.below hb); have hz0 : w7.cell? ⟨w4.heap.size, 0, none⟩ = some (.int .i64 many) := HH.out.z0; have hz1 : w7.cell? ⟨w4.heap.size, 1, none⟩ = some (.slice Av y.length cv) := HH.out.z1; have hq0 : w7.cell? ⟨gb, 0, none⟩ = some (.int .i64 many) := HH.out.q0; have hq1 : w7.cell? ⟨gb, 1, none⟩ = some (.slice A xs.length c) := HH.out.q1; clear hb)
    | (go_at_call 13; (with_reducible refine (HP13.out _ Av cv HH.out.rd hcv).mono ?_); rintro e w6 ⟨rfl, hb⟩; clear hz0 hz1 hq0 hq1; replace HH := Aside0.mk (HH.out.below hb); have hz0 : w6.cell? ⟨w4.heap.size, 0, none⟩ = some (.int .i64 many) := HH.out.z0; have hz1 : w6.cell? ⟨w4.heap.size, 1, none⟩ = some (.slice Av y.length cv) := HH.out.z1; have hq0 : w6.cell? ⟨gb, 0, none⟩ = some (.int .i64 many) := HH.out.q0; have hq1 : w6.cell? ⟨gb, 1, none⟩ = some (.slice A xs.length c) := HH.out.q1; clear hb)
    | (go_at_call 14; (with_reducible refine (HP14.out _ Av cv HH.out.rd hcv HH.out.held.tab).mono ?_); rintro e w6 ⟨rfl, hb⟩; clear hz0 hz1 hq0 hq1; replace HH := Aside0.mk (HH.out.below hb); have hz0 : w6.cell? ⟨w4.heap.size, 0, none⟩ = some (.int .i64 many) := HH.out.z0; have hz1 : w6.cell? ⟨w4.heap.size, 1, none⟩ = some (.slice Av y.length cv) := HH.out.z1; have hq0 : w6.cell? ⟨gb, 0, none⟩ = some (.int .i64 many) := HH.out.q0; have hq1 : w6.cell? ⟨gb, 1, none⟩ = some (.slice A xs.length c) := HH.out.q1; clear hb)
    | (go_at_call 15; (with_reducible refine (HP15.out _ Av cv HH.out.rd hcv).mono ?_); rintro e w8 ⟨At, ct, rfl, ht, hb⟩; have HTR := Aside0.mk (Kd.R_lower ht HH.out.held.bel.size); clear hz0 hz1 hq0 hq1; replace HH := Aside0.mk (HH.out.below hb); have hz0 : w8.cell? ⟨w4.heap.size, 0, none⟩ = some (.int .i64 many) := HH.out.z0; have hz1 : w8.cell? ⟨w4.heap.size, 1, none⟩ = some (.slice Av y.length cv) := HH.out.z1; have hq0 : w8.cell? ⟨gb, 0, none⟩ = some (.int .i64 many) := HH.out.q0; have hq1 : w8.cell? ⟨gb, 1, none⟩ = some (.slice A xs.length c) := HH.out.q1; clear hb ht)
    | (go_at_call 17; (with_reducible refine (HROWS.out _ (HH.out.argC HP.out)).mono ?_); rintro e w9 ⟨v, rfl, hv, hb⟩; obtain ⟨Aq, cq, hvq⟩ := Kd.R_slice hv; subst hvq; have HQS := Aside0.mk hv; have HB9 := Aside0.mk hb; clear hb hv hz0 hz1 hq0 hq1)
    | (at_builtin; go_must (refine app_t (.tmp 84) (.tmp 86) rfl rfl rfl rfl HQS.out HTR.out HB9.out HH.out.held.bel HH.out.held.bel.size HQL.out ?_); intro v1 w10 ho1 hb1 hg1; obtain ⟨Al, cl, hvl⟩ := Kd.R_slice ho1; subst hvl; have HLR := Aside0.mk ho1; have HH10 := Aside0.mk (HH.out.appended HB9.out HQS.out hg1 hb1); clear ho1 hb1 hg1))
  obtain ⟨ls, hls⟩ : ∃ ls, ls = qs ++ [[]] := ⟨_, rfl⟩
  rw [← hls] at HLR
  have hlsl : ls.length = qs.length + 1 := by rw [hls]; simp
  have HTL : Aside0 (∀ e, e ∈ ls → e.length ≤ 1000) := ⟨fun e he => by rw [hls] at he; rcases List.mem_append.1 he with h | h; exact HTQ.out.2 e h; rw [List.mem_singleton.1 h]; simp⟩
  have HQ1 := HTQ.out.1
  have HLC : Aside0 (KL.C w10 Al ls.length ls) := ⟨(Kd.R_reads' HLR.out).2.2⟩
  clear hls
  go_loopg [89] (qs.length + 1) (fun k v89 wr => ∃ (i : Nat), v89 = .int .i64 i ∧ i ≤ qs.length + 1 ∧ Aside0 (k + i = qs.length + 1) ∧ Aside0 (HeldC w gb w4.heap.size many A xs.length c Av cv y wr ∧ Below w10.heap.size w10 wr))
  case atStart => exact ⟨0, rfl, by omega, ⟨by omega⟩, ⟨HH10.out, Below.refl _ _⟩⟩
  case round =>
    obtain ⟨i, rfl, hi, hk, hbr2⟩ := hrel
    have hbr := Aside0.mk hbr2.out.1
    have hbw := Aside0.mk hbr2.out.2
    by_cases hlt : i < qs.length + 1
    · obtain ⟨ad, A1, c1, hA, hx, hxc, hxr⟩ := at_row (Kd.C_below HLC.out hbw.out) i (by omega)
      subst hA
      have hel : (rdL ls i).length ≤ 1000 := by rw [rdL_at ls i (by omega)]; exact HTL.out _ (List.getElem_mem (by omega))
      obtain ⟨p, hp⟩ : ∃ p, p = rdL ls i := ⟨_, rfl⟩
      rw [← hp] at hx hxc hxr hel
      have HJ : Aside0 (Calls Tryd.prog 18 #[.agg #[.int .i64 many, .slice Av y.length cv], .slice A1 p.length c1] wr fun e w' => e = .returned (.bool false) ∧ Below wr.heap.size wr w') := ⟨by
        have := joins_any many Av cv y wr hbr.out.vc hcv HTY.out A1 c1 p hxr hxc hel
        unfold joinsB at this; rw [HW.out] at this
        exact this⟩
      have hz0 : wr.cell? ⟨w4.heap.size, 0, none⟩ = some (.int .i64 many) := hbr.out.z0
      have hz1 : wr.cell? ⟨w4.heap.size, 1, none⟩ = some (.slice Av y.length cv) := hbr.out.z1
      clear hxr hp
      go_wp2_with (first
        | (go_at_call 18; (with_reducible refine (HJ.out).mono ?_); rintro e w11 ⟨rfl, hb⟩; have HB11 := Aside0.mk (hbr.out.below hb); have hbw11 := Aside0.mk (hbw.out.trans (hb.mono hbw.out.size)); clear hb))
      go_roundg (gk - 1)
      case measure => have := hk.out; omega
      case rel => exact ⟨i + 1, by go_num, by omega, ⟨by have := hk.out; omega⟩, ⟨HB11.out, hbw11.out⟩⟩
    · have HD := Aside0.mk hbr.out.drew
      go_wp2
      go_region_held3 (fun W => W.cell? ⟨w4.heap.size, 1, none⟩ = some (.slice Av y.length cv) ∧ W.cell? ⟨gb, 0, none⟩ = some (.int .i64 many) ∧ W.cell? ⟨gb, 1, none⟩ = some (.slice A xs.length c)) (first | exact ⟨hbr.out.z1, hbr.out.q0, hbr.out.q1⟩ | exact ⟨HD.out.z1, HD.out.q0, HD.out.q1⟩ | exact ⟨H12.out.z1, H12.out.q0, H12.out.q1⟩ | exact ⟨H13.out.z1, H13.out.q0, H13.out.q1⟩) (first
        | (go_at_call 7; (with_reducible refine (HOWN.out _ (HD.out.argC HR.out)).mono ?_); rintro e w12 ⟨v, rfl, hv, hb⟩; obtain ⟨Ao, co, hvo⟩ := Kd.R_slice hv; subst hvo; have HOC := Aside0.mk (Kd.R_reads' hv).2.2; have hoc : y.length ≤ co := (Kd.R_reads' hv).2.1; have H12 := Aside0.mk (HD.out.below hb); have hfd := fun W => field_edges many Ao y.length co W; clear hv hb)
        | (go_at_call 11; (with_reducible refine (same_any Av cv y Ao co y w12 H12.out.vc hcv HOC.out hoc HTY.out).mono ?_); rintro e w13 ⟨he, hb⟩; rw [beq_self_eq_true] at he; subst he; have H13 := Aside0.mk (H12.out.below hb); clear hb))
      go_wp2
      go_ret
      exact ⟨rfl, H13.out.bel⟩

end Go.Proofs.YtnnfhnehieoeaaaDoor.Hy
