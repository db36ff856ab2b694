/- The law HyperWhole. (written by gen41.py) -/
import Derived.Test.YtnnfhnehieoeaaaDoorGA40
namespace Go.Proofs.YtnnfhnehieoeaaaDoor.Hy
open Go.RowKit Go.Shelf Go.Proofs.YtnnfhnehieoeaaaDoorW.PrintWords Go.Proofs.YtnnfhnehieoeaaaDoorW.PrintLast Go.Proofs.YtnnfhnehieoeaaaDoorW.PrintMore Go.Proofs.YtnnfhnehieoeaaaDoor.PHyperTells
set_option linter.unusedVariables false
set_option linter.unusedSimpArgs false
open Go.Proofs.YtnnfhnehieoeaaaDoorW.PrintLast
def whole.T12 : Bool × List (List Nat × List Nat) := (true, [([], []), ([0], [0]), ([], []), ([2], [2]), ([3], [3]), ([], []), ([5], [5]), ([4, 6, 4], [4, 6]), ([1, 7], [1, 7]), ([], []), ([9, 8, 7, 0, 1, 2, 3, 4, 5, 6, 7, 8, 9], [8, 9])])
def whole.B12 : List Nat := [0, 1, 0, 4, 12, 0, 32, 124, 255, 0, 1023]
theorem whole.tab12 : rtab .any (opsOf Tryd.f4 12) = whole.T12 := by kernel_rfl
theorem whole.bits12 : waitsOk whole.T12.2 whole.B12 = true := by kernel_rfl
def whole.T19 : Bool × List (List Nat × List Nat) := (true, [([], []), ([0], [0]), ([], []), ([2], [2]), ([3], [3]), ([], []), ([], []), ([6], [6]), ([7], [7]), ([5, 8], [5, 8]), ([9], [9]), ([4, 10, 4], [4, 10]), ([1, 11], [1, 11]), ([], []), ([13, 12, 11, 0, 1, 2, 3, 4, 5, 6, 7, 8, 9, 10, 11, 12, 13], [12, 13])])
def whole.B19 : List Nat := [0, 1, 0, 4, 12, 0, 0, 64, 192, 480, 992, 2044, 4095, 0, 16383]
theorem whole.tab19 : rtab .any (opsOf Tryd.f4 19) = whole.T19 := by kernel_rfl
theorem whole.bits19 : waitsOk whole.T19.2 whole.B19 = true := by kernel_rfl

theorem u64_nonneg (x : Int) : 0 ≤ IntKind.u64.wrap x := by simp [IntKind.wrap, IntKind.signed, IntKind.bits]; omega
theorem u64_small (n : Nat) (h : n ≤ 1000) : IntKind.u64.wrap (n : Int) = n := by simp [IntKind.wrap, IntKind.signed, IntKind.bits]; omega
theorem i64_small (n : Nat) (h : n ≤ 1000) : IntKind.i64.wrap (n : Int) = n := by simp [IntKind.wrap, IntKind.signed, IntKind.bits]; omega
theorem take_short {e : List Int} (j : Nat) (h : e.length ≤ 1000) : (e.take j).length ≤ 1000 := by rw [List.length_take]; omega
theorem half_eq (n j : Nat) (h : j = n / 2) : (n : Int).tdiv 2 = (j : Int) ∧ (n : Int) / 2 = (j : Int) := by
  subst h; exact ⟨(Int.ofNat_tdiv n 2).symm, by omega⟩
theorem wrap64_small (j n : Nat) (h : j ≤ n) (hn : n ≤ 1000) : wrap64 (j : Int) = (j : Int) := by unfold wrap64; omega
theorem half_le (n j : Nat) (h : j = n / 2) : j ≤ n := by omega
theorem mod_facts (at_ : Int) (n : Nat) (h0 : n ≠ 0) (hn : n ≤ 1000) : ∃ a k : Nat, IntKind.u64.wrap at_ = (a : Int) ∧ k < n ∧ (a : Int).tmod (n : Int) = (k : Int) ∧ IntKind.u64.wrap (n : Int) = (n : Int) ∧ IntKind.i64.wrap (k : Int) = (k : Int) ∧ (0 : Int) ≤ (k : Int) ∧ (k : Int) < (n : Int) ∧ ¬ n = 0 := by
  have h1 := u64_nonneg at_
  have hk : (IntKind.u64.wrap at_).toNat % n < n := Nat.mod_lt _ (by omega)
  exact ⟨(IntKind.u64.wrap at_).toNat, (IntKind.u64.wrap at_).toNat % n, by omega, hk, (Int.ofNat_tmod _ _).symm, u64_small n hn, i64_small _ (by omega), by omega, by omega, h0⟩
theorem tame_snoc {xs : List (List Int)} {e : List Int} (h : tame xs) (hl : xs.length < 40) (he : e.length ≤ 1000) : tame (xs ++ [e]) :=
  ⟨by simp; omega, fun x hx => by
    rcases List.mem_append.1 hx with h1 | h1
    · exact h.2 x h1
    · rw [List.mem_singleton.1 h1]; exact he⟩
set_option maxHeartbeats 8000000 in
set_option maxRecDepth 100000 in
theorem whole_few (many : Int) (A : Option Addr) (c : Nat) (xs : List (List Int)) (at_ : Int) (w : World) (hc0 : xs.length ≤ c) (hr : KL.C w A xs.length xs) (hT : Tab w) (hR : rightB many (cutRows 41 xs) = true) (hF : (cutRows 41 xs).length < 40) :
    Calls Tryd.prog 4 #[.agg #[.int .i64 many, .slice A xs.length c], .int .i64 at_] w fun e w' => e = .returned (.bool true) ∧ Below w.heap.size w w' := by
  obtain ⟨y, hy⟩ : ∃ y, y = cutRows 41 xs := ⟨_, rfl⟩
  have HOWN : Aside0 (∀ W, KL.C W A xs.length xs → Calls Tryd.prog 7 #[.agg #[.int .i64 many, .slice A xs.length c]] W fun e w' => ∃ v, e = .returned (.agg #[.int .i64 many, v]) ∧ KL.R 30 w' W.heap.size anyK v y ∧ Below W.heap.size W w') := ⟨fun W h => hy ▸ own_any many A c xs W h hc0⟩
  have hty : tame y := hy ▸ cutRows_tame 41 (by omega) xs
  rw [← hy] at hR hF
  have HCK : Aside0 (∀ W (Av : Option Addr) (cv : Nat), KL.C W Av y.length y → y.length ≤ cv → Calls Tryd.prog 19 #[.agg #[.int .i64 many, .slice Av y.length cv]] W fun e w' => e = .returned (.int .i64 0) ∧ Below W.heap.size W w') := ⟨fun W Av cv h hc => by
    have := check_any many Av cv y W h hc hty.short
    rw [show checkE many y = 0 by unfold checkE; rw [if_pos hR]] at this
    exact this⟩
  have hl0 : ((y.length : Int) == 40) = false := by rw [beq_eq_false_iff_ne]; omega
  have HF := Aside0.mk hF
  clear hF
  have HR := Aside0.mk hr
  have HT := Aside0.mk hT
  have HTY := Aside0.mk hty
  have hyl : y.length ≤ 1000 := hty.1
  have hrm := right_many hR
  obtain ⟨m, rfl⟩ := Int.eq_ofNat_of_zero_le hrm.1
  have hm32 : m ≤ 32 := by omega
  have HW := Aside0.mk hR
  clear hrm hr hT hR hy hty
  go_enter Tryd.func4, Tryd.ntmps4
  go_wp2_with (first
    | ((with_reducible refine gate_dst (N := 2) rfl ?_); refine box_event ?hg (N := 2) ?hd (cs := #[.int .i64 (m : Int), .slice A xs.length c]) (t := 24) ?hr ?_; (case hd => rfl); (case hg => rfl); (case hr => first | (go_simp; done) | (go_simp; rfl)); intro gb hg w2 hbox hb; have HG := Aside0.mk (show w.heap.size ≤ gb by omega); have HBX := Aside0.mk hbox; have HB := Aside0.mk hb; have hcz0 : w2.cell? ⟨gb, 0, none⟩ = some (.int .i64 (m : Int)) := (blk_cell HBX.out 0).trans rfl; have hcz1 : w2.cell? ⟨gb, 1, none⟩ = some (.slice A xs.length c) := (blk_cell HBX.out 1).trans rfl; clear hg hbox hb)
    | (go_at_call 6; (with_reducible refine (wakes_any _ (HT.out.below HT.out.lt HB.out)).mono ?_); rintro e w3 ⟨rfl, hb⟩; replace HBX := Aside0.mk (blk_below HBX.out hb); replace HB := Aside0.mk (HB.out.trans (hb.mono HB.out.size)); have hcz3 : w3.cell? ⟨gb, 0, none⟩ = some (.int .i64 (m : Int)) := (blk_cell HBX.out 0).trans rfl; have hcz4 : w3.cell? ⟨gb, 1, none⟩ = some (.slice A xs.length c) := (blk_cell HBX.out 1).trans rfl; clear hb)
    | (go_at_call 7; (with_reducible refine (HOWN.out _ (Kd.C_below HR.out HB.out)).mono ?_); rintro e w4 ⟨v, rfl, hv, hb⟩; obtain ⟨Av, cv, hvf⟩ := Kd.R_slice hv; subst hvf; have hcv : y.length ≤ cv := (Kd.R_reads' hv).2.1; have HH := Aside0.mk (own_held (m : Int) A c y HB.out HBX.out (HT.out.below HT.out.lt HB.out) hv hb); clear hb hv HB HBX hcz0 hcz1 hcz3 hcz4)
    | (go_at_call 19; (with_reducible refine (HCK.out _ Av cv HH.out.rd hcv).mono ?_); rintro e w5 ⟨rfl, hb⟩; replace HH := Aside0.mk (HH.out.below hb); have hz0 : w5.cell? ⟨w4.heap.size, 0, none⟩ = some (.int .i64 (m : Int)) := HH.out.z0; have hz1 : w5.cell? ⟨w4.heap.size, 1, none⟩ = some (.slice Av y.length cv) := HH.out.z1; have hq0 : w5.cell? ⟨gb, 0, none⟩ = some (.int .i64 (m : Int)) := HH.out.q0; have hq1 : w5.cell? ⟨gb, 1, none⟩ = some (.slice A xs.length c) := HH.out.q1; clear hb))
  go_loopg [6, 28] (m + 1) (fun k v6 v28 wr => ∃ (i : Nat), v28 = .int .i64 i ∧ i ≤ m ∧ Aside0 (k + i = m + 1) ∧ Aside0 (Below w5.heap.size w5 wr) ∧ Aside0 (KI.R 3 wr w5.heap.size anyK v6 (rangeL i)))
  case atStart => exact ⟨0, rfl, by omega, ⟨by omega⟩, ⟨Below.refl _ _⟩, ⟨Kd.R_nil _ _ _ _ _⟩⟩
  case round =>
    obtain ⟨i, rfl, hi, hk, hbr, hva⟩ := hrel
    by_cases hlt : i < m
    · obtain ⟨Aa, ca, hvf⟩ := Kd.R_slice hva.out
      subst hvf
      go_wp2_with (at_builtin; go_must (refine Kd.R_append KI (w0 := w5) (W := wr) w5.heap.size rfl (.tmp 31) (.tmp 33) 30 3 (.int .i64 0) 8 rfl Tryd.underlying30 info3 rfl (by decide) (by decide) (.slice Aa (rangeL i).length ca) (rangeL i) (i : Int) [.int .i64 i] anyK (fun _ => False) rfl rfl rfl (fun k hk => hk.elim) (fun _ _ => trivial) hva.out hbr.out hbr.out.size (by rw [rangeL_len]; omega) ?_); intro v1 w6 ho1 hb1 hg1 hat1; have HO1 := Aside0.mk ho1; have HB1 := Aside0.mk hb1; clear ho1 hb1 hg1 hat1)
      go_roundg (gk - 1)
      case measure => have := hk.out; omega
      case rel => exact ⟨i + 1, by go_num, by omega, ⟨by have := hk.out; omega⟩, HB1, ⟨by rw [rangeL_succ]; exact HO1.out⟩⟩
    · have him : m = i := by omega
      subst him
      have HH5 := HH
      clear HH hz0 hz1 hq0 hq1
      have HH := Aside0.mk (HH5.out.below hbr.out)
      have HVA := Aside0.mk (Kd.R_lower hva.out HH5.out.held.bel.size)
      have HBW := Aside0.mk HH.out.held.bel.size
      clear HH5 hlt hi
      obtain ⟨Aa, ca, hvf⟩ := Kd.R_slice hva.out
      subst hvf
      obtain ⟨z, hz⟩ : ∃ z, z = y ++ [rangeL m] := ⟨_, rfl⟩
      have HZ := Aside0.mk hz
      clear hva hz
      have F0 := Aside0.mk ((Below.refl wr.heap.size wr).drew)
      go_wp2

      have hRz : rightB m z = true := HZ.out ▸ right_snoc HW.out HF.out (edge_range m)
      have htz : tame z := HZ.out ▸ tame_snoc HTY.out HF.out (by rw [rangeL_len]; omega)
      obtain ⟨L, hL⟩ := left_ex (right_nice hRz)
      obtain rfl := left_whole (HZ.out ▸ hRz) (HZ.out ▸ hL)
      have HQ15 : Aside0 (∀ W (Az : Option Addr) (cz : Nat), KL.C W Az z.length z → z.length ≤ cz → Calls Tryd.prog 15 #[.agg #[.int .i64 m, .slice Az z.length cz]] W fun e w' => ∃ A c t, e = .returned (.tuple #[.slice A t.length c, .int .i64 0]) ∧ KI.R 3 w' W.heap.size anyK (.slice A t.length c) t ∧ Aside0 (t.length ≤ 1000 ∧ refJ m z t = true) ∧ Below W.heap.size W w') := ⟨fun W Az cz h hc => by
        refine (p15 m Az cz z W [] (fun _ => hL) htz h hc).mono ?_
        rintro e w' ⟨A, c, t, err, h1, h2, h3, h4⟩
        rcases h3 with ⟨h5, _⟩ | ⟨_, h5, _⟩ | ⟨_, _, h5, h6, h7⟩
        · rw [hRz] at h5; cases h5
        · exact absurd rfl h5
        · subst h7; exact ⟨A, c, t, h1, h2, ⟨by have := htz.1; omega, h6⟩, h4⟩⟩
      have HQ14 : Aside0 (∀ W (Az : Option Addr) (cz : Nat), KL.C W Az z.length z → z.length ≤ cz → Tab W → Calls Tryd.prog 14 #[.agg #[.int .i64 m, .slice Az z.length cz]] W fun e w' => e = .returned (.bool true) ∧ Below W.heap.size W w') := ⟨fun W Az cz h hc hT => p14 m Az cz z W [] hRz hL htz h hc hT⟩
      have HQ18 : Aside0 (∀ W (Az : Option Addr) (cz : Nat) (At : Option Addr) (ct : Nat) (t : List Int), KL.C W Az z.length z → z.length ≤ cz → KI.C W At t.length t → t.length ≤ ct → t.length ≤ 1000 ∧ refJ m z t = true → Calls Tryd.prog 18 #[.agg #[.int .i64 m, .slice Az z.length cz], .slice At t.length ct] W fun e w' => e = .returned (.bool true) ∧ Below W.heap.size W w') := ⟨fun W Az cz At ct t h1 h2 h3 h4 h5 => by
        have := joins_any m Az cz z W h1 h2 htz At ct t h3 h4 h5.1
        rw [joins_ref m z t hRz, h5.2] at this; exact this⟩
      clear hRz htz hL
      refine start_ (n := 11) (S := fun w' => True) (ds := []) #[false, false, false, false, false, false, false, false, false, false, false] (by kernel_rfl) rfl rfl trivial (fun hHeld => ?_)
      refine with_tabW whole.tab12 whole.bits12 (fun HT_ HW_ => ?_)
      refine pure_ (i := 0) (N := some 36) (v := ?_) (a' := ?_) #[true, false, false, false, false, false, false, false, false, false, false] rfl rfl (any_of HT_.out (by kernel_rfl)) (fun _ _ _ h => h) (Or.inl ⟨by rfl, ?_⟩) ?_ ?_
      rotate_left
      · intro w'
        go_simp
        with_reducible rfl
      rotate_left
      · simp only [Act.put, List.setIfInBounds_toArray, List.set_cons_zero, List.set_cons_succ, i64_w, i32_w]
        rfl
      refine pure_ (i := 2) (N := some 38) (v := ?_) (a' := ?_) #[true, false, true, false, false, false, false, false, false, false, false] rfl rfl (any_of HT_.out (by kernel_rfl)) (fun _ _ _ h => h) (Or.inl ⟨by rfl, ?_⟩) ?_ ?_
      rotate_left
      · intro w'
        go_simp
        with_reducible rfl
      rotate_left
      · simp only [Act.put, List.setIfInBounds_toArray, List.set_cons_zero, List.set_cons_succ, i64_w, i32_w]
        rfl
      refine pure_ (i := 5) (N := some 41) (v := ?_) (a' := ?_) #[true, false, true, false, false, true, false, false, false, false, false] rfl rfl (any_of HT_.out (by kernel_rfl)) (fun _ _ _ h => h) (Or.inl ⟨by rfl, ?_⟩) ?_ ?_
      rotate_left
      · intro w'
        go_simp
        with_reducible rfl
      rotate_left
      · simp only [Act.put, List.setIfInBounds_toArray, List.set_cons_zero, List.set_cons_succ, i64_w, i32_w]
        rfl
      refine inv_at [1, 3, 4, 6, 7, 8, 9, 10] (fun a0_ b a w' => ∃ (v40 : Value) (g42 : Nat) (A43 : Option Addr) (c43 : Nat) (g8 : Nat) (m6_ : Value) (m7_ : Value) (m8_ : Value) (m9_ : Value), a = putSel a0_ b [(1, 37, .int .i64 m), (3, 39, .slice Av y.length cv), (4, 40, v40), (6, 42, m6_), (7, 43, m7_), (8, 44, m8_), (9, 8, m9_)] ∧ (Below wr.heap.size wr w') ∧ (b 4 = true → b 7 = false → CopyAt w.heap.size wr v40 y w') ∧ (b 6 = true → b 7 = false → BlkAt wr g42 (.cells #[.slice Aa (rangeL m).length ca] 30 (0, 0)) w') ∧ (b 7 = true → CopyAt w.heap.size wr (.slice A43 z.length c43) z w') ∧ (b 9 = true → b 10 = false → BlkAt wr g8 (.cells #[.int .i64 0, .slice none 0 0] 24 (0, 0)) w') ∧ (b 10 = true → BlkAt wr g8 (.cells #[.int .i64 m, .slice A43 z.length c43] 24 (0, 0)) w') ∧ (b 6 = true → (m6_ : Value) = .slice (some ⟨g42, 0, none⟩) 1 1) ∧ (b 7 = true → (m7_ : Value) = .slice A43 z.length c43) ∧ (b 8 = true → (m8_ : Value) = .agg #[.int .i64 m, .slice A43 z.length c43]) ∧ (b 9 = true → (m9_ : Value) = .pointer (some ⟨g8, 0, none⟩))) HT_.out HW_.out (by kernel_rfl) (by kernel_rfl) ?_ ?_ ?_
      · exact ⟨.bool false, 0, none, 0, 0, .bool false, .bool false, .bool false, .bool false, by simp only [putSel, Bool.false_eq_true, if_false], F0.out, fun h_ => absurd h_ (by decide), fun h_ => absurd h_ (by decide), fun h_ => absurd h_ (by decide), fun h_ => absurd h_ (by decide), fun h_ => absurd h_ (by decide), fun h_ => absurd h_ (by decide), fun h_ => absurd h_ (by decide), fun h_ => absurd h_ (by decide), fun h_ => absurd h_ (by decide)⟩
      · skip
        clear F0
        refine steps_cons ?_ ?_
        · rintro b a w' ⟨v40, g42, A43, c43, g8, m6_, m7_, m8_, m9_, ha, Q_F0, Q_F2, Q_F3, Q_F4, Q_F5, Q_F6, Q_X6_, Q_X7_, Q_X8_, Q_X9_⟩ hb_ hon hoff
          refine ⟨_, rfl, fun K hK => ?_⟩
          have e36 : a.tmps[36]? = some (.pointer (some ⟨w4.heap.size, 0, none⟩)) := by rw [ha]; exact (putSel_off rfl).trans rfl
          replace ha := Aside0.mk ha
          have F0 := Aside0.mk Q_F0
          have hh := HH.out.below F0.out
          have hz0 : w'.cell? ⟨w4.heap.size, 0, none⟩ = some (.int .i64 m) := hh.z0
          clear hh
          refine value_ (w1 := w') (v := .int .i64 m) (by rfl) rfl ?_ ?_
          · go_simp
            (try simp only [i64_w])
            try rfl
          refine hK.out _ _ ⟨v40, g42, A43, c43, g8, m6_, m7_, m8_, m9_, (by rw [ha.out]; exact putSel_upk 0 hb_ rfl rfl rfl), Q_F0, Q_F2, Q_F3, Q_F4, Q_F5, fun h0_ => absurd ((hoff 10 (by kernel_rfl)).symm.trans h0_) (by decide), Q_X6_, Q_X7_, fun h0_ => absurd ((hoff 8 (by kernel_rfl)).symm.trans h0_) (by decide), Q_X9_⟩
        refine steps_cons ?_ ?_
        · rintro b a w' ⟨v40, g42, A43, c43, g8, m6_, m7_, m8_, m9_, ha, Q_F0, Q_F2, Q_F3, Q_F4, Q_F5, Q_F6, Q_X6_, Q_X7_, Q_X8_, Q_X9_⟩ hb_ hon hoff
          refine ⟨_, rfl, fun K hK => ?_⟩
          have e38 : a.tmps[38]? = some (.pointer (some ⟨w4.heap.size, 1, none⟩)) := by rw [ha]; exact (putSel_off rfl).trans rfl
          replace ha := Aside0.mk ha
          have F0 := Aside0.mk Q_F0
          have hh := HH.out.below F0.out
          have hz1 : w'.cell? ⟨w4.heap.size, 1, none⟩ = some (.slice Av y.length cv) := hh.z1
          clear hh
          refine value_ (w1 := w') (v := .slice Av y.length cv) (by rfl) rfl ?_ ?_
          · go_simp
            (try simp only [i64_w])
            try rfl
          refine hK.out _ _ ⟨v40, g42, A43, c43, g8, m6_, m7_, m8_, m9_, (by rw [ha.out]; exact putSel_upk 1 hb_ rfl rfl rfl), Q_F0, fun h0_ _ => absurd ((hoff 4 (by kernel_rfl)).symm.trans h0_) (by decide), Q_F3, fun h0_ => absurd ((hoff 7 (by kernel_rfl)).symm.trans h0_) (by decide), Q_F5, fun h0_ => absurd ((hoff 10 (by kernel_rfl)).symm.trans h0_) (by decide), Q_X6_, fun h0_ => absurd ((hoff 7 (by kernel_rfl)).symm.trans h0_) (by decide), fun h0_ => absurd ((hoff 8 (by kernel_rfl)).symm.trans h0_) (by decide), Q_X9_⟩
        refine steps_cons ?_ ?_
        · rintro b a w' ⟨v40, g42, A43, c43, g8, m6_, m7_, m8_, m9_, ha, Q_F0, Q_F2, Q_F3, Q_F4, Q_F5, Q_F6, Q_X6_, Q_X7_, Q_X8_, Q_X9_⟩ hb_ hon hoff
          refine ⟨_, rfl, fun K hK => ?_⟩
          have e39 : a.tmps[39]? = some (.slice Av y.length cv) := by rw [ha]; exact putSel_on (e := (3, 39, .slice Av y.length cv)) 1 rfl rfl (hon 3 (by kernel_rfl)) rfl
          replace ha := Aside0.mk ha
          have F0 := Aside0.mk Q_F0
          have hv := (HH.out.below F0.out).vr
          have hs := Nat.le_trans HH.out.held.bel.size F0.out.size
          refine goes_ Tryd.func20 (by kernel_rfl) rfl #[.slice Av y.length cv] (by rfl) rfl rfl (by first | (simp only [List.map_toArray, List.map_cons, List.map_nil, Act.eval, Array.getD_eq_getD_getElem?, Option.getD_some, e39]; done) | (simp only [List.map_toArray, List.map_cons, List.map_nil, Act.eval, Array.getD_eq_getD_getElem?, Option.getD_some, e39]; rfl)) ?_
          with_reducible refine (cloneL_any w.heap.size Av cv y _ hv hs hyl).mono ?_
          rintro e w6 ⟨vx, rfl, hx1, hx2, hb⟩
          refine ⟨_, rfl, ?_⟩
          have hx3 : ∀ k, vx.ownBlock = some k → wr.heap.size ≤ k := fun k hk => Nat.le_trans F0.out.size (hx2 k hk)
          refine hK.out _ _ ⟨vx, g42, A43, c43, g8, m6_, m7_, m8_, m9_, (by rw [ha.out]; exact putSel_upk 2 hb_ rfl rfl rfl), F0.out.trans (hb.mono F0.out.size), fun _ _ => ⟨hx1, hx3⟩, fun h0_ h1_ => (Q_F3 h0_ h1_).below hb, fun h0_ => absurd ((hoff 7 (by kernel_rfl)).symm.trans h0_) (by decide), fun h0_ h1_ => (Q_F5 h0_ h1_).below hb, fun h0_ => absurd ((hoff 10 (by kernel_rfl)).symm.trans h0_) (by decide), Q_X6_, fun h0_ => absurd ((hoff 7 (by kernel_rfl)).symm.trans h0_) (by decide), fun h0_ => absurd ((hoff 8 (by kernel_rfl)).symm.trans h0_) (by decide), Q_X9_⟩
        refine steps_cons ?_ ?_
        · rintro b a w' ⟨v40, g42, A43, c43, g8, m6_, m7_, m8_, m9_, ha, Q_F0, Q_F2, Q_F3, Q_F4, Q_F5, Q_F6, Q_X6_, Q_X7_, Q_X8_, Q_X9_⟩ hb_ hon hoff
          refine ⟨_, rfl, fun K hK => ?_⟩
          have e41 : a.tmps[41]? = some (.slice Aa (rangeL m).length ca) := by rw [ha]; exact (putSel_off rfl).trans rfl
          replace ha := Aside0.mk ha
          have F0 := Aside0.mk Q_F0
          refine value_ (w1 := ?_) (v := ?_) (by rfl) rfl ?_ ?_
          rotate_left 2
          · go_simp
            constructor
            · rfl
            · rfl
          refine hK.out _ _ ⟨v40, w'.heap.size, A43, c43, g8, (.slice (some ⟨w'.heap.size, 0, none⟩) 1 1), m7_, m8_, m9_, (by rw [ha.out]; exact putSel_upk 3 hb_ rfl rfl rfl), since_alloc F0.out _, fun h0_ h1_ => (Q_F2 h0_ h1_).below (alloc_below w' _), fun _ _ => BlkAt.new F0.out.size _, fun h0_ => absurd ((hoff 7 (by kernel_rfl)).symm.trans h0_) (by decide), fun h0_ h1_ => (Q_F5 h0_ h1_).below (alloc_below w' _), fun h0_ => absurd ((hoff 10 (by kernel_rfl)).symm.trans h0_) (by decide), fun _ => rfl, fun h0_ => absurd ((hoff 7 (by kernel_rfl)).symm.trans h0_) (by decide), fun h0_ => absurd ((hoff 8 (by kernel_rfl)).symm.trans h0_) (by decide), Q_X9_⟩
        refine steps_cons ?_ ?_
        · rintro b a w' ⟨v40, g42, A43, c43, g8, m6_, m7_, m8_, m9_, ha, Q_F0, Q_F2, Q_F3, Q_F4, Q_F5, Q_F6, Q_X6_, Q_X7_, Q_X8_, Q_X9_⟩ hb_ hon hoff
          refine ⟨_, rfl, fun K hK => ?_⟩
          have e40 : a.tmps[40]? = some (v40) := by rw [ha]; exact putSel_on (e := (4, 40, v40)) 2 rfl rfl (hon 4 (by kernel_rfl)) rfl
          have e42 : a.tmps[42]? = some (m6_) := by rw [ha]; exact putSel_on (e := (6, 42, m6_)) 3 rfl rfl (hon 6 (by kernel_rfl)) rfl
          rw [Q_X6_ (hon 6 (by kernel_rfl))] at e42
          replace ha := Aside0.mk ha
          have F0 := Aside0.mk Q_F0
          have F2 := Aside0.mk (Q_F2 (hon 4 (by kernel_rfl)) hb_)
          have F3 := Aside0.mk (Q_F3 (hon 6 (by kernel_rfl)) hb_)
          refine app_copy (Wr := wr) (B := w.heap.size) (by rfl) (.tmp 40) (.tmp 42) rfl (eval_of e40) (eval_of e42) F2.out F3.out HVA.out F0.out HBW.out hyl ?_
          intro v1 w1 h1 h2 h3
          rw [← HZ.out] at h1
          obtain ⟨A1, c1, hv1⟩ := Kd.R_slice h1.1
          subst hv1
          refine hK.out _ _ ⟨v40, g42, A1, c1, g8, m6_, (.slice A1 z.length c1), m8_, m9_, (by rw [ha.out]; exact putSel_upk 4 hb_ rfl rfl rfl), h2, fun _ h1_ => absurd ((up_self b 7).symm.trans h1_) (by decide), fun _ h1_ => absurd ((up_self b 7).symm.trans h1_) (by decide), fun _ => h1, fun h0_ h1_ => (Q_F5 h0_ h1_).grown F2.out h3, fun h0_ => absurd ((hoff 10 (by kernel_rfl)).symm.trans h0_) (by decide), Q_X6_, fun _ => rfl, fun h0_ => absurd ((hoff 8 (by kernel_rfl)).symm.trans h0_) (by decide), Q_X9_⟩
        refine steps_cons ?_ ?_
        · rintro b a w' ⟨v40, g42, A43, c43, g8, m6_, m7_, m8_, m9_, ha, Q_F0, Q_F2, Q_F3, Q_F4, Q_F5, Q_F6, Q_X6_, Q_X7_, Q_X8_, Q_X9_⟩ hb_ hon hoff
          refine ⟨_, rfl, fun K hK => ?_⟩
          have e37 : a.tmps[37]? = some (.int .i64 m) := by rw [ha]; exact putSel_on (e := (1, 37, .int .i64 m)) 0 rfl rfl (hon 1 (by kernel_rfl)) rfl
          have e43 : a.tmps[43]? = some (m7_) := by rw [ha]; exact putSel_on (e := (7, 43, m7_)) 4 rfl rfl (hon 7 (by kernel_rfl)) rfl
          rw [Q_X7_ (hon 7 (by kernel_rfl))] at e43
          replace ha := Aside0.mk ha
          have F0 := Aside0.mk Q_F0
          have F4 := Aside0.mk (Q_F4 (hon 7 (by kernel_rfl)))
          refine value_ (w1 := w') (v := .agg #[.int .i64 m, .slice A43 z.length c43]) (by rfl) rfl ?_ ?_
          · go_simp
            (try simp only [i64_w])
            try rfl
          refine hK.out _ _ ⟨v40, g42, A43, c43, g8, m6_, m7_, (.agg #[.int .i64 m, .slice A43 z.length c43]), m9_, (by rw [ha.out]; exact putSel_upk 5 hb_ rfl rfl rfl), Q_F0, fun _ h1_ => absurd ((hon 7 (by kernel_rfl)).symm.trans h1_) (by decide), fun _ h1_ => absurd ((hon 7 (by kernel_rfl)).symm.trans h1_) (by decide), Q_F4, Q_F5, fun h0_ => absurd ((hoff 10 (by kernel_rfl)).symm.trans h0_) (by decide), Q_X6_, Q_X7_, fun _ => rfl, Q_X9_⟩
        refine steps_cons ?_ ?_
        · rintro b a w' ⟨v40, g42, A43, c43, g8, m6_, m7_, m8_, m9_, ha, Q_F0, Q_F2, Q_F3, Q_F4, Q_F5, Q_F6, Q_X6_, Q_X7_, Q_X8_, Q_X9_⟩ hb_ hon hoff
          refine ⟨_, rfl, fun K hK => ?_⟩
          replace ha := Aside0.mk ha
          have F0 := Aside0.mk Q_F0
          refine value_ (w1 := ?_) (v := ?_) (by rfl) rfl ?_ ?_
          rotate_left 2
          · go_simp
            constructor
            · rfl
            · rfl
          refine hK.out _ _ ⟨v40, g42, A43, c43, w'.heap.size, m6_, m7_, m8_, (.pointer (some ⟨w'.heap.size, 0, none⟩)), (by rw [ha.out]; exact putSel_upk 6 hb_ rfl rfl rfl), since_alloc F0.out _, fun h0_ h1_ => (Q_F2 h0_ h1_).below (alloc_below w' _), fun h0_ h1_ => (Q_F3 h0_ h1_).below (alloc_below w' _), fun h0_ => (Q_F4 h0_).below (alloc_below w' _), fun _ _ => BlkAt.new F0.out.size _, fun h0_ => absurd ((hoff 10 (by kernel_rfl)).symm.trans h0_) (by decide), Q_X6_, Q_X7_, Q_X8_, fun _ => rfl⟩
        refine steps_cons ?_ ?_
        · rintro b a w' ⟨v40, g42, A43, c43, g8, m6_, m7_, m8_, m9_, ha, Q_F0, Q_F2, Q_F3, Q_F4, Q_F5, Q_F6, Q_X6_, Q_X7_, Q_X8_, Q_X9_⟩ hb_ hon hoff
          refine ⟨_, rfl, fun K hK => ?_⟩
          have e8 : a.tmps[8]? = some (m9_) := by rw [ha]; exact putSel_on (e := (9, 8, m9_)) 6 rfl rfl (hon 9 (by kernel_rfl)) rfl
          rw [Q_X9_ (hon 9 (by kernel_rfl))] at e8
          have e44 : a.tmps[44]? = some (m8_) := by rw [ha]; exact putSel_on (e := (8, 44, m8_)) 5 rfl rfl (hon 8 (by kernel_rfl)) rfl
          rw [Q_X8_ (hon 8 (by kernel_rfl))] at e44
          replace ha := Aside0.mk ha
          have F0 := Aside0.mk Q_F0
          have F4 := Aside0.mk (Q_F4 (hon 7 (by kernel_rfl)))
          have F5 := Aside0.mk (Q_F5 (hon 9 (by kernel_rfl)) hb_)
          have hk := F5.out
          have hq0 : w'.cell? ⟨g8, 0, none⟩ = some (.int .i64 0) := (blk_cell hk.1 0).trans rfl
          have hq1 : w'.cell? ⟨g8, 1, none⟩ = some (.slice none 0 0) := (blk_cell hk.1 1).trans rfl
          have hq2 : w'.frozen? ⟨g8, 0, none⟩ = false := blk_frozen hk.1 0
          have hq3 : w'.frozen? ⟨g8, 1, none⟩ = false := blk_frozen hk.1 1
          refine skip_ (w1 := ?_) (by rfl) rfl ?_ ?_
          rotate_left
          · go_simp
            rfl
          refine hK.out _ _ ⟨v40, g42, A43, c43, g8, m6_, m7_, m8_, m9_, (by rw [ha.out]; exact putSel_none (v := undef) rfl), since_stored2 F0.out hk _ _, fun _ h1_ => absurd ((hon 7 (by kernel_rfl)).symm.trans h1_) (by decide), fun _ h1_ => absurd ((hon 7 (by kernel_rfl)).symm.trans h1_) (by decide), fun _ => F4.out.stored hk (store2_grown _ _ _ _), fun _ h1_ => absurd ((up_self b 10).symm.trans h1_) (by decide), fun _ => hk.stored2 _ _, Q_X6_, Q_X7_, Q_X8_, Q_X9_⟩
        exact steps_nil
      · rintro b a w' hall ⟨v40, g42, A43, c43, g8, m6_, m7_, m8_, m9_, ha, Q_F0, Q_F2, Q_F3, Q_F4, Q_F5, Q_F6, Q_X6_, Q_X7_, Q_X8_, Q_X9_⟩
        clear F0
        have hb1_ := hall 1 (by kernel_rfl)
        have hb3_ := hall 3 (by kernel_rfl)
        have hb4_ := hall 4 (by kernel_rfl)
        have hb6_ := hall 6 (by kernel_rfl)
        have hb7_ := hall 7 (by kernel_rfl)
        have hb8_ := hall 8 (by kernel_rfl)
        have hb9_ := hall 9 (by kernel_rfl)
        have hb10_ := hall 10 (by kernel_rfl)
        subst ha
        obtain rfl := Q_X6_ hb6_
        obtain rfl := Q_X7_ hb7_
        obtain rfl := Q_X8_ hb8_
        obtain rfl := Q_X9_ hb9_
        simp only [putSel, hb1_, hb3_, hb4_, hb6_, hb7_, hb8_, hb9_, hb10_, if_true, Act.put, List.setIfInBounds_toArray, List.set_cons_zero, List.set_cons_succ]
        have F0 := Aside0.mk Q_F0
        clear Q_F0
        clear Q_F2
        clear Q_F3
        have F4 := Aside0.mk (Q_F4 hb7_)
        clear Q_F4
        clear Q_F5
        have F6 := Aside0.mk (Q_F6 hb10_)
        clear Q_F6
        clear hall hb1_ hb3_ hb4_ hb6_ hb7_ hb8_ hb9_ hb10_

        obtain ⟨Az, hAz⟩ : ∃ Az, Az = A43 := ⟨_, rfl⟩
        subst hAz
        obtain ⟨cz, hcz0⟩ : ∃ cz, cz = c43 := ⟨_, rfl⟩
        subst hcz0
        have hcz : z.length ≤ cz := (Kd.R_reads' F4.out.1).2.1
        have HZ2 : Aside0 (HeldZ w gb w4.heap.size g8 m A xs.length c Av cv y Az cz z w') := ⟨⟨HH.out.below F0.out, F6.out.1, (Kd.R_reads' F4.out.1).2.2⟩⟩
        clear F0 F4 F6 HH HVA HBW
        by_cases hN : y = []
        · subst hN
          have HP14 : Aside0 (∀ W (Av : Option Addr) (cv : Nat), KL.C W Av 0 [] → 0 ≤ cv → Tab W → Calls Tryd.prog 14 #[.agg #[.int .i64 m, .slice Av 0 cv]] W fun e w' => e = .returned (.bool true) ∧ Below W.heap.size W w') := ⟨fun W Av cv h hc hT => by
            obtain ⟨L, hL⟩ := left_ex (right_nice HW.out)
            obtain rfl := left_nil hL
            exact p14 m Av cv [] W [] HW.out hL HTY.out h hc hT⟩
          have hz0 : w'.cell? ⟨w4.heap.size, 0, none⟩ = some (.int .i64 m) := HZ2.out.held.z0; have hz1 : w'.cell? ⟨w4.heap.size, 1, none⟩ = some (.slice Av 0 cv) := HZ2.out.held.z1; have hk0 : w'.cell? ⟨g8, 0, none⟩ = some (.int .i64 m) := HZ2.out.k0; have hk1 : w'.cell? ⟨g8, 1, none⟩ = some (.slice Az z.length cz) := HZ2.out.k1
          go_wp2_with (first
          | (go_at_call 15; (with_reducible refine (HQ15.out _ Az cz HZ2.out.zc hcz).mono ?_); rintro e w8 ⟨At, ct, t, rfl, ht, htj, hb⟩; have HTR := Aside0.mk ht; clear hz0 hz1 hk0 hk1; replace HZ2 := Aside0.mk (HZ2.out.below hb); have hz0 : w8.cell? ⟨w4.heap.size, 0, none⟩ = some (.int .i64 m) := HZ2.out.held.z0; have hz1 : w8.cell? ⟨w4.heap.size, 1, none⟩ = some (.slice Av 0 cv) := HZ2.out.held.z1; have hk0 : w8.cell? ⟨g8, 0, none⟩ = some (.int .i64 m) := HZ2.out.k0; have hk1 : w8.cell? ⟨g8, 1, none⟩ = some (.slice Az z.length cz) := HZ2.out.k1; clear hb ht)
          | (go_at_call 14; (with_reducible refine (HQ14.out _ Az cz HZ2.out.zc hcz HZ2.out.held.held.tab).mono ?_); rintro e w9 ⟨rfl, hb⟩; replace HTR := Aside0.mk (Kd.R_below HTR.out hb); clear hz0 hz1 hk0 hk1; replace HZ2 := Aside0.mk (HZ2.out.below hb); have hz0 : w9.cell? ⟨w4.heap.size, 0, none⟩ = some (.int .i64 m) := HZ2.out.held.z0; have hz1 : w9.cell? ⟨w4.heap.size, 1, none⟩ = some (.slice Av 0 cv) := HZ2.out.held.z1; have hk0 : w9.cell? ⟨g8, 0, none⟩ = some (.int .i64 m) := HZ2.out.k0; have hk1 : w9.cell? ⟨g8, 1, none⟩ = some (.slice Az z.length cz) := HZ2.out.k1; clear hb)
          | (go_at_call 18; (with_reducible refine (HQ18.out _ Az cz At ct t HZ2.out.zc hcz (Kd.R_reads' HTR.out).2.2 (Kd.R_reads' HTR.out).2.1 htj.out).mono ?_); rintro e w10 ⟨rfl, hb⟩; clear hz0 hz1 hk0 hk1; replace HZ2 := Aside0.mk (HZ2.out.below hb); have hz0 : w10.cell? ⟨w4.heap.size, 0, none⟩ = some (.int .i64 m) := HZ2.out.held.z0; have hz1 : w10.cell? ⟨w4.heap.size, 1, none⟩ = some (.slice Av 0 cv) := HZ2.out.held.z1; have hk0 : w10.cell? ⟨g8, 0, none⟩ = some (.int .i64 m) := HZ2.out.k0; have hk1 : w10.cell? ⟨g8, 1, none⟩ = some (.slice Az z.length cz) := HZ2.out.k1; clear hb HTR)
            | (go_at_call 14; (with_reducible refine (HP14.out _ Av cv HZ2.out.held.rd (Nat.zero_le _) HZ2.out.held.held.tab).mono ?_); rintro e w9 ⟨rfl, hb⟩; clear hz0 hz1 hk0 hk1; replace HZ2 := Aside0.mk (HZ2.out.below hb); have hz0 : w9.cell? ⟨w4.heap.size, 0, none⟩ = some (.int .i64 m) := HZ2.out.held.z0; have hz1 : w9.cell? ⟨w4.heap.size, 1, none⟩ = some (.slice Av 0 cv) := HZ2.out.held.z1; have hk0 : w9.cell? ⟨g8, 0, none⟩ = some (.int .i64 m) := HZ2.out.k0; have hk1 : w9.cell? ⟨g8, 1, none⟩ = some (.slice Az z.length cz) := HZ2.out.k1; clear hb))
          go_ret
          exact ⟨rfl, HZ2.out.held.held.bel⟩
        · have hl1 : ((y.length : Int) == 0) = false := by
            cases hy0 : y with
            | nil => exact absurd hy0 hN
            | cons a l => rw [beq_eq_false_iff_ne]; simp; omega
          have HN := Aside0.mk hN
          clear hN
          have hz0 : w'.cell? ⟨w4.heap.size, 0, none⟩ = some (.int .i64 m) := HZ2.out.held.z0; have hz1 : w'.cell? ⟨w4.heap.size, 1, none⟩ = some (.slice Av y.length cv) := HZ2.out.held.z1; have hk0 : w'.cell? ⟨g8, 0, none⟩ = some (.int .i64 m) := HZ2.out.k0; have hk1 : w'.cell? ⟨g8, 1, none⟩ = some (.slice Az z.length cz) := HZ2.out.k1
          go_wp2_with (first
          | (go_at_call 15; (with_reducible refine (HQ15.out _ Az cz HZ2.out.zc hcz).mono ?_); rintro e w8 ⟨At, ct, t, rfl, ht, htj, hb⟩; have HTR := Aside0.mk ht; clear hz0 hz1 hk0 hk1; replace HZ2 := Aside0.mk (HZ2.out.below hb); have hz0 : w8.cell? ⟨w4.heap.size, 0, none⟩ = some (.int .i64 m) := HZ2.out.held.z0; have hz1 : w8.cell? ⟨w4.heap.size, 1, none⟩ = some (.slice Av y.length cv) := HZ2.out.held.z1; have hk0 : w8.cell? ⟨g8, 0, none⟩ = some (.int .i64 m) := HZ2.out.k0; have hk1 : w8.cell? ⟨g8, 1, none⟩ = some (.slice Az z.length cz) := HZ2.out.k1; clear hb ht)
          | (go_at_call 14; (with_reducible refine (HQ14.out _ Az cz HZ2.out.zc hcz HZ2.out.held.held.tab).mono ?_); rintro e w9 ⟨rfl, hb⟩; replace HTR := Aside0.mk (Kd.R_below HTR.out hb); clear hz0 hz1 hk0 hk1; replace HZ2 := Aside0.mk (HZ2.out.below hb); have hz0 : w9.cell? ⟨w4.heap.size, 0, none⟩ = some (.int .i64 m) := HZ2.out.held.z0; have hz1 : w9.cell? ⟨w4.heap.size, 1, none⟩ = some (.slice Av y.length cv) := HZ2.out.held.z1; have hk0 : w9.cell? ⟨g8, 0, none⟩ = some (.int .i64 m) := HZ2.out.k0; have hk1 : w9.cell? ⟨g8, 1, none⟩ = some (.slice Az z.length cz) := HZ2.out.k1; clear hb)
          | (go_at_call 18; (with_reducible refine (HQ18.out _ Az cz At ct t HZ2.out.zc hcz (Kd.R_reads' HTR.out).2.2 (Kd.R_reads' HTR.out).2.1 htj.out).mono ?_); rintro e w10 ⟨rfl, hb⟩; clear hz0 hz1 hk0 hk1; replace HZ2 := Aside0.mk (HZ2.out.below hb); have hz0 : w10.cell? ⟨w4.heap.size, 0, none⟩ = some (.int .i64 m) := HZ2.out.held.z0; have hz1 : w10.cell? ⟨w4.heap.size, 1, none⟩ = some (.slice Av y.length cv) := HZ2.out.held.z1; have hk0 : w10.cell? ⟨g8, 0, none⟩ = some (.int .i64 m) := HZ2.out.k0; have hk1 : w10.cell? ⟨g8, 1, none⟩ = some (.slice Az z.length cz) := HZ2.out.k1; clear hb HTR))
          have HD := Aside0.mk HZ2.out.drew
          have hnn : ¬ y = [] := HN.out
          obtain ⟨a, k, ha, hky, hmod, hwl, hwk, hk1', hk2', hn0⟩ := mod_facts at_ y.length (fun h => hnn (List.length_eq_zero_iff.1 h)) hyl
          obtain ⟨ad, A0, c0, hA, hx, hxr⟩ := at_made HZ2.out.held.vr k hky
          subst hA
          obtain ⟨e0, he0⟩ : ∃ e0, e0 = rdL y k := ⟨_, rfl⟩
          rw [← he0] at hx hxr
          have hel : e0.length ≤ 1000 := by rw [he0, rdL_at y k hky]; exact HTY.out.2 _ (List.getElem_mem hky)
          have hmem : e0 ∈ y := by rw [he0, rdL_at y k hky]; exact List.getElem_mem hky
          have HMEM := Aside0.mk hmem
          clear he0 hmem
          go_region_held3 (fun W => W.cell? ⟨w4.heap.size, 1, none⟩ = some (.slice (some ad) y.length cv) ∧ W.cell? (ad.add k) = some (.slice A0 e0.length c0)) (first | exact ⟨HZ2.out.held.z1, hx⟩ | exact ⟨HD.out.held.z1, hx⟩) (fail)
          clear hmod hwl hwk hn0 hnn hk1' hk2' ha hx hz0 hz1 hk0 hk1
          go_wp2
          obtain ⟨j, hj⟩ : ∃ j, j = e0.length / 2 := ⟨_, rfl⟩
          have hje : j ≤ e0.length := half_le _ _ hj
          have hec : e0.length ≤ c0 := (Kd.R_reads' hxr).2.1
          have HVB : Aside0 (KI.R 3 w10.drew w.heap.size anyK (.slice A0 j c0) (e0.take j)) := ⟨Kd.R_drew (R_takeI hxr rfl hje)⟩
          obtain ⟨hdv1, hdv2⟩ := half_eq e0.length j hj
          have hwj := wrap64_small j e0.length hje hel
          obtain ⟨i3, hi3, _, _, _⟩ := info_parts info3
          have hcut := cut_to (P := Tryd.prog) 30 3 .i64 Tryd.underlying30 hi3 A0 e0.length c0 (j : Int) (Int.natCast_nonneg j) (Int.ofNat_le.2 hje) hec
          simp only [Int.toNat_natCast] at hcut
          obtain ⟨z2, hz2⟩ : ∃ z2, z2 = y ++ [e0.take j] := ⟨_, rfl⟩
          have HZ9 := Aside0.mk hz2
          have HBW := Aside0.mk HD.out.held.held.bel.size
          have F0 := Aside0.mk (Below.refl w10.drew.heap.size w10.drew).drew
          have hRz2 : rightB m z2 = true := hz2 ▸ right_snoc HW.out HF.out (edge_take (right_edge HW.out HMEM.out) j)
          have htz2 : tame z2 := hz2 ▸ tame_snoc HTY.out HF.out (take_short j hel)
          obtain ⟨L, hL2⟩ := left_ex (right_nice hRz2)
          have hLy : LeftIs y L := left_more HMEM.out (fun v hv => List.mem_of_mem_take hv) (hz2 ▸ hL2)
          have hPy : partsL m z2 = partsL m y := hz2 ▸ parts_more HW.out (hz2 ▸ hRz2) HMEM.out (fun v hv => List.mem_of_mem_take hv)
          obtain ⟨P, hP⟩ : ∃ P, P = partsL m y := ⟨_, rfl⟩
          have htP : tame P := hP ▸ partsL_tame
          have HQ13 : Aside0 (∀ W (Az : Option Addr) (cz : Nat), KL.C W Az z2.length z2 → z2.length ≤ cz → Tab W → Calls Tryd.prog 13 #[.agg #[.int .i64 m, .slice Az z2.length cz]] W fun e w' => ∃ A c, e = .returned (.slice A L.length c) ∧ L.length ≤ c ∧ KL.C w' A L.length L ∧ Below W.heap.size W w' ∧ Aside0 (tame L)) := ⟨fun W Az cz h hc hT => by
            refine (p13 m Az cz z2 W L hRz2 hL2 htz2 h hc hT).mono ?_
            rintro e w' ⟨⟨A, c, h1, h2, h3⟩, h5, h4⟩
            exact ⟨A, c, h1, h2, h3, h4, ⟨h5⟩⟩⟩
          have HP13 : Aside0 (∀ W (Av : Option Addr) (cv : Nat), KL.C W Av y.length y → y.length ≤ cv → Tab W → Calls Tryd.prog 13 #[.agg #[.int .i64 m, .slice Av y.length cv]] W fun e w' => ∃ A c, e = .returned (.slice A L.length c) ∧ L.length ≤ c ∧ KL.C w' A L.length L ∧ Below W.heap.size W w' ∧ Aside0 (tame L)) := ⟨fun W Av cv h hc hT => by
            refine (p13 m Av cv y W L HW.out hLy HTY.out h hc hT).mono ?_
            rintro e w' ⟨⟨A, c, h1, h2, h3⟩, h5, h4⟩
            exact ⟨A, c, h1, h2, h3, h4, ⟨h5⟩⟩⟩
          have HSL : Aside0 (∀ W (A : Option Addr) (c : Nat) (A' : Option Addr) (c' : Nat), tame L → KL.C W A L.length L → L.length ≤ c → KL.C W A' L.length L → L.length ≤ c' → Calls Tryd.prog 11 #[.slice A L.length c, .slice A' L.length c'] W fun e w' => e = .returned (.bool true) ∧ Below W.heap.size W w') := ⟨fun W A c A' c' h0 h1 h2 h3 h4 => by
            have := same_any A c L A' c' L W h1 h2 h3 h4 h0
            rw [beq_self_eq_true] at this; exact this⟩
          have HQ12 : Aside0 (∀ W (Az : Option Addr) (cz : Nat), KL.C W Az z2.length z2 → z2.length ≤ cz → Tab W → Calls Tryd.prog 12 #[.agg #[.int .i64 m, .slice Az z2.length cz]] W fun e w' => ∃ A c, e = .returned (.slice A P.length c) ∧ P.length ≤ c ∧ KL.C w' A P.length P ∧ Below W.heap.size W w') := ⟨fun W Az cz h hc hT => by
            refine (p12 m Az cz z2 W htz2 h hc hT).mono ?_
            rintro e w' ⟨⟨A, c, h1, h2, h3⟩, h4⟩
            rw [hPy, ← hP] at h1 h2 h3
            exact ⟨A, c, h1, h2, h3, h4⟩⟩
          have HP12 : Aside0 (∀ W (Av : Option Addr) (cv : Nat), KL.C W Av y.length y → y.length ≤ cv → Tab W → Calls Tryd.prog 12 #[.agg #[.int .i64 m, .slice Av y.length cv]] W fun e w' => ∃ A c, e = .returned (.slice A P.length c) ∧ P.length ≤ c ∧ KL.C w' A P.length P ∧ Below W.heap.size W w') := ⟨fun W Av cv h hc hT => by
            refine (p12 m Av cv y W HTY.out h hc hT).mono ?_
            rintro e w' ⟨⟨A, c, h1, h2, h3⟩, h4⟩
            rw [hP]; exact ⟨A, c, h1, h2, h3, h4⟩⟩
          have HSP : Aside0 (∀ W (A : Option Addr) (c : Nat) (A' : Option Addr) (c' : Nat), KL.C W A P.length P → P.length ≤ c → KL.C W A' P.length P → P.length ≤ c' → Calls Tryd.prog 11 #[.slice A P.length c, .slice A' P.length c'] W fun e w' => e = .returned (.bool true) ∧ Below W.heap.size W w') := ⟨fun W A c A' c' h1 h2 h3 h4 => by
            have := same_any A c P A' c' P W h1 h2 h3 h4 htP
            rw [beq_self_eq_true] at this; exact this⟩
          clear hj hz2 hxr hRz2 htz2 hL2 hLy hPy hP htP
          refine start_ (n := 15) (S := fun w' => True) (ds := []) #[false, false, false, false, false, false, false, false, false, false, false, false, false, false, false] (by kernel_rfl) rfl rfl trivial (fun hHeld => ?_)
          refine with_tabW whole.tab19 whole.bits19 (fun HT_ HW_ => ?_)
          refine pure_ (i := 0) (N := some 81) (v := ?_) (a' := ?_) #[true, false, false, false, false, false, false, false, false, false, false, false, false, false, false] rfl rfl (any_of HT_.out (by kernel_rfl)) (fun _ _ _ h => h) (Or.inl ⟨by rfl, ?_⟩) ?_ ?_
          rotate_left
          · intro w'
            go_simp
            with_reducible rfl
          rotate_left
          · simp only [Act.put, List.setIfInBounds_toArray, List.set_cons_zero, List.set_cons_succ, i64_w, i32_w]
            rfl
          refine pure_ (i := 2) (N := some 83) (v := ?_) (a' := ?_) #[true, false, true, false, false, false, false, false, false, false, false, false, false, false, false] rfl rfl (any_of HT_.out (by kernel_rfl)) (fun _ _ _ h => h) (Or.inl ⟨by rfl, ?_⟩) ?_ ?_
          rotate_left
          · intro w'
            go_simp
            with_reducible rfl
          rotate_left
          · simp only [Act.put, List.setIfInBounds_toArray, List.set_cons_zero, List.set_cons_succ, i64_w, i32_w]
            rfl
          refine pure_ (i := 5) (N := some 86) (v := ?_) (a' := ?_) #[true, false, true, false, false, true, false, false, false, false, false, false, false, false, false] rfl rfl (any_of HT_.out (by kernel_rfl)) (fun _ _ _ h => h) (Or.inl ⟨by rfl, ?_⟩) ?_ ?_
          rotate_left
          · intro w'
            go_simp
            with_reducible rfl
          rotate_left
          · simp only [Act.put, List.setIfInBounds_toArray, List.set_cons_zero, List.set_cons_succ, i64_w, i32_w]
            rfl
          refine pure_ (i := 6) (N := some 87) (v := ?_) (a' := ?_) #[true, false, true, false, false, true, true, false, false, false, false, false, false, false, false] rfl rfl (any_of HT_.out (by kernel_rfl)) (fun _ _ _ h => h) (Or.inl ⟨by rfl, ?_⟩) ?_ ?_
          rotate_left
          · intro w'
            go_simp
            with_reducible rfl
          rotate_left
          · simp only [Act.put, List.setIfInBounds_toArray, List.set_cons_zero, List.set_cons_succ, i64_w, i32_w]
            rfl
          refine pure_ (i := 7) (N := some 88) (v := ?_) (a' := ?_) #[true, false, true, false, false, true, true, true, false, false, false, false, false, false, false] rfl rfl (any_of HT_.out (by kernel_rfl)) (fun _ _ _ h => h) (Or.inl ⟨by rfl, ?_⟩) ?_ ?_
          rotate_left
          · intro w'
            go_simp
            with_reducible rfl
          rotate_left
          · simp only [Act.put, List.setIfInBounds_toArray, List.set_cons_zero, List.set_cons_succ, i64_w, i32_w]
            rfl
          refine pure_ (i := 8) (N := some 89) (v := ?_) (a' := ?_) #[true, false, true, false, false, true, true, true, true, false, false, false, false, false, false] rfl rfl (any_of HT_.out (by kernel_rfl)) (fun _ _ _ h => h) (Or.inl ⟨by rfl, ?_⟩) ?_ ?_
          rotate_left
          · intro w'
            go_simp
            with_reducible rfl
          rotate_left
          · simp only [Act.put, List.setIfInBounds_toArray, List.set_cons_zero, List.set_cons_succ, i64_w, i32_w]
            rfl
          refine pure_ (i := 9) (N := some 90) (v := ?_) (a' := ?_) #[true, false, true, false, false, true, true, true, true, true, false, false, false, false, false] rfl rfl (any_of HT_.out (by kernel_rfl)) (fun _ _ _ h => h) (Or.inl ⟨by rfl, ?_⟩) ?_ ?_
          rotate_left
          · intro w'
            go_simp
            with_reducible rfl
          rotate_left
          · simp only [Act.put, List.setIfInBounds_toArray, List.set_cons_zero, List.set_cons_succ, i64_w, i32_w]
            rfl
          refine inv_at [1, 3, 4, 10, 11, 12, 13, 14] (fun a0_ b a w' => ∃ (v40 : Value) (g42 : Nat) (A92 : Option Addr) (c92 : Nat) (g12 : Nat) (m10_ : Value) (m11_ : Value) (m12_ : Value) (m13_ : Value), a = putSel a0_ b [(1, 82, .int .i64 m), (3, 84, .slice (some ad) y.length cv), (4, 85, v40), (10, 91, m10_), (11, 92, m11_), (12, 93, m12_), (13, 12, m13_)] ∧ (Below w10.drew.heap.size w10.drew w') ∧ (b 4 = true → b 11 = false → CopyAt w.heap.size w10.drew v40 y w') ∧ (b 10 = true → b 11 = false → BlkAt w10.drew g42 (.cells #[.slice A0 j c0] 30 (0, 0)) w') ∧ (b 11 = true → CopyAt w.heap.size w10.drew (.slice A92 z2.length c92) z2 w') ∧ (b 13 = true → b 14 = false → BlkAt w10.drew g12 (.cells #[.int .i64 0, .slice none 0 0] 24 (0, 0)) w') ∧ (b 14 = true → BlkAt w10.drew g12 (.cells #[.int .i64 m, .slice A92 z2.length c92] 24 (0, 0)) w') ∧ (b 10 = true → (m10_ : Value) = .slice (some ⟨g42, 0, none⟩) 1 1) ∧ (b 11 = true → (m11_ : Value) = .slice A92 z2.length c92) ∧ (b 12 = true → (m12_ : Value) = .agg #[.int .i64 m, .slice A92 z2.length c92]) ∧ (b 13 = true → (m13_ : Value) = .pointer (some ⟨g12, 0, none⟩))) HT_.out HW_.out (by kernel_rfl) (by kernel_rfl) ?_ ?_ ?_
          · exact ⟨.bool false, 0, none, 0, 0, .bool false, .bool false, .bool false, .bool false, by simp only [putSel, Bool.false_eq_true, if_false], F0.out, fun h_ => absurd h_ (by decide), fun h_ => absurd h_ (by decide), fun h_ => absurd h_ (by decide), fun h_ => absurd h_ (by decide), fun h_ => absurd h_ (by decide), fun h_ => absurd h_ (by decide), fun h_ => absurd h_ (by decide), fun h_ => absurd h_ (by decide), fun h_ => absurd h_ (by decide)⟩
          · skip
            clear F0
            refine steps_cons ?_ ?_
            · rintro b a w' ⟨v40, g42, A92, c92, g12, m10_, m11_, m12_, m13_, ha, Q_F0, Q_F2, Q_F3, Q_F4, Q_F5, Q_F6, Q_X10_, Q_X11_, Q_X12_, Q_X13_⟩ hb_ hon hoff
              refine ⟨_, rfl, fun K hK => ?_⟩
              have e81 : a.tmps[81]? = some (.pointer (some ⟨w4.heap.size, 0, none⟩)) := by rw [ha]; exact (putSel_off rfl).trans rfl
              replace ha := Aside0.mk ha
              have F0 := Aside0.mk Q_F0
              have hh := HD.out.held.below F0.out
              have hz0 : w'.cell? ⟨w4.heap.size, 0, none⟩ = some (.int .i64 m) := hh.z0
              clear hh
              refine value_ (w1 := w') (v := .int .i64 m) (by rfl) rfl ?_ ?_
              · go_simp
                (try simp only [i64_w])
                try rfl
              refine hK.out _ _ ⟨v40, g42, A92, c92, g12, m10_, m11_, m12_, m13_, (by rw [ha.out]; exact putSel_upk 0 hb_ rfl rfl rfl), Q_F0, Q_F2, Q_F3, Q_F4, Q_F5, fun h0_ => absurd ((hoff 14 (by kernel_rfl)).symm.trans h0_) (by decide), Q_X10_, Q_X11_, fun h0_ => absurd ((hoff 12 (by kernel_rfl)).symm.trans h0_) (by decide), Q_X13_⟩
            refine steps_cons ?_ ?_
            · rintro b a w' ⟨v40, g42, A92, c92, g12, m10_, m11_, m12_, m13_, ha, Q_F0, Q_F2, Q_F3, Q_F4, Q_F5, Q_F6, Q_X10_, Q_X11_, Q_X12_, Q_X13_⟩ hb_ hon hoff
              refine ⟨_, rfl, fun K hK => ?_⟩
              have e83 : a.tmps[83]? = some (.pointer (some ⟨w4.heap.size, 1, none⟩)) := by rw [ha]; exact (putSel_off rfl).trans rfl
              replace ha := Aside0.mk ha
              have F0 := Aside0.mk Q_F0
              have hh := HD.out.held.below F0.out
              have hz1 : w'.cell? ⟨w4.heap.size, 1, none⟩ = some (.slice (some ad) y.length cv) := hh.z1
              clear hh
              refine value_ (w1 := w') (v := .slice (some ad) y.length cv) (by rfl) rfl ?_ ?_
              · go_simp
                (try simp only [i64_w])
                try rfl
              refine hK.out _ _ ⟨v40, g42, A92, c92, g12, m10_, m11_, m12_, m13_, (by rw [ha.out]; exact putSel_upk 1 hb_ rfl rfl rfl), Q_F0, fun h0_ _ => absurd ((hoff 4 (by kernel_rfl)).symm.trans h0_) (by decide), Q_F3, fun h0_ => absurd ((hoff 11 (by kernel_rfl)).symm.trans h0_) (by decide), Q_F5, fun h0_ => absurd ((hoff 14 (by kernel_rfl)).symm.trans h0_) (by decide), Q_X10_, fun h0_ => absurd ((hoff 11 (by kernel_rfl)).symm.trans h0_) (by decide), fun h0_ => absurd ((hoff 12 (by kernel_rfl)).symm.trans h0_) (by decide), Q_X13_⟩
            refine steps_cons ?_ ?_
            · rintro b a w' ⟨v40, g42, A92, c92, g12, m10_, m11_, m12_, m13_, ha, Q_F0, Q_F2, Q_F3, Q_F4, Q_F5, Q_F6, Q_X10_, Q_X11_, Q_X12_, Q_X13_⟩ hb_ hon hoff
              refine ⟨_, rfl, fun K hK => ?_⟩
              have e84 : a.tmps[84]? = some (.slice (some ad) y.length cv) := by rw [ha]; exact putSel_on (e := (3, 84, .slice (some ad) y.length cv)) 1 rfl rfl (hon 3 (by kernel_rfl)) rfl
              replace ha := Aside0.mk ha
              have F0 := Aside0.mk Q_F0
              have hv := (HD.out.held.below F0.out).vr
              have hs := Nat.le_trans HD.out.held.held.bel.size F0.out.size
              refine goes_ Tryd.func20 (by kernel_rfl) rfl #[.slice (some ad) y.length cv] (by rfl) rfl rfl (by first | (simp only [List.map_toArray, List.map_cons, List.map_nil, Act.eval, Array.getD_eq_getD_getElem?, Option.getD_some, e84]; done) | (simp only [List.map_toArray, List.map_cons, List.map_nil, Act.eval, Array.getD_eq_getD_getElem?, Option.getD_some, e84]; rfl)) ?_
              with_reducible refine (cloneL_any w.heap.size (some ad) cv y _ hv hs hyl).mono ?_
              rintro e w6 ⟨vx, rfl, hx1, hx2, hb⟩
              refine ⟨_, rfl, ?_⟩
              have hx3 : ∀ k, vx.ownBlock = some k → w10.drew.heap.size ≤ k := fun k hk => Nat.le_trans F0.out.size (hx2 k hk)
              refine hK.out _ _ ⟨vx, g42, A92, c92, g12, m10_, m11_, m12_, m13_, (by rw [ha.out]; exact putSel_upk 2 hb_ rfl rfl rfl), F0.out.trans (hb.mono F0.out.size), fun _ _ => ⟨hx1, hx3⟩, fun h0_ h1_ => (Q_F3 h0_ h1_).below hb, fun h0_ => absurd ((hoff 11 (by kernel_rfl)).symm.trans h0_) (by decide), fun h0_ h1_ => (Q_F5 h0_ h1_).below hb, fun h0_ => absurd ((hoff 14 (by kernel_rfl)).symm.trans h0_) (by decide), Q_X10_, fun h0_ => absurd ((hoff 11 (by kernel_rfl)).symm.trans h0_) (by decide), fun h0_ => absurd ((hoff 12 (by kernel_rfl)).symm.trans h0_) (by decide), Q_X13_⟩
            refine steps_cons ?_ ?_
            · rintro b a w' ⟨v40, g42, A92, c92, g12, m10_, m11_, m12_, m13_, ha, Q_F0, Q_F2, Q_F3, Q_F4, Q_F5, Q_F6, Q_X10_, Q_X11_, Q_X12_, Q_X13_⟩ hb_ hon hoff
              refine ⟨_, rfl, fun K hK => ?_⟩
              have e90 : a.tmps[90]? = some (.slice A0 j c0) := by rw [ha]; exact (putSel_off rfl).trans rfl
              replace ha := Aside0.mk ha
              have F0 := Aside0.mk Q_F0
              refine value_ (w1 := ?_) (v := ?_) (by rfl) rfl ?_ ?_
              rotate_left 2
              · go_simp
                constructor
                · rfl
                · rfl
              refine hK.out _ _ ⟨v40, w'.heap.size, A92, c92, g12, (.slice (some ⟨w'.heap.size, 0, none⟩) 1 1), m11_, m12_, m13_, (by rw [ha.out]; exact putSel_upk 3 hb_ rfl rfl rfl), since_alloc F0.out _, fun h0_ h1_ => (Q_F2 h0_ h1_).below (alloc_below w' _), fun _ _ => BlkAt.new F0.out.size _, fun h0_ => absurd ((hoff 11 (by kernel_rfl)).symm.trans h0_) (by decide), fun h0_ h1_ => (Q_F5 h0_ h1_).below (alloc_below w' _), fun h0_ => absurd ((hoff 14 (by kernel_rfl)).symm.trans h0_) (by decide), fun _ => rfl, fun h0_ => absurd ((hoff 11 (by kernel_rfl)).symm.trans h0_) (by decide), fun h0_ => absurd ((hoff 12 (by kernel_rfl)).symm.trans h0_) (by decide), Q_X13_⟩
            refine steps_cons ?_ ?_
            · rintro b a w' ⟨v40, g42, A92, c92, g12, m10_, m11_, m12_, m13_, ha, Q_F0, Q_F2, Q_F3, Q_F4, Q_F5, Q_F6, Q_X10_, Q_X11_, Q_X12_, Q_X13_⟩ hb_ hon hoff
              refine ⟨_, rfl, fun K hK => ?_⟩
              have e85 : a.tmps[85]? = some (v40) := by rw [ha]; exact putSel_on (e := (4, 85, v40)) 2 rfl rfl (hon 4 (by kernel_rfl)) rfl
              have e91 : a.tmps[91]? = some (m10_) := by rw [ha]; exact putSel_on (e := (10, 91, m10_)) 3 rfl rfl (hon 10 (by kernel_rfl)) rfl
              rw [Q_X10_ (hon 10 (by kernel_rfl))] at e91
              replace ha := Aside0.mk ha
              have F0 := Aside0.mk Q_F0
              have F2 := Aside0.mk (Q_F2 (hon 4 (by kernel_rfl)) hb_)
              have F3 := Aside0.mk (Q_F3 (hon 10 (by kernel_rfl)) hb_)
              refine app_copy (Wr := w10.drew) (B := w.heap.size) (by rfl) (.tmp 85) (.tmp 91) rfl (eval_of e85) (eval_of e91) F2.out F3.out HVB.out F0.out HBW.out hyl ?_
              intro v1 w1 h1 h2 h3
              rw [← HZ9.out] at h1
              obtain ⟨A1, c1, hv1⟩ := Kd.R_slice h1.1
              subst hv1
              refine hK.out _ _ ⟨v40, g42, A1, c1, g12, m10_, (.slice A1 z2.length c1), m12_, m13_, (by rw [ha.out]; exact putSel_upk 4 hb_ rfl rfl rfl), h2, fun _ h1_ => absurd ((up_self b 11).symm.trans h1_) (by decide), fun _ h1_ => absurd ((up_self b 11).symm.trans h1_) (by decide), fun _ => h1, fun h0_ h1_ => (Q_F5 h0_ h1_).grown F2.out h3, fun h0_ => absurd ((hoff 14 (by kernel_rfl)).symm.trans h0_) (by decide), Q_X10_, fun _ => rfl, fun h0_ => absurd ((hoff 12 (by kernel_rfl)).symm.trans h0_) (by decide), Q_X13_⟩
            refine steps_cons ?_ ?_
            · rintro b a w' ⟨v40, g42, A92, c92, g12, m10_, m11_, m12_, m13_, ha, Q_F0, Q_F2, Q_F3, Q_F4, Q_F5, Q_F6, Q_X10_, Q_X11_, Q_X12_, Q_X13_⟩ hb_ hon hoff
              refine ⟨_, rfl, fun K hK => ?_⟩
              have e82 : a.tmps[82]? = some (.int .i64 m) := by rw [ha]; exact putSel_on (e := (1, 82, .int .i64 m)) 0 rfl rfl (hon 1 (by kernel_rfl)) rfl
              have e92 : a.tmps[92]? = some (m11_) := by rw [ha]; exact putSel_on (e := (11, 92, m11_)) 4 rfl rfl (hon 11 (by kernel_rfl)) rfl
              rw [Q_X11_ (hon 11 (by kernel_rfl))] at e92
              replace ha := Aside0.mk ha
              have F0 := Aside0.mk Q_F0
              have F4 := Aside0.mk (Q_F4 (hon 11 (by kernel_rfl)))
              refine value_ (w1 := w') (v := .agg #[.int .i64 m, .slice A92 z2.length c92]) (by rfl) rfl ?_ ?_
              · go_simp
                (try simp only [i64_w])
                try rfl
              refine hK.out _ _ ⟨v40, g42, A92, c92, g12, m10_, m11_, (.agg #[.int .i64 m, .slice A92 z2.length c92]), m13_, (by rw [ha.out]; exact putSel_upk 5 hb_ rfl rfl rfl), Q_F0, fun _ h1_ => absurd ((hon 11 (by kernel_rfl)).symm.trans h1_) (by decide), fun _ h1_ => absurd ((hon 11 (by kernel_rfl)).symm.trans h1_) (by decide), Q_F4, Q_F5, fun h0_ => absurd ((hoff 14 (by kernel_rfl)).symm.trans h0_) (by decide), Q_X10_, Q_X11_, fun _ => rfl, Q_X13_⟩
            refine steps_cons ?_ ?_
            · rintro b a w' ⟨v40, g42, A92, c92, g12, m10_, m11_, m12_, m13_, ha, Q_F0, Q_F2, Q_F3, Q_F4, Q_F5, Q_F6, Q_X10_, Q_X11_, Q_X12_, Q_X13_⟩ hb_ hon hoff
              refine ⟨_, rfl, fun K hK => ?_⟩
              replace ha := Aside0.mk ha
              have F0 := Aside0.mk Q_F0
              refine value_ (w1 := ?_) (v := ?_) (by rfl) rfl ?_ ?_
              rotate_left 2
              · go_simp
                constructor
                · rfl
                · rfl
              refine hK.out _ _ ⟨v40, g42, A92, c92, w'.heap.size, m10_, m11_, m12_, (.pointer (some ⟨w'.heap.size, 0, none⟩)), (by rw [ha.out]; exact putSel_upk 6 hb_ rfl rfl rfl), since_alloc F0.out _, fun h0_ h1_ => (Q_F2 h0_ h1_).below (alloc_below w' _), fun h0_ h1_ => (Q_F3 h0_ h1_).below (alloc_below w' _), fun h0_ => (Q_F4 h0_).below (alloc_below w' _), fun _ _ => BlkAt.new F0.out.size _, fun h0_ => absurd ((hoff 14 (by kernel_rfl)).symm.trans h0_) (by decide), Q_X10_, Q_X11_, Q_X12_, fun _ => rfl⟩
            refine steps_cons ?_ ?_
            · rintro b a w' ⟨v40, g42, A92, c92, g12, m10_, m11_, m12_, m13_, ha, Q_F0, Q_F2, Q_F3, Q_F4, Q_F5, Q_F6, Q_X10_, Q_X11_, Q_X12_, Q_X13_⟩ hb_ hon hoff
              refine ⟨_, rfl, fun K hK => ?_⟩
              have e12 : a.tmps[12]? = some (m13_) := by rw [ha]; exact putSel_on (e := (13, 12, m13_)) 6 rfl rfl (hon 13 (by kernel_rfl)) rfl
              rw [Q_X13_ (hon 13 (by kernel_rfl))] at e12
              have e93 : a.tmps[93]? = some (m12_) := by rw [ha]; exact putSel_on (e := (12, 93, m12_)) 5 rfl rfl (hon 12 (by kernel_rfl)) rfl
              rw [Q_X12_ (hon 12 (by kernel_rfl))] at e93
              replace ha := Aside0.mk ha
              have F0 := Aside0.mk Q_F0
              have F4 := Aside0.mk (Q_F4 (hon 11 (by kernel_rfl)))
              have F5 := Aside0.mk (Q_F5 (hon 13 (by kernel_rfl)) hb_)
              have hk := F5.out
              have hq0 : w'.cell? ⟨g12, 0, none⟩ = some (.int .i64 0) := (blk_cell hk.1 0).trans rfl
              have hq1 : w'.cell? ⟨g12, 1, none⟩ = some (.slice none 0 0) := (blk_cell hk.1 1).trans rfl
              have hq2 : w'.frozen? ⟨g12, 0, none⟩ = false := blk_frozen hk.1 0
              have hq3 : w'.frozen? ⟨g12, 1, none⟩ = false := blk_frozen hk.1 1
              refine skip_ (w1 := ?_) (by rfl) rfl ?_ ?_
              rotate_left
              · go_simp
                rfl
              refine hK.out _ _ ⟨v40, g42, A92, c92, g12, m10_, m11_, m12_, m13_, (by rw [ha.out]; exact putSel_none (v := undef) rfl), since_stored2 F0.out hk _ _, fun _ h1_ => absurd ((hon 11 (by kernel_rfl)).symm.trans h1_) (by decide), fun _ h1_ => absurd ((hon 11 (by kernel_rfl)).symm.trans h1_) (by decide), fun _ => F4.out.stored hk (store2_grown _ _ _ _), fun _ h1_ => absurd ((up_self b 14).symm.trans h1_) (by decide), fun _ => hk.stored2 _ _, Q_X10_, Q_X11_, Q_X12_, Q_X13_⟩
            exact steps_nil
          · rintro b a w' hall ⟨v40, g42, A92, c92, g12, m10_, m11_, m12_, m13_, ha, Q_F0, Q_F2, Q_F3, Q_F4, Q_F5, Q_F6, Q_X10_, Q_X11_, Q_X12_, Q_X13_⟩
            clear F0
            have hb1_ := hall 1 (by kernel_rfl)
            have hb3_ := hall 3 (by kernel_rfl)
            have hb4_ := hall 4 (by kernel_rfl)
            have hb10_ := hall 10 (by kernel_rfl)
            have hb11_ := hall 11 (by kernel_rfl)
            have hb12_ := hall 12 (by kernel_rfl)
            have hb13_ := hall 13 (by kernel_rfl)
            have hb14_ := hall 14 (by kernel_rfl)
            subst ha
            obtain rfl := Q_X10_ hb10_
            obtain rfl := Q_X11_ hb11_
            obtain rfl := Q_X12_ hb12_
            obtain rfl := Q_X13_ hb13_
            simp only [putSel, hb1_, hb3_, hb4_, hb10_, hb11_, hb12_, hb13_, hb14_, if_true, Act.put, List.setIfInBounds_toArray, List.set_cons_zero, List.set_cons_succ]
            have F0 := Aside0.mk Q_F0
            clear Q_F0
            clear Q_F2
            clear Q_F3
            have F4 := Aside0.mk (Q_F4 hb11_)
            clear Q_F4
            clear Q_F5
            have F6 := Aside0.mk (Q_F6 hb14_)
            clear Q_F6
            clear hall hb1_ hb3_ hb4_ hb10_ hb11_ hb12_ hb13_ hb14_
            obtain ⟨Ay, hAy⟩ : ∃ Ay, Ay = A92 := ⟨_, rfl⟩
            subst hAy
            have hcy : z2.length ≤ c92 := (Kd.R_reads' F4.out.1).2.1
            have HY2 : Aside0 (HeldZ w gb w4.heap.size g12 m A xs.length c (some ad) cv y Ay c92 z2 w') := ⟨⟨HD.out.held.below F0.out, F6.out.1, (Kd.R_reads' F4.out.1).2.2⟩⟩
            clear F0 F4 F6 HBW HVB HD
            have HE := Aside0.mk HY2.out.drew
            go_wp2
            go_region_held3 (fun W => W.cell? ⟨w4.heap.size, 0, none⟩ = some (.int .i64 m) ∧ W.cell? ⟨w4.heap.size, 1, none⟩ = some (.slice (some ad) y.length cv) ∧ W.cell? ⟨g12, 0, none⟩ = some (.int .i64 m) ∧ W.cell? ⟨g12, 1, none⟩ = some (.slice Ay z2.length c92)) (first | (with_reducible exact ⟨K6.out.held.z0, K6.out.held.z1, K6.out.k0, K6.out.k1⟩) | (with_reducible exact ⟨K5.out.held.z0, K5.out.held.z1, K5.out.k0, K5.out.k1⟩) | (with_reducible exact ⟨K4.out.held.z0, K4.out.held.z1, K4.out.k0, K4.out.k1⟩) | (with_reducible exact ⟨K3.out.held.z0, K3.out.held.z1, K3.out.k0, K3.out.k1⟩) | (with_reducible exact ⟨K2.out.held.z0, K2.out.held.z1, K2.out.k0, K2.out.k1⟩) | (with_reducible exact ⟨K1.out.held.z0, K1.out.held.z1, K1.out.k0, K1.out.k1⟩) | (with_reducible exact ⟨HE.out.held.z0, HE.out.held.z1, HE.out.k0, HE.out.k1⟩) | (with_reducible exact ⟨HY2.out.held.z0, HY2.out.held.z1, HY2.out.k0, HY2.out.k1⟩)) (first
              | (go_at_call 13; (with_reducible refine (HQ13.out _ Ay c92 HE.out.zc hcy HE.out.held.held.tab).mono ?_); rintro e w11 ⟨A11, c11, rfl, hl11, hC11, hb, hta⟩; have K1 := Aside0.mk (HE.out.below hb); have HC11 := Aside0.mk hC11; clear hC11 hb)
              | (go_at_call 13; (with_reducible refine (HP13.out _ (some ad) cv K1.out.held.rd hcv K1.out.held.held.tab).mono ?_); rintro e w12 ⟨A12, c12, rfl, hl12, hC12, hb, _⟩; have K2 := Aside0.mk (K1.out.below hb); replace HC11 := Aside0.mk (Kd.C_below HC11.out hb); have HC12 := Aside0.mk hC12; clear hC12 hb)
              | (go_at_call 11; (with_reducible refine (HSL.out _ _ _ _ _ hta.out HC11.out hl11 HC12.out hl12).mono ?_); rintro e w13 ⟨rfl, hb⟩; have K3 := Aside0.mk (K2.out.below hb); clear hb HC11 HC12)
              | (go_at_call 12; (with_reducible refine (HQ12.out _ Ay c92 K3.out.zc hcy K3.out.held.held.tab).mono ?_); rintro e w14 ⟨A14, c14, rfl, hl14, hC14, hb⟩; have K4 := Aside0.mk (K3.out.below hb); have HC14 := Aside0.mk hC14; clear hC14 hb)
              | (go_at_call 12; (with_reducible refine (HP12.out _ (some ad) cv K4.out.held.rd hcv K4.out.held.held.tab).mono ?_); rintro e w15 ⟨A15, c15, rfl, hl15, hC15, hb⟩; have K5 := Aside0.mk (K4.out.below hb); replace HC14 := Aside0.mk (Kd.C_below HC14.out hb); have HC15 := Aside0.mk hC15; clear hC15 hb)
              | (go_at_call 11; (with_reducible refine (HSP.out _ _ _ _ _ HC14.out hl14 HC15.out hl15).mono ?_); rintro e w16 ⟨rfl, hb⟩; have K6 := Aside0.mk (K5.out.below hb); clear hb HC14 HC15))
            go_wp2
            go_ret
            exact ⟨rfl, K6.out.held.held.bel⟩

end Go.Proofs.YtnnfhnehieoeaaaDoor.Hy
