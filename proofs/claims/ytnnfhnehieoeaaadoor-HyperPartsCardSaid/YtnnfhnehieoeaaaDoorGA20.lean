/- less, Equal, EqualFunc, same. -/
import Derived.Test.YtnnfhnehieoeaaaDoorGA18
import Derived.Test.YtnnfhnehieoeaaaDoorGQ6
namespace Go.Proofs.YtnnfhnehieoeaaaDoor.Hy
open Go.RowKit Go.Shelf Go.Proofs.YtnnfhnehieoeaaaDoorW.PrintWords Go.Proofs.YtnnfhnehieoeaaaDoorW.PrintLast Go.Proofs.YtnnfhnehieoeaaaDoorW.PrintMore Go.Proofs.YtnnfhnehieoeaaaDoor.PHyperTells
set_option linter.unusedVariables false
set_option linter.unusedSimpArgs false

theorem less_l0 (a b : List Int) (ha : a.length ≤ 1000) (d : Nat) : ∀ (j k : Nat), j + d = a.length → j ≤ b.length → 2 * d + 1 < k → colanderref20_less.l0 k a b a (a.length : Int) (j : Int) = some (ltL (a.drop j) (b.drop j)) := by
  induction d with
  | zero =>
    intro j k hj hjb hk
    obtain ⟨k, rfl⟩ : ∃ m, k = m + 1 := ⟨k - 1, by omega⟩
    simp only [colanderref20_less.l0]
    rw [if_neg (by omega), List.drop_of_length_le (show a.length ≤ j by omega)]
    unfold ltL
    congr 1
    by_cases h : a.length < b.length
    · rw [List.drop_eq_getElem_cons (show j < b.length by omega)]
      simp [cmpL]; omega
    · rw [List.drop_of_length_le (show b.length ≤ j by omega)]
      simp [cmpL]; omega
  | succ d ih =>
    intro j k hj hjb hk
    obtain ⟨k, rfl⟩ : ∃ m, k = m + 2 := ⟨k - 2, by omega⟩
    have hjl : j < a.length := by omega
    have hrd : rd a (j : Int) = a[j] := by simp [rd, List.getD_eq_getElem?_getD, List.getElem?_eq_getElem hjl]
    simp only [colanderref20_less.l0]
    rw [if_pos (by omega), if_pos (by omega), if_pos (by omega), hrd, List.drop_eq_getElem_cons hjl]
    have hw : wrap64 ((j : Int) + 1) = ((j + 1 : Nat) : Int) := by unfold wrap64; omega
    by_cases h : j = b.length
    · rw [if_pos (by omega), List.drop_of_length_le (show b.length ≤ j by omega)]
      simp [colanderref20_less.j1, ltL, cmpL]
    · have hjb2 : j < b.length := by omega
      have hrd2 : rd b (j : Int) = b[j] := by simp [rd, List.getD_eq_getElem?_getD, List.getElem?_eq_getElem hjb2]
      rw [if_neg (by omega), if_pos (by omega), hrd2, List.drop_eq_getElem_cons hjb2]
      unfold ltL cmpL
      rcases Int.lt_trichotomy a[j] b[j] with h1 | h1 | h1
      · rw [show decide (a[j] > b[j]) = false from decide_eq_false (by omega), if_pos h1]
        simp only [colanderref20_less.j1]
        rw [if_neg (by decide), if_pos (by omega), if_pos (by omega), hrd2, if_pos h1]; rfl
      · rw [show decide (a[j] > b[j]) = false from decide_eq_false (by omega), if_neg (by omega), if_neg (by omega)]
        have := ih (j + 1) k (by omega) (by omega) (by omega)
        simp only [colanderref20_less.j1]
        rw [if_neg (by decide), if_pos (by omega), if_pos (by omega), hrd2, if_neg (by omega), hw]
        exact this
      · rw [show decide (a[j] > b[j]) = true from decide_eq_true h1, if_neg (by omega), if_pos h1]
        simp only [colanderref20_less.j1]
        rw [if_pos trivial]; rfl
theorem less_any (A0 : Option Addr) (c0 : Nat) (a : List Int) (A1 : Option Addr) (c1 : Nat) (b : List Int) (w : World) (hr0 : KI.C w A0 a.length a) (hc0 : a.length ≤ c0) (hr1 : KI.C w A1 b.length b) (hc1 : b.length ≤ c1) (ha : a.length ≤ 1000) :
    Calls Tryd.prog 28 #[.slice A0 a.length c0, .slice A1 b.length c1] w fun e w' => e = .returned (.bool (ltL a b)) ∧ Drawn0 w w' :=
  colanderref20_less.calls 3000 A0 c0 a A1 c1 b _ w hr0 hc0 hr1 hc1 (by
    have := less_l0 a b ha a.length 0 3000 (by omega) (by omega) (by omega)
    simpa [colanderref20_less.f] using this)

theorem equal_l0 (a b : List Int) (ha : a.length ≤ 1000) (hl : a.length = b.length) (d : Nat) : ∀ (j k : Nat), j + d = a.length → d < k → slices_Equal_int_int.l0 k a b (a.length : Int) (j : Int) = some (a.drop j == b.drop j) := by
  induction d with
  | zero =>
    intro j k hj hk
    obtain ⟨k, rfl⟩ : ∃ m, k = m + 1 := ⟨k - 1, by omega⟩
    simp only [slices_Equal_int_int.l0]
    rw [if_neg (by omega), List.drop_of_length_le (by omega), List.drop_of_length_le (by omega)]; rfl
  | succ d ih =>
    intro j k hj hk
    obtain ⟨k, rfl⟩ : ∃ m, k = m + 1 := ⟨k - 1, by omega⟩
    have hjl : j < a.length := by omega
    have hjb : j < b.length := by omega
    have hrd : rd a (j : Int) = a[j] := by simp [rd, List.getD_eq_getElem?_getD, List.getElem?_eq_getElem hjl]
    have hrd2 : rd b (j : Int) = b[j] := by simp [rd, List.getD_eq_getElem?_getD, List.getElem?_eq_getElem hjb]
    simp only [slices_Equal_int_int.l0]
    rw [if_pos (by omega), if_pos (by omega), if_pos (by omega), if_pos (by omega), hrd, hrd2, List.drop_eq_getElem_cons hjl, List.drop_eq_getElem_cons hjb, show wrap64 ((j : Int) + 1) = ((j + 1 : Nat) : Int) from by unfold wrap64; omega]
    by_cases h : a[j] = b[j]
    · rw [if_pos h, ih (j + 1) k (by omega) (by omega), List.cons_beq_cons, h, beq_self_eq_true, Bool.true_and]
    · rw [if_neg h]
      have : (a[j] == b[j]) = false := by rw [beq_eq_false_iff_ne]; exact h
      rw [List.cons_beq_cons, this]; rfl
theorem equal_any (A0 : Option Addr) (c0 : Nat) (a : List Int) (A1 : Option Addr) (c1 : Nat) (b : List Int) (w : World) (hr0 : KI.C w A0 a.length a) (hc0 : a.length ≤ c0) (hr1 : KI.C w A1 b.length b) (hc1 : b.length ≤ c1) (ha : a.length ≤ 1000) :
    Calls Tryd.prog 30 #[.slice A0 a.length c0, .slice A1 b.length c1] w fun e w' => e = .returned (.bool (a == b)) ∧ Drawn0 w w' :=
  slices_Equal_int_int.calls 3000 A0 c0 a A1 c1 b _ w hr0 hc0 hr1 hc1 (by
    unfold slices_Equal_int_int.f
    by_cases hl : a.length = b.length
    · rw [if_pos (by omega)]
      have := equal_l0 a b ha hl a.length 0 3000 (by omega) (by omega)
      simpa using this
    · rw [if_neg (by omega)]
      have : (a == b) = false := by rw [beq_eq_false_iff_ne]; rintro rfl; exact hl rfl
      rw [this])

set_option maxHeartbeats 2000000 in
set_option maxRecDepth 100000 in
theorem equalFunc_any (A : Option Addr) (c : Nat) (x : List (List Int)) (A' : Option Addr) (c' : Nat) (y : List (List Int)) (w : World) (hx : KL.C w A x.length x) (hc : x.length ≤ c) (hy : KL.C w A' y.length y) (hc' : y.length ≤ c') (ht : tame x) :
    Calls Tryd.prog 29 #[.slice A x.length c, .slice A' y.length c', .func (.func 30) #[] #[]] w fun e w' => e = .returned (.bool (x == y)) ∧ Below w.heap.size w w' := by
  have eg : ∀ args w, (callFunc 30 args).run Tryd.prog w = .ok (.enter 30 args) w := enters_of Tryd.func30 (by kernel_rfl) rfl
  have HX := Aside0.mk hx
  have HY := Aside0.mk hy
  have HT := Aside0.mk ht
  have hx1000 := ht.1
  clear hx hy ht
  by_cases hl : x.length = y.length
  · have hlb : ((x.length : Int) != (y.length : Int)) = false := by rw [hl]; simp
    have HL := Aside0.mk hl
    clear hl
    go_enter Tryd.func29, Tryd.ntmps29
    go_wp2
    go_loopg [17] x.length (fun k v17 wr => ∃ (i : Nat), v17 = .int .i64 i ∧ i ≤ x.length ∧ Aside0 (k + i = x.length) ∧ Aside0 (∀ (j : Nat) (h1 : j < x.length) (h2 : j < y.length), j < i → x[j] = y[j]) ∧ Aside0 (Below w.heap.size w wr))
    case atStart => exact ⟨0, rfl, by omega, ⟨by omega⟩, ⟨fun j _ _ h => absurd h (Nat.not_lt_zero _)⟩, ⟨Below.refl _ _⟩⟩
    case round =>
      obtain ⟨i, rfl, hi, hk, hall, HB⟩ := hrel
      by_cases hlt : i < x.length
      · obtain ⟨ad, A0, c0, hA, hx1, hxc, hxr⟩ := at_row HX.out i hlt
        subst hA
        have hly : i < y.length := by rw [← HL.out]; exact hlt
        obtain ⟨ad2, A1, c1, hA2, hx2, hyc, hyr⟩ := at_row HY.out i hly
        subst hA2
        have hel : (rdL x i).length ≤ 1000 := by rw [rdL_at x i hlt]; exact HT.out.2 _ (List.getElem_mem hlt)
        obtain ⟨e, he⟩ : ∃ e, e = rdL x i := ⟨_, rfl⟩
        obtain ⟨f, hf⟩ : ∃ f, f = rdL y i := ⟨_, rfl⟩
        rw [← he] at hx1 hxc hxr hel
        rw [← hf] at hx2 hyc hyr
        have HE : Aside0 (e = x[i]) := ⟨he.trans (rdL_at x i hlt)⟩
        have HF : Aside0 (f = y[i]) := ⟨hf.trans (rdL_at y i hly)⟩
        have hxw : wr.cell? (ad.add i) = some (.slice A0 e.length c0) := (HB.out.cell (World.block_lt_of_cell? w _ hx1)).trans hx1
        have hxw2 : wr.cell? (ad2.add i) = some (.slice A1 f.length c1) := (HB.out.cell (World.block_lt_of_cell? w _ hx2)).trans hx2
        have HEQ := Aside0.mk (equal_any A0 c0 e A1 c1 f wr (Kd.C_below hxr HB.out) hxc (Kd.C_below hyr HB.out) hyc hel)
        clear hx1 hx2 hxr hyr he hf
        obtain ⟨r, hr⟩ : ∃ r, r = (e == f) := ⟨_, rfl⟩
        rw [← hr] at HEQ
        have HRE := Aside0.mk hr
        clear hr
        cases r with
        | true =>
          have HALL : Aside0 (∀ (j : Nat) (h1 : j < x.length) (h2 : j < y.length), j < i + 1 → x[j] = y[j]) := ⟨fun j h1 h2 h => by
            by_cases hj : j = i
            · subst hj; rw [← HE.out, ← HF.out]; exact eq_of_beq HRE.out.symm
            · exact hall.out j h1 h2 (by omega)⟩
          go_wp2_with (go_at_call 30; refine (HEQ.out).mono ?_; rintro e' w2 ⟨rfl, hb2⟩; have HB2 := Aside0.mk (HB.out.trans (hb2.below.mono HB.out.size)); clear hb2)
          go_roundg (gk - 1)
          case measure => have := hk.out; omega
          case rel => exact ⟨i + 1, by go_num, by omega, ⟨by have := hk.out; omega⟩, HALL, HB2⟩
        | false =>
          go_wp2_with (go_at_call 30; refine (HEQ.out).mono ?_; rintro e' w2 ⟨rfl, hb2⟩; have HB2 := Aside0.mk (HB.out.trans (hb2.below.mono HB.out.size)); clear hb2)
          go_ret
          refine ⟨?_, HB2.out⟩
          have : (x == y) = false := by
            rw [beq_eq_false_iff_ne]
            rintro rfl
            have h1 := HRE.out
            rw [HE.out, HF.out] at h1
            simp at h1
          rw [this]; rfl
      · have hie : i = x.length := by omega
        subst hie
        go_wp2
        go_ret
        refine ⟨?_, HB.out⟩
        have : x = y := List.ext_getElem HL.out (fun j h1 h2 => hall.out j h1 h2 h1)
        subst this
        rw [beq_self_eq_true]; rfl
  · have hlb : ((x.length : Int) != (y.length : Int)) = true := by rw [bne_iff_ne]; omega
    have HF : Aside0 ((x == y) = false) := ⟨by rw [beq_eq_false_iff_ne]; rintro rfl; exact hl rfl⟩
    clear hl
    go_enter Tryd.func29, Tryd.ntmps29
    go_wp2
    go_ret
    exact ⟨by rw [HF.out]; rfl, Below.refl _ _⟩

theorem same_any (A : Option Addr) (c : Nat) (x : List (List Int)) (A' : Option Addr) (c' : Nat) (y : List (List Int)) (w : World) (hx : KL.C w A x.length x) (hc : x.length ≤ c) (hy : KL.C w A' y.length y) (hc' : y.length ≤ c') (ht : tame x) :
    Calls Tryd.prog 11 #[.slice A x.length c, .slice A' y.length c'] w fun e w' => e = .returned (.bool (x == y)) ∧ Below w.heap.size w w' := by
  have HC := Aside0.mk (equalFunc_any A c x A' c' y w hx hc hy hc' ht)
  clear hx hy ht
  go_enter Tryd.func11, Tryd.ntmps11
  go_wp2_with (go_at_call 29; refine (HC.out).mono ?_; rintro e' w2 ⟨rfl, hb2⟩; have HB2 := Aside0.mk hb2; clear hb2)
  go_ret
  exact ⟨rfl, HB2.out⟩

end Go.Proofs.YtnnfhnehieoeaaaDoor.Hy

/- The document's Left: its contract. (written by gen21.py) -/
namespace Go.Proofs.YtnnfhnehieoeaaaDoor.Hy
open Go.RowKit Go.Shelf Go.Proofs.YtnnfhnehieoeaaaDoorW.PrintWords Go.Proofs.YtnnfhnehieoeaaaDoorW.PrintLast Go.Proofs.YtnnfhnehieoeaaaDoorW.PrintMore Go.Proofs.YtnnfhnehieoeaaaDoor.PHyperTells
set_option linter.unusedVariables false
set_option linter.unusedSimpArgs false

inductive RefSteps (x : List (List Int)) : List (List Int) → Prop
  | refl : RefSteps x x
  | step (y z : List (List Int)) : RefSteps x y → RefStep y z → RefSteps x z

def wt (x : List (List Int)) : Nat := (x.map (fun e => e.length + 1)).sum
theorem wt_split (x : List (List Int)) (i : Nat) (hi : i < x.length) : wt x = wt (x.take i) + (x[i].length + 1) + wt (x.drop (i + 1)) := by
  conv => lhs; rw [← List.take_append_drop i x, List.drop_eq_getElem_cons hi]
  unfold wt
  rw [List.map_append, List.sum_append, List.map_cons, List.sum_cons]
  omega
theorem wt_app (x y : List (List Int)) : wt (x ++ y) = wt x + wt y := by unfold wt; rw [List.map_append, List.sum_append]
theorem RefStep.lt {x y : List (List Int)} (h : RefStep x y) : wt y < wt x := by
  rcases h with ⟨i, k, hi, hk, _, rfl⟩ | ⟨i, hi, _, rfl⟩
  · rw [wt_split x i hi, List.set_eq_take_append_cons_drop, if_pos hi, wt_app]
    have : wt ((x[i].take k ++ x[i].drop (k + 1)) :: x.drop (i + 1)) = (x[i].take k ++ x[i].drop (k + 1)).length + 1 + wt (x.drop (i + 1)) := by unfold wt; simp
    rw [this, List.length_append, List.length_take, List.length_drop]
    omega
  · rw [wt_split x i hi, wt_app]; omega
theorem RefStep.tame {x y : List (List Int)} (h : RefStep x y) (ht : tame x) : tame y := by
  rcases h with ⟨i, k, hi, hk, _, rfl⟩ | ⟨i, hi, _, rfl⟩
  · refine ⟨by rw [List.length_set]; exact ht.1, fun e he => ?_⟩
    rcases List.mem_or_eq_of_mem_set he with h | h
    · exact ht.2 e h
    · have := ht.2 _ (List.getElem_mem hi)
      rw [h, List.length_append, List.length_take, List.length_drop]; omega
  · refine ⟨by rw [List.length_append, List.length_take, List.length_drop]; have := ht.1; omega, fun e he => ?_⟩
    rcases List.mem_append.1 he with h | h
    · exact ht.2 e (List.mem_of_mem_take h)
    · exact ht.2 e (List.mem_of_mem_drop h)

theorem insert_ok {out z : List (List Int)} {e : List Int} {m : Nat} (hp : out.Perm z) (hs : out.Pairwise (fun a b => ltL b a = false)) (h1 : ∀ (j : Nat) (h : j < out.length), j < m → ltL out[j] e = true) (h2 : ∀ (h : m < out.length), ltL out[m] e = false) :
    (out.take m ++ [e] ++ out.drop m).Perm (z ++ [e]) ∧ (out.take m ++ [e] ++ out.drop m).Pairwise (fun a b => ltL b a = false) := by
  have hasym : ∀ a b, ltL a b = true → ltL b a = false := fun a b h => by
    cases h3 : ltL b a with
    | false => rfl
    | true => have := ltL_swo.trans a b a h h3; rw [ltL_swo.irrefl] at this; cases this
  constructor
  · have : (out.take m ++ [e] ++ out.drop m).Perm (out ++ [e]) := by
      conv => rhs; rw [← List.take_append_drop m out]
      rw [List.append_assoc, List.append_assoc]
      exact List.Perm.append_left _ List.perm_append_comm
    exact this.trans (hp.append_right _)
  · have hs' : (out.take m ++ out.drop m).Pairwise (fun a b => ltL b a = false) := by rw [List.take_append_drop]; exact hs
    rw [List.pairwise_append] at hs'
    obtain ⟨p1, p2, p3⟩ := hs'
    rw [List.append_assoc, List.pairwise_append]
    refine ⟨p1, ?_, ?_⟩
    · rw [List.singleton_append, List.pairwise_cons]
      refine ⟨fun b hb => ?_, p2⟩
      obtain ⟨k, hk, rfl⟩ := List.mem_iff_getElem.1 hb
      rw [List.getElem_drop]
      simp only [List.length_drop] at hk
      have hm := h2 (by omega)
      by_cases hk0 : k = 0
      · subst hk0; exact hm
      · have := List.pairwise_iff_getElem.1 hs m (m + k) (by omega) (by omega) (by omega)
        exact ltL_swo.ntrans _ _ _ this hm
    · intro a ha b hb
      obtain ⟨k, hk, rfl⟩ := List.mem_iff_getElem.1 ha
      rw [List.getElem_take]
      simp only [List.length_take] at hk
      have hlt := h1 k (by omega) (by omega)
      rw [List.singleton_append, List.mem_cons] at hb
      rcases hb with rfl | hb
      · exact hasym _ _ hlt
      · exact p3 _ (by rw [← List.getElem_take (i := k) (j := m) (h := by simp; omega)]; exact List.getElem_mem _) b hb

/-- a row of one header, just laid -/
theorem one_row {W : World} {B : Nat} {ok : Nat → Prop} {r : List Int} {u : Value} (h : KL.M W B ok r [u]) : ReadsRow (KL.M (W.alloc (.cells #[u] 30)) B ok) 1 (W.alloc (.cells #[u] 30)) (some ⟨W.heap.size, 0, none⟩) 1 [r] := by
  refine ⟨rfl, by decide, fun _ => ⟨_, rfl, fun j p hj => ?_⟩⟩
  have hj0 : j = 0 := by have := (List.getElem?_eq_some_iff.1 hj).1; simpa using this
  subst hj0
  have hp : r = p := by simpa using hj
  subst hp
  refine ⟨[u], rfl, Kd.M_below h ((Below.refl _ W).alloc (Nat.le_refl _) _), fun i u' hu => ?_⟩
  have hi0 : i = 0 := by have := (List.getElem?_eq_some_iff.1 hu).1; simpa using this
  subst hi0
  have : u = u' := by simpa using hu
  subst this
  exact World.cell?_alloc_new _ _ _ _
theorem row_below {w w1 : World} {B n : Nat} {ok : Nat → Prop} {A : Option Addr} {x : List (List Int)} (h : ReadsRow (KL.M w B ok) 1 w A n x) (hb : Below w.heap.size w w1) : ReadsRow (KL.M w1 B ok) 1 w1 A n x :=
  ReadsRow.imp_ h hb (fun p cs hp => Kd.M_below hp hb)
theorem row_grown {w w1 : World} {B n g : Nat} {ok : Nat → Prop} {row : Option Nat} {x : List (List Int)} (h : ReadsRow (KL.M w B ok) 1 w (some ⟨g, 0, none⟩) n x) (hg : w.grownBy w1 row) (hne : some g ≠ row) (hok : ∀ k, ok k → some k ≠ row) : ReadsRow (KL.M w1 B ok) 1 w1 (some ⟨g, 0, none⟩) n x := by
  refine ⟨h.1, h.2.1, fun hn => ?_⟩
  obtain ⟨ad, e, hc⟩ := h.2.2 hn
  injection e with e
  subst e
  refine ⟨_, rfl, fun j p hj => ?_⟩
  obtain ⟨cs, h1, h2, h3⟩ := hc j p hj
  refine ⟨cs, h1, Kd.M_grown h2 hg hok, fun i u hu => ?_⟩
  have := h3 i u hu
  exact (hg.cell_far _ (World.block_lt_of_cell? w _ this) (by rw [Addr.add_lit]; exact hne)).trans this

set_option maxHeartbeats 8000000 in
set_option maxRecDepth 100000 in
theorem refLeft_any (many : Int) (B : Nat) (A : Option Addr) (c : Nat) (xs : List (List Int)) (w : World) (hx : KL.R 30 w B anyK (.slice A xs.length c) xs) (hB : B ≤ w.heap.size) (ht : tame xs) :
    Calls Tryd.prog 10 #[.agg #[.int .i64 many, .slice A xs.length c]] w fun e w' => ∃ v y ys, e = .returned v ∧ KL.R 30 w' B anyK v ys ∧ RefSteps xs y ∧ RefDone y y.length ∧ ys.Perm y ∧ ys.Pairwise (fun a b => ltL b a = false) ∧ Below w.heap.size w w' := by
  have HX := Aside0.mk hx
  have HT := Aside0.mk ht
  clear hx ht
  go_enter Tryd.func10, Tryd.ntmps10
  go_wp2_with (first
    | ((with_reducible refine gate_dst (N := 1) rfl ?_); refine box_event ?hg (N := 1) ?hd (cs := #[.int .i64 many, .slice A xs.length c]) (t := 24) ?hr ?_; (case hd => rfl); (case hg => rfl); (case hr => first | (go_simp; done) | (go_simp; rfl)); intro gb hg w2 hbox hb; have HG := Aside0.mk (show w.heap.size ≤ gb by omega); have HBX := Aside0.mk hbox; have HB := Aside0.mk hb; have hcz0 : w2.cell? ⟨gb, 0, none⟩ = some (.int .i64 many) := (blk_cell HBX.out 0).trans rfl; have hcz1 : w2.cell? ⟨gb, 1, none⟩ = some (.slice A xs.length c) := (blk_cell HBX.out 1).trans rfl; clear hg hbox hb)
    | (go_at_call 27; refine (step_any B A c xs _ (Kd.R_below HX.out HB.out) (Nat.le_trans hB HB.out.size) HT.out).mono ?_; rintro e w3 ⟨v, y, more, rfl, hv, hb3, hst⟩; have HV := Aside0.mk hv; have HB3 := Aside0.mk (HB.out.trans (hb3.mono HB.out.size)); have HST := Aside0.mk hst; clear hv hb3 hst))
  clear hcz0 hcz1
  go_loopg [3, 4] (2 * wt xs + 1) (fun k v3 v4 wr => ∃ (y : List (List Int)) (more : Bool), v4 = .bool more ∧ Aside0 (KL.R 30 wr B anyK v3 y) ∧ Aside0 (RefSteps xs y) ∧ Aside0 (tame y) ∧ Aside0 (more = false → RefDone y y.length) ∧ Aside0 (Below w.heap.size w wr) ∧ Aside0 (2 * wt y + (if more then 1 else 0) ≤ k))
  case atStart =>
    refine ⟨y, more, rfl, HV, ?_, ?_, ?_, HB3, ?_⟩
    · rcases HST.out with ⟨_, h⟩ | ⟨_, rfl, _⟩
      · exact ⟨.step _ _ .refl h⟩
      · exact ⟨.refl⟩
    · rcases HST.out with ⟨_, h⟩ | ⟨_, rfl, _⟩
      · exact ⟨h.tame HT.out⟩
      · exact HT
    · rcases HST.out with ⟨h1, h⟩ | ⟨_, rfl, h⟩
      · exact ⟨fun e => by rw [h1] at e; cases e⟩
      · exact ⟨fun _ => h⟩
    · rcases HST.out with ⟨h1, h⟩ | ⟨h1, rfl, h⟩
      · have := h.lt; exact ⟨by rw [h1]; simp; omega⟩
      · exact ⟨by rw [h1]; simp⟩
  case round =>
    clear HV HB3 HST
    obtain ⟨y, more, rfl, HY, HS, HTy, HD, HB, HK⟩ := hrel
    obtain ⟨Ay, cy, hvy⟩ := Kd.R_slice HY.out
    subst hvy
    cases more with
    | true =>
      go_wp2_with (go_at_call 27; refine (step_any B Ay cy y _ HY.out (Nat.le_trans hB HB.out.size) HTy.out).mono ?_; rintro e w3 ⟨v, z, more, rfl, hv, hb3, hst⟩; have HV := Aside0.mk hv; have HB3 := Aside0.mk (HB.out.trans (hb3.mono HB.out.size)); have HST := Aside0.mk hst; clear hv hb3 hst)
      go_roundg (2 * wt z + (if more then 1 else 0))
      case measure =>
        have := HK.out
        rcases HST.out with ⟨h1, h⟩ | ⟨h1, rfl, h⟩
        · have := h.lt; subst h1; simp at this ⊢; omega
        · subst h1; simp at this ⊢; omega
      case rel =>
        refine ⟨z, more, rfl, HV, ?_, ?_, ?_, HB3, ⟨Nat.le_refl _⟩⟩
        · rcases HST.out with ⟨_, h⟩ | ⟨_, rfl, _⟩
          · exact ⟨.step _ _ HS.out h⟩
          · exact HS
        · rcases HST.out with ⟨_, h⟩ | ⟨_, rfl, _⟩
          · exact ⟨h.tame HTy.out⟩
          · exact HTy
        · rcases HST.out with ⟨h1, h⟩ | ⟨_, rfl, h⟩
          · exact ⟨fun e => by rw [h1] at e; cases e⟩
          · exact ⟨fun _ => h⟩
    | false =>
      have HDN := Aside0.mk (HD.out rfl)
      have hy1000 := HTy.out.1
      obtain ⟨w1, hw1⟩ : ∃ w1, w1 = wr := ⟨_, rfl⟩
      subst hw1
      go_wp2
      go_loopg [5, 23] y.length (fun k v5 v23 wr => ∃ (j : Nat) (out : List (List Int)), v23 = .int .i64 j ∧ j ≤ y.length ∧ Aside0 (k + j = y.length) ∧ Aside0 (KL.R 30 wr B anyK v5 out) ∧ Aside0 (out.Perm (y.take j)) ∧ Aside0 (out.Pairwise (fun a b => ltL b a = false)) ∧ Aside0 (Below w.heap.size w wr) ∧ Aside0 (Below w1.heap.size w1 wr))
      case atStart => exact ⟨0, [], rfl, by omega, ⟨by omega⟩, ⟨Kd.R_nil _ _ _ _ _⟩, ⟨by simp⟩, ⟨List.Pairwise.nil⟩, HB, ⟨Below.refl _ _⟩⟩
      case round =>
        clear HB
        obtain ⟨ko, rfl⟩ : ∃ ko, ko = gk := ⟨_, rfl⟩
        obtain ⟨j, out, rfl, hj, hk, HO, hperm, hpw, HB, HBy⟩ := hrel
        obtain ⟨Ao, co, hvo⟩ := Kd.R_slice HO.out
        subst hvo
        by_cases hlt : j < y.length
        · obtain ⟨wq, hwq⟩ : ∃ wq, wq = wr := ⟨_, rfl⟩
          subst hwq
          have HYq := Aside0.mk (Kd.R_below HY.out HBy.out)
          obtain ⟨ad, cs, hA, hcs1, hMe, hce⟩ := ReadsRow.get_ (rows_made HYq.out).2.2 [] (j : Int) (by omega) (by omega)
          obtain ⟨ue, hue, hRe⟩ := hMe
          subst hA
          subst hue
          simp only [Int.toNat_natCast] at hRe hce
          obtain ⟨e, he⟩ : ∃ e, e = y.getD j [] := ⟨_, rfl⟩
          rw [← he] at hRe
          have HE : Aside0 (e = y[j]) := ⟨by rw [he, List.getD_eq_getElem?_getD, List.getElem?_eq_getElem hlt]; rfl⟩
          have hel : e.length ≤ 1000 := by rw [HE.out]; exact HTy.out.2 _ (List.getElem_mem hlt)
          clear he
          obtain ⟨A0, c0, hu0, hc0, hC0⟩ := Kd.R_reads hRe
          subst hu0
          have hxe : wq.cell? (ad.add j) = some (.slice A0 e.length c0) := by have := hce 0 _ rfl; simpa using this
          have HMEo : Aside0 (KL.M wq B (fun k => k < wq.heap.size) e [.slice A0 e.length c0]) := ⟨⟨_, rfl, hRe⟩⟩
          have HCE := Aside0.mk hC0
          have hol : out.length ≤ 1000 := by have := hperm.out.length_eq; rw [List.length_take] at this; omega
          obtain ⟨_, hco, hCo⟩ := Kd.R_reads' HO.out
          have HCO := Aside0.mk hCo
          have HTO : Aside0 (∀ (k : Nat) (h : k < out.length), out[k].length ≤ 1000) := ⟨fun k h => HTy.out.2 _ (List.mem_of_mem_take (hperm.out.mem_iff.1 (List.getElem_mem h)))⟩
          clear hRe hce hcs1 hC0 hCo
          go_wp2
          clear hxe
          go_loopg [8] out.length (fun k v8 wr => ∃ (m : Nat), v8 = .int .i64 m ∧ m ≤ out.length ∧ Aside0 (k + m = out.length) ∧ Aside0 (∀ (j' : Nat) (h : j' < out.length), j' < m → ltL out[j'] e = true) ∧ Aside0 (Below wq.heap.size wq wr))
          case atStart => exact ⟨0, rfl, by omega, ⟨by omega⟩, ⟨fun j' h h2 => absurd h2 (Nat.not_lt_zero _)⟩, ⟨Below.refl _ _⟩⟩
          case round =>
            obtain ⟨m, rfl, hm, hkm, HPRE, HBo⟩ := hrel
            have HBq := Aside0.mk (HB.out.trans (HBo.out.mono HB.out.size))
            replace HBy := Aside0.mk (HBy.out.trans (HBo.out.mono HBy.out.size))
            by_cases hml : m < out.length
            · obtain ⟨ad3, A1, c1, hA3, hx3, hxc3, hxr3⟩ := at_row HCO.out m hml
              subst hA3
              have hlo := HTO.out m hml
              rw [← rdL_at out m hml] at hlo
              have hless := Aside0.mk (less_any A1 c1 (rdL out m) A0 c0 e wr (Kd.C_below hxr3 HBo.out) hxc3 (Kd.C_below HCE.out HBo.out) hc0 hlo)
              obtain ⟨q, hq⟩ : ∃ q, q = rdL out m := ⟨_, rfl⟩
              have HQ : Aside0 (q = out[m]) := ⟨hq.trans (rdL_at out m hml)⟩
              rw [← hq] at hx3 hxc3 hless
              have hxw3 : wr.cell? (ad3.add m) = some (.slice A1 q.length c1) := (HBo.out.cell (World.block_lt_of_cell? wq _ hx3)).trans hx3
              clear hx3 hxr3 hq hlo
              cases hb : ltL q e with
              | true =>
                have HL : Aside0 (∀ (j' : Nat) (h : j' < out.length), j' < m + 1 → ltL out[j'] e = true) := ⟨fun j' h h2 => by
                  by_cases hj' : j' = m
                  · subst hj'; rw [← HQ.out]; exact hb
                  · exact HPRE.out j' h (by omega)⟩
                rw [hb] at hless
                clear hb
                go_wp2_with (go_at_call 28; refine (hless.out).mono ?_; rintro e' w2 ⟨rfl, hb2⟩; have HB2 := Aside0.mk (HBo.out.trans (hb2.below.mono HBo.out.size)); clear hb2)
                go_roundg (gk - 1)
                case measure => have := hkm.out; omega
                case rel => exact ⟨m + 1, by go_num, by omega, ⟨by have := hkm.out; omega⟩, HL, HB2⟩
              | false =>
                have HPOST : Aside0 (∀ (h : m < out.length), ltL out[m] e = false) := ⟨fun h => by rw [← HQ.out]; exact hb⟩
                rw [hb] at hless
                clear hb
                go_wp2_with (go_at_call 28; refine (hless.out).mono ?_; rintro e' w2 ⟨rfl, hb2⟩; replace HBq := Aside0.mk (HBq.out.trans (hb2.below.mono HBq.out.size)); replace HBy := Aside0.mk (HBy.out.trans (hb2.below.mono HBy.out.size)); replace HBo := Aside0.mk (HBo.out.trans (hb2.below.mono HBo.out.size)); clear hb2)
                clear hxw3 hless HQ
                obtain ⟨wr, hwr⟩ : ∃ wr, wr = w2 := ⟨_, rfl⟩
                subst hwr
                obtain ⟨i0, hi0, _, hsz0, _⟩ := info_parts info30
                have hcut1 := cut_to (P := Tryd.prog) 22 30 .i64 Tryd.underlying22 hi0 (some ad3) out.length co (m : Int) (by omega) (by omega) hco
                have hcut2 := cut_from (P := Tryd.prog) 22 30 .i64 Tryd.underlying22 hi0 1 hsz0 (some ad3) out.length co (m : Int) (by omega) (by omega)
                simp only [Int.toNat_natCast] at hcut1 hcut2
                obtain ⟨A2, hA2⟩ : ∃ A2, A2 = (if co = m then (some ad3) else (some ad3 : Option Addr).map (·.add (m * 1))) := ⟨_, rfl⟩
                obtain ⟨c2, hc2⟩ : ∃ c2, c2 = co - m := ⟨_, rfl⟩
                obtain ⟨n2, hn2⟩ : ∃ n2, n2 = out.length - m := ⟨_, rfl⟩
                rw [← hA2, ← hc2, ← hn2] at hcut2
                have HBB : Aside0 (B ≤ wr.heap.size) := ⟨Nat.le_trans hB HBq.out.size⟩
                have HOq := Aside0.mk (Kd.R_below HO.out HBo.out)
                have HK0 : Aside0 (∀ W, Below wr.heap.size wr W → ReadsRow (KL.M W B (fun k => k < wr.heap.size)) 1 W (some ad3) out.length out) := ⟨fun W hb => ReadsRow.imp_ (rows_made HOq.out).2.2 hb (fun p cs hp => Kd.M_below hp hb)⟩
                have HK1 : Aside0 (∀ W, Below wr.heap.size wr W → ReadsRow (KL.M W B (fun k => k < wr.heap.size)) 1 W (some ad3) m (out.take m)) := ⟨fun W hb => take_row (HK0.out W hb) m (by omega)⟩
                have HK3 : Aside0 (∀ W, Below wr.heap.size wr W → ReadsRow (KL.M W B (fun k => k < wr.heap.size)) 1 W A2 n2 (out.drop m)) := ⟨fun W hb => by rw [hA2, hn2]; exact drop_row (HK0.out W hb) m (by omega) hco⟩
                have HME : Aside0 (KL.M wr B (fun k => k < wr.heap.size) e [.slice A0 e.length c0]) := ⟨KL.M_mono (fun k hk => hk.2.2.1) (KL.M_bound (Kd.M_below HMEo.out HBo.out))⟩
                have HA1 : Aside0 (Below wr.heap.size wr (wr.drew.alloc (.cells #[] 30))) := ⟨(Below.refl wr.heap.size wr).drew.alloc (Nat.le_refl _) _⟩
                have HA1b : Aside0 (Below wr.heap.size wr ((wr.drew.alloc (.cells #[] 30)).alloc (.cells #[.slice A0 e.length c0] 30))) := ⟨HA1.out.alloc HA1.out.size _⟩
                have HA1c0 : Aside0 (Below wr.heap.size wr (wr.drew.alloc (.cells #[.slice A0 e.length c0] 30))) := ⟨(Below.refl wr.heap.size wr).drew.alloc (Nat.le_refl _) _⟩
                have HA1c : Aside0 (Below wr.heap.size wr ((wr.drew.alloc (.cells #[.slice A0 e.length c0] 30)).alloc (.cells #[] 30))) := ⟨HA1c0.out.alloc HA1c0.out.size _⟩
                have HEb : Aside0 (ReadsRow (KL.M ((wr.drew.alloc (.cells #[] 30)).alloc (.cells #[.slice A0 e.length c0] 30)) B (fun k => k < wr.heap.size)) 1 ((wr.drew.alloc (.cells #[] 30)).alloc (.cells #[.slice A0 e.length c0] 30)) (some ⟨wr.heap.size + 1, 0, none⟩) 1 [e]) := ⟨by
                  have := one_row (W := wr.drew.alloc (.cells #[] 30)) (Kd.M_below HME.out HA1.out)
                  rw [show (wr.drew.alloc (.cells #[] 30)).heap.size = wr.heap.size + 1 from by simp] at this
                  exact this⟩
                have HEc : Aside0 (ReadsRow (KL.M ((wr.drew.alloc (.cells #[.slice A0 e.length c0] 30)).alloc (.cells #[] 30)) B (fun k => k < wr.heap.size)) 1 ((wr.drew.alloc (.cells #[.slice A0 e.length c0] 30)).alloc (.cells #[] 30)) (some ⟨wr.heap.size, 0, none⟩) 1 [e]) := ⟨row_below (one_row (W := wr.drew) (Kd.M_below HME.out (Below.refl _ wr).drew)) ((Below.refl _ _).alloc (Nat.le_refl _) _)⟩
                have HLc : Aside0 (KL.R 30 ((wr.drew.alloc (.cells #[.slice A0 e.length c0] 30)).alloc (.cells #[] 30)) B anyK (.slice (some ⟨wr.heap.size + 1, 0, none⟩) 0 0) []) := ⟨by
                  have := lit_noneL (wr.drew.alloc (.cells #[.slice A0 e.length c0] 30)) B (Nat.le_trans HBB.out HA1c0.out.size)
                  rw [show (wr.drew.alloc (.cells #[.slice A0 e.length c0] 30)).heap.size = wr.heap.size + 1 from by simp] at this
                  exact this⟩
                clear hA2 hc2 hi0
                have hn2l : n2 ≤ 1000 := by omega
                clear hn2
                go_region_law (first
                  | (refine Kd.R_append_rows_step KL (Rr := KL.M (wr.drew.alloc (.cells #[] 30)) B (fun k => k < wr.heap.size)) (w0 := wr) B (by simp [Region.wanted]) (.tmp 41) (.tmp 44) 22 30 (.slice none 0 0) 24 rfl Tryd.underlying22 info30 rfl (by decide) (by decide) (.slice (some ⟨wr.heap.size, 0, none⟩) 0 0) [] (out.take m) (some ad3) m co anyK (fun k => k < wr.heap.size) (by simp [Act.eval, Act.put]) (by simp [Act.eval, Act.put]) (lit_noneL wr.drew B HBB.out) (HK1.out _ HA1.out) (fun _ _ h => h) (fun k hk => ⟨trivial, fun e => by simp [Value.ownBlock] at e; omega⟩) (fun _ _ => trivial) ((HA1.out).mono HBB.out) (Nat.le_trans HBB.out (HA1.out).size) (by simp; omega) ?_
                     intro v45 w5 ho5 hb5 hg5 hat5
                     have HO5 := Aside0.mk ho5
                     have HB5 : Aside0 (Below wr.heap.size wr w5) := ⟨(HA1.out).grown hg5 (HA1.out).size (fun k hk => by simp [Value.ownBlock] at hk; omega)⟩
                     have HN5 : Aside0 (∀ k, v45.ownBlock = some k → wr.heap.size ≤ k) := ⟨fun k hk => by rcases hat5 with e1 | ⟨b, e1, e2⟩; (rw [e1] at hk; simp [Value.ownBlock] at hk; omega); (rw [e1] at hk; injection hk with hk; subst hk; simp at e2; omega)⟩
                     clear ho5 hb5 hg5 hat5)
                  | (refine Kd.R_append_rows_step KL (Rr := KL.M (w5.alloc (.cells #[.slice A0 e.length c0] 30)) B (fun k => k < wr.heap.size)) (w0 := wr) B (by simp [Region.wanted]) (.tmp 45) (.tmp 47) 22 30 (.slice none 0 0) 24 rfl Tryd.underlying22 info30 rfl (by decide) (by decide) v45 (out.take m) [e] (some ⟨w5.heap.size, 0, none⟩) 1 1 anyK (fun k => k < wr.heap.size) (by simp [Act.eval, Act.put]) (by simp [Act.eval, Act.put]) (Kd.R_below HO5.out ((Below.refl _ _).alloc (Nat.le_refl _) _)) (one_row (Kd.M_below HME.out HB5.out)) (fun _ _ h => h) (fun k hk => ⟨trivial, fun e => by have := HN5.out k e.symm; omega⟩) (fun _ _ => trivial) ((HB5.out.alloc HB5.out.size (.cells #[.slice A0 e.length c0] 30)).mono HBB.out) (Nat.le_trans HBB.out (HB5.out.alloc HB5.out.size (.cells #[.slice A0 e.length c0] 30)).size) (by simp; omega) ?_
                     intro v48 w6 ho6 hb6 hg6 hat6
                     have HO6 := Aside0.mk ho6
                     have HB6 : Aside0 (Below wr.heap.size wr w6) := ⟨(HB5.out.alloc HB5.out.size (.cells #[.slice A0 e.length c0] 30)).grown hg6 (HB5.out.alloc HB5.out.size (.cells #[.slice A0 e.length c0] 30)).size HN5.out⟩
                     have HN6 : Aside0 (∀ k, v48.ownBlock = some k → wr.heap.size ≤ k) := ⟨fun k hk => by rcases hat6 with e1 | ⟨b, e1, e2⟩; exact HN5.out k (e1.symm.trans hk); (rw [e1] at hk; injection hk with hk; subst hk; exact Nat.le_trans (HB5.out.alloc HB5.out.size (.cells #[.slice A0 e.length c0] 30)).size e2)⟩
                     clear ho6 hb6 hg6 hat6)
                  | (refine Kd.R_append_rows_step KL (Rr := KL.M w5 B (fun k => k < wr.heap.size)) (w0 := wr) B (by simp [Region.wanted]) (.tmp 45) (.tmp 47) 22 30 (.slice none 0 0) 24 rfl Tryd.underlying22 info30 rfl (by decide) (by decide) v45 (out.take m) [e] (some ⟨wr.heap.size + 1, 0, none⟩) 1 1 anyK (fun k => k < wr.heap.size) (by simp [Act.eval, Act.put]) (by simp [Act.eval, Act.put]) HO5.out HE5.out (fun _ _ h => h) (fun k hk => ⟨trivial, fun e => by have := HN5.out k e.symm; omega⟩) (fun _ _ => trivial) ((HB5.out).mono HBB.out) (Nat.le_trans HBB.out (HB5.out).size) (by simp; omega) ?_
                     intro v48 w6 ho6 hb6 hg6 hat6
                     have HO6 := Aside0.mk ho6
                     have HB6 : Aside0 (Below wr.heap.size wr w6) := ⟨(HB5.out).grown hg6 (HB5.out).size HN5.out⟩
                     have HN6 : Aside0 (∀ k, v48.ownBlock = some k → wr.heap.size ≤ k) := ⟨fun k hk => by rcases hat6 with e1 | ⟨b, e1, e2⟩; exact HN5.out k (e1.symm.trans hk); (rw [e1] at hk; injection hk with hk; subst hk; exact Nat.le_trans (HB5.out).size e2)⟩
                     clear ho6 hb6 hg6 hat6)
                  | (refine Kd.R_append_rows_step KL (Rr := KL.M w5 B (fun k => k < wr.heap.size)) (w0 := wr) B (by simp [Region.wanted]) (.tmp 45) (.tmp 47) 22 30 (.slice none 0 0) 24 rfl Tryd.underlying22 info30 rfl (by decide) (by decide) v45 (out.take m) [e] (some ⟨wr.heap.size, 0, none⟩) 1 1 anyK (fun k => k < wr.heap.size) (by simp [Act.eval, Act.put]) (by simp [Act.eval, Act.put]) HO5.out HE5.out (fun _ _ h => h) (fun k hk => ⟨trivial, fun e => by have := HN5.out k e.symm; omega⟩) (fun _ _ => trivial) ((HB5.out).mono HBB.out) (Nat.le_trans HBB.out (HB5.out).size) (by simp; omega) ?_
                     intro v48 w6 ho6 hb6 hg6 hat6
                     have HO6 := Aside0.mk ho6
                     have HB6 : Aside0 (Below wr.heap.size wr w6) := ⟨(HB5.out).grown hg6 (HB5.out).size HN5.out⟩
                     have HN6 : Aside0 (∀ k, v48.ownBlock = some k → wr.heap.size ≤ k) := ⟨fun k hk => by rcases hat6 with e1 | ⟨b, e1, e2⟩; exact HN5.out k (e1.symm.trans hk); (rw [e1] at hk; injection hk with hk; subst hk; exact Nat.le_trans (HB5.out).size e2)⟩
                     clear ho6 hb6 hg6 hat6)
                  | (refine Kd.R_append_rows_step KL (Rr := KL.M w6 B (fun k => k < wr.heap.size)) (w0 := wr) B (by simp [Region.wanted]) (.tmp 48) (.tmp 51) 22 30 (.slice none 0 0) 24 rfl Tryd.underlying22 info30 rfl (by decide) (by decide) v48 (out.take m ++ [e]) (out.drop m) A2 n2 c2 anyK (fun k => k < wr.heap.size) (by simp [Act.eval, Act.put]) (by simp [Act.eval, Act.put]) HO6.out (HK3.out _ HB6.out) (fun _ _ h => h) (fun k hk => ⟨trivial, fun e => by have := HN6.out k e.symm; omega⟩) (fun _ _ => trivial) ((HB6.out).mono HBB.out) (Nat.le_trans HBB.out (HB6.out).size) (by simp; omega) ?_
                     intro v52 w7 ho7 hb7 hg7 hat7
                     have HO7 := Aside0.mk ho7
                     have HB7 := Aside0.mk (HB6.out.grown hg7 HB6.out.size HN6.out)
                     clear ho7 hb7 hg7 hat7)
                  | (refine Kd.R_append_rows_step KL (Rr := KL.M ((wr.drew.alloc (.cells #[] 30)).alloc (.cells #[.slice A0 e.length c0] 30)) B (fun k => k < wr.heap.size)) (w0 := wr) B (by simp [Region.wanted]) (.tmp 41) (.tmp 44) 22 30 (.slice none 0 0) 24 rfl Tryd.underlying22 info30 rfl (by decide) (by decide) (.slice (some ⟨wr.heap.size, 0, none⟩) 0 0) [] (out.take m) (some ad3) m co anyK (fun k => k < wr.heap.size) (by simp [Act.eval, Act.put]) (by simp [Act.eval, Act.put]) (Kd.R_below (lit_noneL wr.drew B HBB.out) ((Below.refl _ _).alloc (Nat.le_refl _) _)) (HK1.out _ HA1b.out) (fun _ _ h => h) (fun k hk => ⟨trivial, fun e => by simp [Value.ownBlock] at e; omega⟩) (fun _ _ => trivial) ((HA1b.out).mono HBB.out) (Nat.le_trans HBB.out (HA1b.out).size) (by simp; omega) ?_
                     intro v45 w5 ho5 hb5 hg5 hat5
                     have HO5 := Aside0.mk ho5
                     have HB5 : Aside0 (Below wr.heap.size wr w5) := ⟨(HA1b.out).grown hg5 (HA1b.out).size (fun k hk => by simp [Value.ownBlock] at hk; omega)⟩
                     have HN5 : Aside0 (∀ k, v45.ownBlock = some k → wr.heap.size ≤ k) := ⟨fun k hk => by rcases hat5 with e1 | ⟨b, e1, e2⟩; (rw [e1] at hk; simp [Value.ownBlock] at hk; omega); (rw [e1] at hk; injection hk with hk; subst hk; simp at e2; omega)⟩
                     have HE5 : Aside0 (ReadsRow (KL.M w5 B (fun k => k < wr.heap.size)) 1 w5 (some ⟨wr.heap.size + 1, 0, none⟩) 1 [e]) := ⟨row_grown HEb.out hg5 (by simp [Value.ownBlock]) (fun k hk e => by simp [Value.ownBlock] at e; omega)⟩
                     clear ho5 hb5 hg5 hat5)
                  | (refine Kd.R_append_rows_step KL (Rr := KL.M ((wr.drew.alloc (.cells #[.slice A0 e.length c0] 30)).alloc (.cells #[] 30)) B (fun k => k < wr.heap.size)) (w0 := wr) B (by simp [Region.wanted]) (.tmp 41) (.tmp 44) 22 30 (.slice none 0 0) 24 rfl Tryd.underlying22 info30 rfl (by decide) (by decide) (.slice (some ⟨wr.heap.size + 1, 0, none⟩) 0 0) [] (out.take m) (some ad3) m co anyK (fun k => k < wr.heap.size) (by simp [Act.eval, Act.put]) (by simp [Act.eval, Act.put]) HLc.out (HK1.out _ HA1c.out) (fun _ _ h => h) (fun k hk => ⟨trivial, fun e => by simp [Value.ownBlock] at e; omega⟩) (fun _ _ => trivial) ((HA1c.out).mono HBB.out) (Nat.le_trans HBB.out (HA1c.out).size) (by simp; omega) ?_
                     intro v45 w5 ho5 hb5 hg5 hat5
                     have HO5 := Aside0.mk ho5
                     have HB5 : Aside0 (Below wr.heap.size wr w5) := ⟨(HA1c.out).grown hg5 (HA1c.out).size (fun k hk => by simp [Value.ownBlock] at hk; omega)⟩
                     have HN5 : Aside0 (∀ k, v45.ownBlock = some k → wr.heap.size ≤ k) := ⟨fun k hk => by rcases hat5 with e1 | ⟨b, e1, e2⟩; (rw [e1] at hk; simp [Value.ownBlock] at hk; omega); (rw [e1] at hk; injection hk with hk; subst hk; simp at e2; omega)⟩
                     have HE5 : Aside0 (ReadsRow (KL.M w5 B (fun k => k < wr.heap.size)) 1 w5 (some ⟨wr.heap.size, 0, none⟩) 1 [e]) := ⟨row_grown HEc.out hg5 (by simp [Value.ownBlock]) (fun k hk e => by simp [Value.ownBlock] at e; omega)⟩
                     clear ho5 hb5 hg5 hat5))
                all_goals
                  clear hcut1 hcut2
                  go_wp2
                  go_roundg (ko - 1)
                  case measure => have := hk.out; omega
                  case rel =>
                    obtain ⟨hp1, hp2⟩ := insert_ok hperm.out hpw.out HPRE.out HPOST.out
                    refine ⟨j + 1, _, by go_num, by omega, ⟨by have := hk.out; omega⟩, HO7, ⟨by rw [List.take_succ_eq_append_getElem hlt, ← HE.out]; exact hp1⟩, ⟨hp2⟩, ⟨HBq.out.trans (HB7.out.mono HBq.out.size)⟩, ⟨HBy.out.trans (HB7.out.mono HBy.out.size)⟩⟩
            · have HPOST : Aside0 (∀ (h : m < out.length), ltL out[m] e = false) := ⟨fun h => absurd h hml⟩
              go_wp2
              obtain ⟨i0, hi0, _, hsz0, _⟩ := info_parts info30
              have hcut1 := cut_to (P := Tryd.prog) 22 30 .i64 Tryd.underlying22 hi0 Ao out.length co (m : Int) (by omega) (by omega) hco
              have hcut2 := cut_from (P := Tryd.prog) 22 30 .i64 Tryd.underlying22 hi0 1 hsz0 Ao out.length co (m : Int) (by omega) (by omega)
              simp only [Int.toNat_natCast] at hcut1 hcut2
              obtain ⟨A2, hA2⟩ : ∃ A2, A2 = (if co = m then Ao else Ao.map (·.add (m * 1))) := ⟨_, rfl⟩
              obtain ⟨c2, hc2⟩ : ∃ c2, c2 = co - m := ⟨_, rfl⟩
              obtain ⟨n2, hn2⟩ : ∃ n2, n2 = out.length - m := ⟨_, rfl⟩
              rw [← hA2, ← hc2, ← hn2] at hcut2
              have HBB : Aside0 (B ≤ wr.heap.size) := ⟨Nat.le_trans hB HBq.out.size⟩
              have HOq := Aside0.mk (Kd.R_below HO.out HBo.out)
              have HK0 : Aside0 (∀ W, Below wr.heap.size wr W → ReadsRow (KL.M W B (fun k => k < wr.heap.size)) 1 W Ao out.length out) := ⟨fun W hb => ReadsRow.imp_ (rows_made HOq.out).2.2 hb (fun p cs hp => Kd.M_below hp hb)⟩
              have HK1 : Aside0 (∀ W, Below wr.heap.size wr W → ReadsRow (KL.M W B (fun k => k < wr.heap.size)) 1 W Ao m (out.take m)) := ⟨fun W hb => take_row (HK0.out W hb) m (by omega)⟩
              have HK3 : Aside0 (∀ W, Below wr.heap.size wr W → ReadsRow (KL.M W B (fun k => k < wr.heap.size)) 1 W A2 n2 (out.drop m)) := ⟨fun W hb => by rw [hA2, hn2]; exact drop_row (HK0.out W hb) m (by omega) hco⟩
              have HME : Aside0 (KL.M wr B (fun k => k < wr.heap.size) e [.slice A0 e.length c0]) := ⟨KL.M_mono (fun k hk => hk.2.2.1) (KL.M_bound (Kd.M_below HMEo.out HBo.out))⟩
              have HA1 : Aside0 (Below wr.heap.size wr (wr.drew.alloc (.cells #[] 30))) := ⟨(Below.refl wr.heap.size wr).drew.alloc (Nat.le_refl _) _⟩
              have HA1b : Aside0 (Below wr.heap.size wr ((wr.drew.alloc (.cells #[] 30)).alloc (.cells #[.slice A0 e.length c0] 30))) := ⟨HA1.out.alloc HA1.out.size _⟩
              have HA1c0 : Aside0 (Below wr.heap.size wr (wr.drew.alloc (.cells #[.slice A0 e.length c0] 30))) := ⟨(Below.refl wr.heap.size wr).drew.alloc (Nat.le_refl _) _⟩
              have HA1c : Aside0 (Below wr.heap.size wr ((wr.drew.alloc (.cells #[.slice A0 e.length c0] 30)).alloc (.cells #[] 30))) := ⟨HA1c0.out.alloc HA1c0.out.size _⟩
              have HEb : Aside0 (ReadsRow (KL.M ((wr.drew.alloc (.cells #[] 30)).alloc (.cells #[.slice A0 e.length c0] 30)) B (fun k => k < wr.heap.size)) 1 ((wr.drew.alloc (.cells #[] 30)).alloc (.cells #[.slice A0 e.length c0] 30)) (some ⟨wr.heap.size + 1, 0, none⟩) 1 [e]) := ⟨by
                have := one_row (W := wr.drew.alloc (.cells #[] 30)) (Kd.M_below HME.out HA1.out)
                rw [show (wr.drew.alloc (.cells #[] 30)).heap.size = wr.heap.size + 1 from by simp] at this
                exact this⟩
              have HEc : Aside0 (ReadsRow (KL.M ((wr.drew.alloc (.cells #[.slice A0 e.length c0] 30)).alloc (.cells #[] 30)) B (fun k => k < wr.heap.size)) 1 ((wr.drew.alloc (.cells #[.slice A0 e.length c0] 30)).alloc (.cells #[] 30)) (some ⟨wr.heap.size, 0, none⟩) 1 [e]) := ⟨row_below (one_row (W := wr.drew) (Kd.M_below HME.out (Below.refl _ wr).drew)) ((Below.refl _ _).alloc (Nat.le_refl _) _)⟩
              have HLc : Aside0 (KL.R 30 ((wr.drew.alloc (.cells #[.slice A0 e.length c0] 30)).alloc (.cells #[] 30)) B anyK (.slice (some ⟨wr.heap.size + 1, 0, none⟩) 0 0) []) := ⟨by
                have := lit_noneL (wr.drew.alloc (.cells #[.slice A0 e.length c0] 30)) B (Nat.le_trans HBB.out HA1c0.out.size)
                rw [show (wr.drew.alloc (.cells #[.slice A0 e.length c0] 30)).heap.size = wr.heap.size + 1 from by simp] at this
                exact this⟩
              clear hA2 hc2 hi0
              have hn2l : n2 ≤ 1000 := by omega
              clear hn2
              go_region_law (first
                | (refine Kd.R_append_rows_step KL (Rr := KL.M (wr.drew.alloc (.cells #[] 30)) B (fun k => k < wr.heap.size)) (w0 := wr) B (by simp [Region.wanted]) (.tmp 41) (.tmp 44) 22 30 (.slice none 0 0) 24 rfl Tryd.underlying22 info30 rfl (by decide) (by decide) (.slice (some ⟨wr.heap.size, 0, none⟩) 0 0) [] (out.take m) Ao m co anyK (fun k => k < wr.heap.size) (by simp [Act.eval, Act.put]) (by simp [Act.eval, Act.put]) (lit_noneL wr.drew B HBB.out) (HK1.out _ HA1.out) (fun _ _ h => h) (fun k hk => ⟨trivial, fun e => by simp [Value.ownBlock] at e; omega⟩) (fun _ _ => trivial) ((HA1.out).mono HBB.out) (Nat.le_trans HBB.out (HA1.out).size) (by simp; omega) ?_
                   intro v45 w5 ho5 hb5 hg5 hat5
                   have HO5 := Aside0.mk ho5
                   have HB5 : Aside0 (Below wr.heap.size wr w5) := ⟨(HA1.out).grown hg5 (HA1.out).size (fun k hk => by simp [Value.ownBlock] at hk; omega)⟩
                   have HN5 : Aside0 (∀ k, v45.ownBlock = some k → wr.heap.size ≤ k) := ⟨fun k hk => by rcases hat5 with e1 | ⟨b, e1, e2⟩; (rw [e1] at hk; simp [Value.ownBlock] at hk; omega); (rw [e1] at hk; injection hk with hk; subst hk; simp at e2; omega)⟩
                   clear ho5 hb5 hg5 hat5)
                | (refine Kd.R_append_rows_step KL (Rr := KL.M (w5.alloc (.cells #[.slice A0 e.length c0] 30)) B (fun k => k < wr.heap.size)) (w0 := wr) B (by simp [Region.wanted]) (.tmp 45) (.tmp 47) 22 30 (.slice none 0 0) 24 rfl Tryd.underlying22 info30 rfl (by decide) (by decide) v45 (out.take m) [e] (some ⟨w5.heap.size, 0, none⟩) 1 1 anyK (fun k => k < wr.heap.size) (by simp [Act.eval, Act.put]) (by simp [Act.eval, Act.put]) (Kd.R_below HO5.out ((Below.refl _ _).alloc (Nat.le_refl _) _)) (one_row (Kd.M_below HME.out HB5.out)) (fun _ _ h => h) (fun k hk => ⟨trivial, fun e => by have := HN5.out k e.symm; omega⟩) (fun _ _ => trivial) ((HB5.out.alloc HB5.out.size (.cells #[.slice A0 e.length c0] 30)).mono HBB.out) (Nat.le_trans HBB.out (HB5.out.alloc HB5.out.size (.cells #[.slice A0 e.length c0] 30)).size) (by simp; omega) ?_
                   intro v48 w6 ho6 hb6 hg6 hat6
                   have HO6 := Aside0.mk ho6
                   have HB6 : Aside0 (Below wr.heap.size wr w6) := ⟨(HB5.out.alloc HB5.out.size (.cells #[.slice A0 e.length c0] 30)).grown hg6 (HB5.out.alloc HB5.out.size (.cells #[.slice A0 e.length c0] 30)).size HN5.out⟩
                   have HN6 : Aside0 (∀ k, v48.ownBlock = some k → wr.heap.size ≤ k) := ⟨fun k hk => by rcases hat6 with e1 | ⟨b, e1, e2⟩; exact HN5.out k (e1.symm.trans hk); (rw [e1] at hk; injection hk with hk; subst hk; exact Nat.le_trans (HB5.out.alloc HB5.out.size (.cells #[.slice A0 e.length c0] 30)).size e2)⟩
                   clear ho6 hb6 hg6 hat6)
                | (refine Kd.R_append_rows_step KL (Rr := KL.M w5 B (fun k => k < wr.heap.size)) (w0 := wr) B (by simp [Region.wanted]) (.tmp 45) (.tmp 47) 22 30 (.slice none 0 0) 24 rfl Tryd.underlying22 info30 rfl (by decide) (by decide) v45 (out.take m) [e] (some ⟨wr.heap.size + 1, 0, none⟩) 1 1 anyK (fun k => k < wr.heap.size) (by simp [Act.eval, Act.put]) (by simp [Act.eval, Act.put]) HO5.out HE5.out (fun _ _ h => h) (fun k hk => ⟨trivial, fun e => by have := HN5.out k e.symm; omega⟩) (fun _ _ => trivial) ((HB5.out).mono HBB.out) (Nat.le_trans HBB.out (HB5.out).size) (by simp; omega) ?_
                   intro v48 w6 ho6 hb6 hg6 hat6
                   have HO6 := Aside0.mk ho6
                   have HB6 : Aside0 (Below wr.heap.size wr w6) := ⟨(HB5.out).grown hg6 (HB5.out).size HN5.out⟩
                   have HN6 : Aside0 (∀ k, v48.ownBlock = some k → wr.heap.size ≤ k) := ⟨fun k hk => by rcases hat6 with e1 | ⟨b, e1, e2⟩; exact HN5.out k (e1.symm.trans hk); (rw [e1] at hk; injection hk with hk; subst hk; exact Nat.le_trans (HB5.out).size e2)⟩
                   clear ho6 hb6 hg6 hat6)
                | (refine Kd.R_append_rows_step KL (Rr := KL.M w5 B (fun k => k < wr.heap.size)) (w0 := wr) B (by simp [Region.wanted]) (.tmp 45) (.tmp 47) 22 30 (.slice none 0 0) 24 rfl Tryd.underlying22 info30 rfl (by decide) (by decide) v45 (out.take m) [e] (some ⟨wr.heap.size, 0, none⟩) 1 1 anyK (fun k => k < wr.heap.size) (by simp [Act.eval, Act.put]) (by simp [Act.eval, Act.put]) HO5.out HE5.out (fun _ _ h => h) (fun k hk => ⟨trivial, fun e => by have := HN5.out k e.symm; omega⟩) (fun _ _ => trivial) ((HB5.out).mono HBB.out) (Nat.le_trans HBB.out (HB5.out).size) (by simp; omega) ?_
                   intro v48 w6 ho6 hb6 hg6 hat6
                   have HO6 := Aside0.mk ho6
                   have HB6 : Aside0 (Below wr.heap.size wr w6) := ⟨(HB5.out).grown hg6 (HB5.out).size HN5.out⟩
                   have HN6 : Aside0 (∀ k, v48.ownBlock = some k → wr.heap.size ≤ k) := ⟨fun k hk => by rcases hat6 with e1 | ⟨b, e1, e2⟩; exact HN5.out k (e1.symm.trans hk); (rw [e1] at hk; injection hk with hk; subst hk; exact Nat.le_trans (HB5.out).size e2)⟩
                   clear ho6 hb6 hg6 hat6)
                | (refine Kd.R_append_rows_step KL (Rr := KL.M w6 B (fun k => k < wr.heap.size)) (w0 := wr) B (by simp [Region.wanted]) (.tmp 48) (.tmp 51) 22 30 (.slice none 0 0) 24 rfl Tryd.underlying22 info30 rfl (by decide) (by decide) v48 (out.take m ++ [e]) (out.drop m) A2 n2 c2 anyK (fun k => k < wr.heap.size) (by simp [Act.eval, Act.put]) (by simp [Act.eval, Act.put]) HO6.out (HK3.out _ HB6.out) (fun _ _ h => h) (fun k hk => ⟨trivial, fun e => by have := HN6.out k e.symm; omega⟩) (fun _ _ => trivial) ((HB6.out).mono HBB.out) (Nat.le_trans HBB.out (HB6.out).size) (by simp; omega) ?_
                   intro v52 w7 ho7 hb7 hg7 hat7
                   have HO7 := Aside0.mk ho7
                   have HB7 := Aside0.mk (HB6.out.grown hg7 HB6.out.size HN6.out)
                   clear ho7 hb7 hg7 hat7)
                | (refine Kd.R_append_rows_step KL (Rr := KL.M ((wr.drew.alloc (.cells #[] 30)).alloc (.cells #[.slice A0 e.length c0] 30)) B (fun k => k < wr.heap.size)) (w0 := wr) B (by simp [Region.wanted]) (.tmp 41) (.tmp 44) 22 30 (.slice none 0 0) 24 rfl Tryd.underlying22 info30 rfl (by decide) (by decide) (.slice (some ⟨wr.heap.size, 0, none⟩) 0 0) [] (out.take m) Ao m co anyK (fun k => k < wr.heap.size) (by simp [Act.eval, Act.put]) (by simp [Act.eval, Act.put]) (Kd.R_below (lit_noneL wr.drew B HBB.out) ((Below.refl _ _).alloc (Nat.le_refl _) _)) (HK1.out _ HA1b.out) (fun _ _ h => h) (fun k hk => ⟨trivial, fun e => by simp [Value.ownBlock] at e; omega⟩) (fun _ _ => trivial) ((HA1b.out).mono HBB.out) (Nat.le_trans HBB.out (HA1b.out).size) (by simp; omega) ?_
                   intro v45 w5 ho5 hb5 hg5 hat5
                   have HO5 := Aside0.mk ho5
                   have HB5 : Aside0 (Below wr.heap.size wr w5) := ⟨(HA1b.out).grown hg5 (HA1b.out).size (fun k hk => by simp [Value.ownBlock] at hk; omega)⟩
                   have HN5 : Aside0 (∀ k, v45.ownBlock = some k → wr.heap.size ≤ k) := ⟨fun k hk => by rcases hat5 with e1 | ⟨b, e1, e2⟩; (rw [e1] at hk; simp [Value.ownBlock] at hk; omega); (rw [e1] at hk; injection hk with hk; subst hk; simp at e2; omega)⟩
                   have HE5 : Aside0 (ReadsRow (KL.M w5 B (fun k => k < wr.heap.size)) 1 w5 (some ⟨wr.heap.size + 1, 0, none⟩) 1 [e]) := ⟨row_grown HEb.out hg5 (by simp [Value.ownBlock]) (fun k hk e => by simp [Value.ownBlock] at e; omega)⟩
                   clear ho5 hb5 hg5 hat5)
                | (refine Kd.R_append_rows_step KL (Rr := KL.M ((wr.drew.alloc (.cells #[.slice A0 e.length c0] 30)).alloc (.cells #[] 30)) B (fun k => k < wr.heap.size)) (w0 := wr) B (by simp [Region.wanted]) (.tmp 41) (.tmp 44) 22 30 (.slice none 0 0) 24 rfl Tryd.underlying22 info30 rfl (by decide) (by decide) (.slice (some ⟨wr.heap.size + 1, 0, none⟩) 0 0) [] (out.take m) Ao m co anyK (fun k => k < wr.heap.size) (by simp [Act.eval, Act.put]) (by simp [Act.eval, Act.put]) HLc.out (HK1.out _ HA1c.out) (fun _ _ h => h) (fun k hk => ⟨trivial, fun e => by simp [Value.ownBlock] at e; omega⟩) (fun _ _ => trivial) ((HA1c.out).mono HBB.out) (Nat.le_trans HBB.out (HA1c.out).size) (by simp; omega) ?_
                   intro v45 w5 ho5 hb5 hg5 hat5
                   have HO5 := Aside0.mk ho5
                   have HB5 : Aside0 (Below wr.heap.size wr w5) := ⟨(HA1c.out).grown hg5 (HA1c.out).size (fun k hk => by simp [Value.ownBlock] at hk; omega)⟩
                   have HN5 : Aside0 (∀ k, v45.ownBlock = some k → wr.heap.size ≤ k) := ⟨fun k hk => by rcases hat5 with e1 | ⟨b, e1, e2⟩; (rw [e1] at hk; simp [Value.ownBlock] at hk; omega); (rw [e1] at hk; injection hk with hk; subst hk; simp at e2; omega)⟩
                   have HE5 : Aside0 (ReadsRow (KL.M w5 B (fun k => k < wr.heap.size)) 1 w5 (some ⟨wr.heap.size, 0, none⟩) 1 [e]) := ⟨row_grown HEc.out hg5 (by simp [Value.ownBlock]) (fun k hk e => by simp [Value.ownBlock] at e; omega)⟩
                   clear ho5 hb5 hg5 hat5))
              all_goals
                clear hcut1 hcut2
                go_wp2
                go_roundg (ko - 1)
                case measure => have := hk.out; omega
                case rel =>
                  obtain ⟨hp1, hp2⟩ := insert_ok hperm.out hpw.out HPRE.out HPOST.out
                  refine ⟨j + 1, _, by go_num, by omega, ⟨by have := hk.out; omega⟩, HO7, ⟨by rw [List.take_succ_eq_append_getElem hlt, ← HE.out]; exact hp1⟩, ⟨hp2⟩, ⟨HBq.out.trans (HB7.out.mono HBq.out.size)⟩, ⟨HBy.out.trans (HB7.out.mono HBy.out.size)⟩⟩
        · have hje : j = y.length := by omega
          subst hje
          go_wp2
          go_ret
          refine ⟨_, y, out, rfl, HO.out, HS.out, HDN.out, ?_, hpw.out, HB.out⟩
          have := hperm.out
          rwa [List.take_of_length_le (Nat.le_refl _)] at this

end Go.Proofs.YtnnfhnehieoeaaaDoor.Hy
