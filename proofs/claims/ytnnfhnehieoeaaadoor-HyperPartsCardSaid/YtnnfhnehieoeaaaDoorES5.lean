/- One lemma of B5 alone (for merge2.py, which leaves B5 out). -/
import Derived.Test.YtnnfhnehieoeaaaDoorGB1
import Derived.Test.YtnnfhnehieoeaaaDoorGQ3
namespace Go.Proofs.YtnnfhnehieoeaaaDoor.Hy
open Go.RowKit
theorem w64s (n : Nat) (h : n ≤ 1000000) : wrap64 ((n : Int) + 1) = ((n + 1 : Nat) : Int) := by unfold wrap64; omega
end Go.Proofs.YtnnfhnehieoeaaaDoor.Hy

/- The document's Right, With, Part, Parts, as printed, in plain words. -/
namespace Go.Proofs.YtnnfhnehieoeaaaDoor.Hy
open Go.RowKit Go.Shelf Go.Proofs.YtnnfhnehieoeaaaDoorW.PrintWords Go.Proofs.YtnnfhnehieoeaaaDoorW.PrintLast Go.Proofs.YtnnfhnehieoeaaaDoorW.PrintMore Go.Proofs.YtnnfhnehieoeaaaDoor.PHyperTells
set_option linter.unusedVariables false
set_option linter.unusedSimpArgs false

def okAt (many : Int) (e : List Int) (j : Nat) : Bool := vtx many (rd e j) && risesAt e j (rd e j)

set_option maxRecDepth 100000 in
theorem right_l1 (many : Int) (xs : List (List Int)) (e : List Int) (he : e.length ≤ 1000) (i : Nat) (hi : i ≤ 1000) : ∀ (d j k : Nat), j + d = e.length → d + 1 ≤ k →
    ((∀ j', j ≤ j' → j' < e.length → okAt many e j' = true) → ∃ k', k ≤ k' + (d + 1) ∧ colanderref20_Right.l1 k e xs xs.length i e e.length (j : Int) many xs = colanderref20_Right.l0 k' xs xs.length ((i + 1 : Nat) : Int) many xs) ∧
    ((∃ j', j ≤ j' ∧ j' < e.length ∧ okAt many e j' = false) → colanderref20_Right.l1 k e xs xs.length i e e.length (j : Int) many xs = some false) := by
  intro d
  induction d with
  | zero =>
    intro j k hj hk
    obtain ⟨k, rfl⟩ : ∃ q, k = q + 1 := ⟨k - 1, by omega⟩
    simp only [colanderref20_Right.l1]
    rw [if_neg (by omega), w64s i (by omega)]
    exact ⟨fun _ => ⟨k, by omega, rfl⟩, fun ⟨j', h1, h2, _⟩ => by omega⟩
  | succ d ih =>
    intro j k hj hk
    obtain ⟨k, rfl⟩ : ∃ q, k = q + 1 := ⟨k - 1, by omega⟩
    have hjl : j < e.length := by omega
    obtain ⟨g1, g2⟩ := ih (j + 1) k (by omega) (by omega)
    have hsplit : (∀ j', j ≤ j' → j' < e.length → okAt many e j' = true) → okAt many e j = true ∧ ∀ j', j + 1 ≤ j' → j' < e.length → okAt many e j' = true := fun h => ⟨h j (Nat.le_refl _) hjl, fun j' h1 h2 => h j' (by omega) h2⟩
    have hsplit2 : (∃ j', j ≤ j' ∧ j' < e.length ∧ okAt many e j' = false) → okAt many e j = true → ∃ j', j + 1 ≤ j' ∧ j' < e.length ∧ okAt many e j' = false := fun ⟨j', h1, h2, h3⟩ ht => by
      by_cases ee : j' = j
      · subst ee; rw [ht] at h3; cases h3
      · exact ⟨j', by omega, h2, h3⟩
    have bad : okAt many e j = false → ((∀ j', j ≤ j' → j' < e.length → okAt many e j' = true) → ∃ k', k + 1 ≤ k' + (d + 1 + 1) ∧ (some false : Option Bool) = colanderref20_Right.l0 k' xs xs.length ((i + 1 : Nat) : Int) many xs) ∧ ((∃ j', j ≤ j' ∧ j' < e.length ∧ okAt many e j' = false) → (some false : Option Bool) = some false) := fun hf =>
      ⟨fun h => absurd (hsplit h).1 (by rw [hf]; decide), fun _ => rfl⟩
    have good : okAt many e j = true → ((∀ j', j ≤ j' → j' < e.length → okAt many e j' = true) → ∃ k', k + 1 ≤ k' + (d + 1 + 1) ∧ colanderref20_Right.l1 k e xs xs.length i e e.length ((j + 1 : Nat) : Int) many xs = colanderref20_Right.l0 k' xs xs.length ((i + 1 : Nat) : Int) many xs) ∧ ((∃ j', j ≤ j' ∧ j' < e.length ∧ okAt many e j' = false) → colanderref20_Right.l1 k e xs xs.length i e e.length ((j + 1 : Nat) : Int) many xs = some false) := fun hf =>
      ⟨fun h => by obtain ⟨k', hk', ee⟩ := g1 (hsplit h).2; exact ⟨k', by omega, ee⟩, fun h => g2 (hsplit2 h hf)⟩
    simp only [colanderref20_Right.l1]
    rw [if_pos (show (j : Int) < e.length by omega), if_pos (show (0 : Int) ≤ j by omega), if_pos (show (j : Int) < e.length by omega), w64s j (by omega)]
    unfold okAt vtx risesAt at bad good
    by_cases h1 : rd e (j : Int) < 0
    · rw [if_pos h1]; exact bad (by rw [decide_eq_false (show ¬ 0 ≤ rd e (j : Int) by omega)]; rfl)
    · rw [if_neg h1]
      by_cases h2 : rd e (j : Int) ≥ many
      · rw [if_pos h2]; exact bad (by rw [decide_eq_false (show ¬ rd e (j : Int) < many by omega)]; simp)
      · rw [if_neg h2]
        by_cases h3 : (j : Int) > 0
        · have hw : wrap64 ((j : Int) - 1) = (j : Int) - 1 := by unfold wrap64; omega
          rw [if_pos h3, hw, if_pos (by omega), if_pos (by omega)]
          by_cases h4 : rd e ((j : Int) - 1) ≥ rd e (j : Int)
          · rw [if_pos h4]
            exact bad (by rw [decide_eq_false (show ¬ (j : Int) = 0 by omega), decide_eq_false (show ¬ rd e ((j : Int) - 1) < rd e (j : Int) by omega)]; simp)
          · rw [if_neg h4]
            exact good (by rw [decide_eq_true (show 0 ≤ rd e (j : Int) by omega), decide_eq_true (show rd e (j : Int) < many by omega), decide_eq_true (show rd e ((j : Int) - 1) < rd e (j : Int) by omega)]; simp)
        · rw [if_neg h3]
          exact good (by rw [decide_eq_true (show 0 ≤ rd e (j : Int) by omega), decide_eq_true (show rd e (j : Int) < many by omega), decide_eq_true (show (j : Int) = 0 by omega)]; simp)

theorem edge_ok (many : Int) (e : List Int) : edgeB many e = true ↔ ∀ j, j < e.length → okAt many e j = true := by
  unfold edgeB okAt
  rw [Bool.and_eq_true, allB_iff, allB_iff]
  constructor
  · rintro ⟨h1, h2⟩ j hj; rw [Bool.and_eq_true]; exact ⟨h1 j hj, h2 j hj⟩
  · intro h
    have := fun j hj => Bool.and_eq_true _ _ ▸ h j hj
    exact ⟨fun j hj => (this j hj).1, fun j hj => (this j hj).2⟩

set_option maxRecDepth 100000 in
theorem right_l0 (many : Int) (xs : List (List Int)) (ht : tame xs) : ∀ (d i k : Nat), i + d = xs.length → d * 2000 + 1 ≤ k →
    colanderref20_Right.l0 k xs xs.length (i : Int) many xs = some ((List.range' i d).all (fun i => edgeB many (rdL xs i))) := by
  have hx := ht.1
  intro d
  induction d with
  | zero =>
    intro i k hi hk
    obtain ⟨k, rfl⟩ : ∃ q, k = q + 1 := ⟨k - 1, by omega⟩
    simp only [colanderref20_Right.l0]
    rw [if_neg (by omega)]; rfl
  | succ d ih =>
    intro i k hi hk
    obtain ⟨k, rfl⟩ : ∃ q, k = q + 1 := ⟨k - 1, by omega⟩
    have hil : i < xs.length := by omega
    have hrl : rd_L1 xs (i : Int) = rdL xs i := by simp [rd_L1, rdL]
    have hel : (rdL xs i).length ≤ 1000 := by rw [rdL_at xs i hil]; exact ht.2 _ (List.getElem_mem hil)
    simp only [colanderref20_Right.l0]
    rw [if_pos (by omega), if_pos (by omega), if_pos (by omega), hrl]
    obtain ⟨g1, g2⟩ := right_l1 many xs (rdL xs i) hel i (by omega) (rdL xs i).length 0 k (by omega) (by omega)
    rw [List.range'_succ, List.all_cons]
    cases he : edgeB many (rdL xs i) with
    | true =>
      obtain ⟨k', hk', e⟩ := g1 (fun j _ hj => (edge_ok _ _).1 he j hj)
      have e' : colanderref20_Right.l1 k (rdL xs i) xs xs.length i (rdL xs i) (rdL xs i).length 0 many xs = _ := e
      rw [e', ih (i + 1) k' (by omega) (by omega), Bool.true_and]
    | false =>
      rw [Bool.false_and]
      refine g2 ?_
      apply Classical.byContradiction
      intro hno
      have : edgeB many (rdL xs i) = true := (edge_ok _ _).2 fun j hj => by
        cases h : okAt many (rdL xs i) j with
        | true => rfl
        | false => exact absurd ⟨j, Nat.zero_le _, hj, h⟩ hno
      rw [he] at this; cases this

set_option maxRecDepth 100000 in
theorem right_f (many : Int) (xs : List (List Int)) (ht : tame xs) : colanderref20_Right.f 10000000 many xs = some (rightB many xs) := by
  have hx := ht.1
  have hl0 := right_l0 many xs ht xs.length 0 9999999 (by omega) (by omega)
  have hr : (List.range' 0 xs.length).all (fun i => edgeB many (rdL xs i)) = allB (fun i => edgeB many (rdL xs i)) xs.length := by unfold allB; rw [List.range_eq_range']
  rw [hr] at hl0
  unfold colanderref20_Right.f rightB sizesB
  by_cases h1 : many < 0
  · rw [if_pos h1, decide_eq_false (show ¬ 0 ≤ many by omega)]
    simp [colanderref20_Right.j0]
  · rw [if_neg h1, decide_eq_true (show 0 ≤ many by omega)]
    by_cases h2 : many > 32
    · rw [if_pos h2, decide_eq_false (show ¬ many ≤ 32 by omega)]
      simp [colanderref20_Right.j0]
    · rw [if_neg h2, decide_eq_true (show many ≤ 32 by omega)]
      by_cases h3 : (xs.length : Int) > 40
      · rw [decide_eq_true h3, decide_eq_false (show ¬ (xs.length : Int) ≤ 40 by omega)]
        simp [colanderref20_Right.j0]
      · rw [decide_eq_false h3, decide_eq_true (show (xs.length : Int) ≤ 40 by omega)]
        show colanderref20_Right.j0 (9999999 + 1) false many xs = _
        simp only [colanderref20_Right.j0]
        rw [if_neg (show ¬ (false = true) by decide)]
        exact hl0

theorem refRight_any (many : Int) (A : Option Addr) (c : Nat) (xs : List (List Int)) (w : World) (hr : KL.C w A xs.length xs) (hc0 : xs.length ≤ c) (ht : tame xs) :
    Calls Tryd.prog 8 #[.agg #[.int .i64 many, .slice A xs.length c]] w fun e w' => e = .returned (.bool (rightB many xs)) ∧ Below w.heap.size w w' :=
  colanderref20_Right.calls 10000000 many A c xs _ w hr hc0 (right_f many xs ht)

end Go.Proofs.YtnnfhnehieoeaaaDoor.Hy

/- The document's With, Part, Parts, as printed, in plain words. -/
namespace Go.Proofs.YtnnfhnehieoeaaaDoor.Hy
open Go.RowKit Go.Shelf Go.Proofs.YtnnfhnehieoeaaaDoorW.PrintWords Go.Proofs.YtnnfhnehieoeaaaDoorW.PrintLast Go.Proofs.YtnnfhnehieoeaaaDoorW.PrintMore Go.Proofs.YtnnfhnehieoeaaaDoor.PHyperTells
set_option linter.unusedVariables false
set_option linter.unusedSimpArgs false

theorem nice_len {e : List Int} (h : nice e) : e.length ≤ 64 := by rw [← bitsL_setOf h]; exact bitsL_length _

/-- numbers, rising, with one more -/
def withL (l : List Int) (n : Int) : List Int := l.filter (fun x => decide (x < n)) ++ [n] ++ l.filter (fun x => decide (x > n))

theorem with_l1 (n : Int) (l : List Int) (hl : l.length ≤ 1000) : ∀ (d i k : Nat) (acc : List Int), i + d = l.length → d < k → acc.length + d ≤ 100000 →
    colanderref20_With.l1 k n acc l l.length (i : Int) = some (acc ++ (l.drop i).filter (fun x => decide (x > n))) := by
  intro d
  induction d with
  | zero =>
    intro i k acc hi hk ha
    obtain ⟨k, rfl⟩ : ∃ q, k = q + 1 := ⟨k - 1, by omega⟩
    simp only [colanderref20_With.l1]
    rw [if_neg (by omega), List.drop_of_length_le (by omega)]; simp
  | succ d ih =>
    intro i k acc hi hk ha
    obtain ⟨k, rfl⟩ : ∃ q, k = q + 1 := ⟨k - 1, by omega⟩
    have hil : i < l.length := by omega
    have hrd : rd l (i : Int) = l[i] := by simp [rd, List.getD_eq_getElem?_getD, List.getElem?_eq_getElem hil]
    simp only [colanderref20_With.l1]
    rw [if_pos (by omega), if_pos (by omega), if_pos (by omega), hrd, w64s i (by omega), List.drop_eq_getElem_cons hil, List.filter_cons]
    by_cases h : l[i] > n
    · rw [if_pos h, if_pos (by omega), ih (i + 1) k _ (by omega) (by omega) (by simp; omega)]
      simp [h]
    · rw [if_neg h, ih (i + 1) k _ (by omega) (by omega) (by omega)]
      simp [h]
theorem with_l0 (n : Int) (l : List Int) (hl : l.length ≤ 1000) : ∀ (d i k : Nat) (acc : List Int), i + d = l.length → d + l.length + 2 < k → acc.length + d ≤ 2000 →
    colanderref20_With.l0 k l n acc l l.length (i : Int) = some (acc ++ (l.drop i).filter (fun x => decide (x < n)) ++ [n] ++ l.filter (fun x => decide (x > n))) := by
  intro d
  induction d with
  | zero =>
    intro i k acc hi hk ha
    obtain ⟨k, rfl⟩ : ∃ q, k = q + 1 := ⟨k - 1, by omega⟩
    simp only [colanderref20_With.l0]
    rw [if_neg (by omega), if_pos (by omega), List.drop_of_length_le (by omega)]
    have := with_l1 n l hl l.length 0 k (acc ++ [n]) (by omega) (by omega) (by simp; omega)
    simpa using this
  | succ d ih =>
    intro i k acc hi hk ha
    obtain ⟨k, rfl⟩ : ∃ q, k = q + 1 := ⟨k - 1, by omega⟩
    have hil : i < l.length := by omega
    have hrd : rd l (i : Int) = l[i] := by simp [rd, List.getD_eq_getElem?_getD, List.getElem?_eq_getElem hil]
    simp only [colanderref20_With.l0]
    rw [if_pos (by omega), if_pos (by omega), if_pos (by omega), hrd, w64s i (by omega), List.drop_eq_getElem_cons hil, List.filter_cons]
    by_cases h : l[i] < n
    · rw [if_pos h, if_pos (by omega), ih (i + 1) k _ (by omega) (by omega) (by simp; omega)]
      simp [h]
    · rw [if_neg h, ih (i + 1) k _ (by omega) (by omega) (by omega)]
      simp [h]
theorem with_f (n : Int) (l : List Int) (hl : l.length ≤ 1000) (k : Nat) (hk : 2 * l.length + 2 < k) : colanderref20_With.f k l n = some (withL l n) := by
  have := with_l0 n l hl l.length 0 k [] (by omega) (by omega) (by simp; omega)
  simpa [colanderref20_With.f, withL] using this

theorem withL_mem (l : List Int) (n u : Int) : u ∈ withL l n ↔ u ∈ l ∨ u = n := by
  unfold withL
  simp only [List.mem_append, List.mem_filter, List.mem_singleton, decide_eq_true_eq]
  constructor
  · rintro ((h | h) | h)
    · exact .inl h.1
    · exact .inr h
    · exact .inl h.1
  · rintro (h | h)
    · rcases Int.lt_trichotomy u n with h1 | h1 | h1
      · exact .inl (.inl ⟨h, h1⟩)
      · exact .inl (.inr h1)
      · exact .inr ⟨h, h1⟩
    · exact .inl (.inr h)
theorem withL_nice {l : List Int} (h : nice l) (n : Int) (h0 : 0 ≤ n) (h1 : n < 64) : nice (withL l n) := by
  refine ⟨fun v hv => ?_, ?_⟩
  · rcases (withL_mem l n v).1 hv with h2 | h2
    · exact h.1 v h2
    · subst h2; exact ⟨h0, h1⟩
  · unfold withL
    rw [List.append_assoc, List.pairwise_append]
    refine ⟨h.2.filter _, ?_, ?_⟩
    · rw [List.singleton_append, List.pairwise_cons]
      exact ⟨fun a ha => by have := (List.mem_filter.1 ha).2; simpa using this, h.2.filter _⟩
    · intro a ha b hb
      have ha2 := (List.mem_filter.1 ha).2
      simp only [decide_eq_true_eq] at ha2
      rw [List.singleton_append, List.mem_cons] at hb
      rcases hb with rfl | hb
      · exact ha2
      · have := (List.mem_filter.1 hb).2; simp only [decide_eq_true_eq] at this; omega

/-- an edge that meets a part goes into it -/
def eatL (out e : List Int) : List Int := if e.any (fun x => out.contains x) then e.foldl withL out else out
def passL (xs : List (List Int)) (out : List Int) : List Int := xs.foldl eatL out
def passes (xs : List (List Int)) : Nat → List Int → List Int
  | 0, out => out
  | n + 1, out => passes xs n (passL xs out)

theorem fold_nice {e : List Int} (he : small e) : ∀ {out : List Int}, nice out → nice (e.foldl withL out) := by
  induction e with
  | nil => intro out h; exact h
  | cons a l ih => intro out h; exact ih (fun v hv => he v (List.mem_cons_of_mem _ hv)) (withL_nice h a (he a List.mem_cons_self).1 (he a List.mem_cons_self).2)
theorem eatL_nice {out e : List Int} (ho : nice out) (he : small e) : nice (eatL out e) := by
  unfold eatL; split
  · exact fold_nice he ho
  · exact ho
theorem passL_nice {xs : List (List Int)} (hx : ∀ e, e ∈ xs → small e) : ∀ {out : List Int}, nice out → nice (passL xs out) := by
  unfold passL
  induction xs with
  | nil => intro out h; exact h
  | cons a l ih => intro out h; exact ih (fun e he => hx e (List.mem_cons_of_mem _ he)) (eatL_nice h (hx a List.mem_cons_self))
theorem passes_nice {xs : List (List Int)} (hx : ∀ e, e ∈ xs → small e) : ∀ (n : Nat) {out : List Int}, nice out → nice (passes xs n out)
  | 0, out, h => h
  | n + 1, out, h => passes_nice hx n (passL_nice hx h)

section
variable (many : Int) (xs : List (List Int))

set_option maxRecDepth 100000 in
theorem part_l3 (e : List Int) (he : nice e) (meets : Bool) (i j : Nat) (hj : j ≤ 1000) : ∀ (d t k : Nat) (out : List Int), nice out → t + d = e.length → d + 300 ≤ k →
    ∃ k', k ≤ k' + (d + 1) ∧ colanderref20_Part.l3 k out meets many i xs xs.length j e e.length (t : Int) many xs =
      colanderref20_Part.l1 k' (if meets then (e.drop t).foldl withL out else out) many i xs xs.length ((j + 1 : Nat) : Int) many xs := by
  have hel := nice_len he
  intro d
  induction d with
  | zero =>
    intro t k out ho ht hk
    obtain ⟨k, rfl⟩ : ∃ q, k = q + 1 := ⟨k - 1, by omega⟩
    refine ⟨k, by omega, ?_⟩
    simp only [colanderref20_Part.l3]
    rw [if_neg (by omega), w64s j (by omega), List.drop_of_length_le (by omega)]
    cases meets <;> rfl
  | succ d ih =>
    intro t k out ho ht hk
    obtain ⟨k, rfl⟩ : ∃ q, k = q + 1 := ⟨k - 1, by omega⟩
    have htl : t < e.length := by omega
    have hrd : rd e (t : Int) = e[t] := by simp [rd, List.getD_eq_getElem?_getD, List.getElem?_eq_getElem htl]
    have hb := he.1 _ (List.getElem_mem htl)
    have hol := nice_len ho
    simp only [colanderref20_Part.l3]
    rw [if_pos (by omega), if_pos (by omega), if_pos (by omega), hrd, w64s t (by omega)]
    cases meets with
    | true =>
      rw [if_pos rfl, with_f _ _ (by omega) k (by omega)]
      simp only [Option.bind_some]
      obtain ⟨k', hk', e1⟩ := ih (t + 1) k (withL out e[t]) (withL_nice ho _ hb.1 hb.2) (by omega) (by omega)
      refine ⟨k', by omega, ?_⟩
      rw [e1, List.drop_eq_getElem_cons htl, List.foldl_cons]
      simp
    | false =>
      rw [if_neg (by decide)]
      obtain ⟨k', hk', e1⟩ := ih (t + 1) k out ho (by omega) (by omega)
      exact ⟨k', by omega, e1⟩

set_option maxRecDepth 100000 in
theorem part_l2 (e : List Int) (he : nice e) (i j : Nat) (hj : j ≤ 1000) (out : List Int) (ho : nice out) : ∀ (d t k : Nat) (meets : Bool), t + d = e.length → d + 500 ≤ k →
    ∃ k', k ≤ k' + (d + 100) ∧ colanderref20_Part.l2 k out e meets many i xs xs.length j e e.length (t : Int) many xs =
      colanderref20_Part.l1 k' (if (meets || (e.drop t).any (fun x => out.contains x)) then e.foldl withL out else out) many i xs xs.length ((j + 1 : Nat) : Int) many xs := by
  have hel := nice_len he
  have hol := nice_len ho
  intro d
  induction d with
  | zero =>
    intro t k meets ht hk
    obtain ⟨k, rfl⟩ : ∃ q, k = q + 1 := ⟨k - 1, by omega⟩
    simp only [colanderref20_Part.l2]
    obtain ⟨k', hk', e1⟩ := part_l3 many xs e he meets i j hj e.length 0 k out ho (by omega) (by omega)
    refine ⟨k', by omega, ?_⟩
    rw [if_neg (by omega), List.drop_of_length_le (show e.length ≤ t by omega)]
    have e2 : colanderref20_Part.l3 k out meets many i xs xs.length j e e.length 0 many xs = _ := e1
    rw [e2]
    simp
  | succ d ih =>
    intro t k meets ht hk
    obtain ⟨k, rfl⟩ : ∃ q, k = q + 1 := ⟨k - 1, by omega⟩
    have htl : t < e.length := by omega
    have hrd : rd e (t : Int) = e[t] := by simp [rd, List.getD_eq_getElem?_getD, List.getElem?_eq_getElem htl]
    simp only [colanderref20_Part.l2]
    rw [if_pos (by omega), if_pos (by omega), if_pos (by omega), hrd, w64s t (by omega)]
    cases meets with
    | true =>
      rw [if_pos rfl]
      obtain ⟨k', hk', e1⟩ := ih (t + 1) k true (by omega) (by omega)
      exact ⟨k', by omega, by rw [e1]; simp⟩
    | false =>
      rw [if_neg (by decide), has_f _ _ (by omega) k (by omega)]
      simp only [Option.bind_some]
      obtain ⟨k', hk', e1⟩ := ih (t + 1) k (out.contains e[t]) (by omega) (by omega)
      refine ⟨k', by omega, ?_⟩
      rw [e1, List.drop_eq_getElem_cons htl, List.any_cons, Bool.false_or]

set_option maxRecDepth 100000 in
theorem part_l1 (hx : xs.length ≤ 1000) (hn : ∀ e, e ∈ xs → nice e) (i : Nat) (hi : i ≤ 1000) : ∀ (d j k : Nat) (out : List Int), nice out → j + d = xs.length → d * 200 + 1000 ≤ k →
    ∃ k', k ≤ k' + (d * 200 + 1) ∧ colanderref20_Part.l1 k out many i xs xs.length (j : Int) many xs = colanderref20_Part.l0 k' ((xs.drop j).foldl eatL out) many ((i + 1 : Nat) : Int) many xs := by
  intro d
  induction d with
  | zero =>
    intro j k out ho hj hk
    obtain ⟨k, rfl⟩ : ∃ q, k = q + 1 := ⟨k - 1, by omega⟩
    refine ⟨k, by omega, ?_⟩
    simp only [colanderref20_Part.l1]
    rw [if_neg (by omega), w64s i (by omega), List.drop_of_length_le (by omega)]; rfl
  | succ d ih =>
    intro j k out ho hj hk
    obtain ⟨k, rfl⟩ : ∃ q, k = q + 1 := ⟨k - 1, by omega⟩
    have hjl : j < xs.length := by omega
    have hrl : rd_L1 xs (j : Int) = xs[j] := by simp [rd_L1, List.getD_eq_getElem?_getD, List.getElem?_eq_getElem hjl]
    have hne := hn _ (List.getElem_mem hjl)
    have hel := nice_len hne
    simp only [colanderref20_Part.l1]
    rw [if_pos (by omega), if_pos (by omega), if_pos (by omega), hrl]
    obtain ⟨k', hk', e1⟩ := part_l2 many xs xs[j] hne i j (by omega) out ho xs[j].length 0 k false (by omega) (by omega)
    have e2 : colanderref20_Part.l2 k out xs[j] false many i xs xs.length j xs[j] xs[j].length 0 many xs = _ := e1
    rw [e2, Bool.false_or, List.drop_zero]
    obtain ⟨k2, hk2, e3⟩ := ih (j + 1) k' (eatL out xs[j]) (eatL_nice ho hne.1) (by omega) (by omega)
    refine ⟨k2, by omega, ?_⟩
    rw [List.drop_eq_getElem_cons hjl, List.foldl_cons]
    exact e3

set_option maxRecDepth 100000 in
theorem part_l0 (C : Nat) (hC : 201003 ≤ C) (m : Nat) (hm : m ≤ 1000) (hx : xs.length ≤ 1000) (hn : ∀ e, e ∈ xs → nice e) : ∀ (d i k : Nat) (out : List Int), nice out → i + d = m → d * C + 1 ≤ k →
    colanderref20_Part.l0 k out m (i : Int) m xs = some (passes xs d out) := by
  intro d
  induction d with
  | zero =>
    intro i k out ho hi hk
    obtain ⟨k, rfl⟩ : ∃ q, k = q + 1 := ⟨k - 1, by omega⟩
    simp only [colanderref20_Part.l0]
    rw [if_neg (by omega)]; rfl
  | succ d ih =>
    intro i k out ho hi hk
    have hmul : (d + 1) * C = d * C + C := Nat.succ_mul d C
    obtain ⟨k, rfl⟩ : ∃ q, k = q + 1 := ⟨k - 1, by omega⟩
    simp only [colanderref20_Part.l0]
    rw [if_pos (by omega)]
    obtain ⟨k', hk', e1⟩ := part_l1 m xs hx hn i (by omega) xs.length 0 k out ho (by omega) (by omega)
    have e2 : colanderref20_Part.l1 k out m i xs xs.length 0 m xs = colanderref20_Part.l0 k' (passL xs out) m ((i + 1 : Nat) : Int) m xs := e1
    have hk2 : d * C + 1 ≤ k' := by omega
    rw [e2, ih (i + 1) k' _ (passL_nice (fun e he => (hn e he).1) ho) (by omega) hk2]
    rfl
end

set_option maxRecDepth 100000 in
theorem part_f (m : Nat) (hm : m ≤ 32) (xs : List (List Int)) (hx : xs.length ≤ 1000) (hn : ∀ e, e ∈ xs → nice e) (v : Int) (h0 : 0 ≤ v) (h1 : v < 64) (k : Nat) (hk : 10000000 ≤ k) : colanderref20_Part.f k m xs v = some (passes xs m [v]) := by
  have := part_l0 xs 210000 (by omega) m (by omega) hx hn m 0 k [v] ⟨fun u hu => by rw [List.mem_singleton.1 hu]; exact ⟨h0, h1⟩, List.pairwise_singleton _ _⟩ (by omega) (by omega)
  exact this

/-- the document's Parts -/
def refParts (m : Nat) (xs : List (List Int)) (n : Nat) : List (List Int) := ((List.range n).filter (fun v : Nat => (passes xs m [(v : Int)]).getD 0 0 == (v : Int))).map (fun v : Nat => passes xs m [(v : Int)])

theorem refParts_succ (m : Nat) (xs : List (List Int)) (n : Nat) : refParts m xs (n + 1) = refParts m xs n ++ if (passes xs m [(n : Int)]).getD 0 0 == (n : Int) then [passes xs m [(n : Int)]] else [] := by
  unfold refParts
  rw [List.range_succ, List.filter_append, List.map_append]
  congr 1
  rw [List.filter_cons]
  cases h : ((passes xs m [(n : Int)]).getD 0 0 == (n : Int)) <;> rfl
theorem refParts_length (m : Nat) (xs : List (List Int)) (n : Nat) : (refParts m xs n).length ≤ n := by
  unfold refParts; rw [List.length_map]; exact Nat.le_trans (List.length_filter_le _ _) (by simp)

theorem withL_grows {l : List Int} {n u : Int} (h : u ∈ l) : u ∈ withL l n := (withL_mem l n u).2 (.inl h)
theorem eatL_grows {out e : List Int} {u : Int} (h : u ∈ out) : u ∈ eatL out e := by
  unfold eatL; split
  · have : ∀ (e out : List Int), u ∈ out → u ∈ e.foldl withL out := by
      intro e
      induction e with
      | nil => intro out h; exact h
      | cons a l ih => intro out h; exact ih _ (withL_grows h)
    exact this e out h
  · exact h
theorem passL_grows {xs : List (List Int)} {out : List Int} {u : Int} (h : u ∈ out) : u ∈ passL xs out := by
  unfold passL
  induction xs generalizing out with
  | nil => exact h
  | cons a l ih => exact ih (eatL_grows h)
theorem passes_grows {xs : List (List Int)} {u : Int} : ∀ (n : Nat) {out : List Int}, u ∈ out → u ∈ passes xs n out
  | 0, _, h => h
  | n + 1, _, h => passes_grows n (passL_grows h)

set_option maxRecDepth 100000 in
theorem parts_l0 (m : Nat) (hm : m ≤ 32) (xs : List (List Int)) (hx : xs.length ≤ 1000) (hn : ∀ e, e ∈ xs → nice e) : ∀ (d v k : Nat), v + d = m → 10000000 + d + 1 ≤ k →
    colanderref20_Parts.l0 k (refParts m xs v) m (v : Int) m xs = some (refParts m xs m) := by
  intro d
  induction d with
  | zero =>
    intro v k hv hk
    obtain ⟨k, rfl⟩ : ∃ q, k = q + 1 := ⟨k - 1, by omega⟩
    simp only [colanderref20_Parts.l0]
    have : v = m := by omega
    subst this
    rw [if_neg (by omega)]
  | succ d ih =>
    intro v k hv hk
    obtain ⟨k, rfl⟩ : ∃ q, k = q + 1 := ⟨k - 1, by omega⟩
    simp only [colanderref20_Parts.l0]
    rw [if_pos (by omega), part_f m hm xs hx hn (v : Int) (by omega) (by omega) k (by omega)]
    simp only [Option.bind_some]
    have hmem : (v : Int) ∈ passes xs m [(v : Int)] := passes_grows m List.mem_cons_self
    have hpos : 0 < (passes xs m [(v : Int)]).length := List.length_pos_of_mem hmem
    have hlen := refParts_length m xs v
    have hsucc := refParts_succ m xs v
    have hih := ih (v + 1) k (by omega) (by omega)
    have hrd : rd (passes xs m [(v : Int)]) 0 = (passes xs m [(v : Int)]).getD 0 0 := by simp [rd]
    rw [if_pos (by omega), w64s v (by omega), hrd]
    by_cases h : (passes xs m [(v : Int)]).getD 0 0 = (v : Int)
    · rw [if_pos h, if_pos (by omega)]
      rw [h, beq_self_eq_true, if_pos rfl] at hsucc
      rw [← hsucc]; exact hih
    · rw [if_neg h]
      have hb : ((passes xs m [(v : Int)]).getD 0 0 == (v : Int)) = false := by rw [beq_eq_false_iff_ne]; exact h
      rw [hb, if_neg (by decide), List.append_nil] at hsucc
      rw [← hsucc]; exact hih

theorem parts_f (m : Nat) (hm : m ≤ 32) (xs : List (List Int)) (hx : xs.length ≤ 1000) (hn : ∀ e, e ∈ xs → nice e) : colanderref20_Parts.f 10000100 m xs = some (refParts m xs m) := by
  have := parts_l0 m hm xs hx hn m 0 10000100 (by omega) (by omega)
  exact this

end Go.Proofs.YtnnfhnehieoeaaaDoor.Hy

/- Plain law: Parts says what the document's Parts says. -/
namespace Go.Proofs.YtnnfhnehieoeaaaDoor.Hy
open Go.RowKit Go.Proofs.YtnnfhnehieoeaaaDoor.PHyperTells Go.Proofs.YtnnfhnehieoeaaaDoorW.PrintWords
set_option linter.unusedVariables false
set_option linter.unusedSimpArgs false

/-- whatever edge meets it lies in it -/
def closedP (S : List Nat) (Q : Nat → Prop) : Prop := ∀ s, s ∈ S → (∃ v, vin v s ∧ Q v) → ∀ v, vin v s → Q v
structure IsCl (S : List Nat) (v q : Nat) : Prop where
  has : vin v q
  closed : closedP S (fun u => vin u q)
  least : ∀ Q, closedP S Q → Q v → ∀ u, vin u q → Q u

theorem IsCl.unique {S : List Nat} {v q q' : Nat} (h : IsCl S v q) (h' : IsCl S v q') : q = q' :=
  vin_ext fun u => ⟨h.least _ h'.closed h'.has u, h'.least _ h.closed h.has u⟩

theorem IsCl.symm {S : List Nat} {v u q q' : Nat} (h : IsCl S v q) (h' : IsCl S u q') (hu : vin u q) : q = q' := by
  have h1 : ∀ w, vin w q' → vin w q := h'.least _ h.closed hu
  by_cases hv : vin v q'
  · exact vin_ext fun w => ⟨h.least _ h'.closed hv w, h1 w⟩
  · have hD : closedP S (fun w => vin w q ∧ ¬ vin w q') := fun s hs ⟨x, hx, hxq, hxn⟩ w hw => by
      refine ⟨h.closed s hs ⟨x, hx, hxq⟩ w hw, fun hwq => ?_⟩
      exact hxn (h'.closed s hs ⟨w, hw, hwq⟩ x hx)
    exact absurd h'.has (h.least _ hD ⟨h.has, hv⟩ u hu).2

theorem vin_or (v a b : Nat) : vin v (a ||| b) ↔ vin v a ∨ vin v b := by unfold vin; rw [Nat.testBit_or, Bool.or_eq_true]
theorem vin_and (v a b : Nat) : vin v (a &&& b) ↔ vin v a ∧ vin v b := by unfold vin; rw [Nat.testBit_and, Bool.and_eq_true]
theorem vin_zero (v : Nat) : ¬ vin v 0 := fun h => by unfold vin at h; rw [Nat.zero_testBit] at h; cases h
theorem ne_zero_vin {s : Nat} : s ≠ 0 ↔ ∃ v, vin v s := by
  constructor
  · intro h
    apply Classical.byContradiction
    intro hno
    exact h (vin_ext fun v => ⟨fun hv => absurd ⟨v, hv⟩ hno, fun hv => absurd hv (vin_zero v)⟩)
  · rintro ⟨v, hv⟩ rfl; exact vin_zero v hv

theorem hits_iff {p s : Nat} (hp : p < 18446744073709551616) (hs : s < 18446744073709551616) : hits p s = true ↔ (∃ v, vin v s ∧ vin v p) ∧ ¬ ∀ v, vin v s → vin v p := by
  unfold hits
  rw [Bool.and_eq_true, bne_iff_ne, bne_iff_ne, ne_zero_vin]
  constructor
  · rintro ⟨⟨v, hv⟩, h2⟩
    refine ⟨⟨v, (vin_and _ _ _).1 hv⟩, fun h3 => h2 ((diff_sub hs hp).2 (sub_of_vin h3))⟩
  · rintro ⟨⟨v, hv⟩, h2⟩
    exact ⟨⟨v, (vin_and _ _ _).2 hv⟩, fun h3 => h2 (sub_vin ((diff_sub hs hp).1 h3))⟩

theorem Grow.spec {S : List Nat} (hS : ∀ s, s ∈ S → s < 18446744073709551616) {p q : Nat} (h : Grow S p q) (hp : p < 18446744073709551616) :
    (∀ v, vin v p → vin v q) ∧ closedP S (fun u => vin u q) ∧ ∀ Q, closedP S Q → (∀ v, vin v p → Q v) → ∀ u, vin u q → Q u := by
  induction h with
  | done p h =>
    refine ⟨fun v hv => hv, fun s hs hm v hv => ?_, fun Q _ h2 => h2⟩
    apply Classical.byContradiction
    intro hno
    have := (hits_iff hp (hS s hs)).2 ⟨hm, fun h3 => hno (h3 v hv)⟩
    rw [h s hs] at this; cases this
  | step p s q hs hh r ih =>
    have h1 := (hits_iff hp (hS s hs)).1 hh
    obtain ⟨i1, i2, i3⟩ := ih (or_lt_64 hp (hS s hs))
    refine ⟨fun v hv => i1 v ((vin_or _ _ _).2 (.inl hv)), i2, fun Q hQ h2 => i3 Q hQ fun v hv => ?_⟩
    rcases (vin_or _ _ _).1 hv with h3 | h3
    · exact h2 v h3
    · obtain ⟨x, hx, hxp⟩ := h1.1
      exact hQ s hs ⟨x, hx, h2 x hxp⟩ v h3

theorem vin_pow (v j : Nat) : vin v (2 ^ j) ↔ v = j := by unfold vin; rw [Nat.testBit_two_pow]; simp [eq_comm]

theorem Grow.isCl {S : List Nat} (hS : ∀ s, s ∈ S → s < 18446744073709551616) {j q : Nat} (hj : j < 64) (h : Grow S (2 ^ j) q) : IsCl S j q := by
  obtain ⟨h1, h2, h3⟩ := h.spec hS (pow_lt_64 hj)
  exact ⟨h1 j ((vin_pow _ _).2 rfl), h2, fun Q hQ hv => h3 Q hQ fun v hv2 => by rw [(vin_pow _ _).1 hv2]; exact hv⟩

/-! ### the document's Part -/
theorem fold_mem : ∀ (e out : List Int) (u : Int), u ∈ e.foldl withL out ↔ u ∈ out ∨ u ∈ e
  | [], out, u => by simp
  | a :: l, out, u => by
    rw [List.foldl_cons, fold_mem l, withL_mem, List.mem_cons, or_assoc]
theorem eat_mem (out e : List Int) (u : Int) : u ∈ eatL out e ↔ u ∈ out ∨ ((∃ x, x ∈ e ∧ x ∈ out) ∧ u ∈ e) := by
  unfold eatL
  by_cases h : e.any (fun x => out.contains x) = true
  · rw [if_pos h, fold_mem]
    have : ∃ x, x ∈ e ∧ x ∈ out := by
      obtain ⟨x, hx, hx2⟩ := List.any_eq_true.1 h
      exact ⟨x, hx, by simpa using hx2⟩
    exact ⟨fun h2 => h2.elim .inl fun h3 => .inr ⟨this, h3⟩, fun h2 => h2.elim .inl fun h3 => .inr h3.2⟩
  · rw [if_neg h]
    refine ⟨.inl, fun h2 => h2.elim id fun h3 => ?_⟩
    obtain ⟨x, hx, hx2⟩ := h3.1
    exact absurd (List.any_eq_true.2 ⟨x, hx, by simpa using hx2⟩) h

def closedL (xs : List (List Int)) (Q : Int → Prop) : Prop := ∀ e, e ∈ xs → (∃ x, x ∈ e ∧ Q x) → ∀ x, x ∈ e → Q x

theorem pass_least {xs : List (List Int)} {Q : Int → Prop} (hQ : closedL xs Q) : ∀ {out : List Int}, (∀ u, u ∈ out → Q u) → ∀ u, u ∈ passL xs out → Q u := by
  unfold passL
  induction xs with
  | nil => intro out h; exact h
  | cons a l ih =>
    intro out h
    refine ih (fun e he => hQ e (List.mem_cons_of_mem _ he)) (fun u hu => ?_)
    rcases (eat_mem out a u).1 hu with h1 | ⟨⟨x, hx, hx2⟩, h2⟩
    · exact h u h1
    · exact hQ a List.mem_cons_self ⟨x, hx, h x hx2⟩ u h2
theorem passes_least {xs : List (List Int)} {Q : Int → Prop} (hQ : closedL xs Q) : ∀ (n : Nat) {out : List Int}, (∀ u, u ∈ out → Q u) → ∀ u, u ∈ passes xs n out → Q u
  | 0, out, h => h
  | n + 1, out, h => passes_least hQ n (pass_least hQ h)

theorem nice_sub {l m : List Int} (hl : nice l) (hm : nice m) (h : ∀ u, u ∈ l → u ∈ m) : l.length ≤ m.length ∧ (l.length = m.length → l = m) := by
  have e : l = m.filter (fun x => l.contains x) := int_ordered_eq hl.2 (hm.2.filter _) (fun a => by
    rw [List.mem_filter]
    exact ⟨fun ha => ⟨h a ha, by simpa using ha⟩, fun ha => by simpa using ha.2⟩)
  have hs : l.Sublist m := by
    conv => lhs; rw [e]
    exact List.filter_sublist
  exact ⟨hs.length_le, hs.eq_of_length⟩

theorem pass_closed {xs : List (List Int)} (hx : ∀ e, e ∈ xs → small e) {out : List Int} (ho : nice out) (h : passL xs out = out) : closedL xs (fun u => u ∈ out) := by
  have key : ∀ (l : List (List Int)) (hl : ∀ e, e ∈ l → small e) (o : List Int), nice o → l.foldl eatL o = o → ∀ e, e ∈ l → eatL o e = o := by
    intro l
    induction l with
    | nil => intro _ o _ _ e he; cases he
    | cons a l ih =>
      intro hl o hno hfix e he
      rw [List.foldl_cons] at hfix
      have hna := eatL_nice hno (hl a List.mem_cons_self)
      have h1 := nice_sub hno hna (fun u hu => eatL_grows hu)
      have h2 := nice_sub (m := l.foldl eatL (eatL o a)) hna (passL_nice (xs := l) (fun e he => hl e (List.mem_cons_of_mem _ he)) hna) (fun u hu => passL_grows (xs := l) hu)
      rw [hfix] at h2
      have ea : eatL o a = o := (h1.2 (by omega)).symm
      rcases List.mem_cons.1 he with rfl | he
      · exact ea
      · rw [ea] at hfix
        exact ih (fun e he => hl e (List.mem_cons_of_mem _ he)) o hno hfix e he
  intro e he hm x hxe
  have := key xs hx out ho h e he
  rw [← this]
  exact (eat_mem out e x).2 (.inr ⟨hm, hxe⟩)

theorem passes_fix {xs : List (List Int)} {out : List Int} (h : passL xs out = out) : ∀ n, passes xs n out = out
  | 0 => rfl
  | n + 1 => by unfold passes; rw [h]; exact passes_fix h n

theorem nice_lt_len {l : List Int} (h : nice l) (M : Nat) (hM : ∀ u, u ∈ l → u < M) : l.length ≤ M := by
  have := nodup_le M (l.map Int.toNat) (by
    unfold List.Nodup
    rw [List.pairwise_map]
    refine List.Pairwise.imp_of_mem (fun {a b} ha hb hab e => ?_) h.2
    have := (h.1 a ha).1; have := (h.1 b hb).1
    omega) (fun x hx => by
    obtain ⟨u, hu, rfl⟩ := List.mem_map.1 hx
    have := hM u hu; have := (h.1 u hu).1; omega)
  simpa using this

theorem passes_closed {xs : List (List Int)} (hx : ∀ e, e ∈ xs → small e) (M : Nat) (hM : ∀ e, e ∈ xs → ∀ u, u ∈ e → u < M) : ∀ (n : Nat) (out : List Int), nice out → (∀ u, u ∈ out → u < M) → M < out.length + n → closedL xs (fun u => u ∈ passes xs n out) := by
  intro n
  induction n with
  | zero => intro out ho hlt hn; have := nice_lt_len ho M hlt; omega
  | succ n ih =>
    intro out ho hlt hn
    have hnp := passL_nice hx ho
    by_cases h : passL xs out = out
    · rw [show passes xs (n + 1) out = out from passes_fix h (n + 1)]
      exact pass_closed hx ho h
    · have h1 := nice_sub ho hnp (fun u hu => passL_grows hu)
      have h2 : out.length ≠ (passL xs out).length := fun e => h (h1.2 e).symm
      refine ih _ hnp (fun u hu => ?_) (by omega)
      have hcl : closedL xs (fun u => u < (M : Int)) := fun e he _ x hxe => hM e he x hxe
      exact pass_least hcl hlt u hu

theorem part_isCl {xs : List (List Int)} (hx : ∀ e, e ∈ xs → nice e) (m : Nat) (hM : ∀ e, e ∈ xs → ∀ u, u ∈ e → u < m) (hm : m ≤ 64) (v : Nat) (hv : v < m) : IsCl (setsOf xs) v (setOf (passes xs m [(v : Int)])) ∧ nice (passes xs m [(v : Int)]) := by
  have hsm := fun e he => (hx e he).1
  have hn1 : nice [(v : Int)] := ⟨fun u hu => by rw [List.mem_singleton.1 hu]; exact ⟨by omega, by omega⟩, List.pairwise_singleton _ _⟩
  have hn := passes_nice hsm m hn1
  have hcl := passes_closed hsm m hM m [(v : Int)] hn1 (fun u hu => by rw [List.mem_singleton.1 hu]; omega) (by simp)
  refine ⟨⟨?_, ?_, ?_⟩, hn⟩
  · have := (setOf_vin hn.1 (v : Int) (by omega)).2 (passes_grows m List.mem_cons_self)
    rwa [Int.toNat_natCast] at this
  · intro s hs hm2 u hu
    unfold setsOf at hs
    obtain ⟨e, he, rfl⟩ := List.mem_map.1 hs
    obtain ⟨x, hx1, hx2⟩ := hm2
    rw [setOf_bits] at hx1
    obtain ⟨x', hx', rfl⟩ := hx1
    rw [setOf_bits] at hu
    obtain ⟨u', hu', rfl⟩ := hu
    have h0 := ((hx e he).1 x' hx').1
    have h1 := ((hx e he).1 u' hu').1
    exact (setOf_vin hn.1 u' h1).2 (hcl e he ⟨x', hx', (setOf_vin hn.1 x' h0).1 hx2⟩ u' hu')
  · intro Q hQ hQv u hu
    rw [setOf_bits] at hu
    obtain ⟨u', hu', rfl⟩ := hu
    have hQ' : closedL xs (fun u => Q u.toNat) := fun e he ⟨x, hxe, hxQ⟩ y hy => by
      have hs : setOf e ∈ setsOf xs := by unfold setsOf; exact List.mem_map.2 ⟨e, he, rfl⟩
      exact hQ _ hs ⟨x.toNat, (setOf_bits e _).2 ⟨x, hxe, rfl⟩, hxQ⟩ _ ((setOf_bits e _).2 ⟨y, hy, rfl⟩)
    exact passes_least hQ' m (fun u hu => by rw [List.mem_singleton.1 hu]; simpa using hQv) u' hu'

theorem head_min {l : List Int} (h : l.Pairwise (· < ·)) {v : Int} (hv : v ∈ l) : l.getD 0 0 = v ↔ ∀ u, u ∈ l → v ≤ u := by
  cases l with
  | nil => cases hv
  | cons a l =>
    rw [List.pairwise_cons] at h
    show a = v ↔ _
    constructor
    · rintro rfl u hu
      rcases List.mem_cons.1 hu with rfl | hu
      · exact Int.le_refl _
      · have := h.1 u hu; omega
    · intro h2
      have h3 := h2 a List.mem_cons_self
      rcases List.mem_cons.1 hv with rfl | hv
      · rfl
      · have := h.1 v hv; omega

theorem parts_eq {xs : List (List Int)} (hx : ∀ e, e ∈ xs → nice e) (m : Nat) (hM : ∀ e, e ∈ xs → ∀ u, u ∈ e → u < m) (hm : m ≤ 64) {j met : Nat} {out : List (List Int)} (h : PartsTo (setsOf xs) j out met) :
    j ≤ m → (∀ u, vin u met ↔ ∃ w, w < j ∧ vin u (setOf (passes xs m [(w : Int)]))) ∧ out = refParts m xs j := by
  have hS := sets_lt hx
  induction h with
  | zero => intro _; exact ⟨fun u => ⟨fun h => absurd h (vin_zero u), fun ⟨w, hw, _⟩ => by omega⟩, rfl⟩
  | skip j out met h hmet ih =>
    intro hj
    obtain ⟨i1, i2⟩ := ih (by omega)
    obtain ⟨hcl, hn⟩ := part_isCl hx m hM hm j (by omega)
    have hbit : vin j met := by
      obtain ⟨v, hv⟩ := ne_zero_vin.1 hmet
      have := (vin_and _ _ _).1 hv
      rw [(vin_pow _ _).1 this.2] at this; exact this.1
    obtain ⟨w, hw, hjw⟩ := (i1 j).1 hbit
    obtain ⟨hcw, hnw⟩ := part_isCl hx m hM hm w (by omega)
    have heq := hcw.symm hcl hjw
    refine ⟨fun u => ?_, ?_⟩
    · rw [i1 u]
      constructor
      · rintro ⟨a, ha, h⟩; exact ⟨a, by omega, h⟩
      · rintro ⟨a, ha, hau⟩
        by_cases e : a = j
        · subst e; exact ⟨w, hw, by rw [heq]; exact hau⟩
        · exact ⟨a, by omega, hau⟩
    · rw [refParts_succ]
      have hne : ((passes xs m [(j : Int)]).getD 0 0 == (j : Int)) = false := by
        rw [beq_eq_false_iff_ne]
        intro e
        have h1 := (head_min hn.2 (passes_grows m List.mem_cons_self)).1 e
        have hwj : vin w (setOf (passes xs m [(j : Int)])) := heq ▸ hcw.has
        have h2 := (setOf_vin hn.1 (w : Int) (by omega)).1 (by rw [Int.toNat_natCast]; exact hwj)
        have := h1 _ h2
        omega
      rw [hne, if_neg (by decide), List.append_nil]; exact i2
  | add j out met q h hmet hq ih =>
    intro hj
    obtain ⟨i1, i2⟩ := ih (by omega)
    obtain ⟨hcl, hn⟩ := part_isCl hx m hM hm j (by omega)
    have hqe : q = setOf (passes xs m [(j : Int)]) := (hq.isCl hS (by omega)).unique hcl
    have hnb : ¬ vin j met := fun hb => ne_zero_vin.2 ⟨j, (vin_and _ _ _).2 ⟨hb, (vin_pow _ _).2 rfl⟩⟩ hmet
    refine ⟨fun u => ?_, ?_⟩
    · rw [vin_or, i1 u, hqe]
      constructor
      · rintro (⟨a, ha, h⟩ | h)
        · exact ⟨a, by omega, h⟩
        · exact ⟨j, by omega, h⟩
      · rintro ⟨a, ha, hau⟩
        by_cases e : a = j
        · subst e; exact .inr hau
        · exact .inl ⟨a, by omega, hau⟩
    · rw [refParts_succ]
      have hyes : ((passes xs m [(j : Int)]).getD 0 0 == (j : Int)) = true := by
        rw [beq_iff_eq]
        refine (head_min hn.2 (passes_grows m List.mem_cons_self)).2 fun u hu => ?_
        apply Int.le_of_not_gt
        intro hlt
        have hu0 := (hn.1 u hu).1
        have huj : vin u.toNat (setOf (passes xs m [(j : Int)])) := (setOf_vin hn.1 u hu0).2 hu
        obtain ⟨hcu, _⟩ := part_isCl hx m hM hm u.toNat (by omega)
        have heq := hcl.symm hcu huj
        exact hnb ((i1 j).2 ⟨u.toNat, by omega, heq ▸ hcl.has⟩)
      rw [hyes, if_pos rfl, ← i2, hqe, bitsL_setOf hn]

theorem right_lt {many : Int} {xs : List (List Int)} (h : rightB many xs = true) : ∀ e, e ∈ xs → ∀ u, u ∈ e → u < many := fun e he u hu => by
  unfold rightB at h
  rw [Bool.and_eq_true] at h
  obtain ⟨i, hi, rfl⟩ := List.mem_iff_getElem.1 he
  have h1 := (allB_iff _ _).1 h.2 i hi
  rw [rdL_at xs i hi] at h1
  unfold edgeB at h1
  rw [Bool.and_eq_true] at h1
  obtain ⟨j, hj, rfl⟩ := List.mem_iff_getElem.1 hu
  have h2 := (allB_iff _ _).1 h1.1 j hj
  have hrd : rd xs[i] (j : Int) = xs[i][j] := by simp [rd, List.getD_eq_getElem?_getD, List.getElem?_eq_getElem hj]
  rw [hrd] at h2
  unfold vtx at h2
  rw [Bool.and_eq_true] at h2
  exact of_decide_eq_true h2.2

theorem parts_ref {m : Nat} {xs : List (List Int)} (hm : m ≤ 32) (hR : rightB m xs = true) {out : List (List Int)} {met : Nat} (h : PartsTo (setsOf xs) m out met) : out = refParts m xs m :=
  (parts_eq (right_nice hR) m (right_lt hR) (by omega) h (Nat.le_refl _)).2

end Go.Proofs.YtnnfhnehieoeaaaDoor.Hy
