/- Plain laws for HyperWhole: an edge of all vertices; an edge within another one. -/
import Derived.Test.YtnnfhnehieoeaaaDoorGA22
namespace Go.Proofs.YtnnfhnehieoeaaaDoor.Hy
open Go.RowKit Go.Proofs.YtnnfhnehieoeaaaDoorW.PrintWords
set_option linter.unusedVariables false
set_option linter.unusedSimpArgs false

theorem rdL_snoc (xs : List (List Int)) (e : List Int) (i : Nat) : rdL (xs ++ [e]) i = if i < xs.length then rdL xs i else if i = xs.length then e else [] := by
  unfold rdL
  by_cases h : i < xs.length
  · rw [if_pos h]; simp [List.getD_eq_getElem?_getD, List.getElem?_append_left h]
  · rw [if_neg h]
    by_cases h2 : i = xs.length
    · subst h2; simp [List.getD_eq_getElem?_getD]
    · rw [if_neg h2]; simp [List.getD_eq_getElem?_getD, List.getElem?_append_right (show xs.length ≤ i by omega), List.getElem?_eq_none (show [e].length ≤ i - xs.length by simp; omega)]

theorem right_snoc {many : Int} {xs : List (List Int)} {e : List Int} (h : rightB many xs = true) (hl : xs.length < 40) (he : edgeB many e = true) : rightB many (xs ++ [e]) = true := by
  unfold rightB at h ⊢
  rw [Bool.and_eq_true] at h ⊢
  refine ⟨?_, ?_⟩
  · have := h.1
    unfold sizesB at this ⊢
    simp at this ⊢
    omega
  · refine (allB_iff _ _).2 fun i hi => ?_
    have hl' : (xs ++ [e]).length = xs.length + 1 := by simp
    rw [rdL_snoc]
    by_cases h1 : i < xs.length
    · rw [if_pos h1]; exact (allB_iff _ _).1 h.2 i h1
    · rw [if_neg h1, if_pos (by omega)]; exact he

theorem right_edge {many : Int} {xs : List (List Int)} (h : rightB many xs = true) {e : List Int} (he : e ∈ xs) : edgeB many e = true := by
  unfold rightB at h
  rw [Bool.and_eq_true] at h
  obtain ⟨i, hi, rfl⟩ := List.mem_iff_getElem.1 he
  have := (allB_iff _ _).1 h.2 i hi
  rwa [rdL_at xs i hi] at this

/-- all vertices -/
def rangeL (m : Nat) : List Int := (List.range m).map fun (v : Nat) => (v : Int)
theorem rangeL_len (m : Nat) : (rangeL m).length = m := by simp [rangeL]
theorem rangeL_rd (m i : Nat) (h : i < m) : rd (rangeL m) i = i := by simp [rd, rangeL, List.getD_eq_getElem?_getD, h]
theorem rangeL_mem (m : Nat) (v : Int) : v ∈ rangeL m ↔ 0 ≤ v ∧ v < m := by
  unfold rangeL
  rw [List.mem_map]
  constructor
  · rintro ⟨a, ha, rfl⟩; have := List.mem_range.1 ha; omega
  · rintro ⟨h1, h2⟩; exact ⟨v.toNat, List.mem_range.2 (by omega), by omega⟩
theorem rangeL_succ (m : Nat) : rangeL (m + 1) = rangeL m ++ [(m : Int)] := by unfold rangeL; rw [List.range_succ, List.map_append]; rfl

theorem edge_range (m : Nat) : edgeB m (rangeL m) = true := by
  unfold edgeB
  rw [Bool.and_eq_true]
  refine ⟨(allB_iff _ _).2 fun i hi => ?_, (allB_iff _ _).2 fun i hi => ?_⟩
  · rw [rangeL_len] at hi
    rw [rangeL_rd m i hi]; unfold vtx; simp; omega
  · rw [rangeL_len] at hi
    rw [rangeL_rd m i hi]
    unfold risesAt
    by_cases h0 : i = 0
    · subst h0; simp
    · rw [show ((i : Int) - 1) = ((i - 1 : Nat) : Int) from by omega, rangeL_rd m (i - 1) (by omega)]
      simp; omega

theorem rd_take (e : List Int) (k i : Nat) (h : i < (e.take k).length) : rd (e.take k) i = rd e i := by
  rw [List.length_take] at h
  simp only [rd, Int.toNat_natCast, List.getD_eq_getElem?_getD]
  rw [List.getElem?_take_of_lt (by omega)]

theorem edge_take {many : Int} {e : List Int} (h : edgeB many e = true) (k : Nat) : edgeB many (e.take k) = true := by
  unfold edgeB at h ⊢
  rw [Bool.and_eq_true] at h ⊢
  have hlen : (e.take k).length ≤ e.length := by rw [List.length_take]; omega
  refine ⟨(allB_iff _ _).2 fun i hi => ?_, (allB_iff _ _).2 fun i hi => ?_⟩
  · rw [rd_take e k i hi]; exact (allB_iff _ _).1 h.1 i (by omega)
  · have h2 := (allB_iff _ _).1 h.2 i (by omega)
    rw [rd_take e k i hi]
    unfold risesAt at h2 ⊢
    by_cases h0 : i = 0
    · subst h0; simp
    · rw [show ((i : Int) - 1) = ((i - 1 : Nat) : Int) from by omega] at h2 ⊢
      rw [rd_take e k (i - 1) (by omega)]; exact h2

/-- with an edge of all vertices nothing is left -/
theorem left_whole {m : Nat} {xs L : List (List Int)} (hR : rightB m (xs ++ [rangeL m]) = true) (h : LeftIs (xs ++ [rangeL m]) L) : L = [] := by
  obtain ⟨A, hc, hs, hm⟩ := h.ex
  have hn := right_nice hR
  have hlt := right_lt hR
  cases L with
  | nil => rfl
  | cons r l =>
    obtain ⟨s, hA, _⟩ := (hm r).1 List.mem_cons_self
    refine absurd hA (hc.none_left hs (setOf (rangeL m)) ⟨rangeL m, by simp, rfl⟩ ?_ s)
    rintro e ⟨x, hx, rfl⟩ v hv
    rw [setOf_bits] at hv ⊢
    obtain ⟨u, hu, rfl⟩ := hv
    have h0 := ((hn x hx).1 u hu).1
    exact ⟨u, (rangeL_mem m u).2 ⟨h0, hlt x hx u hu⟩, rfl⟩

theorem famL_snoc (xs : List (List Int)) (e : List Int) (s : Nat) : famL (xs ++ [e]) s ↔ famL xs s ∨ s = setOf e := by
  unfold famL
  constructor
  · rintro ⟨x, hx, rfl⟩
    rcases List.mem_append.1 hx with h | h
    · exact .inl ⟨x, h, rfl⟩
    · rw [List.mem_singleton.1 h]; exact .inr rfl
  · rintro (⟨x, hx, rfl⟩ | rfl)
    · exact ⟨x, by simp [hx], rfl⟩
    · exact ⟨e, by simp, rfl⟩

/-- an edge within another one changes nothing of what is left -/
theorem left_more {xs L : List (List Int)} {e e1 : List Int} (he : e1 ∈ xs) (hsub : ∀ v, v ∈ e → v ∈ e1) (h : LeftIs (xs ++ [e]) L) : LeftIs xs L := by
  obtain ⟨A, hc, hs, hm⟩ := h.ex
  refine ⟨h.strict, A, ?_, hs, hm⟩
  have hfam : famL (xs ++ [e]) = fun s => famL xs s ∨ s = setOf e := by funext s; exact propext (famL_snoc xs e s)
  rw [hfam] at hc
  refine hc.more (setOf e) (setOf e1) ⟨e1, he, rfl⟩ ?_ hs
  intro v hv
  rw [setOf_bits] at hv ⊢
  obtain ⟨u, hu, rfl⟩ := hv
  exact ⟨u, hsub u hu, rfl⟩

/-- .. nor of the parts -/
theorem parts_more {many : Int} {xs : List (List Int)} {e e1 : List Int} (hR : rightB many xs = true) (hR2 : rightB many (xs ++ [e]) = true) (he : e1 ∈ xs) (hsub : ∀ v, v ∈ e → v ∈ e1) : partsL many (xs ++ [e]) = partsL many xs := by
  have hm := right_many hR
  obtain ⟨m, rfl⟩ := Int.eq_ofNat_of_zero_le hm.1
  unfold partsL
  rw [if_pos hR, if_pos hR2, Int.toNat_natCast]
  have hset : ∀ s, s ∈ setsOf (xs ++ [e]) ↔ s ∈ setsOf xs ∨ s = setOf e := fun s => by unfold setsOf; simp
  have hcl : ∀ Q, closedP (setsOf (xs ++ [e])) Q ↔ closedP (setsOf xs) Q := fun Q => by
    constructor
    · intro h s hs; exact h s ((hset s).2 (.inl hs))
    · intro h s hs
      rcases (hset s).1 hs with h1 | rfl
      · exact h s h1
      · rintro ⟨v, hv, hq⟩ u hu
        have hs1 : setOf e1 ∈ setsOf xs := by unfold setsOf; exact List.mem_map.2 ⟨e1, he, rfl⟩
        have hin : ∀ v, vin v (setOf e) → vin v (setOf e1) := fun v hv => by
          rw [setOf_bits] at hv ⊢
          obtain ⟨u, hu, rfl⟩ := hv
          exact ⟨u, hsub u hu, rfl⟩
        exact h _ hs1 ⟨v, hin v hv, hq⟩ u (hin u hu)
  have hpass : ∀ v : Nat, v < m → passes (xs ++ [e]) m [(v : Int)] = passes xs m [(v : Int)] := fun v hv => by
    obtain ⟨c1, n1⟩ := part_isCl (right_nice hR2) m (right_lt hR2) (by omega) v hv
    obtain ⟨c2, n2⟩ := part_isCl (right_nice hR) m (right_lt hR) (by omega) v hv
    have c1' : IsCl (setsOf xs) v (setOf (passes (xs ++ [e]) m [(v : Int)])) := ⟨c1.has, (hcl _).1 c1.closed, fun Q hQ => c1.least Q ((hcl Q).2 hQ)⟩
    rw [← bitsL_setOf n1, ← bitsL_setOf n2, c1'.unique c2]
  unfold refParts
  have hf : (List.range m).filter (fun v : Nat => (passes (xs ++ [e]) m [(v : Int)]).getD 0 0 == (v : Int)) = (List.range m).filter (fun v : Nat => (passes xs m [(v : Int)]).getD 0 0 == (v : Int)) :=
    List.filter_congr (fun v hv => by rw [hpass v (List.mem_range.1 hv)])
  rw [hf]
  exact List.map_congr_left (fun v hv => hpass v (List.mem_range.1 (List.mem_filter.1 hv).1))

theorem left_nil {L : List (List Int)} (h : LeftIs [] L) : L = [] := by
  obtain ⟨A, hc, hs, hm⟩ := h.ex
  cases L with
  | nil => rfl
  | cons r l =>
    obtain ⟨s, hA, _⟩ := (hm r).1 List.mem_cons_self
    obtain ⟨e, ⟨x, hx, _⟩, _⟩ := hc.a s hA
    cases hx

end Go.Proofs.YtnnfhnehieoeaaaDoor.Hy
