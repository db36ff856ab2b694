/- The contracts of slices.Contains and slices.IsSorted at rows of numbers. -/
import Derived.Test.YtnnfhnehieoeaaaDoorEA40
import Derived.Test.YtnnfhnehieoeaaaDoorEB10
import Derived.Test.YtnnfhnehieoeaaaDoorEQ8
import Derived.Test.YtnnfhnehieoeaaaDoorEL4
import Derived.Shelf.Slices.In.SortNone
namespace Go.Proofs.YtnnfhnehieoeaaaDoor.Hy
open Go.RowKit Go.Shelf Go.Proofs.YtnnfhnehieoeaaaDoorW.PrintWords Go.Proofs.YtnnfhnehieoeaaaDoorW.PrintLast Go.Proofs.YtnnfhnehieoeaaaDoorW.PrintMore Go.Proofs.YtnnfhnehieoeaaaDoor.PHyperTells
set_option linter.unusedVariables false
set_option linter.unusedSimpArgs false

theorem rd_nat (xs : List Int) (j : Nat) (h : j < xs.length) : rd xs (j : Int) = xs[j] := by simp [rd, List.getD_eq_getElem?_getD, List.getElem?_eq_getElem h]

theorem index_l0 (xs : List Int) (x : Int) (hl : xs.length ≤ 1000) (d : Nat) : ∀ (j k : Nat), j + d = xs.length → d < k → (∀ i (h : i < xs.length), i < j → xs[i] ≠ x) →
    ∃ n, slices_Index_int_int.l0 k xs x (xs.length : Int) (j : Int) = some n ∧ (0 ≤ n ↔ x ∈ xs) := by
  induction d with
  | zero =>
    intro j k hj hk hno
    obtain ⟨k, rfl⟩ : ∃ m, k = m + 1 := ⟨k - 1, by omega⟩
    refine ⟨-1, ?_, ?_⟩
    · simp only [slices_Index_int_int.l0]; rw [if_neg (by omega)]
    · constructor
      · intro h; omega
      · intro h
        obtain ⟨i, hi, rfl⟩ := List.mem_iff_getElem.1 h
        exact absurd rfl (hno i hi (by omega))
  | succ d ih =>
    intro j k hj hk hno
    obtain ⟨k, rfl⟩ : ∃ m, k = m + 1 := ⟨k - 1, by omega⟩
    have hjl : j < xs.length := by omega
    simp only [slices_Index_int_int.l0]
    rw [if_pos (by omega), if_pos (by omega), if_pos (by omega), rd_nat xs j hjl]
    by_cases e : x = xs[j]
    · rw [if_pos e]
      exact ⟨(j : Int), rfl, fun _ => e ▸ List.getElem_mem hjl, fun _ => by omega⟩
    · rw [if_neg e, show wrap64 ((j : Int) + 1) = ((j + 1 : Nat) : Int) from by unfold wrap64; omega]
      exact ih (j + 1) k (by omega) (by omega) (fun i hi hij => by
        by_cases h : i = j
        · subst h; exact fun h2 => e h2.symm
        · exact hno i hi (by omega))

theorem contains_f (xs : List Int) (x : Int) (hl : xs.length ≤ 1000) : slices_Contains_int_int.f 3000 xs x = some (xs.contains x) := by
  obtain ⟨n, hn, hx⟩ := index_l0 xs x hl xs.length 0 3000 (by omega) (by omega) (fun i _ h => absurd h (Nat.not_lt_zero _))
  unfold slices_Contains_int_int.f slices_Index_int_int.f
  rw [show (0 : Int) = ((0 : Nat) : Int) from rfl, hn]
  simp only [Option.bind_some]
  congr 1
  rw [Bool.eq_iff_iff, decide_eq_true_eq, List.contains_iff_mem]
  exact hx

theorem contains_any (A : Option Addr) (c : Nat) (xs : List Int) (x : Int) (w : World) (hr : KI.C w A xs.length xs) (hc : xs.length ≤ c) (hl : xs.length ≤ 1000) :
    Calls Tryd.prog 22 #[.slice A xs.length c, .int .i64 x] w fun e w' => e = .returned (.bool (xs.contains x)) ∧ Drawn0 w w' :=
  slices_Contains_int_int.calls 3000 A c xs x _ w hr hc (contains_f xs x hl)

theorem less_f (a b : Int) : cmp_Less_int.f a b = some (decide (a < b)) := by
  unfold cmp_Less_int.f cmp_isNaN_int.f
  simp

theorem sorted_l0 (xs : List Int) (hl : xs.length ≤ 1000) (hs : xs.Pairwise (· < ·)) (j : Nat) : ∀ (k : Nat), j < xs.length → j < k → slices_IsSorted_int_int.l0 k xs (j : Int) = some true := by
  induction j with
  | zero =>
    intro k hj hk
    obtain ⟨k, rfl⟩ : ∃ m, k = m + 1 := ⟨k - 1, by omega⟩
    simp only [slices_IsSorted_int_int.l0]; rw [if_neg (by omega)]
  | succ j ih =>
    intro k hj hk
    obtain ⟨k, rfl⟩ : ∃ m, k = m + 1 := ⟨k - 1, by omega⟩
    simp only [slices_IsSorted_int_int.l0]
    rw [show wrap64 (((j + 1 : Nat) : Int) - 1) = (j : Int) from by unfold wrap64; omega, if_pos (by omega), if_pos (by omega), if_pos (by omega), if_pos (by omega), if_pos (by omega), rd_nat xs (j + 1) hj, rd_nat xs j (by omega), less_f]
    simp only [Option.bind_some]
    have := List.pairwise_iff_getElem.1 hs j (j + 1) (by omega) hj (by omega)
    rw [if_neg (by simp; omega)]
    exact ih k (by omega) (by omega)

theorem sorted_f (xs : List Int) (hl : xs.length ≤ 1000) (hn : xs ≠ []) (hs : xs.Pairwise (· < ·)) : slices_IsSorted_int_int.f 3000 xs = some true := by
  have h0 : 0 < xs.length := List.length_pos_iff.2 hn
  unfold slices_IsSorted_int_int.f
  rw [show wrap64 ((xs.length : Int) - 1) = ((xs.length - 1 : Nat) : Int) from by unfold wrap64; omega]
  exact sorted_l0 xs hl hs (xs.length - 1) 3000 (by omega) (by omega)

theorem sorted_any (A : Option Addr) (c : Nat) (xs : List Int) (w : World) (hr : KI.C w A xs.length xs) (hc : xs.length ≤ c) (hl : xs.length ≤ 1000) (hn : xs ≠ []) (hs : xs.Pairwise (· < ·)) :
    Calls Tryd.prog 21 #[.slice A xs.length c] w fun e w' => e = .returned (.bool true) ∧ Drawn0 w w' :=
  slices_IsSorted_int_int.calls 3000 A c xs _ w hr hc (sorted_f xs hl hn hs)

/-- how many vertices of an edge a part has -/
def inN (p e : List Int) : Nat := (e.filter (fun v => p.contains v)).length
theorem inN_snoc (p e : List Int) (j : Nat) (h : j < e.length) : inN p (e.take (j + 1)) = inN p (e.take j) + if p.contains e[j] then 1 else 0 := by
  unfold inN
  rw [List.take_succ_eq_append_getElem h, List.filter_append, List.length_append]
  congr 1
  rw [List.filter_cons]
  cases hp : p.contains e[j] <;> rfl
theorem inN_le (p e : List Int) : inN p e ≤ e.length := List.length_filter_le _ _
theorem inN_cases {p e : List Int} (h : (∀ u, u ∈ e → u ∈ p) ∨ ∀ u, u ∈ e → ¬ u ∈ p) : inN p e = 0 ∨ inN p e = e.length := by
  unfold inN
  rcases h with h | h
  · right
    rw [List.filter_eq_self.2 (fun u hu => List.contains_iff_mem.2 (h u hu))]
  · left
    rw [List.filter_eq_nil_iff.2 (fun u hu hc => h u hu (List.contains_iff_mem.1 hc))]
    rfl
theorem inN_pos {p e : List Int} : 0 < inN p e ↔ e.any (fun v => p.contains v) = true := by
  unfold inN
  rw [List.length_pos_iff, ne_eq, List.filter_eq_nil_iff, List.any_eq_true]
  constructor
  · intro h
    apply Classical.byContradiction
    intro h2
    exact h fun a ha hc => h2 ⟨a, ha, hc⟩
  · rintro ⟨a, ha, hc⟩ h
    exact h a ha hc
theorem onesOf_snoc (xs : List (List Int)) (p : List Int) (k : Nat) (h : k < xs.length) : onesOf (xs.take (k + 1)) p = onesOf (xs.take k) p ++ if 0 < inN p xs[k] then [xs[k]] else [] := by
  unfold onesOf
  rw [List.take_succ_eq_append_getElem h, List.filter_append]
  congr 1
  by_cases hp : 0 < inN p xs[k]
  · rw [if_pos hp, List.filter_cons, if_pos (inN_pos.1 hp)]; rfl
  · rw [if_neg hp]
    have : (xs[k].any fun v => p.contains v) = false := by
      cases h2 : xs[k].any fun v => p.contains v with
      | false => rfl
      | true => exact absurd (inN_pos.2 h2) hp
    rw [List.filter_cons, if_neg (by rw [this]; decide)]; rfl

end Go.Proofs.YtnnfhnehieoeaaaDoor.Hy

/- The contract of slices.Sort at a row of numbers of one's own. -/
namespace Go.Proofs.YtnnfhnehieoeaaaDoor.Hy
open Go.RowKit Go.Shelf Go.Sort Go.Proofs.YtnnfhnehieoeaaaDoorW.PrintWords Go.Proofs.YtnnfhnehieoeaaaDoorW.PrintLast Go.Proofs.YtnnfhnehieoeaaaDoorW.PrintMore Go.Proofs.YtnnfhnehieoeaaaDoor.PHyperTells
set_option linter.unusedVariables false
set_option linter.unusedSimpArgs false

theorem sortI_any (w : World) (base : Nat) (v : Value) (xs : List Int) (h : KI.R 3 w base anyK v xs) (hl : xs.length ≤ 1000) (hb0 : base ≤ w.heap.size) :
    Calls Tryd.prog 23 #[v] w fun e w' => e = .returned (.tuple #[]) ∧ ∃ ys, ys.Perm xs ∧ ys.Pairwise (· ≤ ·) ∧ KI.R 3 w' base anyK v ys ∧ Below base w w' := by
  have ho := Kd.own_of_R h
  rcases ho.2 with ⟨rfl, hx0⟩ | ⟨g, cap, cur, rfl, hg, hb, h1, h2, h3, h4⟩
  · obtain rfl : xs = [] := List.eq_nil_of_length_eq_zero hx0
    exact (Any.slices_Sort_int_none Tryd.lays189 none 0 w).mono fun e w' ⟨he, hw⟩ => by
      refine ⟨he, [], .nil, .nil, ?_⟩
      first | (subst hw; exact ⟨Kd.R_nil _ _ _ _ _, Below.refl _ _⟩) | (obtain ⟨n, hw⟩ := hw; subst hw; exact ⟨Kd.R_nil _ _ _ _ _, pw_below_drewN (Below.refl _ _) n⟩)
  · have hgl : g < w.heap.size := (Array.getElem?_eq_some_iff.1 hb).1
    have hH : Go.Sort.Holds (Value.int .i64) w g 0 xs.toArray := holds_of_blockE hb (by
      have := h4
      rw [Nat.mul_one] at this
      exact this)
    refine (Any.slices_Sort_int Tryd.lays189 g 0 cap xs w hH hgl (by omega)).mono ?_
    rintro e w' ⟨he, n, os, hw⟩
    have hperm : (xs.mergeSort fun x y => decide (x ≤ y)).Perm xs := List.mergeSort_perm _ _
    have hlen : (xs.mergeSort fun x y => decide (x ≤ y)).length = xs.length := hperm.length_eq
    have hws : w' = sortWorld (Value.int .i64) w g 0 n (xs.mergeSort fun x y => decide (x ≤ y)).toArray os := hw
    refine ⟨he, _, hperm, ?_, ?_, ?_⟩
    · have := List.pairwise_mergeSort (le := fun (x y : Int) => decide (x ≤ y)) (fun a b c h1 h2 => by simp at h1 h2 ⊢; omega) (fun a b => by simp; omega) xs
      exact this.imp (fun h => by simpa using h)
    · refine Kd.R_of_own ⟨by simp [encs], .inr ⟨g, cap, _, by rw [hlen], hg, by rw [hws]; exact heap_sortedE _ hb, by rw [hlen]; exact h1, h2, by rw [← h3]; simp [Go.Sort.putCells], ?_⟩⟩ (fun _ _ => trivial)
      have := take_putCellsE (enc := Value.int .i64) cur (xs.mergeSort fun x y => decide (x ≤ y)) (by rw [hlen]; omega)
      rw [Nat.mul_one]
      exact this
    · rw [hws]
      exact (Below.refl _ _).grown (grownBy_sortedE _) hb0 (fun k hk => by injection hk with hk; omega)

end Go.Proofs.YtnnfhnehieoeaaaDoor.Hy
