/- Plain facts on sets of vertices as numbers: their bits, what is taken out, the least of them. No program in sight. -/
import Derived.Lib.TrailingZeros
import Derived.Laws.BitsAllLaws
namespace Go.Proofs.YtnnfhnehieoeaaaDoor.Hy
open Go

/-- the bits of a set, rising -/
def bitsN (s : Nat) : List Nat := (List.range 64).filter s.testBit
def bitsL (s : Nat) : List Int := (bitsN s).map (fun n : Nat => (n : Int))
/-- a without b -/
def diffB (a b : Nat) : Nat := a &&& (18446744073709551615 - b)

theorem diffB_le (a b : Nat) : diffB a b ≤ a := Nat.and_le_left

theorem testBit_comp (b i : Nat) (hb : b < 18446744073709551616) : (18446744073709551615 - b).testBit i = (decide (i < 64) && !b.testBit i) := by
  have := Nat.testBit_two_pow_sub_succ (n := 64) (x := b) (by simpa using hb) i
  have e : (2 : Nat) ^ 64 - (b + 1) = 18446744073709551615 - b := by simp only [Nat.reducePow]; omega
  rw [e] at this
  exact this

theorem testBit_big {a i : Nat} (ha : a < 18446744073709551616) (hi : 64 ≤ i) : a.testBit i = false :=
  Nat.testBit_lt_two_pow (Nat.lt_of_lt_of_le (show a < 2 ^ 64 by simpa using ha) (Nat.pow_le_pow_right (by decide) hi))

theorem testBit_diffB (a b i : Nat) (ha : a < 18446744073709551616) (hb : b < 18446744073709551616) : (diffB a b).testBit i = (a.testBit i && !b.testBit i) := by
  unfold diffB
  rw [Nat.testBit_and, testBit_comp b i hb]
  by_cases hi : i < 64
  · simp [hi]
  · rw [testBit_big ha (by omega)]; simp

theorem ctz_spec (s : Nat) (h0 : s ≠ 0) (h : s < 18446744073709551616) : Lib.ctz 64 s < 64 ∧ s.testBit (Lib.ctz 64 s) = true ∧ ∀ j, j < Lib.ctz 64 s → s.testBit j = false := by
  obtain ⟨m, hm, hk⟩ := Lib.ctzFrom_spec 64 s (by omega) (by simpa using h)
  have e : Lib.ctz 64 s = Lib.ctzFrom 64 s := by unfold Lib.ctz; rw [if_neg h0]
  rw [e]
  generalize Lib.ctzFrom 64 s = k at hm hk
  refine ⟨hk, ?_, fun j hj => ?_⟩
  · rw [hm, Nat.testBit_two_pow_mul]; simp
  · rw [hm, Nat.testBit_two_pow_mul]; simp; omega

theorem pow_lt_64 {v : Nat} (h : v < 64) : 2 ^ v < 18446744073709551616 := by
  have : 2 ^ v < 2 ^ 64 := Nat.pow_lt_pow_right (by decide) h
  simpa using this

theorem range_split (v : Nat) (h : v < 64) : List.range 64 = List.range v ++ v :: List.range' (v + 1) (63 - v) := by
  rw [List.range_eq_range', List.range_eq_range']
  have : List.range' 0 64 = List.range' 0 v ++ List.range' v (64 - v) := by
    have := @List.range'_append_1 0 v (64 - v)
    rw [Nat.zero_add] at this
    rw [this]
    congr 1
    omega
  rw [this]
  congr 1
  rw [show 64 - v = (63 - v) + 1 from by omega, List.range'_succ]

theorem bitsN_zero : bitsN 0 = [] := by unfold bitsN; simp

theorem bitsN_step (s : Nat) (h0 : s ≠ 0) (h : s < 18446744073709551616) : bitsN s = Lib.ctz 64 s :: bitsN (diffB s (2 ^ Lib.ctz 64 s)) := by
  obtain ⟨hk, hb, hl⟩ := ctz_spec s h0 h
  generalize Lib.ctz 64 s = v at hk hb hl
  have hp := pow_lt_64 hk
  have e1 : (List.range v).filter s.testBit = [] := by
    rw [List.filter_eq_nil_iff]; intro j hj; rw [hl j (List.mem_range.1 hj)]; simp
  have e2 : (List.range v).filter (diffB s (2 ^ v)).testBit = [] := by
    rw [List.filter_eq_nil_iff]; intro j hj; rw [testBit_diffB _ _ _ h hp, hl j (List.mem_range.1 hj)]; simp
  have e3 : (List.range' (v + 1) (63 - v)).filter (diffB s (2 ^ v)).testBit = (List.range' (v + 1) (63 - v)).filter s.testBit := by
    apply List.filter_congr
    intro j hj
    have := (List.mem_range'_1.1 hj).1
    rw [testBit_diffB _ _ _ h hp, Nat.testBit_two_pow_of_ne (by omega)]; simp
  have e4 : (diffB s (2 ^ v)).testBit v = false := by rw [testBit_diffB _ _ _ h hp, Nat.testBit_two_pow_self]; simp
  unfold bitsN
  rw [range_split v hk, List.filter_append, List.filter_append, e1, e2, List.filter_cons, List.filter_cons, if_pos hb, e4, e3]
  simp

theorem bitsL_zero : bitsL 0 = [] := by unfold bitsL; rw [bitsN_zero]; rfl
theorem bitsL_step (s : Nat) (h0 : s ≠ 0) (h : s < 18446744073709551616) : bitsL s = (Lib.ctz 64 s : Int) :: bitsL (diffB s (2 ^ Lib.ctz 64 s)) := by
  unfold bitsL; rw [bitsN_step s h0 h]; rfl

theorem diffB_lt (s : Nat) (h0 : s ≠ 0) (h : s < 18446744073709551616) : diffB s (2 ^ Lib.ctz 64 s) < s := by
  obtain ⟨hk, hb, hl⟩ := ctz_spec s h0 h
  have hp := pow_lt_64 hk
  refine Nat.lt_of_le_of_ne (diffB_le _ _) (fun e => ?_)
  have := testBit_diffB s (2 ^ Lib.ctz 64 s) (Lib.ctz 64 s) h hp
  rw [e, hb, Nat.testBit_two_pow_self] at this
  simp at this

theorem bitsN_length (s : Nat) : (bitsN s).length ≤ 64 := by unfold bitsN; exact Nat.le_trans (List.length_filter_le _ _) (by simp)
theorem bitsL_length (s : Nat) : (bitsL s).length ≤ 64 := by unfold bitsL; rw [List.length_map]; exact bitsN_length s

/-- the shift of 1, as the walk has it -/
theorem shl_one (v : Nat) (h : v < 64) : IntKind.u64.wrap ((1 : Int) * 2 ^ min (v : Int).toNat IntKind.u64.bits) = ((2 ^ v : Nat) : Int) := by
  have hp := pow_lt_64 h
  have e : min (v : Int).toNat IntKind.u64.bits = v := by simp [IntKind.bits]; omega
  rw [e, Int.one_mul]
  have : ((2 : Int) ^ v) = ((2 ^ v : Nat) : Int) := by simp
  rw [this]
  generalize 2 ^ v = x at hp
  unfold IntKind.wrap
  simp [IntKind.bits, IntKind.signed]
  omega

end Go.Proofs.YtnnfhnehieoeaaaDoor.Hy
