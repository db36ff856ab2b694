/- Reading the arguments: a row of rows of numbers; a hypergraph; the table of the library's. -/
import Derived.Test.YtnnfhnehieoeaaaDoorEA22
import Derived.Test.YtnnfhnehieoeaaaDoorCards
import Derived.Test.YtnnfhnehieoeaaaDoorTie
import Derived.ProofKit
import Derived.OpenShut
import Derived.Deep.DeepHandedRow
import Derived.Deep.Matrix
import Derived.Lib.LaidTab
import Derived.Lib.SmallJoins
import Derived.Carry
namespace Go.Proofs.YtnnfhnehieoeaaaDoor.Hy
open Go.RowKit Go.Shelf Go.Deep Go.ChangeShapes Go.WideShapes Go.ChangeAt Go.Proofs.YtnnfhnehieoeaaaDoorW.PrintWords Go.Proofs.YtnnfhnehieoeaaaDoorW.PrintLast Go.Proofs.YtnnfhnehieoeaaaDoorW.PrintMore Go.Proofs.YtnnfhnehieoeaaaDoor.PHyperTells
set_option linter.unusedVariables false
set_option linter.unusedSimpArgs false

theorem own_knob : ownKnob Tryd.prog.godebug = none := by kernel_rfl
theorem laid_out : laidOutB Tryd.prog = true := by kernel_rfl
theorem gTab : Tryd.prog.globalNamed "math/bits.deBruijn64tab" = some 0 := by kernel_rfl

section
variable {H : Type} {enc : TypeId × Value → H} {W : World} {base : Nat} {held : Bool}

theorem open_rows {fuel : Nat} {cs : List Value} {y : DataW H × List MemPlace} (h : DataW.trod enc Tryd.prog W base (fun _ => true) held fuel 22 cs = some y) :
    ∃ A c xs, cs = [.slice A xs.length c] ∧ xs.length ≤ c ∧ KL.C W A xs.length xs := by
  rcases open_int_rows Tryd.underlying22 Tryd.underlying30 Tryd.underlying3 (by kernel_rfl) (by kernel_rfl) h with ⟨rfl, _⟩ | ⟨a, len, cap, A, L, C, Z, rfl, _, hl, hm, _, hrow⟩
  · exact ⟨none, 0, [], rfl, Nat.le_refl _, rfl, by decide, fun h => absurd h (by decide)⟩
  · have hm' : cap ≤ 9223372036854775807 := hm
    have hlen : ((List.range len).map fun r => (Z r).take (L r)).length = len := by simp
    refine ⟨some a, cap, (List.range len).map fun r => (Z r).take (L r), by rw [hlen], by rw [hlen]; exact hl, rfl, by rw [hlen]; omega, fun _ => ⟨a, rfl, fun j p hj => ?_⟩⟩
    have hj' : j < len := by
      have := (List.getElem?_eq_some_iff.1 hj).1
      rwa [hlen] at this
    have hp : p = (Z j).take (L j) := by
      have := (List.getElem?_eq_some_iff.1 hj).2
      simpa using this.symm
    subst hp
    obtain ⟨c0, c1, c2, c3, c4, c5, c6⟩ := hrow j (by omega)
    have c2' : C j ≤ 9223372036854775807 := c2
    have hpl : ((Z j).take (L j)).length = L j := by rw [List.length_take]; omega
    refine ⟨[.slice (A j) (L j) (C j)], rfl, ⟨A j, C j, by rw [hpl], by rw [hpl]; exact c1, rfl, by rw [hpl]; omega, fun hpos => ?_⟩, fun i u hu => ?_⟩
    · rw [hpl] at hpos
      cases hA : A j with
      | none => have := c5 hA; omega
      | some a' =>
        refine ⟨a', rfl, fun i x hi => ⟨[.int .i64 x], rfl, rfl, fun k u hu => ?_⟩⟩
        have hi' : i < L j := by
          have := (List.getElem?_eq_some_iff.1 hi).1
          rwa [hpl] at this
        have hk : k = 0 := by have := (List.getElem?_eq_some_iff.1 hu).1; simpa using this
        subst hk
        have hu' : Value.int .i64 x = u := by simpa using hu
        subst hu'
        have hx : (Z j).getD i 0 = x := by
          rw [List.getElem?_take_of_lt hi'] at hi
          rw [List.getD_eq_getElem?_getD, hi]; rfl
        have := (c6 a' hA).2 i (by omega)
        rw [hx] at this
        show W.cell? (a'.add (i * 1 + 0)) = _
        rw [show i * 1 + 0 = i by omega]; exact this
    · have hi : i = 0 := by have := (List.getElem?_eq_some_iff.1 hu).1; simpa using this
      subst hi
      have hu' : Value.slice (A j) (L j) (C j) = u := by simpa using hu
      subst hu'
      rw [show j * KL.sz + 0 = j by show j * 1 + 0 = j; omega]; exact c0

set_option maxRecDepth 100000 in
/-- a row of rows that is an argument -/
theorem open_rows_arg {v : Value} {d : DataW H} {p : List MemPlace} (h : DataW.Trod enc Tryd.prog W base (fun _ => true) held 22 v d p) (hv : Value.okWide Tryd.prog W .any 0 22 v) :
    ∃ A c xs, v = .slice A xs.length c ∧ xs.length ≤ c ∧ KL.C W A xs.length xs := by
  obtain ⟨a, l, c, rfl⟩ := okWide_slice Tryd.underlying22 hv
  obtain ⟨fuel, hf⟩ := h
  obtain ⟨A, c', xs, he, hl, hC⟩ := open_rows hf
  have he' : Value.slice a l c = .slice A xs.length c' := by simpa [Value.cells] using he
  injection he' with e1 e2 e3
  subst e1; subst e3
  exact ⟨a, c, xs, by rw [e2], hl, hC⟩

set_option maxRecDepth 100000 in
/-- a hypergraph that is an argument -/
theorem open_hyper {v : Value} {d : DataW H} {p : List MemPlace} (h : DataW.Trod enc Tryd.prog W base (fun _ => true) held 24 v d p) (hv : Value.okWide Tryd.prog W .any 0 24 v) :
    ∃ many A c xs, v = .agg #[.int .i64 many, .slice A xs.length c] ∧ xs.length ≤ c ∧ KL.C W A xs.length xs := by
  obtain ⟨v0, v1, y0, y1, n, rfl, _, _, h0, h1⟩ := Joins.open_agg2 Tryd.underlying24 (by kernel_rfl) (by kernel_rfl) hv h
  obtain ⟨m, hm, _⟩ := DataW.trod_int Tryd.underlying3 h0
  obtain ⟨A, c, xs, he, hl, hC⟩ := open_rows h1
  have e0 : v0 = .int .i64 m := by simpa using hm
  have e1 : v1 = .slice A xs.length c := by simpa using he
  subst e0; subst e1
  exact ⟨m, A, c, xs, rfl, hl, hC⟩
end

end Go.Proofs.YtnnfhnehieoeaaaDoor.Hy
