/- Contracts of hyper.vertices$1, hyper.Check$1$1, hyper.all, hyper.vertices, hyper.Check$1, hyper.Check. -/
import Derived.Test.YtnnfhnehieoeaaaDoorPHyperTellsx0
import Derived.WalkSpells
import Derived.WalkLawsBesides
import Derived.Deep.DeepFit
import Derived.Shelf.Abstract
namespace Go.Proofs.YtnnfhnehieoeaaaDoor.Hy
open Go.RowKit Go.Shelf Go.Proofs.YtnnfhnehieoeaaaDoorW.PrintWords Go.Proofs.YtnnfhnehieoeaaaDoorW.PrintLast Go.Proofs.YtnnfhnehieoeaaaDoorW.PrintMore
set_option linter.unusedVariables false
set_option linter.unusedSimpArgs false

/-- is it a vertex? -/
def vtx (many v : Int) : Bool := decide (0 ≤ v) && decide (v < many)

set_option maxHeartbeats 400000 in
theorem vertices1 (i v many : Int) (a : Addr) (w : World) (hc : w.cell? a = some (.int .i64 many)) :
    Calls Tryd.prog 61 #[.int .i64 i, .int .i64 v, .pointer (some a)] w fun e w' => e = .returned (.bool (vtx many v)) ∧ w = w' := by
  by_cases h0 : 0 ≤ v
  · by_cases h1 : v < many
    · go_enter Tryd.func61, Tryd.ntmps61
      go_wp2
      go_ret
      exact ⟨by simp [vtx, h0, h1], rfl⟩
    · go_enter Tryd.func61, Tryd.ntmps61
      go_wp2
      go_ret
      exact ⟨by simp [vtx, h0, h1], rfl⟩
  · go_enter Tryd.func61, Tryd.ntmps61
    go_wp2
    go_ret
    exact ⟨by simp [vtx]; omega, rfl⟩

/-- does it rise here? -/
def risesAt (xs : List Int) (i v : Int) : Bool := decide (i = 0) || decide (rd xs (i - 1) < v)

set_option maxHeartbeats 400000 in
theorem check11 (i v : Int) (a : Addr) (A : Option Addr) (c : Nat) (xs : List Int) (w : World) (hc : w.cell? a = some (.slice A xs.length c)) (hr : Kd.C (Kd.int .i64) w A xs.length xs) (hc0 : xs.length ≤ c) (hi0 : 0 ≤ i) (hi : i < xs.length) (hlen : (xs.length : Int) ≤ 1099511627776) :
    Calls Tryd.prog 46 #[.int .i64 i, .int .i64 v, .pointer (some a)] w fun e w' => e = .returned (.bool (risesAt xs i v)) ∧ w = w' := by
  by_cases h0 : i = 0
  · subst h0
    go_enter Tryd.func46, Tryd.ntmps46
    go_wp2
    go_ret
    exact ⟨by simp [risesAt], rfl⟩
  · have h1 : 0 ≤ i - 1 := by omega
    have h2 : i - 1 < xs.length := by omega
    obtain ⟨ad, hA, hx⟩ := Kd.at_int hr (i - 1) h1 h2
    subst hA
    rw [show (i - 1).toNat = i.toNat - 1 from by omega] at hx
    have hb : (i == 0) = false := by simpa using h0
    have h1' : 1 ≤ i := by omega
    have HR := Aside0.mk hr
    have HC := Aside0.mk hc0
    clear hr hc0
    by_cases h3 : rd xs (i - 1) < v
    · go_enter Tryd.func46, Tryd.ntmps46
      go_wp2
      go_ret
      exact ⟨by simp [risesAt, h3], rfl⟩
    · go_enter Tryd.func46, Tryd.ntmps46
      go_wp2
      go_ret
      exact ⟨by simp [risesAt, h0]; omega, rfl⟩

/-- does it hold at all places below n? -/
def allB (p : Nat → Bool) (n : Nat) : Bool := (List.range n).all p
theorem allB_zero (p : Nat → Bool) : allB p 0 = true := rfl
theorem allB_succ (p : Nat → Bool) (n : Nat) : allB p (n + 1) = (allB p n && p n) := by unfold allB; rw [List.range_succ, List.all_append]; simp
theorem allB_iff (p : Nat → Bool) (n : Nat) : allB p n = true ↔ ∀ i, i < n → p i = true := by unfold allB; simp
theorem allB_false {p : Nat → Bool} {n i : Nat} (h : i < n) (hp : p i = false) : allB p n = false := by
  rw [Bool.eq_false_iff]; intro ht; rw [(allB_iff p n).1 ht i h] at hp; cases hp

set_option maxHeartbeats 400000 in
theorem all_int (g : Nat) (lb : Array Value) (eg : ∀ args w, (callFunc g args).run Tryd.prog w = .ok (.enter g args) w) (A : Option Addr) (c : Nat) (xs : List Int) (p : Nat → Bool) (w : World)
    (hr : Kd.C (Kd.int .i64) w A xs.length xs) (hc0 : xs.length ≤ c) (hlen : (xs.length : Int) ≤ 1099511627776)
    (H : ∀ i : Nat, i < xs.length → Calls Tryd.prog g (#[.int .i64 i, .int .i64 (rd xs i)] ++ lb) w fun e w' => e = .returned (.bool (p i)) ∧ w = w') :
    Calls Tryd.prog 45 #[.slice A xs.length c, .func (.func g) #[] lb] w fun e w' => e = .returned (.bool (allB p xs.length)) ∧ w = w' := by
  have HR := Aside0.mk hr
  have HC := Aside0.mk hc0
  have HH := Aside0.mk H
  clear hr hc0 H
  go_enter Tryd.func45, Tryd.ntmps45
  go_wp2
  go_loopg [9] xs.length (fun k v9 wr => ∃ (j : Nat), v9 = .int .i64 j ∧ j ≤ xs.length ∧ Aside0 (k + j = xs.length) ∧ Aside0 (allB p j = true) ∧ Aside0 (w = wr))
  case atStart => exact ⟨0, rfl, by omega, ⟨by omega⟩, ⟨rfl⟩, ⟨rfl⟩⟩
  case round =>
    obtain ⟨j, rfl, hj, hk, ht, ⟨rfl⟩⟩ := hrel
    by_cases hlt : j < xs.length
    · obtain ⟨ad, hA, hx⟩ := Kd.at_int HR.out j (by omega) (by omega)
      subst hA
      simp only [Int.toNat_natCast] at hx
      have hcall := HH.out j hlt
      cases hp : p j with
      | true =>
        rw [hp] at hcall
        have HP := Aside0.mk hp
        clear hp
        have HCC := Aside0.mk hcall
        clear hcall
        go_wp2_with (first | (go_at_fn g; refine (HCC.out).mono ?_; rintro e w' ⟨rfl, rfl⟩))
        go_roundg (gk - 1)
        case measure => have := hk.out; omega
        case rel => exact ⟨j + 1, by go_num, by omega, ⟨by have := hk.out; omega⟩, ⟨by rw [allB_succ, ht.out, HP.out]; rfl⟩, ⟨rfl⟩⟩
      | false =>
        rw [hp] at hcall
        have HP := Aside0.mk hp
        clear hp
        have HCC := Aside0.mk hcall
        clear hcall
        go_wp2_with (first | (go_at_fn g; refine (HCC.out).mono ?_; rintro e w' ⟨rfl, rfl⟩))
        go_ret
        exact ⟨by rw [allB_false hlt HP.out]; rfl, rfl⟩
    · have : j = xs.length := by omega
      subst this
      go_wp2
      go_ret
      exact ⟨by rw [ht.out]; rfl, rfl⟩

set_option maxHeartbeats 400000 in
theorem vertices_any (A : Option Addr) (c : Nat) (xs : List Int) (many : Int) (w : World) (hr : Kd.C (Kd.int .i64) w A xs.length xs) (hc0 : xs.length ≤ c) (hlen : (xs.length : Int) ≤ 1099511627776) :
    Calls Tryd.prog 44 #[.slice A xs.length c, .int .i64 many] w fun e w' => e = .returned (.bool (allB (fun i => vtx many (rd xs i)) xs.length)) ∧ Below w.heap.size w w' := by
  have eg : ∀ args w, (callFunc 61 args).run Tryd.prog w = .ok (.enter 61 args) w := enters_of Tryd.func61 (by kernel_rfl) rfl
  have hb : Below w.heap.size w (w.alloc (.cells #[.int .i64 many] 3)) := (Below.refl _ _).alloc (Nat.le_refl _) _
  have hcon := all_int 61 #[.pointer (some ⟨w.heap.size, 0, none⟩)] eg A c xs (fun i => vtx many (rd xs i)) (w.alloc (.cells #[.int .i64 many] 3)) (Kd.C_below hr hb) hc0 hlen
    (fun i hi => by
      have := vertices1 i (rd xs i) many ⟨w.heap.size, 0, none⟩ (w.alloc (.cells #[.int .i64 many] 3)) (by simp)
      exact this)
  have HB := Aside0.mk hb
  have HH := Aside0.mk hcon
  clear hr hb hcon
  go_enter Tryd.func44, Tryd.ntmps44
  go_wp2_with (go_at_call 45; refine (HH.out).mono ?_; rintro e w' ⟨rfl, rfl⟩)
  go_ret
  exact ⟨rfl, HB.out⟩

/-- may it be an edge? -/
def edgeB (many : Int) (xs : List Int) : Bool := allB (fun i => vtx many (rd xs i)) xs.length && allB (fun i => risesAt xs i (rd xs i)) xs.length

set_option maxHeartbeats 400000 in
theorem check1 (i : Int) (A : Option Addr) (c : Nat) (xs : List Int) (many : Int) (b : Nat) (w : World) (hm : w.cell? ⟨b, 0, none⟩ = some (.int .i64 many)) (hr : Kd.C (Kd.int .i64) w A xs.length xs) (hc0 : xs.length ≤ c) (hlen : (xs.length : Int) ≤ 1099511627776) :
    Calls Tryd.prog 43 #[.int .i64 i, .slice A xs.length c, .pointer (some ⟨b, 0, none⟩)] w fun e w' => e = .returned (.bool (edgeB many xs)) ∧ Below w.heap.size w w' := by
  have eg : ∀ args w, (callFunc 46 args).run Tryd.prog w = .ok (.enter 46 args) w := enters_of Tryd.func46 (by kernel_rfl) rfl
  have hb : Below w.heap.size w (w.alloc (.cells #[.slice A xs.length c] 30)) := (Below.refl _ _).alloc (Nat.le_refl _) _
  have hm' := (hb.cell (p := ⟨b, 0, none⟩) (World.block_lt_of_cell? w _ hm)).trans hm
  have hnew : (w.alloc (.cells #[.slice A xs.length c] 30)).cell? ⟨w.heap.size, 0, none⟩ = some (.slice A xs.length c) := by simp
  have hv := vertices_any A c xs many _ (Kd.C_below hr hb) hc0 hlen
  have hall : ∀ w1, Below (w.alloc (.cells #[.slice A xs.length c] 30)).heap.size (w.alloc (.cells #[.slice A xs.length c] 30)) w1 → Calls Tryd.prog 45 #[.slice A xs.length c, .func (.func 46) #[] #[.pointer (some ⟨w.heap.size, 0, none⟩)]] w1 fun e w' => e = .returned (.bool (allB (fun i => risesAt xs i (rd xs i)) xs.length)) ∧ w1 = w' := by
    intro w1 hb1
    have hr1 := Kd.C_below (Kd.C_below hr hb) hb1
    refine all_int 46 _ eg A c xs _ w1 hr1 hc0 hlen (fun i hi => ?_)
    have hcell := (hb1.cell (p := ⟨w.heap.size, 0, none⟩) (by simp)).trans hnew
    exact check11 i (rd xs i) _ A c xs w1 hcell hr1 hc0 (by omega) (by omega) hlen
  have HB := Aside0.mk hb
  have HV := Aside0.mk hv
  have HA := Aside0.mk hall
  clear hr hb hv hall hnew hm hc0
  unfold edgeB
  cases hB : allB (fun i => vtx many (rd xs i)) xs.length with
  | true =>
    have HV1 := Aside0.mk (by have h := HV.out; rw [hB] at h; exact h)
    clear HV
    have HBB := Aside0.mk hB
    clear hB
    go_enter Tryd.func43, Tryd.ntmps43
    go_wp2_with (first | (go_at_call 44; refine (HV1.out).mono ?_; rintro e w1 ⟨rfl, hb1⟩; have HB1 := Aside0.mk hb1; have hcl := (hb1.cell (p := ⟨w.heap.size, 0, none⟩) (by simp)).trans (World.cell?_alloc_new _ _ _ _); simp at hcl; clear hb1) | (go_at_call 45; refine (HA.out _ HB1.out).mono ?_; rintro e w2 ⟨rfl, rfl⟩))
    go_ret
    exact ⟨rfl, HB.out.trans (HB1.out.mono (by simp))⟩
  | false =>
    have HV1 := Aside0.mk (by have h := HV.out; rw [hB] at h; exact h)
    clear HV
    have HBB := Aside0.mk hB
    clear hB
    go_enter Tryd.func43, Tryd.ntmps43
    go_wp2_with (first | (go_at_call 44; refine (HV1.out).mono ?_; rintro e w1 ⟨rfl, hb1⟩; have HB1 := Aside0.mk hb1; have hcl := (hb1.cell (p := ⟨w.heap.size, 0, none⟩) (by simp)).trans (World.cell?_alloc_new _ _ _ _); simp at hcl; clear hb1))
    go_ret
    exact ⟨rfl, HB.out.trans (HB1.out.mono (by simp))⟩

end Go.Proofs.YtnnfhnehieoeaaaDoor.Hy

/- Contracts of hyper.all[[]int], hyper.sizes, hyper.Check. -/
namespace Go.Proofs.YtnnfhnehieoeaaaDoor.Hy
open Go.RowKit Go.Shelf Go.Proofs.YtnnfhnehieoeaaaDoorW.PrintWords Go.Proofs.YtnnfhnehieoeaaaDoorW.PrintLast Go.Proofs.YtnnfhnehieoeaaaDoorW.PrintMore
set_option linter.unusedVariables false
set_option linter.unusedSimpArgs false

def rdL (xs : List (List Int)) (i : Nat) : List Int := xs.getD i []

/-- what a row of rows says of its place i -/
theorem at_row {w : World} {A : Option Addr} {n : Nat} {xs : List (List Int)} (h : Kd.C (Kd.slice 3 (Kd.int .i64)) w A n xs) (i : Nat) (hi : i < n) :
    ∃ ad A0 c0, A = some ad ∧ w.cell? (ad.add i) = some (.slice A0 (rdL xs i).length c0) ∧ (rdL xs i).length ≤ c0 ∧ Kd.C (Kd.int .i64) w A0 (rdL xs i).length (rdL xs i) := by
  obtain ⟨ad, c, hA, hl, hk, hat⟩ := Kd.C_get h [] i (by omega) (by omega)
  obtain ⟨A0, c0, rfl, hlc, hc⟩ := hk
  refine ⟨ad, A0, c0, hA, ?_, ?_, ?_⟩
  · have := hat 0 _ rfl
    simpa [Kd.slice, rdL] using this
  · simpa [rdL] using hlc
  · simpa [rdL] using hc

set_option maxHeartbeats 400000 in
theorem all_rows (g : Nat) (lb : Array Value) (eg : ∀ args w, (callFunc g args).run Tryd.prog w = .ok (.enter g args) w) (A : Option Addr) (c : Nat) (xs : List (List Int)) (p : Nat → Bool) (w : World)
    (hr : Kd.C (Kd.slice 3 (Kd.int .i64)) w A xs.length xs) (hc0 : xs.length ≤ c) (hlen : (xs.length : Int) ≤ 1099511627776)
    (H : ∀ wr, Below w.heap.size w wr → ∀ i : Nat, i < xs.length → ∀ A0 c0, (rdL xs i).length ≤ c0 → Kd.C (Kd.int .i64) wr A0 (rdL xs i).length (rdL xs i) →
      Calls Tryd.prog g (#[.int .i64 i, .slice A0 (rdL xs i).length c0] ++ lb) wr fun e w' => e = .returned (.bool (p i)) ∧ Below wr.heap.size wr w') :
    Calls Tryd.prog 42 #[.slice A xs.length c, .func (.func g) #[] lb] w fun e w' => e = .returned (.bool (allB p xs.length)) ∧ Below w.heap.size w w' := by
  have HR := Aside0.mk hr
  have HC := Aside0.mk hc0
  have HH := Aside0.mk H
  clear hr hc0 H
  go_enter Tryd.func42, Tryd.ntmps42
  go_wp2
  go_loopg [9] xs.length (fun k v9 wr => ∃ (j : Nat), v9 = .int .i64 j ∧ j ≤ xs.length ∧ Aside0 (k + j = xs.length) ∧ Aside0 (allB p j = true) ∧ Aside0 (Below w.heap.size w wr))
  case atStart => exact ⟨0, rfl, by omega, ⟨by omega⟩, ⟨rfl⟩, ⟨Below.refl _ _⟩⟩
  case round =>
    obtain ⟨j, rfl, hj, hk, ht, hB⟩ := hrel
    by_cases hlt : j < xs.length
    · obtain ⟨ad, A0, c0, hA, hx, hxc, hxr⟩ := at_row (Kd.C_below HR.out hB.out) j hlt
      subst hA
      have HCC := Aside0.mk (HH.out wr hB.out j hlt A0 c0 hxc hxr)
      clear hxc hxr
      cases hp : p j with
      | true =>
        have HC2 := Aside0.mk (by have h := HCC.out; rw [hp] at h; exact h)
        clear HCC
        have HP := Aside0.mk hp
        clear hp
        go_wp2_with (first | (go_at_fn g; refine (HC2.out).mono ?_; rintro e w' ⟨rfl, hb1⟩; have HB1 := Aside0.mk hb1; clear hb1))
        go_roundg (gk - 1)
        case measure => have := hk.out; omega
        case rel => exact ⟨j + 1, by go_num, by omega, ⟨by have := hk.out; omega⟩, ⟨by rw [allB_succ, ht.out, HP.out]; rfl⟩, ⟨hB.out.trans (HB1.out.mono hB.out.size)⟩⟩
      | false =>
        have HC2 := Aside0.mk (by have h := HCC.out; rw [hp] at h; exact h)
        clear HCC
        have HP := Aside0.mk hp
        clear hp
        go_wp2_with (first | (go_at_fn g; refine (HC2.out).mono ?_; rintro e w' ⟨rfl, hb1⟩; have HB1 := Aside0.mk hb1; clear hb1))
        go_ret
        exact ⟨by rw [allB_false hlt HP.out]; rfl, hB.out.trans (HB1.out.mono hB.out.size)⟩
    · have : j = xs.length := by omega
      subst this
      go_wp2
      go_ret
      exact ⟨by rw [ht.out]; rfl, hB.out⟩

/-- may there be so many? -/
def sizesB (many edges : Int) : Bool := decide (0 ≤ many) && decide (many ≤ 32) && decide (edges ≤ 40)

set_option maxHeartbeats 400000 in
theorem sizes_any (many edges : Int) (w : World) : Calls Tryd.prog 41 #[.int .i64 many, .int .i64 edges] w fun e w' => e = .returned (.bool (sizesB many edges)) ∧ w = w' := by
  by_cases h0 : 0 ≤ many
  · by_cases h1 : many ≤ 32
    · by_cases h2 : edges ≤ 40
      · go_enter Tryd.func41, Tryd.ntmps41
        go_wp2
        go_ret
        exact ⟨by simp [sizesB, h0, h1, h2], rfl⟩
      · go_enter Tryd.func41, Tryd.ntmps41
        go_wp2
        go_ret
        exact ⟨by simp [sizesB, h0, h1]; omega, rfl⟩
    · go_enter Tryd.func41, Tryd.ntmps41
      go_wp2
      go_ret
      exact ⟨by simp [sizesB, h0]; omega, rfl⟩
  · go_enter Tryd.func41, Tryd.ntmps41
    go_wp2
    go_ret
    exact ⟨by simp [sizesB]; omega, rfl⟩

/-- may it be a hypergraph? -/
def rightB (many : Int) (xs : List (List Int)) : Bool := sizesB many xs.length && allB (fun i => edgeB many (rdL xs i)) xs.length

/-- all rows are of a length that can be counted -/
def short (xs : List (List Int)) : Prop := (xs.length : Int) ≤ 1099511627776 ∧ ∀ i, ((rdL xs i).length : Int) ≤ 1099511627776

/-- the error of a hypergraph -/
def checkE (many : Int) (xs : List (List Int)) : Int := if rightB many xs then 0 else 300

set_option maxHeartbeats 400000 in
theorem check_any (many : Int) (A : Option Addr) (c : Nat) (xs : List (List Int)) (w : World) (hr : Kd.C (Kd.slice 3 (Kd.int .i64)) w A xs.length xs) (hc0 : xs.length ≤ c) (hs : short xs) :
    Calls Tryd.prog 19 #[.agg #[.int .i64 many, .slice A xs.length c]] w fun e w' => e = .returned (.int .i64 (checkE many xs)) ∧ Below w.heap.size w w' := by
  have eg : ∀ args w, (callFunc 43 args).run Tryd.prog w = .ok (.enter 43 args) w := enters_of Tryd.func43 (by kernel_rfl) rfl
  have hb : Below w.heap.size w (w.alloc (.cells #[.int .i64 many, .slice A xs.length c] 24)) := (Below.refl _ _).alloc (Nat.le_refl _) _
  have hall : Calls Tryd.prog 42 #[.slice A xs.length c, .func (.func 43) #[] #[.pointer (some ⟨w.heap.size, 0, none⟩)]] (w.alloc (.cells #[.int .i64 many, .slice A xs.length c] 24)) fun e w' => e = .returned (.bool (allB (fun i => edgeB many (rdL xs i)) xs.length)) ∧ Below (w.alloc (.cells #[.int .i64 many, .slice A xs.length c] 24)).heap.size (w.alloc (.cells #[.int .i64 many, .slice A xs.length c] 24)) w' := by
    refine all_rows 43 _ eg A c xs _ _ (Kd.C_below hr hb) hc0 hs.1 (fun wr hbr i hi A0 c0 hxc hxr => ?_)
    have hm := (hbr.cell (p := ⟨w.heap.size, 0, none⟩) (by simp)).trans (World.cell?_alloc_new _ _ _ _)
    exact check1 i A0 c0 (rdL xs i) many w.heap.size wr hm hxr hxc (hs.2 i)
  have HB := Aside0.mk hb
  have HA := Aside0.mk hall
  have HS := Aside0.mk hs
  clear hr hb hall hs hc0
  unfold checkE rightB
  cases h0 : sizesB many xs.length with
  | true =>
    have HSZ : ∀ w, Calls Tryd.prog 41 #[.int .i64 many, .int .i64 xs.length] w fun e w' => e = .returned (.bool true) ∧ w = w' := fun w => h0 ▸ sizes_any many xs.length w
    have HSZ := Aside0.mk HSZ
    clear h0
    cases h1 : allB (fun i => edgeB many (rdL xs i)) xs.length with
    | true =>
      have HA1 := Aside0.mk (by have h := HA.out; rw [h1] at h; exact h)
      clear HA h1
      go_enter Tryd.func19, Tryd.ntmps19
      go_wp2_with (first | (go_at_call 41; refine (HSZ.out _).mono ?_; rintro e w1 ⟨rfl, rfl⟩) | (go_at_call 42; refine (HA1.out).mono ?_; rintro e w1 ⟨rfl, hb1⟩; have HB1 := Aside0.mk hb1; clear hb1))
      go_ret
      exact ⟨rfl, HB.out.trans (HB1.out.mono (by simp))⟩
    | false =>
      have HA1 := Aside0.mk (by have h := HA.out; rw [h1] at h; exact h)
      clear HA h1
      go_enter Tryd.func19, Tryd.ntmps19
      go_wp2_with (first | (go_at_call 41; refine (HSZ.out _).mono ?_; rintro e w1 ⟨rfl, rfl⟩) | (go_at_call 42; refine (HA1.out).mono ?_; rintro e w1 ⟨rfl, hb1⟩; have HB1 := Aside0.mk hb1; clear hb1))
      go_ret
      exact ⟨rfl, HB.out.trans (HB1.out.mono (by simp))⟩
  | false =>
    have HSZ : ∀ w, Calls Tryd.prog 41 #[.int .i64 many, .int .i64 xs.length] w fun e w' => e = .returned (.bool false) ∧ w = w' := fun w => h0 ▸ sizes_any many xs.length w
    have HSZ := Aside0.mk HSZ
    clear h0 HA
    go_enter Tryd.func19, Tryd.ntmps19
    go_wp2_with (first | (go_at_call 41; refine (HSZ.out _).mono ?_; rintro e w1 ⟨rfl, rfl⟩))
    go_ret
    exact ⟨rfl, HB.out⟩

end Go.Proofs.YtnnfhnehieoeaaaDoor.Hy

/- Contracts of slices.Clone[[]int], colanderlaw20.rows, colanderlaw20.own. -/
namespace Go.Proofs.YtnnfhnehieoeaaaDoor.Hy
open Go.RowKit Go.Shelf Go.Proofs.YtnnfhnehieoeaaaDoorW.PrintWords Go.Proofs.YtnnfhnehieoeaaaDoorW.PrintLast Go.Proofs.YtnnfhnehieoeaaaDoorW.PrintMore Go.Proofs.YtnnfhnehieoeaaaDoor.PHyperTells
set_option linter.unusedVariables false
set_option linter.unusedSimpArgs false
attribute [local go_sem] max2_int min2_int max_two min_two max_three min_three max_four min_four

abbrev KI : Kd Int := Kd.int .i64
abbrev KL : Kd (List Int) := Kd.slice 3 (Kd.int .i64)
abbrev anyK : Nat → Prop := fun _ => True

theorem R_empty (w : World) : KI.R 3 (w.alloc (.cells #[] 3)) w.heap.size anyK (.slice (some ⟨w.heap.size, 0, none⟩) 0 0) [] :=
  Kd.R_of_own ⟨rfl, .inr ⟨w.heap.size, 0, #[], rfl, Nat.le_refl _, by show (w.heap.push _)[w.heap.size]? = _; simp, Nat.le_refl _, by simp [maxLen], rfl, rfl⟩⟩ (fun _ _ => trivial)

set_option maxHeartbeats 400000 in
theorem clone_any (A : Option Addr) (c : Nat) (xs : List Int) (w : World) (hr : KI.C w A xs.length xs) (hlen : xs.length ≤ 1099511627776) :
    Calls Tryd.prog 39 #[.slice A xs.length c] w fun e w' => ∃ v, e = .returned v ∧ KI.R 3 w' w.heap.size anyK v xs ∧ Below w.heap.size w w' := by
  have HR := Aside0.mk hr
  clear hr
  have heq := fun w => Lib.run_eql_slice_nil (P := Tryd.prog) w 30 3 A xs.length c 0 0 Tryd.underlying30
  cases A with
  | none =>
    have hx : xs = [] := by
      cases xs with
      | nil => rfl
      | cons x l => obtain ⟨ad, h, _⟩ := HR.out.2.2 (by simp); cases h
    subst hx
    simp only [List.length_nil, Option.isNone_none] at heq ⊢
    go_enter Tryd.func39, Tryd.ntmps39
    go_wp2
    go_ret
    exact ⟨_, rfl, Kd.R_nil _ _ _ _ _, Below.refl _ _⟩
  | some ad =>
    have hb : Below w.heap.size w (w.alloc (.cells #[] 3)) := (Below.refl _ _).alloc (Nat.le_refl _) _
    have HB := Aside0.mk hb
    have HE := Aside0.mk (R_empty w)
    have HR2 := Aside0.mk (Kd.C_below HR.out hb)
    clear hb
    go_enter Tryd.func39, Tryd.ntmps39
    go_wp2_with (first | ((with_reducible refine gate_builtin (b := .append) (xs := #[.tmp 5, .tmp 6]) rfl ?_); at_builtin; (refine Kd.R_append_row (Value.int .i64) 0 (h1 := fun _ => rfl) (w0 := w) w.heap.size rfl (.tmp 5) (.tmp 6) 30 3 (.int .i64 0) 8 rfl Tryd.underlying30 info3 rfl (by decide) (.slice (some ⟨w.heap.size, 0, none⟩) 0 0) [] xs (some ad) xs.length c anyK rfl rfl ?aF ?aO ?aR ?aB ?aS ?aL ?_); (case aF => exact fun _ _ => trivial); (case aO => exact HE.out); (case aR => exact HR2.out); (case aB => exact HB.out); (case aS => simp); (case aL => simp; omega); intro v1 w1 ho hb1 hg hat; have HO := Aside0.mk ho; have HB1 := Aside0.mk hb1; clear ho hb1 hg hat))
    go_ret
    exact ⟨_, rfl, HO.out, HB1.out⟩

/-- so many rows, each of at most 34 -/
def cutRows (m : Nat) (xs : List (List Int)) : List (List Int) := (xs.take m).map (List.take 34)

theorem cutRows_snoc (m j : Nat) (xs : List (List Int)) (h : j < xs.length) (hm : j < m) : cutRows (j + 1) xs = cutRows j xs ++ [(rdL xs j).take 34] := by
  unfold cutRows
  rw [List.take_succ_eq_append_getElem h, List.map_append]
  simp [rdL, List.getD_eq_getElem?_getD, List.getElem?_eq_getElem h]

theorem C_takeI {A : Option Addr} {xs : List Int} {w : World} (h : KI.C w A xs.length xs) (k : Nat) : KI.C w A (xs.take k).length (xs.take k) := by
  by_cases hk : k ≤ xs.length
  · exact Kd.C_take h hk
  · rw [List.take_of_length_le (by omega)]; exact h

theorem clone_n (n : Nat) (A : Option Addr) (c : Nat) (xs : List Int) (w : World) (hn : xs.length = n) (hr : KI.C w A xs.length xs) (hlen : xs.length ≤ 1099511627776) :
    Calls Tryd.prog 39 #[.slice A n c] w fun e w' => ∃ v, e = .returned v ∧ KI.R 3 w' w.heap.size anyK v xs ∧ Below w.heap.size w w' := by
  subst hn; exact clone_any A c xs w hr hlen

theorem cutRows_end (m j : Nat) (xs : List (List Int)) (h1 : j ≤ m) (h2 : j ≤ xs.length) (h : ¬ (j < m ∧ j < xs.length)) : cutRows j xs = cutRows m xs := by
  unfold cutRows
  by_cases e : j = m
  · rw [e]
  · have : j = xs.length := by omega
    rw [List.take_of_length_le (by omega), List.take_of_length_le (by omega)]

theorem cutRows_length (m : Nat) (xs : List (List Int)) : (cutRows m xs).length ≤ m := by unfold cutRows; simp; omega

theorem min34 (n : Nat) : ∃ k : Nat, k = min n 34 ∧ k ≤ n ∧ k ≤ 34 := ⟨min n 34, rfl, by omega, by omega⟩

/-- what a call hands back is none of the blocks of an elder row -/
theorem M_new_row {W w1 : World} {xs : List Int} {v u : Value} {ys : List (List Int)} {base : Nat} (h : KI.R 3 w1 W.heap.size anyK v xs) (ho : KL.R 30 W base anyK u ys) :
    KL.M w1 W.heap.size (fun k => W.heap.size ≤ k) xs [v] ∧ ∀ k, W.heap.size ≤ k → True ∧ some k ≠ u.ownBlock := by
  refine ⟨⟨v, rfl, Kd.R_mono (Kd.R_bound h) (fun k hk => hk.2.1)⟩, fun k hk => ⟨trivial, fun e => ?_⟩⟩
  obtain ⟨inner, hown⟩ := Kd.R_own ho
  have := own_lt hown k e.symm
  omega

theorem R_form {w : World} {base : Nat} {v : Value} {xs : List Int} (h : KI.R 3 w base anyK v xs) : ∃ A n c, v = .slice A n c := by obtain ⟨A, c, e⟩ := Kd.R_slice h; exact ⟨A, _, c, e⟩

section
variable {ops : Array Oper} {o : Oper} {a : Act} {Q : Exit → Act → World → Prop} {rest : List Oper}
/-- 'out = append(out, f(..))', f's result being a row of its own -/
theorem app_row {w0 W w1 : World} {base : Nat} (s x : Operand) {u v : Value} {ys : List (List Int)} {row : List Int} (hgd : o.guard = none)
    (ho : o.op = .call { callee := .builtin .append, args := #[s, x], argTypes := #[22, 22] }) (hs : a.eval s = u) (hx : a.eval x = .slice (some ⟨w1.heap.size, 0, none⟩) 1 1)
    (HO : KL.R 30 W base anyK u ys) (hv : KI.R 3 w1 W.heap.size anyK v row) (hb1 : Below W.heap.size W w1) (HB : Below base w0 W) (hbase : base ≤ W.heap.size) (hl : ys.length ≤ 1099511627776)
    (h : ∀ v1 w2, KL.R 30 w2 base anyK v1 (ys ++ [row]) → Below base w0 w2 → wpList Tryd.prog ops Q rest (a.put o.dst v1) w2) :
    wpList Tryd.prog ops Q (o :: rest) a (w1.alloc (.cells #[v] 30)) := by
  obtain ⟨hM, hne⟩ := M_new_row hv HO
  refine Kd.R_append KL (w0 := w0) (W := w1) base hgd s x 22 30 (.slice none 0 0) 24 ho Tryd.underlying22 info30 rfl (by decide) (by decide) u ys row [v] anyK (fun k => W.heap.size ≤ k) hs hx
    (KL.M_lower hbase hM) hne (fun _ _ => trivial) (Kd.R_below HO hb1) (HB.trans (hb1.mono hbase)) (Nat.le_trans hbase hb1.size) (by omega) ?_
  intro v1 w2 h1 h2 _ _
  exact h v1 w2 h1 h2
end

set_option maxHeartbeats 2000000 in
set_option maxRecDepth 100000 in
theorem rows_any (A : Option Addr) (c : Nat) (xs : List (List Int)) (m : Nat) (w : World) (hr : KL.C w A xs.length xs) (hc0 : xs.length ≤ c) (hm : m ≤ 1000) :
    Calls Tryd.prog 17 #[.slice A xs.length c, .int .i64 m] w fun e w' => ∃ v, e = .returned v ∧ KL.R 30 w' w.heap.size anyK v (cutRows m xs) ∧ Below w.heap.size w w' := by
  have hbig := hr.2.1
  have HR := Aside0.mk hr
  clear hr
  by_cases hmx : m < xs.length
  all_goals
    go_enter Tryd.func17, Tryd.ntmps17
    go_wp2
    go_loopg [5, 15] m (fun k v5 v15 wr => ∃ (j : Nat), v15 = .int .i64 j ∧ j ≤ m ∧ j ≤ xs.length ∧ Aside0 (k + j = m) ∧ Aside0 (KL.R 30 wr w.heap.size anyK v5 (cutRows j xs)) ∧ Aside0 (Below w.heap.size w wr))
    case atStart => exact ⟨0, rfl, by omega, by omega, ⟨by omega⟩, ⟨Kd.R_nil _ _ _ _ _⟩, ⟨Below.refl _ _⟩⟩
    case round =>
      obtain ⟨j, rfl, hj, hj2, hk, hO, hB⟩ := hrel
      by_cases hlt : j < m ∧ j < xs.length
      · obtain ⟨hl1, hl2⟩ := hlt
        obtain ⟨ad, A0, c0, hA, hx, hxc, hxr⟩ := at_row (Kd.C_below HR.out hB.out) j hl2
        subst hA
        have HXR := Aside0.mk hxr
        have hrb := hxr.2.1
        have hsn := Aside0.mk (cutRows_snoc m j xs hl2 hl1)
        have hcl := Aside0.mk (cutRows_length j xs)
        have HCL : ∀ n, (∀ l, l = (rdL xs j).take 34 → l.length = n) → Aside0 (Calls Tryd.prog 39 #[.slice A0 n c0] wr fun e w' => ∃ v, e = .returned v ∧ KI.R 3 w' wr.heap.size anyK v ((rdL xs j).take 34) ∧ Below wr.heap.size wr w') := fun n hn =>
          ⟨clone_n n A0 c0 _ wr (hn _ rfl) (C_takeI HXR.out 34) (by rw [List.length_take]; omega)⟩
        clear hxr
        by_cases h34 : 34 < (rdL xs j).length
        · have HC1 := HCL 34 (fun l hl => by rw [hl, List.length_take]; omega)
          have h34c : 34 ≤ c0 := by omega
          clear HCL
          go_wp2_with (first | (go_at_call 39; refine (HC1.out).mono ?_; rintro e w1 ⟨v, rfl, hv, hb1⟩; obtain ⟨Av, nv, cv, rfl⟩ := R_form hv; have HV := Aside0.mk hv; have HB1 := Aside0.mk hb1; clear hv hb1) | (at_builtin; refine app_row (.tmp 19) (.tmp 26) rfl rfl rfl rfl hO.out HV.out HB1.out hB.out hB.out.size (by have := hcl.out; omega) ?_; intro v1 w2 ho hb2; have HO2 := Aside0.mk ho; have HB2 := Aside0.mk hb2; clear ho hb2))
          go_roundg (gk - 1)
          case measure => have := hk.out; omega
          case rel => exact ⟨j + 1, by go_num, by omega, by omega, ⟨by have := hk.out; omega⟩, ⟨hsn.out ▸ HO2.out⟩, HB2⟩
        · have HC1 := HCL (rdL xs j).length (fun l hl => by rw [hl, List.length_take]; omega)
          clear HCL
          go_wp2_with (first | (go_at_call 39; refine (HC1.out).mono ?_; rintro e w1 ⟨v, rfl, hv, hb1⟩; obtain ⟨Av, nv, cv, rfl⟩ := R_form hv; have HV := Aside0.mk hv; have HB1 := Aside0.mk hb1; clear hv hb1) | (at_builtin; refine app_row (.tmp 19) (.tmp 26) rfl rfl rfl rfl hO.out HV.out HB1.out hB.out hB.out.size (by have := hcl.out; omega) ?_; intro v1 w2 ho hb2; have HO2 := Aside0.mk ho; have HB2 := Aside0.mk hb2; clear ho hb2))
          go_roundg (gk - 1)
          case measure => have := hk.out; omega
          case rel => exact ⟨j + 1, by go_num, by omega, by omega, ⟨by have := hk.out; omega⟩, ⟨hsn.out ▸ HO2.out⟩, HB2⟩
      · have HE := Aside0.mk (cutRows_end m j xs hj hj2 hlt)
        go_wp2
        go_ret
        exact ⟨_, rfl, HE.out ▸ hO.out, hB.out⟩

end Go.Proofs.YtnnfhnehieoeaaaDoor.Hy
