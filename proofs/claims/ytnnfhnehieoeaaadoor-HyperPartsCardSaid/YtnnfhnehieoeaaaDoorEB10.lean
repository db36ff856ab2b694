/- Plain laws for HyperWhole: an edge of all vertices; an edge within another one. -/
import Derived.Test.YtnnfhnehieoeaaaDoorEA22
namespace Go.Proofs.YtnnfhnehieoeaaaDoor.Hy
open Go.RowKit Go.Proofs.YtnnfhnehieoeaaaDoorW.PrintWords
set_option linter.unusedVariables false
set_option linter.unusedSimpArgs false

theorem rdL_snoc (xs : List (List Int)) (e : List Int) (i : Nat) : rdL (xs ++ [e]) i = if i < xs.length then rdL xs i else if i = xs.length then e else [] := by
  unfold rdL
  by_cases h : i < xs.length
  · rw [if_pos h]; simp [List.getD_eq_getElem?_getD, List.getElem?_append_left h]
  · rw [if_neg h]
    by_cases h2 : i = xs.length
    · subst h2; simp [List.getD_eq_getElem?_getD]
    · rw [if_neg h2]; simp [List.getD_eq_getElem?_getD, List.getElem?_append_right (show xs.length ≤ i by omega), List.getElem?_eq_none (show [e].length ≤ i - xs.length by simp; omega)]

theorem right_snoc {many : Int} {xs : List (List Int)} {e : List Int} (h : rightB many xs = true) (hl : xs.length < 40) (he : edgeB many e = true) : rightB many (xs ++ [e]) = true := by
  unfold rightB at h ⊢
  rw [Bool.and_eq_true] at h ⊢
  refine ⟨?_, ?_⟩
  · have := h.1
    unfold sizesB at this ⊢
    simp at this ⊢
    omega
  · refine (allB_iff _ _).2 fun i hi => ?_
    have hl' : (xs ++ [e]).length = xs.length + 1 := by simp
    rw [rdL_snoc]
    by_cases h1 : i < xs.length
    · rw [if_pos h1]; exact (allB_iff _ _).1 h.2 i h1
    · rw [if_neg h1, if_pos (by omega)]; exact he

theorem right_edge {many : Int} {xs : List (List Int)} (h : rightB many xs = true) {e : List Int} (he : e ∈ xs) : edgeB many e = true := by
  unfold rightB at h
  rw [Bool.and_eq_true] at h
  obtain ⟨i, hi, rfl⟩ := List.mem_iff_getElem.1 he
  have := (allB_iff _ _).1 h.2 i hi
  rwa [rdL_at xs i hi] at this

/-- all vertices -/
def rangeL (m : Nat) : List Int := (List.range m).map fun (v : Nat) => (v : Int)
theorem rangeL_len (m : Nat) : (rangeL m).length = m := by simp [rangeL]
theorem rangeL_rd (m i : Nat) (h : i < m) : rd (rangeL m) i = i := by simp [rd, rangeL, List.getD_eq_getElem?_getD, h]
theorem rangeL_mem (m : Nat) (v : Int) : v ∈ rangeL m ↔ 0 ≤ v ∧ v < m := by
  unfold rangeL
  rw [List.mem_map]
  constructor
  · rintro ⟨a, ha, rfl⟩; have := List.mem_range.1 ha; omega
  · rintro ⟨h1, h2⟩; exact ⟨v.toNat, List.mem_range.2 (by omega), by omega⟩
theorem rangeL_succ (m : Nat) : rangeL (m + 1) = rangeL m ++ [(m : Int)] := by unfold rangeL; rw [List.range_succ, List.map_append]; rfl

theorem edge_range (m : Nat) : edgeB m (rangeL m) = true := by
  unfold edgeB
  rw [Bool.and_eq_true]
  refine ⟨(allB_iff _ _).2 fun i hi => ?_, (allB_iff _ _).2 fun i hi => ?_⟩
  · rw [rangeL_len] at hi
    rw [rangeL_rd m i hi]; unfold vtx; simp; omega
  · rw [rangeL_len] at hi
    rw [rangeL_rd m i hi]
    unfold risesAt
    by_cases h0 : i = 0
    · subst h0; simp
    · rw [show ((i : Int) - 1) = ((i - 1 : Nat) : Int) from by omega, rangeL_rd m (i - 1) (by omega)]
      simp; omega

theorem rd_take (e : List Int) (k i : Nat) (h : i < (e.take k).length) : rd (e.take k) i = rd e i := by
  rw [List.length_take] at h
  simp only [rd, Int.toNat_natCast, List.getD_eq_getElem?_getD]
  rw [List.getElem?_take_of_lt (by omega)]

theorem edge_take {many : Int} {e : List Int} (h : edgeB many e = true) (k : Nat) : edgeB many (e.take k) = true := by
  unfold edgeB at h ⊢
  rw [Bool.and_eq_true] at h ⊢
  have hlen : (e.take k).length ≤ e.length := by rw [List.length_take]; omega
  refine ⟨(allB_iff _ _).2 fun i hi => ?_, (allB_iff _ _).2 fun i hi => ?_⟩
  · rw [rd_take e k i hi]; exact (allB_iff _ _).1 h.1 i (by omega)
  · have h2 := (allB_iff _ _).1 h.2 i (by omega)
    rw [rd_take e k i hi]
    unfold risesAt at h2 ⊢
    by_cases h0 : i = 0
    · subst h0; simp
    · rw [show ((i : Int) - 1) = ((i - 1 : Nat) : Int) from by omega] at h2 ⊢
      rw [rd_take e k (i - 1) (by omega)]; exact h2

/-- with an edge of all vertices nothing is left -/
theorem left_whole {m : Nat} {xs L : List (List Int)} (hR : rightB m (xs ++ [rangeL m]) = true) (h : LeftIs (xs ++ [rangeL m]) L) : L = [] := by
  obtain ⟨A, hc, hs, hm⟩ := h.ex
  have hn := right_nice hR
  have hlt := right_lt hR
  cases L with
  | nil => rfl
  | cons r l =>
    obtain ⟨s, hA, _⟩ := (hm r).1 List.mem_cons_self
    refine absurd hA (hc.none_left hs (setOf (rangeL m)) ⟨rangeL m, by simp, rfl⟩ ?_ s)
    rintro e ⟨x, hx, rfl⟩ v hv
    rw [setOf_bits] at hv ⊢
    obtain ⟨u, hu, rfl⟩ := hv
    have h0 := ((hn x hx).1 u hu).1
    exact ⟨u, (rangeL_mem m u).2 ⟨h0, hlt x hx u hu⟩, rfl⟩

theorem famL_snoc (xs : List (List Int)) (e : List Int) (s : Nat) : famL (xs ++ [e]) s ↔ famL xs s ∨ s = setOf e := by
  unfold famL
  constructor
  · rintro ⟨x, hx, rfl⟩
    rcases List.mem_append.1 hx with h | h
    · exact .inl ⟨x, h, rfl⟩
    · rw [List.mem_singleton.1 h]; exact .inr rfl
  · rintro (⟨x, hx, rfl⟩ | rfl)
    · exact ⟨x, by simp [hx], rfl⟩
    · exact ⟨e, by simp, rfl⟩

/-- an edge within another one changes nothing of what is left -/
theorem left_more {xs L : List (List Int)} {e e1 : List Int} (he : e1 ∈ xs) (hsub : ∀ v, v ∈ e → v ∈ e1) (h : LeftIs (xs ++ [e]) L) : LeftIs xs L := by
  obtain ⟨A, hc, hs, hm⟩ := h.ex
  refine ⟨h.strict, A, ?_, hs, hm⟩
  have hfam : famL (xs ++ [e]) = fun s => famL xs s ∨ s = setOf e := by funext s; exact propext (famL_snoc xs e s)
  rw [hfam] at hc
  refine hc.more (setOf e) (setOf e1) ⟨e1, he, rfl⟩ ?_ hs
  intro v hv
  rw [setOf_bits] at hv ⊢
  obtain ⟨u, hu, rfl⟩ := hv
  exact ⟨u, hsub u hu, rfl⟩

/-- .. nor of the parts -/
theorem parts_more {many : Int} {xs : List (List Int)} {e e1 : List Int} (hR : rightB many xs = true) (hR2 : rightB many (xs ++ [e]) = true) (he : e1 ∈ xs) (hsub : ∀ v, v ∈ e → v ∈ e1) : partsL many (xs ++ [e]) = partsL many xs := by
  have hm := right_many hR
  obtain ⟨m, rfl⟩ := Int.eq_ofNat_of_zero_le hm.1
  unfold partsL
  rw [if_pos hR, if_pos hR2, Int.toNat_natCast]
  have hset : ∀ s, s ∈ setsOf (xs ++ [e]) ↔ s ∈ setsOf xs ∨ s = setOf e := fun s => by unfold setsOf; simp
  have hcl : ∀ Q, closedP (setsOf (xs ++ [e])) Q ↔ closedP (setsOf xs) Q := fun Q => by
    constructor
    · intro h s hs; exact h s ((hset s).2 (.inl hs))
    · intro h s hs
      rcases (hset s).1 hs with h1 | rfl
      · exact h s h1
      · rintro ⟨v, hv, hq⟩ u hu
        have hs1 : setOf e1 ∈ setsOf xs := by unfold setsOf; exact List.mem_map.2 ⟨e1, he, rfl⟩
        have hin : ∀ v, vin v (setOf e) → vin v (setOf e1) := fun v hv => by
          rw [setOf_bits] at hv ⊢
          obtain ⟨u, hu, rfl⟩ := hv
          exact ⟨u, hsub u hu, rfl⟩
        exact h _ hs1 ⟨v, hin v hv, hq⟩ u (hin u hu)
  have hpass : ∀ v : Nat, v < m → passes (xs ++ [e]) m [(v : Int)] = passes xs m [(v : Int)] := fun v hv => by
    obtain ⟨c1, n1⟩ := part_isCl (right_nice hR2) m (right_lt hR2) (by omega) v hv
    obtain ⟨c2, n2⟩ := part_isCl (right_nice hR) m (right_lt hR) (by omega) v hv
    have c1' : IsCl (setsOf xs) v (setOf (passes (xs ++ [e]) m [(v : Int)])) := ⟨c1.has, (hcl _).1 c1.closed, fun Q hQ => c1.least Q ((hcl Q).2 hQ)⟩
    rw [← bitsL_setOf n1, ← bitsL_setOf n2, c1'.unique c2]
  unfold refParts
  have hf : (List.range m).filter (fun v : Nat => (passes (xs ++ [e]) m [(v : Int)]).getD 0 0 == (v : Int)) = (List.range m).filter (fun v : Nat => (passes xs m [(v : Int)]).getD 0 0 == (v : Int)) :=
    List.filter_congr (fun v hv => by rw [hpass v (List.mem_range.1 hv)])
  rw [hf]
  exact List.map_congr_left (fun v hv => hpass v (List.mem_range.1 (List.mem_filter.1 hv).1))

theorem left_nil {L : List (List Int)} (h : LeftIs [] L) : L = [] := by
  obtain ⟨A, hc, hs, hm⟩ := h.ex
  cases L with
  | nil => rfl
  | cons r l =>
    obtain ⟨s, hA, _⟩ := (hm r).1 List.mem_cons_self
    obtain ⟨e, ⟨x, hx, _⟩, _⟩ := hc.a s hA
    cases hx

end Go.Proofs.YtnnfhnehieoeaaaDoor.Hy

/- Plain laws for HyperParts: the parts part the vertices; it is acyclic just if each part is. -/
namespace Go.Proofs.YtnnfhnehieoeaaaDoor.Hy
open Go.RowKit Go.Proofs.YtnnfhnehieoeaaaDoorW.PrintWords
set_option linter.unusedVariables false
set_option linter.unusedSimpArgs false

/-- the part of a vertex -/
def partOf (m : Nat) (xs : List (List Int)) (v : Nat) : List Int := passes xs m [(v : Int)]
/-- the first vertices of the parts -/
def firsts (m : Nat) (xs : List (List Int)) : List Nat := (List.range m).filter (fun v : Nat => (partOf m xs v).getD 0 0 == (v : Int))
theorem parts_firsts (m : Nat) (xs : List (List Int)) : refParts m xs m = (firsts m xs).map (partOf m xs) := rfl
theorem firsts_lt {m : Nat} {xs : List (List Int)} {v : Nat} (h : v ∈ firsts m xs) : v < m := List.mem_range.1 (List.mem_filter.1 h).1
theorem firsts_head {m : Nat} {xs : List (List Int)} {v : Nat} (h : v ∈ firsts m xs) : (partOf m xs v).getD 0 0 = (v : Int) := by
  have := (List.mem_filter.1 h).2
  exact beq_iff_eq.1 this
theorem firsts_sorted (m : Nat) (xs : List (List Int)) : (firsts m xs).Pairwise (· < ·) := List.Pairwise.filter _ List.pairwise_lt_range

section
variable {m : Nat} {xs : List (List Int)} (hR : rightB m xs = true)
include hR

theorem m_le : m ≤ 32 := by have := right_many hR; omega
theorem partOf_cl (v : Nat) (hv : v < m) : IsCl (setsOf xs) v (setOf (partOf m xs v)) ∧ nice (partOf m xs v) :=
  part_isCl (right_nice hR) m (right_lt hR) (by have := m_le hR; omega) v hv
theorem partOf_self (v : Nat) (hv : v < m) : (v : Int) ∈ partOf m xs v := by
  obtain ⟨h1, h2⟩ := partOf_cl hR v hv
  exact (setOf_vin h2.1 (v : Int) (by omega)).1 (by rw [Int.toNat_natCast]; exact h1.has)
theorem partOf_lt (v : Nat) (hv : v < m) (u : Int) (hu : u ∈ partOf m xs v) : 0 ≤ u ∧ u < m := by
  obtain ⟨h1, h2⟩ := partOf_cl hR v hv
  have h0 := (h2.1 u hu).1
  refine ⟨h0, ?_⟩
  have := h1.least (fun k => k < m) (fun s hs _ k hk => by
    unfold setsOf at hs
    obtain ⟨e, he, rfl⟩ := List.mem_map.1 hs
    rw [setOf_bits] at hk
    obtain ⟨u, hu, rfl⟩ := hk
    have := right_lt hR e he u hu
    have := ((right_nice hR e he).1 u hu).1
    omega) hv u.toNat ((setOf_vin h2.1 u h0).2 hu)
  omega
/-- two parts with a vertex in both are one -/
theorem partOf_same {v u : Nat} (hv : v < m) (hu : u < m) {w : Int} (h1 : w ∈ partOf m xs v) (h2 : w ∈ partOf m xs u) : partOf m xs v = partOf m xs u := by
  obtain ⟨c1, n1⟩ := partOf_cl hR v hv
  obtain ⟨c2, n2⟩ := partOf_cl hR u hu
  have hw := partOf_lt hR v hv w h1
  obtain ⟨c3, n3⟩ := partOf_cl hR w.toNat (by omega)
  have e1 := c1.symm c3 ((setOf_vin n1.1 w hw.1).2 h1)
  have e2 := c2.symm c3 ((setOf_vin n2.1 w hw.1).2 h2)
  rw [← bitsL_setOf n1, ← bitsL_setOf n2, e1, e2]

theorem parts_ne {p : List Int} (hp : p ∈ refParts m xs m) : p ≠ [] := by
  rw [parts_firsts] at hp
  obtain ⟨v, hv, rfl⟩ := List.mem_map.1 hp
  exact List.ne_nil_of_mem (partOf_self hR v (firsts_lt hv))
theorem parts_nice {p : List Int} (hp : p ∈ refParts m xs m) : nice p := by
  rw [parts_firsts] at hp
  obtain ⟨v, hv, rfl⟩ := List.mem_map.1 hp
  exact (partOf_cl hR v (firsts_lt hv)).2
omit hR in
theorem parts_heads : (refParts m xs m).Pairwise (fun p q => p.getD 0 0 < q.getD 0 0) := by
  rw [parts_firsts, List.pairwise_map]
  refine (firsts_sorted m xs).imp_of_mem ?_
  intro a b ha hb hab
  rw [firsts_head ha, firsts_head hb]; omega
/-- an edge lies in a part, or has nothing of it -/
theorem parts_edge {p e : List Int} (hp : p ∈ refParts m xs m) (he : e ∈ xs) : (∀ u, u ∈ e → u ∈ p) ∨ ∀ u, u ∈ e → ¬ u ∈ p := by
  rw [parts_firsts] at hp
  obtain ⟨v, hv, rfl⟩ := List.mem_map.1 hp
  obtain ⟨c, n⟩ := partOf_cl hR v (firsts_lt hv)
  by_cases h : ∃ u, u ∈ e ∧ u ∈ partOf m xs v
  · obtain ⟨u, hu, hup⟩ := h
    refine .inl fun t ht => ?_
    have hs : setOf e ∈ setsOf xs := by unfold setsOf; exact List.mem_map.2 ⟨e, he, rfl⟩
    have h0 := ((right_nice hR e he).1 u hu).1
    have h1 := ((right_nice hR e he).1 t ht).1
    exact (setOf_vin n.1 t h1).1 (c.closed _ hs ⟨u.toNat, (setOf_bits e _).2 ⟨u, hu, rfl⟩, (setOf_vin n.1 u h0).2 hup⟩ t.toNat ((setOf_bits e _).2 ⟨t, ht, rfl⟩))
  · exact .inr fun u hu hup => h ⟨u, hu, hup⟩
theorem parts_disjoint : (refParts m xs m).Pairwise (fun p q => ∀ x, x ∈ p → ∀ y, y ∈ q → x ≠ y) := by
  rw [parts_firsts, List.pairwise_map]
  refine (firsts_sorted m xs).imp_of_mem ?_
  intro a b ha hb hab x hx y hy e
  subst e
  have := partOf_same hR (firsts_lt ha) (firsts_lt hb) hx hy
  have h1 := firsts_head ha
  rw [this, firsts_head hb] at h1
  omega
theorem parts_nodup : (refParts m xs m).flatten.Nodup := by
  unfold List.Nodup
  rw [List.pairwise_flatten]
  refine ⟨fun p hp => (parts_nice hR hp).2.imp (fun h => by omega), parts_disjoint hR⟩
theorem parts_mem (u : Int) : u ∈ (refParts m xs m).flatten ↔ 0 ≤ u ∧ u < m := by
  rw [List.mem_flatten]
  constructor
  · rintro ⟨p, hp, hu⟩
    rw [parts_firsts] at hp
    obtain ⟨v, hv, rfl⟩ := List.mem_map.1 hp
    exact partOf_lt hR v (firsts_lt hv) u hu
  · rintro ⟨h0, h1⟩
    -- the least of its part
    have hself := partOf_self hR u.toNat (by omega)
    rw [Int.toNat_of_nonneg h0] at hself
    obtain ⟨c, n⟩ := partOf_cl hR u.toNat (by omega)
    obtain ⟨a, l, hal⟩ : ∃ a l, partOf m xs u.toNat = a :: l := by
      cases h : partOf m xs u.toNat with
      | nil => rw [h] at hself; cases hself
      | cons a l => exact ⟨a, l, rfl⟩
    have ha : a ∈ partOf m xs u.toNat := by rw [hal]; exact List.mem_cons_self
    have hab := partOf_lt hR u.toNat (by omega) a ha
    have haself := partOf_self hR a.toNat (by omega)
    rw [Int.toNat_of_nonneg hab.1] at haself
    have heq := partOf_same hR (v := u.toNat) (u := a.toNat) (by omega) (by omega) ha haself
    refine ⟨partOf m xs a.toNat, ?_, heq ▸ hself⟩
    rw [parts_firsts]
    refine List.mem_map.2 ⟨a.toNat, List.mem_filter.2 ⟨List.mem_range.2 (by omega), ?_⟩, rfl⟩
    rw [← heq, hal, beq_iff_eq]
    show a = _
    omega
end

theorem sorted_range {m : Nat} {l l' : List Int} (hn : l.Nodup) (hm : ∀ u, u ∈ l ↔ 0 ≤ u ∧ u < m) (hp : l'.Perm l) (hs : l'.Pairwise (· ≤ ·)) : l' = rangeL m := by
  have hn' : l'.Nodup := hp.nodup_iff.2 hn
  refine int_ordered_eq ?_ ?_ (fun u => ?_)
  · unfold List.Nodup at hn'
    exact (hs.and hn').imp (fun h => by omega)
  · unfold rangeL
    rw [List.pairwise_map]
    exact List.pairwise_lt_range.imp (fun h => by omega)
  · rw [hp.mem_iff, hm u, rangeL_mem]

/-! acyclic: nothing is left -/
open Classical in
noncomputable def acyB (xs : List (List Int)) : Bool := decide (LeftIs xs [])
theorem acyB_of {xs L : List (List Int)} (h : LeftIs xs L) : acyB xs = L.isEmpty := by
  unfold acyB
  cases L with
  | nil => simp [h]
  | cons a l =>
    rw [List.isEmpty_cons, decide_eq_false_iff_not]
    intro h2
    have := h.unique h2
    cases this

theorem acy_solid {xs : List (List Int)} (hx : ∀ e, e ∈ xs → nice e) : acyB xs = true ↔ ∀ X, solid (famL xs) X → ∀ v, ¬ X v := by
  obtain ⟨L, hL⟩ := left_ex hx
  rw [acyB_of hL]
  obtain ⟨A, hc, hs, hm⟩ := hL.ex
  constructor
  · intro h X hX v hv
    have hLn : L = [] := by simpa using h
    obtain ⟨s, hs1, hv1⟩ := hc.c X hX v hv
    have := (hm (bitsL s)).2 ⟨s, hs1, rfl⟩
    rw [hLn] at this; cases this
  · intro h
    cases L with
    | nil => rfl
    | cons r l =>
      obtain ⟨s, hA, _⟩ := (hm r).1 List.mem_cons_self
      obtain ⟨v, hv⟩ := hs.some_ s hA
      exact absurd ⟨s, hA, hv⟩ (h _ (hc.solid hs) v)

/-- the edges that have something of a part -/
def onesOf (xs : List (List Int)) (p : List Int) : List (List Int) := xs.filter (fun e => e.any (fun v => p.contains v))
theorem onesOf_mem {xs : List (List Int)} {p e : List Int} : e ∈ onesOf xs p ↔ e ∈ xs ∧ ∃ v, v ∈ e ∧ v ∈ p := by
  unfold onesOf
  rw [List.mem_filter, List.any_eq_true]
  simp [List.contains_iff_mem]

theorem acy_parts {m : Nat} {xs : List (List Int)} (hR : rightB m xs = true) : acyB xs = true ↔ ∀ p, p ∈ refParts m xs m → acyB (onesOf xs p) = true := by
  have hx := right_nice hR
  have hones : ∀ p e, e ∈ onesOf xs p → nice e := fun p e he => hx e (onesOf_mem.1 he).1
  rw [acy_solid hx]
  constructor
  · intro h p hp
    rw [acy_solid (hones p)]
    intro X hX v hv
    have hpn := parts_nice hR hp
    refine h X ?_ v hv
    -- what is solid in a part is solid
    have key : ∀ e, maxIn (famL (onesOf xs p)) X e → (∃ u, X u ∧ vin u e) → maxIn (famL xs) X e := by
      rintro e ⟨⟨r, hr, rfl⟩, hmax⟩ ⟨u, hu, hue⟩
      obtain ⟨hrx, z, hzr, hzp⟩ := onesOf_mem.1 hr
      have hrp : ∀ t, t ∈ r → t ∈ p := by
        rcases parts_edge hR hp hrx with h1 | h1
        · exact h1
        · exact absurd hzp (h1 z hzr)
      refine ⟨⟨r, hrx, rfl⟩, ?_⟩
      rintro e' ⟨r', hr', rfl⟩ hsub t ht hte
      refine hmax _ ⟨r', onesOf_mem.2 ⟨hr', ?_⟩, rfl⟩ hsub t ht hte
      have h2 := hsub u hu hue
      rw [setOf_bits] at h2 hue
      obtain ⟨a, ha, hau⟩ := hue
      obtain ⟨b, hb, hbu⟩ := h2
      have : a = b := by
        have := ((hx r hrx).1 a ha).1
        have := ((hx r' hr').1 b hb).1
        omega
      exact ⟨b, hb, this ▸ hrp a ha⟩
    intro v hv
    obtain ⟨e, e', m1, m2, v1, v2, u, hu, u1, u2⟩ := hX v hv
    exact ⟨e, e', key e m1 ⟨v, hv, v1⟩, key e' m2 ⟨v, hv, v2⟩, v1, v2, u, hu, u1, u2⟩
  · intro h X hX v hv
    -- the vertex lies in an edge, and so in a part
    obtain ⟨e0, _, m0, _, v0, _⟩ := hX v hv
    obtain ⟨r0, hr0, rfl⟩ := m0.1
    rw [setOf_bits] at v0
    obtain ⟨a, ha, rfl⟩ := v0
    have ha0 := ((hx r0 hr0).1 a ha).1
    have ham := right_lt hR r0 hr0 a ha
    obtain ⟨p, hp, hap⟩ := List.mem_flatten.1 ((parts_mem hR a).2 ⟨ha0, ham⟩)
    have hpn := parts_nice hR hp
    have hp' := h p hp
    rw [acy_solid (hones p)] at hp'
    refine hp' (fun t => X t ∧ vin t (setOf p)) ?_ a.toNat ⟨hv, (setOf_vin hpn.1 a ha0).2 hap⟩
    have hin : ∀ t r, r ∈ xs → vin t (setOf r) → vin t (setOf p) → r ∈ onesOf xs p ∧ ∀ u, vin u (setOf r) → vin u (setOf p) := by
      intro t r hr ht htp
      rw [setOf_bits] at ht htp
      obtain ⟨b, hb, rfl⟩ := ht
      obtain ⟨c, hc, hcb⟩ := htp
      have hbc : b = c := by
        have := ((hx r hr).1 b hb).1
        have := (hpn.1 c hc).1
        omega
      have hbp : b ∈ p := hbc ▸ hc
      refine ⟨onesOf_mem.2 ⟨hr, b, hb, hbp⟩, fun u hu => ?_⟩
      rw [setOf_bits] at hu ⊢
      obtain ⟨d, hd, rfl⟩ := hu
      rcases parts_edge hR hp hr with h1 | h1
      · exact ⟨d, h1 d hd, rfl⟩
      · exact absurd hbp (h1 b hb)
    rintro t ⟨ht, htp⟩
    obtain ⟨e, e', ⟨⟨r, hr, rfl⟩, m1⟩, ⟨⟨r', hr', rfl⟩, m2⟩, t1, t2, u, hu, u1, u2⟩ := hX t ht
    obtain ⟨i1, i2⟩ := hin t r hr t1 htp
    obtain ⟨j1, j2⟩ := hin t r' hr' t2 htp
    have mk : ∀ r, r ∈ xs → r ∈ onesOf xs p → (∀ u, vin u (setOf r) → vin u (setOf p)) → (∀ e', famL xs e' → (∀ v, X v → vin v (setOf r) → vin v e') → ∀ v, X v → vin v e' → vin v (setOf r)) → maxIn (famL (onesOf xs p)) (fun t => X t ∧ vin t (setOf p)) (setOf r) := by
      intro r hr hro hrp hmax
      refine ⟨⟨r, hro, rfl⟩, ?_⟩
      rintro e' ⟨q, hq, rfl⟩ hsub w ⟨hw, _⟩ hwe
      exact hmax _ ⟨q, (onesOf_mem.1 hq).1, rfl⟩ (fun z hz hzr => hsub z ⟨hz, hrp z hzr⟩ hzr) w hw hwe
    exact ⟨setOf r, setOf r', mk r hr i1 i2 m1, mk r' hr' j1 j2 m2, t1, t2, u, ⟨hu, i2 u u1⟩, u1, u2⟩

theorem onesOf_right {m : Nat} {xs : List (List Int)} (hR : rightB m xs = true) (p : List Int) : rightB m (onesOf xs p) = true := by
  have h0 := hR
  unfold rightB at h0 ⊢
  rw [Bool.and_eq_true] at h0 ⊢
  have hl : (onesOf xs p).length ≤ xs.length := List.length_filter_le _ _
  refine ⟨?_, (allB_iff _ _).2 fun i hi => ?_⟩
  · have := h0.1
    unfold sizesB at this ⊢
    simp at this ⊢
    omega
  · rw [rdL_at _ i hi]
    exact right_edge hR (onesOf_mem.1 (List.getElem_mem hi)).1

end Go.Proofs.YtnnfhnehieoeaaaDoor.Hy
