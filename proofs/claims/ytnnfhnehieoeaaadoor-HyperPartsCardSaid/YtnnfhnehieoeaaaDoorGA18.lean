/- The document's Has, many, within, in plain words; its single step of reducing, said as a relation. -/
import Derived.Test.YtnnfhnehieoeaaaDoorGA13
import Derived.Test.YtnnfhnehieoeaaaDoorGQ4
namespace Go.Proofs.YtnnfhnehieoeaaaDoor.Hy
open Go.RowKit Go.Shelf Go.Proofs.YtnnfhnehieoeaaaDoorW.PrintWords Go.Proofs.YtnnfhnehieoeaaaDoorW.PrintLast Go.Proofs.YtnnfhnehieoeaaaDoorW.PrintMore Go.Proofs.YtnnfhnehieoeaaaDoor.PHyperTells
set_option linter.unusedVariables false
set_option linter.unusedSimpArgs false

theorem has_l0 (n : Int) (l : List Int) (hl : (l.length : Int) ≤ 1099511627776) (d : Nat) : ∀ (j k : Nat), j + d = l.length → d < k → colanderref20_Has.l0 k n l (l.length : Int) (j : Int) = some ((l.drop j).contains n) := by
  induction d with
  | zero =>
    intro j k hj hk
    obtain ⟨k, rfl⟩ : ∃ m, k = m + 1 := ⟨k - 1, by omega⟩
    simp only [colanderref20_Has.l0]
    rw [if_neg (by omega), List.drop_of_length_le (by omega)]; rfl
  | succ d ih =>
    intro j k hj hk
    obtain ⟨k, rfl⟩ : ∃ m, k = m + 1 := ⟨k - 1, by omega⟩
    have hjl : j < l.length := by omega
    have hrd : rd l (j : Int) = l[j] := by simp [rd, List.getD_eq_getElem?_getD, List.getElem?_eq_getElem hjl]
    simp only [colanderref20_Has.l0]
    rw [if_pos (by omega), if_pos (by omega), if_pos (by omega), hrd, List.drop_eq_getElem_cons hjl, List.contains_cons, show wrap64 ((j : Int) + 1) = ((j + 1 : Nat) : Int) from by unfold wrap64; omega]
    by_cases e : l[j] = n
    · rw [if_pos e]; simp [e]
    · rw [if_neg e, ih (j + 1) k (by omega) (by omega)]
      have : (n == l[j]) = false := by rw [beq_eq_false_iff_ne]; exact fun h => e h.symm
      rw [this]; simp
theorem has_f (n : Int) (l : List Int) (hl : (l.length : Int) ≤ 1099511627776) (k : Nat) (hk : l.length < k) : colanderref20_Has.f k l n = some (l.contains n) := by
  have := has_l0 n l hl l.length 0 k (by omega) hk
  simpa [colanderref20_Has.f] using this

/-- how many edges have a vertex -/
def manyL (xs : List (List Int)) (v : Int) : Nat := (xs.filter (fun e => e.contains v)).length
/-- does an edge have nothing but what another one has? -/
def withinL (a b : List Int) : Bool := a.all (fun v => b.contains v)

theorem many_l0 (v : Int) (xs : List (List Int)) (ht : tame xs) (d : Nat) : ∀ (j k m : Nat), j + d = xs.length → d + 1001 < k → m ≤ j → colanderref20_many.l0 k v (m : Int) xs (xs.length : Int) (j : Int) = some ((m + manyL (xs.drop j) v : Nat) : Int) := by
  have hx := ht.1
  induction d with
  | zero =>
    intro j k m hj hk hm
    obtain ⟨k, rfl⟩ : ∃ m, k = m + 1 := ⟨k - 1, by omega⟩
    simp only [colanderref20_many.l0]
    rw [if_neg (by omega), List.drop_of_length_le (by omega)]; rfl
  | succ d ih =>
    intro j k m hj hk hm
    obtain ⟨k, rfl⟩ : ∃ m, k = m + 1 := ⟨k - 1, by omega⟩
    have hjl : j < xs.length := by omega
    have hrd : rd_L1 xs (j : Int) = xs[j] := by simp [rd_L1, List.getD_eq_getElem?_getD, List.getElem?_eq_getElem hjl]
    have hel := ht.2 _ (List.getElem_mem hjl)
    simp only [colanderref20_many.l0]
    rw [if_pos (by omega), if_pos (by omega), if_pos (by omega), hrd, has_f _ _ (by omega) k (by omega)]
    simp only [Option.bind_some]
    have e1 : wrap64 ((j : Int) + 1) = ((j + 1 : Nat) : Int) := by unfold wrap64; omega
    have e2 : wrap64 ((m : Int) + 1) = ((m + 1 : Nat) : Int) := by unfold wrap64; omega
    rw [e1, e2, List.drop_eq_getElem_cons hjl]
    by_cases h : xs[j].contains v = true
    · rw [if_pos h, ih (j + 1) k (m + 1) (by omega) (by omega) (by omega)]
      unfold manyL
      rw [List.filter_cons_of_pos (p := fun e : List Int => e.contains v) h, List.length_cons]
      congr 2; omega
    · rw [if_neg h, ih (j + 1) k m (by omega) (by omega) (by omega)]
      unfold manyL
      rw [List.filter_cons_of_neg (p := fun e : List Int => e.contains v) h]
theorem many_any (A : Option Addr) (c : Nat) (xs : List (List Int)) (v : Int) (w : World) (hr : KL.C w A xs.length xs) (hc0 : xs.length ≤ c) (ht : tame xs) :
    Calls Tryd.prog 53 #[.slice A xs.length c, .int .i64 v] w fun e w' => e = .returned (.int .i64 (manyL xs v : Nat)) ∧ Drawn0 w w' :=
  colanderref20_many.calls 3000 A c xs v _ w hr hc0 (by
    have := many_l0 v xs ht xs.length 0 3000 0 (by omega) (by have := ht.1; omega) (Nat.le_refl _)
    simpa [colanderref20_many.f] using this)
theorem manyL_le (xs : List (List Int)) (v : Int) : manyL xs v ≤ xs.length := List.length_filter_le _ _

theorem within_l0 (a b : List Int) (ha : a.length ≤ 1000) (hb : b.length ≤ 1000) (d : Nat) : ∀ (j k : Nat), j + d = a.length → d + 1001 < k → colanderref20_within.l0 k b a (a.length : Int) (j : Int) = some (withinL (a.drop j) b) := by
  induction d with
  | zero =>
    intro j k hj hk
    obtain ⟨k, rfl⟩ : ∃ m, k = m + 1 := ⟨k - 1, by omega⟩
    simp only [colanderref20_within.l0]
    rw [if_neg (by omega), List.drop_of_length_le (by omega)]; rfl
  | succ d ih =>
    intro j k hj hk
    obtain ⟨k, rfl⟩ : ∃ m, k = m + 1 := ⟨k - 1, by omega⟩
    have hjl : j < a.length := by omega
    have hrd : rd a (j : Int) = a[j] := by simp [rd, List.getD_eq_getElem?_getD, List.getElem?_eq_getElem hjl]
    simp only [colanderref20_within.l0]
    rw [if_pos (by omega), if_pos (by omega), if_pos (by omega), hrd, has_f _ _ (by omega) k (by omega)]
    simp only [Option.bind_some]
    rw [show wrap64 ((j : Int) + 1) = ((j + 1 : Nat) : Int) from by unfold wrap64; omega, List.drop_eq_getElem_cons hjl]
    unfold withinL
    rw [List.all_cons]
    by_cases h : b.contains a[j] = true
    · rw [if_pos h, ih (j + 1) k (by omega) (by omega), h]; rfl
    · rw [if_neg h]; simp only [Bool.not_eq_true] at h; rw [h]; rfl
theorem within_any (A0 : Option Addr) (c0 : Nat) (a : List Int) (A1 : Option Addr) (c1 : Nat) (b : List Int) (w : World) (hr0 : KI.C w A0 a.length a) (hc0 : a.length ≤ c0) (hr1 : KI.C w A1 b.length b) (hc1 : b.length ≤ c1) (ha : a.length ≤ 1000) (hb : b.length ≤ 1000) :
    Calls Tryd.prog 54 #[.slice A0 a.length c0, .slice A1 b.length c1] w fun e w' => e = .returned (.bool (withinL a b)) ∧ Drawn0 w w' :=
  colanderref20_within.calls 3000 A0 c0 a A1 c1 b _ w hr0 hc0 hr1 hc1 (by
    have := within_l0 a b ha hb a.length 0 3000 (by omega) (by omega)
    simpa [colanderref20_within.f] using this)

/-- one step of the document's reducing -/
def RefStep (x y : List (List Int)) : Prop :=
  (∃ (i k : Nat) (hi : i < x.length) (hk : k < x[i].length), manyL x x[i][k] = 1 ∧ y = x.set i (x[i].take k ++ x[i].drop (k + 1))) ∨
  (∃ (i : Nat) (hi : i < x.length), (x[i] = [] ∨ ∃ (k : Nat) (hk : k < x.length), k ≠ i ∧ withinL x[i] x[k] = true) ∧ y = x.take i ++ x.drop (i + 1))
/-- nothing can be done with the first n edges -/
def RefDone (x : List (List Int)) (n : Nat) : Prop :=
  ∀ (i : Nat) (hi : i < x.length), i < n → (∀ v, v ∈ x[i] → manyL x v ≠ 1) ∧ x[i] ≠ [] ∧ ∀ (k : Nat) (hk : k < x.length), k ≠ i → withinL x[i] x[k] = false

theorem take_row {α : Type} {R : α → List Value → Prop} {size : Nat} {w : World} {A : Option Addr} {ps : List α} (h : ReadsRow R size w A ps.length ps) (m : Nat) (hm : m ≤ ps.length) : ReadsRow R size w A m (ps.take m) := by
  refine ⟨by simp; omega, by have := h.2.1; omega, fun h0 => ?_⟩
  obtain ⟨ad, e, hc⟩ := h.2.2 (by omega)
  refine ⟨ad, e, fun j p hj => hc j p ?_⟩
  have hjm : j < (ps.take m).length := (List.getElem?_eq_some_iff.1 hj).1
  rw [List.getElem?_take_of_lt (by simp at hjm; omega)] at hj
  exact hj

theorem add_add (a : Addr) (i j : Nat) : (a.add i).add j = a.add (i + j) := by
  cases a with
  | mk b o p =>
    by_cases hi : i = 0
    · subst hi; simp [Addr.add]
    · by_cases hj : j = 0
      · subst hj; simp [Addr.add]
      · simp [Addr.add, hi, hj]; omega

theorem drop_row {α : Type} {R : α → List Value → Prop} {w : World} {A : Option Addr} {c : Nat} {ps : List α} (h : ReadsRow R 1 w A ps.length ps) (m : Nat) (hm : m ≤ ps.length) (hc : ps.length ≤ c) : ReadsRow R 1 w (if c = m then A else A.map (·.add (m * 1))) (ps.length - m) (ps.drop m) := by
  refine ⟨by simp, by have := h.2.1; omega, fun h0 => ?_⟩
  obtain ⟨ad, e, hcc⟩ := h.2.2 (by omega)
  subst e
  rw [if_neg (by omega)]
  refine ⟨ad.add (m * 1), rfl, fun j p hj => ?_⟩
  rw [List.getElem?_drop] at hj
  obtain ⟨cs, h1, h2, h3⟩ := hcc (m + j) p hj
  refine ⟨cs, h1, h2, fun i u hu => ?_⟩
  have := h3 i u hu
  rw [add_add, show m * 1 + (j * 1 + i) = (m + j) * 1 + i from by omega]
  exact this

/-- a row of rows of one's own, read: each stands as made -/
theorem rows_made {w : World} {B : Nat} {A : Option Addr} {n c : Nat} {x : List (List Int)} (h : KL.R 30 w B anyK (.slice A n c) x) : n = x.length ∧ x.length ≤ c ∧ ReadsRow (KL.M w B (fun k => k < w.heap.size)) 1 w A x.length x := by
  obtain ⟨A', c', he, hl, hr⟩ := OwnRow.reads h.2
  injection he with h1 h2 h3
  subst h1; subst h3
  exact ⟨h2, hl, hr.imp_ (Below.refl _ _) (fun p cs hp => KL.M_mono (fun k hk => hk.2.2.1) (KL.M_bound hp))⟩

end Go.Proofs.YtnnfhnehieoeaaaDoor.Hy

/- The document's single step of reducing: its contract. -/
namespace Go.Proofs.YtnnfhnehieoeaaaDoor.Hy
open Go.RowKit Go.Shelf Go.Proofs.YtnnfhnehieoeaaaDoorW.PrintWords Go.Proofs.YtnnfhnehieoeaaaDoorW.PrintLast Go.Proofs.YtnnfhnehieoeaaaDoorW.PrintMore Go.Proofs.YtnnfhnehieoeaaaDoor.PHyperTells
set_option linter.unusedVariables false
set_option linter.unusedSimpArgs false

theorem rdL_at (x : List (List Int)) (i : Nat) (hi : i < x.length) : rdL x i = x[i] := by simp [rdL, List.getD_eq_getElem?_getD, List.getElem?_eq_getElem hi]

theorem own_form {w : World} {B : Nat} {v : Value} {x : List (List Int)} (h : KL.R 30 w B anyK v x) (hne : 0 < x.length) : ∃ g cap cur, v = .slice (some ⟨g, 0, none⟩) x.length cap ∧ w.heap[g]? = some (.cells cur 30 (0, 0)) ∧ x.length ≤ cap ∧ cur.size = cap := by
  obtain ⟨inner, ho⟩ := Kd.R_own h
  rcases ho.2 with ⟨_, h0⟩ | ⟨g, cap, cur, h1, _, h2, h3, _, h4, _⟩
  · omega
  · exact ⟨g, cap, cur, h1, h2, h3, by rw [h4, show KL.sz = 1 from rfl, Nat.mul_one]⟩

/-- an empty row, just laid -/
theorem lit_none (W : World) (B : Nat) (hB : B ≤ W.heap.size) : KI.R 3 (W.alloc (.cells #[] 3)) B anyK (.slice (some ⟨W.heap.size, 0, none⟩) 0 0) [] :=
  Kd.R_of_own (by have := World.ownsRow_lit (base := B) (e := 3) (size := 1) W #[] 0 hB (by unfold maxLen; omega) rfl; simpa [encs] using this) (fun _ _ => trivial)

theorem lit_noneL (W : World) (B : Nat) (hB : B ≤ W.heap.size) : KL.R 30 (W.alloc (.cells #[] 30)) B anyK (.slice (some ⟨W.heap.size, 0, none⟩) 0 0) [] :=
  ⟨fun _ _ => trivial, [], by have := World.ownsRow_lit (base := B) (e := 30) (size := 1) W #[] 0 hB (by unfold maxLen; omega) rfl; exact this, Reps.none _ _⟩

/-- a row is put into its place -/
theorem put_row {w : World} {B g n cap : Nat} {v : Value} {x : List (List Int)} {r : List Int} (h : KL.R 30 w B anyK (.slice (some ⟨g, 0, none⟩) n cap) x) (i : Nat) (hi : i < n) (hr : KI.R 3 w B (fun k => k ≠ g) v r) (u : Value) (hu : w.cell? ⟨g, i, none⟩ = some u) :
    KL.R 30 (w.setCell ⟨g, i, none⟩ v) B anyK (.slice (some ⟨g, 0, none⟩) n cap) (x.set i r) := by
  have h1 := Kd.R_seg (j := 0) (seg := [v]) (c := [u]) (x' := r) (okp := fun k => k ≠ g) h (i : Int) (by omega) (by omega) rfl (fun j u' hu' => by
    have hj : j = 0 := by have := (List.getElem?_eq_some_iff.1 hu').1; simpa using this
    subst hj
    have : u = u' := by simpa using hu'
    subst this
    simpa [show KL.sz = 1 from rfl] using hu) (Nat.le_refl 1) ⟨v, rfl, hr⟩ (fun k hk => ⟨trivial, hk⟩)
  have h2 := h1.1
  simpa [show KL.sz = 1 from rfl, World.setCells] using h2

/-- does the edge go, as far as the first n others tell? -/
def goesB (x : List (List Int)) (i : Nat) (e : List Int) (n : Nat) : Bool := e.isEmpty || (List.range n).any (fun k => k != i && withinL e (rdL x k))
theorem goesB_succ (x : List (List Int)) (i : Nat) (e : List Int) (n : Nat) : goesB x i e (n + 1) = (goesB x i e n || (n != i && withinL e (rdL x n))) := by
  unfold goesB
  rw [List.range_succ, List.any_append, Bool.or_assoc]
  simp
theorem goes_done {x : List (List Int)} {i : Nat} {e : List Int} (h : RefDone x i) (hi : i < x.length) (he : e = x[i]) (hno : ∀ v, v ∈ e → manyL x v ≠ 1) (hg : goesB x i e x.length = false) : RefDone x (i + 1) := fun i' hi' hlt => by
  by_cases h1 : i' = i
  · subst h1
    unfold goesB at hg
    rw [Bool.or_eq_false_iff] at hg
    subst he
    refine ⟨hno, (fun h0 => by rw [h0] at hg; cases hg.1), fun k hk hne => ?_⟩
    have := hg.2
    rw [List.any_eq_false] at this
    have := this k (List.mem_range.2 hk)
    rw [rdL_at x k hk] at this
    simpa [hne] using this
  · exact h i' hi' (by omega)
theorem goes_step {x : List (List Int)} {i : Nat} {e : List Int} (hi : i < x.length) (he : e = x[i]) (hg : goesB x i e x.length = true) : RefStep x (x.take i ++ x.drop (i + 1)) := by
  refine .inr ⟨i, hi, ?_, rfl⟩
  unfold goesB at hg
  rw [Bool.or_eq_true] at hg
  subst he
  rcases hg with hg | hg
  · exact .inl (List.isEmpty_iff.1 hg)
  · obtain ⟨k, hk, h⟩ := List.any_eq_true.1 hg
    have hk := List.mem_range.1 hk
    rw [rdL_at x k hk, Bool.and_eq_true] at h
    exact .inr ⟨k, hk, by simpa using h.1, h.2⟩

set_option maxHeartbeats 4000000 in
set_option maxRecDepth 100000 in
theorem step_any (B : Nat) (A : Option Addr) (c : Nat) (x : List (List Int)) (w : World) (hx : KL.R 30 w B anyK (.slice A x.length c) x) (hB : B ≤ w.heap.size) (ht : tame x) :
    Calls Tryd.prog 27 #[.slice A x.length c] w fun e w' => ∃ v y more, e = .returned (.tuple #[v, .bool more]) ∧ KL.R 30 w' B anyK v y ∧ Below w.heap.size w w' ∧ (more = true ∧ RefStep x y ∨ more = false ∧ y = x ∧ RefDone x x.length) := by
  obtain ⟨_, hcl, hrm⟩ := rows_made hx
  have hC : KL.C w A x.length x := (Kd.R_reads' hx).2.2
  have hx1000 := ht.1
  have HX := Aside0.mk hx
  have HRM := Aside0.mk hrm
  have HC := Aside0.mk hC
  have HT := Aside0.mk ht
  have HMANY : Aside0 (∀ (v : Int) (W : World), Below w.heap.size w W → Calls Tryd.prog 53 #[.slice A x.length c, .int .i64 v] W fun e w' => e = .returned (.int .i64 (manyL x v : Nat)) ∧ Below W.heap.size W w') := ⟨fun v W hb => (many_any A c x v W (Kd.C_below hC hb) hcl ht).mono fun e w' ⟨h1, h2⟩ => ⟨h1, h2.below⟩⟩
  have HLE : Aside0 (∀ v, manyL x v ≤ 1000) := ⟨fun v => Nat.le_trans (manyL_le x v) hx1000⟩
  clear hx hrm hC ht
  go_enter Tryd.func27, Tryd.ntmps27
  go_wp2
  go_loopg [14] x.length (fun k v14 wr => ∃ (i : Nat), v14 = .int .i64 i ∧ i ≤ x.length ∧ Aside0 (k + i = x.length) ∧ Aside0 (RefDone x i) ∧ Aside0 (Below w.heap.size w wr))
  case atStart => exact ⟨0, rfl, by omega, ⟨by omega⟩, ⟨fun i hi h => absurd h (Nat.not_lt_zero _)⟩, ⟨Below.refl _ _⟩⟩
  case round =>
    obtain ⟨ko, rfl⟩ : ∃ ko, ko = gk := ⟨_, rfl⟩
    obtain ⟨i, rfl, hi, hk, hdone, HBr⟩ := hrel
    by_cases hlt : i < x.length
    · obtain ⟨ad, A0, c0, hA, hx, hxc, hxr⟩ := at_row HC.out i hlt
      subst hA
      have HXR := Aside0.mk hxr
      have hel : (rdL x i).length ≤ 1000 := by rw [rdL_at x i hlt]; exact HT.out.2 _ (List.getElem_mem hlt)
      obtain ⟨e, he⟩ : ∃ e, e = rdL x i := ⟨_, rfl⟩
      rw [← he] at hx hxc hel HXR
      have HE : Aside0 (e = x[i]) := ⟨he.trans (rdL_at x i hlt)⟩
      have hxw : wr.cell? (ad.add i) = some (.slice A0 e.length c0) := (HBr.out.cell (World.block_lt_of_cell? w _ hx)).trans hx
      clear hx hxr he
      go_wp2
      clear hxw
      go_loopg [21] e.length (fun k v21 wq => ∃ (j : Nat), v21 = .int .i64 j ∧ j ≤ e.length ∧ Aside0 (k + j = e.length) ∧ Aside0 (∀ (j' : Nat) (h : j' < e.length), j' < j → manyL x e[j'] ≠ 1) ∧ Aside0 (Below w.heap.size w wq))
      case atStart => exact ⟨0, rfl, by omega, ⟨by omega⟩, ⟨fun j' h h2 => absurd h2 (Nat.not_lt_zero _)⟩, HBr⟩
      case round =>
        clear HBr
        obtain ⟨j, rfl, hj, hkj, hno, HBq⟩ := hrel
        by_cases hjl : j < e.length
        · obtain ⟨ad2, hA2, hx2⟩ := Kd.at_int HXR.out (j : Int) (by omega) (by omega)
          subst hA2
          have hrd : rd e (j : Int) = e[j] := by simp [rd, List.getD_eq_getElem?_getD, List.getElem?_eq_getElem hjl]
          obtain ⟨v, hv⟩ : ∃ v, v = e[j] := ⟨_, rfl⟩
          rw [hrd, ← hv] at hx2
          simp only [Int.toNat_natCast] at hx2
          have hxw2 : wr.cell? (ad2.add j) = some (.int .i64 v) := (HBq.out.cell (World.block_lt_of_cell? w _ hx2)).trans hx2
          have HV := Aside0.mk hv
          clear hx2 hrd hv
          obtain ⟨m, hm⟩ : ∃ m, m = manyL x v := ⟨_, rfl⟩
          have HM := Aside0.mk hm
          have hml : m ≤ 1000 := hm ▸ HLE.out v
          have HCALL := Aside0.mk (HMANY.out v wr HBq.out)
          rw [← hm] at HCALL
          clear hm
          by_cases hm1 : m = 1
          · have t1 : ((m : Int) == 1) = true := by subst hm1; rfl
            have HM1 := Aside0.mk hm1
            clear hm1
            go_wp2_with (first
              | (go_at_call 53; refine (HCALL.out).mono ?_; rintro e' w2 ⟨rfl, hb2⟩; have HB2 := Aside0.mk (HBq.out.trans (hb2.mono HBq.out.size)); clear hb2)
              | ((with_reducible refine gate_dst (N := 30) rfl ?_); go_must (refine Kd.R_lit KL (w0 := w) B 30 ?hg (N := 30) ?hd (xs := ([] : List (List Int))) (inner := []) (ok := anyK) (okp := anyK) ?hr ?hp (fun _ hk => hk) trivial ?hB ?hb (by simp) ?_); (case hd => rfl); (case hg => rfl); (case hr => first | (go_simp; done) | (go_simp; rfl)); (case hp => exact Reps.none _ _); (case hB => exact HB2.out.mono hB); (case hb => exact Nat.le_trans hB HB2.out.size); intro v30 w3 ho3 hb3 hg3 hn3; have HO3 := Aside0.mk ho3; have HB3 := Aside0.mk (HB2.out.grown hg3 HB2.out.size (fun k hk => by cases hk)); have HN3 : Aside0 (∀ k, v30.ownBlock = some k → w.heap.size ≤ k) := ⟨fun k hk => by obtain ⟨b, e1, e2⟩ := hn3; rw [e1] at hk; injection hk with hk; subst hk; exact Nat.le_trans HB2.out.size e2⟩; clear ho3 hb3 hg3 hn3)
              | (at_builtin; go_must (refine Kd.R_append_rows KL (Rr := KL.M _ B (fun k => k < w.heap.size)) (w0 := w) B rfl (.tmp 30) (.tmp 31) 22 30 (.slice none 0 0) 24 rfl Tryd.underlying22 info30 rfl (by decide) (by decide) v30 [] x (some ad) x.length c anyK (fun k => k < w.heap.size) rfl rfl HO3.out (ReadsRow.imp_ HRM.out HB3.out (fun p cs hp => Kd.M_below hp HB3.out)) (fun _ _ h => h) (fun k hk => ⟨trivial, fun e => by have := HN3.out k e.symm; omega⟩) (fun _ _ => trivial) (HB3.out.mono hB) (Nat.le_trans hB HB3.out.size) (by simp; omega) ?_); intro v32 w4 ho4 hb4 hg4 hat4; have HO4 := Aside0.mk ho4; have HB4 := Aside0.mk (HB3.out.grown hg4 HB3.out.size HN3.out); have HN4 : Aside0 (∀ k, v32.ownBlock = some k → w.heap.size ≤ k) := ⟨fun k hk => by rcases hat4 with e1 | ⟨b, e1, e2⟩; exact HN3.out k (e1.symm.trans hk); rw [e1] at hk; injection hk with hk; subst hk; exact Nat.le_trans HB3.out.size e2⟩; obtain ⟨g, cap, cur, hvf, hgh, hcap, hcs⟩ := own_form (x := x) ho4 (by omega); subst hvf; have HGH := Aside0.mk hgh; have HCS := Aside0.mk hcs; clear ho4 hb4 hg4 hat4 hgh hcs))
            obtain ⟨i0, hi0, _, hsz0, _⟩ := info_parts info3
            have hcut1 := cut_to (P := Tryd.prog) 30 3 .i64 Tryd.underlying30 hi0 (some ad2) e.length c0 (j : Int) (by omega) (by omega) hxc
            have hcut2 := cut_from (P := Tryd.prog) 30 3 .i64 Tryd.underlying30 hi0 1 hsz0 (some ad2) e.length c0 ((j : Int) + 1) (by omega) (by omega)
            simp only [Int.toNat_natCast, show ((j : Int) + 1).toNat = j + 1 from by omega] at hcut1 hcut2
            obtain ⟨A2, hA2⟩ : ∃ A2, A2 = (if c0 = j + 1 then some ad2 else (some ad2).map (·.add ((j + 1) * 1))) := ⟨_, rfl⟩
            obtain ⟨c2, hc2⟩ : ∃ c2, c2 = c0 - (j + 1) := ⟨_, rfl⟩
            obtain ⟨n2, hn2⟩ : ∃ n2, n2 = e.length - (j + 1) := ⟨_, rfl⟩
            rw [← hA2, ← hc2, ← hn2] at hcut2
            have hwr : IntKind.i64.wrap ((j : Int) + 1) = (j : Int) + 1 := by rw [IntKind.wrap_i64]; omega
            have HK1 : Aside0 (∀ W, Below w.heap.size w W → ReadsRow (KI.K W) 1 W (some ad2) j (e.take j)) := ⟨fun W hb => take_row (Kd.C_below HXR.out hb) j (by omega)⟩
            have HK2 : Aside0 (∀ W, Below w.heap.size w W → ReadsRow (KI.K W) 1 W A2 n2 (e.drop (j + 1))) := ⟨fun W hb => by rw [hA2, hn2]; exact drop_row (Kd.C_below HXR.out hb) (j + 1) (by omega) hxc⟩
            have HB4d : Aside0 (Below w.heap.size w (w4.drew.alloc (.cells #[] 3))) := ⟨HB4.out.drew.alloc HB4.out.size _⟩
            have HGL : Aside0 (g < w4.heap.size) := ⟨blk_lt HGH.out⟩
            clear hA2 hc2 hi0
            have hn2l : n2 ≤ 1000 := by omega
            clear hn2
            go_region_law (first
              | (refine Kd.R_append_rows_step KI (Rr := KI.K (w4.drew.alloc (.cells #[] 3))) (w0 := w) B (by simp [Region.wanted]) (.tmp 35) (.tmp 38) 30 3 (.int .i64 0) 8 rfl Tryd.underlying30 info3 rfl (by decide) (by decide) (.slice (some ⟨w4.heap.size, 0, none⟩) 0 0) [] (e.take j) (some ad2) j c0 anyK (fun _ => False) (by simp [Act.eval, Act.put]) (by simp [Act.eval, Act.put]) (lit_none w4.drew B (Nat.le_trans hB HB4.out.size)) (HK1.out _ HB4d.out) (fun _ _ h => h) (fun _ h => h.elim) (fun _ _ => trivial) (HB4d.out.mono hB) (Nat.le_trans hB HB4d.out.size) (by simp; omega) ?_
                 intro v39 w5 ho5 hb5 hg5 hat5
                 have HO5 := Aside0.mk ho5
                 have HB5 := Aside0.mk (HB4d.out.grown hg5 HB4d.out.size (fun k hk => by simp [Value.ownBlock] at hk; subst hk; exact HB4.out.size))
                 have HN5 : Aside0 (∀ k, v39.ownBlock = some k → w4.heap.size ≤ k) := ⟨fun k hk => by rcases hat5 with e1 | ⟨b, e1, e2⟩; (rw [e1] at hk; simp [Value.ownBlock] at hk; omega); (rw [e1] at hk; injection hk with hk; subst hk; simp at e2; omega)⟩
                 have HGH5 := Aside0.mk (blk_grown (blk_alloc (blk_drew HGH.out) (Obj.cells #[] 3)) hg5 (fun e => by have := HGL.out; simp [Value.ownBlock] at e; omega))
                 have HB45 : Aside0 (Below w4.heap.size w4 w5) := ⟨((Below.refl w4.heap.size w4).drew.alloc (Nat.le_refl _) _).grown hg5 ((Below.refl w4.heap.size w4).drew.alloc (Nat.le_refl _) _).size (fun k hk => by simp [Value.ownBlock] at hk; omega)⟩
                 clear ho5 hb5 hg5 hat5)
              | (refine Kd.R_append_rows_step KI (Rr := KI.K w5) (w0 := w) B (by simp [Region.wanted]) (.tmp 39) (.tmp 43) 30 3 (.int .i64 0) 8 rfl Tryd.underlying30 info3 rfl (by decide) (by decide) v39 (e.take j) (e.drop (j + 1)) A2 n2 c2 anyK (fun _ => False) (by simp [Act.eval, Act.put]) (by simp [Act.eval, Act.put]) HO5.out (HK2.out _ HB5.out) (fun _ _ h => h) (fun _ h => h.elim) (fun _ _ => trivial) (HB5.out.mono hB) (Nat.le_trans hB HB5.out.size) (by simp; omega) ?_
                 intro v44 w6 ho6 hb6 hg6 hat6
                 have HO6 := Aside0.mk ho6
                 have HB6 := Aside0.mk (HB5.out.grown hg6 HB5.out.size (fun k hk => Nat.le_trans HB4.out.size (HN5.out k hk)))
                 have HGH6 := Aside0.mk (blk_grown HGH5.out hg6 (fun e => by have := HN5.out g e.symm; have := HGL.out; omega))
                 have HN6 : Aside0 (∀ k, v44.ownBlock = some k → w4.heap.size ≤ k) := ⟨fun k hk => by rcases hat6 with e1 | ⟨b, e1, e2⟩; exact HN5.out k (e1.symm.trans hk); rw [e1] at hk; injection hk with hk; subst hk; exact Nat.le_trans HB45.out.size e2⟩
                 have HB46 := Aside0.mk (HB45.out.grown hg6 HB45.out.size HN5.out)
                 obtain ⟨A44, n44, c44, hv44⟩ := R_form ho6
                 subst hv44
                 have hcell6 : w6.cell? ⟨g, i, none⟩ = some (cur[i]'(by have := HCS.out; omega)) := (blk_cell HGH6.out i).trans (by rw [Array.getElem?_eq_getElem])
                 have hfr6 : w6.frozen? ⟨g, i, none⟩ = false := blk_frozen HGH6.out i
                 clear ho6 hb6 hg6 hat6))
            have HROW : Aside0 (KI.R 3 w6 B (fun k => k ≠ g) (.slice A44 n44 c44) (e.take j ++ e.drop (j + 1))) := ⟨Kd.R_of_own (Kd.own_of_R HO6.out) (fun k hk => by have := HN6.out k hk; have := HGL.out; omega)⟩
            have HSET := Aside0.mk (put_row (Kd.R_below HO4.out HB46.out) i hlt HROW.out _ hcell6)
            have HBS := Aside0.mk (HB6.out.grown (set_grown w6 g i (.slice A44 n44 c44)) HB6.out.size (fun k hk => by injection hk with hk; rw [← hk]; exact HN4.out g rfl))
            clear hcell6 hfr6 hcut1 hcut2
            go_wp2
            go_ret2
            refine ⟨_, x.set i (e.take j ++ e.drop (j + 1)), true, rfl, HSET.out, HBS.out, .inl ⟨rfl, .inl ⟨i, j, hlt, by rw [← HE.out]; exact hjl, ?_, by rw [← HE.out]⟩⟩⟩
            have := HV.out
            rw [HM.out] at HM1
            simp only [← HE.out]
            rw [← HV.out]; exact HM1.out
          · have t1 : ((m : Int) == 1) = false := by rw [beq_eq_false_iff_ne]; omega
            have hno2 : Aside0 (∀ (j' : Nat) (h : j' < e.length), j' < j + 1 → manyL x e[j'] ≠ 1) := ⟨fun j' h h2 => by
              by_cases hjj : j' = j
              · subst hjj; rw [← HV.out, ← HM.out]; exact hm1
              · exact hno.out j' h (by omega)⟩
            clear hm1
            go_wp2_with (go_at_call 53; refine (HCALL.out).mono ?_; rintro e' w2 ⟨rfl, hb2⟩; have HB2 := Aside0.mk (HBq.out.trans (hb2.mono HBq.out.size)); clear hb2)
            go_roundg (gk - 1)
            case measure => have := hkj.out; omega
            case rel => exact ⟨j + 1, by go_num, by omega, ⟨by have := hkj.out; omega⟩, hno2, HB2⟩
        · have hje : j = e.length := by omega
          subst hje
          have HNO : Aside0 (∀ v, v ∈ e → manyL x v ≠ 1) := ⟨fun v hv => by
            obtain ⟨j', h1, rfl⟩ := List.mem_iff_getElem.1 hv
            exact hno.out j' h1 h1⟩
          clear hno hkj
          have hiE : Aside0 (goesB x i e 0 = e.isEmpty) := ⟨by simp [goesB]⟩
          have hlen0 : ((e.length : Int) == 0) = e.isEmpty := by cases e with
            | nil => rfl
            | cons a l => simp; omega
          go_wp2
          go_loopg [9, 53] x.length (fun k v9 v53 wq => ∃ (j : Nat), v9 = .bool (goesB x i e j) ∧ v53 = .int .i64 j ∧ j ≤ x.length ∧ Aside0 (k + j = x.length) ∧ Aside0 (Below w.heap.size w wq))
          case atStart => exact ⟨0, (by rw [hiE.out]), rfl, by omega, ⟨by omega⟩, HBq⟩
          case round =>
            clear HBq
            obtain ⟨j, rfl, rfl, hj, hkj, HBq⟩ := hrel
            by_cases hjl : j < x.length
            · obtain ⟨ad2, A1, c1, hA2, hx2, hxc2, hxr2⟩ := at_row HC.out j hjl
              injection hA2 with hA2
              subst hA2
              have hel2 : (rdL x j).length ≤ 1000 := by rw [rdL_at x j hjl]; exact HT.out.2 _ (List.getElem_mem hjl)
              have hsucc := Aside0.mk (goesB_succ x i e j)
              obtain ⟨f, hf⟩ : ∃ f, f = rdL x j := ⟨_, rfl⟩
              rw [← hf] at hx2 hxc2 hxr2 hel2 hsucc
              have hxw2 : wr.cell? (ad.add j) = some (.slice A1 f.length c1) := (HBq.out.cell (World.block_lt_of_cell? w _ hx2)).trans hx2
              have HWI := Aside0.mk (within_any A0 c0 e A1 c1 f wr (Kd.C_below HXR.out HBq.out) hxc (Kd.C_below hxr2 HBq.out) hxc2 hel hel2)
              clear hx2 hxr2 hf
              obtain ⟨gb, hgb⟩ : ∃ gb, gb = goesB x i e j := ⟨_, rfl⟩
              obtain ⟨wi, hwi⟩ : ∃ wi, wi = withinL e f := ⟨_, rfl⟩
              rw [← hgb, ← hwi] at hsucc
              rw [← hwi] at HWI
              rw [← hgb]
              clear hgb hwi
              cases gb with
              | true =>
                go_wp2
                go_roundg (gk - 1)
                case measure => have := hkj.out; omega
                case rel => exact ⟨j + 1, by rw [hsucc.out]; rfl, by go_num, by omega, ⟨by have := hkj.out; omega⟩, HBq⟩
              | false =>
                by_cases hji : j = i
                · have tj : ((j : Int) != (i : Int)) = false := by rw [hji]; simp
                  have HR0 : Aside0 (goesB x i e (j + 1) = false) := ⟨by rw [hsucc.out, hji]; simp⟩
                  clear hji
                  go_wp2
                  go_roundg (gk - 1)
                  case measure => have := hkj.out; omega
                  case rel => exact ⟨j + 1, by rw [HR0.out], by go_num, by omega, ⟨by have := hkj.out; omega⟩, HBq⟩
                · have tj : ((j : Int) != (i : Int)) = true := by rw [bne_iff_ne]; omega
                  have HR0 : Aside0 (goesB x i e (j + 1) = wi) := ⟨by rw [hsucc.out]; simp [hji]⟩
                  clear hji
                  go_wp2_with (go_at_call 54; refine (HWI.out).mono ?_; rintro e' w2 ⟨rfl, hb2⟩; have HB2 := Aside0.mk (HBq.out.trans (hb2.below.mono HBq.out.size)); clear hb2)
                  go_roundg (gk - 1)
                  case measure => have := hkj.out; omega
                  case rel => exact ⟨j + 1, by rw [HR0.out], by go_num, by omega, ⟨by have := hkj.out; omega⟩, HB2⟩
            · have hje : j = x.length := by omega
              subst hje
              clear hkj
              cases hgo : goesB x i e x.length with
              | false =>
                have HGO := Aside0.mk hgo
                go_wp2
                go_roundg (ko - 1)
                case measure => have := hk.out; omega
                case rel => exact ⟨i + 1, by go_num, by omega, ⟨by have := hk.out; omega⟩, ⟨goes_done hdone.out hlt HE.out HNO.out HGO.out⟩, HBq⟩
              | true =>
                have HGO := Aside0.mk hgo
                clear hgo
                go_wp2
                obtain ⟨i0, hi0, _, hsz0, _⟩ := info_parts info30
                have hcut1 := cut_to (P := Tryd.prog) 22 30 .i64 Tryd.underlying22 hi0 (some ad) x.length c (i : Int) (by omega) (by omega) hcl
                have hcut2 := cut_from (P := Tryd.prog) 22 30 .i64 Tryd.underlying22 hi0 1 hsz0 (some ad) x.length c ((i : Int) + 1) (by omega) (by omega)
                simp only [Int.toNat_natCast, show ((i : Int) + 1).toNat = i + 1 from by omega] at hcut1 hcut2
                obtain ⟨A2, hA2⟩ : ∃ A2, A2 = (if c = i + 1 then some ad else (some ad).map (·.add ((i + 1) * 1))) := ⟨_, rfl⟩
                obtain ⟨c2, hc2⟩ : ∃ c2, c2 = c - (i + 1) := ⟨_, rfl⟩
                obtain ⟨n2, hn2⟩ : ∃ n2, n2 = x.length - (i + 1) := ⟨_, rfl⟩
                rw [← hA2, ← hc2, ← hn2] at hcut2
                have hwr : IntKind.i64.wrap ((i : Int) + 1) = (i : Int) + 1 := by rw [IntKind.wrap_i64]; omega
                have HK0 : Aside0 (∀ W, Below w.heap.size w W → ReadsRow (KL.M W B (fun k => k < w.heap.size)) 1 W (some ad) x.length x) := ⟨fun W hb => ReadsRow.imp_ HRM.out hb (fun p cs hp => Kd.M_below hp hb)⟩
                have HK1 : Aside0 (∀ W, Below w.heap.size w W → ReadsRow (KL.M W B (fun k => k < w.heap.size)) 1 W (some ad) i (x.take i)) := ⟨fun W hb => take_row (HK0.out W hb) i (by omega)⟩
                have HK2 : Aside0 (∀ W, Below w.heap.size w W → ReadsRow (KL.M W B (fun k => k < w.heap.size)) 1 W A2 n2 (x.drop (i + 1))) := ⟨fun W hb => by rw [hA2, hn2]; exact drop_row (HK0.out W hb) (i + 1) (by omega) hcl⟩
                have HB4d : Aside0 (Below w.heap.size w (wr.drew.alloc (.cells #[] 30))) := ⟨HBq.out.drew.alloc HBq.out.size _⟩
                clear hA2 hc2 hi0
                have hn2l : n2 ≤ 1000 := by omega
                clear hn2
                have HSW := Aside0.mk HBq.out.size
                go_region_law (first
                  | (refine Kd.R_append_rows_step KL (Rr := KL.M (wr.drew.alloc (.cells #[] 30)) B (fun k => k < w.heap.size)) (w0 := w) B (by simp [Region.wanted]) (.tmp 71) (.tmp 74) 22 30 (.slice none 0 0) 24 rfl Tryd.underlying22 info30 rfl (by decide) (by decide) (.slice (some ⟨wr.heap.size, 0, none⟩) 0 0) [] (x.take i) (some ad) i c anyK (fun k => k < w.heap.size) (by simp [Act.eval, Act.put]) (by simp [Act.eval, Act.put]) (lit_noneL wr.drew B (Nat.le_trans hB HBq.out.size)) (HK1.out _ HB4d.out) (fun _ _ h => h) (fun k hk => ⟨trivial, fun e => by simp [Value.ownBlock] at e; have := HSW.out; omega⟩) (fun _ _ => trivial) (HB4d.out.mono hB) (Nat.le_trans hB HB4d.out.size) (by simp; omega) ?_
                     intro v75 w5 ho5 hb5 hg5 hat5
                     have HO5 := Aside0.mk ho5
                     have HB5 := Aside0.mk (HB4d.out.grown hg5 HB4d.out.size (fun k hk => by simp [Value.ownBlock] at hk; subst hk; exact HSW.out))
                     have HN5 : Aside0 (∀ k, v75.ownBlock = some k → w.heap.size ≤ k) := ⟨fun k hk => by have := HSW.out; rcases hat5 with e1 | ⟨b, e1, e2⟩; (rw [e1] at hk; simp [Value.ownBlock] at hk; omega); (rw [e1] at hk; injection hk with hk; subst hk; exact Nat.le_trans HB4d.out.size e2)⟩
                     clear ho5 hb5 hg5 hat5)
                  | (refine Kd.R_append_rows_step KL (Rr := KL.M w5 B (fun k => k < w.heap.size)) (w0 := w) B (by simp [Region.wanted]) (.tmp 75) (.tmp 79) 22 30 (.slice none 0 0) 24 rfl Tryd.underlying22 info30 rfl (by decide) (by decide) v75 (x.take i) (x.drop (i + 1)) A2 n2 c2 anyK (fun k => k < w.heap.size) (by simp [Act.eval, Act.put]) (by simp [Act.eval, Act.put]) HO5.out (HK2.out _ HB5.out) (fun _ _ h => h) (fun k hk => ⟨trivial, fun e => by have := HN5.out k e.symm; omega⟩) (fun _ _ => trivial) (HB5.out.mono hB) (Nat.le_trans hB HB5.out.size) (by simp; omega) ?_
                     intro v80 w6 ho6 hb6 hg6 hat6
                     have HO6 := Aside0.mk ho6
                     have HB6 := Aside0.mk (HB5.out.grown hg6 HB5.out.size HN5.out)
                     clear ho6 hb6 hg6 hat6))
                clear hcut1 hcut2
                go_wp2
                go_ret2
                exact ⟨_, x.take i ++ x.drop (i + 1), true, rfl, HO6.out, HB6.out, .inl ⟨rfl, goes_step hlt HE.out HGO.out⟩⟩
    · have hie : i = x.length := by omega
      subst hie
      go_wp2
      go_ret2
      exact ⟨_, x, false, rfl, Kd.R_below HX.out HBr.out, HBr.out, .inr ⟨rfl, rfl, hdone.out⟩⟩

end Go.Proofs.YtnnfhnehieoeaaaDoor.Hy
