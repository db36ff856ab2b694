/- Words for a map from places to sets: what it reads as, and what the operations on it do. -/
import Derived.Test.YtnnfhnehieoeaaaDoorGA7
import Derived.Maps.OwnSet
import Derived.Maps.RangeWalk
namespace Go.Proofs.YtnnfhnehieoeaaaDoor.Hy
open Go.RowKit Go.Shelf Go.Proofs.YtnnfhnehieoeaaaDoorW.PrintWords Go.Proofs.YtnnfhnehieoeaaaDoorW.PrintLast Go.Proofs.YtnnfhnehieoeaaaDoorW.PrintMore Go.Proofs.YtnnfhnehieoeaaaDoor.PHyperTells
set_option linter.unusedVariables false
set_option linter.unusedSimpArgs false

/-- how many of the first N places have something -/
def cnt (f : Nat → Option Nat) (N : Nat) : Nat := ((List.range N).filter (fun i => (f i).isSome)).length
def upd (f : Nat → Option Nat) (i : Nat) (x : Option Nat) : Nat → Option Nat := fun j => if j = i then x else f j

theorem upd_same (f : Nat → Option Nat) (i : Nat) (x : Option Nat) : upd f i x i = x := by simp [upd]
theorem upd_other (f : Nat → Option Nat) {i j : Nat} (h : j ≠ i) (x : Option Nat) : upd f i x j = f j := by simp [upd, h]

theorem cnt_succ (f : Nat → Option Nat) (N : Nat) : cnt f (N + 1) = cnt f N + if (f N).isSome then 1 else 0 := by
  unfold cnt
  rw [List.range_succ, List.filter_append]
  cases h : (f N).isSome <;> simp [h]

theorem cnt_le (f : Nat → Option Nat) (N : Nat) : cnt f N ≤ N := by
  unfold cnt; exact Nat.le_trans (List.length_filter_le _ _) (by simp)

theorem cnt_congr {f g : Nat → Option Nat} {N : Nat} (h : ∀ i, i < N → (f i).isSome = (g i).isSome) : cnt f N = cnt g N := by
  unfold cnt
  rw [List.filter_congr (fun i hi => h i (List.mem_range.1 hi))]

theorem cnt_upd (f : Nat → Option Nat) (i : Nat) (x : Option Nat) (N : Nat) (hi : i < N) : cnt (upd f i x) N + (if (f i).isSome then 1 else 0) = cnt f N + (if x.isSome then 1 else 0) := by
  induction N with
  | zero => omega
  | succ N ih =>
    rw [cnt_succ, cnt_succ]
    by_cases h : i = N
    · subst h
      rw [upd_same, cnt_congr (f := upd f i x) (g := f) (fun j hj => by rw [upd_other f (by omega)])]
      omega
    · have := ih (by omega)
      rw [upd_other f (show N ≠ i by omega)]
      omega

theorem cnt_zero {f : Nat → Option Nat} {N : Nat} (h : cnt f N = 0) (i : Nat) (hi : i < N) : f i = none := by
  unfold cnt at h
  rw [List.length_eq_zero_iff, List.filter_eq_nil_iff] at h
  have := h i (List.mem_range.2 hi)
  simpa using this

abbrev key (i : Nat) : Lit := .int .i64 i
theorem key_inj {i j : Nat} (h : key i = key j) : i = j := by
  simp only [key, Lit.int.injEq] at h; omega
theorem key_wf {i : Nat} (h : i ≤ 1000) : (Lit.int .i64 (i : Int)).wf = true := WalkArith.wf_i64 (by omega)
theorem key_of {i : Nat} (h : i ≤ 1000) : keyOf Tryd.prog 3 (.int .i64 i) = some (key i) := Maps.keyOf_int_mk Tryd.underlying3 (key_wf h)
theorem key_lit (i : Nat) : WideAt.IsKeyLit (key i) := trivial
theorem law3 : Maps.Keyed Tryd.prog 3 := Maps.int_keyed Tryd.underlying3

/-- the datum reads as f, on the first N places -/
structure MapIs (D : DataW Unit) (f : Nat → Option Nat) (N : Nat) : Prop where
  has : ∀ i : Nat, Maps.has D (key i) = (f i).isSome
  at_ : ∀ i s, f i = some s → ∀ z, D.atKey (key i) z = .lit (.int .u64 (s : Nat))
  keys : ∀ kl, Maps.has D kl = true → ∃ i : Nat, kl = key i
  size : Maps.size D = cnt f N
  out : ∀ i, N ≤ i → f i = none
  lim : ∀ i s, f i = some s → s < 18446744073709551616

/-- a map of the call's own reads as f -/
def MapAt (w : World) (b : Nat) (f : Nat → Option Nat) (N : Nat) : Prop := ∃ D : DataW Unit, w.ownsMap Tryd.prog 3 (plainElem Tryd.prog 53) b N D ∧ MapIs D f N

theorem owns_tight {H : Type} {w : World} {P : Program} {k : TypeId} {R : Value → Option (DataW H × List MemPlace)} {b n : Nat} {D : DataW H} (h : w.ownsMap P k R b n D) {m : Nat} (hm : Maps.size D ≤ m) : w.ownsMap P k R b m D := by
  obtain ⟨es, clock, h1, h2, h3, h4⟩ := h
  refine ⟨es, clock, h1, h2, ?_, h4⟩
  have : Maps.size D = es.size := by rw [h4]; exact length_read es
  omega

theorem MapAt.lt {w : World} {b : Nat} {f : Nat → Option Nat} {N : Nat} (h : MapAt w b f N) : b < w.heap.size := by
  obtain ⟨D, h, _⟩ := h; exact h.lt

theorem MapAt.below {w w' : World} {b n : Nat} {f : Nat → Option Nat} {N : Nat} (h : MapAt w b f N) (hb : Below n w w') (hn : b < n) : MapAt w' b f N := by
  obtain ⟨D, ⟨es, clock, h1, h2, h3, h4⟩, hD⟩ := h
  exact ⟨D, ⟨es, clock, (hb.block b hn).trans h1, h2, h3, h4⟩, hD⟩

theorem MapAt.grown {w w' : World} {b : Nat} {row : Option Nat} {f : Nat → Option Nat} {N : Nat} (h : MapAt w b f N) (hg : w.grownBy w' row) (hne : some b ≠ row) : MapAt w' b f N := by
  obtain ⟨D, h, hD⟩ := h
  exact ⟨D, h.kept hg hne, hD⟩

theorem MapAt.made (w : World) (N : Nat) : MapAt (w.alloc (.map #[] 0)) w.heap.size (fun _ => none) N :=
  ⟨.map [], (World.ownsMap_made w _ _ _).mono (Nat.zero_le _), ⟨fun i => rfl, fun i s h => (by cases h), fun kl h => (by cases h), by
    show 0 = _
    unfold cnt; rw [List.filter_eq_nil_iff.2 (by simp)]; rfl, fun _ _ => rfl, fun i s h => (by cases h)⟩⟩

theorem MapIs.put {D : DataW Unit} {f : Nat → Option Nat} {N : Nat} (h : MapIs D f N) (ht : Maps.Tidy D) {i s : Nat} (hi : i < N) (hs : s < 18446744073709551616) : MapIs (D.put (key i) (.lit (.int .u64 (s : Nat)))) (upd f i (some s)) N where
  has j := by
    by_cases e : j = i
    · subst e; rw [upd_same, Maps.has_put_same ht.isMap (key_lit j)]; rfl
    · rw [upd_other f e, Maps.has_put_other (fun e' => e (key_inj e'))]; exact h.has j
  at_ j t hj z := by
    by_cases e : j = i
    · subst e; rw [upd_same] at hj; cases hj; exact Maps.atKey_put_same ht.isMap (key_lit j) _ _
    · rw [upd_other f e] at hj; rw [Maps.atKey_put_other (fun e' => e (key_inj e'))]; exact h.at_ j t hj z
  keys kl hk := by
    by_cases e : kl = key i
    · exact ⟨i, e⟩
    · rw [Maps.has_put_other e] at hk; exact h.keys kl hk
  size := by
    rw [Maps.size_put ht, h.has i, h.size]
    have := cnt_upd f i (some s) N hi
    cases hf : (f i).isSome <;> simp [hf] at this ⊢ <;> omega
  out j hj := by rw [upd_other f (by omega)]; exact h.out j hj
  lim j t hj := by
    by_cases e : j = i
    · subst e; rw [upd_same] at hj; cases hj; exact hs
    · rw [upd_other f e] at hj; exact h.lim j t hj

theorem MapIs.del {D : DataW Unit} {f : Nat → Option Nat} {N : Nat} (h : MapIs D f N) (ht : Maps.Tidy D) {i : Nat} (hi : i < N) : MapIs (D.del (key i)) (upd f i none) N where
  has j := by
    by_cases e : j = i
    · subst e; rw [upd_same, Maps.has_del_same]; rfl
    · rw [upd_other f e, Maps.has_del_other (fun e' => e (key_inj e'))]; exact h.has j
  at_ j t hj z := by
    by_cases e : j = i
    · subst e; rw [upd_same] at hj; cases hj
    · rw [upd_other f e] at hj; rw [Maps.atKey_del_other (fun e' => e (key_inj e'))]; exact h.at_ j t hj z
  keys kl hk := by
    by_cases e : kl = key i
    · exact ⟨i, e⟩
    · rw [Maps.has_del_other e] at hk; exact h.keys kl hk
  size := by
    have h1 := Maps.size_del (k := key i) ht
    rw [h.has i, h.size] at h1
    have := cnt_upd f i none N hi
    cases hf : (f i).isSome <;> simp [hf] at this h1 ⊢ <;> omega
  out j hj := by rw [upd_other f (by omega)]; exact h.out j hj
  lim j t hj := by
    by_cases e : j = i
    · subst e; rw [upd_same] at hj; cases hj
    · rw [upd_other f e] at hj; exact h.lim j t hj

section
variable {w : World} {ops : Array Oper} {o : Oper} {a : Act} {Q : Exit → Act → World → Prop} {rest : List Oper} {b N : Nat} {f : Nat → Option Nat}

theorem map_update (h : MapAt w b f N) (hN : N ≤ 1000) (hg : o.guard = none) (m x v : Operand) (hop : o.op = Op.mapUpdate 61 m x v) (hm : a.eval m = .map (some b)) {i s : Nat} (hi : i < N) (hs : s < 18446744073709551616)
    (hx : a.eval x = .int .i64 i) (hv : a.eval v = .int .u64 s) (hK : ∀ w', MapAt w' b (upd f i (some s)) N → w.grownBy w' (some b) → wpList Tryd.prog ops Q rest (a.put o.dst undef) w') : wpList Tryd.prog ops Q (o :: rest) a w := by
  obtain ⟨D, hown, hD⟩ := h
  refine wpList_mapUpdate_own w hg m x v 61 hop 3 53 law3 Tryd.underlying61 _ b N D hm hown (by unfold maxLen; omega) _ _ (key i) hx hv (key_of (by omega)) (.lit (.int .u64 (s : Nat))) [] (plainElem_int Tryd.underlying53 ?_) ?_
  · simp [Lit.wf, IntKind.min, IntKind.max, IntKind.bits, IntKind.signed]; omega
  · intro w' h1 h2
    have hD' := hD.put (hown.tidy law3) hi hs
    exact hK w' ⟨_, owns_tight h1 (by rw [hD'.size]; exact cnt_le _ _), hD'⟩ h2

theorem map_some (h : MapAt w b f N) (hN : N ≤ 1000) (hg : o.guard = none) (m x : Operand) (hop : o.op = Op.lookup 61 m x true) (hm : a.eval m = .map (some b)) {i s : Nat} (hi : i < N) (hx : a.eval x = .int .i64 i) (hf : f i = some s)
    (hK : wpList Tryd.prog ops Q rest (a.put o.dst (.tuple #[.int .u64 s, .bool true])) w) : wpList Tryd.prog ops Q (o :: rest) a w := by
  obtain ⟨D, hown, hD⟩ := h
  refine wpList_lookup_own_ok_int w hg m x 61 hop 3 53 .u64 law3 Tryd.underlying61 Tryd.underlying53 (Tryd.zeroValue53 _) b N D hm hown _ (key i) hx (key_of (by omega)) (fun c hc _ => ?_)
  rw [hD.at_ i s hf] at hc
  have hcs : (s : Int) = c := by simpa using hc
  rw [hD.has i, hf, ← hcs]
  exact hK

theorem map_none (h : MapAt w b f N) (hN : N ≤ 1000) (hg : o.guard = none) (m x : Operand) (hop : o.op = Op.lookup 61 m x true) (hm : a.eval m = .map (some b)) {i : Nat} (hi : i < N) (hx : a.eval x = .int .i64 i) (hf : f i = none)
    (hK : wpList Tryd.prog ops Q rest (a.put o.dst (.tuple #[.int .u64 0, .bool false])) w) : wpList Tryd.prog ops Q (o :: rest) a w := by
  obtain ⟨D, hown, hD⟩ := h
  refine wpList_lookup_own_ok_int w hg m x 61 hop 3 53 .u64 law3 Tryd.underlying61 Tryd.underlying53 (Tryd.zeroValue53 _) b N D hm hown _ (key i) hx (key_of (by omega)) (fun c hc _ => ?_)
  have hh := hD.has i
  rw [hf] at hh
  rw [Maps.atKey_of_not_has hh] at hc
  have hcs : (0 : Int) = c := by simpa using hc
  rw [hh, ← hcs]
  exact hK

theorem map_delete (h : MapAt w b f N) (hN : N ≤ 1000) (hg : o.guard = none) (m x : Operand) (hop : o.op = Op.call { callee := Callee.builtin Builtin.delete, args := #[m, x], argTypes := #[61, 3] }) (hm : a.eval m = .map (some b)) {i : Nat} (hi : i < N) (hx : a.eval x = .int .i64 i)
    (hK : ∀ w', MapAt w' b (upd f i none) N → w.grownBy w' (some b) → wpList Tryd.prog ops Q rest (a.put o.dst (.tuple #[])) w') : wpList Tryd.prog ops Q (o :: rest) a w := by
  obtain ⟨D, hown, hD⟩ := h
  refine wpList_delete_own w hg m x 61 3 hop 53 law3 Tryd.underlying61 _ b N D hm hown _ (key i) hx (key_of (by omega)) ?_
  intro w' h1 h2
  exact hK w' ⟨_, h1, hD.del (hown.tidy law3) hi⟩ h2.grown

theorem map_len (h : MapAt w b f N) (hg : o.guard = none) (m : Operand) (hop : o.op = Op.call { callee := Callee.builtin Builtin.len, args := #[m], argTypes := #[61] }) (hm : a.eval m = .map (some b))
    (hK : wpList Tryd.prog ops Q rest (a.put o.dst (.int .i64 (cnt f N))) w) : wpList Tryd.prog ops Q (o :: rest) a w := by
  obtain ⟨D, hown, hD⟩ := h
  refine wpList_len_own w hg m 61 hop 3 53 Tryd.underlying61 _ b N D hm hown ?_
  rw [hD.size]
  exact hK
end

/-- a range over the map is under way: 'vis' are the places that have been visited -/
def RangeAt (w : World) (b r : Nat) (f : Nat → Option Nat) (N : Nat) (vis : Nat → Bool) (c : Nat) : Prop :=
  ∃ (D : DataW Unit) (left : Lit → Bool), w.ranges Tryd.prog 3 (plainElem Tryd.prog 53) b r N D left c ∧ MapIs D f N ∧ (∀ i, vis i = true → (f i).isSome = true) ∧ (∀ i : Nat, left (key i) = ((f i).isSome && !vis i)) ∧ ∀ kl, left kl = true → ∃ i : Nat, kl = key i

theorem RangeAt.owns {w : World} {b r : Nat} {f : Nat → Option Nat} {N : Nat} {vis : Nat → Bool} {c : Nat} (h : RangeAt w b r f N vis c) : MapAt w b f N := by
  obtain ⟨D, left, h1, h2, _⟩ := h; exact ⟨D, h1.owns, h2⟩

theorem RangeAt.kept {w w' : World} {b r : Nat} {f : Nat → Option Nat} {N : Nat} {vis : Nat → Bool} {c : Nat} {row : Option Nat} (h : RangeAt w b r f N vis c) (hg : w.grownBy w' row) (hb : some b ≠ row) (hr : some r ≠ row) : RangeAt w' b r f N vis c := by
  obtain ⟨D, left, h1, h2⟩ := h; exact ⟨D, left, h1.kept hg hb hr, h2⟩

section
variable {w : World} {ops : Array Oper} {o : Oper} {a : Act} {Q : Exit → Act → World → Prop} {rest : List Oper} {b N : Nat} {f : Nat → Option Nat}

theorem map_range (h : MapAt w b f N) (hg : o.guard = none) (m : Operand) (hop : o.op = Op.range 61 m) (hm : a.eval m = .map (some b))
    (hK : ∀ w', RangeAt w' b w.heap.size f N (fun _ => false) (cnt f N) → w.grownBy w' none → w'.heap.size = w.heap.size + 1 → wpList Tryd.prog ops Q rest (a.put o.dst (.pointer (some ⟨w.heap.size, 0, none⟩))) w') : wpList Tryd.prog ops Q (o :: rest) a w := by
  obtain ⟨D, hown, hD⟩ := h
  refine wpList_range_own w hg m 61 hop 3 53 law3 Tryd.underlying61 _ b N D hm hown ?_
  intro w' h1 h2 h3
  rw [hD.size] at h1
  exact hK w' ⟨D, _, h1, hD, fun i h => (by cases h), fun i => by rw [hD.has i]; simp, hD.keys⟩ h2 h3

theorem map_next {r c : Nat} {vis : Nat → Bool} (h : RangeAt w b r f N vis c) (hg : o.guard = none) (it : Operand) (hop : o.op = Op.next it false) (hit : a.eval it = .pointer (some ⟨r, 0, none⟩))
    (hDone : (∀ i, (f i).isSome = true → vis i = true) → wpList Tryd.prog ops Q rest (a.put o.dst (.tuple #[.bool false])) w)
    (hMore : ∀ (i s c' : Nat) (w' : World), f i = some s → i < N → s < 18446744073709551616 → vis i = false → RangeAt w' b r f N (fun j => vis j || decide (j = i)) c' → c' < c → w.grownBy w' (some r) → w'.heap.size = w.heap.size →
      (Instr.entry (.pointer (some ⟨r, 0, none⟩))).run Tryd.prog w' = .ok (.tuple #[.int .i64 i, .int .u64 s]) w' → wpList Tryd.prog ops Q rest (a.put o.dst (.tuple #[.bool true, .int .i64 i, .int .u64 s])) w') : wpList Tryd.prog ops Q (o :: rest) a w := by
  obtain ⟨D, left, hrg, hD, hv, hl, hk⟩ := h
  refine wpList_next_ranges_ii w hg it hop 3 53 .i64 .u64 law3 Tryd.underlying3 Tryd.underlying53 b r N D left c hit hrg (fun h0 h1 => hDone (fun i hi => ?_)) ?_
  · have := hl i
    rw [h1, hi] at this
    simpa using this.symm
  · intro x cc w' cnt' hwx hwc hlx hat hrg' hlt hgr hsz hen
    obtain ⟨i, hi⟩ := hk _ hlx
    have hxi : x = (i : Int) := by simpa [key] using hi
    subst hxi
    have hli := hl i
    rw [show left (key i) = true from hlx] at hli
    have hli' := hli.symm
    rw [Bool.and_eq_true] at hli'
    obtain ⟨s, hs⟩ := Option.isSome_iff_exists.1 hli'.1
    have hcs : cc = (s : Int) := by
      have := hat (.lit (.int .u64 0))
      rw [show (Lit.int .i64 (i : Int)) = key i from rfl, hD.at_ i s hs] at this
      simpa using this.symm
    subst hcs
    refine hMore i s cnt' w' hs ?_ (hD.lim i s hs) (by simpa using hli'.2) ⟨D, _, hrg', hD, fun j hj => ?_, fun j => ?_, fun kl hkl => ?_⟩ hlt hgr hsz hen
    · apply Nat.lt_of_not_le; intro hle; have := hD.out i hle; rw [hs] at this; cases this
    · simp only [Bool.or_eq_true, decide_eq_true_eq] at hj
      rcases hj with hj | hj
      · exact hv j hj
      · subst hj; exact hli'.1
    · show (left (key j) && !(key j).sameKey (.int .i64 i)) = _
      rw [hl j]
      by_cases e : j = i
      · subst e
        have : (key j).sameKey (.int .i64 j) = true := by simp [key, Lit.sameKey]
        rw [this]; simp
      · have : (key j).sameKey (.int .i64 i) = false := Maps.sameKey_ne (fun e' => e (key_inj e'))
        rw [this]; simp [e]
    · rw [Bool.and_eq_true] at hkl; exact hk kl hkl.1
end

end Go.Proofs.YtnnfhnehieoeaaaDoor.Hy
