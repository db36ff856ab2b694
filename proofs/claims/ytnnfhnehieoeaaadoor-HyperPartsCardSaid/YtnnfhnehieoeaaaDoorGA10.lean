/- Contract of slices.Repeat at one number. -/
import Derived.Test.YtnnfhnehieoeaaaDoorGA9
import Derived.Test.YtnnfhnehieoeaaaDoorGL3
import Derived.Laws.CopyOwn
import Derived.Deep.RegionLaw
namespace Go.Proofs.YtnnfhnehieoeaaaDoor.Hy
open Go.RowKit Go.Shelf Go.Proofs.YtnnfhnehieoeaaaDoorW.PrintWords Go.Proofs.YtnnfhnehieoeaaaDoorW.PrintLast Go.Proofs.YtnnfhnehieoeaaaDoorW.PrintMore Go.Proofs.YtnnfhnehieoeaaaDoor.PHyperTells
set_option linter.unusedVariables false
set_option linter.unusedSimpArgs false

theorem mul_one (n : Nat) (hn : n ≤ 1000) (w : World) : Calls Tryd.prog 73 #[.int .u64 1, .int .u64 n] w fun e w' => e = .returned (.tuple #[.int .u64 0, .int .u64 n]) ∧ w = w' := by
  have h := Any.bits_Mul Tryd.lays212 1 n (by decide) (by omega) w
  rw [show (1 * n / 18446744073709551616 : Nat) = 0 from by omega, show (1 * n % 18446744073709551616 : Nat) = n from by omega] at h
  exact h.mono fun e w' ⟨h1, h2⟩ => ⟨h1, h2.symm⟩

/-- the cells: m of them are x -/
def repC (x : Int) (m n : Nat) : List Value := List.replicate m (.int .i64 x) ++ List.replicate (n - m) (.int .i64 0)
theorem repC_length {x : Int} {m n : Nat} (h : m ≤ n) : (repC x m n).length = n := by simp [repC]; omega
theorem repC_zero (x : Int) (n : Nat) : repC x 0 n = List.replicate n (.int .i64 0) := by simp [repC]
theorem repC_full (x : Int) (n : Nat) : repC x n n = List.replicate n (.int .i64 x) := by simp [repC]
theorem repC_at {x : Int} {m n j : Nat} (h : j < m) : (repC x m n)[j]? = some (.int .i64 x) := by
  unfold repC; rw [List.getElem?_append_left (by simpa using h)]; simp [h]
theorem repC_splice (x : Int) (m k n : Nat) (h : m + k ≤ n) : splice (repC x m n) m (List.replicate k (.int .i64 x)) = repC x (m + k) n := by
  unfold splice repC
  rw [List.take_append_of_le_length (by simp), List.take_of_length_le (by simp), List.length_replicate, List.drop_append, List.drop_of_length_le (by simp), List.nil_append, List.length_replicate, List.drop_replicate, ← List.append_assoc, List.replicate_append_replicate]
  congr 2
  omega

section
variable {ops : Array Oper} {o : Oper} {a : Act} {Q : Exit → Act → World → Prop} {rest : List Oper}
theorem make_ints {W : World} (hgd : o.guard = none) (l c : Operand) (hop : o.op = Op.makeSlice 30 l c) (n : Nat) (hn : n ≤ 1000) (hl : a.eval l = .int .i64 n) (hc : a.eval c = .int .i64 n)
    (h : ∀ (g : Nat) (w1 : World), w1.heap[g]? = some (.cells (List.replicate n (Value.int .i64 0)).toArray 3 (0, 0)) → Below W.heap.size W w1 → g = W.heap.size → wpList Tryd.prog ops Q rest (a.put o.dst (.slice (some ⟨g, 0, none⟩) n n)) w1) :
    wpList Tryd.prog ops Q (o :: rest) a W := by
  obtain ⟨i0, hi, hz0, hz1, hz2⟩ := info_parts info3
  refine wpList_make_row W hgd l c 30 hop 3 i0 (.int .i64 0) Tryd.underlying30 hi hz0 hz1 rfl .i64 .i64 n hl hc (by rw [hz2]; omega) (by omega) ?_
  refine h _ _ ?_ ((Below.refl _ _).alloc (Nat.le_refl _) _) rfl
  have e : madeCells #[Value.int .i64 0] n = (List.replicate n (Value.int .i64 0)).toArray := by
    apply Array.ext
    · simp [madeCells]
    · intro j h1 h2
      simp [madeCells, Nat.mod_one]
  rw [← e]
  exact blk_new W _
end

theorem size3 : (Tryd.prog.info? 3).map (·.size) = some 1 := by
  have := info3
  cases h : Tryd.prog.info? 3 with
  | none => rw [h] at this; cases this
  | some i => rw [h] at this; simp at this ⊢; exact this.2.1

set_option maxHeartbeats 2000000 in
set_option maxRecDepth 100000 in
theorem repeat_any (n : Nat) (hn : n ≤ 1000) (w : World) :
    Calls Tryd.prog 58 #[.slice (some ⟨w.heap.size, 0, none⟩) 1 1, .int .i64 n] (w.alloc (.cells #[.int .i64 (-1)] 3)) fun e w' => ∃ g, e = .returned (.slice (some ⟨g, 0, none⟩) n n) ∧ w'.heap[g]? = some (.cells ((List.replicate n (Value.int .i64 (-1))).toArray) 3 (0, 0)) ∧ w.heap.size < g ∧ Below w.heap.size w w' := by
  obtain ⟨z, hz1, hz2, hz3, hzm⟩ : ∃ z, z ≤ 1 ∧ z ≤ n ∧ (z = 1 ∨ n = 0) ∧ z = min 1 n := ⟨min 1 n, by omega, by omega, by omega, rfl⟩
  have HZM := Aside0.mk hzm
  have HZ3 := Aside0.mk hz3
  clear hzm hz3
  have HM := Aside0.mk (fun w => mul_one n hn w)
  have HB := Aside0.mk (show Below w.heap.size w (w.alloc (.cells #[.int .i64 (-1)] 3)) from (Below.refl _ _).alloc (Nat.le_refl _) _)
  have HSRC : ∀ w2, Below (w.alloc (.cells #[.int .i64 (-1)] 3)).heap.size (w.alloc (.cells #[.int .i64 (-1)] 3)) w2 → ∀ (j : Nat) (v : Value), (List.replicate z (Value.int .i64 (-1)))[j]? = some v → w2.cell? ((⟨w.heap.size, 0, none⟩ : Addr).add j) = some v := fun w2 hb j v hj => by
    have hjz : j < z := by have := (List.getElem?_eq_some_iff.1 hj).1; simpa using this
    have hj0 : j = 0 := by omega
    subst hj0
    have hv : Value.int .i64 (-1) = v := by rw [List.getElem?_replicate, if_pos hjz] at hj; injection hj
    rw [Addr.add_lit]
    exact (hb.cell (p := ⟨w.heap.size, 0 + 0, none⟩) (by simp)).trans ((World.cell?_alloc_new _ _ _ _).trans (by rw [← hv]; rfl))
  have HSRC' := Aside0.mk HSRC
  clear HSRC
  have HSRC := HSRC'
  clear HSRC'
  go_enter Tryd.func58, Tryd.ntmps58
  go_wp2_with (first | (go_at_call 73; refine (HM.out _).mono ?_; rintro e w1 ⟨rfl, rfl⟩) | (at_make; refine make_ints rfl _ _ rfl n hn rfl rfl ?_; intro g w2 hg hb hgw; have HG := Aside0.mk hg; have HB2 := Aside0.mk hb; have HGW := Aside0.mk hgw; clear hg hb hgw) | ((with_reducible refine gate_builtin (b := .copy) (xs := #[.tmp 31, .tmp 32]) rfl ?_); go_must (refine wpList_copy_splice rfl (.tmp 31) (.tmp 32) 30 30 rfl 3 Tryd.underlying30 size3 (some ⟨g, 0, none⟩) (some ⟨w.heap.size, 0, none⟩) n n 1 1 rfl rfl g 0 (repC (-1) 0 n) 3 ?h1 (List.replicate z (.int .i64 (-1))) ?h2 ?h3 ?h4 ?h5 w.heap.size w ?h6 ?h7 ?_); go_must (case h1 => rw [repC_zero]; exact HG.out); go_must (case h2 => rw [List.length_replicate]; exact HZM.out); go_must (case h3 => intro _; exact ⟨rfl, _, rfl, fun j v hj => HSRC.out _ HB2.out j v hj⟩); go_must (case h4 => rw [repC_length (by omega), List.length_replicate]; omega); go_must (case h5 => intro v hv; rw [List.eq_of_mem_replicate hv]; rfl); go_must (case h6 => exact HB.out.trans (HB2.out.mono (by simp))); go_must (case h7 => rw [HGW.out]; simp); intro w3 hg3 hb3; have HG3 := Aside0.mk hg3; have HB3 := Aside0.mk hb3; clear hg3 hb3))
  go_loopg [8] (n - z) (fun k v8 wr => ∃ (m : Nat), v8 = .int .i64 m ∧ m ≤ n ∧ Aside0 (1 ≤ m ∨ n = 0) ∧ Aside0 (k + m = n) ∧ Aside0 (wr.heap[g]? = some (.cells (repC (-1) m n).toArray 3 (0, 0))) ∧ Aside0 (Below w.heap.size w wr))
  case atStart => exact ⟨z, by simp, by omega, ⟨by have := HZ3.out; omega⟩, ⟨by omega⟩, ⟨by have h0 := repC_splice (-1) 0 z n (by omega); rw [Nat.zero_add] at h0; rw [← h0]; exact HG3.out⟩, HB3⟩
  case round =>
    obtain ⟨m, rfl, hmn, hm1, hk, hG, hB⟩ := hrel
    by_cases hlt : m < n
    · have hm1' : 1 ≤ m := by have := hm1.out; omega
      obtain ⟨q, hq, hq1, hq2, hq3⟩ : ∃ q, q = min m (n - m) ∧ 1 ≤ q ∧ q ≤ m ∧ m + q ≤ n := ⟨min m (n - m), rfl, by omega, by omega, by omega⟩
      have HQ := Aside0.mk hq
      have HSR : Aside0 (∀ (W : World), W.heap[g]? = some (Obj.cells (repC (-1) m n).toArray 3 (0, 0)) → ∀ (j : Nat) (v : Value), (List.replicate q (Value.int .i64 (-1)))[j]? = some v → W.cell? ((⟨g, 0, none⟩ : Addr).add j) = some v) := ⟨fun W hW j v hj => by
        have hjq : j < q := by have := (List.getElem?_eq_some_iff.1 hj).1; simpa using this
        have hv : Value.int .i64 (-1) = v := by simpa [hjq] using hj
        rw [Addr.add_lit, blk_cell hW, ← hv, Nat.zero_add, List.getElem?_toArray]
        exact repC_at (by omega)⟩
      clear hq
      go_wp2
      have HD : Aside0 (∀ (W : World), W = wr.drew → W.heap[g]? = some (Obj.cells (repC (-1) m n).toArray 3 (0, 0))) := ⟨fun W hW => by rw [hW]; exact hG.out⟩
      go_region_law (refine step_copy_splice rfl (.tmp 41) (.tmp 44) 30 30 rfl 3 Tryd.underlying30 size3 (some ⟨g, m, none⟩) (some ⟨g, 0, none⟩) (n - m) (n - m) m n (by simp [Act.eval, Act.put]; omega) (by simp [Act.eval, Act.put]) g m (repC (-1) m n) 3 (HD.out _ rfl) (List.replicate q (.int .i64 (-1))) (by rw [List.length_replicate]; exact HQ.out) (fun _ => ⟨rfl, _, rfl, fun j v hj => HSR.out _ (HD.out _ rfl) j v hj⟩) (by rw [repC_length (by omega), List.length_replicate]; omega) (fun v hv => by rw [List.eq_of_mem_replicate hv]; rfl) w.heap.size w hB.out.drew (by rw [HGW.out]; simp) ?_; intro w4 hg4 hb4; have HG4 := Aside0.mk hg4; have HB4 := Aside0.mk hb4; clear hg4 hb4)
      have e46 : IntKind.i64.wrap ((m : Int) + (q : Int)) = (m : Int) + (q : Int) := by rw [IntKind.wrap_i64]; omega
      go_wp2
      go_roundg (gk - q)
      case measure => have := hk.out; omega
      case rel =>
        refine ⟨m + q, by simp, by omega, ⟨by omega⟩, ⟨by have := hk.out; omega⟩, ⟨by rw [← repC_splice (-1) m q n (by omega)]; exact HG4.out⟩, HB4⟩
    · have hmn' : m = n := by omega
      subst hmn'
      go_wp2
      go_ret
      refine ⟨g, rfl, ?_, ?_, hB.out⟩
      · have := hG.out; rw [repC_full] at this; exact this
      · rw [HGW.out]; simp

end Go.Proofs.YtnnfhnehieoeaaaDoor.Hy

/- The reducing of edges, in plain words: single steps; what is left when nothing can be done. -/
namespace Go.Proofs.YtnnfhnehieoeaaaDoor.Hy
open Go.RowKit Go.Shelf Go.Proofs.YtnnfhnehieoeaaaDoorW.PrintWords Go.Proofs.YtnnfhnehieoeaaaDoorW.PrintLast Go.Proofs.YtnnfhnehieoeaaaDoorW.PrintMore Go.Proofs.YtnnfhnehieoeaaaDoor.PHyperTells
set_option linter.unusedVariables false
set_option linter.unusedSimpArgs false

abbrev Fam := Nat → Option Nat

/-- the vertices of the visited edges -/
def OnceOf (f : Fam) (vis : Nat → Bool) (o : Nat) : Prop := ∀ v, o.testBit v = true ↔ ∃ i s, vis i = true ∧ f i = some s ∧ s.testBit v = true
/-- the vertices of two of the visited edges -/
def TwiOf (f : Fam) (vis : Nat → Bool) (tw : Nat) : Prop := ∀ v, tw.testBit v = true ↔ ∃ i j s t, i ≠ j ∧ vis i = true ∧ vis j = true ∧ f i = some s ∧ f j = some t ∧ s.testBit v = true ∧ t.testBit v = true
/-- the vertices of two edges -/
def TwoOf (f : Fam) (tw : Nat) : Prop := ∀ v, tw.testBit v = true ↔ ∃ i j s t, i ≠ j ∧ f i = some s ∧ f j = some t ∧ s.testBit v = true ∧ t.testBit v = true

theorem OnceOf.zero (f : Fam) : OnceOf f (fun _ => false) 0 := fun v => by
  rw [Nat.zero_testBit]
  constructor
  · intro h; cases h
  · rintro ⟨i, s, h, _⟩; cases h
theorem TwiOf.zero (f : Fam) : TwiOf f (fun _ => false) 0 := fun v => by
  rw [Nat.zero_testBit]
  constructor
  · intro h; cases h
  · rintro ⟨i, j, s, t, _, h, _⟩; cases h

theorem OnceOf.step {f : Fam} {vis : Nat → Bool} {o i s : Nat} (h : OnceOf f vis o) (hf : f i = some s) : OnceOf f (fun j => vis j || decide (j = i)) (o ||| s) := fun v => by
  rw [Nat.testBit_or, Bool.or_eq_true, h v]
  constructor
  · rintro (⟨j, t, hj, hft, ht⟩ | hs)
    · exact ⟨j, t, by simp [hj], hft, ht⟩
    · exact ⟨i, s, by simp, hf, hs⟩
  · rintro ⟨j, t, hj, hft, ht⟩
    simp only [Bool.or_eq_true, decide_eq_true_eq] at hj
    rcases hj with hj | rfl
    · exact .inl ⟨j, t, hj, hft, ht⟩
    · rw [hf] at hft; cases hft; exact .inr ht

theorem TwiOf.step {f : Fam} {vis : Nat → Bool} {o tw i s : Nat} (h : OnceOf f vis o) (h2 : TwiOf f vis tw) (hv : vis i = false) (hf : f i = some s) : TwiOf f (fun j => vis j || decide (j = i)) (tw ||| (o &&& s)) := fun v => by
  rw [Nat.testBit_or, Nat.testBit_and, Bool.or_eq_true, Bool.and_eq_true, h v, h2 v]
  constructor
  · rintro (⟨j, k, t, u, hjk, hj, hk, h1, h2, h3, h4⟩ | ⟨⟨j, t, hj, hft, ht⟩, hs⟩)
    · exact ⟨j, k, t, u, hjk, by simp [hj], by simp [hk], h1, h2, h3, h4⟩
    · refine ⟨j, i, t, s, ?_, by simp [hj], by simp, hft, hf, ht, hs⟩
      rintro rfl; rw [hj] at hv; cases hv
  · rintro ⟨j, k, t, u, hjk, hj, hk, h1, h2, h3, h4⟩
    simp only [Bool.or_eq_true, decide_eq_true_eq] at hj hk
    rcases hj with hj | rfl
    · rcases hk with hk | rfl
      · exact .inl ⟨j, k, t, u, hjk, hj, hk, h1, h2, h3, h4⟩
      · rw [hf] at h2; cases h2; exact .inr ⟨⟨j, t, hj, h1, h3⟩, h4⟩
    · rcases hk with hk | rfl
      · rw [hf] at h1; cases h1; exact .inr ⟨⟨k, u, hk, h2, h4⟩, h3⟩
      · exact absurd rfl hjk

theorem TwiOf.all {f : Fam} {vis : Nat → Bool} {tw : Nat} (h : TwiOf f vis tw) (hv : ∀ i, (f i).isSome = true → vis i = true) : TwoOf f tw := fun v => by
  rw [h v]
  constructor
  · rintro ⟨j, k, t, u, hjk, hj, hk, h1, h2, h3, h4⟩; exact ⟨j, k, t, u, hjk, h1, h2, h3, h4⟩
  · rintro ⟨j, k, t, u, hjk, h1, h2, h3, h4⟩; exact ⟨j, k, t, u, hjk, hv j (by rw [h1]; rfl), hv k (by rw [h2]; rfl), h1, h2, h3, h4⟩

theorem upd_upd (f : Fam) (i : Nat) (x y : Option Nat) : upd (upd f i x) i y = upd f i y := by
  funext j; unfold upd; split <;> rfl

theorem TwoOf.mask {f : Fam} {tw i s : Nat} (h : TwoOf f tw) (hf : f i = some s) : TwoOf (upd f i (some (s &&& tw))) tw := fun v => by
  constructor
  · intro hv
    obtain ⟨j, k, t, u, hjk, h1, h2, h3, h4⟩ := (h v).1 hv
    have key : ∀ j t, f j = some t → t.testBit v = true → ∃ t', upd f i (some (s &&& tw)) j = some t' ∧ t'.testBit v = true := fun j t hj ht => by
      by_cases e : j = i
      · subst e; rw [hf] at hj; cases hj
        exact ⟨_, upd_same _ _ _, by rw [Nat.testBit_and, ht, hv]; rfl⟩
      · exact ⟨t, by rw [upd_other f e]; exact hj, ht⟩
    obtain ⟨t', a1, a2⟩ := key j t h1 h3
    obtain ⟨u', b1, b2⟩ := key k u h2 h4
    exact ⟨j, k, t', u', hjk, a1, b1, a2, b2⟩
  · rintro ⟨j, k, t, u, hjk, h1, h2, h3, h4⟩
    have key : ∀ j t, upd f i (some (s &&& tw)) j = some t → t.testBit v = true → ∃ t', f j = some t' ∧ t'.testBit v = true := fun j t hj ht => by
      by_cases e : j = i
      · subst e; rw [upd_same] at hj; cases hj
        rw [Nat.testBit_and, Bool.and_eq_true] at ht
        exact ⟨s, hf, ht.1⟩
      · rw [upd_other f e] at hj; exact ⟨t, hj, ht⟩
    obtain ⟨t', a1, a2⟩ := key j t h1 h3
    obtain ⟨u', b1, b2⟩ := key k u h2 h4
    exact (h v).2 ⟨j, k, t', u', hjk, a1, b1, a2, b2⟩

/-- the steps of the reducing, and the parents -/
inductive Gyo (f0 : Fam) (p0 : List Int) : Fam → List Int → Prop
  | start : Gyo f0 p0 f0 p0
  | mask (f : Fam) (p : List Int) (i s tw : Nat) : Gyo f0 p0 f p → f i = some s → TwoOf f tw → Gyo f0 p0 (upd f i (some (s &&& tw))) p
  | empty (f : Fam) (p : List Int) (i : Nat) : Gyo f0 p0 f p → f i = some 0 → Gyo f0 p0 (upd f i none) p
  | sub (f : Fam) (p : List Int) (i k s t : Nat) : Gyo f0 p0 f p → f i = some s → f k = some t → k ≠ i → s &&& t = s → Gyo f0 p0 (upd f i none) (p.set i (k : Int))

theorem Gyo.drop {f0 : Fam} {p0 : List Int} {f : Fam} {p : List Int} {i s tw : Nat} (h : Gyo f0 p0 f p) (hf : f i = some s) (ht : TwoOf f tw) (hz : s &&& tw = 0) : Gyo f0 p0 (upd f i none) p := by
  have h1 := Gyo.mask f p i s tw h hf ht
  rw [hz] at h1
  have := Gyo.empty _ _ i h1 (upd_same _ _ _)
  rwa [upd_upd] at this

/-- the first i places are as they shall be -/
def Settled (f : Fam) (tw i : Nat) : Prop := ∀ i', i' < i → ∀ s, f i' = some s → s ≠ 0 ∧ s &&& tw = s ∧ ∀ k t, f k = some t → k ≠ i' → ¬ (s &&& t = s)
/-- nothing can be done -/
def Stuck (f : Fam) : Prop := ∃ tw, TwoOf f tw ∧ ∀ i, Settled f tw i

theorem Settled.mask {f : Fam} {tw i s : Nat} (h : Settled f tw i) (hf : f i = some s) : Settled (upd f i (some (s &&& tw))) tw i := fun i' hi' s' hs' => by
  rw [upd_other f (show i' ≠ i by omega)] at hs'
  obtain ⟨h1, h2, h3⟩ := h i' hi' s' hs'
  refine ⟨h1, h2, fun k t hk hne => ?_⟩
  by_cases e : k = i
  · subst e
    rw [upd_same] at hk; cases hk
    intro h4
    refine h3 k s hf hne ?_
    apply Nat.eq_of_testBit_eq
    intro v
    have := congrArg (fun n => n.testBit v) h4
    simp only [Nat.testBit_and] at this ⊢
    cases hv : s'.testBit v <;> simp_all
  · rw [upd_other f e] at hk; exact h3 k t hk hne

theorem Settled.skip {f : Fam} {tw i : Nat} (h : Settled f tw i) (hf : f i = none) : Settled f tw (i + 1) := fun i' hi' s' hs' => by
  by_cases e : i' = i
  · subst e; rw [hf] at hs'; cases hs'
  · exact h i' (by omega) s' hs'

theorem Settled.next {f : Fam} {tw i s N : Nat} (h : Settled f tw i) (hf : f i = some s) (h0 : s ≠ 0) (h1 : s &&& tw = s) (hout : ∀ k, N ≤ k → f k = none) (hk : ∀ k, k < N → ∀ t, f k = some t → k ≠ i → ¬ (s &&& t = s)) : Settled f tw (i + 1) := fun i' hi' s' hs' => by
  by_cases e : i' = i
  · subst e; rw [hf] at hs'; cases hs'
    refine ⟨h0, h1, fun k t hkt hne => hk k ?_ t hkt hne⟩
    apply Nat.lt_of_not_le; intro hle; rw [hout k hle] at hkt; cases hkt
  · exact h i' (by omega) s' hs'

theorem Settled.all {f : Fam} {tw N : Nat} (h : Settled f tw N) (hout : ∀ k, N ≤ k → f k = none) (i : Nat) : Settled f tw i := fun i' hi' s' hs' => by
  refine h i' ?_ s' hs'
  apply Nat.lt_of_not_le; intro hle; rw [hout i' hle] at hs'; cases hs'

theorem diff_sub {s t : Nat} (hs : s < 18446744073709551616) (ht : t < 18446744073709551616) : diffB s t = 0 ↔ s &&& t = s := by
  constructor
  · intro h
    apply Nat.eq_of_testBit_eq
    intro v
    have := congrArg (fun n => n.testBit v) h
    simp only [testBit_diffB _ _ _ hs ht, Nat.zero_testBit] at this
    rw [Nat.testBit_and]
    cases hv : s.testBit v <;> simp_all
  · intro h
    apply Nat.eq_of_testBit_eq
    intro v
    have := congrArg (fun n => n.testBit v) h
    simp only [Nat.testBit_and] at this
    rw [testBit_diffB _ _ _ hs ht, Nat.zero_testBit]
    cases hv : s.testBit v <;> simp_all

/-- the first j of the sets -/
def firstOf (l : List Nat) (j : Nat) : Fam := fun i => if i < j then l[i]? else none
theorem firstOf_zero (l : List Nat) : firstOf l 0 = fun _ => none := by funext i; simp [firstOf]
theorem firstOf_succ (l : List Nat) (j s : Nat) (h : l[j]? = some s) : upd (firstOf l j) j (some s) = firstOf l (j + 1) := by
  funext i
  unfold upd firstOf
  by_cases e : i = j
  · subst e; simp [h]
  · rw [if_neg e]
    by_cases hi : i < j
    · rw [if_pos hi, if_pos (by omega)]
    · rw [if_neg hi, if_neg (by omega)]
theorem firstOf_all (l : List Nat) : firstOf l l.length = fun i => l[i]? := by
  funext i
  unfold firstOf
  by_cases hi : i < l.length
  · rw [if_pos hi]
  · rw [if_neg hi, List.getElem?_eq_none (by omega)]

/-! ### memory -/
/-- a list of numbers as cells -/
def icells (p : List Int) : Array Value := (p.map (Value.int .i64)).toArray

/-- what a row of sets is read as, beside a map -/
structure SetsAt (w : World) (b : Nat) (A : Option Addr) (l : List Nat) : Prop where
  cell : ∀ (j s : Nat), l[j]? = some s → ∃ ad, A = some ad ∧ ad.block ≠ b ∧ ad.block < w.heap.size ∧ w.cell? (ad.add j) = some (.int .u64 s)

theorem add_block (a : Addr) (j : Nat) : (a.add j).block = a.block := by
  unfold Addr.add; split <;> rfl

theorem SetsAt.kept {w w' : World} {b : Nat} {A : Option Addr} {l : List Nat} (h : SetsAt w b A l) (hg : w.grownBy w' (some b)) : SetsAt w' b A l :=
  ⟨fun j s hs => by
    obtain ⟨ad, h1, h2, h3, h4⟩ := h.cell j s hs
    exact ⟨ad, h1, h2, Nat.lt_of_lt_of_le h3 hg.size, (hg.cell_far (ad.add j) (by rw [add_block]; exact h3) (fun e => h2 (by injection e with e; rw [add_block] at e; exact e))).trans h4⟩⟩

theorem SetsAt.of_R {w : World} {base b : Nat} {v : Value} {l : List Nat} (h : (Kd.int .u64).R 53 w base anyK v (asInts l)) (hl : l.length ≤ 1000) (hb : b < base) : ∃ A c, v = .slice A l.length c ∧ l.length ≤ c ∧ SetsAt w b A l := by
  have hlen : (asInts l).length = l.length := by simp [asInts]
  have hne : ∀ k, v.ownBlock = some k → k ≠ b ∧ k < w.heap.size := fun k hk => by
    obtain ⟨inner, ho⟩ := Kd.R_own h
    rcases ho.2 with ⟨h1, _⟩ | ⟨g, cap, cur, h1, h2, h3, _⟩
    · subst h1; simp [Value.ownBlock] at hk
    · subst h1; simp [Value.ownBlock] at hk; subst hk; exact ⟨by omega, (Array.getElem?_eq_some_iff.1 h3).1⟩
  obtain ⟨A, c, he, hc, hr⟩ := Kd.R_reads h
  rw [hlen] at he hc
  refine ⟨A, c, he, hc, ⟨fun j s hs => ?_⟩⟩
  have hj : j < l.length := (List.getElem?_eq_some_iff.1 hs).1
  obtain ⟨ad, hA, hx⟩ := Kd.at_int hr (j : Int) (by omega) (by rw [hlen]; omega)
  have hrd : rd (asInts l) (j : Int) = (s : Int) := by simp [rd, asInts, List.getD_eq_getElem?_getD, hs]
  rw [hrd] at hx
  simp only [Int.toNat_natCast] at hx
  have h1 := hne ad.block (by rw [he, hA]; rfl)
  exact ⟨ad, hA, h1.1, h1.2, hx⟩

theorem set_grown (w : World) (g i : Nat) (u : Value) : w.grownBy (w.setCell ⟨g, i, none⟩ u) (some g) :=
  ⟨rfl, rfl, rfl, by simp [World.setCell], fun k hk hne => Below.heap_setCell w ⟨g, i, none⟩ u k (fun e => hne (by rw [e]))⟩

theorem icells_set (p : List Int) (i : Nat) (x : Int) : (icells p).setIfInBounds i (.int .i64 x) = icells (p.set i x) := by
  unfold icells
  rw [List.setIfInBounds_toArray, List.map_set]

/-- how many entries the map has -/
def entriesAt (w : World) (b : Nat) : Nat := match w.heap[b]? with
  | some (.map es _) => es.size
  | _ => 0
theorem MapAt.entries {w : World} {b N : Nat} {f : Fam} (h : MapAt w b f N) : entriesAt w b = cnt f N := by
  obtain ⟨D, ⟨es, clock, h1, h2, h3, h4⟩, hD⟩ := h
  unfold entriesAt
  rw [h1, ← hD.size, h4]
  exact (length_read es).symm
theorem MapAt.ne_cells {w : World} {b N g : Nat} {f : Fam} {cs : Array Value} {t : TypeId} {z} (h : MapAt w b f N) (hg : w.heap[g]? = some (.cells cs t z)) : b ≠ g := by
  obtain ⟨D, ⟨es, clock, h1, _⟩, _⟩ := h
  rintro rfl
  rw [hg] at h1
  cases h1
theorem MapAt.lim {w : World} {b N : Nat} {f : Fam} (h : MapAt w b f N) : ∀ i s, f i = some s → s < 18446744073709551616 := by obtain ⟨D, _, hD⟩ := h; exact hD.lim
theorem MapAt.out {w : World} {b N : Nat} {f : Fam} (h : MapAt w b f N) : ∀ i, N ≤ i → f i = none := by obtain ⟨D, _, hD⟩ := h; exact hD.out

end Go.Proofs.YtnnfhnehieoeaaaDoor.Hy

/- Contract of hyper.reduced. (written by gen12.py) -/
namespace Go.Proofs.YtnnfhnehieoeaaaDoor.Hy
open Go.RowKit Go.Shelf Go.Proofs.YtnnfhnehieoeaaaDoorW.PrintWords Go.Proofs.YtnnfhnehieoeaaaDoorW.PrintLast Go.Proofs.YtnnfhnehieoeaaaDoorW.PrintMore Go.Proofs.YtnnfhnehieoeaaaDoor.PHyperTells
set_option linter.unusedVariables false
set_option linter.unusedSimpArgs false

section
variable {ops : Array Oper} {o : Oper} {a : Act} {Q : Exit → Act → World → Prop} {rest : List Oper}
theorem make_map {W : World} (N : Nat) (hgd : o.guard = none) (hop : o.op = Op.makeMap 61 none)
    (h : ∀ (b : Nat) (w1 : World), b = W.heap.size → MapAt w1 b (fun _ => none) N → Below W.heap.size W w1 → w1.heap.size = W.heap.size + 1 → wpList Tryd.prog ops Q rest (a.put o.dst (.map (some b))) w1) :
    wpList Tryd.prog ops Q (o :: rest) a W := by
  refine Kd.event_run hgd (v := .map (some W.heap.size)) (w1 := W.alloc (.map #[] 0)) ?_ (h _ _ rfl (MapAt.made W N) ((Below.refl _ _).alloc (Nat.le_refl _) _) (by rw [World.alloc]; exact Array.size_push _))
  unfold execOp
  rw [hop]
  simp only [Option.map, Sem.run_map, run_makeMap]
  rfl
end

/-- the measure at the label -/
def muAt (a : Act) (w : World) : Nat := match a.tmps.getD 4 undef with
  | .map (some b) => entriesAt w b
  | _ => 0

/-- the frame at the label -/
def frame12 (x0 x1 x4 x7 : Value) (u : Nat → Value) : Act := { tmps := #[x0, x1, .map none, .slice none 0 0, x4, u 5, u 6, x7, u 8, u 9, u 10, u 11, u 12, u 13, u 14, u 15, u 16, u 17, u 18, u 19, u 20, u 21, u 22, u 23, u 24, u 25, u 26, u 27, u 28, u 29, u 30, u 31, u 32, u 33, u 34, u 35, u 36, u 37, u 38, u 39, u 40, u 41, u 42, u 43, u 44, u 45, u 46, u 47, u 48, u 49, u 50, u 51, u 52, u 53, u 54, u 55, u 56, u 57, u 58, u 59, u 60, u 61, u 62, u 63, u 64, u 65, u 66, u 67, u 68, u 69, u 70, u 71, u 72, u 73, u 74, u 75, u 76, u 77, u 78, u 79, u 80, u 81, u 82, u 83, u 84, u 85, u 86, u 87, u 88, u 89, u 90, u 91, u 92, u 93, u 94, u 95, u 96, u 97, u 98, u 99, u 100, u 101, u 102, u 103, u 104, u 105, u 106, u 107], defers := [] }
set_option maxRecDepth 100000 in
theorem frame12_of {v0 v1 v4 v5 v6 v7 v8 v9 v10 v11 v12 v13 v14 v15 v16 v17 v18 v19 v20 v21 v22 v23 v24 v25 v26 v27 v28 v29 v30 v31 v32 v33 v34 v35 v36 v37 v38 v39 v40 v41 v42 v43 v44 v45 v46 v47 v48 v49 v50 v51 v52 v53 v54 v55 v56 v57 v58 v59 v60 v61 v62 v63 v64 v65 v66 v67 v68 v69 v70 v71 v72 v73 v74 v75 v76 v77 v78 v79 v80 v81 v82 v83 v84 v85 v86 v87 v88 v89 v90 v91 v92 v93 v94 v95 v96 v97 v98 v99 v100 v101 v102 v103 v104 v105 v106 v107 : Value} : ∃ u, ({ tmps := #[v0, v1, .map none, .slice none 0 0, v4, v5, v6, v7, v8, v9, v10, v11, v12, v13, v14, v15, v16, v17, v18, v19, v20, v21, v22, v23, v24, v25, v26, v27, v28, v29, v30, v31, v32, v33, v34, v35, v36, v37, v38, v39, v40, v41, v42, v43, v44, v45, v46, v47, v48, v49, v50, v51, v52, v53, v54, v55, v56, v57, v58, v59, v60, v61, v62, v63, v64, v65, v66, v67, v68, v69, v70, v71, v72, v73, v74, v75, v76, v77, v78, v79, v80, v81, v82, v83, v84, v85, v86, v87, v88, v89, v90, v91, v92, v93, v94, v95, v96, v97, v98, v99, v100, v101, v102, v103, v104, v105, v106, v107], defers := [] } : Act) = frame12 v0 v1 v4 v7 u := ⟨fun n => match n with | 5 => v5 | 6 => v6 | 8 => v8 | 9 => v9 | 10 => v10 | 11 => v11 | 12 => v12 | 13 => v13 | 14 => v14 | 15 => v15 | 16 => v16 | 17 => v17 | 18 => v18 | 19 => v19 | 20 => v20 | 21 => v21 | 22 => v22 | 23 => v23 | 24 => v24 | 25 => v25 | 26 => v26 | 27 => v27 | 28 => v28 | 29 => v29 | 30 => v30 | 31 => v31 | 32 => v32 | 33 => v33 | 34 => v34 | 35 => v35 | 36 => v36 | 37 => v37 | 38 => v38 | 39 => v39 | 40 => v40 | 41 => v41 | 42 => v42 | 43 => v43 | 44 => v44 | 45 => v45 | 46 => v46 | 47 => v47 | 48 => v48 | 49 => v49 | 50 => v50 | 51 => v51 | 52 => v52 | 53 => v53 | 54 => v54 | 55 => v55 | 56 => v56 | 57 => v57 | 58 => v58 | 59 => v59 | 60 => v60 | 61 => v61 | 62 => v62 | 63 => v63 | 64 => v64 | 65 => v65 | 66 => v66 | 67 => v67 | 68 => v68 | 69 => v69 | 70 => v70 | 71 => v71 | 72 => v72 | 73 => v73 | 74 => v74 | 75 => v75 | 76 => v76 | 77 => v77 | 78 => v78 | 79 => v79 | 80 => v80 | 81 => v81 | 82 => v82 | 83 => v83 | 84 => v84 | 85 => v85 | 86 => v86 | 87 => v87 | 88 => v88 | 89 => v89 | 90 => v90 | 91 => v91 | 92 => v92 | 93 => v93 | 94 => v94 | 95 => v95 | 96 => v96 | 97 => v97 | 98 => v98 | 99 => v99 | 100 => v100 | 101 => v101 | 102 => v102 | 103 => v103 | 104 => v104 | 105 => v105 | 106 => v106 | 107 => v107 | _ => undef, rfl⟩

set_option maxHeartbeats 4000000 in
set_option maxRecDepth 100000 in
theorem reduced_any (many : Int) (A : Option Addr) (c : Nat) (xs : List (List Int)) (w : World) (hr : KL.C w A xs.length xs) (hc0 : xs.length ≤ c) (hs : ∀ e, e ∈ xs → small e ∧ e.length ≤ 1000) (hl : xs.length ≤ 1000) :
    Calls Tryd.prog 35 #[.agg #[.int .i64 many, .slice A xs.length c]] w fun e w' => ∃ b g f p, e = .returned (.tuple #[.map (some b), .slice (some ⟨g, 0, none⟩) xs.length xs.length]) ∧ MapAt w' b f xs.length ∧ w'.heap[g]? = some (.cells (icells p) 3 (0, 0)) ∧ p.length = xs.length ∧ w.heap.size ≤ b ∧ w.heap.size ≤ g ∧ Gyo (fun i => (setsOf xs)[i]?) (List.replicate xs.length (-1)) f p ∧ Stuck f ∧ Below w.heap.size w w' := by
  have HSETS : Aside0 (∀ W, KL.C W A xs.length xs → Calls Tryd.prog 32 #[.agg #[.int .i64 many, .slice A xs.length c]] W fun e w' => ∃ v, e = .returned v ∧ (Kd.int .u64).R 53 w' W.heap.size anyK v (asInts (setsOf xs)) ∧ Below W.heap.size W w') := ⟨fun W h => sets_any many A c xs W h hc0 hs hl⟩
  have HSM : Aside0 (∀ s, s ∈ setsOf xs → s < 18446744073709551616) := ⟨fun s hs' => by
    unfold setsOf at hs'
    obtain ⟨e, he, rfl⟩ := List.mem_map.1 hs'
    exact setOf_lt e (hs e he).1⟩
  have HLEN : Aside0 ((setsOf xs).length = xs.length) := ⟨by simp [setsOf]⟩
  have HR := Aside0.mk hr
  clear hr hs
  go_enter Tryd.func35, Tryd.ntmps35
  go_wp2_with (first | ((with_reducible refine gate_dst (N := 1) rfl ?_); refine box_event ?hg (N := 1) ?hd (cs := #[.int .i64 many, .slice A xs.length c]) (t := 24) ?hr ?_; (case hd => rfl); (case hg => rfl); (case hr => first | (go_simp; done) | (go_simp; rfl)); intro gb hg w2 hbox hb; have HG := Aside0.mk (show w.heap.size ≤ gb by omega); have HBX := Aside0.mk hbox; have HB := Aside0.mk hb; clear hg hbox hb))
  refine wp_scope_label 0 (fun a' w' => ∃ (b g : Nat) (f : Fam) (p : List Int), (∃ u : Nat → Value, a' = frame12 (.agg #[.int .i64 many, .slice A xs.length c]) (.pointer (some ⟨gb, 0, none⟩)) (.map (some b)) (.slice (some ⟨g, 0, none⟩) xs.length xs.length) u) ∧ Aside0 (MapAt w' b f xs.length) ∧ Aside0 (w'.heap[g]? = some (.cells (icells p) 3 (0, 0))) ∧ Aside0 (p.length = xs.length) ∧ Aside0 (Gyo (fun i => (setsOf xs)[i]?) (List.replicate xs.length (-1)) f p) ∧ Aside0 (w'.heap[gb]? = some (.cells #[.int .i64 many, .slice A xs.length c] 24 (0, 0))) ∧ Aside0 (Below w.heap.size w w') ∧ Aside0 (w.heap.size ≤ b) ∧ Aside0 (w.heap.size ≤ g)) muAt rfl ?_ ?_
  · -- behind the label
    rintro a' w' ⟨b, g, f, p, ⟨u, rfl⟩, HM, HG, HP, HY, HBX, HB, HBW, HGW⟩
    go_hide hQJ
    have HQ := Aside0.mk hQJ
    clear hQJ
    unfold frame12
    go_wp2_with (at_range; refine map_range HM.out rfl _ rfl rfl ?_; intro w2 hra hgr hsz; have HRA := Aside0.mk hra; have HG2 := Aside0.mk (blk_grown HG.out hgr (by simp)); have HBX2 := Aside0.mk (blk_grown HBX.out hgr (by simp)); have HB2 := Aside0.mk (HB.out.grown hgr HB.out.size (fun k hk => by cases hk)); clear hra hgr hsz)
    go_frame
    have HNG : Aside0 (g ≠ w'.heap.size ∧ gb ≠ w'.heap.size ∧ b ≠ w'.heap.size ∧ w.heap.size ≤ w'.heap.size) := ⟨⟨Nat.ne_of_lt (blk_lt HG.out), Nat.ne_of_lt (blk_lt HBX.out), Nat.ne_of_lt HM.out.lt, HB.out.size⟩⟩
    have HBG : Aside0 (b ≠ g ∧ b ≠ gb) := ⟨⟨HM.out.ne_cells HG.out, HM.out.ne_cells HBX.out⟩⟩
    have HNE : Aside0 (gb ≠ g) := ⟨blk_ne HBX.out HG.out (by decide)⟩
    have HLIM := Aside0.mk HM.out.lim
    have HOUT := Aside0.mk HM.out.out
    have HENT := Aside0.mk HM.out.entries
    go_loopg [8, 9] (cnt f xs.length) (fun k v8 v9 wl => ∃ (o tw c1 : Nat) (vis : Nat → Bool), v8 = .int .u64 o ∧ v9 = .int .u64 tw ∧ Aside0 (RangeAt wl b w'.heap.size f xs.length vis c1) ∧ Aside0 (k = c1) ∧ Aside0 (OnceOf f vis o) ∧ Aside0 (TwiOf f vis tw) ∧ o < 18446744073709551616 ∧ tw < 18446744073709551616 ∧ Aside0 (wl.heap[g]? = some (.cells (icells p) 3 (0, 0))) ∧ Aside0 (wl.heap[gb]? = some (.cells #[.int .i64 many, .slice A xs.length c] 24 (0, 0))) ∧ Aside0 (Below w.heap.size w wl))
    case atStart => exact ⟨0, 0, _, _, rfl, rfl, HRA, ⟨rfl⟩, ⟨OnceOf.zero f⟩, ⟨TwiOf.zero f⟩, by decide, by decide, HG2, HBX2, HB2⟩
    case round =>
      clear HRA HG2 HBX2 HB2 HM HG HBX HB
      obtain ⟨wl, rfl⟩ : ∃ wl, wl = wr := ⟨_, rfl⟩
      obtain ⟨o, tw, c1, vis, rfl, rfl, HRA, HK, HO, HTW, hol, htl, HG2, HBX2, HB2⟩ := hrel
      go_wp2_with (at_next; refine map_next HRA.out rfl _ rfl rfl ?_ ?_)
      · intro hall
        have HT2 := Aside0.mk (HTW.out.all hall)
        have HM2 := Aside0.mk HRA.out.owns
        have hcz1 : wl.cell? ⟨gb, 1, none⟩ = some (.slice A xs.length c) := (blk_cell HBX2.out 1).trans rfl
        clear hall HRA HK HO HTW
        go_wp2
        clear hcz1
        go_loopg [53] xs.length (fun k v53 wm => ∃ (i : Nat) (f1 : Fam), v53 = .int .i64 i ∧ i ≤ xs.length ∧ Aside0 (k + i = xs.length) ∧ Aside0 (MapAt wm b f1 xs.length) ∧ Aside0 (Gyo (fun i => (setsOf xs)[i]?) (List.replicate xs.length (-1)) f1 p) ∧ Aside0 (TwoOf f1 tw) ∧ Aside0 (Settled f1 tw i) ∧ Aside0 (cnt f1 xs.length = cnt f xs.length) ∧ Aside0 (wm.heap[g]? = some (.cells (icells p) 3 (0, 0))) ∧ Aside0 (wm.heap[gb]? = some (.cells #[.int .i64 many, .slice A xs.length c] 24 (0, 0))) ∧ Aside0 (Below w.heap.size w wm))
        case atStart => exact ⟨0, f, rfl, by omega, ⟨by omega⟩, HM2, HY, HT2, ⟨fun i' h => absurd h (Nat.not_lt_zero _)⟩, ⟨rfl⟩, HG2, HBX2, HB2⟩
        case round =>
          clear HM2 HT2 HG2 HBX2 HB2
          obtain ⟨ko, rfl⟩ : ∃ ko, ko = gk := ⟨_, rfl⟩
          obtain ⟨wm, rfl⟩ : ∃ wm, wm = wr := ⟨_, rfl⟩
          obtain ⟨i, f1, rfl, hi, hk, HM3, HY3, HT3, HS3, HC3, HG3, HBX3, HB3⟩ := hrel
          by_cases hlt : i < xs.length
          · cases hfi : f1 i with
            | none =>
              have HFI := Aside0.mk hfi
              clear hfi
              go_wp2_with (at_lookup; refine map_none HM3.out hl rfl _ _ rfl rfl hlt rfl HFI.out ?_)
              go_roundg (ko - 1)
              case measure => have := hk.out; omega
              case rel => exact ⟨i + 1, f1, by go_num, by omega, ⟨by have := hk.out; omega⟩, HM3, HY3, HT3, ⟨HS3.out.skip HFI.out⟩, HC3, HG3, HBX3, HB3⟩
            | some s =>
              have HFI := Aside0.mk hfi
              have hsl : s < 18446744073709551616 := HM3.out.lim i s hfi
              clear hfi
              obtain ⟨a1, ha1⟩ : ∃ a1, a1 = s &&& tw := ⟨_, rfl⟩
              have ha1l : a1 < 18446744073709551616 := ha1 ▸ and_lt_64 hsl
              have hb1 : bits .and .u64 (s : Int) (tw : Int) = (a1 : Int) := by rw [ha1]; exact u64_and_nat _ _ hsl htl
              have HA1 := Aside0.mk ha1
              clear ha1
              by_cases h0 : a1 = 0
              · have t1 : ((a1 : Int) == 0) = true := by subst h0; rfl
                have H0 := Aside0.mk h0
                clear h0
                go_wp2_with (first | (at_lookup; refine map_some HM3.out hl rfl _ _ rfl rfl hlt rfl HFI.out ?_) | (at_delete; refine map_delete HM3.out hl rfl _ _ rfl rfl hlt rfl ?_; intro w5 hm5 hg5; have HM5 := Aside0.mk hm5; have HG5 := Aside0.mk hg5; clear hm5 hg5))
                go_step3
                simp only [Exit.then, Exit.inBlock]
                rw [← HQ.out]
                refine ⟨rfl, ⟨b, g, _, p, frame12_of, HM5, ⟨blk_grown HG3.out HG5.out (fun e => HBG.out.1 (by injection e with e; exact e.symm))⟩, HP, ⟨HY3.out.drop HFI.out HT3.out (by rw [← HA1.out]; exact H0.out)⟩, ⟨blk_grown HBX3.out HG5.out (fun e => HBG.out.2 (by injection e with e; exact e.symm))⟩, ⟨HB3.out.grown HG5.out HB3.out.size (fun k hk => by injection hk with hk; rw [← hk]; exact HBW.out)⟩, HBW, HGW⟩, ?_⟩
                show entriesAt w5 b < entriesAt w' b
                rw [HENT.out, HM5.out.entries]
                have h1 := cnt_upd f1 i none xs.length hlt
                have h2 := HC3.out
                rw [HFI.out] at h1
                simp only [Option.isSome_some, Option.isSome_none, if_true] at h1
                simp only [Bool.false_eq_true, if_false] at h1
                omega
              · have t1 : ((a1 : Int) == 0) = false := by simpa using h0
                have H0 := Aside0.mk h0
                clear h0
                go_wp2_with (first | (at_lookup; refine map_some HM3.out hl rfl _ _ rfl rfl hlt rfl HFI.out ?_) | (at_mapUpdate; refine map_update HM3.out hl rfl _ _ _ rfl rfl hlt ha1l rfl rfl ?_; intro w5 hm5 hg5; have HM5 := Aside0.mk hm5; have HG5 := Aside0.mk (blk_grown HG3.out hg5 (fun e => HBG.out.1 (by injection e with e; exact e.symm))); have HBX5 := Aside0.mk (blk_grown HBX3.out hg5 (fun e => HBG.out.2 (by injection e with e; exact e.symm))); have HB5 := Aside0.mk (HB3.out.grown hg5 HB3.out.size (fun k hk => by injection hk with hk; rw [← hk]; exact HBW.out)); have hcz5 : w5.cell? ⟨gb, 1, none⟩ = some (.slice A xs.length c) := (blk_cell HBX5.out 1).trans rfl; clear hm5 hg5))
                clear hcz5
                obtain ⟨f2, hf2⟩ : ∃ f2, f2 = upd f1 i (some a1) := ⟨_, rfl⟩
                rw [← hf2] at HM5
                have HF2 : Aside0 (f2 i = some a1) := ⟨by rw [hf2, upd_same]⟩
                have HY5 : Aside0 (Gyo (fun i => (setsOf xs)[i]?) (List.replicate xs.length (-1)) f2 p) := ⟨by rw [hf2, HA1.out]; exact Gyo.mask f1 p i s tw HY3.out HFI.out HT3.out⟩
                have HT5 : Aside0 (TwoOf f2 tw) := ⟨by rw [hf2, HA1.out]; exact HT3.out.mask HFI.out⟩
                have HS5 : Aside0 (Settled f2 tw i) := ⟨by rw [hf2, HA1.out]; exact HS3.out.mask HFI.out⟩
                have HC5 : Aside0 (cnt f2 xs.length = cnt f xs.length) := ⟨by
                  have h1 := cnt_upd f1 i (some a1) xs.length hlt
                  have h2 := HC3.out
                  rw [HFI.out] at h1
                  simp only [Option.isSome_some, if_true] at h1
                  rw [hf2]; omega⟩
                have HAT : Aside0 (a1 &&& tw = a1) := ⟨by rw [HA1.out, Nat.and_assoc, Nat.and_self]⟩
                clear hf2 HM3 HG3 HBX3 HB3 HY3 HT3 HS3 HC3 HFI HA1
                go_loopg [77] xs.length (fun k v77 wn => ∃ (j : Nat), v77 = .int .i64 j ∧ j ≤ xs.length ∧ Aside0 (k + j = xs.length) ∧ Aside0 (∀ k', k' < j → ∀ t, f2 k' = some t → k' ≠ i → ¬ (a1 &&& t = a1)) ∧ Aside0 (w5 = wn))
                case atStart => exact ⟨0, rfl, by omega, ⟨by omega⟩, ⟨fun k' h => absurd h (Nat.not_lt_zero _)⟩, ⟨rfl⟩⟩
                case round =>
                  obtain ⟨j, rfl, hj, hkj, hno, ⟨rfl⟩⟩ := hrel
                  by_cases hjl : j < xs.length
                  · cases hfj : f2 j with
                    | none =>
                      have HFJ := Aside0.mk hfj
                      clear hfj
                      have hno2 : Aside0 (∀ k', k' < j + 1 → ∀ t, f2 k' = some t → k' ≠ i → ¬ (a1 &&& t = a1)) := ⟨fun k' hk' t ht hne => by
                        by_cases e : k' = j
                        · subst e; rw [HFJ.out] at ht; cases ht
                        · exact hno.out k' (by omega) t ht hne⟩
                      go_wp2_with (at_lookup; refine map_none HM5.out hl rfl _ _ rfl rfl hjl rfl HFJ.out ?_)
                      go_roundg (gk - 1)
                      case measure => have := hkj.out; omega
                      case rel => exact ⟨j + 1, by go_num, by omega, ⟨by have := hkj.out; omega⟩, hno2, ⟨rfl⟩⟩
                    | some t =>
                      have HFJ := Aside0.mk hfj
                      have htl2 : t < 18446744073709551616 := HM5.out.lim j t hfj
                      clear hfj
                      by_cases hji : j = i
                      · subst hji
                        have tj : ((j : Int) != (j : Int)) = false := by simp
                        have hno2 : Aside0 (∀ k', k' < j + 1 → ∀ t, f2 k' = some t → k' ≠ j → ¬ (a1 &&& t = a1)) := ⟨fun k' hk' t ht hne => hno.out k' (by omega) t ht hne⟩
                        go_wp2_with (at_lookup; refine map_some HM5.out hl rfl _ _ rfl rfl hjl rfl HFJ.out ?_)
                        go_roundg (gk - 1)
                        case measure => have := hkj.out; omega
                        case rel => exact ⟨j + 1, by go_num, by omega, ⟨by have := hkj.out; omega⟩, hno2, ⟨rfl⟩⟩
                      · have tj : ((j : Int) != (i : Int)) = true := by rw [bne_iff_ne]; omega
                        have HJI := Aside0.mk hji
                        clear hji
                        obtain ⟨d, hd⟩ : ∃ d, d = diffB a1 t := ⟨_, rfl⟩
                        have hbd : bits .andNot .u64 (a1 : Int) (t : Int) = (d : Int) := by rw [hd]; exact u64_andNot_nat _ _ ha1l htl2
                        have HD := Aside0.mk hd
                        clear hd
                        by_cases hd0 : d = 0
                        · have td : ((d : Int) == 0) = true := by subst hd0; rfl
                          have HSUB : Aside0 (a1 &&& t = a1) := ⟨(diff_sub ha1l htl2).1 (by rw [← HD.out]; exact hd0)⟩
                          clear hd0
                          have HPL : Aside0 (i < (icells p).size) := ⟨by simp [icells]; have := HP.out; omega⟩
                          have hcg : w5.cell? ⟨g, i, none⟩ = some ((icells p)[i]'HPL.out) := (blk_cell HG5.out i).trans (by rw [Array.getElem?_eq_getElem HPL.out])
                          have hfg : w5.frozen? ⟨g, i, none⟩ = false := blk_frozen HG5.out i
                          go_wp2_with (first | (at_lookup; refine map_some HM5.out hl rfl _ _ rfl rfl hjl rfl HFJ.out ?_) | (at_delete; refine map_delete (w := w5.setCell ⟨g, i, none⟩ (.int .i64 j)) (HM5.out.grown (set_grown w5 g i _) (fun e => HBG.out.1 (by injection e with e))) hl rfl _ _ rfl rfl hlt rfl ?_; intro w6 hm6 hg6; have HM6 := Aside0.mk hm6; have HG6 := Aside0.mk hg6; clear hm6 hg6))
                          go_step3
                          simp only [Exit.then, Exit.inBlock]
                          rw [← HQ.out]
                          have HGS := set_grown w5 g i (.int .i64 j)
                          refine ⟨rfl, ⟨b, g, _, p.set i (j : Int), frame12_of, HM6, ⟨blk_grown ((blk_set HG5.out i (.int .i64 j)).trans (by rw [icells_set])) HG6.out (fun e => HBG.out.1 (by injection e with e; exact e.symm))⟩, ⟨by rw [List.length_set]; exact HP.out⟩, ⟨Gyo.sub f2 p i j a1 t HY5.out HF2.out HFJ.out HJI.out HSUB.out⟩, ⟨blk_grown (blk_grown HBX5.out HGS (fun e => HNE.out (by injection e))) HG6.out (fun e => HBG.out.2 (by injection e with e; exact e.symm))⟩, ⟨(HB5.out.grown HGS HB5.out.size (fun k hk => by injection hk with hk; rw [← hk]; exact HGW.out)).grown HG6.out (Nat.le_trans HB5.out.size HGS.size) (fun k hk => by injection hk with hk; rw [← hk]; exact HBW.out)⟩, HBW, HGW⟩, ?_⟩
                          show entriesAt w6 b < entriesAt w' b
                          rw [HENT.out, HM6.out.entries]
                          have h1 := cnt_upd f2 i none xs.length hlt
                          have h2 := HC5.out
                          rw [HF2.out] at h1
                          simp only [Option.isSome_some, Option.isSome_none, if_true] at h1
                          simp only [Bool.false_eq_true, if_false] at h1
                          omega
                        · have td : ((d : Int) == 0) = false := by simpa using hd0
                          have HSUB : Aside0 (¬ (a1 &&& t = a1)) := ⟨fun e => hd0 (by rw [HD.out]; exact (diff_sub ha1l htl2).2 e)⟩
                          clear hd0
                          have hno2 : Aside0 (∀ k', k' < j + 1 → ∀ t, f2 k' = some t → k' ≠ i → ¬ (a1 &&& t = a1)) := ⟨fun k' hk' t' ht hne => by
                            by_cases e : k' = j
                            · subst e; rw [HFJ.out] at ht; cases ht; exact HSUB.out
                            · exact hno.out k' (by omega) t' ht hne⟩
                          go_wp2_with (at_lookup; refine map_some HM5.out hl rfl _ _ rfl rfl hjl rfl HFJ.out ?_)
                          go_roundg (gk - 1)
                          case measure => have := hkj.out; omega
                          case rel => exact ⟨j + 1, by go_num, by omega, ⟨by have := hkj.out; omega⟩, hno2, ⟨rfl⟩⟩
                  · have hje : j = xs.length := by omega
                    subst hje
                    go_wp2
                    go_roundg (ko - 1)
                    case measure => have := hk.out; omega
                    case rel => exact ⟨i + 1, f2, by go_num, by omega, ⟨by have := hk.out; omega⟩, HM5, HY5, HT5, ⟨HS5.out.next HF2.out H0.out HAT.out HM5.out.out hno.out⟩, HC5, HG5, HBX5, HB5⟩
          · have hie : i = xs.length := by omega
            subst hie
            go_wp2
            rw [← HQ.out]
            simp only [Exit.jump, Exit.inBlock, Exit.then]
            go_ret2
            exact ⟨b, g, f1, p, rfl, HM3.out, HG3.out, HP.out, HBW.out, HGW.out, HY3.out, ⟨tw, HT3.out, HS3.out.all HM3.out.out⟩, HB3.out⟩
      · intro i s c2 w5 hfi hiN hsl hvi hra5 hlt hgr5 hsz5 hen
        obtain ⟨a1, ha1⟩ : ∃ a1, a1 = o &&& s := ⟨_, rfl⟩
        obtain ⟨tw2, htw2⟩ : ∃ tw2, tw2 = tw ||| a1 := ⟨_, rfl⟩
        obtain ⟨o2, ho2⟩ : ∃ o2, o2 = o ||| s := ⟨_, rfl⟩
        have ha1l : a1 < 18446744073709551616 := ha1 ▸ and_lt_64 hol
        have hb1 : bits .and .u64 (o : Int) (s : Int) = (a1 : Int) := by rw [ha1]; exact u64_and_nat _ _ hol hsl
        have hb2 : bits .or .u64 (tw : Int) (a1 : Int) = (tw2 : Int) := by rw [htw2]; exact u64_or_nat _ _ htl ha1l
        have hb3 : bits .or .u64 (o : Int) (s : Int) = (o2 : Int) := by rw [ho2]; exact u64_or_nat _ _ hol hsl
        have HO2 : Aside0 (OnceOf f (fun j => vis j || decide (j = i)) o2) := ⟨ho2 ▸ HO.out.step hfi⟩
        have HT2 : Aside0 (TwiOf f (fun j => vis j || decide (j = i)) tw2) := ⟨by rw [htw2, ha1]; exact HTW.out.step HO.out hvi hfi⟩
        have ho2l : o2 < 18446744073709551616 := ho2 ▸ or_lt_64 hol hsl
        have htw2l : tw2 < 18446744073709551616 := htw2 ▸ or_lt_64 htl ha1l
        have HLT : Aside0 (c2 < gk) := ⟨by rw [HK.out]; exact hlt⟩
        have HG5 := Aside0.mk (blk_grown HG2.out hgr5 (fun e => HNG.out.1 (by injection e)))
        have HBX5 := Aside0.mk (blk_grown HBX2.out hgr5 (fun e => HNG.out.2.1 (by injection e)))
        have HB5 := Aside0.mk (HB2.out.grown hgr5 HB2.out.size (fun k hk => by injection hk with hk; rw [← hk]; exact HNG.out.2.2.2))
        have HRA5 := Aside0.mk hra5
        clear hfi hvi hra5 hlt hgr5 hsz5 ha1 htw2 ho2
        go_wp2
        go_roundg c2
        case measure => exact HLT.out
        case rel => exact ⟨o2, tw2, c2, _, rfl, rfl, HRA5, ⟨rfl⟩, HO2, HT2, ho2l, htw2l, HG5, HBX5, HB5⟩
  · -- ahead of it
    intro hrest
    have HREST := Aside0.mk hrest
    clear hrest
    go_wp2_with (first
      | (with_reducible refine make_map xs.length ?hgd ?hop ?_; (case hop => with_reducible rfl); (case hgd => rfl); go_must (intro b w3 hb hm hbe hsz); go_must (have HBB := Aside0.mk hb); go_must (have HM := Aside0.mk hm); go_must (have HB3 := Aside0.mk (HB.out.trans (hbe.mono HB.out.size))); go_must (have HBX3 := Aside0.mk (blk_below HBX.out hbe)); go_must (have HSZ3 := Aside0.mk hsz); go_must (clear hb hm hbe hsz); go_must (have hcz0 : w3.cell? ⟨gb, 0, none⟩ = some (.int .i64 many) := (blk_cell HBX3.out 0).trans rfl); go_must (have hcz1 : w3.cell? ⟨gb, 1, none⟩ = some (.slice A xs.length c) := (blk_cell HBX3.out 1).trans rfl))
      | (go_at_call 32; refine (HSETS.out _ (Kd.C_below HR.out HB3.out)).mono ?_; rintro e w4 ⟨v, rfl, hv, hb4⟩; obtain ⟨Av, cv, hve, hcv, hvc⟩ := SetsAt.of_R (b := b) hv (by rw [HLEN.out]; exact hl) (by rw [HBB.out, HSZ3.out]; omega); rw [HLEN.out] at hve hcv; subst hve; have HS := Aside0.mk hvc; have HCV := Aside0.mk hcv; have HB4 := Aside0.mk (HB3.out.trans (hb4.mono HB3.out.size)); have HBX4 := Aside0.mk (blk_below HBX3.out hb4); have HM4 := Aside0.mk (HM.out.below hb4 HM.out.lt); clear hv hb4 hvc hcv))
    clear hcz0 hcz1
    have HBW : Aside0 (w.heap.size ≤ b) := ⟨by rw [HBB.out]; exact HB.out.size⟩
    clear HBB HM HB3 HBX3 HB HBX HSZ3
    go_loopg [22] xs.length (fun k v22 wr => ∃ (j : Nat), v22 = .int .i64 j ∧ j ≤ xs.length ∧ Aside0 (k + j = xs.length) ∧ Aside0 (MapAt wr b (firstOf (setsOf xs) j) xs.length) ∧ Aside0 (SetsAt wr b Av (setsOf xs)) ∧ Aside0 (wr.heap[gb]? = some (.cells #[.int .i64 many, .slice A xs.length c] 24 (0, 0))) ∧ Aside0 (Below w.heap.size w wr))
    case atStart => exact ⟨0, rfl, by omega, ⟨by omega⟩, ⟨by rw [firstOf_zero]; exact HM4.out⟩, HS, HBX4, HB4⟩
    case round =>
      clear HM4 HS HBX4 HB4
      obtain ⟨j, rfl, hj, hk, HM, HS, HBX, HB⟩ := hrel
      by_cases hlt : j < xs.length
      · obtain ⟨s, hs⟩ : ∃ s, (setsOf xs)[j]? = some s := ⟨_, List.getElem?_eq_getElem (by rw [HLEN.out]; exact hlt)⟩
        have hsl : s < 18446744073709551616 := HSM.out s (List.mem_of_getElem? hs)
        obtain ⟨ad, hA, _, _, hx⟩ := HS.out.cell j s hs
        have HSJ := Aside0.mk hs
        clear hs
        subst hA
        go_wp2_with (at_mapUpdate; refine map_update HM.out hl rfl _ _ _ rfl rfl hlt hsl rfl rfl ?_; intro w5 hm5 hg5; have HM5 := Aside0.mk hm5; have HG5 := Aside0.mk hg5; clear hm5 hg5)
        go_roundg (gk - 1)
        case measure => have := hk.out; omega
        case rel => exact ⟨j + 1, by go_num, by omega, ⟨by have := hk.out; omega⟩, ⟨by rw [← firstOf_succ _ _ _ HSJ.out]; exact HM5.out⟩, ⟨HS.out.kept HG5.out⟩, ⟨blk_grown HBX.out HG5.out (fun e => HM.out.ne_cells HBX.out (by injection e with e; exact e.symm))⟩, ⟨HB.out.grown HG5.out HB.out.size (fun k hk => by injection hk with hk; rw [← hk]; exact HBW.out)⟩⟩
      · have hje : j = xs.length := by omega
        subst hje
        have HM' : Aside0 (MapAt wr b (fun i => (setsOf xs)[i]?) xs.length) := ⟨by
          have := HM.out
          have e := firstOf_all (setsOf xs)
          rw [HLEN.out] at e
          rwa [e] at this⟩
        have HBXa := Aside0.mk (blk_alloc HBX.out (Obj.cells #[Value.int .i64 (-1)] 3))
        have hcz1 : wr.cell? ⟨gb, 1, none⟩ = some (.slice A xs.length c) := (blk_cell HBX.out 1).trans rfl
        have hcz2 : (wr.alloc (.cells #[.int .i64 (-1)] 3)).cell? ⟨gb, 1, none⟩ = some (.slice A xs.length c) := (blk_cell HBXa.out 1).trans rfl
        clear HM HBXa hk HS
        go_wp2_with (first | (go_at_call 58; refine (repeat_any xs.length hl _).mono ?_; rintro e w5 ⟨g, rfl, hg, hlt5, hb5⟩; have HG5 := Aside0.mk hg; have HGB := Aside0.mk (show w.heap.size ≤ g from Nat.le_trans HB.out.size (Nat.le_of_lt hlt5)); have HB5 := Aside0.mk hb5; have HM5 := Aside0.mk (HM'.out.below hb5 HM'.out.lt); have HBX5 := Aside0.mk (blk_below HBX.out hb5); have HBW5 := Aside0.mk (HB.out.trans (hb5.mono HB.out.size)); clear hg hlt5 hb5))
        clear hcz1 hcz2
        go_step3
        go_step
        go_step
        refine HREST.out _ _ ?_
        exact ⟨_, _, _, _, frame12_of, HM5, ⟨by have := HG5.out; rw [show icells (List.replicate xs.length (-1)) = ((List.replicate xs.length (Value.int .i64 (-1))).toArray) from by simp [icells]]; exact this⟩, ⟨by simp⟩, ⟨Gyo.start⟩, HBX5, HBW5, HBW, HGB⟩

end Go.Proofs.YtnnfhnehieoeaaaDoor.Hy
