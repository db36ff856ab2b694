/- Contracts of hyper.of and hyper.sets, in plain words. -/
import Derived.Test.YtnnfhnehieoeaaaDoorGA5
import Derived.Test.YtnnfhnehieoeaaaDoorGQ2
namespace Go.Proofs.YtnnfhnehieoeaaaDoor.Hy
open Go.RowKit Go.Shelf Go.Proofs.YtnnfhnehieoeaaaDoorW.PrintWords Go.Proofs.YtnnfhnehieoeaaaDoorW.PrintLast Go.Proofs.YtnnfhnehieoeaaaDoorW.PrintMore Go.Proofs.YtnnfhnehieoeaaaDoor.PHyperTells
set_option linter.unusedVariables false
set_option linter.unusedSimpArgs false

/-- the set of vertices -/
def setOf (xs : List Int) : Nat := xs.foldl (fun s v => s ||| 2 ^ v.toNat) 0

theorem setOf_snoc (xs : List Int) (v : Int) : setOf (xs ++ [v]) = setOf xs ||| 2 ^ v.toNat := by unfold setOf; rw [List.foldl_append]; rfl

theorem or_lt_64 {a b : Nat} (ha : a < 18446744073709551616) (hb : b < 18446744073709551616) : a ||| b < 18446744073709551616 := by
  have := Nat.or_lt_two_pow (x := a) (y := b) (n := 64) (by simpa using ha) (by simpa using hb)
  simpa using this

/-- are these numbers of bits? -/
def small (xs : List Int) : Prop := ∀ v, v ∈ xs → 0 ≤ v ∧ v < 64

theorem setOf_lt_aux (xs : List Int) (h : small xs) : ∀ s, s < 18446744073709551616 → xs.foldl (fun s v => s ||| 2 ^ v.toNat) s < 18446744073709551616 := by
  induction xs with
  | nil => intro s hs; exact hs
  | cons v l ih =>
    intro s hs
    have hv := h v (List.mem_cons_self)
    exact ih (fun u hu => h u (List.mem_cons_of_mem _ hu)) _ (or_lt_64 hs (pow_lt_64 (by omega)))
theorem setOf_lt (xs : List Int) (h : small xs) : setOf xs < 18446744073709551616 := setOf_lt_aux xs h 0 (by decide)

theorem shl_print (v : Int) (h0 : 0 ≤ v) (h : v < 64) : shl .u64 1 v = ((2 ^ v.toNat : Nat) : Int) := by
  unfold shl
  have := shl_one v.toNat (by omega)
  rwa [Int.toNat_of_nonneg h0] at this

theorem of_l0 (xs : List Int) (hs : small xs) (hl : (xs.length : Int) ≤ 1099511627776) (d : Nat) : ∀ (j k : Nat) (s : Nat), j + d = xs.length → d < k → s < 18446744073709551616 →
    hyper_of.l0 k (s : Int) xs (xs.length : Int) (j : Int) = some (((xs.drop j).foldl (fun s v => s ||| 2 ^ v.toNat) s : Nat) : Int) := by
  induction d with
  | zero =>
    intro j k s hj hk hlt
    obtain ⟨k, rfl⟩ : ∃ m, k = m + 1 := ⟨k - 1, by omega⟩
    simp only [hyper_of.l0]
    rw [if_neg (by omega), List.drop_of_length_le (by omega)]
    rfl
  | succ d ih =>
    intro j k s hj hk hlt
    obtain ⟨k, rfl⟩ : ∃ m, k = m + 1 := ⟨k - 1, by omega⟩
    have hjl : j < xs.length := by omega
    have hrd : rd xs (j : Int) = xs[j] := by simp [rd, List.getD_eq_getElem?_getD, List.getElem?_eq_getElem hjl]
    have hv := hs _ (List.getElem_mem hjl)
    simp only [hyper_of.l0]
    rw [if_pos (by omega), if_pos (by omega), if_pos (by omega), hrd, if_pos hv.1, shl_print _ hv.1 hv.2, u64_or_nat _ _ hlt (pow_lt_64 (by omega)),
      show wrap64 ((j : Int) + 1) = ((j + 1 : Nat) : Int) from by unfold wrap64; omega, ih (j + 1) k _ (by omega) (by omega) (or_lt_64 hlt (pow_lt_64 (by omega))), List.drop_eq_getElem_cons hjl]
    rfl

theorem of_f (xs : List Int) (hs : small xs) (hl : (xs.length : Int) ≤ 1099511627776) (k : Nat) (hk : xs.length < k) : hyper_of.f k xs = some ((setOf xs : Nat) : Int) := by
  have := of_l0 xs hs hl xs.length 0 k 0 (by omega) hk (by decide)
  simpa [hyper_of.f, setOf] using this

theorem of_any (A : Option Addr) (c : Nat) (xs : List Int) (w : World) (hr : KI.C w A xs.length xs) (hc0 : xs.length ≤ c) (hs : small xs) (hl : (xs.length : Int) ≤ 1099511627776) :
    Calls Tryd.prog 31 #[.slice A xs.length c] w fun e w' => e = .returned (.int .u64 (setOf xs : Nat)) ∧ Drawn0 w w' :=
  hyper_of.calls (xs.length + 1) A c xs _ w hr hc0 (of_f xs hs hl _ (by omega))

/-- the edges as sets -/
def setsOf (xs : List (List Int)) : List Nat := xs.map setOf
def asInts (l : List Nat) : List Int := l.map (fun n : Nat => (n : Int))

theorem sets_l0 (xs : List (List Int)) (hs : ∀ e, e ∈ xs → small e ∧ e.length ≤ 1000) (hl : xs.length ≤ 1000) (d : Nat) : ∀ (j k : Nat), j + d = xs.length → d + 1001 < k →
    hyper_sets.l0 k (asInts (setsOf (xs.take j))) xs (xs.length : Int) (j : Int) = some (asInts (setsOf xs)) := by
  induction d with
  | zero =>
    intro j k hj hk
    obtain ⟨k, rfl⟩ : ∃ m, k = m + 1 := ⟨k - 1, by omega⟩
    simp only [hyper_sets.l0]
    rw [if_neg (by omega), List.take_of_length_le (by omega)]
  | succ d ih =>
    intro j k hj hk
    obtain ⟨k, rfl⟩ : ∃ m, k = m + 1 := ⟨k - 1, by omega⟩
    have hjl : j < xs.length := by omega
    have hrd : rd_L1 xs (j : Int) = xs[j] := by simp [rd_L1, List.getD_eq_getElem?_getD, List.getElem?_eq_getElem hjl]
    have hv := hs _ (List.getElem_mem hjl)
    have hlen : (asInts (setsOf (xs.take j))).length = j := by simp [asInts, setsOf]; omega
    simp only [hyper_sets.l0]
    rw [if_pos (by omega), if_pos (by omega), if_pos (by omega), hrd, of_f _ hv.1 (by omega) k (by omega)]
    simp only [Option.bind_some]
    rw [if_pos (by omega), show wrap64 ((j : Int) + 1) = ((j + 1 : Nat) : Int) from by unfold wrap64; omega]
    have e : asInts (setsOf (xs.take j)) ++ [((setOf xs[j] : Nat) : Int)] = asInts (setsOf (xs.take (j + 1))) := by
      unfold asInts setsOf
      rw [List.take_succ_eq_append_getElem hjl, List.map_append, List.map_append]; rfl
    rw [e, ih (j + 1) k (by omega) (by omega)]

theorem sets_any (many : Int) (A : Option Addr) (c : Nat) (xs : List (List Int)) (w : World) (hr : KL.C w A xs.length xs) (hc0 : xs.length ≤ c) (hs : ∀ e, e ∈ xs → small e ∧ e.length ≤ 1000) (hl : xs.length ≤ 1000) :
    Calls Tryd.prog 32 #[.agg #[.int .i64 many, .slice A xs.length c]] w fun e w' => ∃ v, e = .returned v ∧ (Kd.int .u64).R 53 w' w.heap.size anyK v (asInts (setsOf xs)) ∧ Below w.heap.size w w' :=
  hyper_sets.calls 3000 many A c xs _ w hr hc0 (by
    have := sets_l0 xs hs hl xs.length 0 3000 (by omega) (by omega)
    simpa [hyper_sets.f, asInts, setsOf] using this)

end Go.Proofs.YtnnfhnehieoeaaaDoor.Hy

/- Contract of hyper.Parts. -/
namespace Go.Proofs.YtnnfhnehieoeaaaDoor.Hy
open Go.RowKit Go.Shelf Go.Proofs.YtnnfhnehieoeaaaDoorW.PrintWords Go.Proofs.YtnnfhnehieoeaaaDoorW.PrintLast Go.Proofs.YtnnfhnehieoeaaaDoorW.PrintMore Go.Proofs.YtnnfhnehieoeaaaDoor.PHyperTells
set_option linter.unusedVariables false
set_option linter.unusedSimpArgs false

/-- does a set meet a part, and is it not within it? -/
def hits (p s : Nat) : Bool := (s &&& p != 0) && (diffB s p != 0)
/-- a part grows as long as it is hit -/
inductive Grow (S : List Nat) : Nat → Nat → Prop
  | done (p : Nat) (h : ∀ s, s ∈ S → hits p s = false) : Grow S p p
  | step (p s q : Nat) (hs : s ∈ S) (hh : hits p s = true) (r : Grow S (p ||| s) q) : Grow S p q
/-- the parts of the first vertices, and which vertices they have -/
inductive PartsTo (S : List Nat) : Nat → List (List Int) → Nat → Prop
  | zero : PartsTo S 0 [] 0
  | skip (j : Nat) (out : List (List Int)) (met : Nat) (h : PartsTo S j out met) (hm : met &&& 2 ^ j ≠ 0) : PartsTo S (j + 1) out met
  | add (j : Nat) (out : List (List Int)) (met q : Nat) (h : PartsTo S j out met) (hm : met &&& 2 ^ j = 0) (hq : Grow S (2 ^ j) q) : PartsTo S (j + 1) (out ++ [bitsL q]) (met ||| q)

theorem PartsTo.length {S : List Nat} {j met : Nat} {out : List (List Int)} (h : PartsTo S j out met) : out.length ≤ j := by
  induction h with
  | zero => exact Nat.le_refl _
  | skip j out met h hm ih => omega
  | add j out met q h hm hq ih => rw [List.length_append, List.length_singleton]; omega

/-- rows that are not too long -/
def tame (xs : List (List Int)) : Prop := xs.length ≤ 1000 ∧ ∀ e, e ∈ xs → e.length ≤ 1000
theorem tame.short {xs : List (List Int)} (h : tame xs) : short xs := ⟨by have := h.1; omega, fun i => by
  unfold rdL
  rw [List.getD_eq_getElem?_getD]
  rcases Nat.lt_or_ge i xs.length with hi | hi
  · rw [List.getElem?_eq_getElem hi]; have := h.2 _ (List.getElem_mem hi); simp; omega
  · rw [List.getElem?_eq_none hi]; simp⟩

theorem C_one (w : World) (x : Int) : KI.C (w.alloc (.cells #[.int .i64 x] 3)) (some ⟨w.heap.size, 0, none⟩) [x].length [x] := by
  refine ⟨rfl, by simp, fun _ => ⟨_, rfl, fun j p hj => ?_⟩⟩
  have hj0 : j = 0 := by
    have := (List.getElem?_eq_some_iff.1 hj).1
    simp at this; exact this
  subst hj0
  have hp : x = p := by simpa using hj
  subst hp
  refine ⟨[.int .i64 x], rfl, rfl, fun i u hu => ?_⟩
  have hi0 : i = 0 := by
    have := (List.getElem?_eq_some_iff.1 hu).1
    simp at this; exact this
  subst hi0
  have hu' : Value.int .i64 x = u := by simpa using hu
  subst hu'
  rw [Addr.add_lit]
  exact World.cell?_alloc_new _ _ _ _

theorem of_one (x : Nat) (hx : x < 64) (pv : Nat) (hp : pv = 2 ^ x) (W : World) :
    Calls Tryd.prog 31 #[.slice (some ⟨W.heap.size, 0, none⟩) 1 1] (W.alloc (.cells #[.int .i64 x] 3)) fun e w' => e = .returned (.int .u64 pv) ∧ Below W.heap.size W w' := by
  have hs : small [(x : Int)] := fun v hv => by rw [List.mem_singleton.1 hv]; omega
  have h := of_any _ 1 [(x : Int)] (W.alloc (.cells #[.int .i64 x] 3)) (C_one W x) (Nat.le_refl _) hs (by simp)
  have e : setOf [(x : Int)] = pv := by rw [hp]; simp [setOf]
  rw [e] at h
  exact h.mono fun e w' ⟨h1, h2⟩ => ⟨h1, (((Below.refl _ W).alloc (Nat.le_refl _) _)).trans (h2.below.mono (by simp))⟩

/-- the vertices of what may be are small -/
theorem right_small {many : Int} {xs : List (List Int)} (h : rightB many xs = true) : ∀ e, e ∈ xs → small e := by
  intro e he v hv
  unfold rightB at h
  rw [Bool.and_eq_true] at h
  obtain ⟨i, hi, rfl⟩ := List.mem_iff_getElem.1 he
  have h1 := (allB_iff _ _).1 h.2 i hi
  have hrd : rdL xs i = xs[i] := by simp [rdL, List.getD_eq_getElem?_getD, List.getElem?_eq_getElem hi]
  simp only [hrd] at h1
  unfold edgeB at h1
  rw [Bool.and_eq_true] at h1
  obtain ⟨j, hj, rfl⟩ := List.mem_iff_getElem.1 hv
  have h2 := (allB_iff _ _).1 h1.1 j hj
  have hrd2 : rd xs[i] (j : Int) = xs[i][j] := by simp [rd, List.getD_eq_getElem?_getD, List.getElem?_eq_getElem hj]
  simp only [hrd2, vtx, Bool.and_eq_true, decide_eq_true_eq] at h2
  have h3 := h.1
  simp only [sizesB, Bool.and_eq_true, decide_eq_true_eq] at h3
  omega

section
variable {ops : Array Oper} {o : Oper} {a : Act} {Q : Exit → Act → World → Prop} {rest : List Oper}
/-- 'out = append(out, f(..))', and what lies in blocks of other types stays -/
theorem app_row2 {w0 W w1 : World} {base : Nat} (s x : Operand) {u v : Value} {ys : List (List Int)} {row : List Int} (hgd : o.guard = none)
    (ho : o.op = .call { callee := .builtin .append, args := #[s, x], argTypes := #[22, 22] }) (hs : a.eval s = u) (hx : a.eval x = .slice (some ⟨w1.heap.size, 0, none⟩) 1 1)
    (HO : KL.R 30 W base anyK u ys) (hv : KI.R 3 w1 W.heap.size anyK v row) (hb1 : Below W.heap.size W w1) (HB : Below base w0 W) (hbase : base ≤ W.heap.size) (hl : ys.length ≤ 1099511627776)
    (h : ∀ (v1 : Value) (w2 : World), KL.R 30 w2 base anyK v1 (ys ++ [row]) → Below base w0 w2 → (∀ (g t : Nat) (cells : Array Value), w1.heap[g]? = some (Obj.cells cells t (0, 0)) → t ≠ 30 → w2.heap[g]? = some (Obj.cells cells t (0, 0))) → wpList Tryd.prog ops Q rest (a.put o.dst v1) w2) :
    wpList Tryd.prog ops Q (o :: rest) a (w1.alloc (.cells #[v] 30)) := by
  obtain ⟨hM, hne⟩ := M_new_row hv HO
  have HO1 := Kd.R_below HO hb1
  refine Kd.R_append KL (w0 := w0) (W := w1) base hgd s x 22 30 (.slice none 0 0) 24 ho Tryd.underlying22 info30 rfl (by decide) (by decide) u ys row [v] anyK (fun k => W.heap.size ≤ k) hs hx
    (KL.M_lower hbase hM) hne (fun _ _ => trivial) HO1 (HB.trans (hb1.mono hbase)) (Nat.le_trans hbase hb1.size) (by omega) ?_
  intro v1 w2 h1 h2 h3 _
  exact h v1 w2 h1 h2 (fun g t cells hg ht => blk_grown hg h3 (Kd.R_ne HO1 hg (fun e => ht e.symm)))
end

theorem wp_scope_label {P : Program} {Q : Exit → Act → World → Prop} {a : Act} {w : World} {c rest : Code} (l : Nat) (J : Act → World → Prop) (μ : Act → World → Nat) (hf : findLabel c l = some (Code.skip.seq rest))
    (pass : ∀ a w, J a w → rest.wp P (Exit.jump l (fun a' w' => J a' w' ∧ μ a' w' < μ a w) Q) a w)
    (first : (∀ a w, J a w → rest.wp P (Exit.jump l J Q) a w) → c.wp P (Exit.jump l J Q) a w) : (Code.scope c).wp P Q a w :=
  wp_scope_jumps l J μ hf (first fun a w h => wp_mono (pass a w h) fun e a' w' q => by
    cases e with
    | goto l' => exact ⟨q.1, q.2.1⟩
    | _ => exact q) fun a w h => wp_seq (wp_skip (pass a w h))

/-- the vertices of a set, collected -/
theorem collect_new (p : Nat) (hp : p < 18446744073709551616) (W : World) (hT : Tab W) :
    Calls Tryd.prog 33 #[.func (.func 56) #[] #[.pointer (some ⟨W.heap.size, 0, none⟩)]] (W.alloc (.cells #[.int .u64 p] 53)) fun e w' => ∃ v, e = .returned v ∧ KI.R 3 w' W.heap.size anyK v (bitsL p) ∧ Below W.heap.size W w' := by
  have hb : Below W.heap.size W (W.alloc (.cells #[.int .u64 p] 53)) := (Below.refl _ W).alloc (Nat.le_refl _) _
  refine (collect_any W.heap.size p hp _ (World.alloc_heap_new W _) (by simp) (hT.below hT.lt hb) hT.lt).mono ?_
  rintro e w' ⟨v, he, hv, hb1⟩
  exact ⟨v, he, hv, hb.trans hb1⟩

theorem grow_lt (p s : Nat) (hs : s < 18446744073709551616) (h : hits p s = true) : p < p ||| s := by
  refine Nat.lt_of_le_of_ne Nat.left_le_or (fun e => ?_)
  unfold hits at h
  rw [Bool.and_eq_true] at h
  have h2 := h.2
  have : diffB s p = 0 := by
    apply Nat.eq_of_testBit_eq
    intro i
    rw [Nat.zero_testBit]
    unfold diffB
    rw [Nat.testBit_and]
    by_cases hp : p < 18446744073709551616
    · rw [testBit_comp p i hp]
      have := congrArg (fun n => n.testBit i) e
      simp only [Nat.testBit_or] at this
      cases h3 : s.testBit i
      · rfl
      · rw [h3] at this; simp at this; rw [this]; simp
    · have : 18446744073709551615 - p = 0 := by omega
      rw [this]; simp
  rw [this] at h2
  simp at h2

theorem and_lt_64 {a b : Nat} (ha : a < 18446744073709551616) : a &&& b < 18446744073709551616 := Nat.lt_of_le_of_lt Nat.and_le_left ha

set_option maxHeartbeats 2000000 in
set_option maxRecDepth 100000 in
theorem parts_walk (many : Nat) (A : Option Addr) (c : Nat) (xs : List (List Int)) (w : World) (hr : KL.C w A xs.length xs) (hc0 : xs.length ≤ c) (ht : tame xs) (hT : Tab w) (hR : rightB many xs = true) (hmany : many ≤ 32) :
    Calls Tryd.prog 12 #[.agg #[.int .i64 many, .slice A xs.length c]] w fun e w' => ∃ v out met, e = .returned v ∧ KL.R 30 w' w.heap.size anyK v out ∧ PartsTo (setsOf xs) many out met ∧ Below w.heap.size w w' := by
  have HCK : Aside0 (∀ W, KL.C W A xs.length xs → Calls Tryd.prog 19 #[.agg #[.int .i64 many, .slice A xs.length c]] W fun e w' => e = .returned (.int .i64 0) ∧ Below W.heap.size W w') := ⟨fun W h => by
    have hck := check_any many A c xs W h hc0 ht.short
    have e0 : checkE many xs = 0 := by unfold checkE; rw [if_pos hR]
    rw [e0] at hck
    exact hck⟩
  have HSETS : Aside0 (∀ W, KL.C W A xs.length xs → Calls Tryd.prog 32 #[.agg #[.int .i64 many, .slice A xs.length c]] W fun e w' => ∃ v, e = .returned v ∧ (Kd.int .u64).R 53 w' W.heap.size anyK v (asInts (setsOf xs)) ∧ Below W.heap.size W w') := ⟨fun W h => sets_any many A c xs W h hc0 (fun e he => ⟨right_small hR e he, ht.2 e he⟩) ht.1⟩
  have HSM : Aside0 (∀ s, s ∈ setsOf xs → s < 18446744073709551616) := ⟨fun s hs => by
    unfold setsOf at hs
    obtain ⟨e, he, rfl⟩ := List.mem_map.1 hs
    exact setOf_lt e (right_small hR e he)⟩
  have hx1000 := ht.1
  have HR := Aside0.mk hr
  have HT := Aside0.mk hT
  clear hr hT ht hR
  go_enter Tryd.func12, Tryd.ntmps12
  go_wp2_with (first | ((with_reducible refine gate_dst (N := 1) rfl ?_); refine box_event ?hg (N := 1) ?hd (cs := #[.int .i64 many, .slice A xs.length c]) (t := 24) ?hr ?_; (case hd => rfl); (case hg => rfl); (case hr => first | (go_simp; done) | (go_simp; rfl)); intro gb hg w2 hbox hb; have HG := Aside0.mk (show w.heap.size ≤ gb by omega); have HBX := Aside0.mk hbox; have HB := Aside0.mk hb; have hcz0 : w2.cell? ⟨gb, 0, none⟩ = some (.int .i64 many) := (blk_cell HBX.out 0).trans rfl; have hcz1 : w2.cell? ⟨gb, 1, none⟩ = some (.slice A xs.length c) := (blk_cell HBX.out 1).trans rfl; clear hg hbox hb) | (go_at_call 19; refine (HCK.out _ (Kd.C_below HR.out HB.out)).mono ?_; rintro e w3 ⟨rfl, hb3⟩; have HB3 := Aside0.mk (HB.out.trans (hb3.mono HB.out.size)); have HBX3 := Aside0.mk (blk_below HBX.out hb3); have hdz0 : w3.cell? ⟨gb, 0, none⟩ = some (.int .i64 many) := (blk_cell HBX3.out 0).trans rfl; clear hb3))
  clear hcz0 hcz1 hdz0
  go_loopg [3, 4, 14] many (fun k v3 v4 v14 wr => ∃ (j met : Nat) (out : List (List Int)), v14 = .int .i64 j ∧ v4 = .int .u64 met ∧ j ≤ many ∧ Aside0 (k + j = many) ∧ Aside0 (met < 18446744073709551616) ∧ Aside0 (KL.R 30 wr w.heap.size anyK v3 out) ∧ Aside0 (PartsTo (setsOf xs) j out met) ∧ Aside0 (Below w.heap.size w wr) ∧ Aside0 (wr.heap[gb]? = some (.cells #[.int .i64 many, .slice A xs.length c] 24 (0, 0))))
  case atStart => exact ⟨0, 0, [], rfl, rfl, by omega, ⟨by omega⟩, ⟨by decide⟩, ⟨Kd.R_nil _ _ _ _ _⟩, ⟨PartsTo.zero⟩, HB3, HBX3⟩
  case round =>
    clear HB HBX HB3 HBX3 HCK
    obtain ⟨ko, rfl⟩ : ∃ ko, ko = gk := ⟨_, rfl⟩
    obtain ⟨j, met, out, rfl, rfl, hj, hk, hm, hO, hP, HB, HBX⟩ := hrel
    by_cases hlt : j < many
    · obtain ⟨pv, hpv⟩ : ∃ pv, pv = 2 ^ j := ⟨_, rfl⟩
      obtain ⟨m1, hm1⟩ : ∃ m1, m1 = met &&& pv := ⟨_, rfl⟩
      have hpl : pv < 18446744073709551616 := hpv ▸ pow_lt_64 (by omega)
      have hband : bits .and .u64 (met : Int) (pv : Int) = (m1 : Int) := by rw [hm1]; exact u64_and_nat _ _ hm.out hpl
      have HOF : Aside0 (∀ W, Calls Tryd.prog 31 #[.slice (some ⟨W.heap.size, 0, none⟩) 1 1] (W.alloc (.cells #[.int .i64 j] 3)) fun e w' => e = .returned (.int .u64 pv) ∧ Below W.heap.size W w') := ⟨fun W => of_one j (by omega) pv hpv W⟩
      have HPV := Aside0.mk hpv
      have HM1 := Aside0.mk hm1
      have HPL := Aside0.mk hpl
      clear hpv hm1 hpl
      go_wp2
      refine wp_scope_label 0 (fun a' w' => ∃ (p : Nat) (u8 u17 u18 u19 u20 u21 u22 u23 u24 u25 u26 u27 u28 u29 u30 u31 u32 u33 u34 u35 u36 u37 u38 u39 u40 u41 u42 u43 u44 u45 u46 u47 u48 u49 u50 u51 u52 u53 u54 u55 u56 : Value), a' = { tmps := #[.agg #[.int .i64 many, .slice A xs.length c], .pointer (some ⟨gb, 0, none⟩), .slice none 0 0, u3, .int .u64 met, .int .i64 j, .int .u64 p, undef, u8, .agg #[.int .i64 many, .slice A xs.length c], .int .i64 0, .bool false, .pointer (some ⟨gb, 0, none⟩), .int .i64 many, .int .i64 j, .bool true, .int .i64 j, u17, u18, u19, u20, u21, u22, u23, u24, u25, u26, u27, u28, u29, u30, u31, u32, u33, u34, u35, u36, u37, u38, u39, u40, u41, u42, u43, u44, u45, u46, u47, u48, u49, u50, u51, u52, u53, u54, u55, u56, undef], defers := [] } ∧ Aside0 (p < 18446744073709551616) ∧ Aside0 (∀ q, Grow (setsOf xs) p q → Grow (setsOf xs) pv q) ∧ Aside0 (Below wr.heap.size wr w') ∧ Aside0 (m1 = 0)) (fun a' _ => 18446744073709551616 - (intOf (a'.tmps.getD 6 undef)).toNat) rfl ?_ ?_
      · -- behind the label
        rintro a' w' ⟨p, u8, u17, u18, u19, u20, u21, u22, u23, u24, u25, u26, u27, u28, u29, u30, u31, u32, u33, u34, u35, u36, u37, u38, u39, u40, u41, u42, u43, u44, u45, u46, u47, u48, u49, u50, u51, u52, u53, u54, u55, u56, rfl, hp, hG, hB1, hM0⟩
        go_hide hQJ
        have HQ := Aside0.mk hQJ
        clear hQJ
        have HRC := Kd.C_below (Kd.C_below HR.out HB.out) hB1.out
        have HS1 := Aside0.mk (HSETS.out w' HRC)
        have HBX1 := Aside0.mk (blk_below HBX.out hB1.out)
        have hd0 : w'.cell? ⟨gb, 0, none⟩ = some (.int .i64 many) := (blk_cell HBX1.out 0).trans rfl
        have hd1 : w'.cell? ⟨gb, 1, none⟩ = some (.slice A xs.length c) := (blk_cell HBX1.out 1).trans rfl
        clear HRC
        go_wp2_with (first | (go_at_call 32; refine (HS1.out).mono ?_; rintro e w4 ⟨v, rfl, hv, hb4⟩; obtain ⟨Av, cv, hve, hcv, hvc⟩ := Kd.R_reads hv; rw [show (asInts (setsOf xs)).length = xs.length from by simp [asInts, setsOf]] at hve hcv; subst hve; have HVC := Aside0.mk hvc; have HCV := Aside0.mk hcv; have HB4 := Aside0.mk (hB1.out.trans (hb4.mono hB1.out.size)); clear hv hvc hcv hb4))
        go_loopg [6, 29] xs.length (fun k v6 v29 wl => ∃ (i : Nat), v29 = .int .i64 i ∧ v6 = .int .u64 p ∧ i ≤ xs.length ∧ Aside0 (k + i = xs.length) ∧ Aside0 (∀ i', i' < i → ∀ s, (setsOf xs)[i']? = some s → hits p s = false) ∧ Aside0 (w4 = wl))
        case atStart => exact ⟨0, (by simp), rfl, by omega, ⟨by omega⟩, ⟨fun i' h => absurd h (Nat.not_lt_zero _)⟩, ⟨rfl⟩⟩
        case round =>
          obtain ⟨i, rfl, rfl, hi, hki, hno, ⟨rfl⟩⟩ := hrel
          by_cases hil : i < xs.length
          · obtain ⟨s, hs⟩ : ∃ s, (setsOf xs)[i]? = some s := ⟨_, List.getElem?_eq_getElem (by simpa [setsOf] using hil)⟩
            have hsl : s < 18446744073709551616 := HSM.out s (List.mem_of_getElem? hs)
            obtain ⟨ad, hA, hx⟩ := Kd.at_int HVC.out i (by omega) (by simp [asInts, setsOf]; omega)
            subst hA
            have hrd : rd (asInts (setsOf xs)) (i : Int) = (s : Int) := by simp [rd, asInts, List.getD_eq_getElem?_getD, hs]
            rw [hrd] at hx
            simp only [Int.toNat_natCast] at hx
            obtain ⟨a1, ha1⟩ : ∃ a1, a1 = s &&& p := ⟨_, rfl⟩
            obtain ⟨a2, ha2⟩ : ∃ a2, a2 = diffB s p := ⟨_, rfl⟩
            obtain ⟨p2, hp2⟩ : ∃ p2, p2 = p ||| s := ⟨_, rfl⟩
            have hb1 : bits .and .u64 (s : Int) (p : Int) = (a1 : Int) := by rw [ha1]; exact u64_and_nat _ _ hsl hp.out
            have hb2 : bits .andNot .u64 (s : Int) (p : Int) = (a2 : Int) := by rw [ha2]; exact u64_andNot_nat _ _ hsl hp.out
            have hb3 : bits .or .u64 (p : Int) (s : Int) = (p2 : Int) := by rw [hp2]; exact u64_or_nat _ _ hp.out hsl
            have hstep : Aside0 (hits p s = false → ∀ i', i' < i + 1 → ∀ s, (setsOf xs)[i']? = some s → hits p s = false) := ⟨fun hh i' hi' s' hs' => by
              rcases Nat.lt_or_ge i' i with h | h
              · exact hno.out i' h s' hs'
              · have e : i' = i := by omega
                subst e; rw [hs] at hs'; cases hs'; exact hh⟩
            have HSI := Aside0.mk hs
            have HA1 := Aside0.mk ha1
            have HA2 := Aside0.mk ha2
            have HP2 := Aside0.mk hp2
            clear hs hrd ha1 ha2 hp2
            by_cases g1 : a1 = 0
            · have t1 : ((a1 : Int) != 0) = false := by subst g1; rfl
              have HG1 := Aside0.mk g1
              clear g1
              go_wp2
              go_roundg (gk - 1)
              case measure => have := hki.out; omega
              case rel => exact ⟨i + 1, by go_num, rfl, by omega, ⟨by have := hki.out; omega⟩, ⟨hstep.out (by unfold hits; rw [← HA1.out, HG1.out]; rfl)⟩, ⟨rfl⟩⟩
            · have t1 : ((a1 : Int) != 0) = true := by simpa using g1
              have HG1 := Aside0.mk g1
              clear g1
              by_cases g2 : a2 = 0
              · have t2 : ((a2 : Int) != 0) = false := by subst g2; rfl
                have HG2 := Aside0.mk g2
                clear g2
                go_wp2
                go_roundg (gk - 1)
                case measure => have := hki.out; omega
                case rel => exact ⟨i + 1, by go_num, rfl, by omega, ⟨by have := hki.out; omega⟩, ⟨hstep.out (by unfold hits; rw [← HA2.out, HG2.out]; simp)⟩, ⟨rfl⟩⟩
              · have t2 : ((a2 : Int) != 0) = true := by simpa using g2
                have HG2 := Aside0.mk g2
                clear g2
                go_wp2
                go_step3
                simp only [Exit.then, Exit.inBlock]
                rw [← HQ.out]
                have hhit : hits p s = true := by unfold hits; rw [← HA1.out, ← HA2.out]; simpa using ⟨HG1.out, HG2.out⟩
                refine ⟨rfl, ⟨p2, _, _, _, _, _, _, _, _, _, _, _, _, _, _, _, _, _, _, _, _, _, _, _, _, _, _, _, _, _, _, _, _, _, _, _, _, _, _, _, _, _, rfl, ⟨HP2.out ▸ or_lt_64 hp.out hsl⟩, ⟨fun q hq => hG.out q (Grow.step p s q (List.mem_of_getElem? HSI.out) hhit (HP2.out ▸ hq))⟩, HB4, hM0⟩, ?_⟩
                have hgt := grow_lt p s hsl hhit
                have h2 : p2 < 18446744073709551616 := HP2.out ▸ or_lt_64 hp.out hsl
                rw [← HP2.out] at hgt
                simp [intOf]
                omega
          · have hie : i = xs.length := by omega
            subst hie
            obtain ⟨mq, hmq⟩ : ∃ mq, mq = met ||| p := ⟨_, rfl⟩
            have hbor : bits .or .u64 (met : Int) (p : Int) = (mq : Int) := by rw [hmq]; exact u64_or_nat _ _ hm.out hp.out
            have HMQ := Aside0.mk hmq
            clear hmq
            have HT4 := Aside0.mk (HT.out.below HT.out.lt ((HB.out.trans (HB4.out.mono HB.out.size))))
            have HCOL := Aside0.mk (collect_new p hp.out w4 HT4.out)
            have HO4 := Aside0.mk (Kd.R_below hO.out HB4.out)
            have HB5 := Aside0.mk (HB.out.trans (HB4.out.mono HB.out.size))
            have HLN := Aside0.mk (show out.length ≤ 1099511627776 by have := hP.out.length; omega)
            go_wp2_with (first | (go_at_call 34; refine (each_any p _).mono ?_; rintro e we ⟨rfl, rfl⟩) | (go_at_call 33; refine (HCOL.out).mono ?_; rintro e w5 ⟨v5, rfl, hv5, hb5⟩; obtain ⟨A5, n5, c5, rfl⟩ := R_form hv5; have HV5 := Aside0.mk hv5; have HBB5 := Aside0.mk hb5; clear hv5 hb5) | (at_builtin; refine app_row2 (.tmp 50) (.tmp 54) rfl rfl rfl rfl HO4.out HV5.out HBB5.out HB5.out HB5.out.size HLN.out ?_; intro v6 w6 ho6 hb6 hk6; have HO6 := Aside0.mk ho6; have HB6 := Aside0.mk hb6; have HBX6 := Aside0.mk (hk6 gb 24 _ (blk_below (blk_below HBX.out HB4.out) HBB5.out) (by decide)); clear ho6 hb6 hk6))
            rw [← HQ.out]
            simp only [Exit.jump, Exit.inBlock, Exit.then]
            go_wp2
            go_roundg (ko - 1)
            case measure => have := hk.out; omega
            case rel => exact ⟨j + 1, mq, out ++ [bitsL p], by go_num, rfl, by omega, ⟨by have := hk.out; omega⟩, ⟨HMQ.out ▸ or_lt_64 hm.out hp.out⟩, HO6, ⟨HMQ.out ▸ PartsTo.add j out met p hP.out (by rw [← HPV.out, ← HM1.out]; exact hM0.out) (HPV.out ▸ hG.out p (Grow.done p (fun s hs => by obtain ⟨i', hi', rfl⟩ := List.mem_iff_getElem.1 hs; exact hno.out i' (by simpa [setsOf] using hi') _ (List.getElem?_eq_getElem hi'))))⟩, HB6, HBX6⟩
      · -- ahead of it
        intro hrest
        have HREST := Aside0.mk hrest
        clear hrest
        have HBA := Aside0.mk (Below.refl wr.heap.size wr)
        by_cases h0 : m1 = 0
        · have hne : ((m1 : Int) != 0) = false := by subst h0; rfl
          have H0 := Aside0.mk h0
          clear h0
          go_wp2_with (first | (go_at_call 31; refine (HOF.out _).mono ?_; rintro e wx ⟨rfl, hbx⟩; replace HBA := Aside0.mk (HBA.out.trans (hbx.mono HBA.out.size)); clear hbx))
          go_step3
          go_step
          go_step
          refine HREST.out _ _ ?_
          exact ⟨pv, _, _, _, _, _, _, _, _, _, _, _, _, _, _, _, _, _, _, _, _, _, _, _, _, _, _, _, _, _, _, _, _, _, _, _, _, _, _, _, _, _, rfl, HPL, ⟨fun q hq => hq⟩, HBA, H0⟩
        · have hne : ((m1 : Int) != 0) = true := by simpa using h0
          have H0 := Aside0.mk h0
          clear h0
          go_wp2_with (first | (go_at_call 31; refine (HOF.out _).mono ?_; rintro e wx ⟨rfl, hbx⟩; replace HBA := Aside0.mk (HBA.out.trans (hbx.mono HBA.out.size)); clear hbx))
          simp only [Exit.jump]
          go_wp2
          go_roundg (ko - 1)
          case measure => have := hk.out; omega
          case rel => exact ⟨j + 1, met, out, by go_num, rfl, by omega, ⟨by have := hk.out; omega⟩, hm, ⟨Kd.R_below hO.out HBA.out⟩, ⟨PartsTo.skip j out met hP.out (by rw [← HPV.out, ← HM1.out]; exact H0.out)⟩, ⟨HB.out.trans (HBA.out.mono HB.out.size)⟩, ⟨blk_below HBX.out HBA.out⟩⟩
    · have hje : j = many := by omega
      subst hje
      go_wp2
      go_ret
      exact ⟨_, out, met, rfl, hO.out, hP.out, HB.out⟩

end Go.Proofs.YtnnfhnehieoeaaaDoor.Hy
