/- slices.SortFunc over rows, by slices.Compare. -/
import Derived.Test.YtnnfhnehieoeaaaDoorGA10
import Derived.Test.YtnnfhnehieoeaaaDoorGL2
namespace Go.Proofs.YtnnfhnehieoeaaaDoor.Hy
open Go.RowKit Go.Shelf Go.Proofs.YtnnfhnehieoeaaaDoorW.PrintWords Go.Proofs.YtnnfhnehieoeaaaDoorW.PrintLast Go.Proofs.YtnnfhnehieoeaaaDoorW.PrintMore Go.Proofs.YtnnfhnehieoeaaaDoor.PHyperTells
set_option linter.unusedVariables false
set_option linter.unusedSimpArgs false

/-- slices.Compare's answer -/
def cmpL : List Int → List Int → Int
  | [], [] => 0
  | [], _ :: _ => -1
  | _ :: _, [] => 1
  | a :: l, b :: m => if a < b then -1 else if b < a then 1 else cmpL l m

theorem cmpL_self (l : List Int) : cmpL l l = 0 := by
  induction l with
  | nil => rfl
  | cons a l ih => simp [cmpL, ih]

theorem cmpL_eq : ∀ (l m : List Int), cmpL l m = 0 → l = m
  | [], [], _ => rfl
  | [], _ :: _, h => by simp [cmpL] at h
  | _ :: _, [], h => by simp [cmpL] at h
  | a :: l, b :: m, h => by
    unfold cmpL at h
    split at h
    · omega
    · split at h
      · omega
      · rw [cmpL_eq l m h, show a = b from by omega]

theorem cmpL_flip : ∀ (l m : List Int), (cmpL l m < 0 ↔ 0 < cmpL m l) ∧ (cmpL l m = 0 ↔ cmpL m l = 0)
  | [], [] => by simp [cmpL]
  | [], _ :: _ => by simp [cmpL]
  | _ :: _, [] => by simp [cmpL]
  | a :: l, b :: m => by
    have := cmpL_flip l m
    unfold cmpL
    rcases Int.lt_trichotomy a b with h | h | h
    · rw [if_pos h, if_neg (by omega), if_pos h]; omega
    · subst h; simp; exact this
    · rw [if_neg (by omega), if_pos h, if_pos h]; omega

theorem cmpL_trans : ∀ (l m n : List Int), cmpL l m < 0 → cmpL m n < 0 → cmpL l n < 0
  | [], [], _, h, _ => by simp [cmpL] at h
  | _ :: _, [], _, h, _ => by simp [cmpL] at h
  | _, _ :: _, [], _, h => by simp [cmpL] at h
  | [], _ :: _, _ :: _, _, _ => by simp [cmpL]
  | a :: l, b :: m, c :: n, h1, h2 => by
    have ih := cmpL_trans l m n
    unfold cmpL at h1 h2 ⊢
    split at h1
    · split at h2
      · rw [if_pos (by omega)]; omega
      · split at h2
        · omega
        · rw [if_pos (by omega)]; omega
    · split at h1
      · omega
      · split at h2
        · rw [if_pos (by omega)]; omega
        · split at h2
          · omega
          · rw [if_neg (by omega), if_neg (by omega)]; exact ih h1 h2

/-- l stands ahead of m -/
def ltL (l m : List Int) : Bool := decide (cmpL l m < 0)

theorem ltL_tri (l m : List Int) (h1 : ltL l m = false) (h2 : ltL m l = false) : l = m := by
  apply cmpL_eq
  have := cmpL_flip l m
  have a : ¬ cmpL l m < 0 := of_decide_eq_false h1
  have b : ¬ cmpL m l < 0 := of_decide_eq_false h2
  have c := cmpL_flip m l
  omega

theorem ltL_swo : Go.Sort.SWO ltL where
  irrefl l := by unfold ltL; rw [cmpL_self]; rfl
  trans l m n h1 h2 := decide_eq_true (cmpL_trans l m n (of_decide_eq_true h1) (of_decide_eq_true h2))
  ntrans l m n h1 h2 := by
    refine decide_eq_false fun h => ?_
    have h1 : ¬ cmpL l m < 0 := of_decide_eq_false h1
    have h2 : ¬ cmpL m n < 0 := of_decide_eq_false h2
    have a := cmpL_flip l m
    by_cases e : cmpL m l < 0
    · exact h2 (cmpL_trans m l n e h)
    · have b := cmpL_flip m l
      have e2 : l = m := cmpL_eq l m (by omega)
      subst e2; exact h2 h

theorem cmp_at (k : Nat) (x y : List Int) (hx : (x.length : Int) ≤ 1099511627776) (d : Nat) : ∀ (j k : Nat), j + d = x.length → j ≤ y.length → d < k → slices_Compare_int_int.l0 k x y x (x.length : Int) (j : Int) = some (cmpL (x.drop j) (y.drop j)) := by
  induction d with
  | zero =>
    intro j k hj hjy hk
    obtain ⟨k, rfl⟩ : ∃ m, k = m + 1 := ⟨k - 1, by omega⟩
    simp only [slices_Compare_int_int.l0]
    rw [if_neg (by omega), List.drop_of_length_le (show x.length ≤ j by omega)]
    by_cases h : x.length < y.length
    · rw [if_pos (by omega), List.drop_eq_getElem_cons (show j < y.length by omega)]; rfl
    · rw [if_neg (by omega), List.drop_of_length_le (show y.length ≤ j by omega)]; rfl
  | succ d ih =>
    intro j k hj hjy hk
    obtain ⟨k, rfl⟩ : ∃ m, k = m + 1 := ⟨k - 1, by omega⟩
    have hjx : j < x.length := by omega
    simp only [slices_Compare_int_int.l0]
    rw [if_pos (by omega), if_pos (by omega), if_pos (by omega), List.drop_eq_getElem_cons hjx]
    by_cases h : y.length ≤ j
    · rw [if_pos (by omega), List.drop_of_length_le h]; rfl
    · have hjl : j < y.length := by omega
      have r1 : rd x (j : Int) = x[j] := by simp [rd, List.getD_eq_getElem?_getD, List.getElem?_eq_getElem hjx]
      have r2 : rd y (j : Int) = y[j] := by simp [rd, List.getD_eq_getElem?_getD, List.getElem?_eq_getElem hjl]
      rw [if_neg (by omega), if_pos (by omega), r1, r2, List.drop_eq_getElem_cons hjl, show wrap64 ((j : Int) + 1) = ((j + 1 : Nat) : Int) from by unfold wrap64; omega]
      have e : cmp_Compare_int.f x[j] y[j] = some (if x[j] < y[j] then -1 else if x[j] > y[j] then 1 else 0) := by
        unfold cmp_Compare_int.f cmp_isNaN_int.f
        simp
        split
        · rfl
        · split <;> rfl
      rw [e]
      simp only [Option.bind_some]
      unfold cmpL
      rcases Int.lt_trichotomy x[j] y[j] with h1 | h1 | h1
      · have ht : (if x[j] < y[j] then (-1 : Int) else if x[j] > y[j] then 1 else 0) = -1 := by rw [if_pos h1]
        rw [ht, if_neg (by decide), if_pos h1]
      · have ht : (if x[j] < y[j] then (-1 : Int) else if x[j] > y[j] then 1 else 0) = 0 := by rw [if_neg (by omega), if_neg (by omega)]
        rw [ht, if_pos rfl, if_neg (by omega), if_neg (by omega)]
        exact ih (j + 1) k (by omega) (by omega) (by omega)
      · have ht : (if x[j] < y[j] then (-1 : Int) else if x[j] > y[j] then 1 else 0) = 1 := by rw [if_neg (by omega), if_pos h1]
        rw [ht, if_neg (by decide), if_neg (by omega), if_pos h1]

theorem compare_any (A0 : Option Addr) (c0 : Nat) (x : List Int) (A1 : Option Addr) (c1 : Nat) (y : List Int) (w : World) (hr0 : KI.C w A0 x.length x) (hc0 : x.length ≤ c0) (hr1 : KI.C w A1 y.length y) (hc1 : y.length ≤ c1) (hx : (x.length : Int) ≤ 1099511627776) :
    Calls Tryd.prog 37 #[.slice A0 x.length c0, .slice A1 y.length c1] w fun e w' => e = .returned (.int .i64 (cmpL x y)) ∧ Drawn0 w w' :=
  slices_Compare_int_int.calls (x.length + 1) A0 c0 x A1 c1 y _ w hr0 hc0 hr1 hc1 (by
    have := cmp_at 0 x y hx x.length 0 (x.length + 1) (by omega) (by omega) (by omega)
    simpa [slices_Compare_int_int.f] using this)

section
open Go.Sort
variable {α : Type} [Inhabited α] {enc : α → Value}
theorem heap_sortedE {w : World} {g n : Nat} {os : Array Obj} {cur : Array Value} {e : TypeId} {fr : Nat × Nat} (d : Array α) (hb : w.heap[g]? = some (.cells cur e fr)) :
    (sortWorld enc w g 0 n d os).heap[g]? = some (.cells (putCells enc 0 d cur) e fr) := by
  have hg : g < w.heap.size := (Array.getElem?_eq_some_iff.1 hb).1
  unfold sortWorld
  rw [heap_grow_old _ _ (by simpa using hg)]
  simp [putRow, mapBlock, Sort.ahead, Array.getElem?_modify, hb, onCells]
theorem grownBy_sortedE {w : World} {g n : Nat} {os : Array Obj} (d : Array α) : w.grownBy (sortWorld enc w g 0 n d os) (some g) := by
  unfold sortWorld
  refine ⟨rfl, rfl, rfl, by simp, fun k hk hne => ?_⟩
  rw [heap_grow_old _ _ (by simpa using hk)]
  have : g ≠ k := fun e => hne (by rw [e])
  simp [putRow, mapBlock, Sort.ahead, Array.getElem?_modify, this]
theorem take_putCellsE (cur : Array Value) (ts : List α) (h : ts.length ≤ cur.size) : (putCells enc 0 ts.toArray cur).toList.take ts.length = ts.map enc := by
  apply List.ext_getElem?
  intro j
  by_cases hj : j < ts.length
  · rw [List.getElem?_take_of_lt hj, Array.getElem?_toList]
    simp [putCells, hj, show j < cur.size by omega]
  · rw [List.getElem?_take_eq_none (by omega), List.getElem?_eq_none (by simp; omega)]
theorem holds_of_blockE {w : World} {g : Nat} {cur : Array Value} {e : TypeId} {ss : List α} (hb : w.heap[g]? = some (.cells cur e (0, 0))) (ht : cur.toList.take ss.length = ss.map enc) : Holds enc w g 0 ss.toArray := by
  intro j hj
  have hj' : j < ss.length := by simpa using hj
  refine ⟨?_, by simp [World.frozen?, hb]⟩
  have h1 : (cur.toList.take ss.length)[j]? = (ss.map enc)[j]? := by rw [ht]
  rw [List.getElem?_take_of_lt hj'] at h1
  simp only [World.cell?, hb, Nat.zero_add]
  simp only [Option.isSome_none, Bool.false_eq_true, if_false]
  rw [← Array.getElem?_toList, h1]
  simp [hj']
end

/-- a header and what its row reads as -/
structure Head (w : World) (base : Nat) (ok : Nat → Prop) where
  v : Value
  row : List Int
  own : KI.R 3 w base ok v row
  short : row.length ≤ 1000

theorem sort_rows (w : World) (base : Nat) (v : Value) (xs : List (List Int)) (h : KL.R 30 w base anyK v xs) (hs : ∀ r, r ∈ xs → r.length ≤ 1000) (hl : xs.length ≤ 1000) (hb0 : base ≤ w.heap.size) :
    Calls Tryd.prog 36 #[v, .func (.func 37) #[] #[]] w fun e w' => e = .returned (.tuple #[]) ∧ ∃ ys, ys.Perm xs ∧ ys.Pairwise (fun a b => ltL b a = false) ∧ KL.R 30 w' base anyK v ys ∧ Below base w w' := by
  obtain ⟨h0, inner, ho, hrep⟩ := h
  rcases ho.2 with ⟨rfl, hx0⟩ | ⟨g, cap, cur, rfl, hg, hb, h1, h2, h3, h4⟩
  · obtain rfl : xs = [] := List.eq_nil_of_length_eq_zero hx0
    exact (AnyF.slices_SortFunc_none Tryd.sortL0 none 0 _ w).mono fun e w' ⟨he, hw⟩ => ⟨he, [], .nil, .nil, hw ▸ Kd.R_nil _ _ _ _ _, hw ▸ Below.refl _ _⟩
  · have hgl : g < w.heap.size := (Array.getElem?_eq_some_iff.1 hb).1
    by_cases hx0 : xs = []
    · subst hx0
      exact (AnyF.slices_SortFunc_none Tryd.sortL0 (some ⟨g, 0, none⟩) cap _ w).mono fun e w' ⟨he, hw⟩ => ⟨he, [], .nil, .nil, hw ▸ ⟨h0, inner, ho, hrep⟩, hw ▸ Below.refl _ _⟩
    · obtain ⟨ok, hok⟩ : ∃ ok : Nat → Prop, ok = fun k => anyK k ∧ some k ≠ (Value.slice (some ⟨g, 0, none⟩) xs.length cap).ownBlock := ⟨_, rfl⟩
      rw [← hok] at hrep
      have hone : ∀ (j : Nat) (r : List Int), xs[j]? = some r → ∃ u, inner[j]? = some u ∧ KI.R 3 w base ok u r := fun j r hj => by
        obtain ⟨u, hu, hR⟩ := hrep.2 j r hj
        refine ⟨u, ?_, hR⟩
        have := congrArg (fun l => l[0]?) hu
        simpa [List.getElem?_take, List.getElem?_drop, show KL.sz = 1 from rfl] using this
      have hlen : inner.length = xs.length := by have := hrep.1; simpa [show KL.sz = 1 from rfl] using this
      -- the headers
      have hheads : ∃ hd : List (Head w base ok), hd.map Head.v = inner ∧ hd.map Head.row = xs := by
        clear hb h1 h2 h3 h4 ho hrep h0 hl hx0 hok
        induction xs generalizing inner with
        | nil => exact ⟨[], by cases inner; rfl; simp at hlen, rfl⟩
        | cons r xs ih =>
          cases inner with
          | nil => simp at hlen
          | cons u inner =>
            obtain ⟨hd, e1, e2⟩ := ih (fun q hq => hs q (List.mem_cons_of_mem _ hq)) inner (fun j q hj => by have := hone (j + 1) q (by simpa using hj); simpa using this) (by simpa using hlen)
            obtain ⟨u', hu', hR⟩ := hone 0 r rfl
            have : u = u' := by simpa using hu'
            subst this
            exact ⟨⟨u, r, hR, hs r List.mem_cons_self⟩ :: hd, by simp [e1], by simp [e2]⟩
      obtain ⟨hd, e1, e2⟩ := hheads
      have hdl : hd.length = xs.length := by rw [← e2]; simp
      have hne : hd ≠ [] := fun e => hx0 (by rw [← e2, e]; rfl)
      have : Inhabited (Head w base ok) := ⟨hd.head hne⟩
      have h1c : OneCell (fun p : Head w base ok => p.v) := fun p => by
        obtain ⟨A, c, e⟩ := Kd.R_slice p.own
        show p.v.oneCell' = true
        rw [e]; rfl
      have hswo : Go.Sort.SWO (ltOf (fun p q : Head w base ok => cmpL p.row q.row)) := ⟨fun x => ltL_swo.irrefl x.row, fun x y z => ltL_swo.trans x.row y.row z.row, fun x y z => ltL_swo.ntrans x.row y.row z.row⟩
      have hokg : ∀ k, ok k → k ≠ g := fun k hk e => by rw [hok] at hk; exact hk.2 (by simp [Value.ownBlock, e])
      have hmove : ∀ (m : Nat) (os : Array Obj) (dk : Array (Head w base ok)) (p : Head w base ok), KI.R 3 (sortWorld (fun p : Head w base ok => p.v) w g 0 m dk os) base ok p.v p.row := fun m os dk p =>
        Kd.R_grown p.own (grownBy_sortedE dk) (fun k hk e => hokg k hk (by injection e))
      have hcmp : CmpLays1 Tryd.prog 37 #[] (fun p : Head w base ok => p.v) (fun p q => cmpL p.row q.row) g 0 hd.toArray.size w := fun m os dk _ p q => by
        obtain ⟨A0, c0, e0, l0, r0⟩ := Kd.R_reads (hmove m os dk p)
        obtain ⟨A1, c1, e1', l1, r1⟩ := Kd.R_reads (hmove m os dk q)
        show Calls Tryd.prog 37 #[p.v, q.v] _ _
        rw [e0, e1']
        exact (compare_any A0 c0 p.row A1 c1 q.row _ r0 l0 r1 l1 (by have := p.short; omega)).mono fun e w' ⟨he, hd0⟩ => ⟨he, by
          obtain ⟨n, hn⟩ := hd0.out
          exact ⟨n, #[], by rw [hn, Go.Sort.grow_empty]⟩⟩
      have hH : Go.Sort.Holds (fun p : Head w base ok => p.v) w g 0 hd.toArray := holds_of_blockE hb (by
        rw [hdl]
        have := h4
        rw [show KL.sz = 1 from rfl, Nat.mul_one] at this
        rw [this, ← e1])
      have hcall := Any.slices_SortFunc Tryd.sortL (fun p : Head w base ok => p.v) h1c (fun p q => cmpL p.row q.row) hswo 37 #[] g 0 cap hd.toArray w (enters_of Tryd.func37 (by decide) rfl) hcmp hH hgl (by simp; omega)
      rw [show hd.toArray.size = xs.length from by simp [hdl]] at hcall
      refine hcall.mono ?_
      rintro e w' ⟨he, d', n, os, hperm, hsort, hw⟩
      refine ⟨he, d'.toList.map Head.row, ?_, ?_, ?_, ?_⟩
      · have hp := hperm.2.2
        have e3 : (d'.extract 0 xs.length).toList = d'.toList := by
          rw [Array.extract_eq_self_of_le (by have := hperm.1; simp [hdl] at this; omega)]
        have e4 : (hd.toArray.extract 0 xs.length).toList = hd := by
          rw [Array.extract_eq_self_of_le (by simp [hdl])]
        rw [e3, e4] at hp
        have := hp.map Head.row
        rwa [e2] at this
      · rw [List.pairwise_map, List.pairwise_iff_getElem]
        intro i j hi hj hij
        have hsz : d'.size = xs.length := by have := hperm.1; simp [hdl] at this; omega
        have := hsort i j (Nat.zero_le _) hij (by simp at hj; omega)
        simp only [Array.length_toList] at hi hj
        rw [getElem!_pos d' j hj, getElem!_pos d' i hi] at this
        exact this
      · have hsz : d'.toList.length = xs.length := by have := hperm.1; simp [hdl] at this; simp; omega
        refine ⟨fun _ _ => trivial, d'.toList.map Head.v, ⟨by simp [show KL.sz = 1 from rfl], .inr ⟨g, cap, _, by simp only [List.length_map, hsz], hg, by rw [hw]; exact heap_sortedE d' hb, by rw [List.length_map, hsz]; exact h1, h2, by rw [← h3]; simp [Go.Sort.putCells], ?_⟩⟩, ?_⟩
        · have := take_putCellsE (enc := fun p : Head w base ok => p.v) cur d'.toList (by rw [hsz]; have : KL.sz = 1 := rfl; rw [this] at h3; omega)
          rw [show KL.sz = 1 from rfl, Nat.mul_one, List.length_map]
          exact this
        · refine ⟨by simp [show KL.sz = 1 from rfl], fun j r hj => ?_⟩
          rw [List.getElem?_map] at hj
          obtain ⟨p, hp, rfl⟩ := Option.map_eq_some_iff.1 hj
          have hjl : j < d'.toList.length := (List.getElem?_eq_some_iff.1 hp).1
          refine ⟨p.v, ?_, ?_⟩
          · rw [show KL.sz = 1 from rfl, Nat.mul_one, List.drop_eq_getElem_cons (by simpa using hjl), show (1 : Nat) = 0 + 1 from rfl, List.take_succ_cons, List.take_zero]
            have := (List.getElem?_eq_some_iff.1 hp).2
            simp [this]
          · rw [hw]
            exact Kd.R_mono (hmove n os d' p) (fun k hk => by rw [hok] at hk; simpa [Value.ownBlock] using hk)
      · rw [hw]
        exact (Below.refl _ _).grown (grownBy_sortedE d') hb0 (fun k hk => by injection hk with hk; omega)

end Go.Proofs.YtnnfhnehieoeaaaDoor.Hy

/- Contract of hyper.Left. -/
namespace Go.Proofs.YtnnfhnehieoeaaaDoor.Hy
open Go.RowKit Go.Shelf Go.Proofs.YtnnfhnehieoeaaaDoorW.PrintWords Go.Proofs.YtnnfhnehieoeaaaDoorW.PrintLast Go.Proofs.YtnnfhnehieoeaaaDoorW.PrintMore Go.Proofs.YtnnfhnehieoeaaaDoor.PHyperTells
set_option linter.unusedVariables false
set_option linter.unusedSimpArgs false

/-- the row of an edge that is left -/
def rowAt (f : Fam) (i : Nat) : List Int := bitsL ((f i).getD 0)
/-- these are the edges that are left, in order -/
def LeftOf (f : Fam) (ys : List (List Int)) : Prop := ∃ order : List Nat, order.Nodup ∧ (∀ i, i ∈ order ↔ (f i).isSome = true) ∧ ys.Perm (order.map (rowAt f)) ∧ ys.Pairwise (fun a b => ltL b a = false)

section
variable {ops : Array Oper} {o : Oper} {a : Act} {Q : Exit → Act → World → Prop} {rest : List Oper}
/-- 'out = append(out, f(..))', and which block alone has turned -/
theorem app_row3 {w0 W w1 : World} {base : Nat} (s x : Operand) {u v : Value} {ys : List (List Int)} {row : List Int} (hgd : o.guard = none)
    (ho : o.op = .call { callee := .builtin .append, args := #[s, x], argTypes := #[22, 22] }) (hs : a.eval s = u) (hx : a.eval x = .slice (some ⟨w1.heap.size, 0, none⟩) 1 1)
    (HO : KL.R 30 W base anyK u ys) (hv : KI.R 3 w1 W.heap.size anyK v row) (hb1 : Below W.heap.size W w1) (HB : Below base w0 W) (hbase : base ≤ W.heap.size) (hl : ys.length ≤ 1099511627776)
    (h : ∀ (v1 : Value) (w2 : World), KL.R 30 w2 base anyK v1 (ys ++ [row]) → Below base w0 w2 → w1.grownBy w2 u.ownBlock → wpList Tryd.prog ops Q rest (a.put o.dst v1) w2) :
    wpList Tryd.prog ops Q (o :: rest) a (w1.alloc (.cells #[v] 30)) := by
  obtain ⟨hM, hne⟩ := M_new_row hv HO
  have HO1 := Kd.R_below HO hb1
  refine Kd.R_append KL (w0 := w0) (W := w1) base hgd s x 22 30 (.slice none 0 0) 24 ho Tryd.underlying22 info30 rfl (by decide) (by decide) u ys row [v] anyK (fun k => W.heap.size ≤ k) hs hx
    (KL.M_lower hbase hM) hne (fun _ _ => trivial) HO1 (HB.trans (hb1.mono hbase)) (Nat.le_trans hbase hb1.size) (by omega) ?_
  intro v1 w2 h1 h2 h3 _
  exact h v1 w2 h1 h2 h3
end

theorem R_ne_obj {W : World} {base : Nat} {u : Value} {ys : List (List Int)} (HO : KL.R 30 W base anyK u ys) {b : Nat} {o : Obj} (hb : W.heap[b]? = some o) (hne : ∀ cells, o ≠ .cells cells 30 (0, 0)) : some b ≠ u.ownBlock := fun e => by
  obtain ⟨inner, ho⟩ := Kd.R_own HO
  obtain ⟨cells, hc⟩ := own_typed ho b e.symm
  rw [hb] at hc
  injection hc with hc
  exact hne cells hc

theorem RangeAt.objs {w : World} {b r : Nat} {f : Fam} {N : Nat} {vis : Nat → Bool} {c : Nat} (h : RangeAt w b r f N vis c) : (∃ o, w.heap[b]? = some o ∧ ∀ cells, o ≠ .cells cells 30 (0, 0)) ∧ ∃ o, w.heap[r]? = some o ∧ ∀ cells, o ≠ .cells cells 30 (0, 0) := by
  obtain ⟨D, left, ⟨es, clock, since, seen, c0, h1, _, _, _, h2, _⟩, _⟩ := h
  exact ⟨⟨_, h1, fun _ e => by cases e⟩, ⟨_, h2, fun _ e => by cases e⟩⟩

theorem bitsL_len (s : Nat) : (bitsL s).length ≤ 64 := bitsL_length s

set_option maxHeartbeats 4000000 in
set_option maxRecDepth 100000 in
theorem left_right (many : Int) (A : Option Addr) (c : Nat) (xs : List (List Int)) (w : World) (hr : KL.C w A xs.length xs) (hc0 : xs.length ≤ c) (ht : tame xs) (hT : Tab w) (hR : rightB many xs = true) :
    Calls Tryd.prog 13 #[.agg #[.int .i64 many, .slice A xs.length c]] w fun e w' => ∃ v f p ys, e = .returned v ∧ KL.R 30 w' w.heap.size anyK v ys ∧ LeftOf f ys ∧ p.length = xs.length ∧ Gyo (fun i => (setsOf xs)[i]?) (List.replicate xs.length (-1)) f p ∧ Stuck f ∧ Below w.heap.size w w' := by
  have HCK : Aside0 (∀ W, KL.C W A xs.length xs → Calls Tryd.prog 19 #[.agg #[.int .i64 many, .slice A xs.length c]] W fun e w' => e = .returned (.int .i64 0) ∧ Below W.heap.size W w') := ⟨fun W h => by
    have hck := check_any many A c xs W h hc0 ht.short
    have e0 : checkE many xs = 0 := by unfold checkE; rw [if_pos hR]
    rw [e0] at hck
    exact hck⟩
  have HRED : Aside0 (∀ W, KL.C W A xs.length xs → _) := ⟨fun W h => reduced_any many A c xs W h hc0 (fun e he => ⟨right_small hR e he, ht.2 e he⟩) ht.1⟩
  have hx1000 := ht.1
  have HR := Aside0.mk hr
  have HT := Aside0.mk hT
  clear hr hT ht hR
  go_enter Tryd.func13, Tryd.ntmps13
  go_wp2_with (first
    | ((with_reducible refine gate_dst (N := 1) rfl ?_); refine box_event ?hg (N := 1) ?hd (cs := #[.int .i64 many, .slice A xs.length c]) (t := 24) ?hr ?_; (case hd => rfl); (case hg => rfl); (case hr => first | (go_simp; done) | (go_simp; rfl)); intro gb hg w2 hbox hb; have HG := Aside0.mk (show w.heap.size ≤ gb by omega); have HBX := Aside0.mk hbox; have HB := Aside0.mk hb; have hcz0 : w2.cell? ⟨gb, 0, none⟩ = some (.int .i64 many) := (blk_cell HBX.out 0).trans rfl; have hcz1 : w2.cell? ⟨gb, 1, none⟩ = some (.slice A xs.length c) := (blk_cell HBX.out 1).trans rfl; clear hg hbox hb)
    | (go_at_call 19; refine (HCK.out _ (Kd.C_below HR.out HB.out)).mono ?_; rintro e w3 ⟨rfl, hb3⟩; have HB3 := Aside0.mk (HB.out.trans (hb3.mono HB.out.size)); have HBX3 := Aside0.mk (blk_below HBX.out hb3); have hdz0 : w3.cell? ⟨gb, 0, none⟩ = some (.int .i64 many) := (blk_cell HBX3.out 0).trans rfl; have hdz1 : w3.cell? ⟨gb, 1, none⟩ = some (.slice A xs.length c) := (blk_cell HBX3.out 1).trans rfl; clear hb3)
    | (go_at_call 35; refine (HRED.out _ (Kd.C_below HR.out HB3.out)).mono ?_; rintro e w4 ⟨b, g, f, p, rfl, hm, -, hp, hb1, -, hy, hst, hb4⟩; have HM := Aside0.mk hm; have HP := Aside0.mk hp; have HBW := Aside0.mk (Nat.le_trans HB3.out.size hb1); have HY := Aside0.mk hy; have HST := Aside0.mk hst; have HB4 := Aside0.mk (HB3.out.trans (hb4.mono HB3.out.size)); clear hm hp hb1 hy hst hb4)
    | (at_range; refine map_range HM.out rfl _ rfl rfl ?_; intro w5 hra hgr hsz; have HRA := Aside0.mk hra; have HB5 := Aside0.mk (HB4.out.grown hgr HB4.out.size (fun k hk => by cases hk)); clear hra hgr hsz))
  go_frame
  have HRW := Aside0.mk HB4.out.size
  clear hcz0 hcz1 hdz0 hdz1 HB HBX HB3 HBX3 HCK HRED HM HB4
  go_loopg [5] (cnt f xs.length) (fun k v5 wr => ∃ (order : List Nat) (c1 : Nat) (vis : Nat → Bool), Aside0 (KL.R 30 wr w.heap.size anyK v5 (order.map (rowAt f))) ∧ Aside0 (RangeAt wr b w4.heap.size f xs.length vis c1) ∧ Aside0 (k = c1) ∧ Aside0 (order.Nodup) ∧ Aside0 (∀ i, i ∈ order ↔ vis i = true) ∧ Aside0 (order.length + c1 ≤ xs.length) ∧ Aside0 (Below w.heap.size w wr))
  case atStart => exact ⟨[], _, _, ⟨Kd.R_nil _ _ _ _ _⟩, HRA, ⟨rfl⟩, ⟨List.nodup_nil⟩, ⟨fun i => by simp⟩, ⟨by have := cnt_le f xs.length; simpa using this⟩, HB5⟩
  case round =>
    clear HRA HB5
    obtain ⟨order, c1, vis, HO, HRA, HK, HND, HVIS, HLN, HB⟩ := hrel
    go_wp2_with (at_next; refine map_next HRA.out rfl _ rfl rfl ?_ ?_)
    · intro hall
      have HALL : Aside0 (∀ i, i ∈ order ↔ (f i).isSome = true) := ⟨fun i => by
        rw [HVIS.out i]
        refine ⟨fun h => ?_, hall i⟩
        obtain ⟨D, left, h1, h2, h3, _⟩ := HRA.out
        exact h3 i h⟩
      have HSRT := Aside0.mk (sort_rows wr w.heap.size u5 (order.map (rowAt f)) HO.out (fun r hr => by
        obtain ⟨i, _, rfl⟩ := List.mem_map.1 hr
        have := bitsL_len ((f i).getD 0)
        unfold rowAt; omega) (by rw [List.length_map]; have := HLN.out; omega) HB.out.size)
      clear hall HRA HVIS
      go_wp2_with (go_at_call 36; refine HSRT.out.mono ?_; rintro e w6 ⟨rfl, ys, hperm, hpw, hys, hb6⟩; have HYS := Aside0.mk hys; have HB6 := Aside0.mk hb6; have HPE := Aside0.mk hperm; have HPW := Aside0.mk hpw; clear hys hb6 hperm hpw)
      go_ret
      exact ⟨_, f, p, ys, rfl, HYS.out, ⟨order, HND.out, HALL.out, HPE.out, HPW.out⟩, HP.out, HY.out, HST.out, HB.out.trans HB6.out⟩
    · intro i s c2 w5' hfi hiN hsl hvi hra5 hlt hgr5 hsz5 hen
      have HRA5 := Aside0.mk hra5
      have HT5 := Aside0.mk (HT.out.below HT.out.lt (HB.out.grown hgr5 HB.out.size (fun k hk => by injection hk with hk; rw [← hk]; exact HRW.out)))
      have HB5 := Aside0.mk (HB.out.grown hgr5 HB.out.size (fun k hk => by injection hk with hk; rw [← hk]; exact HRW.out))
      have HO5 : Aside0 (KL.R 30 w5' w.heap.size anyK u5 (order.map (rowAt f))) := ⟨by
        refine Kd.R_mono (Kd.R_grown (Kd.R_bound HO.out) hgr5 (fun k hk e => ?_)) (fun _ _ => trivial)
        obtain ⟨_, _, _, q, _, cells, hc⟩ := hk
        injection e with e
        subst e
        obtain ⟨D, left, ⟨es, clock, since, seen, c0, h1, _, _, _, h2, _⟩, _⟩ := HRA.out
        rw [h2] at hc
        cases hc⟩
      have HCOL := Aside0.mk (collect_new s hsl w5' HT5.out)
      have HROW : Aside0 (order.map (rowAt f) ++ [bitsL s] = (order ++ [i]).map (rowAt f)) := ⟨by simp [rowAt, hfi]⟩
      have HLEN : Aside0 ((order.map (rowAt f)).length ≤ 1099511627776) := ⟨by rw [List.length_map]; have := HLN.out; omega⟩
      have HLT : Aside0 (c2 < gk) := ⟨by rw [HK.out]; exact hlt⟩
      have HND2 : Aside0 ((order ++ [i]).Nodup) := ⟨by
        rw [List.nodup_append]
        refine ⟨HND.out, by simp, fun a ha b hb => ?_⟩
        rw [List.mem_singleton.1 hb]
        rintro rfl
        rw [(HVIS.out _).1 ha] at hvi; cases hvi⟩
      have HVIS2 : Aside0 (∀ j, j ∈ order ++ [i] ↔ (vis j || decide (j = i)) = true) := ⟨fun j => by
        rw [List.mem_append, List.mem_singleton, HVIS.out j, Bool.or_eq_true, decide_eq_true_eq]⟩
      have HLN2 : Aside0 ((order ++ [i]).length + c2 ≤ xs.length) := ⟨by rw [List.length_append]; have := HLN.out; simp; omega⟩
      clear hfi hvi hra5 hlt hgr5 hsz5
      go_wp2_with (first | (go_at_call 34; refine (each_any s _).mono ?_; rintro e we ⟨rfl, rfl⟩) | (go_at_call 33; refine (HCOL.out).mono ?_; rintro e w6 ⟨v5, rfl, hv5, hb5⟩; obtain ⟨A5, n5, c5, rfl⟩ := R_form hv5; have HV5 := Aside0.mk hv5; have HBB5 := Aside0.mk hb5; clear hv5 hb5) | (at_builtin; refine app_row3 (.tmp 22) (.tmp 26) rfl rfl rfl rfl HO5.out HV5.out HBB5.out HB5.out HB5.out.size HLEN.out ?_; intro v6 w7 ho6 hb6 hg6; have HO6 := Aside0.mk ho6; have HB6 := Aside0.mk hb6; have HG6 := Aside0.mk hg6; clear ho6 hb6 hg6))
      go_roundg c2
      case measure => exact HLT.out
      case rel =>
        refine ⟨order ++ [i], c2, _, ⟨HROW.out ▸ HO6.out⟩, ⟨?_⟩, ⟨rfl⟩, HND2, HVIS2, HLN2, HB6⟩
        have h6 := HRA5.out.kept (grown_of_below HBB5.out none) (by simp) (by simp)
        have hO6 := Kd.R_below HO5.out HBB5.out
        refine h6.kept HG6.out ?_ ?_
        · obtain ⟨o, h1, h2⟩ := h6.objs.1
          exact R_ne_obj hO6 h1 h2
        · obtain ⟨o, h1, h2⟩ := h6.objs.2
          exact R_ne_obj hO6 h1 h2

end Go.Proofs.YtnnfhnehieoeaaaDoor.Hy

/- Parts and Left where the hypergraph may not be; Acyclic; Tree. (written by gen15.py) -/
namespace Go.Proofs.YtnnfhnehieoeaaaDoor.Hy
open Go.RowKit Go.Shelf Go.Proofs.YtnnfhnehieoeaaaDoorW.PrintWords Go.Proofs.YtnnfhnehieoeaaaDoorW.PrintLast Go.Proofs.YtnnfhnehieoeaaaDoorW.PrintMore Go.Proofs.YtnnfhnehieoeaaaDoor.PHyperTells
set_option linter.unusedVariables false
set_option linter.unusedSimpArgs false

set_option maxHeartbeats 2000000 in
set_option maxRecDepth 100000 in
theorem parts_wrong (many : Int) (A : Option Addr) (c : Nat) (xs : List (List Int)) (w : World) (hr : KL.C w A xs.length xs) (hc0 : xs.length ≤ c) (ht : tame xs) (hR : rightB many xs = false) :
    Calls Tryd.prog 12 #[.agg #[.int .i64 many, .slice A xs.length c]] w fun e w' => e = .returned (.slice none 0 0) ∧ Below w.heap.size w w' := by
  have HCK : Aside0 (∀ W, KL.C W A xs.length xs → Calls Tryd.prog 19 #[.agg #[.int .i64 many, .slice A xs.length c]] W fun e w' => e = .returned (.int .i64 300) ∧ Below W.heap.size W w') := ⟨fun W h => by
    have hck := check_any many A c xs W h hc0 ht.short
    have e0 : checkE many xs = 300 := by unfold checkE; rw [if_neg (by rw [hR]; decide)]
    rw [e0] at hck
    exact hck⟩
  have HR := Aside0.mk hr
  clear hr ht hR
  go_enter Tryd.func12, Tryd.ntmps12
  go_wp2_with (first
    | ((with_reducible refine gate_dst (N := 1) rfl ?_); refine box_event ?hg (N := 1) ?hd (cs := #[.int .i64 many, .slice A xs.length c]) (t := 24) ?hr ?_; (case hd => rfl); (case hg => rfl); (case hr => first | (go_simp; done) | (go_simp; rfl)); intro gb hg w2 hbox hb; have HG := Aside0.mk (show w.heap.size ≤ gb by omega); have HBX := Aside0.mk hbox; have HB := Aside0.mk hb; have hcz0 : w2.cell? ⟨gb, 0, none⟩ = some (.int .i64 many) := (blk_cell HBX.out 0).trans rfl; have hcz1 : w2.cell? ⟨gb, 1, none⟩ = some (.slice A xs.length c) := (blk_cell HBX.out 1).trans rfl; clear hg hbox hb)
    | (go_at_call 19; refine (HCK.out _ (Kd.C_below HR.out HB.out)).mono ?_; rintro e w3 ⟨rfl, hb3⟩; have HB3 := Aside0.mk (HB.out.trans (hb3.mono HB.out.size)); have HBX3 := Aside0.mk (blk_below HBX.out hb3); have hdz0 : w3.cell? ⟨gb, 0, none⟩ = some (.int .i64 many) := (blk_cell HBX3.out 0).trans rfl; have hdz1 : w3.cell? ⟨gb, 1, none⟩ = some (.slice A xs.length c) := (blk_cell HBX3.out 1).trans rfl; clear hb3))
  go_ret
  exact ⟨rfl, HB3.out⟩

set_option maxHeartbeats 2000000 in
set_option maxRecDepth 100000 in
theorem left_wrong (many : Int) (A : Option Addr) (c : Nat) (xs : List (List Int)) (w : World) (hr : KL.C w A xs.length xs) (hc0 : xs.length ≤ c) (ht : tame xs) (hR : rightB many xs = false) :
    Calls Tryd.prog 13 #[.agg #[.int .i64 many, .slice A xs.length c]] w fun e w' => e = .returned (.slice none 0 0) ∧ Below w.heap.size w w' := by
  have HCK : Aside0 (∀ W, KL.C W A xs.length xs → Calls Tryd.prog 19 #[.agg #[.int .i64 many, .slice A xs.length c]] W fun e w' => e = .returned (.int .i64 300) ∧ Below W.heap.size W w') := ⟨fun W h => by
    have hck := check_any many A c xs W h hc0 ht.short
    have e0 : checkE many xs = 300 := by unfold checkE; rw [if_neg (by rw [hR]; decide)]
    rw [e0] at hck
    exact hck⟩
  have HR := Aside0.mk hr
  clear hr ht hR
  go_enter Tryd.func13, Tryd.ntmps13
  go_wp2_with (first
    | ((with_reducible refine gate_dst (N := 1) rfl ?_); refine box_event ?hg (N := 1) ?hd (cs := #[.int .i64 many, .slice A xs.length c]) (t := 24) ?hr ?_; (case hd => rfl); (case hg => rfl); (case hr => first | (go_simp; done) | (go_simp; rfl)); intro gb hg w2 hbox hb; have HG := Aside0.mk (show w.heap.size ≤ gb by omega); have HBX := Aside0.mk hbox; have HB := Aside0.mk hb; have hcz0 : w2.cell? ⟨gb, 0, none⟩ = some (.int .i64 many) := (blk_cell HBX.out 0).trans rfl; have hcz1 : w2.cell? ⟨gb, 1, none⟩ = some (.slice A xs.length c) := (blk_cell HBX.out 1).trans rfl; clear hg hbox hb)
    | (go_at_call 19; refine (HCK.out _ (Kd.C_below HR.out HB.out)).mono ?_; rintro e w3 ⟨rfl, hb3⟩; have HB3 := Aside0.mk (HB.out.trans (hb3.mono HB.out.size)); have HBX3 := Aside0.mk (blk_below HBX.out hb3); have hdz0 : w3.cell? ⟨gb, 0, none⟩ = some (.int .i64 many) := (blk_cell HBX3.out 0).trans rfl; have hdz1 : w3.cell? ⟨gb, 1, none⟩ = some (.slice A xs.length c) := (blk_cell HBX3.out 1).trans rfl; clear hb3))
  go_ret
  exact ⟨rfl, HB3.out⟩

/-- what Left says -/
def LeftSpec (many : Int) (xs ys : List (List Int)) : Prop :=
  (rightB many xs = false ∧ ys = []) ∨ (rightB many xs = true ∧ ∃ f p, p.length = xs.length ∧ Gyo (fun i => (setsOf xs)[i]?) (List.replicate xs.length (-1)) f p ∧ Stuck f ∧ LeftOf f ys)

theorem left_any (many : Int) (A : Option Addr) (c : Nat) (xs : List (List Int)) (w : World) (hr : KL.C w A xs.length xs) (hc0 : xs.length ≤ c) (ht : tame xs) (hT : Tab w) :
    Calls Tryd.prog 13 #[.agg #[.int .i64 many, .slice A xs.length c]] w fun e w' => ∃ v ys, e = .returned v ∧ KL.R 30 w' w.heap.size anyK v ys ∧ LeftSpec many xs ys ∧ Below w.heap.size w w' := by
  cases hR : rightB many xs with
  | false => exact (left_wrong many A c xs w hr hc0 ht hR).mono fun e w' ⟨h1, h2⟩ => ⟨_, [], h1, Kd.R_nil _ _ _ _ _, .inl ⟨hR, rfl⟩, h2⟩
  | true => exact (left_right many A c xs w hr hc0 ht hT hR).mono fun e w' ⟨v, f, p, ys, h1, h2, h3, h4, h5, h6, h7⟩ => ⟨v, ys, h1, h2, .inr ⟨hR, f, p, h4, h5, h6, h3⟩, h7⟩

set_option maxHeartbeats 2000000 in
set_option maxRecDepth 100000 in
theorem acyclic_any (many : Int) (A : Option Addr) (c : Nat) (xs : List (List Int)) (w : World) (hr : KL.C w A xs.length xs) (hc0 : xs.length ≤ c) (ht : tame xs) (hT : Tab w) :
    Calls Tryd.prog 14 #[.agg #[.int .i64 many, .slice A xs.length c]] w fun e w' => ∃ ys, e = .returned (.bool (rightB many xs && ys.isEmpty)) ∧ LeftSpec many xs ys ∧ Below w.heap.size w w' := by
  cases hR : rightB many xs with
  | false =>
    have HCK : Aside0 (∀ W, KL.C W A xs.length xs → Calls Tryd.prog 19 #[.agg #[.int .i64 many, .slice A xs.length c]] W fun e w' => e = .returned (.int .i64 300) ∧ Below W.heap.size W w') := ⟨fun W h => by
      have hck := check_any many A c xs W h hc0 ht.short
      have e0 : checkE many xs = 300 := by unfold checkE; rw [if_neg (by rw [hR]; decide)]
      rw [e0] at hck
      exact hck⟩
    have HR := Aside0.mk hr
    have HW := Aside0.mk hR
    clear hr ht hR
    go_enter Tryd.func14, Tryd.ntmps14
    go_wp2_with (first
      | ((with_reducible refine gate_dst (N := 1) rfl ?_); refine box_event ?hg (N := 1) ?hd (cs := #[.int .i64 many, .slice A xs.length c]) (t := 24) ?hr ?_; (case hd => rfl); (case hg => rfl); (case hr => first | (go_simp; done) | (go_simp; rfl)); intro gb hg w2 hbox hb; have HG := Aside0.mk (show w.heap.size ≤ gb by omega); have HBX := Aside0.mk hbox; have HB := Aside0.mk hb; have hcz0 : w2.cell? ⟨gb, 0, none⟩ = some (.int .i64 many) := (blk_cell HBX.out 0).trans rfl; have hcz1 : w2.cell? ⟨gb, 1, none⟩ = some (.slice A xs.length c) := (blk_cell HBX.out 1).trans rfl; clear hg hbox hb)
      | (go_at_call 19; refine (HCK.out _ (Kd.C_below HR.out HB.out)).mono ?_; rintro e w3 ⟨rfl, hb3⟩; have HB3 := Aside0.mk (HB.out.trans (hb3.mono HB.out.size)); have HBX3 := Aside0.mk (blk_below HBX.out hb3); have hdz0 : w3.cell? ⟨gb, 0, none⟩ = some (.int .i64 many) := (blk_cell HBX3.out 0).trans rfl; have hdz1 : w3.cell? ⟨gb, 1, none⟩ = some (.slice A xs.length c) := (blk_cell HBX3.out 1).trans rfl; clear hb3))
    go_ret
    exact ⟨[], rfl, .inl ⟨HW.out, rfl⟩, HB3.out⟩
  | true =>
    have HCK : Aside0 (∀ W, KL.C W A xs.length xs → Calls Tryd.prog 19 #[.agg #[.int .i64 many, .slice A xs.length c]] W fun e w' => e = .returned (.int .i64 0) ∧ Below W.heap.size W w') := ⟨fun W h => by
      have hck := check_any many A c xs W h hc0 ht.short
      have e0 : checkE many xs = 0 := by unfold checkE; rw [if_pos hR]
      rw [e0] at hck
      exact hck⟩
    have HLF : Aside0 (∀ W, KL.C W A xs.length xs → Tab W → _) := ⟨fun W h hT => left_any many A c xs W h hc0 ht hT⟩
    have HR := Aside0.mk hr
    have HT := Aside0.mk hT
    have HW := Aside0.mk hR
    clear hr ht hR hT
    go_enter Tryd.func14, Tryd.ntmps14
    go_wp2_with (first
      | ((with_reducible refine gate_dst (N := 1) rfl ?_); refine box_event ?hg (N := 1) ?hd (cs := #[.int .i64 many, .slice A xs.length c]) (t := 24) ?hr ?_; (case hd => rfl); (case hg => rfl); (case hr => first | (go_simp; done) | (go_simp; rfl)); intro gb hg w2 hbox hb; have HG := Aside0.mk (show w.heap.size ≤ gb by omega); have HBX := Aside0.mk hbox; have HB := Aside0.mk hb; have hcz0 : w2.cell? ⟨gb, 0, none⟩ = some (.int .i64 many) := (blk_cell HBX.out 0).trans rfl; have hcz1 : w2.cell? ⟨gb, 1, none⟩ = some (.slice A xs.length c) := (blk_cell HBX.out 1).trans rfl; clear hg hbox hb)
      | (go_at_call 19; refine (HCK.out _ (Kd.C_below HR.out HB.out)).mono ?_; rintro e w3 ⟨rfl, hb3⟩; have HB3 := Aside0.mk (HB.out.trans (hb3.mono HB.out.size)); have HBX3 := Aside0.mk (blk_below HBX.out hb3); have hdz0 : w3.cell? ⟨gb, 0, none⟩ = some (.int .i64 many) := (blk_cell HBX3.out 0).trans rfl; have hdz1 : w3.cell? ⟨gb, 1, none⟩ = some (.slice A xs.length c) := (blk_cell HBX3.out 1).trans rfl; clear hb3)
      | (go_at_call 13; refine (HLF.out _ (Kd.C_below HR.out HB3.out) (HT.out.below HT.out.lt HB3.out)).mono ?_; rintro e w4 ⟨v, ys, rfl, hv, hls, hb4⟩; obtain ⟨Av, cv, rfl, _, _⟩ := Kd.R_reads hv; have HLS := Aside0.mk hls; have HB4 := Aside0.mk (HB3.out.trans (hb4.mono HB3.out.size)); clear hls hb4 hv))
    go_ret
    refine ⟨ys, ?_, HLS.out, HB4.out⟩
    show Ending.returned (.bool ((ys.length : Int) == 0)) = _
    cases ys with
    | nil => rfl
    | cons y l => simp; omega

/-- a block of numbers as a row of the call's own -/
theorem R_of_block {w : World} {base g : Nat} {p : List Int} (hg : w.heap[g]? = some (.cells (icells p) 3 (0, 0))) (hb : base ≤ g) (hl : p.length ≤ 1000) : KI.R 3 w base anyK (.slice (some ⟨g, 0, none⟩) p.length p.length) p :=
  Kd.R_of_own ⟨by simp [encs], .inr ⟨g, p.length, icells p, rfl, hb, hg, Nat.le_refl _, by unfold maxLen; omega, by simp [icells], by rw [Nat.mul_one]; simp [icells, encs]; rw [List.take_of_length_le (by simp)]⟩⟩ (fun _ _ => trivial)

theorem cnt_pos {f : Fam} {N : Nat} (h : 0 < cnt f N) : ∃ i, (f i).isSome = true := by
  unfold cnt at h
  obtain ⟨i, hi⟩ := List.exists_mem_of_length_pos h
  exact ⟨i, (List.mem_filter.1 hi).2⟩

/-- what Tree says -/
def TreeSpec (many : Int) (xs : List (List Int)) (t : List Int) (err : Int) : Prop :=
  (rightB many xs = false ∧ t = [] ∧ err = 300) ∨ (rightB many xs = true ∧ ∃ f p, p.length = xs.length ∧ Gyo (fun i => (setsOf xs)[i]?) (List.replicate xs.length (-1)) f p ∧ Stuck f ∧
    (((∃ i, (f i).isSome = true) ∧ t = [] ∧ err = 301) ∨ ((∀ i, f i = none) ∧ t = p ∧ err = 0)))

theorem copy_all (g : Nat) (p : List Int) (W : World) (hg : W.heap[g]? = some (.cells (icells p) 3 (0, 0))) : ∀ (j : Nat) (v : Value), (p.map (Value.int .i64))[j]? = some v → W.cell? ((⟨g, 0, none⟩ : Addr).add j) = some v := fun j v hj => by
  rw [Addr.add_lit, blk_cell hg, Nat.zero_add]
  unfold icells
  rw [List.getElem?_toArray]; exact hj

set_option maxHeartbeats 2000000 in
set_option maxRecDepth 100000 in
theorem tree_any (many : Int) (A : Option Addr) (c : Nat) (xs : List (List Int)) (w : World) (hr : KL.C w A xs.length xs) (hc0 : xs.length ≤ c) (ht : tame xs) :
    Calls Tryd.prog 15 #[.agg #[.int .i64 many, .slice A xs.length c]] w fun e w' => ∃ v t err, e = .returned (.tuple #[v, .int .i64 err]) ∧ KI.R 3 w' w.heap.size anyK v t ∧ TreeSpec many xs t err ∧ Below w.heap.size w w' := by
  cases hR : rightB many xs with
  | false =>
    have HCK : Aside0 (∀ W, KL.C W A xs.length xs → Calls Tryd.prog 19 #[.agg #[.int .i64 many, .slice A xs.length c]] W fun e w' => e = .returned (.int .i64 300) ∧ Below W.heap.size W w') := ⟨fun W h => by
      have hck := check_any many A c xs W h hc0 ht.short
      have e0 : checkE many xs = 300 := by unfold checkE; rw [if_neg (by rw [hR]; decide)]
      rw [e0] at hck
      exact hck⟩
    have HR := Aside0.mk hr
    have HW := Aside0.mk hR
    clear hr ht hR
    go_enter Tryd.func15, Tryd.ntmps15
    go_wp2_with (first
      | ((with_reducible refine gate_dst (N := 1) rfl ?_); refine box_event ?hg (N := 1) ?hd (cs := #[.int .i64 many, .slice A xs.length c]) (t := 24) ?hr ?_; (case hd => rfl); (case hg => rfl); (case hr => first | (go_simp; done) | (go_simp; rfl)); intro gb hg w2 hbox hb; have HG := Aside0.mk (show w.heap.size ≤ gb by omega); have HBX := Aside0.mk hbox; have HB := Aside0.mk hb; have hcz0 : w2.cell? ⟨gb, 0, none⟩ = some (.int .i64 many) := (blk_cell HBX.out 0).trans rfl; have hcz1 : w2.cell? ⟨gb, 1, none⟩ = some (.slice A xs.length c) := (blk_cell HBX.out 1).trans rfl; clear hg hbox hb)
      | (go_at_call 19; refine (HCK.out _ (Kd.C_below HR.out HB.out)).mono ?_; rintro e w3 ⟨rfl, hb3⟩; have HB3 := Aside0.mk (HB.out.trans (hb3.mono HB.out.size)); have HBX3 := Aside0.mk (blk_below HBX.out hb3); have hdz0 : w3.cell? ⟨gb, 0, none⟩ = some (.int .i64 many) := (blk_cell HBX3.out 0).trans rfl; have hdz1 : w3.cell? ⟨gb, 1, none⟩ = some (.slice A xs.length c) := (blk_cell HBX3.out 1).trans rfl; clear hb3))
    go_ret2
    exact ⟨_, [], 300, rfl, Kd.R_nil _ _ _ _ _, .inl ⟨HW.out, rfl, rfl⟩, HB3.out⟩
  | true =>
    have HCK : Aside0 (∀ W, KL.C W A xs.length xs → Calls Tryd.prog 19 #[.agg #[.int .i64 many, .slice A xs.length c]] W fun e w' => e = .returned (.int .i64 0) ∧ Below W.heap.size W w') := ⟨fun W h => by
      have hck := check_any many A c xs W h hc0 ht.short
      have e0 : checkE many xs = 0 := by unfold checkE; rw [if_pos hR]
      rw [e0] at hck
      exact hck⟩
    have HRED : Aside0 (∀ W, KL.C W A xs.length xs → _) := ⟨fun W h => reduced_any many A c xs W h hc0 (fun e he => ⟨right_small hR e he, ht.2 e he⟩) ht.1⟩
    have hx1000 := ht.1
    have HR := Aside0.mk hr
    have HW := Aside0.mk hR
    clear hr ht hR
    go_enter Tryd.func15, Tryd.ntmps15
    go_wp2_with (first
      | ((with_reducible refine gate_dst (N := 1) rfl ?_); refine box_event ?hg (N := 1) ?hd (cs := #[.int .i64 many, .slice A xs.length c]) (t := 24) ?hr ?_; (case hd => rfl); (case hg => rfl); (case hr => first | (go_simp; done) | (go_simp; rfl)); intro gb hg w2 hbox hb; have HG := Aside0.mk (show w.heap.size ≤ gb by omega); have HBX := Aside0.mk hbox; have HB := Aside0.mk hb; have hcz0 : w2.cell? ⟨gb, 0, none⟩ = some (.int .i64 many) := (blk_cell HBX.out 0).trans rfl; have hcz1 : w2.cell? ⟨gb, 1, none⟩ = some (.slice A xs.length c) := (blk_cell HBX.out 1).trans rfl; clear hg hbox hb)
      | (go_at_call 19; refine (HCK.out _ (Kd.C_below HR.out HB.out)).mono ?_; rintro e w3 ⟨rfl, hb3⟩; have HB3 := Aside0.mk (HB.out.trans (hb3.mono HB.out.size)); have HBX3 := Aside0.mk (blk_below HBX.out hb3); have hdz0 : w3.cell? ⟨gb, 0, none⟩ = some (.int .i64 many) := (blk_cell HBX3.out 0).trans rfl; have hdz1 : w3.cell? ⟨gb, 1, none⟩ = some (.slice A xs.length c) := (blk_cell HBX3.out 1).trans rfl; clear hb3)
      | (go_at_call 35; refine (HRED.out _ (Kd.C_below HR.out HB3.out)).mono ?_; rintro e w4 ⟨b, g, f, p, rfl, hm, hg, hp, hb1, hg1, hy, hst, hb4⟩; have HM := Aside0.mk hm; have HP := Aside0.mk hp; have HG4 := Aside0.mk hg; have HGW := Aside0.mk (Nat.le_trans HB3.out.size hg1); have HY := Aside0.mk hy; have HST := Aside0.mk hst; have HB4 := Aside0.mk (HB3.out.trans (hb4.mono HB3.out.size)); clear hm hg hg1 hp hb1 hy hst hb4)
      | (at_len; refine map_len HM.out rfl _ rfl rfl ?_)
      | (at_make; refine make_ints rfl _ _ rfl xs.length hx1000 rfl rfl ?_; intro g2 w5 hg2 hb5 hgw; have HG2 := Aside0.mk hg2; have HB5 := Aside0.mk hb5; have HGW2 := Aside0.mk hgw; clear hg2 hb5 hgw)
      | ((with_reducible refine gate_builtin (b := .copy) (xs := #[.tmp 24, .tmp 25]) rfl ?_); go_must (refine wpList_copy_splice rfl (.tmp 24) (.tmp 25) 30 30 rfl 3 Tryd.underlying30 size3 (some ⟨g2, 0, none⟩) (some ⟨g, 0, none⟩) xs.length xs.length xs.length xs.length rfl rfl g2 0 (List.replicate xs.length (Value.int .i64 0)) 3 ?h1 (p.map (Value.int .i64)) ?h2 ?h3 ?h4 ?h5 w.heap.size w ?h6 ?h7 ?_); go_must (case h1 => exact HG2.out); go_must (case h2 => rw [List.length_map, HP.out]; exact (Nat.min_self _).symm); go_must (case h3 => intro _; exact ⟨rfl, _, rfl, fun j v hj => copy_all g p _ (blk_below HG4.out HB5.out) j v hj⟩); go_must (case h4 => rw [List.length_replicate, List.length_map, HP.out]; omega); go_must (case h5 => intro v hv; obtain ⟨x, _, rfl⟩ := List.mem_map.1 hv; rfl); go_must (case h6 => exact HB4.out.trans (HB5.out.mono HB4.out.size)); go_must (case h7 => rw [HGW2.out]; exact HB4.out.size); intro w6 hg6 hb6; have HG6 := Aside0.mk hg6; have HB6 := Aside0.mk hb6; clear hg6 hb6))
    · rename_i h
      go_ret2
      exact ⟨_, [], 301, rfl, Kd.R_nil _ _ _ _ _, .inr ⟨HW.out, f, p, HP.out, HY.out, HST.out, .inl ⟨cnt_pos h, rfl, rfl⟩⟩, HB4.out⟩
    · rename_i h
      go_ret2
      have hz : ∀ i, f i = none := fun i => by
        rcases Nat.lt_or_ge i xs.length with hi | hi
        · exact cnt_zero (by omega) i hi
        · exact HM.out.out i hi
      refine ⟨_, p, 0, rfl, ?_, .inr ⟨HW.out, f, p, HP.out, HY.out, HST.out, .inr ⟨hz, rfl, rfl⟩⟩, HB6.out⟩
      rw [← HP.out]
      refine R_of_block ?_ (by rw [HGW2.out]; exact HB4.out.size) (by rw [HP.out]; exact hx1000)
      have := HG6.out
      rw [show splice (List.replicate xs.length (Value.int .i64 0)) 0 (p.map (Value.int .i64)) = p.map (Value.int .i64) from by simp [splice, HP.out]] at this
      exact this

end Go.Proofs.YtnnfhnehieoeaaaDoor.Hy

/- Contracts of hyper.rooted and hyper.Joins. (written by gen16.py) -/
namespace Go.Proofs.YtnnfhnehieoeaaaDoor.Hy
open Go.RowKit Go.Shelf Go.Proofs.YtnnfhnehieoeaaaDoorW.PrintWords Go.Proofs.YtnnfhnehieoeaaaDoorW.PrintLast Go.Proofs.YtnnfhnehieoeaaaDoorW.PrintMore Go.Proofs.YtnnfhnehieoeaaaDoor.PHyperTells
set_option linter.unusedVariables false
set_option linter.unusedSimpArgs false

/-- does one come from a place to a root, in so many steps? -/
def climb (p : List Int) : Nat → Int → Bool
  | 0, a => decide (a = -1)
  | k + 1, a => if a < 0 then decide (a = -1) else if a < p.length then climb p k (p.getD a.toNat 0) else false
def rootedB (p : List Int) : Bool := allB (fun i => climb p (p.length + 1) i) p.length

theorem climb_neg (p : List Int) (k : Nat) (a : Int) (h : a < 0) : climb p k a = decide (a = -1) := by
  cases k with
  | zero => rfl
  | succ k => unfold climb; rw [if_pos h]

set_option maxHeartbeats 2000000 in
set_option maxRecDepth 100000 in
theorem rooted_any (A : Option Addr) (c : Nat) (p : List Int) (w : World) (hr : KI.C w A p.length p) (hc0 : p.length ≤ c) (hl : p.length ≤ 1000) :
    Calls Tryd.prog 40 #[.slice A p.length c] w fun e w' => e = .returned (.bool (rootedB p)) ∧ w = w' := by
  have HR := Aside0.mk hr
  clear hr
  go_enter Tryd.func40, Tryd.ntmps40
  go_wp2
  refine wp_scope_label 0 (fun _ _ => False) (fun _ _ => 0) rfl (fun _ _ h => h.elim) ?_
  intro hrest
  clear hrest
  go_hide hQJ
  have HQ := Aside0.mk hQJ
  clear hQJ
  go_wp2
  go_step3
  go_step
  go_wp2
  go_loopg [3, 9] p.length (fun k v3 v9 wr => ∃ (i : Nat), v9 = .int .i64 i ∧ v3 = .bool true ∧ i ≤ p.length ∧ Aside0 (k + i = p.length) ∧ Aside0 (∀ j, j < i → climb p (p.length + 1) j = true) ∧ Aside0 (w = wr))
  case atStart => exact ⟨0, rfl, rfl, by omega, ⟨by omega⟩, ⟨fun j h => absurd h (Nat.not_lt_zero _)⟩, ⟨rfl⟩⟩
  case round =>
    obtain ⟨ko, rfl⟩ : ∃ ko, ko = gk := ⟨_, rfl⟩
    obtain ⟨i, rfl, rfl, hi, hk, hall, ⟨rfl⟩⟩ := hrel
    by_cases hlt : i < p.length
    · go_wp2
      go_loopg [3, 5, 6] (p.length + 1) (fun k v3 v5 v6 wr => ∃ (a : Int) (st : Nat), v3 = .bool true ∧ v5 = .int .i64 a ∧ v6 = .int .i64 st ∧ st ≤ p.length + 1 ∧ Aside0 (k + st = p.length + 1) ∧ Aside0 (climb p (p.length + 1) i = climb p k a) ∧ Aside0 (w = wr))
      case atStart => exact ⟨i, 0, rfl, rfl, rfl, by omega, ⟨by omega⟩, ⟨rfl⟩, ⟨rfl⟩⟩
      case round =>
        obtain ⟨a, st, rfl, rfl, rfl, hst, hks, hcl, ⟨rfl⟩⟩ := hrel
        by_cases ha : 0 ≤ a
        · by_cases hal : a < p.length
          · by_cases hsl : (st : Int) ≤ p.length
            · obtain ⟨ad, hA, hx⟩ := Kd.at_int HR.out a ha (by omega)
              subst hA
              have hrd : rd p a = p.getD a.toNat 0 := rfl
              rw [hrd] at hx
              obtain ⟨a2, ha2⟩ : ∃ a2, a2 = p.getD a.toNat 0 := ⟨_, rfl⟩
              rw [← ha2] at hx
              have HCL : Aside0 (climb p (p.length + 1) i = climb p (gk - 1) a2) := ⟨by
                rw [hcl.out, ha2]
                obtain ⟨q, hq⟩ : ∃ q, gk = q + 1 := ⟨gk - 1, by have := hks.out; omega⟩
                rw [hq]
                conv => lhs; unfold climb
                rw [if_neg (by omega), if_pos hal]; rfl⟩
              clear hrd ha2
              go_wp2
              go_roundg (gk - 1)
              case measure => have := hks.out; omega
              case rel => exact ⟨a2, st + 1, rfl, rfl, by go_num, by omega, ⟨by have := hks.out; omega⟩, HCL, ⟨rfl⟩⟩
            · have HF : Aside0 (climb p (p.length + 1) i = false) := ⟨by
                rw [hcl.out, show gk = 0 from by have := hks.out; omega]
                exact decide_eq_false (by omega)⟩
              go_wp2
              rw [← HQ.out]
              simp only [Exit.jump, Exit.inBlock, Exit.then]
              go_ret
              exact ⟨by rw [show rootedB p = false from allB_false hlt HF.out]; rfl, rfl⟩
          · have HF : Aside0 (climb p (p.length + 1) i = false) := ⟨by
              rw [hcl.out]
              cases gk with
              | zero => exact decide_eq_false (by omega)
              | succ q => unfold climb; rw [if_neg (by omega), if_neg hal]⟩
            go_wp2
            rw [← HQ.out]
            simp only [Exit.jump, Exit.inBlock, Exit.then]
            go_ret
            exact ⟨by rw [show rootedB p = false from allB_false hlt HF.out]; rfl, rfl⟩
        · by_cases hm : a = -1
          · have HT : Aside0 (climb p (p.length + 1) i = true) := ⟨by rw [hcl.out, climb_neg p _ a (by omega)]; exact decide_eq_true hm⟩
            have HA2 : Aside0 (∀ j, j < i + 1 → climb p (p.length + 1) j = true) := ⟨fun j hj => by
              rcases Nat.lt_or_ge j i with h | h
              · exact hall.out j h
              · rw [show j = i from by omega]; exact HT.out⟩
            go_wp2
            go_roundg (ko - 1)
            case measure => have := hk.out; omega
            case rel => exact ⟨i + 1, by go_num, rfl, by omega, ⟨by have := hk.out; omega⟩, HA2, ⟨rfl⟩⟩
          · have HF : Aside0 (climb p (p.length + 1) i = false) := ⟨by rw [hcl.out, climb_neg p _ a (by omega)]; exact decide_eq_false hm⟩
            go_wp2
            rw [← HQ.out]
            simp only [Exit.jump, Exit.inBlock, Exit.then]
            go_ret
            exact ⟨by rw [show rootedB p = false from allB_false hlt HF.out]; rfl, rfl⟩
    · have hie : i = p.length := by omega
      subst hie
      go_wp2
      rw [← HQ.out]
      simp only [Exit.jump, Exit.inBlock, Exit.then]
      go_ret
      exact ⟨by rw [show rootedB p = true from (allB_iff _ _).2 hall.out]; rfl, rfl⟩

/-- what an edge has that its parent has not -/
def topOf (l : List Nat) (p : List Int) (i : Nat) : Nat := if 0 ≤ p.getD i 0 then diffB (l.getD i 0) (l.getD (p.getD i 0).toNat 0) else l.getD i 0
/-- some, once, twice behind the first j edges -/
def jst (l : List Nat) (p : List Int) : Nat → Nat × Nat × Nat
  | 0 => (0, 0, 0)
  | j + 1 => ((jst l p j).1 ||| l.getD j 0, (jst l p j).2.1 ||| topOf l p j, (jst l p j).2.2 ||| ((jst l p j).2.1 &&& topOf l p j))
def joinsB (many : Int) (xs : List (List Int)) (p : List Int) : Bool :=
  rightB many xs && (decide (p.length = xs.length) && (rootedB p && ((jst (setsOf xs) p xs.length).2.1 == (jst (setsOf xs) p xs.length).1 && (jst (setsOf xs) p xs.length).2.2 == 0)))

theorem rooted_lt {p : List Int} (h : rootedB p = true) (i : Nat) (hi : i < p.length) : p.getD i 0 < p.length := by
  have := (allB_iff _ _).1 h i hi
  unfold climb at this
  rw [if_neg (by omega), if_pos (by omega)] at this
  simp only [Int.toNat_natCast] at this
  obtain ⟨q, hq⟩ : ∃ q, p.length = q + 1 := ⟨p.length - 1, by omega⟩
  rw [hq] at this
  unfold climb at this
  split at this
  · omega
  · split at this
    · omega
    · cases this

end Go.Proofs.YtnnfhnehieoeaaaDoor.Hy

/- Contract of hyper.Joins. (written by gen17.py) -/
namespace Go.Proofs.YtnnfhnehieoeaaaDoor.Hy
open Go.RowKit Go.Shelf Go.Proofs.YtnnfhnehieoeaaaDoorW.PrintWords Go.Proofs.YtnnfhnehieoeaaaDoorW.PrintLast Go.Proofs.YtnnfhnehieoeaaaDoorW.PrintMore Go.Proofs.YtnnfhnehieoeaaaDoor.PHyperTells
set_option linter.unusedVariables false
set_option linter.unusedSimpArgs false

set_option maxHeartbeats 2000000 in
set_option maxRecDepth 100000 in
theorem joins_wrong (many : Int) (A : Option Addr) (c : Nat) (xs : List (List Int)) (w : World) (hr : KL.C w A xs.length xs) (hc0 : xs.length ≤ c) (ht : tame xs) (Ap : Option Addr) (cp : Nat) (p : List Int) (hrp : KI.C w Ap p.length p) (hcp : p.length ≤ cp) (hlp : p.length ≤ 1000) (hR : rightB many xs = false) :
    Calls Tryd.prog 18 #[.agg #[.int .i64 many, .slice A xs.length c], .slice Ap p.length cp] w fun e w' => e = .returned (.bool false) ∧ Below w.heap.size w w' := by
  have HCK : Aside0 (∀ W, KL.C W A xs.length xs → Calls Tryd.prog 19 #[.agg #[.int .i64 many, .slice A xs.length c]] W fun e w' => e = .returned (.int .i64 300) ∧ Below W.heap.size W w') := ⟨fun W h => by
    have hck := check_any many A c xs W h hc0 ht.short
    have e0 : checkE many xs = 300 := by unfold checkE; rw [if_neg (by rw [hR]; decide)]
    rw [e0] at hck
    exact hck⟩
  have HR := Aside0.mk hr
  have HRP := Aside0.mk hrp
  clear hr ht hR hrp
  go_enter Tryd.func18, Tryd.ntmps18
  go_wp2_with (first
    | ((with_reducible refine gate_dst (N := 2) rfl ?_); refine box_event ?hg (N := 2) ?hd (cs := #[.int .i64 many, .slice A xs.length c]) (t := 24) ?hr ?_; (case hd => rfl); (case hg => rfl); (case hr => first | (go_simp; done) | (go_simp; rfl)); intro gb hg w2 hbox hb; have HG := Aside0.mk (show w.heap.size ≤ gb by omega); have HBX := Aside0.mk hbox; have HB := Aside0.mk hb; have hcz0 : w2.cell? ⟨gb, 0, none⟩ = some (.int .i64 many) := (blk_cell HBX.out 0).trans rfl; have hcz1 : w2.cell? ⟨gb, 1, none⟩ = some (.slice A xs.length c) := (blk_cell HBX.out 1).trans rfl; clear hg hbox hb)
    | (go_at_call 19; refine (HCK.out _ (Kd.C_below HR.out HB.out)).mono ?_; rintro e w3 ⟨rfl, hb3⟩; have HB3 := Aside0.mk (HB.out.trans (hb3.mono HB.out.size)); have HBX3 := Aside0.mk (blk_below HBX.out hb3); have hdz0 : w3.cell? ⟨gb, 0, none⟩ = some (.int .i64 many) := (blk_cell HBX3.out 0).trans rfl; have hdz1 : w3.cell? ⟨gb, 1, none⟩ = some (.slice A xs.length c) := (blk_cell HBX3.out 1).trans rfl; clear hb3))
  go_ret
  exact ⟨rfl, HB3.out⟩

set_option maxHeartbeats 2000000 in
set_option maxRecDepth 100000 in
theorem joins_len (many : Int) (A : Option Addr) (c : Nat) (xs : List (List Int)) (w : World) (hr : KL.C w A xs.length xs) (hc0 : xs.length ≤ c) (ht : tame xs) (Ap : Option Addr) (cp : Nat) (p : List Int) (hrp : KI.C w Ap p.length p) (hcp : p.length ≤ cp) (hlp : p.length ≤ 1000) (hR : rightB many xs = true) (hne : p.length ≠ xs.length) :
    Calls Tryd.prog 18 #[.agg #[.int .i64 many, .slice A xs.length c], .slice Ap p.length cp] w fun e w' => e = .returned (.bool false) ∧ Below w.heap.size w w' := by
  have HCK : Aside0 (∀ W, KL.C W A xs.length xs → Calls Tryd.prog 19 #[.agg #[.int .i64 many, .slice A xs.length c]] W fun e w' => e = .returned (.int .i64 0) ∧ Below W.heap.size W w') := ⟨fun W h => by
    have hck := check_any many A c xs W h hc0 ht.short
    have e0 : checkE many xs = 0 := by unfold checkE; rw [if_pos hR]
    rw [e0] at hck
    exact hck⟩
  have HR := Aside0.mk hr
  have HRP := Aside0.mk hrp
  have hx1000 := ht.1
  have hne' : ((p.length : Int) != (xs.length : Int)) = true := by rw [bne_iff_ne]; omega
  clear hr ht hR hrp
  go_enter Tryd.func18, Tryd.ntmps18
  go_wp2_with (first
    | ((with_reducible refine gate_dst (N := 2) rfl ?_); refine box_event ?hg (N := 2) ?hd (cs := #[.int .i64 many, .slice A xs.length c]) (t := 24) ?hr ?_; (case hd => rfl); (case hg => rfl); (case hr => first | (go_simp; done) | (go_simp; rfl)); intro gb hg w2 hbox hb; have HG := Aside0.mk (show w.heap.size ≤ gb by omega); have HBX := Aside0.mk hbox; have HB := Aside0.mk hb; have hcz0 : w2.cell? ⟨gb, 0, none⟩ = some (.int .i64 many) := (blk_cell HBX.out 0).trans rfl; have hcz1 : w2.cell? ⟨gb, 1, none⟩ = some (.slice A xs.length c) := (blk_cell HBX.out 1).trans rfl; clear hg hbox hb)
    | (go_at_call 19; refine (HCK.out _ (Kd.C_below HR.out HB.out)).mono ?_; rintro e w3 ⟨rfl, hb3⟩; have HB3 := Aside0.mk (HB.out.trans (hb3.mono HB.out.size)); have HBX3 := Aside0.mk (blk_below HBX.out hb3); have hdz0 : w3.cell? ⟨gb, 0, none⟩ = some (.int .i64 many) := (blk_cell HBX3.out 0).trans rfl; have hdz1 : w3.cell? ⟨gb, 1, none⟩ = some (.slice A xs.length c) := (blk_cell HBX3.out 1).trans rfl; clear hb3))
  go_ret
  exact ⟨rfl, HB3.out⟩

set_option maxHeartbeats 2000000 in
set_option maxRecDepth 100000 in
theorem joins_unrooted (many : Int) (A : Option Addr) (c : Nat) (xs : List (List Int)) (w : World) (hr : KL.C w A xs.length xs) (hc0 : xs.length ≤ c) (ht : tame xs) (Ap : Option Addr) (cp : Nat) (p : List Int) (hrp : KI.C w Ap p.length p) (hcp : p.length ≤ cp) (hlp : p.length ≤ 1000) (hR : rightB many xs = true) (hne : p.length = xs.length) (hro : rootedB p = false) :
    Calls Tryd.prog 18 #[.agg #[.int .i64 many, .slice A xs.length c], .slice Ap p.length cp] w fun e w' => e = .returned (.bool false) ∧ Below w.heap.size w w' := by
  have HCK : Aside0 (∀ W, KL.C W A xs.length xs → Calls Tryd.prog 19 #[.agg #[.int .i64 many, .slice A xs.length c]] W fun e w' => e = .returned (.int .i64 0) ∧ Below W.heap.size W w') := ⟨fun W h => by
    have hck := check_any many A c xs W h hc0 ht.short
    have e0 : checkE many xs = 0 := by unfold checkE; rw [if_pos hR]
    rw [e0] at hck
    exact hck⟩
  have HR := Aside0.mk hr
  have HRP := Aside0.mk hrp
  have hx1000 := ht.1
  have hne' : ((p.length : Int) != (xs.length : Int)) = false := by rw [hne]; simp
  have HRO : Aside0 (∀ W, KI.C W Ap p.length p → Calls Tryd.prog 40 #[.slice Ap p.length cp] W fun e w' => e = .returned (.bool false) ∧ W = w') := ⟨fun W h => by have := rooted_any Ap cp p W h hcp hlp; rw [hro] at this; exact this⟩
  have HNE := Aside0.mk hne
  clear hr ht hR hrp hro hne
  go_enter Tryd.func18, Tryd.ntmps18
  go_wp2_with (first
    | ((with_reducible refine gate_dst (N := 2) rfl ?_); refine box_event ?hg (N := 2) ?hd (cs := #[.int .i64 many, .slice A xs.length c]) (t := 24) ?hr ?_; (case hd => rfl); (case hg => rfl); (case hr => first | (go_simp; done) | (go_simp; rfl)); intro gb hg w2 hbox hb; have HG := Aside0.mk (show w.heap.size ≤ gb by omega); have HBX := Aside0.mk hbox; have HB := Aside0.mk hb; have hcz0 : w2.cell? ⟨gb, 0, none⟩ = some (.int .i64 many) := (blk_cell HBX.out 0).trans rfl; have hcz1 : w2.cell? ⟨gb, 1, none⟩ = some (.slice A xs.length c) := (blk_cell HBX.out 1).trans rfl; clear hg hbox hb)
    | (go_at_call 19; refine (HCK.out _ (Kd.C_below HR.out HB.out)).mono ?_; rintro e w3 ⟨rfl, hb3⟩; have HB3 := Aside0.mk (HB.out.trans (hb3.mono HB.out.size)); have HBX3 := Aside0.mk (blk_below HBX.out hb3); have hdz0 : w3.cell? ⟨gb, 0, none⟩ = some (.int .i64 many) := (blk_cell HBX3.out 0).trans rfl; have hdz1 : w3.cell? ⟨gb, 1, none⟩ = some (.slice A xs.length c) := (blk_cell HBX3.out 1).trans rfl; clear hb3)
    | (go_at_call 40; refine (HRO.out _ (Kd.C_below HRP.out HB3.out)).mono ?_; rintro e w4 ⟨rfl, rfl⟩))
  go_ret
  exact ⟨rfl, HB3.out⟩

set_option maxHeartbeats 2000000 in
set_option maxRecDepth 100000 in
theorem joins_walk (many : Int) (A : Option Addr) (c : Nat) (xs : List (List Int)) (w : World) (hr : KL.C w A xs.length xs) (hc0 : xs.length ≤ c) (ht : tame xs) (Ap : Option Addr) (cp : Nat) (p : List Int) (hrp : KI.C w Ap p.length p) (hcp : p.length ≤ cp) (hlp : p.length ≤ 1000) (hR : rightB many xs = true) (hne : p.length = xs.length) (hro : rootedB p = true) :
    Calls Tryd.prog 18 #[.agg #[.int .i64 many, .slice A xs.length c], .slice Ap p.length cp] w fun e w' => e = .returned (.bool ((jst (setsOf xs) p xs.length).2.1 == (jst (setsOf xs) p xs.length).1 && (jst (setsOf xs) p xs.length).2.2 == 0)) ∧ Below w.heap.size w w' := by
  have HCK : Aside0 (∀ W, KL.C W A xs.length xs → Calls Tryd.prog 19 #[.agg #[.int .i64 many, .slice A xs.length c]] W fun e w' => e = .returned (.int .i64 0) ∧ Below W.heap.size W w') := ⟨fun W h => by
    have hck := check_any many A c xs W h hc0 ht.short
    have e0 : checkE many xs = 0 := by unfold checkE; rw [if_pos hR]
    rw [e0] at hck
    exact hck⟩
  have HR := Aside0.mk hr
  have HRP := Aside0.mk hrp
  have hx1000 := ht.1
  have hne' : ((p.length : Int) != (xs.length : Int)) = false := by rw [hne]; simp
  have HRO : Aside0 (∀ W, KI.C W Ap p.length p → Calls Tryd.prog 40 #[.slice Ap p.length cp] W fun e w' => e = .returned (.bool true) ∧ W = w') := ⟨fun W h => by have := rooted_any Ap cp p W h hcp hlp; rw [hro] at this; exact this⟩
  have HSETS : Aside0 (∀ W, KL.C W A xs.length xs → Calls Tryd.prog 32 #[.agg #[.int .i64 many, .slice A xs.length c]] W fun e w' => ∃ v, e = .returned v ∧ (Kd.int .u64).R 53 w' W.heap.size anyK v (asInts (setsOf xs)) ∧ Below W.heap.size W w') := ⟨fun W h => sets_any many A c xs W h hc0 (fun e he => ⟨right_small hR e he, ht.2 e he⟩) ht.1⟩
  have HSM : Aside0 (∀ s, s ∈ setsOf xs → s < 18446744073709551616) := ⟨fun s hs => by
    unfold setsOf at hs
    obtain ⟨e, he, rfl⟩ := List.mem_map.1 hs
    exact setOf_lt e (right_small hR e he)⟩
  have HLT := Aside0.mk (rooted_lt hro)
  have HLEN : Aside0 ((setsOf xs).length = xs.length) := ⟨by simp [setsOf]⟩
  have HNE := Aside0.mk hne
  clear hr ht hR hrp hro hne
  go_enter Tryd.func18, Tryd.ntmps18
  go_wp2_with (first
    | ((with_reducible refine gate_dst (N := 2) rfl ?_); refine box_event ?hg (N := 2) ?hd (cs := #[.int .i64 many, .slice A xs.length c]) (t := 24) ?hr ?_; (case hd => rfl); (case hg => rfl); (case hr => first | (go_simp; done) | (go_simp; rfl)); intro gb hg w2 hbox hb; have HG := Aside0.mk (show w.heap.size ≤ gb by omega); have HBX := Aside0.mk hbox; have HB := Aside0.mk hb; have hcz0 : w2.cell? ⟨gb, 0, none⟩ = some (.int .i64 many) := (blk_cell HBX.out 0).trans rfl; have hcz1 : w2.cell? ⟨gb, 1, none⟩ = some (.slice A xs.length c) := (blk_cell HBX.out 1).trans rfl; clear hg hbox hb)
    | (go_at_call 19; refine (HCK.out _ (Kd.C_below HR.out HB.out)).mono ?_; rintro e w3 ⟨rfl, hb3⟩; have HB3 := Aside0.mk (HB.out.trans (hb3.mono HB.out.size)); have HBX3 := Aside0.mk (blk_below HBX.out hb3); have hdz0 : w3.cell? ⟨gb, 0, none⟩ = some (.int .i64 many) := (blk_cell HBX3.out 0).trans rfl; have hdz1 : w3.cell? ⟨gb, 1, none⟩ = some (.slice A xs.length c) := (blk_cell HBX3.out 1).trans rfl; clear hb3)
    | (go_at_call 40; refine (HRO.out _ (Kd.C_below HRP.out HB3.out)).mono ?_; rintro e w4 ⟨rfl, rfl⟩)
    | (go_at_call 32; refine (HSETS.out _ (Kd.C_below HR.out HB3.out)).mono ?_; rintro e w4 ⟨v, rfl, hv, hb4⟩; obtain ⟨Av, cv, hve, hcv, hvc⟩ := Kd.R_reads hv; rw [show (asInts (setsOf xs)).length = xs.length from by simp [asInts, setsOf]] at hve hcv hvc; subst hve; have HVC := Aside0.mk hvc; have HCV := Aside0.mk hcv; have HB4 := Aside0.mk (HB3.out.trans (hb4.mono HB3.out.size)); clear hv hvc hcv hb4))
  have HRP4 := Aside0.mk (Kd.C_below HRP.out HB4.out)
  clear hcz0 hcz1 hdz0 hdz1
  go_loopg [6, 7, 8, 32] xs.length (fun k v6 v7 v8 v32 wr => ∃ (j S O T : Nat), v6 = .int .u64 S ∧ v7 = .int .u64 O ∧ v8 = .int .u64 T ∧ v32 = .int .i64 j ∧ j ≤ xs.length ∧ S < 18446744073709551616 ∧ O < 18446744073709551616 ∧ T < 18446744073709551616 ∧ Aside0 (k + j = xs.length) ∧ Aside0 (jst (setsOf xs) p j = (S, O, T)) ∧ Aside0 (w4 = wr))
  case atStart => exact ⟨0, 0, 0, 0, rfl, rfl, rfl, rfl, by omega, by decide, by decide, by decide, ⟨by omega⟩, ⟨rfl⟩, ⟨rfl⟩⟩
  case round =>
    obtain ⟨j, S, O, T, rfl, rfl, rfl, rfl, hj, hSl, hOl, hTl, hk, hJ, ⟨rfl⟩⟩ := hrel
    by_cases hlt : j < xs.length
    · obtain ⟨s, hs⟩ : ∃ s, (setsOf xs)[j]? = some s := ⟨_, List.getElem?_eq_getElem (by rw [HLEN.out]; exact hlt)⟩
      have hsl : s < 18446744073709551616 := HSM.out s (List.mem_of_getElem? hs)
      have hsg : (setsOf xs).getD j 0 = s := by rw [List.getD_eq_getElem?_getD, hs]; rfl
      obtain ⟨ad, hA, hx⟩ := Kd.at_int HVC.out (j : Int) (by omega) (by omega)
      subst hA
      have hrd : rd (asInts (setsOf xs)) (j : Int) = (s : Int) := by simp [rd, asInts, List.getD_eq_getElem?_getD, hs]
      rw [hrd] at hx
      simp only [Int.toNat_natCast] at hx
      obtain ⟨ad2, hA2, hx2⟩ := Kd.at_int HRP4.out (j : Int) (by omega) (by rw [HNE.out]; omega)
      subst hA2
      have hjp : j < p.length := by rw [HNE.out]; exact hlt
      obtain ⟨q, hq⟩ : ∃ q, q = p.getD j 0 := ⟨_, rfl⟩
      have hrd2 : rd p (j : Int) = q := by rw [hq]; simp [rd]
      rw [hrd2] at hx2
      simp only [Int.toNat_natCast] at hx2
      have hqlt : q < xs.length := by have := HLT.out j (by rw [HNE.out]; exact hlt); rw [hq]; have := HNE.out; omega
      obtain ⟨u, hu⟩ : ∃ u, u = topOf (setsOf xs) p j := ⟨_, rfl⟩
      obtain ⟨S2, hS2⟩ : ∃ S2, S2 = S ||| s := ⟨_, rfl⟩
      obtain ⟨a1, ha1⟩ : ∃ a1, a1 = O &&& u := ⟨_, rfl⟩
      obtain ⟨T2, hT2⟩ : ∃ T2, T2 = T ||| a1 := ⟨_, rfl⟩
      obtain ⟨O2, hO2⟩ : ∃ O2, O2 = O ||| u := ⟨_, rfl⟩
      have hJ2 : Aside0 (jst (setsOf xs) p (j + 1) = (S2, O2, T2)) := ⟨by
        show ((jst (setsOf xs) p j).1 ||| (setsOf xs).getD j 0, (jst (setsOf xs) p j).2.1 ||| topOf (setsOf xs) p j, (jst (setsOf xs) p j).2.2 ||| ((jst (setsOf xs) p j).2.1 &&& topOf (setsOf xs) p j)) = _
        rw [hJ.out, hsg, ← hu, hS2, hO2, hT2, ha1]⟩
      have a1l : a1 < 18446744073709551616 := ha1 ▸ and_lt_64 hOl
      have S2l : S2 < 18446744073709551616 := hS2 ▸ or_lt_64 hSl hsl
      have T2l : T2 < 18446744073709551616 := hT2 ▸ or_lt_64 hTl a1l
      have b1 : bits .or .u64 (S : Int) (s : Int) = (S2 : Int) := by rw [hS2]; exact u64_or_nat _ _ hSl hsl
      have b3 : bits .or .u64 (T : Int) (a1 : Int) = (T2 : Int) := by rw [hT2]; exact u64_or_nat _ _ hTl a1l
      by_cases hq0 : 0 ≤ q
      · obtain ⟨q', rfl⟩ := Int.eq_ofNat_of_zero_le hq0
        obtain ⟨t, ht⟩ : ∃ t, (setsOf xs)[q']? = some t := ⟨_, List.getElem?_eq_getElem (by rw [HLEN.out]; omega)⟩
        have htl : t < 18446744073709551616 := HSM.out t (List.mem_of_getElem? ht)
        obtain ⟨ad3, hA3, hx3⟩ := Kd.at_int HVC.out (q' : Int) (by omega) (by omega)
        cases hA3
        have hrd3 : rd (asInts (setsOf xs)) (q' : Int) = (t : Int) := by simp [rd, asInts, List.getD_eq_getElem?_getD, ht]
        rw [hrd3] at hx3
        simp only [Int.toNat_natCast] at hx3
        have hue : u = diffB s t := by
          rw [hu]; unfold topOf
          rw [← hq, if_pos (by omega), hsg]
          congr 1
          rw [Int.toNat_natCast, List.getD_eq_getElem?_getD, ht]; rfl
        have ul : u < 18446744073709551616 := by rw [hue]; exact Nat.lt_of_le_of_lt (diffB_le _ _) hsl
        have b0 : bits .andNot .u64 (s : Int) (t : Int) = (u : Int) := by rw [hue]; exact u64_andNot_nat _ _ hsl htl
        have b2 : bits .and .u64 (O : Int) (u : Int) = (a1 : Int) := by rw [ha1]; exact u64_and_nat _ _ hOl ul
        have b4 : bits .or .u64 (O : Int) (u : Int) = (O2 : Int) := by rw [hO2]; exact u64_or_nat _ _ hOl ul
        have O2l : O2 < 18446744073709551616 := hO2 ▸ or_lt_64 hOl ul
        clear hs hsg hrd hq hrd2 hu hS2 ha1 hT2 hO2 ht hrd3 hue
        go_wp2
        go_roundg (gk - 1)
        case measure => have := hk.out; omega
        case rel => exact ⟨j + 1, S2, O2, T2, rfl, rfl, rfl, by go_num, by omega, S2l, O2l, T2l, ⟨by have := hk.out; omega⟩, hJ2, ⟨rfl⟩⟩
      · have hue : u = s := by
          rw [hu]; unfold topOf
          rw [← hq, if_neg hq0, hsg]
        have ul : u < 18446744073709551616 := by rw [hue]; exact hsl
        have b2 : bits .and .u64 (O : Int) (s : Int) = (a1 : Int) := by rw [ha1, ← hue]; exact u64_and_nat _ _ hOl ul
        have b4 : bits .or .u64 (O : Int) (s : Int) = (O2 : Int) := by rw [hO2, ← hue]; exact u64_or_nat _ _ hOl ul
        have O2l : O2 < 18446744073709551616 := hO2 ▸ or_lt_64 hOl ul
        clear hs hsg hrd hq hrd2 hu hS2 ha1 hT2 hO2 hue
        go_wp2
        go_roundg (gk - 1)
        case measure => have := hk.out; omega
        case rel => exact ⟨j + 1, S2, O2, T2, rfl, rfl, rfl, by go_num, by omega, S2l, O2l, T2l, ⟨by have := hk.out; omega⟩, hJ2, ⟨rfl⟩⟩
    · have hje : j = xs.length := by omega
      subst hje
      by_cases h1 : O = S
      · have t1 : ((O : Int) == (S : Int)) = true := by rw [h1]; simp
        go_wp2
        go_ret
        refine ⟨?_, HB4.out⟩
        rw [hJ.out]
        show Ending.returned (.bool ((T : Int) == 0)) = _
        rw [h1]
        by_cases h2 : T = 0
        · rw [h2]; simp
        · have e1 : ((T : Int) == 0) = false := by simpa using h2
          have e2 : (T == 0) = false := by simpa using h2
          rw [e1]; simp [e2]
      · have t1 : ((O : Int) == (S : Int)) = false := by rw [beq_eq_false_iff_ne]; omega
        go_wp2
        go_ret
        refine ⟨?_, HB4.out⟩
        rw [hJ.out]
        show Ending.returned (.bool false) = _
        simp [h1]

theorem joins_any (many : Int) (A : Option Addr) (c : Nat) (xs : List (List Int)) (w : World) (hr : KL.C w A xs.length xs) (hc0 : xs.length ≤ c) (ht : tame xs) (Ap : Option Addr) (cp : Nat) (p : List Int) (hrp : KI.C w Ap p.length p) (hcp : p.length ≤ cp) (hlp : p.length ≤ 1000) :
    Calls Tryd.prog 18 #[.agg #[.int .i64 many, .slice A xs.length c], .slice Ap p.length cp] w fun e w' => e = .returned (.bool (joinsB many xs p)) ∧ Below w.heap.size w w' := by
  unfold joinsB
  cases hR : rightB many xs with
  | false => exact joins_wrong many A c xs w hr hc0 ht Ap cp p hrp hcp hlp hR
  | true =>
    by_cases hne : p.length = xs.length
    · cases hro : rootedB p with
      | false => simpa [hne] using joins_unrooted many A c xs w hr hc0 ht Ap cp p hrp hcp hlp hR hne hro
      | true => simpa [hne] using joins_walk many A c xs w hr hc0 ht Ap cp p hrp hcp hlp hR hne hro
    · simpa [hne] using joins_len many A c xs w hr hc0 ht Ap cp p hrp hcp hlp hR hne

end Go.Proofs.YtnnfhnehieoeaaaDoor.Hy
