/- The range over a set's vertices inside hyper.Of. (written by gen22.py, after A6) -/
import Derived.Test.YtnnfhnehieoeaaaDoorES5
namespace Go.Proofs.YtnnfhnehieoeaaaDoor.Hy
open Go.RowKit Go.Shelf Go.Maps Go.Proofs.YtnnfhnehieoeaaaDoorW.PrintWords Go.Proofs.YtnnfhnehieoeaaaDoorW.PrintLast Go.Proofs.YtnnfhnehieoeaaaDoorW.PrintMore Go.Proofs.YtnnfhnehieoeaaaDoor.PHyperTells
set_option linter.unusedVariables false
set_option linter.unusedSimpArgs false
attribute [local go_sem] Oper.semAt_some

def ofAssign : Code := (Code.region 9 #[{ dst := some 10, op := Op.assign (Operand.tmp 34), type := 3, pos := "hyper.go:76", after := #[], guard := none }] false)
def ofBody : Code := (Code.block 3 (Code.region 10 #[{ dst := some 35, op := Op.load 30 (Operand.tmp 9), type := 30, pos := "hyper.go:77", after := #[], guard := none }, { dst := some 36, op := Op.move (Operand.tmp 10), type := 3, pos := "hyper.go:77", after := #[], guard := none }, { dst := some 37, op := Op.buildSlice 30 1 #[(0, Operand.tmp 36)], type := 30, pos := "hyper.go:77", after := #[{ on := 1, ground := Ground.data }], guard := none }, { dst := some 38, op := Op.call { callee := Callee.builtin Builtin.append, args := #[Operand.tmp 35, Operand.tmp 37], argTypes := #[30, 30] }, type := 30, pos := "hyper.go:77", after := #[{ on := 0, ground := Ground.data }, { on := 2, ground := Ground.data }], guard := none }, { dst := none, op := Op.store 30 (Operand.tmp 9) (Operand.tmp 38), type := 0, pos := "hyper.go:77", after := #[{ on := 3, ground := Ground.data }, { on := 3, ground := Ground.chain }, { on := 0, ground := Ground.phase }, { on := 1, ground := Ground.phase }, { on := 2, ground := Ground.phase }, { on := 3, ground := Ground.phase }], guard := none }] false))
/-- the loop's record -/
def ofRec (fn : FuncId) (fr : Array Value) (D : Nat) (st : LoopState) (pend : Option Code) : Loop :=
  { state := st, pending := pend, fn, tmps := fr, params := #[34], assign := ofAssign, body := ofBody, defers := D }

/-- between two rounds -/
structure OfAt (n0 : Nat) (w0 : World) (fn : FuncId) (fr : Array Value) (Bs l D B : Nat) (ss : List Int) (W : World) : Prop where
  box : ∃ v, W.heap[Bs]? = some (.cells #[v] 30 (0, 0)) ∧ W.ownsRow n0 3 1 v ss.length (ss.map (Value.int .i64))
  L : W.heap[l]? = some (.loop (ofRec fn fr D .ready none))
  K : W.heap[D]? = some (.deferred (some []))
  bx : ∃ u, W.heap[B]? = some (.cells #[u] 53 (0, 0))
  tab : Tab W
  below : Below n0 w0 W

theorem of_set {n0 : Nat} {w0 : World} {fn : FuncId} {fr : Array Value} {Bs l D B : Nat} {ss : List Int} {W : World} (h : OfAt n0 w0 fn fr Bs l D B ss W) (hn : n0 ≤ B) (hn1 : 0 < n0) (v : Value) : OfAt n0 w0 fn fr Bs l D B ss ((W.setCell ⟨B, 0, none⟩ v).drew) := by
  obtain ⟨u, hu⟩ := h.bx
  obtain ⟨vb, hv, hrow⟩ := h.box
  have hg : W.grownBy (W.setCell ⟨B, 0, none⟩ v) (some B) := ap_grownBy_setCell0 W B v
  have ne : ∀ {j : Nat} {o : Obj}, W.heap[j]? = some o → (∀ u, o ≠ .cells #[u] 53 (0, 0)) → (W.setCell ⟨B, 0, none⟩ v).heap[j]? = some o := fun {j o} hj hno =>
    (hg.block j (Array.getElem?_eq_some_iff.1 hj).1 (fun e => by cases e; rw [hu] at hj; cases hj; exact hno u rfl)).trans hj
  have hb : Below n0 w0 (W.setCell ⟨B, 0, none⟩ v) := h.below.grown hg (Nat.le_trans hn (Nat.le_of_lt (Array.getElem?_eq_some_iff.1 hu).1)) (fun k e => by cases e; exact hn)
  refine ⟨⟨vb, ne hv (fun u e => by cases e), ?_⟩, ne h.L (fun u e => by cases e), ne h.K (fun u e => by cases e), ⟨v, box_set v hu⟩, ?_, hb.drew⟩
  · have := hrow.kept hg (ap_ownsRow_ne hrow hu (fun cur e => by cases e))
    exact this
  · have : Tab (W.setCell ⟨B, 0, none⟩ v) := Tab.below (n := n0) h.tab hn1 ((Below.refl n0 W).setCell (p := ⟨B, 0, none⟩) hn v)
    exact this

set_option maxRecDepth 100000 in
set_option maxHeartbeats 2000000 in
theorem ofYield {x0 x1 x2 x3 x4 x5 x6 x7 x8 x10 x11 x12 x13 x14 x15 x16 x17 x18 x19 x20 x21 x22 x23 x24 x25 x26 x27 x28 x29 x30 x31 x32 x33 x34 x35 x36 x37 x38 x39 x40 x41 x42 x43 x44 x45 x46 : Value} (m n0 : Nat) (w0 : World) (fn : FuncId) (Bs l D B : Nat) (hBl : Bs ≠ l) (hDl : D ≠ l) (hDB : D ≠ Bs) (hBBs : B ≠ Bs) (hBl' : B ≠ l) (h0B : n0 ≤ Bs) (h0l : n0 ≤ l) (hn1 : 0 < n0)
    (ss : List Int) (x : Nat) (W : World) (h : OfAt n0 w0 fn #[x0, x1, x2, x3, x4, x5, x6, x7, x8, .pointer (some ⟨Bs, 0, none⟩), x10, x11, x12, x13, x14, x15, x16, x17, x18, x19, x20, x21, x22, x23, x24, x25, x26, x27, x28, x29, x30, x31, x32, x33, x34, x35, x36, x37, x38, x39, x40, x41, x42, x43, x44, x45, x46] Bs l D B ss W) (hlen : ss.length < 64) (hn0 : n0 ≤ W.heap.size) :
    YieldAt Fence.wide m Tryd.prog l #[.int .i64 x] W fun e W' => e = .returned (.bool true) ∧ OfAt n0 w0 fn #[x0, x1, x2, x3, x4, x5, x6, x7, x8, .pointer (some ⟨Bs, 0, none⟩), x10, x11, x12, x13, x14, x15, x16, x17, x18, x19, x20, x21, x22, x23, x24, x25, x26, x27, x28, x29, x30, x31, x32, x33, x34, x35, x36, x37, x38, x39, x40, x41, x42, x43, x44, x45, x46] Bs l D B (ss ++ [(x : Int)]) W' ∧ W'.heap[B]? = W.heap[B]? := by
  obtain ⟨i0, hi, hz0, hz1, hz2⟩ := info_parts info3
  obtain ⟨v, hv, hrow⟩ := h.box
  obtain ⟨u, hu⟩ := h.bx
  refine ⟨fn, #[x0, x1, x2, x3, x4, x5, x6, x7, x8, .pointer (some ⟨Bs, 0, none⟩), x10, x11, x12, x13, x14, x15, x16, x17, x18, x19, x20, x21, x22, x23, x24, x25, x26, x27, x28, x29, x30, x31, x32, x33, .int .i64 x, x35, x36, x37, x38, x39, x40, x41, x42, x43, x44, x45, x46], ofAssign, ofBody, by simpa [ofRec] using run_yield (P := Tryd.prog) (args := #[.int .i64 x]) h.L rfl, roundIn_of_wpIn trivial ?_⟩
  have hl : l < W.heap.size := (Array.getElem?_eq_some_iff.1 h.L).1
  have hbr := run_beginRound (P := Tryd.prog) h.L rfl
  obtain ⟨W2, hW2⟩ : ∃ W2, W.putObj l (.loop { ofRec fn #[x0, x1, x2, x3, x4, x5, x6, x7, x8, .pointer (some ⟨Bs, 0, none⟩), x10, x11, x12, x13, x14, x15, x16, x17, x18, x19, x20, x21, x22, x23, x24, x25, x26, x27, x28, x29, x30, x31, x32, x33, x34, x35, x36, x37, x38, x39, x40, x41, x42, x43, x44, x45, x46] D .ready none with state := .busy }) = W2 := ⟨_, rfl⟩
  rw [hW2] at hbr
  have hg2 : W.grownBy W2 (some l) := by rw [← hW2]; exact ap_grownBy_putObj _ _ _
  have hv2 : W2.heap[Bs]? = some (.cells #[v] 30 (0, 0)) := by rw [← hW2]; exact (World.putObj_heap_other hBl).trans hv
  have hu2 : W2.heap[B]? = some (.cells #[u] 53 (0, 0)) := by rw [← hW2]; exact (World.putObj_heap_other hBl').trans hu
  have hK2 : W2.heap[D]? = some (.deferred (some [])) := by rw [← hW2]; exact (World.putObj_heap_other hDl).trans h.K
  have hL2 : W2.heap[l]? = some (.loop { ofRec fn #[x0, x1, x2, x3, x4, x5, x6, x7, x8, .pointer (some ⟨Bs, 0, none⟩), x10, x11, x12, x13, x14, x15, x16, x17, x18, x19, x20, x21, x22, x23, x24, x25, x26, x27, x28, x29, x30, x31, x32, x33, x34, x35, x36, x37, x38, x39, x40, x41, x42, x43, x44, x45, x46] D .ready none with state := .busy }) := by rw [← hW2]; exact World.putObj_heap_same hl
  have hrow2 : W2.ownsRow n0 3 1 v ss.length (ss.map (Value.int .i64)) := hrow.kept hg2 (ap_ownsRow_ne hrow h.L (fun cur e => by cases e))
  have hb2 : Below n0 w0 W2 := h.below.grown hg2 hn0 (fun k e => by cases e; exact h0l)
  have hbW2 : Below n0 W W2 := (Below.refl n0 W).grown hg2 hn0 (fun k e => by cases e; exact h0l)
  obtain ⟨hc2, hf2⟩ := box_cell hv2
  have hBlt : Bs < W2.heap.size := (Array.getElem?_eq_some_iff.1 hv2).1
  have hBBlt : B < W2.heap.size := (Array.getElem?_eq_some_iff.1 hu2).1
  have hl2 : l < W2.heap.size := (Array.getElem?_eq_some_iff.1 hL2).1
  have hDlt : D < W2.heap.size := (Array.getElem?_eq_some_iff.1 hK2).1
  have ne_of : ∀ {j : Nat} {o : Obj}, W2.heap[j]? = some o → (∀ cur, o ≠ .cells cur 3 (0, 0)) → some j ≠ v.ownBlock := fun hj hno => by
    rcases ap_ownsRow_ne hrow2 hj hno with e | e
    · rw [e]; simp
    · exact fun e' => e e'.symm
  have HTB := Aside0.mk h.tab
  have HU := Aside0.mk hu
  have HU2 := Aside0.mk hu2
  have HBW := Aside0.mk hbW2
  clear hW2 h hu hu2 hbW2
  unfold ofAssign
  gi_wp2
  unfold ofBody
  gi_wp2_with (first
    | (gi_at_builtin; refine wpListIn_append_own _ rfl _ _ 30 rfl n0 3 i0 (.int .i64 0) 1 8 Tryd.underlying30 hi hz0 hz1 hz2 rfl (by decide) _ _ _ rfl (hrow2.alloc _) ⟨W2.heap.size, 0, none⟩ 1 1 [.int .i64 x] rfl rfl (cell_one_new _ _ _) (by simp [Value.oneCell']) (by unfold maxLen; omega) (by omega) (by have := hb2.size; simp; omega) ?_; intro v' w3 hown' hg3 hnil3
       have hv3 : w3.heap[Bs]? = some (.cells #[v] 30 (0, 0)) := (hg3.block Bs (by simp; omega) (ne_of hv2 (fun cur e => by cases e))).trans ((Below.heap_alloc _ _ Bs hBlt).trans hv2)
       obtain ⟨hc3, hf3⟩ := box_cell hv3
       obtain ⟨g', cap', cur', rfl, hbase', hgb', hr1, hr2, hr3, hr4⟩ : ∃ g' cap' cur', v' = .slice (some ⟨g', 0, none⟩) (ss.length + 1) cap' ∧ n0 ≤ g' ∧ w3.heap[g']? = some (.cells cur' 3 (0, 0)) ∧ ss.length + 1 ≤ cap' ∧ cap' ≤ maxLen ∧ cur'.size = cap' * 1 ∧ cur'.toList.take ((ss.length + 1) * 1) = ss.map (Value.int .i64) ++ [.int .i64 x] := by
         rcases hown'.2 with ⟨_, h0⟩ | h'
         · exact absurd h0 (by omega)
         · exact h'
       go_frame))
  have hg3' : (W2.alloc (.cells #[.int .i64 x] 3)).grownBy w3 v.ownBlock := hg3
  have hL3 : w3.heap[l]? = some (.loop { ofRec fn #[x0, x1, x2, x3, x4, x5, x6, x7, x8, .pointer (some ⟨Bs, 0, none⟩), x10, x11, x12, x13, x14, x15, x16, x17, x18, x19, x20, x21, x22, x23, x24, x25, x26, x27, x28, x29, x30, x31, x32, x33, x34, x35, x36, x37, x38, x39, x40, x41, x42, x43, x44, x45, x46] D .ready none with state := .busy }) := (hg3'.block l (by simp; omega) (ne_of hL2 (fun cur e => by cases e))).trans ((Below.heap_alloc _ _ l hl2).trans hL2)
  have hK3 : w3.heap[D]? = some (.deferred (some [])) := (hg3'.block D (by simp; omega) (ne_of hK2 (fun cur e => by cases e))).trans ((Below.heap_alloc _ _ D hDlt).trans hK2)
  have hu3 : w3.heap[B]? = some (.cells #[u] 53 (0, 0)) := (hg3'.block B (by simp; omega) (ne_of HU2.out (fun cur e => by cases e))).trans ((Below.heap_alloc _ _ B hBBlt).trans HU2.out)
  obtain ⟨w4, hw4⟩ : ∃ w4, w3.setCell ⟨Bs, 0, none⟩ (.slice (some ⟨g', 0, none⟩) (ss.length + 1) cap') = w4 := ⟨_, rfl⟩
  rw [hw4]
  have hg4 : w3.grownBy w4 (some Bs) := by rw [← hw4]; exact ap_grownBy_setCell0 _ _ _
  have hv4 : w4.heap[Bs]? = some (.cells #[.slice (some ⟨g', 0, none⟩) (ss.length + 1) cap'] 30 (0, 0)) := by rw [← hw4]; exact box_set _ hv3
  have hL4 : w4.heap[l]? = some (.loop { ofRec fn #[x0, x1, x2, x3, x4, x5, x6, x7, x8, .pointer (some ⟨Bs, 0, none⟩), x10, x11, x12, x13, x14, x15, x16, x17, x18, x19, x20, x21, x22, x23, x24, x25, x26, x27, x28, x29, x30, x31, x32, x33, x34, x35, x36, x37, x38, x39, x40, x41, x42, x43, x44, x45, x46] D .ready none with state := .busy }) := (hg4.block l (Array.getElem?_eq_some_iff.1 hL3).1 (fun e => hBl (by cases e; rfl))).trans hL3
  have hK4 : w4.heap[D]? = some (.deferred (some [])) := (hg4.block D (Array.getElem?_eq_some_iff.1 hK3).1 (fun e => hDB (by cases e; rfl))).trans hK3
  have hu4 : w4.heap[B]? = some (.cells #[u] 53 (0, 0)) := (hg4.block B (Array.getElem?_eq_some_iff.1 hu3).1 (fun e => hBBs (by cases e; rfl))).trans hu3
  have hrow4 := hown'.kept hg4 (ap_ownsRow_ne hown' hv3 (fun cur e => by cases e))
  have hl4 : l < w4.heap.size := (Array.getElem?_eq_some_iff.1 hL4).1
  have hsz2 : n0 ≤ W2.heap.size := Nat.le_trans hn0 HBW.out.size
  have hb3 : Below n0 w0 w3 := (hb2.alloc hsz2 _).grown hg3' (by simp; omega) (fun k e => (hrow2.lt k e).1)
  have hbW3 : Below n0 W w3 := (HBW.out.alloc hsz2 _).grown hg3' (by simp; omega) (fun k e => (hrow2.lt k e).1)
  have hbW4 : Below n0 W w4 := hbW3.grown hg4 (Nat.le_trans hn0 hbW3.size) (fun k e => by cases e; exact h0B)
  have hb4 : Below n0 w0 w4 := hb3.grown hg4 (Nat.le_trans hn0 hbW3.size) (fun k e => by cases e; exact h0B)
  clear hw4
  have hg5 : w4.grownBy (w4.putObj l (.loop { { ofRec fn #[x0, x1, x2, x3, x4, x5, x6, x7, x8, .pointer (some ⟨Bs, 0, none⟩), x10, x11, x12, x13, x14, x15, x16, x17, x18, x19, x20, x21, x22, x23, x24, x25, x26, x27, x28, x29, x30, x31, x32, x33, x34, x35, x36, x37, x38, x39, x40, x41, x42, x43, x44, x45, x46] D .ready none with state := .busy } with state := if (none : Option Code).isNone then .ready else .done, pending := none })) (some l) := ap_grownBy_putObj _ _ _
  refine ⟨_, _, run_endRound none hL4, rfl, ⟨⟨_, (World.putObj_heap_other hBl).trans hv4, ?_⟩, World.putObj_heap_same hl4, (World.putObj_heap_other hDl).trans hK4, ⟨u, (World.putObj_heap_other hBl').trans hu4⟩, HTB.out.below hn1 (hbW4.grown hg5 (Nat.le_trans hn0 hbW4.size) (fun k e => by cases e; exact h0l)), hb4.grown hg5 (Nat.le_trans hn0 hbW4.size) (fun k e => by cases e; exact h0l)⟩, ((World.putObj_heap_other hBl').trans hu4).trans HU.out.symm⟩
  have := hrow4.kept hg5 (ap_ownsRow_ne hrow4 hL4 (fun cur e => by cases e))
  simpa using this


theorem of_kept {n0 : Nat} {w0 : World} {fn : FuncId} {fr : Array Value} {Bs l D B : Nat} {ss : List Int} {W : World} (h : OfAt n0 w0 fn fr Bs l D B ss W) : ∃ v, W.heap[Bs]? = some (.cells #[v] 30 (0, 0)) ∧ W.ownsRow n0 3 1 v ss.length (ss.map (Value.int .i64)) := h.box

set_option maxRecDepth 100000 in
set_option maxHeartbeats 4000000 in
/-- 'for v := range s.each() { row = append(row, v) }', the boxes of row and s being the last two blocks -/
theorem of_range {x0 x1 x2 x3 x4 x5 x6 x7 x8 x10 x11 x12 x13 x14 x15 x16 x17 x18 x19 x20 x21 x22 x23 x24 x25 x26 x27 x28 x29 x30 x31 x32 x33 x34 x35 x36 x37 x38 x39 x40 x41 x42 x43 x44 x45 x46 : Value} {Q : Exit → Act → World → Prop} {ds : List Deferred} (Bs B s : Nat) (hs : s < 18446744073709551616) (w : World) (hx33 : x33 = .func (.func 56) #[] #[.pointer (some ⟨B, 0, none⟩)])
    (hBs : w.heap[Bs]? = some (.cells #[.slice none 0 0] 30 (0, 0))) (hB : w.heap[B]? = some (.cells #[.int .u64 s] 53 (0, 0))) (hBB : Bs < B) (hT : Tab w) (hB0 : 0 < Bs)
    (hdone : ∀ (D : Nat) (W : World) (v : Value), w.heap.size ≤ D → W.heap[D]? = some (.deferred (some [])) → W.heap[Bs]? = some (.cells #[v] 30 (0, 0)) → KI.R 3 W Bs anyK v (bitsL s) → Below Bs w W → Q .normal { tmps := #[x0, x1, x2, x3, x4, x5, x6, x7, x8, .pointer (some ⟨Bs, 0, none⟩), x10, x11, x12, x13, x14, x15, x16, x17, x18, x19, x20, x21, x22, x23, x24, x25, x26, x27, x28, x29, x30, x31, x32, x33, x34, x35, x36, x37, x38, x39, x40, x41, x42, x43, x44, x45, x46], defers := { target := .collected D, args := #[] } :: ds } W) :
    (Code.rangeFunc (Operand.tmp 33) #[34] ofAssign ofBody).wp Tryd.prog Q { tmps := #[x0, x1, x2, x3, x4, x5, x6, x7, x8, .pointer (some ⟨Bs, 0, none⟩), x10, x11, x12, x13, x14, x15, x16, x17, x18, x19, x20, x21, x22, x23, x24, x25, x26, x27, x28, x29, x30, x31, x32, x33, x34, x35, x36, x37, x38, x39, x40, x41, x42, x43, x44, x45, x46], defers := ds } w := by
  have eg : ∀ args w, (callFunc 56 args).run Tryd.prog w = .ok (.enter 56 args) w := enters_of Tryd.func56 (by kernel_rfl) rfl
  have HBX := Aside0.mk hB
  have HBS := Aside0.mk hBs
  have HT := Aside0.mk hT
  have HDONE := Aside0.mk hdone
  have hBlt : B < w.heap.size := (Array.getElem?_eq_some_iff.1 hB).1
  clear hB hT hdone hBs
  refine (wpIn_wide (n := 4)).1 (wpIn_rangeFunc ?_)
  intro fn hfn
  obtain ⟨W1, hW1⟩ : ∃ W1, (w.alloc (.deferred (some []))).alloc (.loop (ofRec fn #[x0, x1, x2, x3, x4, x5, x6, x7, x8, .pointer (some ⟨Bs, 0, none⟩), x10, x11, x12, x13, x14, x15, x16, x17, x18, x19, x20, x21, x22, x23, x24, x25, x26, x27, x28, x29, x30, x31, x32, x33, x34, x35, x36, x37, x38, x39, x40, x41, x42, x43, x44, x45, x46] w.heap.size .ready none)) = W1 := ⟨_, rfl⟩
  have hold : ∀ k, k < w.heap.size → W1.heap[k]? = w.heap[k]? := fun k hk => by
    rw [← hW1]; exact (Below.heap_alloc _ _ k (by simp; omega)).trans (Below.heap_alloc _ _ k hk)
  have hb1 : Below w.heap.size w W1 := by rw [← hW1]; exact ((Below.refl _ w).alloc (Nat.le_refl _) _).alloc (by simp) _
  have hs1 : W1.heap.size = w.heap.size + 2 := by rw [← hW1]; simp
  have hBX1 : W1.heap[B]? = some (.cells #[.int .u64 s] 53 (0, 0)) := (hold B (by omega)).trans HBX.out
  have hM : OfAt Bs w fn #[x0, x1, x2, x3, x4, x5, x6, x7, x8, .pointer (some ⟨Bs, 0, none⟩), x10, x11, x12, x13, x14, x15, x16, x17, x18, x19, x20, x21, x22, x23, x24, x25, x26, x27, x28, x29, x30, x31, x32, x33, x34, x35, x36, x37, x38, x39, x40, x41, x42, x43, x44, x45, x46] Bs (w.heap.size + 1) w.heap.size B [] W1 :=
    ⟨⟨_, (hold Bs (by omega)).trans HBS.out, ⟨rfl, .inl ⟨rfl, rfl⟩⟩⟩,
     by rw [← hW1]; have := World.alloc_heap_new (w.alloc (.deferred (some []))) (.loop (ofRec fn #[x0, x1, x2, x3, x4, x5, x6, x7, x8, .pointer (some ⟨Bs, 0, none⟩), x10, x11, x12, x13, x14, x15, x16, x17, x18, x19, x20, x21, x22, x23, x24, x25, x26, x27, x28, x29, x30, x31, x32, x33, x34, x35, x36, x37, x38, x39, x40, x41, x42, x43, x44, x45, x46] w.heap.size .ready none)); rwa [World.size_alloc] at this,
     by rw [← hW1]; exact (Below.heap_alloc _ _ _ (by simp)).trans (World.alloc_heap_new w _), ⟨_, hBX1⟩, HT.out.below HT.out.lt hb1, hb1.mono (by omega)⟩
  refine ⟨w.heap.size + 1, [{ target := .collected w.heap.size, args := #[] }], W1, { target := .fn (.func 56) #[.pointer (some ⟨B, 0, none⟩)], args := #[.func (.yield (w.heap.size + 1)) #[] #[]] }, W1, 56,
    #[.func (.yield (w.heap.size + 1)) #[] #[]] ++ #[.pointer (some ⟨B, 0, none⟩)], W1, ?_, ?_, ?_, ?_, fun _ => (by decide), ?_⟩
  · rw [← hW1]; exact run_enterLoop_outer _ _ _ _ _
  · simp [resolve, go_sem, hx33]
  · intro f' hf'; trivial
  · simp [invoke, go_sem, eg]
  · have hJS : ∀ pre W v, (OfAt Bs w fn #[x0, x1, x2, x3, x4, x5, x6, x7, x8, .pointer (some ⟨Bs, 0, none⟩), x10, x11, x12, x13, x14, x15, x16, x17, x18, x19, x20, x21, x22, x23, x24, x25, x26, x27, x28, x29, x30, x31, x32, x33, x34, x35, x36, x37, x38, x39, x40, x41, x42, x43, x44, x45, x46] Bs (w.heap.size + 1) w.heap.size B pre W ∧ w.heap.size ≤ W.heap.size) → (OfAt Bs w fn #[x0, x1, x2, x3, x4, x5, x6, x7, x8, .pointer (some ⟨Bs, 0, none⟩), x10, x11, x12, x13, x14, x15, x16, x17, x18, x19, x20, x21, x22, x23, x24, x25, x26, x27, x28, x29, x30, x31, x32, x33, x34, x35, x36, x37, x38, x39, x40, x41, x42, x43, x44, x45, x46] Bs (w.heap.size + 1) w.heap.size B pre ((W.setCell ⟨B, 0, none⟩ v).drew) ∧ w.heap.size ≤ ((W.setCell ⟨B, 0, none⟩ v).drew).heap.size) := fun pre W v h =>
      ⟨of_set h.1 (by omega) hB0 v, (of_set h.1 (by omega) hB0 v).below.size⟩
    refine (each1_in 3 (by omega) (w.heap.size + 1) B s hs (fun pre W => OfAt Bs w fn #[x0, x1, x2, x3, x4, x5, x6, x7, x8, .pointer (some ⟨Bs, 0, none⟩), x10, x11, x12, x13, x14, x15, x16, x17, x18, x19, x20, x21, x22, x23, x24, x25, x26, x27, x28, x29, x30, x31, x32, x33, x34, x35, x36, x37, x38, x39, x40, x41, x42, x43, x44, x45, x46] Bs (w.heap.size + 1) w.heap.size B pre W ∧ w.heap.size ≤ W.heap.size)
      hJS (fun pre W h => h.1.tab) (fun pre x W hx hl hJ => ?_) W1 hBX1 ⟨hM, by omega⟩).mono ?_
    · refine (ofYield 2 Bs w fn Bs (w.heap.size + 1) w.heap.size B (by omega) (by omega) (by omega) (by omega) (by omega) (by omega) (by omega) hB0 pre x W hJ.1 hl (by omega)).mono ?_
      rintro e W' ⟨he, hA, hk⟩
      exact ⟨he, ⟨hA, hA.below.size⟩, hk⟩
    rintro e W2 ⟨⟨v0, rfl⟩, h2, _⟩
    obtain ⟨v, hv, hrow⟩ := h2.box
    have hend := run_endLoop (P := Tryd.prog) h2.L (by simp [ofRec])
    obtain ⟨W3, hW3⟩ : ∃ W3, W2.putObj (w.heap.size + 1) (.loop { ofRec fn #[x0, x1, x2, x3, x4, x5, x6, x7, x8, .pointer (some ⟨Bs, 0, none⟩), x10, x11, x12, x13, x14, x15, x16, x17, x18, x19, x20, x21, x22, x23, x24, x25, x26, x27, x28, x29, x30, x31, x32, x33, x34, x35, x36, x37, x38, x39, x40, x41, x42, x43, x44, x45, x46] w.heap.size .ready none with state := .exhausted }) = W3 := ⟨_, rfl⟩
    rw [hW3] at hend
    have hg3 : W2.grownBy W3 (some (w.heap.size + 1)) := by rw [← hW3]; exact ap_grownBy_putObj _ _ _
    have hv3 : W3.heap[Bs]? = some (.cells #[v] 30 (0, 0)) := by rw [← hW3]; exact (World.putObj_heap_other (by omega)).trans hv
    have hK3 : W3.heap[w.heap.size]? = some (.deferred (some [])) := by rw [← hW3]; exact (World.putObj_heap_other (by omega)).trans h2.K
    have hrow3 := hrow.kept hg3 (ap_ownsRow_ne hrow h2.L (fun cur e => by cases e))
    have hz2 := h2.below.size
    have hb3 : Below Bs w W3 := h2.below.grown hg3 (by omega) (fun k e => by cases e; omega)
    refine ⟨none, W3, hend, ?_⟩
    exact HDONE.out w.heap.size W3 v (Nat.le_refl _) hK3 hv3 (Kd.R_of_own hrow3 (fun _ _ => trivial)) hb3

end Go.Proofs.YtnnfhnehieoeaaaDoor.Hy

/- Contract of hyper.Of, where it may be. (written by gen23.py) -/
namespace Go.Proofs.YtnnfhnehieoeaaaDoor.Hy
open Go.RowKit Go.Shelf Go.Proofs.YtnnfhnehieoeaaaDoorW.PrintWords Go.Proofs.YtnnfhnehieoeaaaDoorW.PrintLast Go.Proofs.YtnnfhnehieoeaaaDoorW.PrintMore Go.Proofs.YtnnfhnehieoeaaaDoor.PHyperTells
set_option linter.unusedVariables false
set_option linter.unusedSimpArgs false

theorem of1_any (i : Int) (A : Option Addr) (c : Nat) (xs : List Int) (many : Int) (b : Nat) (w : World) (hm : w.cell? ⟨b, 0, none⟩ = some (.int .i64 many)) (hr : KI.C w A xs.length xs) (hc0 : xs.length ≤ c) (hlen : (xs.length : Int) ≤ 1099511627776) :
    Calls Tryd.prog 51 #[.int .i64 i, .slice A xs.length c, .pointer (some ⟨b, 0, none⟩)] w fun e w' => e = .returned (.bool (allB (fun i => vtx many (rd xs i)) xs.length)) ∧ Below w.heap.size w w' := by
  have HV := Aside0.mk (vertices_any A c xs many w hr hc0 hlen)
  clear hr
  go_enter Tryd.func51, Tryd.ntmps51
  go_wp2_with (go_at_call 44; refine (HV.out).mono ?_; rintro e w' ⟨rfl, hb⟩; have HB := Aside0.mk hb; clear hb)
  go_ret
  exact ⟨rfl, HB.out⟩

/-- may these be edges' vertices? -/
def vtxAll (many : Int) (xs : List (List Int)) : Bool := allB (fun i => allB (fun j => vtx many (rd (rdL xs i) j)) (rdL xs i).length) xs.length


/-- the frame at the loop's head -/
def frame23 (g4 g6 : Nat) (sl : Value) (n : Int) (j : Int) (u : Nat → Value) (ds : List Deferred) : Act := { tmps := #[u 0, u 1, u 2, u 3, .pointer (some ⟨g4, 0, none⟩), u 5, .pointer (some ⟨g6, 0, none⟩), u 7, u 8, u 9, u 10, u 11, u 12, u 13, u 14, u 15, u 16, u 17, u 18, u 19, u 20, u 21, u 22, u 23, u 24, sl, .int .i64 n, .int .i64 j, u 28, u 29, u 30, u 31, u 32, u 33, u 34, u 35, u 36, u 37, u 38, u 39, u 40, u 41, u 42, u 43, u 44, u 45, u 46], defers := ds }
set_option maxRecDepth 100000 in
theorem frame23_of {g4 g6 : Nat} {sl : Value} {n j : Int} {ds : List Deferred} {v0 v1 v2 v3 v5 v7 v8 v9 v10 v11 v12 v13 v14 v15 v16 v17 v18 v19 v20 v21 v22 v23 v24 v28 v29 v30 v31 v32 v33 v34 v35 v36 v37 v38 v39 v40 v41 v42 v43 v44 v45 v46 : Value} : ∃ u, ({ tmps := #[v0, v1, v2, v3, .pointer (some ⟨g4, 0, none⟩), v5, .pointer (some ⟨g6, 0, none⟩), v7, v8, v9, v10, v11, v12, v13, v14, v15, v16, v17, v18, v19, v20, v21, v22, v23, v24, sl, .int .i64 n, .int .i64 j, v28, v29, v30, v31, v32, v33, v34, v35, v36, v37, v38, v39, v40, v41, v42, v43, v44, v45, v46], defers := ds } : Act) = frame23 g4 g6 sl n j u ds := ⟨fun n => match n with | 0 => v0 | 1 => v1 | 2 => v2 | 3 => v3 | 5 => v5 | 7 => v7 | 8 => v8 | 9 => v9 | 10 => v10 | 11 => v11 | 12 => v12 | 13 => v13 | 14 => v14 | 15 => v15 | 16 => v16 | 17 => v17 | 18 => v18 | 19 => v19 | 20 => v20 | 21 => v21 | 22 => v22 | 23 => v23 | 24 => v24 | 28 => v28 | 29 => v29 | 30 => v30 | 31 => v31 | 32 => v32 | 33 => v33 | 34 => v34 | 35 => v35 | 36 => v36 | 37 => v37 | 38 => v38 | 39 => v39 | 40 => v40 | 41 => v41 | 42 => v42 | 43 => v43 | 44 => v44 | 45 => v45 | 46 => v46 | _ => undef, rfl⟩
def marks (Ds : List Nat) : List Deferred := Ds.map (fun D => { target := .collected D, args := #[] })

theorem leaves_marks {fn : Func} {tmps : Array Value} {R : Ending → World → Prop} : ∀ (Ds : List Nat) (W : World), Ds.Nodup → (∀ D, D ∈ Ds → W.heap[D]? = some (.deferred (some []))) →
    (∀ W', (∀ k, (∀ D, D ∈ Ds → k ≠ D) → W'.heap[k]? = W.heap[k]?) → W'.heap.size = W.heap.size → W'.os = W.os → W'.tape = W.tape → W'.output = W.output → ∃ v, (results fn tmps).run Tryd.prog W' = .ok v W' ∧ R (.returned v) W') →
    LeavesInM Fence.wide 4 Tryd.prog fn tmps R (marks Ds) .returning W
  | [], W, _, _, h => by
    obtain ⟨v, h1, h2⟩ := h W (fun _ _ => rfl) rfl rfl rfl rfl
    exact ⟨v, h1, h2⟩
  | D :: Ds, W, hn, hD, h => by
    rw [List.nodup_cons] at hn
    refine ⟨by simp, .inl ⟨D, W.putObj D (.deferred none), rfl, run_takeDeferred (hD D List.mem_cons_self), ?_⟩⟩
    refine leaves_marks Ds _ hn.2 (fun D' h' => ?_) (fun W' h1 h2 h3 h4 h5 => ?_)
    · have hne : D' ≠ D := fun e => hn.1 (e ▸ h')
      exact (World.putObj_heap_other hne).trans (hD D' (List.mem_cons_of_mem _ h'))
    · refine h W' (fun k hk => ?_) (h2.trans (by simp)) h3 h4 h5
      rw [h1 k (fun D' hD' => hk D' (List.mem_cons_of_mem _ hD'))]
      exact World.putObj_heap_other (hk D List.mem_cons_self)

set_option maxHeartbeats 4000000 in
set_option maxRecDepth 100000 in
theorem of_call (many : Int) (A : Option Addr) (c : Nat) (xs : List (List Int)) (w : World) (hr : KL.C w A xs.length xs) (hc0 : xs.length ≤ c) (ht : tame xs) (hT : Tab w) (hsz : sizesB many xs.length = true) (hm64 : many ≤ 32) (hvx : vtxAll many xs = true) :
    Calls Tryd.prog 24 #[.int .i64 many, .slice A xs.length c] w fun e w' => ∃ v, e = .returned (.tuple #[.agg #[.int .i64 many, v], .int .i64 0]) ∧ KL.R 30 w' w.heap.size anyK v (xs.map (fun e => bitsL (setOf e))) ∧ Below w.heap.size w w' := by
  have eg51 : ∀ args w, (callFunc 51 args).run Tryd.prog w = .ok (.enter 51 args) w := enters_of Tryd.func51 (by kernel_rfl) rfl
  have HR := Aside0.mk hr
  have HT := Aside0.mk hT
  have hx1000 := ht.1
  have HSZ : Aside0 (∀ w, Calls Tryd.prog 41 #[.int .i64 many, .int .i64 xs.length] w fun e w' => e = .returned (.bool true) ∧ w = w') := ⟨fun w => by have := sizes_any many xs.length w; rw [hsz] at this; exact this⟩
  have HALL : Aside0 (∀ (b : Nat) (W : World), Below w.heap.size w W → W.cell? ⟨b, 0, none⟩ = some (.int .i64 many) → Calls Tryd.prog 42 #[.slice A xs.length c, .func (.func 51) #[] #[.pointer (some ⟨b, 0, none⟩)]] W fun e w' => e = .returned (.bool true) ∧ Below W.heap.size W w') := ⟨fun b W hb hm => by
    have := all_rows 51 #[.pointer (some ⟨b, 0, none⟩)] eg51 A c xs (fun i => allB (fun j => vtx many (rd (rdL xs i) j)) (rdL xs i).length) W (Kd.C_below hr hb) hc0 ht.short.1 (fun wr hbr i hi A0 c0 hxc hxr =>
      of1_any i A0 c0 (rdL xs i) many b wr ((hbr.cell (World.block_lt_of_cell? W _ hm)).trans hm) hxr hxc (ht.short.2 i))
    rw [show allB (fun i => allB (fun j => vtx many (rd (rdL xs i) j)) (rdL xs i).length) xs.length = true from hvx] at this
    exact this⟩
  clear hr hT hsz
  refine callsIn_wide.1 (callsIn_of_wp_marks (n := 4) Tryd.func24 rfl trivial (wpIn_wide.2 ?_) rfl)
  simp only [Tryd.ntmps24, List.size_toArray, List.length_cons, List.length_nil, Nat.reduceAdd, Nat.reduceSub, Array.replicate_succ, Array.replicate_zero, List.push_toArray, List.append_toArray, List.nil_append, List.cons_append]
  obtain ⟨W1, hW1⟩ : ∃ W1, W1 = (w.alloc (.cells #[.int .i64 many] 3)).alloc (.cells #[.int .i64 0, .slice none 0 0] 24) := ⟨_, rfl⟩
  have hb1 : Below w.heap.size w W1 := by rw [hW1]; exact ((Below.refl _ w).alloc (Nat.le_refl _) _).alloc (by simp) _
  have hg1 : W1.heap[w.heap.size]? = some (.cells #[.int .i64 many] 3 (0, 0)) := by rw [hW1]; exact blk_alloc (blk_new w _) _
  have hg2 : W1.heap[w.heap.size + 1]? = some (.cells #[.int .i64 0, .slice none 0 0] 24 (0, 0)) := by rw [hW1]; have := blk_new (w.alloc (.cells #[.int .i64 many] 3)) (.cells #[.int .i64 0, .slice none 0 0] 24); rwa [World.size_alloc] at this
  have HC1 : Aside0 (Calls Tryd.prog 42 #[.slice A xs.length c, .func (.func 51) #[] #[.pointer (some ⟨w.heap.size, 0, none⟩)]] ((w.alloc (.cells #[.int .i64 many] 3)).alloc (.cells #[.int .i64 0, .slice none 0 0] 24)) fun e w' => e = .returned (.bool true) ∧ Below W1.heap.size W1 w') := ⟨by rw [← hW1]; exact HALL.out _ W1 hb1 ((blk_cell hg1 0).trans rfl)⟩
  have HB1 := Aside0.mk hb1
  have HG1 := Aside0.mk hg1
  have HG2 := Aside0.mk hg2
  clear hW1 hb1 hg1 hg2
  go_wp2_with (first | (go_at_call 41; refine (HSZ.out _).mono ?_; rintro e w1 ⟨rfl, rfl⟩) | (go_at_call 42; refine (HC1.out).mono ?_; rintro e w2 ⟨rfl, hb2⟩; have HB2 := Aside0.mk (HB1.out.trans (hb2.mono HB1.out.size)); have HG12 := Aside0.mk (blk_below HG1.out hb2); have HG22 := Aside0.mk (blk_below HG2.out hb2); have hcm : w2.cell? ⟨w.heap.size, 0, none⟩ = some (.int .i64 many) := (blk_cell HG12.out 0).trans rfl; clear hb2))
  clear hcm
  obtain ⟨g4, hg4⟩ : ∃ g4, g4 = w.heap.size + 1 := ⟨_, rfl⟩
  obtain ⟨g6, hg6⟩ : ∃ g6, g6 = w2.heap.size := ⟨_, rfl⟩
  have HG4 : Aside0 (w.heap.size ≤ g4 ∧ g4 < g6) := ⟨by have := blk_lt HG22.out; omega⟩
  have HB3 : Aside0 (Below w.heap.size w (w2.alloc (.cells #[.int .i64 many, .slice none 0 0] 24))) := ⟨HB2.out.alloc HB2.out.size _⟩
  have HC4 : Aside0 ((w2.alloc (.cells #[.int .i64 many, .slice none 0 0] 24)).heap[g4]? = some (.cells #[.int .i64 0, .slice none 0 0] 24 (0, 0))) := ⟨by rw [hg4]; exact blk_alloc HG22.out _⟩
  have HC6 : Aside0 ((w2.alloc (.cells #[.int .i64 many, .slice none 0 0] 24)).heap[g6]? = some (.cells #[.int .i64 many, .slice none 0 0] 24 (0, 0))) := ⟨by rw [hg6]; exact blk_new _ _⟩
  rw [← hg4, ← hg6]
  clear hg4 hg6
  refine wp_loop_ghost (fun k a' w' => ∃ (j : Nat) (Ds : List Nat) (v : Value), (∃ u : Nat → Value, a' = frame23 g4 g6 (.slice A xs.length c) xs.length j u (marks Ds)) ∧ j ≤ xs.length ∧ k + j = xs.length ∧ KL.R 30 w' w.heap.size anyK v ((xs.take j).map (fun e => bitsL (setOf e))) ∧ w'.heap[g6]? = some (.cells #[.int .i64 many, v] 24 (0, 0)) ∧ w'.heap[g4]? = some (.cells #[.int .i64 0, .slice none 0 0] 24 (0, 0)) ∧ Below w.heap.size w w' ∧ Ds.Nodup ∧ ∀ D, D ∈ Ds → w.heap.size ≤ D ∧ w'.heap[D]? = some (.deferred (some []))) xs.length ?_ ?_
  · exact ⟨0, [], .slice none 0 0, frame23_of, by omega, by omega, Kd.R_nil _ _ _ _ _, HC6.out, HC4.out, HB3.out, List.nodup_nil, fun D h => by cases h⟩
  · rintro k a' wr ⟨j, Ds, v, ⟨u, rfl⟩, hj, hk, hO, hC6, hC4, hB, hnd, hDs⟩
    go_hide hQK
    have HQ := Aside0.mk hQK
    clear hQK
    unfold frame23
    obtain ⟨Av, nv, cv, hvf⟩ := RL_form hO
    subst hvf
    have HO := Aside0.mk hO
    have HK := Aside0.mk hk
    have H6 := Aside0.mk hC6
    have H4 := Aside0.mk hC4
    have HB := Aside0.mk hB
    have HND := Aside0.mk hnd
    have HDS := Aside0.mk hDs
    clear hO hk hC6 hC4 hB hnd hDs HB3 HC4 HC6
    by_cases hlt : j < xs.length
    · obtain ⟨ad, A0, c0, hA, hx, hxc, hxr⟩ := at_row (Kd.C_below HR.out HB.out) j hlt
      subst hA
      have hel : (rdL xs j).length ≤ 1000 := by rw [rdL_at xs j hlt]; exact ht.2 _ (List.getElem_mem hlt)
      obtain ⟨e, he⟩ : ∃ e, e = rdL xs j := ⟨_, rfl⟩
      rw [← he] at hx hxc hxr hel
      have HE : Aside0 (e = xs[j]) := ⟨he.trans (rdL_at xs j hlt)⟩
      have HXR := Aside0.mk hxr
      have hsm : small e := fun z hz => by
        have h1 := (allB_iff _ _).1 hvx j hlt
        rw [← he] at h1
        obtain ⟨q, hq, rfl⟩ := List.mem_iff_getElem.1 hz
        have h2 := (allB_iff _ _).1 h1 q hq
        have hrd : rd e (q : Int) = e[q] := by simp [rd, List.getD_eq_getElem?_getD, List.getElem?_eq_getElem hq]
        rw [hrd] at h2
        unfold vtx at h2
        rw [Bool.and_eq_true] at h2
        have h3 := of_decide_eq_true h2.1
        have h4 := of_decide_eq_true h2.2
        omega
      have HSM := Aside0.mk hsm
      have HSL := Aside0.mk (setOf_lt e hsm)
      clear hxr he hsm
      go_wp2_with (first
        | (go_at_call 31; refine (of_any A0 c0 e _ (Kd.C_below HXR.out ((Below.refl _ _).alloc (Nat.le_refl _) _)) hxc HSM.out (by omega)).mono ?_; rintro e' w3 ⟨rfl, hd⟩; have hbd := hd.below; have HB3 := Aside0.mk (((Below.refl wr.heap.size wr).alloc (Nat.le_refl _) (.cells #[.slice none 0 0] 30)).trans (hbd.mono (by simp))); have HBS := Aside0.mk (blk_below (blk_new wr (.cells #[.slice none 0 0] 30)) hbd); clear hd hbd)
        | (go_at_call 34; refine (each_any (setOf e : Nat) _).mono ?_; rintro e' we ⟨rfl, rfl⟩))
      have hB4 : Below wr.heap.size wr (w3.alloc (.cells #[.int .u64 (setOf e : Nat)] 53)) := HB3.out.alloc HB3.out.size _
      have hlt3 : wr.heap.size < w3.heap.size := blk_lt HBS.out
      refine of_range wr.heap.size w3.heap.size (setOf e) HSL.out _ rfl (blk_alloc HBS.out _) (blk_new _ _) hlt3 (HT.out.below HT.out.lt (HB.out.trans (hB4.mono HB.out.size))) (Nat.lt_of_lt_of_le HT.out.lt HB.out.size) ?_
      intro D W v' hD hK hBs' hR' hb'
      have hBW : Below wr.heap.size wr W := hB4.trans hb'
      obtain ⟨A5, n5, c5, hv5⟩ := R_form hR'
      subst hv5
      have H6W := blk_below H6.out hBW
      have HV := Aside0.mk hR'
      have HBW := Aside0.mk hBW
      have HKD := Aside0.mk hK
      have HD := Aside0.mk hD
      have HLN : Aside0 (((xs.take j).map (fun e => bitsL (setOf e))).length ≤ 1099511627776) := ⟨by simp; omega⟩
      have hq0 : W.cell? ⟨g6, 0, none⟩ = some (.int .i64 many) := (blk_cell H6W 0).trans rfl
      have hq1 : W.cell? ⟨g6, 1, none⟩ = some (.slice Av nv cv) := (blk_cell H6W 1).trans rfl
      have hq2 : W.cell? ⟨wr.heap.size, 0, none⟩ = some (.slice A5 n5 c5) := (blk_cell hBs' 0).trans rfl
      have H6V := Aside0.mk H6W
      clear hB4 hlt3 hD hK hBs' hR' hb' hBW H6W
      go_wp2_with (at_builtin; refine app_row3 (.tmp 40) (.tmp 42) rfl rfl rfl rfl HO.out HV.out HBW.out HB.out HB.out.size HLN.out ?_; intro v6 w7 ho6 hb6 hg6; obtain ⟨A6, n6, c6, hv6⟩ := RL_form ho6; subst hv6; have HO6 := Aside0.mk ho6; have HB6 := Aside0.mk hb6; have HG6 := Aside0.mk hg6; have H67 := Aside0.mk (blk_grown H6V.out hg6 (R_ne_obj (Kd.R_below HO.out HBW.out) H6V.out (fun cells e => by cases e))); have hf61 : w7.frozen? ⟨g6, 1, none⟩ = false := blk_frozen H67.out 1; have hc61 : w7.cell? ⟨g6, 1, none⟩ = some (.slice Av nv cv) := (blk_cell H67.out 1).trans rfl; clear ho6 hb6 hg6)
      clear hq0 hq1 hq2 hf61 hc61
      rw [← HQ.out, show ((j : Int) + 1) = ((j + 1 : Nat) : Int) from by omega]
      have hkeep : ∀ D' : Nat, W.heap[D']? = some (Obj.deferred (some [])) → (w7.setCell ⟨g6, 1, none⟩ (.slice A6 n6 c6)).heap[D']? = some (Obj.deferred (some [])) := fun D' h => by
        have h1 := blk_grown h HG6.out (R_ne_obj (Kd.R_below HO.out HBW.out) h (fun cells e => by cases e))
        have hne : D' ≠ g6 := by rintro rfl; rw [H67.out] at h1; cases h1
        exact (Below.heap_setCell w7 ⟨g6, 1, none⟩ _ D' hne).trans h1
      refine ⟨k - 1, by have := HK.out; omega, j + 1, D :: Ds, .slice A6 n6 c6, frame23_of, by omega, by have := HK.out; omega, ?_, (blk_set H67.out 1 _).trans rfl, ?_, ?_, ?_, ?_⟩
      · have e1 : (xs.take (j + 1)).map (fun e => bitsL (setOf e)) = (xs.take j).map (fun e => bitsL (setOf e)) ++ [bitsL (setOf e)] := by
          rw [List.take_succ_eq_append_getElem hlt, List.map_append, ← HE.out]; rfl
        rw [e1]
        exact Kd.R_set HO6.out H67.out (fun q hq => by have hq' : q ∈ [30, 3] := hq; simp at hq'; omega) 1 _
      · exact blk_far (blk_grown (blk_below H4.out HBW.out) HG6.out (R_ne_obj (Kd.R_below HO.out HBW.out) (blk_below H4.out HBW.out) (fun cells e => by cases e))) (by have := HG4.out.2; simp; omega) _
      · exact HB6.out.grown (set_grown w7 g6 1 _) HB6.out.size (fun k hk => by injection hk with hk; have := HG4.out; omega)
      · rw [List.nodup_cons]
        refine ⟨fun h => ?_, HND.out⟩
        have h1 := (Array.getElem?_eq_some_iff.1 (HDS.out D h).2).1
        have h2 := HD.out
        have h3 := HB3.out.size
        simp at h2
        omega
      · intro D' h'
        rcases List.mem_cons.1 h' with rfl | h'
        · refine ⟨?_, hkeep _ HKD.out⟩
          have h2 := HD.out
          have h3 := HB3.out.size
          have h4 := HB.out.size
          simp at h2
          omega
        · exact ⟨(HDS.out D' h').1, hkeep _ (blk_below (HDS.out D' h').2 HBW.out)⟩
    · have hje : j = xs.length := by omega
      subst hje
      have hq0 : wr.cell? ⟨g6, 0, none⟩ = some (.int .i64 many) := (blk_cell H6.out 0).trans rfl
      have hq1 : wr.cell? ⟨g6, 1, none⟩ = some (.slice Av nv cv) := (blk_cell H6.out 1).trans rfl
      have hr0 : wr.cell? ⟨g4, 0, none⟩ = some (.int .i64 0) := (blk_cell H4.out 0).trans rfl
      have hr1 : wr.cell? ⟨g4, 1, none⟩ = some (.slice none 0 0) := (blk_cell H4.out 1).trans rfl
      have hf0 : wr.frozen? ⟨g4, 0, none⟩ = false := blk_frozen H4.out 0
      have hf1 : wr.frozen? ⟨g4, 1, none⟩ = false := blk_frozen H4.out 1
      go_wp2
      rw [← HQ.out]
      simp only [Exit.then, Exit.inBlock]
      go_wp2
      obtain ⟨WE, hWE⟩ : ∃ WE, WE = (wr.setCell ⟨g4, 0, none⟩ (.int .i64 many)).setCell ⟨g4, 1, none⟩ (.slice Av nv cv) := ⟨_, rfl⟩
      have e4 : WE.heap[g4]? = some (.cells #[.int .i64 many, .slice Av nv cv] 24 (0, 0)) := by rw [hWE]; exact (blk_set ((blk_set H4.out 0 (.int .i64 many)).trans rfl) 1 _).trans rfl
      have hg1 := set_grown wr g4 0 (.int .i64 many)
      have hg2 := set_grown (wr.setCell ⟨g4, 0, none⟩ (.int .i64 many)) g4 1 (.slice Av nv cv)
      have eB : Below w.heap.size w WE := by
        rw [hWE]
        exact ((HB.out.grown hg1 HB.out.size (fun k hk => by injection hk with hk; have := HG4.out; omega))).grown hg2 (Nat.le_trans HB.out.size hg1.size) (fun k hk => by injection hk with hk; have := HG4.out; omega)
      have hE : ∀ q, q ∈ 30 :: KL.E → q ≠ 24 := fun q hq => by have hq' : q ∈ [30, 3] := hq; simp at hq'; omega
      have eR : KL.R 30 WE w.heap.size anyK (.slice Av nv cv) ((xs.take xs.length).map (fun e => bitsL (setOf e))) := by
        rw [hWE]
        exact Kd.R_set (Kd.R_set HO.out H4.out hE 0 _) ((blk_set H4.out 0 (.int .i64 many)).trans rfl) hE 1 _
      have eD : ∀ D, D ∈ Ds → WE.heap[D]? = some (Obj.deferred (some [])) := fun D h => by
        have h1 := (HDS.out D h).2
        have hne : D ≠ g4 := by rintro rfl; rw [H4.out] at h1; cases h1
        rw [hWE]
        exact (Below.heap_setCell _ ⟨g4, 1, none⟩ _ D hne).trans ((Below.heap_setCell wr ⟨g4, 0, none⟩ _ D hne).trans h1)
      rw [← hWE]
      show LeavesInM Fence.wide 4 Tryd.prog Tryd.f24 _ _ (marks Ds) .returning WE
      refine leaves_marks Ds WE HND.out eD (fun W' h1 h2 h3 h4 h5 => ?_)
      have n4 : ∀ D, D ∈ Ds → g4 ≠ D := fun D h e => by subst e; rw [eD _ h] at e4; cases e4
      refine ⟨_, results_ct rfl _ W' g4 24 #[.int .i64 many, .slice Av nv cv] (0, 0) _ rfl ((h1 g4 n4).trans e4) Tryd.underlying24 rfl (by kernel_rfl), .slice Av nv cv, rfl, ?_, ?_⟩
      · rw [List.take_of_length_le (Nat.le_refl _)] at eR
        refine Kd.R_mono (Kd.R_move (Kd.R_bound eR) (fun k hk => h1 k (fun D hD e => ?_))) (fun _ _ => trivial)
        obtain ⟨_, _, _, q, _, cells, hc⟩ := hk
        subst e
        rw [eD _ hD] at hc; cases hc
      · refine ⟨h3.trans eB.os, h4.trans eB.tape, h5.trans eB.output, by rw [h2]; exact eB.size, fun k hk => ?_⟩
        rw [h1 k (fun D hD e => ?_)]
        · exact eB.block k hk
        · subst e
          have h6 := (HDS.out k hD).1
          omega

end Go.Proofs.YtnnfhnehieoeaaaDoor.Hy

/- Parts whole; wakes. (written by gen24.py) -/
namespace Go.Proofs.YtnnfhnehieoeaaaDoor.Hy
open Go.RowKit Go.Shelf Go.Proofs.YtnnfhnehieoeaaaDoorW.PrintWords Go.Proofs.YtnnfhnehieoeaaaDoorW.PrintLast Go.Proofs.YtnnfhnehieoeaaaDoorW.PrintMore Go.Proofs.YtnnfhnehieoeaaaDoor.PHyperTells
set_option linter.unusedVariables false
set_option linter.unusedSimpArgs false

/-- what Parts says -/
def partsL (many : Int) (xs : List (List Int)) : List (List Int) := if rightB many xs then refParts many.toNat xs many.toNat else []

theorem right_many {many : Int} {xs : List (List Int)} (h : rightB many xs = true) : 0 ≤ many ∧ many ≤ 32 := by
  unfold rightB sizesB at h
  simp only [Bool.and_eq_true, decide_eq_true_eq] at h
  exact ⟨h.1.1.1, h.1.1.2⟩

theorem parts_any (many : Int) (A : Option Addr) (c : Nat) (xs : List (List Int)) (w : World) (hr : KL.C w A xs.length xs) (hc0 : xs.length ≤ c) (ht : tame xs) (hT : Tab w) :
    Calls Tryd.prog 12 #[.agg #[.int .i64 many, .slice A xs.length c]] w fun e w' => ∃ v, e = .returned v ∧ KL.R 30 w' w.heap.size anyK v (partsL many xs) ∧ Below w.heap.size w w' := by
  unfold partsL
  cases hR : rightB many xs with
  | false => exact (parts_wrong many A c xs w hr hc0 ht hR).mono fun e w' ⟨h1, h2⟩ => ⟨_, h1, Kd.R_nil _ _ _ _ _, h2⟩
  | true =>
    have hm := right_many hR
    obtain ⟨m, rfl⟩ := Int.eq_ofNat_of_zero_le hm.1
    have hm32 : m ≤ 32 := by omega
    refine (parts_walk m A c xs w hr hc0 ht hT hR hm32).mono ?_
    rintro e w' ⟨v, out, met, h1, h2, h3, h4⟩
    have := parts_ref hm32 hR h3
    subst this
    exact ⟨v, h1, by simpa using h2, h4⟩

/-! ### what the sample says -/
def hxs : List (List Int) := [[0, 1], [1, 2], [3]]
def rxs : List (List Int) := [[0, 1], [1, 2], [0, 2]]

theorem hxs_right : rightB 4 hxs = true := by decide
theorem rxs_right : rightB 3 rxs = true := by decide
theorem hxs_tame : tame hxs := ⟨by decide, by decide⟩
theorem rxs_tame : tame rxs := ⟨by decide, by decide⟩

theorem hxs_left : LeftIs hxs [] := by
  have h : RefSteps hxs [] := by
    refine .step _ _ (.step _ _ (.step _ _ (.step _ _ (.step _ _ (.step _ _ (.step _ _ .refl (.inl ⟨0, 0, by decide, by decide, by decide, rfl⟩ : RefStep _ [[1], [1, 2], [3]]))
      (.inr ⟨0, by decide, .inr ⟨1, by decide, by decide, by decide⟩, rfl⟩ : RefStep _ [[1, 2], [3]]))
      (.inl ⟨0, 0, by decide, by decide, by decide, rfl⟩ : RefStep _ [[2], [3]]))
      (.inl ⟨0, 0, by decide, by decide, by decide, rfl⟩ : RefStep _ [[], [3]]))
      (.inr ⟨0, by decide, .inl rfl, rfl⟩ : RefStep _ [[3]]))
      (.inl ⟨0, 0, by decide, by decide, by decide, rfl⟩ : RefStep _ [[]]))
      (.inr ⟨0, by decide, .inl rfl, rfl⟩ : RefStep _ [])
  exact refLeft_is (right_nice hxs_right) h (fun i hi => absurd hi (Nat.not_lt_zero _)) (List.Perm.refl _) List.Pairwise.nil
theorem rxs_left : LeftIs rxs [[0, 1], [0, 2], [1, 2]] :=
  refLeft_is (right_nice rxs_right) .refl (by unfold RefDone; decide) (by decide) (by decide)

theorem left_fam {xs ys : List (List Int)} {f : Fam} {p : List Int} (hR : ∀ e, e ∈ xs → nice e) (hg : Gyo (fun i => (setsOf xs)[i]?) (List.replicate xs.length (-1)) f p) (hs : Stuck f) (h : LeftIs xs ys) : ys = [] ↔ ∀ i, f i = none := by
  have hc := hg.core
  rw [fam_start] at hc
  obtain ⟨A, a1, a2, a3⟩ := h.ex
  constructor
  · intro e i
    cases hf : f i with
    | none => rfl
    | some s =>
      have := hc.unique hs.stk a1 a2 s ⟨i, hf⟩
      have := (a3 (bitsL s)).2 ⟨s, this, rfl⟩
      rw [e] at this; cases this
  · intro hn
    cases ys with
    | nil => rfl
    | cons r l =>
      obtain ⟨s, hs', _⟩ := (a3 r).1 List.mem_cons_self
      obtain ⟨i, hi⟩ := a1.unique a2 hc hs.stk s hs'
      rw [hn i] at hi; cases hi

/-- what Left says, by the document -/
theorem LeftSpec.is {many : Int} {xs ys : List (List Int)} (h : LeftSpec many xs ys) (hR : rightB many xs = true) : LeftIs xs ys := by
  rcases h with ⟨h1, _⟩ | ⟨_, f, p, _, hg, hs, hl⟩
  · rw [hR] at h1; cases h1
  · exact left_is (right_nice hR) hg hs hl

/-- what Tree says, by what Left says -/
theorem TreeSpec.is {many : Int} {xs ys : List (List Int)} {t : List Int} {err : Int} (h : TreeSpec many xs t err) (hR : rightB many xs = true) (hL : LeftIs xs ys) :
    (ys ≠ [] ∧ t = [] ∧ err = 301) ∨ (ys = [] ∧ t.length = xs.length ∧ refJ many xs t = true ∧ err = 0) := by
  rcases h with ⟨h1, _⟩ | ⟨_, f, p, hp, hg, hs, h⟩
  · rw [hR] at h1; cases h1
  · have hf := left_fam (right_nice hR) hg hs hL
    rcases h with ⟨⟨i, hi⟩, h1, h2⟩ | ⟨hn, h1, h2⟩
    · refine .inl ⟨fun e => ?_, h1, h2⟩
      rw [hf.1 e i] at hi; cases hi
    · subst h1
      exact .inr ⟨hf.2 hn, hp, tree_joins hR hg hn, h2⟩

theorem hxs_tree {t : List Int} {err : Int} (h : TreeSpec 4 hxs t err) : t.length = 3 ∧ joinsB 4 hxs t = true ∧ err = 0 := by
  rcases h.is hxs_right hxs_left with ⟨h1, _⟩ | ⟨_, h1, h2, h3⟩
  · exact absurd rfl h1
  · exact ⟨h1, by rw [joins_ref _ _ _ hxs_right]; exact h2, h3⟩
theorem rxs_tree {t : List Int} {err : Int} (h : TreeSpec 3 rxs t err) : t = [] ∧ err = 301 := by
  rcases h.is rxs_right rxs_left with ⟨_, h1, h2⟩ | ⟨h1, _⟩
  · exact ⟨h1, h2⟩
  · cases h1
theorem hxs_ls {ys : List (List Int)} (h : LeftSpec 4 hxs ys) : ys = [] := (h.is hxs_right).unique hxs_left
theorem rxs_ls {ys : List (List Int)} (h : LeftSpec 3 rxs ys) : ys = [[0, 1], [0, 2], [1, 2]] := (h.is rxs_right).unique rxs_left
theorem hxs_parts : (partsL 4 hxs).length = 2 := by decide

end Go.Proofs.YtnnfhnehieoeaaaDoor.Hy

/- wakes. (written by gen25.py) -/
namespace Go.Proofs.YtnnfhnehieoeaaaDoor.Hy
open Go.RowKit Go.Shelf Go.Proofs.YtnnfhnehieoeaaaDoorW.PrintWords Go.Proofs.YtnnfhnehieoeaaaDoorW.PrintLast Go.Proofs.YtnnfhnehieoeaaaDoorW.PrintMore Go.Proofs.YtnnfhnehieoeaaaDoor.PHyperTells
set_option linter.unusedVariables false
set_option linter.unusedSimpArgs false

theorem row_C {w : World} {g : Nat} {row : List Int} (hg : w.heap[g]? = some (.cells (icells row) 3 (0, 0))) (hl : row.length ≤ 1000) : KI.R 3 w 0 (fun k => k = g) (.slice (some ⟨g, 0, none⟩) row.length row.length) row :=
  Kd.R_mono (Kd.R_of_own (Kd.own_of_R (R_of_block hg (Nat.zero_le g) hl)) (fun k hk => by simpa [Value.ownBlock] using hk.symm)) (fun _ h => h)

/-- three rows, just laid -/
theorem lit3 (w : World) (a b c : List Int) (ha : a.length ≤ 1000) (hb : b.length ≤ 1000) (hc : c.length ≤ 1000) :
    KL.C ((((w.alloc (.cells (icells a) 3)).alloc (.cells (icells b) 3)).alloc (.cells (icells c) 3)).alloc (.cells #[.slice (some ⟨w.heap.size, 0, none⟩) a.length a.length, .slice (some ⟨w.heap.size + 1, 0, none⟩) b.length b.length, .slice (some ⟨w.heap.size + 2, 0, none⟩) c.length c.length] 30)) (some ⟨w.heap.size + 3, 0, none⟩) 3 [a, b, c] := by
  obtain ⟨W, hW⟩ : ∃ W, W = (((w.alloc (.cells (icells a) 3)).alloc (.cells (icells b) 3)).alloc (.cells (icells c) 3)).alloc (.cells #[.slice (some ⟨w.heap.size, 0, none⟩) a.length a.length, .slice (some ⟨w.heap.size + 1, 0, none⟩) b.length b.length, .slice (some ⟨w.heap.size + 2, 0, none⟩) c.length c.length] 30) := ⟨_, rfl⟩
  have h0 : W.heap[w.heap.size]? = some (.cells (icells a) 3 (0, 0)) := by rw [hW]; exact blk_alloc (blk_alloc (blk_alloc (blk_new w _) _) _) _
  have h1 : W.heap[w.heap.size + 1]? = some (.cells (icells b) 3 (0, 0)) := by rw [hW]; have := blk_new (w.alloc (.cells (icells a) 3)) (.cells (icells b) 3); rw [World.size_alloc] at this; exact blk_alloc (blk_alloc this _) _
  have h2 : W.heap[w.heap.size + 2]? = some (.cells (icells c) 3 (0, 0)) := by rw [hW]; have := blk_new ((w.alloc (.cells (icells a) 3)).alloc (.cells (icells b) 3)) (.cells (icells c) 3); rw [World.size_alloc, World.size_alloc] at this; exact blk_alloc this _
  have h3 : W.heap[w.heap.size + 3]? = some (.cells #[.slice (some ⟨w.heap.size, 0, none⟩) a.length a.length, .slice (some ⟨w.heap.size + 1, 0, none⟩) b.length b.length, .slice (some ⟨w.heap.size + 2, 0, none⟩) c.length c.length] 30 (0, 0)) := by rw [hW]; have := blk_new (((w.alloc (.cells (icells a) 3)).alloc (.cells (icells b) 3)).alloc (.cells (icells c) 3)) (.cells #[.slice (some ⟨w.heap.size, 0, none⟩) a.length a.length, .slice (some ⟨w.heap.size + 1, 0, none⟩) b.length b.length, .slice (some ⟨w.heap.size + 2, 0, none⟩) c.length c.length] 30); rw [World.size_alloc, World.size_alloc, World.size_alloc] at this; exact this
  rw [← hW]
  have key : ∀ (g : Nat) (r : List Int), W.heap[g]? = some (.cells (icells r) 3 (0, 0)) → r.length ≤ 1000 → KL.K W r [.slice (some ⟨g, 0, none⟩) r.length r.length] := fun g r hg hl => by
    exact ⟨_, _, rfl, Nat.le_refl _, (Kd.R_reads' (row_C hg hl)).2.2⟩
  refine ⟨rfl, by decide, fun _ => ⟨_, rfl, fun j p hj => ?_⟩⟩
  have hj3 : j < 3 := by have := (List.getElem?_eq_some_iff.1 hj).1; simpa using this
  have hcell : ∀ (i : Nat) (u : Value), #[Value.slice (some ⟨w.heap.size, 0, none⟩) a.length a.length, .slice (some ⟨w.heap.size + 1, 0, none⟩) b.length b.length, .slice (some ⟨w.heap.size + 2, 0, none⟩) c.length c.length][i]? = some u → W.cell? ((⟨w.heap.size + 3, 0, none⟩ : Addr).add i) = some u := fun i u hu => by
    rw [Addr.add_lit, blk_cell h3, Nat.zero_add]; exact hu
  have one : ∀ (u : Value) (i : Nat) (u' : Value), [u][i]? = some u' → i = 0 ∧ u = u' := fun u i u' h => by
    have hi0 : i = 0 := by have := (List.getElem?_eq_some_iff.1 h).1; simpa using this
    subst hi0; exact ⟨rfl, by simpa using h⟩
  match j, hj3, hj with
  | 0, _, hj =>
    have : a = p := by simpa using hj
    subst this
    exact ⟨_, rfl, key _ _ h0 ha, fun i u hu => by obtain ⟨rfl, rfl⟩ := one _ _ _ hu; exact hcell 0 _ rfl⟩
  | 1, _, hj =>
    have : b = p := by simpa using hj
    subst this
    exact ⟨_, rfl, key _ _ h1 hb, fun i u hu => by obtain ⟨rfl, rfl⟩ := one _ _ _ hu; exact hcell 1 _ rfl⟩
  | 2, _, hj =>
    have : c = p := by simpa using hj
    subst this
    exact ⟨_, rfl, key _ _ h2 hc, fun i u hu => by obtain ⟨rfl, rfl⟩ := one _ _ _ hu; exact hcell 2 _ rfl⟩

theorem ring_any (w : World) : Calls Tryd.prog 25 #[] w fun e w' => ∃ A c, e = .returned (.agg #[.int .i64 3, .slice A rxs.length c]) ∧ rxs.length ≤ c ∧ KL.C w' A rxs.length rxs ∧ Below w.heap.size w w' :=
  (colanderlaw20_ring.calls 3 rxs w rfl).mono fun e w' ⟨v, h1, h2, h3⟩ => by
    obtain ⟨A, c, e1, e2, e3⟩ := Kd.N_reads h2
    subst e1
    exact ⟨A, c, h1, e2, e3, h3⟩

theorem h_tree (W : World) (Av : Option Addr) (cv : Nat) (h : KL.C W Av 3 hxs) (hcv : 3 ≤ cv) : Calls Tryd.prog 15 #[.agg #[.int .i64 4, .slice Av 3 cv]] W fun e w' => ∃ A c t, e = .returned (.tuple #[.slice A 3 c, .int .i64 0]) ∧ t.length = 3 ∧ 3 ≤ c ∧ joinsB 4 hxs t = true ∧ KI.C w' A 3 t ∧ Below W.heap.size W w' := by
  have h0 := tree_any 4 Av cv hxs W h hcv hxs_tame
  refine h0.mono ?_
  rintro e w' ⟨v, t, err, he, hv, hts, hb⟩
  obtain ⟨h1, h2, h3⟩ := hxs_tree hts
  subst h3
  obtain ⟨A, c, hvt⟩ := Kd.R_slice hv
  subst hvt
  have hc := (Kd.R_reads' hv).2.1
  have hC := (Kd.R_reads' hv).2.2
  rw [h1] at he hc hC
  exact ⟨A, c, t, he, h1, hc, h2, hC, hb⟩
theorem r_tree (W : World) (Av : Option Addr) (cv : Nat) (h : KL.C W Av 3 rxs) (hcv : 3 ≤ cv) : Calls Tryd.prog 15 #[.agg #[.int .i64 3, .slice Av 3 cv]] W fun e w' => ∃ v, e = .returned (.tuple #[v, .int .i64 301]) ∧ Below W.heap.size W w' := by
  have h0 := tree_any 3 Av cv rxs W h hcv rxs_tame
  refine h0.mono ?_
  rintro e w' ⟨v, t, err, he, hv, hts, hb⟩
  obtain ⟨h1, h3⟩ := rxs_tree hts
  subst h3
  exact ⟨v, he, hb⟩
theorem h_acyc (W : World) (Av : Option Addr) (cv : Nat) (h : KL.C W Av 3 hxs) (hcv : 3 ≤ cv) (hT : Tab W) : Calls Tryd.prog 14 #[.agg #[.int .i64 4, .slice Av 3 cv]] W fun e w' => e = .returned (.bool true) ∧ Below W.heap.size W w' := by
  have h0 := acyclic_any 4 Av cv hxs W h hcv hxs_tame hT
  refine h0.mono ?_
  rintro e w' ⟨ys, he, hls, hb⟩
  rw [hxs_ls hls, hxs_right] at he
  exact ⟨he, hb⟩
theorem r_acyc (W : World) (Av : Option Addr) (cv : Nat) (h : KL.C W Av 3 rxs) (hcv : 3 ≤ cv) (hT : Tab W) : Calls Tryd.prog 14 #[.agg #[.int .i64 3, .slice Av 3 cv]] W fun e w' => e = .returned (.bool false) ∧ Below W.heap.size W w' := by
  have h0 := acyclic_any 3 Av cv rxs W h hcv rxs_tame hT
  refine h0.mono ?_
  rintro e w' ⟨ys, he, hls, hb⟩
  rw [rxs_ls hls, rxs_right] at he
  exact ⟨he, hb⟩
theorem r_left (W : World) (Av : Option Addr) (cv : Nat) (h : KL.C W Av 3 rxs) (hcv : 3 ≤ cv) (hT : Tab W) : Calls Tryd.prog 13 #[.agg #[.int .i64 3, .slice Av 3 cv]] W fun e w' => ∃ A c, e = .returned (.slice A 3 c) ∧ Below W.heap.size W w' := by
  have h0 := left_any 3 Av cv rxs W h hcv rxs_tame hT
  refine h0.mono ?_
  rintro e w' ⟨v, ys, he, hv, hls, hb⟩
  have := rxs_ls hls
  subst this
  obtain ⟨A, c, hvt⟩ := Kd.R_slice hv
  subst hvt
  exact ⟨A, c, he, hb⟩
theorem h_parts (W : World) (Av : Option Addr) (cv : Nat) (h : KL.C W Av 3 hxs) (hcv : 3 ≤ cv) (hT : Tab W) : Calls Tryd.prog 12 #[.agg #[.int .i64 4, .slice Av 3 cv]] W fun e w' => ∃ A c, e = .returned (.slice A 2 c) ∧ Below W.heap.size W w' := by
  have h0 := parts_any 4 Av cv hxs W h hcv hxs_tame hT
  refine h0.mono ?_
  rintro e w' ⟨v, he, hv, hb⟩
  obtain ⟨A, c, hvt⟩ := Kd.R_slice hv
  rw [hxs_parts] at hvt
  subst hvt
  exact ⟨A, c, he, hb⟩
theorem h_joins (W : World) (Av : Option Addr) (cv : Nat) (h : KL.C W Av 3 hxs) (hcv : 3 ≤ cv) (At : Option Addr) (ct : Nat) (t : List Int) (ht3 : t.length = 3) (hj : joinsB 4 hxs t = true) (hct : 3 ≤ ct) (h2 : KI.C W At 3 t) : Calls Tryd.prog 18 #[.agg #[.int .i64 4, .slice Av 3 cv], .slice At 3 ct] W fun e w' => e = .returned (.bool true) ∧ Below W.heap.size W w' := by
  have h0 := joins_any 4 Av cv hxs W h hcv hxs_tame At ct t (by rw [ht3]; exact h2) (by omega) (by omega)
  rw [ht3] at h0
  refine h0.mono ?_
  rintro e w' ⟨he, hb⟩
  rw [hj] at he
  exact ⟨he, hb⟩
theorem ring3 (w : World) : Calls Tryd.prog 25 #[] w fun e w' => ∃ A c, e = .returned (.agg #[.int .i64 3, .slice A 3 c]) ∧ 3 ≤ c ∧ KL.C w' A 3 rxs ∧ Below w.heap.size w w' := ring_any w

set_option maxHeartbeats 8000000 in
set_option maxRecDepth 100000 in
theorem wakes_any (w : World) (hT : Tab w) : Calls Tryd.prog 6 #[] w fun e w' => e = .returned (.bool true) ∧ Below w.heap.size w w' := by
  have HT := Aside0.mk hT
  have HOF : Aside0 (Calls Tryd.prog 24 #[.int .i64 4, .slice (some ⟨w.heap.size + 3, 0, none⟩) 3 3] ((((w.alloc (.cells #[.int .i64 1, .int .i64 0] 3)).alloc (.cells #[.int .i64 2, .int .i64 1, .int .i64 2] 3)).alloc (.cells #[.int .i64 3] 3)).alloc (.cells #[.slice (some ⟨w.heap.size, 0, none⟩) 2 2, .slice (some ⟨w.heap.size + 1, 0, none⟩) 3 3, .slice (some ⟨w.heap.size + 2, 0, none⟩) 1 1] 30)) fun e w' => ∃ A c, e = .returned (.tuple #[.agg #[.int .i64 4, .slice A 3 c], .int .i64 0]) ∧ KL.R 30 w' w.heap.size anyK (.slice A 3 c) hxs ∧ Below w.heap.size w w') := ⟨by
    have hb : Below w.heap.size w ((((w.alloc (.cells #[.int .i64 1, .int .i64 0] 3)).alloc (.cells #[.int .i64 2, .int .i64 1, .int .i64 2] 3)).alloc (.cells #[.int .i64 3] 3)).alloc (.cells #[.slice (some ⟨w.heap.size, 0, none⟩) 2 2, .slice (some ⟨w.heap.size + 1, 0, none⟩) 3 3, .slice (some ⟨w.heap.size + 2, 0, none⟩) 1 1] 30)) := ((((Below.refl _ w).alloc (Nat.le_refl _) _).alloc (by simp) _).alloc (by simp; omega) _).alloc (by simp; omega) _
    have h := of_call 4 (some ⟨w.heap.size + 3, 0, none⟩) 3 [[1, 0], [2, 1, 2], [3]] _ (lit3 w [1, 0] [2, 1, 2] [3] (by decide) (by decide) (by decide)) (by decide) ⟨by decide, by decide⟩ (HT.out.below HT.out.lt hb) (by decide) (by decide) (by decide)
    refine h.mono ?_
    rintro e w' ⟨v, h1, h2, h3⟩
    have e3 : ([[1, 0], [2, 1, 2], [3]] : List (List Int)).map (fun e => bitsL (setOf e)) = hxs := by decide
    rw [e3] at h2
    obtain ⟨A, c, hv⟩ := Kd.R_slice h2
    subst hv
    exact ⟨A, c, h1, Kd.R_lower h2 hb.size, hb.trans (h3.mono hb.size)⟩⟩
  clear hT
  go_enter Tryd.func6, Tryd.ntmps6
  go_wp2_with (first
    | (go_at_call 24; refine (HOF.out).mono ?_; rintro e w1 ⟨Av, cv, rfl, hv, hb⟩; have HBX := Aside0.mk (blk_new w1 (.cells #[.int .i64 4, .slice Av 3 cv] 24)); have HVC : Aside0 (KL.C (w1.alloc (.cells #[.int .i64 4, .slice Av 3 cv] 24)) Av 3 hxs) := ⟨(Kd.R_reads' (Kd.R_below hv ((Below.refl _ w1).alloc (Nat.le_refl _) (.cells #[.int .i64 4, .slice Av 3 cv] 24)))).2.2⟩; have HB := Aside0.mk (hb.alloc hb.size (.cells #[.int .i64 4, .slice Av 3 cv] 24)); have hcv : 3 ≤ cv := (Kd.R_reads' hv).2.1; clear hv hb)
    | (go_at_call 15; with_reducible refine (h_tree _ Av cv HVC.out hcv).mono ?_; rintro e w2 ⟨At, ct, t, rfl, h1, hct, h2, hv, hb⟩; have HJ := Aside0.mk h2; have HT3 := Aside0.mk h1; have HTC := Aside0.mk hv; replace HBX := Aside0.mk (blk_below HBX.out hb); replace HVC := Aside0.mk (Kd.C_below HVC.out hb); replace HB := Aside0.mk (HB.out.trans (hb.mono HB.out.size)); have hz0 := (blk_cell HBX.out 0); have hz1 := (blk_cell HBX.out 1); replace hz0 := hz0.trans (show _ = some (Value.int .i64 4) from rfl); replace hz1 := hz1.trans (show _ = some (Value.slice Av 3 cv) from rfl); clear hv hb h1 h2)
    | (go_at_call 15; with_reducible refine (r_tree _ Ar cr HRC.out hcr).mono ?_; rintro e w4 ⟨v, rfl, hb⟩; replace HBX := Aside0.mk (blk_below HBX.out hb); replace HVC := Aside0.mk (Kd.C_below HVC.out hb); replace HB := Aside0.mk (HB.out.trans (hb.mono HB.out.size)); have hz0 := (blk_cell HBX.out 0); have hz1 := (blk_cell HBX.out 1); replace hz0 := hz0.trans (show _ = some (Value.int .i64 4) from rfl); replace hz1 := hz1.trans (show _ = some (Value.slice Av 3 cv) from rfl); replace HTC := Aside0.mk (Kd.C_below HTC.out hb); clear hb)
    | (go_at_call 25; with_reducible refine (ring3 _).mono ?_; rintro e w3 ⟨Ar, cr, rfl, hcr, hC, hb⟩; have HRC := Aside0.mk hC; replace HBX := Aside0.mk (blk_below HBX.out hb); replace HVC := Aside0.mk (Kd.C_below HVC.out hb); replace HB := Aside0.mk (HB.out.trans (hb.mono HB.out.size)); have hz0 := (blk_cell HBX.out 0); have hz1 := (blk_cell HBX.out 1); replace hz0 := hz0.trans (show _ = some (Value.int .i64 4) from rfl); replace hz1 := hz1.trans (show _ = some (Value.slice Av 3 cv) from rfl); replace HTC := Aside0.mk (Kd.C_below HTC.out hb); clear hC hb)
    | (go_at_call 14; with_reducible refine (h_acyc _ Av cv HVC.out hcv (HT.out.below HT.out.lt HB.out)).mono ?_; rintro e w5 ⟨rfl, hb⟩; replace HBX := Aside0.mk (blk_below HBX.out hb); replace HVC := Aside0.mk (Kd.C_below HVC.out hb); replace HB := Aside0.mk (HB.out.trans (hb.mono HB.out.size)); have hz0 := (blk_cell HBX.out 0); have hz1 := (blk_cell HBX.out 1); replace hz0 := hz0.trans (show _ = some (Value.int .i64 4) from rfl); replace hz1 := hz1.trans (show _ = some (Value.slice Av 3 cv) from rfl); replace HTC := Aside0.mk (Kd.C_below HTC.out hb); clear hb)
    | (go_at_call 14; with_reducible refine (r_acyc _ Ar cr HRC.out hcr (HT.out.below HT.out.lt HB.out)).mono ?_; rintro e w5 ⟨rfl, hb⟩; replace HBX := Aside0.mk (blk_below HBX.out hb); replace HVC := Aside0.mk (Kd.C_below HVC.out hb); replace HB := Aside0.mk (HB.out.trans (hb.mono HB.out.size)); have hz0 := (blk_cell HBX.out 0); have hz1 := (blk_cell HBX.out 1); replace hz0 := hz0.trans (show _ = some (Value.int .i64 4) from rfl); replace hz1 := hz1.trans (show _ = some (Value.slice Av 3 cv) from rfl); replace HTC := Aside0.mk (Kd.C_below HTC.out hb); clear hb)
    | (go_at_call 13; with_reducible refine (r_left _ Ar cr HRC.out hcr (HT.out.below HT.out.lt HB.out)).mono ?_; rintro e w5 ⟨Al, cl, rfl, hb⟩; replace HBX := Aside0.mk (blk_below HBX.out hb); replace HVC := Aside0.mk (Kd.C_below HVC.out hb); replace HB := Aside0.mk (HB.out.trans (hb.mono HB.out.size)); have hz0 := (blk_cell HBX.out 0); have hz1 := (blk_cell HBX.out 1); replace hz0 := hz0.trans (show _ = some (Value.int .i64 4) from rfl); replace hz1 := hz1.trans (show _ = some (Value.slice Av 3 cv) from rfl); replace HTC := Aside0.mk (Kd.C_below HTC.out hb); clear hb)
    | (go_at_call 12; with_reducible refine (h_parts _ Av cv HVC.out hcv (HT.out.below HT.out.lt HB.out)).mono ?_; rintro e w5 ⟨Ap, cp, rfl, hb⟩; replace HBX := Aside0.mk (blk_below HBX.out hb); replace HVC := Aside0.mk (Kd.C_below HVC.out hb); replace HB := Aside0.mk (HB.out.trans (hb.mono HB.out.size)); have hz0 := (blk_cell HBX.out 0); have hz1 := (blk_cell HBX.out 1); replace hz0 := hz0.trans (show _ = some (Value.int .i64 4) from rfl); replace hz1 := hz1.trans (show _ = some (Value.slice Av 3 cv) from rfl); replace HTC := Aside0.mk (Kd.C_below HTC.out hb); clear hb)
    | (go_at_call 18; with_reducible refine (h_joins _ Av cv HVC.out hcv At ct t HT3.out HJ.out hct HTC.out).mono ?_; rintro e w5 ⟨rfl, hb⟩; replace HBX := Aside0.mk (blk_below HBX.out hb); replace HVC := Aside0.mk (Kd.C_below HVC.out hb); replace HB := Aside0.mk (HB.out.trans (hb.mono HB.out.size)); have hz0 := (blk_cell HBX.out 0); have hz1 := (blk_cell HBX.out 1); replace hz0 := hz0.trans (show _ = some (Value.int .i64 4) from rfl); replace hz1 := hz1.trans (show _ = some (Value.slice Av 3 cv) from rfl); replace HTC := Aside0.mk (Kd.C_below HTC.out hb); clear hb))
  go_ret
  exact ⟨rfl, HB.out⟩

end Go.Proofs.YtnnfhnehieoeaaaDoor.Hy

/- The contracts that the laws' walks use, all in one form. -/
namespace Go.Proofs.YtnnfhnehieoeaaaDoor.Hy
open Go.RowKit Go.Shelf Go.Proofs.YtnnfhnehieoeaaaDoorW.PrintWords Go.Proofs.YtnnfhnehieoeaaaDoorW.PrintLast Go.Proofs.YtnnfhnehieoeaaaDoorW.PrintMore Go.Proofs.YtnnfhnehieoeaaaDoor.PHyperTells
set_option linter.unusedVariables false
set_option linter.unusedSimpArgs false

/-- a row of rows comes back, to be read -/
def Rows (R : List (List Int)) (e : Ending) (w' : World) : Prop := ∃ A c, e = .returned (.slice A R.length c) ∧ R.length ≤ c ∧ KL.C w' A R.length R

theorem refParts_nice {m : Nat} {xs : List (List Int)} (hx : ∀ e, e ∈ xs → nice e) (hm : m ≤ 32) (hM : ∀ e, e ∈ xs → ∀ u, u ∈ e → u < m) : ∀ e, e ∈ refParts m xs m → nice e := fun e he => by
  unfold refParts at he
  obtain ⟨v, hv, rfl⟩ := List.mem_map.1 he
  have := List.mem_range.1 (List.mem_filter.1 hv).1
  exact (part_isCl hx m hM (by omega) v this).2

theorem partsL_tame {many : Int} {xs : List (List Int)} : tame (partsL many xs) := by
  unfold partsL
  split
  · rename_i hR
    have hm := right_many hR
    obtain ⟨m, rfl⟩ := Int.eq_ofNat_of_zero_le hm.1
    refine ⟨by have := refParts_length ((m : Int).toNat) xs ((m : Int).toNat); simp at this ⊢; omega, fun e he => ?_⟩
    have := nice_len (refParts_nice (right_nice hR) (by omega) (right_lt hR) e (by simpa using he))
    omega
  · exact ⟨by simp, fun e he => by cases he⟩

section
variable (many : Int) (A : Option Addr) (c : Nat) (y : List (List Int)) (W : World)

theorem p9 (hR : rightB many y = true) (ht : tame y) (hC : KL.C W A y.length y) (hc : y.length ≤ c) : Calls Tryd.prog 9 #[.agg #[.int .i64 many, .slice A y.length c]] W fun e w' => Rows (partsL many y) e w' ∧ Below W.heap.size W w' := by
  have hm := right_many hR
  obtain ⟨m, rfl⟩ := Int.eq_ofNat_of_zero_le hm.1
  have h := colanderref20_Parts.calls 10000100 m A c y _ W hC hc (parts_f m (by omega) y ht.1 (right_nice hR))
  refine h.mono ?_
  rintro e w' ⟨v, h1, h2, h3⟩
  have e1 : partsL m y = refParts m y m := by unfold partsL; rw [if_pos hR]; simp
  rw [e1]
  obtain ⟨A', c', q1, q2, q3⟩ := Kd.S_reads h2
  subst q1
  exact ⟨⟨A', c', h1, q2, q3⟩, h3⟩

theorem p12 (ht : tame y) (hC : KL.C W A y.length y) (hc : y.length ≤ c) (hT : Tab W) : Calls Tryd.prog 12 #[.agg #[.int .i64 many, .slice A y.length c]] W fun e w' => Rows (partsL many y) e w' ∧ Below W.heap.size W w' := by
  refine (parts_any many A c y W hC hc ht hT).mono ?_
  rintro e w' ⟨v, h1, h2, h3⟩
  obtain ⟨A', c', q1, q2, q3⟩ := Kd.R_reads h2
  subst q1
  exact ⟨⟨A', c', h1, q2, q3⟩, h3⟩

theorem p10 (B : Nat) (hR : rightB many y = true) (ht : tame y) (hX : KL.R 30 W B anyK (.slice A y.length c) y) (hB : B ≤ W.heap.size) : Calls Tryd.prog 10 #[.agg #[.int .i64 many, .slice A y.length c]] W fun e w' => ∃ L, LeftIs y L ∧ Rows L e w' ∧ Below W.heap.size W w' := by
  refine (refLeft_any many B A c y W hX hB ht).mono ?_
  rintro e w' ⟨v, z, L, h1, h2, h3, h4, h5, h6, h7⟩
  obtain ⟨A', c', q1, q2, q3⟩ := Kd.R_reads h2
  subst q1
  exact ⟨L, refLeft_is (right_nice hR) h3 h4 h5 h6, ⟨A', c', h1, q2, q3⟩, h7⟩

theorem p13 (L : List (List Int)) (hR : rightB many y = true) (hL : LeftIs y L) (ht : tame y) (hC : KL.C W A y.length y) (hc : y.length ≤ c) (hT : Tab W) : Calls Tryd.prog 13 #[.agg #[.int .i64 many, .slice A y.length c]] W fun e w' => Rows L e w' ∧ tame L ∧ Below W.heap.size W w' := by
  refine (left_right many A c y W hC hc ht hT hR).mono ?_
  rintro e w' ⟨v, f, p, ys, h1, h2, h3, h4, h5, h6, h7⟩
  have hys : ys = L := (left_is (right_nice hR) h5 h6 h3).unique hL
  subst hys
  obtain ⟨A', c', q1, q2, q3⟩ := Kd.R_reads h2
  subst q1
  refine ⟨⟨A', c', h1, q2, q3⟩, ?_, h7⟩
  obtain ⟨order, hnd, hord, hperm, _⟩ := h3
  have hlen : (setsOf y).length = y.length := by simp [setsOf]
  have T := Gyo.tree (l := setsOf y) (by rw [hlen]; exact h5)
  refine ⟨?_, fun r hr => ?_⟩
  · have h8 := nodup_le y.length order hnd (fun i hi => by
      obtain ⟨s, hs⟩ := Option.isSome_iff_exists.1 ((hord i).1 hi)
      have := (T.sub i s hs).1; omega)
    have := hperm.length_eq
    rw [List.length_map] at this
    have := ht.1; omega
  · obtain ⟨i, _, rfl⟩ := List.mem_map.1 (hperm.mem_iff.1 hr)
    have := bitsL_len ((f i).getD 0)
    unfold rowAt; omega

theorem p13w (hR : rightB many y = false) (ht : tame y) (hC : KL.C W A y.length y) (hc : y.length ≤ c) : Calls Tryd.prog 13 #[.agg #[.int .i64 many, .slice A y.length c]] W fun e w' => e = .returned (.slice none 0 0) ∧ Below W.heap.size W w' := left_wrong many A c y W hC hc ht hR

theorem p14 (L : List (List Int)) (hR : rightB many y = true) (hL : LeftIs y L) (ht : tame y) (hC : KL.C W A y.length y) (hc : y.length ≤ c) (hT : Tab W) : Calls Tryd.prog 14 #[.agg #[.int .i64 many, .slice A y.length c]] W fun e w' => e = .returned (.bool L.isEmpty) ∧ Below W.heap.size W w' := by
  refine (acyclic_any many A c y W hC hc ht hT).mono ?_
  rintro e w' ⟨ys, h1, h2, h3⟩
  rw [(h2.is hR).unique hL, hR] at h1
  exact ⟨h1, h3⟩
theorem p14w (hR : rightB many y = false) (ht : tame y) (hC : KL.C W A y.length y) (hc : y.length ≤ c) (hT : Tab W) : Calls Tryd.prog 14 #[.agg #[.int .i64 many, .slice A y.length c]] W fun e w' => e = .returned (.bool false) ∧ Below W.heap.size W w' := by
  refine (acyclic_any many A c y W hC hc ht hT).mono ?_
  rintro e w' ⟨ys, h1, h2, h3⟩
  rw [hR] at h1
  exact ⟨h1, h3⟩

/-- what Tree hands back: the tree (nothing, where there is none), owned from here on; the error -/
def TreeIs (many : Int) (y L : List (List Int)) (t : List Int) (err : Int) : Prop := (rightB many y = false ∧ t = [] ∧ err = 300) ∨ (rightB many y = true ∧ L ≠ [] ∧ t = [] ∧ err = 301) ∨ (rightB many y = true ∧ L = [] ∧ t.length = y.length ∧ refJ many y t = true ∧ err = 0)
theorem p15 (L : List (List Int)) (hL : rightB many y = true → LeftIs y L) (ht : tame y) (hC : KL.C W A y.length y) (hc : y.length ≤ c) : Calls Tryd.prog 15 #[.agg #[.int .i64 many, .slice A y.length c]] W fun e w' => ∃ A' c' t err, e = .returned (.tuple #[.slice A' t.length c', .int .i64 err]) ∧ KI.R 3 w' W.heap.size anyK (.slice A' t.length c') t ∧ TreeIs many y L t err ∧ Below W.heap.size W w' := by
  refine (tree_any many A c y W hC hc ht).mono ?_
  rintro e w' ⟨v, t, err, h1, h2, h3, h4⟩
  obtain ⟨A', c', q1⟩ := Kd.R_slice h2
  subst q1
  refine ⟨A', c', t, err, h1, h2, ?_, h4⟩
  cases hR : rightB many y with
  | false =>
    rcases h3 with ⟨_, h5, h6⟩ | ⟨h5, _⟩
    · exact .inl ⟨hR, h5, h6⟩
    · rw [hR] at h5; cases h5
  | true =>
    rcases h3.is hR (hL hR) with ⟨a1, a2, a3⟩ | ⟨a1, a2, a3, a4⟩
    · exact .inr (.inl ⟨hR, a1, a2, a3⟩)
    · exact .inr (.inr ⟨hR, a1, a2, a3, a4⟩)
end

theorem cutRows_tame (m : Nat) (hm : m ≤ 1000) (xs : List (List Int)) : tame (cutRows m xs) := by
  unfold cutRows
  refine ⟨by simp; omega, fun e he => ?_⟩
  obtain ⟨r, _, rfl⟩ := List.mem_map.1 he
  rw [List.length_take]; omega

end Go.Proofs.YtnnfhnehieoeaaaDoor.Hy

/- Plain law: something is left, and just one thing. -/
namespace Go.Proofs.YtnnfhnehieoeaaaDoor.Hy
set_option linter.unusedVariables false
set_option linter.unusedSimpArgs false

theorem steps_end (x : List (List Int)) (n : Nat) : ∀ y, wt y ≤ n → RefSteps x y → ∃ z, RefSteps x z ∧ RefDone z z.length := by
  induction n with
  | zero =>
    intro y hy h
    refine ⟨y, h, fun i hi _ => ?_⟩
    have := wt_split y i hi
    omega
  | succ n ih =>
    intro y hy h
    by_cases hz : ∃ z, RefStep y z
    · obtain ⟨z, hz⟩ := hz
      exact ih z (by have := hz.lt; omega) (.step y z h hz)
    · refine ⟨y, h, fun i hi _ => ⟨fun v hv h1 => ?_, fun h1 => ?_, fun k hk hne => ?_⟩⟩
      · obtain ⟨k, hk, rfl⟩ := List.mem_iff_getElem.1 hv
        exact hz ⟨_, .inl ⟨i, k, hi, hk, h1, rfl⟩⟩
      · exact hz ⟨_, .inr ⟨i, hi, .inl h1, rfl⟩⟩
      · cases hw : withinL y[i] y[k] with
        | false => rfl
        | true => exact absurd ⟨_, .inr ⟨i, hi, .inr ⟨k, hk, hne, hw⟩, rfl⟩⟩ hz

theorem left_ex {xs : List (List Int)} (hx : ∀ e, e ∈ xs → nice e) : ∃ L, LeftIs xs L := by
  obtain ⟨y, hs, hd⟩ := steps_end xs (wt xs) xs (Nat.le_refl _) .refl
  refine ⟨y.mergeSort (fun a b => !ltL b a), refLeft_is hx hs hd (List.mergeSort_perm _ _) ?_⟩
  have := List.pairwise_mergeSort (le := fun a b => !ltL b a) (fun a b c h1 h2 => by
    have h1 : ltL b a = false := by simpa using h1
    have h2 : ltL c b = false := by simpa using h2
    have := ltL_swo.ntrans c b a h2 h1
    simp [this]) (fun a b => by
    cases h1 : ltL b a with
    | false => simp
    | true =>
      cases h2 : ltL a b with
      | false => simp
      | true => have := ltL_swo.trans a b a h2 h1; rw [ltL_swo.irrefl] at this; cases this) y
  exact this.imp (fun h => by simpa using h)

end Go.Proofs.YtnnfhnehieoeaaaDoor.Hy
