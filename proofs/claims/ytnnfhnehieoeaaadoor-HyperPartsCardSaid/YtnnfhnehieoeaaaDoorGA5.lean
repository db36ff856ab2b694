/- Contracts of (hyper.set).each and the function that it hands back. -/
import Derived.Test.YtnnfhnehieoeaaaDoorGA4
import Derived.Test.YtnnfhnehieoeaaaDoorGP1
import Derived.Test.YtnnfhnehieoeaaaDoorGL1
import Derived.RangeFuncNested
import Derived.RangeFuncBound
import Derived.RangeFuncCalls
import Derived.RangeFuncLeaves
import Derived.RangeFuncGives
import Derived.Shelf.RegionOpen
import Derived.OwnWalkIn
import Derived.TacticsInMore
import Derived.LoopNIn
import Derived.LoopIn
namespace Go.Proofs.YtnnfhnehieoeaaaDoor.Hy
open Go.RowKit Go.Shelf Go.Proofs.YtnnfhnehieoeaaaDoorW.PrintWords Go.Proofs.YtnnfhnehieoeaaaDoorW.PrintLast Go.Proofs.YtnnfhnehieoeaaaDoorW.PrintMore Go.Proofs.YtnnfhnehieoeaaaDoor.PHyperTells
set_option linter.unusedVariables false
set_option linter.unusedSimpArgs false

/-- the library's table lies as it was laid -/
def Tab (w : World) : Prop := TabAt 0 Lib.deBruijn64tab w

theorem Tab.lt {w : World} (h : Tab w) : 0 < w.heap.size := by
  have := h 0 (by decide)
  exact World.block_lt_of_cell? w _ this

theorem Tab.below {w w' : World} {n : Nat} (h : Tab w) (hn : 0 < n) (hb : Below n w w') : Tab w' := fun j hj => by
  have := h j hj
  rw [← this]
  exact hb.cell (p := ⟨0, j, none⟩) hn

theorem tz_any (x : Nat) (hx : x < 18446744073709551616) (w : World) (hT : Tab w) :
    Calls Tryd.prog 57 #[.int .u64 x] w fun e w' => e = .returned (.int .i64 (Lib.ctz 64 x)) ∧ w = w' := by
  have h := Any7.bits_TrailingZeros64 Tryd.lays29 x hx w (fun _ => hT)
  exact h.mono fun e w' ⟨h1, h2⟩ => ⟨h1, h2.symm⟩

theorem each_any (s : Int) (w : World) :
    Calls Tryd.prog 34 #[.int .u64 s] w fun e w' => e = .returned (.func (.func 56) #[] #[.pointer (some ⟨w.heap.size, 0, none⟩)]) ∧ w.alloc (.cells #[.int .u64 s] 53) = w' := by
  go_enter Tryd.func34, Tryd.ntmps34
  go_wp2
  go_ret
  exact ⟨rfl, rfl⟩

attribute [local go_sem] Oper.semAt_some

theorem box_cell {W : World} {B : Nat} {v : Value} {t : TypeId} (h : W.heap[B]? = some (.cells #[v] t (0, 0))) : W.cell? ⟨B, 0, none⟩ = some v ∧ W.frozen? ⟨B, 0, none⟩ = false := by
  constructor <;> simp [World.cell?, World.frozen?, h]

theorem box_set {W : World} {B : Nat} {v : Value} {t : TypeId} (v' : Value) (h : W.heap[B]? = some (.cells #[v] t (0, 0))) : (W.setCell ⟨B, 0, none⟩ v').heap[B]? = some (.cells #[v'] t (0, 0)) := by
  obtain ⟨hlt, hk⟩ := Array.getElem?_eq_some_iff.1 h
  show (W.heap.modify B _)[B]? = _
  rw [Array.getElem?_eq_getElem (by rw [Array.size_modify]; exact hlt), Array.getElem_modify_self, hk]
  rfl

/-- where the set's box holds what is left -/
def left0 (B : Nat) (w : World) : Nat := match w.cell? ⟨B, 0, none⟩ with | some (.int _ x) => x.toNat | _ => 0

set_option maxHeartbeats 1000000 in
set_option maxRecDepth 100000 in
theorem each1_in (n : Nat) (hn : 2 ≤ n) (l B s : Nat) (hs : s < 18446744073709551616) (J : List Int → World → Prop)
    (hJset : ∀ pre W v, J pre W → J pre ((W.setCell ⟨B, 0, none⟩ v).drew))
    (hJT : ∀ pre W, J pre W → Tab W)
    (hY : ∀ pre (x : Nat) W, x < 64 → pre.length < 64 → J pre W → YieldAt Fence.wide (n - 1) Tryd.prog l #[.int .i64 x] W fun e W' => e = .returned (.bool true) ∧ J (pre ++ [(x : Int)]) W' ∧ W'.heap[B]? = W.heap[B]?)
    (W : World) (hB : W.heap[B]? = some (.cells #[.int .u64 s] 53 (0, 0))) (h0 : J [] W) :
    CallsIn Fence.wide n Tryd.prog 56 #[.func (.yield l) #[] #[], .pointer (some ⟨B, 0, none⟩)] W fun e W' => (∃ v, e = .returned v) ∧ J (bitsL s) W' := by
  refine callsIn_of_wp Tryd.func56 rfl trivial ?_ rfl
  simp only [Tryd.ntmps56, List.size_toArray, List.length_cons, List.length_nil, Nat.reduceAdd, Nat.reduceSub, Array.replicate_succ, Array.replicate_zero, List.push_toArray, List.append_toArray, List.nil_append, List.cons_append]
  have HJS := Aside0.mk hJset
  have HJT := Aside0.mk hJT
  have HY := Aside0.mk hY
  have HB := Aside0.mk hB
  have HS := Aside0.mk hs
  clear hJset hJT hY hB hs
  gi_wp2
  gi_loopw [3] (fun _ wr => ∃ (pre : List Int) (r : Nat), Aside0 (wr.heap[B]? = some (.cells #[.int .u64 r] 53 (0, 0))) ∧ Aside0 (r < 18446744073709551616) ∧ Aside0 (bitsL s = pre ++ bitsL r) ∧ Aside0 (J pre wr))
    (fun _ wr => left0 B wr)
  case atStart =>
    exact ⟨[], s, HB, HS, ⟨rfl⟩, ⟨h0⟩⟩
  case round =>
    obtain ⟨pre, r, HBr, HR, HL, HJ⟩ := hrel
    obtain ⟨hc, hf⟩ := box_cell HBr.out
    by_cases h0 : r = 0
    · subst h0
      simp only [Int.ofNat_zero, Int.natCast_zero] at hc
      gi_wp2
      go_end0
      exact ⟨⟨_, rfl⟩, by rw [HL.out, bitsL_zero, List.append_nil]; exact HJ.out⟩
    · have hne : ((r : Int) != 0) = true := by simpa using h0
      obtain ⟨v, hv⟩ : ∃ v, v = Lib.ctz 64 r := ⟨_, rfl⟩
      have hst := bitsL_step r h0 HR.out
      have hv64 : v < 64 := by rw [hv]; exact (ctz_spec r h0 HR.out).1
      have hlt := diffB_lt r h0 HR.out
      rw [← hv] at hst hlt
      have hlen : pre.length < 64 := by
        have h1 := bitsL_length s
        rw [HL.out, hst, List.length_append, List.length_cons] at h1
        omega
      obtain ⟨fn, tmps, assign, body, hy, hR⟩ := HY.out pre v wr hv64 hlen HJ.out
      have HTZ := Aside0.mk (show Calls Tryd.prog 57 #[.int .u64 r] wr fun e w' => e = .returned (.int .i64 v) ∧ wr = w' from hv ▸ tz_any r HR.out wr (HJT.out _ _ HJ.out))
      have HST := Aside0.mk hst
      have HLT := Aside0.mk hlt
      have HSH := Aside0.mk (show bits .andNot .u64 (r : Int) (IntKind.u64.wrap (2 ^ v)) = ((diffB r (2 ^ v) : Nat) : Int) from by
        have e : IntKind.u64.wrap ((2 : Int) ^ v) = ((2 ^ v : Nat) : Int) := by
          have h := shl_one v hv64
          rwa [Int.one_mul, show min (v : Int).toNat IntKind.u64.bits = v from by simp [IntKind.bits]; omega] at h
        rw [e]
        exact u64_andNot_nat r (2 ^ v) HR.out (pow_lt_64 hv64))
      have h1n : 1 ≤ n := by omega
      clear hst hlt hv h0 hlen
      gi_wp2_with (refine ⟨trivial, ?_⟩; gi_at_call 57; refine (callsIn_wide.2 HTZ.out).mono ?_; rintro e w' ⟨rfl, rfl⟩)
      refine hR.mono ?_
      rintro e W3 ⟨rfl, hJ3, hk3⟩
      have HJ3 := Aside0.mk hJ3
      have HK3 := Aside0.mk (hk3.trans HBr.out)
      obtain ⟨hc3, hf3⟩ := box_cell HK3.out
      clear hJ3 hk3 hR hy
      gi_wp2
      gi_region
      all_goals
        gi_wp2
        go_roundw
        case rel =>
          refine ⟨pre ++ [(v : Int)], diffB r (2 ^ v), ⟨?_⟩, ⟨Nat.lt_of_le_of_lt (diffB_le _ _) HR.out⟩, ⟨by rw [HL.out, HST.out, List.append_assoc]; rfl⟩, ⟨HJS.out _ _ _ HJ3.out⟩⟩
          rw [HSH.out]
          exact box_set _ HK3.out
        case measure =>
          rw [HSH.out]
          unfold left0
          rw [hc]
          have hnew := (box_cell (box_set (.int .u64 ((diffB r (2 ^ v) : Nat) : Int)) HK3.out)).1
          show (match (W3.setCell _ _).cell? _ with | some (.int _ x) => x.toNat | _ => 0) < _
          rw [hnew]
          have := HLT.out
          simp
          omega

end Go.Proofs.YtnnfhnehieoeaaaDoor.Hy

/- Contracts of slices.AppendSeq and slices.Collect over the vertices of a set (after the guide's worked text on slices.Collect, turned to an iterator that keeps its state in a box). -/
namespace Go.Proofs.YtnnfhnehieoeaaaDoor.Hy
open Go.RowKit Go.Shelf Go.Maps Go.Proofs.YtnnfhnehieoeaaaDoorW.PrintWords Go.Proofs.YtnnfhnehieoeaaaDoorW.PrintLast Go.Proofs.YtnnfhnehieoeaaaDoorW.PrintMore Go.Proofs.YtnnfhnehieoeaaaDoor.PHyperTells
set_option linter.unusedVariables false
set_option linter.unusedSimpArgs false
attribute [local go_sem] Oper.semAt_some

def apAssign : Code := (Code.region 2 #[{ dst := some 5, op := Op.assign (Operand.tmp 7), type := 3, pos := "iter.go:51", after := #[], guard := none }] false)
def apBody : Code := (Code.block 1 (Code.region 3 #[{ dst := some 8, op := Op.load 30 (Operand.tmp 2), type := 30, pos := "iter.go:52", after := #[], guard := none }, { dst := some 9, op := Op.move (Operand.tmp 5), type := 3, pos := "iter.go:52", after := #[], guard := none }, { dst := some 10, op := Op.buildSlice 30 1 #[(0, Operand.tmp 9)], type := 30, pos := "iter.go:52", after := #[{ on := 1, ground := Ground.data }], guard := none }, { dst := some 11, op := Op.call { callee := Callee.builtin Builtin.append, args := #[Operand.tmp 8, Operand.tmp 10], argTypes := #[30, 30] }, type := 30, pos := "iter.go:52", after := #[{ on := 0, ground := Ground.data }, { on := 2, ground := Ground.data }], guard := none }, { dst := none, op := Op.store 30 (Operand.tmp 2) (Operand.tmp 11), type := 0, pos := "iter.go:52", after := #[{ on := 3, ground := Ground.data }, { on := 3, ground := Ground.chain }, { on := 0, ground := Ground.phase }, { on := 1, ground := Ground.phase }, { on := 2, ground := Ground.phase }, { on := 3, ground := Ground.phase }], guard := none }] false))
/-- the loop's record -/
def apRec (fn : FuncId) (sv : Value) (Bs D : Nat) (st : LoopState) (pend : Option Code) : Loop :=
  { state := st, pending := pend, fn, tmps := #[.slice none 0 0, sv, .pointer (some ⟨Bs, 0, none⟩), undef, .slice none 0 0, undef, sv, undef, undef, undef, undef, undef, undef], params := #[7], assign := apAssign, body := apBody, defers := D }

/-- between two rounds -/
structure ApAt (n0 : Nat) (w0 : World) (fn : FuncId) (sv : Value) (Bs l D B : Nat) (ss : List Int) (W : World) : Prop where
  box : ∃ v, W.heap[Bs]? = some (.cells #[v] 30 (0, 0)) ∧ W.ownsRow n0 3 1 v ss.length (ss.map (Value.int .i64))
  L : W.heap[l]? = some (.loop (apRec fn sv Bs D .ready none))
  K : W.heap[D]? = some (.deferred (some []))
  bx : ∃ u, W.heap[B]? = some (.cells #[u] 53 (0, 0))
  tab : Tab W
  below : Below n0 w0 W

theorem ap_grownBy_putObj (W : World) (l : Nat) (o : Obj) : W.grownBy (W.putObj l o) (some l) :=
  ⟨rfl, rfl, rfl, by simp, fun k _ hk => World.putObj_heap_other (fun e => hk (by rw [e]))⟩
theorem ap_grownBy_setCell0 (W : World) (b : Nat) (v : Value) : W.grownBy (W.setCell ⟨b, 0, none⟩ v) (some b) :=
  ⟨rfl, rfl, rfl, (KeepsWalks.setCell W _ v).size, fun k _ hk => Below.heap_setCell _ _ _ k (fun e => hk (by rw [e]))⟩
theorem ap_ownsRow_ne {W : World} {base : Nat} {e : TypeId} {size : Nat} {v : Value} {k : Nat} {xs : List Value} (h : W.ownsRow base e size v k xs) {j : Nat} {o : Obj} (hj : W.heap[j]? = some o) (hno : ∀ cur, o ≠ .cells cur e (0, 0)) :
    v.ownBlock = none ∨ v.ownBlock ≠ some j := by
  rcases h.2 with ⟨rfl, _⟩ | ⟨g, cap, cur, rfl, _, hgb, _⟩
  · exact .inl rfl
  · refine .inr fun e' => ?_
    have : g = j := by simpa [Value.ownBlock] using e'
    subst this; rw [hgb] at hj; cases hj; exact hno cur rfl

theorem ap_set {n0 : Nat} {w0 : World} {fn : FuncId} {sv : Value} {Bs l D B : Nat} {ss : List Int} {W : World} (h : ApAt n0 w0 fn sv Bs l D B ss W) (hn : n0 ≤ B) (hn1 : 0 < n0) (v : Value) : ApAt n0 w0 fn sv Bs l D B ss ((W.setCell ⟨B, 0, none⟩ v).drew) := by
  obtain ⟨u, hu⟩ := h.bx
  obtain ⟨vb, hv, hrow⟩ := h.box
  have hg : W.grownBy (W.setCell ⟨B, 0, none⟩ v) (some B) := ap_grownBy_setCell0 W B v
  have ne : ∀ {j : Nat} {o : Obj}, W.heap[j]? = some o → (∀ u, o ≠ .cells #[u] 53 (0, 0)) → (W.setCell ⟨B, 0, none⟩ v).heap[j]? = some o := fun {j o} hj hno =>
    (hg.block j (Array.getElem?_eq_some_iff.1 hj).1 (fun e => by cases e; rw [hu] at hj; cases hj; exact hno u rfl)).trans hj
  have hb : Below n0 w0 (W.setCell ⟨B, 0, none⟩ v) := h.below.grown hg (Nat.le_trans hn (Nat.le_of_lt (Array.getElem?_eq_some_iff.1 hu).1)) (fun k e => by cases e; exact hn)
  refine ⟨⟨vb, ne hv (fun u e => by cases e), ?_⟩, ne h.L (fun u e => by cases e), ne h.K (fun u e => by cases e), ⟨v, box_set v hu⟩, ?_, hb.drew⟩
  · have := hrow.kept hg (ap_ownsRow_ne hrow hu (fun cur e => by cases e))
    exact this
  · have : Tab (W.setCell ⟨B, 0, none⟩ v) := Tab.below (n := n0) h.tab hn1 ((Below.refl n0 W).setCell (p := ⟨B, 0, none⟩) hn v)
    exact this

set_option maxRecDepth 100000 in
set_option maxHeartbeats 2000000 in
theorem apYield (m n0 : Nat) (w0 : World) (fn : FuncId) (sv : Value) (Bs l D B : Nat) (hBl : Bs ≠ l) (hDl : D ≠ l) (hDB : D ≠ Bs) (hBBs : B ≠ Bs) (hBl' : B ≠ l) (h0B : n0 ≤ Bs) (h0l : n0 ≤ l) (hn1 : 0 < n0)
    (ss : List Int) (x : Nat) (W : World) (h : ApAt n0 w0 fn sv Bs l D B ss W) (hlen : ss.length < 64) (hn0 : n0 ≤ W.heap.size) :
    YieldAt Fence.wide m Tryd.prog l #[.int .i64 x] W fun e W' => e = .returned (.bool true) ∧ ApAt n0 w0 fn sv Bs l D B (ss ++ [(x : Int)]) W' ∧ W'.heap[B]? = W.heap[B]? := by
  obtain ⟨i0, hi, hz0, hz1, hz2⟩ := info_parts info3
  obtain ⟨v, hv, hrow⟩ := h.box
  obtain ⟨u, hu⟩ := h.bx
  refine ⟨fn, #[.slice none 0 0, sv, .pointer (some ⟨Bs, 0, none⟩), undef, .slice none 0 0, undef, sv, .int .i64 x, undef, undef, undef, undef, undef], apAssign, apBody, by simpa [apRec] using run_yield (P := Tryd.prog) (args := #[.int .i64 x]) h.L rfl, roundIn_of_wpIn trivial ?_⟩
  have hl : l < W.heap.size := (Array.getElem?_eq_some_iff.1 h.L).1
  have hbr := run_beginRound (P := Tryd.prog) h.L rfl
  obtain ⟨W2, hW2⟩ : ∃ W2, W.putObj l (.loop { apRec fn sv Bs D .ready none with state := .busy }) = W2 := ⟨_, rfl⟩
  rw [hW2] at hbr
  have hg2 : W.grownBy W2 (some l) := by rw [← hW2]; exact ap_grownBy_putObj _ _ _
  have hv2 : W2.heap[Bs]? = some (.cells #[v] 30 (0, 0)) := by rw [← hW2]; exact (World.putObj_heap_other hBl).trans hv
  have hu2 : W2.heap[B]? = some (.cells #[u] 53 (0, 0)) := by rw [← hW2]; exact (World.putObj_heap_other hBl').trans hu
  have hK2 : W2.heap[D]? = some (.deferred (some [])) := by rw [← hW2]; exact (World.putObj_heap_other hDl).trans h.K
  have hL2 : W2.heap[l]? = some (.loop { apRec fn sv Bs D .ready none with state := .busy }) := by rw [← hW2]; exact World.putObj_heap_same hl
  have hrow2 : W2.ownsRow n0 3 1 v ss.length (ss.map (Value.int .i64)) := hrow.kept hg2 (ap_ownsRow_ne hrow h.L (fun cur e => by cases e))
  have hb2 : Below n0 w0 W2 := h.below.grown hg2 hn0 (fun k e => by cases e; exact h0l)
  have hbW2 : Below n0 W W2 := (Below.refl n0 W).grown hg2 hn0 (fun k e => by cases e; exact h0l)
  obtain ⟨hc2, hf2⟩ := box_cell hv2
  have hBlt : Bs < W2.heap.size := (Array.getElem?_eq_some_iff.1 hv2).1
  have hBBlt : B < W2.heap.size := (Array.getElem?_eq_some_iff.1 hu2).1
  have hl2 : l < W2.heap.size := (Array.getElem?_eq_some_iff.1 hL2).1
  have hDlt : D < W2.heap.size := (Array.getElem?_eq_some_iff.1 hK2).1
  have ne_of : ∀ {j : Nat} {o : Obj}, W2.heap[j]? = some o → (∀ cur, o ≠ .cells cur 3 (0, 0)) → some j ≠ v.ownBlock := fun hj hno => by
    rcases ap_ownsRow_ne hrow2 hj hno with e | e
    · rw [e]; simp
    · exact fun e' => e e'.symm
  have HTB := Aside0.mk h.tab
  have HU := Aside0.mk hu
  have HU2 := Aside0.mk hu2
  have HBW := Aside0.mk hbW2
  clear hW2 h hu hu2 hbW2
  unfold apAssign
  gi_wp2
  unfold apBody
  gi_wp2_with (first
    | (gi_at_builtin; refine wpListIn_append_own _ rfl _ _ 30 rfl n0 3 i0 (.int .i64 0) 1 8 Tryd.underlying30 hi hz0 hz1 hz2 rfl (by decide) _ _ _ rfl (hrow2.alloc _) ⟨W2.heap.size, 0, none⟩ 1 1 [.int .i64 x] rfl rfl (cell_one_new _ _ _) (by simp [Value.oneCell']) (by unfold maxLen; omega) (by omega) (by have := hb2.size; simp; omega) ?_; intro v' w3 hown' hg3 hnil3
       have hv3 : w3.heap[Bs]? = some (.cells #[v] 30 (0, 0)) := (hg3.block Bs (by simp; omega) (ne_of hv2 (fun cur e => by cases e))).trans ((Below.heap_alloc _ _ Bs hBlt).trans hv2)
       obtain ⟨hc3, hf3⟩ := box_cell hv3
       obtain ⟨g', cap', cur', rfl, hbase', hgb', hr1, hr2, hr3, hr4⟩ : ∃ g' cap' cur', v' = .slice (some ⟨g', 0, none⟩) (ss.length + 1) cap' ∧ n0 ≤ g' ∧ w3.heap[g']? = some (.cells cur' 3 (0, 0)) ∧ ss.length + 1 ≤ cap' ∧ cap' ≤ maxLen ∧ cur'.size = cap' * 1 ∧ cur'.toList.take ((ss.length + 1) * 1) = ss.map (Value.int .i64) ++ [.int .i64 x] := by
         rcases hown'.2 with ⟨_, h0⟩ | h'
         · exact absurd h0 (by omega)
         · exact h'
       go_frame))
  have hg3' : (W2.alloc (.cells #[.int .i64 x] 3)).grownBy w3 v.ownBlock := hg3
  have hL3 : w3.heap[l]? = some (.loop { apRec fn sv Bs D .ready none with state := .busy }) := (hg3'.block l (by simp; omega) (ne_of hL2 (fun cur e => by cases e))).trans ((Below.heap_alloc _ _ l hl2).trans hL2)
  have hK3 : w3.heap[D]? = some (.deferred (some [])) := (hg3'.block D (by simp; omega) (ne_of hK2 (fun cur e => by cases e))).trans ((Below.heap_alloc _ _ D hDlt).trans hK2)
  have hu3 : w3.heap[B]? = some (.cells #[u] 53 (0, 0)) := (hg3'.block B (by simp; omega) (ne_of HU2.out (fun cur e => by cases e))).trans ((Below.heap_alloc _ _ B hBBlt).trans HU2.out)
  obtain ⟨w4, hw4⟩ : ∃ w4, w3.setCell ⟨Bs, 0, none⟩ (.slice (some ⟨g', 0, none⟩) (ss.length + 1) cap') = w4 := ⟨_, rfl⟩
  rw [hw4]
  have hg4 : w3.grownBy w4 (some Bs) := by rw [← hw4]; exact ap_grownBy_setCell0 _ _ _
  have hv4 : w4.heap[Bs]? = some (.cells #[.slice (some ⟨g', 0, none⟩) (ss.length + 1) cap'] 30 (0, 0)) := by rw [← hw4]; exact box_set _ hv3
  have hL4 : w4.heap[l]? = some (.loop { apRec fn sv Bs D .ready none with state := .busy }) := (hg4.block l (Array.getElem?_eq_some_iff.1 hL3).1 (fun e => hBl (by cases e; rfl))).trans hL3
  have hK4 : w4.heap[D]? = some (.deferred (some [])) := (hg4.block D (Array.getElem?_eq_some_iff.1 hK3).1 (fun e => hDB (by cases e; rfl))).trans hK3
  have hu4 : w4.heap[B]? = some (.cells #[u] 53 (0, 0)) := (hg4.block B (Array.getElem?_eq_some_iff.1 hu3).1 (fun e => hBBs (by cases e; rfl))).trans hu3
  have hrow4 := hown'.kept hg4 (ap_ownsRow_ne hown' hv3 (fun cur e => by cases e))
  have hl4 : l < w4.heap.size := (Array.getElem?_eq_some_iff.1 hL4).1
  have hsz2 : n0 ≤ W2.heap.size := Nat.le_trans hn0 HBW.out.size
  have hb3 : Below n0 w0 w3 := (hb2.alloc hsz2 _).grown hg3' (by simp; omega) (fun k e => (hrow2.lt k e).1)
  have hbW3 : Below n0 W w3 := (HBW.out.alloc hsz2 _).grown hg3' (by simp; omega) (fun k e => (hrow2.lt k e).1)
  have hbW4 : Below n0 W w4 := hbW3.grown hg4 (Nat.le_trans hn0 hbW3.size) (fun k e => by cases e; exact h0B)
  have hb4 : Below n0 w0 w4 := hb3.grown hg4 (Nat.le_trans hn0 hbW3.size) (fun k e => by cases e; exact h0B)
  clear hw4
  have hg5 : w4.grownBy (w4.putObj l (.loop { { apRec fn sv Bs D .ready none with state := .busy } with state := if (none : Option Code).isNone then .ready else .done, pending := none })) (some l) := ap_grownBy_putObj _ _ _
  refine ⟨_, _, run_endRound none hL4, rfl, ⟨⟨_, (World.putObj_heap_other hBl).trans hv4, ?_⟩, World.putObj_heap_same hl4, (World.putObj_heap_other hDl).trans hK4, ⟨u, (World.putObj_heap_other hBl').trans hu4⟩, HTB.out.below hn1 (hbW4.grown hg5 (Nat.le_trans hn0 hbW4.size) (fun k e => by cases e; exact h0l)), hb4.grown hg5 (Nat.le_trans hn0 hbW4.size) (fun k e => by cases e; exact h0l)⟩, ((World.putObj_heap_other hBl').trans hu4).trans HU.out.symm⟩
  have := hrow4.kept hg5 (ap_ownsRow_ne hrow4 hL4 (fun cur e => by cases e))
  simpa using this

set_option maxRecDepth 100000 in
set_option maxHeartbeats 2000000 in
/-- 'slices.AppendSeq(nil, s.each())', the box of s being the last block -/
theorem appendSeq_in (n : Nat) (hn : 4 ≤ n) (B s : Nat) (hs : s < 18446744073709551616) (w : World) (hB : w.heap[B]? = some (.cells #[.int .u64 s] 53 (0, 0))) (hsz : w.heap.size = B + 1) (hT : Tab w) (hB0 : 0 < B) :
    CallsIn Fence.wide n Tryd.prog 55 #[.slice none 0 0, .func (.func 56) #[] #[.pointer (some ⟨B, 0, none⟩)]] w fun e w' => ∃ v, e = .returned v ∧ w'.ownsRow B 3 1 v (bitsL s).length ((bitsL s).map (Value.int .i64)) ∧ Below B w w' := by
  have h1 : 1 ≤ n := by omega
  have eg : ∀ args w, (callFunc 56 args).run Tryd.prog w = .ok (.enter 56 args) w := enters_of Tryd.func56 (by kernel_rfl) rfl
  refine callsIn_of_wp_marks Tryd.func55 rfl trivial ?_ rfl
  simp only [Tryd.ntmps55, List.size_toArray, List.length_cons, List.length_nil, Nat.reduceAdd, Nat.reduceSub, Array.replicate_succ, Array.replicate_zero, List.push_toArray, List.append_toArray, List.nil_append, List.cons_append]
  have HBX := Aside0.mk hB
  have HT := Aside0.mk hT
  have HSZ := Aside0.mk hsz
  clear hB hT hsz
  gi_wp2
  refine wpIn_rangeFunc ?_
  intro fn hfn
  obtain ⟨W0, hW0⟩ : ∃ W0, w.alloc (.cells #[.slice none 0 0] 30) = W0 := ⟨_, rfl⟩
  have hs0 : W0.heap.size = w.heap.size + 1 := by rw [← hW0]; simp
  have hv0 : W0.heap[w.heap.size]? = some (.cells #[.slice none 0 0] 30 (0, 0)) := by rw [← hW0]; exact World.alloc_heap_new w _
  have hbw : w.heap.size = B + 1 := HSZ.out
  have hb0 : Below w.heap.size w W0 := by rw [← hW0]; exact (Below.refl _ w).alloc (Nat.le_refl _) _
  rw [hW0]
  obtain ⟨W1, hW1⟩ : ∃ W1, (W0.alloc (.deferred (some []))).alloc (.loop (apRec fn (.func (.func 56) #[] #[.pointer (some ⟨B, 0, none⟩)]) w.heap.size W0.heap.size .ready none)) = W1 := ⟨_, rfl⟩
  have hold : ∀ k, k < W0.heap.size → W1.heap[k]? = W0.heap[k]? := fun k hk => by
    rw [← hW1]; exact (Below.heap_alloc _ _ k (by simp; omega)).trans (Below.heap_alloc _ _ k hk)
  have hb1 : Below w.heap.size w W1 := by rw [← hW1]; exact (hb0.alloc hb0.size _).alloc (by have := hb0.size; simp; omega) _
  have hs1 : W1.heap.size = W0.heap.size + 2 := by rw [← hW1]; simp
  have hBX1 : W1.heap[B]? = some (.cells #[.int .u64 s] 53 (0, 0)) := (hb1.block B (by omega)).trans HBX.out
  have hM : ApAt B w fn (.func (.func 56) #[] #[.pointer (some ⟨B, 0, none⟩)]) w.heap.size (W0.heap.size + 1) W0.heap.size B [] W1 :=
    ⟨⟨_, (hold w.heap.size (by omega)).trans hv0, ⟨rfl, .inl ⟨rfl, rfl⟩⟩⟩,
     by rw [← hW1]; have := World.alloc_heap_new (W0.alloc (.deferred (some []))) (.loop (apRec fn (.func (.func 56) #[] #[.pointer (some ⟨B, 0, none⟩)]) w.heap.size W0.heap.size .ready none)); rwa [World.size_alloc] at this,
     by rw [← hW1]; exact (Below.heap_alloc _ _ _ (by simp)).trans (World.alloc_heap_new W0 _), ⟨_, hBX1⟩, HT.out.below (by omega) hb1, hb1.mono (by omega)⟩
  refine ⟨W0.heap.size + 1, [{ target := .collected W0.heap.size, args := #[] }], W1, { target := .fn (.func 56) #[.pointer (some ⟨B, 0, none⟩)], args := #[.func (.yield (W0.heap.size + 1)) #[] #[]] }, W1, 56,
    #[.func (.yield (W0.heap.size + 1)) #[] #[]] ++ #[.pointer (some ⟨B, 0, none⟩)], W1, ?_, ?_, ?_, ?_, fun _ => h1, ?_⟩
  · rw [← hW1]; exact run_enterLoop_outer _ _ _ _ _
  · simp [resolve, go_sem]
  · intro f' hf'; trivial
  · simp [invoke, go_sem, eg]
  · have hJS : ∀ pre W v, (ApAt B w fn (.func (.func 56) #[] #[.pointer (some ⟨B, 0, none⟩)]) w.heap.size (W0.heap.size + 1) W0.heap.size B pre W ∧ B ≤ W.heap.size) → (ApAt B w fn (.func (.func 56) #[] #[.pointer (some ⟨B, 0, none⟩)]) w.heap.size (W0.heap.size + 1) W0.heap.size B pre ((W.setCell ⟨B, 0, none⟩ v).drew) ∧ B ≤ ((W.setCell ⟨B, 0, none⟩ v).drew).heap.size) := fun pre W v h =>
      ⟨ap_set h.1 (Nat.le_refl _) hB0 v, by have := (ap_set h.1 (Nat.le_refl _) hB0 v).below.size; omega⟩
    refine (each1_in (n - 1) (by omega) (W0.heap.size + 1) B s hs (fun pre W => ApAt B w fn (.func (.func 56) #[] #[.pointer (some ⟨B, 0, none⟩)]) w.heap.size (W0.heap.size + 1) W0.heap.size B pre W ∧ B ≤ W.heap.size)
      hJS (fun pre W h => h.1.tab) (fun pre x W hx hl hJ => ?_) W1 hBX1 ⟨hM, by omega⟩).mono ?_
    · refine (apYield (n - 1 - 1) B w fn _ w.heap.size (W0.heap.size + 1) W0.heap.size B (by omega) (by omega) (by omega) (by omega) (by omega) (by omega) (by omega) hB0 pre x W hJ.1 hl hJ.2).mono ?_
      rintro e W' ⟨he, hA, hk⟩
      exact ⟨he, ⟨hA, by have := hA.below.size; omega⟩, hk⟩
    rintro e W2 ⟨⟨v0, rfl⟩, h2, _⟩
    obtain ⟨v, hv, hrow⟩ := h2.box
    have hend := run_endLoop (P := Tryd.prog) h2.L (by simp [apRec])
    obtain ⟨W3, hW3⟩ : ∃ W3, W2.putObj (W0.heap.size + 1) (.loop { apRec fn (.func (.func 56) #[] #[.pointer (some ⟨B, 0, none⟩)]) w.heap.size W0.heap.size .ready none with state := .exhausted }) = W3 := ⟨_, rfl⟩
    rw [hW3] at hend
    have hg3 : W2.grownBy W3 (some (W0.heap.size + 1)) := by rw [← hW3]; exact ap_grownBy_putObj _ _ _
    have hv3 : W3.heap[w.heap.size]? = some (.cells #[v] 30 (0, 0)) := by rw [← hW3]; exact (World.putObj_heap_other (by omega)).trans hv
    have hK3 : W3.heap[W0.heap.size]? = some (.deferred (some [])) := by rw [← hW3]; exact (World.putObj_heap_other (by omega)).trans h2.K
    have hrow3 := hrow.kept hg3 (ap_ownsRow_ne hrow h2.L (fun cur e => by cases e))
    have hz2 := h2.below.size
    have hb3 : Below B w W3 := h2.below.grown hg3 (by omega) (fun k e => by cases e; omega)
    obtain ⟨hc3, hf3⟩ := box_cell hv3
    have hz3 := hb3.size
    have HR3 := Aside0.mk hrow3
    have HB3 := Aside0.mk hb3
    clear hW3 hrow hrow3 hb3 hv hb1 hb0 hM h2 hbw
    refine ⟨none, W3, hend, ?_⟩
    gi_wp2
    rw [← hs0]
    refine ⟨by simp, .inl ⟨_, _, rfl, run_takeDeferred hK3, ?_⟩⟩
    exact ⟨_, results_tmp rfl _ _ _, v, rfl, HR3.out.kept (ap_grownBy_putObj _ _ _) (ap_ownsRow_ne HR3.out hK3 (fun cur e => by cases e)), HB3.out.grown (ap_grownBy_putObj _ _ _) (by have := HSZ.out; omega) (fun k e => by cases e; have := HSZ.out; omega)⟩

set_option maxHeartbeats 1000000 in
theorem collect_any (B s : Nat) (hs : s < 18446744073709551616) (w : World) (hB : w.heap[B]? = some (.cells #[.int .u64 s] 53 (0, 0))) (hsz : w.heap.size = B + 1) (hT : Tab w) (hB0 : 0 < B) :
    Calls Tryd.prog 33 #[.func (.func 56) #[] #[.pointer (some ⟨B, 0, none⟩)]] w fun e w' => ∃ v, e = .returned v ∧ KI.R 3 w' B anyK v (bitsL s) ∧ Below B w w' := by
  have HA := Aside0.mk (callsIn_wide.1 (appendSeq_in 4 (by omega) B s hs w hB hsz hT hB0))
  clear hB hsz hT
  go_enter Tryd.func33, Tryd.ntmps33
  go_wp2_with (go_at_call 55; refine (HA.out).mono ?_; rintro e w1 ⟨v, rfl, hv, hb1⟩; have HV := Aside0.mk hv; have HB1 := Aside0.mk hb1; clear hv hb1)
  go_ret
  exact ⟨_, rfl, Kd.R_of_own HV.out (fun _ _ => trivial), HB1.out⟩

end Go.Proofs.YtnnfhnehieoeaaaDoor.Hy
