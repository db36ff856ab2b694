/- What the laws' walks hold while they go: the argument's box, the hypergraph of their own, the table. (written by gen27.py) -/
import Derived.Test.YtnnfhnehieoeaaaDoorEA22
import Derived.Deep.RegionHeld3
namespace Go.Proofs.YtnnfhnehieoeaaaDoor.Hy
open Go.RowKit Go.Shelf Go.Proofs.YtnnfhnehieoeaaaDoorW.PrintWords Go.Proofs.YtnnfhnehieoeaaaDoorW.PrintLast Go.Proofs.YtnnfhnehieoeaaaDoorW.PrintMore Go.Proofs.YtnnfhnehieoeaaaDoor.PHyperTells
set_option linter.unusedVariables false
set_option linter.unusedSimpArgs false

section
variable {ops : Array Oper} {o : Oper} {a : Act} {Q : Exit → Act → World → Prop} {rest : List Oper}
/-- 'append(f(..), t)', t an older row, f's result a fresh list -/
theorem app_t {w0 W w1 : World} {base : Nat} (s x : Operand) {u v : Value} {ys : List (List Int)} {t : List Int} (hgd : o.guard = none)
    (ho : o.op = .call { callee := .builtin .append, args := #[s, x], argTypes := #[22, 22] }) (hs : a.eval s = u) (hx : a.eval x = .slice (some ⟨w1.heap.size, 0, none⟩) 1 1)
    (HO : KL.R 30 w1 W.heap.size anyK u ys) (hv : KI.R 3 W base anyK v t) (hb1 : Below W.heap.size W w1) (HB : Below base w0 W) (hbase : base ≤ W.heap.size) (hl : ys.length ≤ 1099511627776)
    (h : ∀ (v1 : Value) (w2 : World), KL.R 30 w2 base anyK v1 (ys ++ [t]) → Below base w0 w2 → w1.grownBy w2 u.ownBlock → wpList Tryd.prog ops Q rest (a.put o.dst v1) w2) :
    wpList Tryd.prog ops Q (o :: rest) a (w1.alloc (.cells #[v] 30)) := by
  have hM : KL.M w1 base (fun k => k < W.heap.size) t [v] := ⟨v, rfl, Kd.R_below (Kd.R_mono (Kd.R_bound hv) (fun k hk => hk.2.2.1)) hb1⟩
  refine Kd.R_append KL (w0 := w0) (W := w1) base hgd s x 22 30 (.slice none 0 0) 24 ho Tryd.underlying22 info30 rfl (by decide) (by decide) u ys t [v] anyK (fun k => k < W.heap.size) hs hx
    hM (fun k hk => ⟨trivial, fun e => by have := Kd.R_base HO k e.symm; omega⟩) (fun _ _ => trivial) (Kd.R_lower HO hbase) (HB.trans (hb1.mono hbase)) (Nat.le_trans hbase hb1.size) (by omega) ?_
  intro v1 w2 h1 h2 h3 _
  exact h v1 w2 h1 h2 h3
end

theorem field_edges (many : Int) (A : Option Addr) (n c : Nat) (W : World) : (Instr.field 24 (.agg #[.int .i64 many, .slice A n c]) 1).run Tryd.prog W = .ok (.slice A n c) W := by
  kernel_rfl

theorem alloc_below (w : World) (o : Obj) : Below w.heap.size w (w.alloc o) := (Below.refl _ w).alloc (Nat.le_refl _) o

/-- what is held to be read: the argument's box (gb), the law's own hypergraph (g4) and its rows, the table -/
structure HeldC (w : World) (gb g4 : Nat) (many : Int) (A : Option Addr) (n c : Nat) (Av : Option Addr) (cv : Nat) (y : List (List Int)) (W : World) : Prop where
  bel : Below w.heap.size w W
  bx : W.heap[gb]? = some (.cells #[.int .i64 many, .slice A n c] 24 (0, 0))
  gx : W.heap[g4]? = some (.cells #[.int .i64 many, .slice Av y.length cv] 24 (0, 0))
  vc : KL.C W Av y.length y
  tab : Tab W
/-- the same, and the rows are the law's own -/
structure HeldR (w : World) (gb g4 : Nat) (many : Int) (A : Option Addr) (n c : Nat) (Av : Option Addr) (cv : Nat) (y : List (List Int)) (W : World) : Prop where
  held : HeldC w gb g4 many A n c Av cv y W
  vr : KL.R 30 W w.heap.size anyK (.slice Av y.length cv) y
section
variable {w W W' : World} {gb g4 : Nat} {many : Int} {A : Option Addr} {n c : Nat} {Av : Option Addr} {cv : Nat} {y : List (List Int)}
theorem HeldC.below (h : HeldC w gb g4 many A n c Av cv y W) (hb : Below W.heap.size W W') : HeldC w gb g4 many A n c Av cv y W' :=
  ⟨h.bel.trans (hb.mono h.bel.size), blk_below h.bx hb, blk_below h.gx hb, Kd.C_below h.vc hb, h.tab.below h.tab.lt hb⟩
theorem HeldC.drew (h : HeldC w gb g4 many A n c Av cv y W) : HeldC w gb g4 many A n c Av cv y W.drew :=
  ⟨h.bel.drew, blk_drew h.bx, blk_drew h.gx, Kd.C_drew h.vc, fun j hj => h.tab j hj⟩
theorem HeldC.z0 (h : HeldC w gb g4 many A n c Av cv y W) : W.cell? ⟨g4, 0, none⟩ = some (.int .i64 many) := (blk_cell h.gx 0).trans rfl
theorem HeldC.z1 (h : HeldC w gb g4 many A n c Av cv y W) : W.cell? ⟨g4, 1, none⟩ = some (.slice Av y.length cv) := (blk_cell h.gx 1).trans rfl
theorem HeldC.q0 (h : HeldC w gb g4 many A n c Av cv y W) : W.cell? ⟨gb, 0, none⟩ = some (.int .i64 many) := (blk_cell h.bx 0).trans rfl
theorem HeldC.q1 (h : HeldC w gb g4 many A n c Av cv y W) : W.cell? ⟨gb, 1, none⟩ = some (.slice A n c) := (blk_cell h.bx 1).trans rfl
theorem HeldR.below (h : HeldR w gb g4 many A n c Av cv y W) (hb : Below W.heap.size W W') : HeldR w gb g4 many A n c Av cv y W' := ⟨h.held.below hb, Kd.R_below h.vr hb⟩
theorem HeldR.drew (h : HeldR w gb g4 many A n c Av cv y W) : HeldR w gb g4 many A n c Av cv y W.drew := ⟨h.held.drew, Kd.R_drew h.vr⟩
theorem HeldR.rd (h : HeldR w gb g4 many A n c Av cv y W) : KL.C W Av y.length y := h.held.vc
theorem HeldR.z0 (h : HeldR w gb g4 many A n c Av cv y W) : W.cell? ⟨g4, 0, none⟩ = some (.int .i64 many) := h.held.z0
theorem HeldR.z1 (h : HeldR w gb g4 many A n c Av cv y W) : W.cell? ⟨g4, 1, none⟩ = some (.slice Av y.length cv) := h.held.z1
theorem HeldR.q0 (h : HeldR w gb g4 many A n c Av cv y W) : W.cell? ⟨gb, 0, none⟩ = some (.int .i64 many) := h.held.q0
theorem HeldR.q1 (h : HeldR w gb g4 many A n c Av cv y W) : W.cell? ⟨gb, 1, none⟩ = some (.slice A n c) := h.held.q1
theorem HeldC.argC (h : HeldC w gb g4 many A n c Av cv y W) {xs : List (List Int)} (hr : KL.C w A xs.length xs) : KL.C W A xs.length xs := Kd.C_below hr h.bel
theorem HeldR.argC (h : HeldR w gb g4 many A n c Av cv y W) {A' : Option Addr} {xs : List (List Int)} (hr : KL.C w A' xs.length xs) : KL.C W A' xs.length xs := Kd.C_below hr h.held.bel
/-- behind an append onto a row that is none of these -/
theorem HeldR.appended (h : HeldR w gb g4 many A n c Av cv y W) {w9 w10 : World} (hb : Below W.heap.size W w9) {u : Value} {qs : List (List Int)} (hu : KL.R 30 w9 W.heap.size anyK u qs) (hg : w9.grownBy w10 u.ownBlock)
    (hw : Below w.heap.size w w10) : HeldC w gb g4 many A n c Av cv y w10 := by
  have h9 := h.below hb
  refine ⟨hw, blk_grown h9.held.bx hg (R_ne_obj hu h9.held.bx (fun cells e => by cases e)), blk_grown h9.held.gx hg (R_ne_obj hu h9.held.gx (fun cells e => by cases e)), ?_, ?_⟩
  · exact (Kd.R_reads' (Kd.R_grown (Kd.R_below (Kd.R_mono (Kd.R_bound h.vr) (fun k hk => (hk.2.2.1 : k < W.heap.size))) hb) hg (fun k hk e => by have := Kd.R_base hu k e.symm; omega))).2.2
  · have hlt : 0 < w.heap.size ∨ w.heap.size = 0 := by omega
    have ht := h9.held.tab
    intro j hj
    have h1 := ht j hj
    rw [← h1]
    refine hg.cell_far ⟨0, j, none⟩ (World.block_lt_of_cell? w9 _ h1) (fun e => ?_)
    have h2 := Kd.R_base hu 0 (show u.ownBlock = some 0 from e.symm)
    have h3 := h.held.tab.lt
    omega
end

theorem own_held (many : Int) (A : Option Addr) (c : Nat) {n : Nat} (y : List (List Int)) {w W w4 : World} {gb : Nat} (HB : Below w.heap.size w W) (HBX : W.heap[gb]? = some (.cells #[.int .i64 many, .slice A n c] 24 (0, 0))) (hT : Tab W)
    {Av : Option Addr} {cv : Nat} (hv : KL.R 30 w4 W.heap.size anyK (.slice Av y.length cv) y) (hb : Below W.heap.size W w4) :
    HeldR w gb w4.heap.size many A n c Av cv y (w4.alloc (.cells #[.int .i64 many, .slice Av y.length cv] 24)) := by
  have hbb := alloc_below w4 (Obj.cells #[.int .i64 many, .slice Av y.length cv] 24)
  have hvr := Kd.R_lower (Kd.R_below hv hbb) HB.size
  exact ⟨⟨(HB.trans (hb.mono HB.size)).alloc (Nat.le_trans HB.size hb.size) _, blk_below (blk_below HBX hb) hbb, blk_new w4 _, (Kd.R_reads' hvr).2.2, (hT.below hT.lt hb).below (hT.below hT.lt hb).lt hbb⟩, hvr⟩

end Go.Proofs.YtnnfhnehieoeaaaDoor.Hy
