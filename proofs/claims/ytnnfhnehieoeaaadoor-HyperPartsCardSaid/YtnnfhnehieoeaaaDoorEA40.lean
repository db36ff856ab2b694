/- The contract of slices.Clone at rows of rows: the copy's rows are the elder ones. (written by gen40.py) -/
import Derived.Test.YtnnfhnehieoeaaaDoorEA27
import Derived.Test.YtnnfhnehieoeaaaDoorEB10
namespace Go.Proofs.YtnnfhnehieoeaaaDoor.Hy
open Go.RowKit Go.Shelf Go.Proofs.YtnnfhnehieoeaaaDoorW.PrintWords Go.Proofs.YtnnfhnehieoeaaaDoorW.PrintLast Go.Proofs.YtnnfhnehieoeaaaDoorW.PrintMore Go.Proofs.YtnnfhnehieoeaaaDoor.PHyperTells
set_option linter.unusedVariables false
set_option linter.unusedSimpArgs false

set_option maxHeartbeats 1000000 in
theorem cloneL_any (B : Nat) (A : Option Addr) (c : Nat) (xs : List (List Int)) (w : World) (hx : KL.R 30 w B anyK (.slice A xs.length c) xs) (hB : B ≤ w.heap.size) (hlen : xs.length ≤ 1000) :
    Calls Tryd.prog 20 #[.slice A xs.length c] w fun e w' => ∃ v, e = .returned v ∧ KL.R 30 w' B anyK v xs ∧ (∀ k, v.ownBlock = some k → w.heap.size ≤ k) ∧ Below w.heap.size w w' := by
  have HM := Aside0.mk (rows_made hx).2.2
  have heq := fun w => Lib.run_eql_slice_nil (P := Tryd.prog) w 22 30 A xs.length c 0 0 Tryd.underlying22
  clear hx
  cases A with
  | none =>
    have hx : xs = [] := by
      cases xs with
      | nil => rfl
      | cons x l => obtain ⟨ad, h, _⟩ := HM.out.2.2 (by simp); cases h
    subst hx
    simp only [List.length_nil, Option.isNone_none] at heq ⊢
    go_enter Tryd.func20, Tryd.ntmps20
    go_wp2
    go_ret
    exact ⟨_, rfl, Kd.R_nil _ _ _ _ _, fun k hk => by simp [Value.ownBlock] at hk, Below.refl _ _⟩
  | some ad =>
    go_enter Tryd.func20, Tryd.ntmps20
    go_wp2_with (first
      | ((with_reducible refine gate_dst (N := 5) rfl ?_); go_must (refine Kd.R_lit KL (w0 := w) B 30 ?hg (N := 5) ?hd (xs := ([] : List (List Int))) (inner := []) (ok := anyK) (okp := anyK) ?hr ?hp (fun _ hk => hk) trivial ?hB ?hb (by simp) ?_); (case hd => rfl); (case hg => rfl); (case hr => first | (go_simp; done) | (go_simp; rfl)); (case hp => exact Reps.none _ _); (case hB => exact Below.refl _ _); (case hb => exact hB); intro v30 w3 ho3 hb3 hg3 hn3; have HO3 := Aside0.mk ho3; have HB3 := Aside0.mk ((Below.refl w.heap.size w).grown hg3 (Nat.le_refl _) (fun k hk => by cases hk)); have HN3 : Aside0 (∀ k, v30.ownBlock = some k → w.heap.size ≤ k) := ⟨fun k hk => by obtain ⟨b, e1, e2⟩ := hn3; rw [e1] at hk; injection hk with hk; subst hk; exact e2⟩; clear ho3 hb3 hg3 hn3)
      | (at_builtin; go_must (refine Kd.R_append_rows KL (Rr := KL.M _ B (fun k => k < w.heap.size)) (w0 := w) B rfl (.tmp 5) (.tmp 6) 22 30 (.slice none 0 0) 24 rfl Tryd.underlying22 info30 rfl (by decide) (by decide) v30 [] xs (some ad) xs.length c anyK (fun k => k < w.heap.size) rfl rfl HO3.out (ReadsRow.imp_ HM.out HB3.out (fun p cs hp => Kd.M_below hp HB3.out)) (fun _ _ h => h) (fun k hk => ⟨trivial, fun e => by have := HN3.out k e.symm; omega⟩) (fun _ _ => trivial) (HB3.out.mono hB) (Nat.le_trans hB HB3.out.size) (by simp; omega) ?_); intro v32 w4 ho4 hb4 hg4 hat4; have HO4 := Aside0.mk ho4; have HB4 := Aside0.mk (HB3.out.grown hg4 HB3.out.size HN3.out); have HN4 : Aside0 (∀ k, v32.ownBlock = some k → w.heap.size ≤ k) := ⟨fun k hk => by rcases hat4 with e1 | ⟨b, e1, e2⟩; exact HN3.out k (e1.symm.trans hk); rw [e1] at hk; injection hk with hk; subst hk; exact Nat.le_trans HB3.out.size e2⟩; clear ho4 hb4 hg4 hat4))
    go_ret
    exact ⟨_, rfl, HO4.out, HN4.out, HB4.out⟩

end Go.Proofs.YtnnfhnehieoeaaaDoor.Hy

/- A row appended to a copy of rows, in a region of open order: what each operation keeps. (written by gen41.py) -/
namespace Go.Proofs.YtnnfhnehieoeaaaDoor.Hy
open Go.RowKit Go.Shelf Go.Proofs.YtnnfhnehieoeaaaDoorW.PrintWords Go.Proofs.YtnnfhnehieoeaaaDoorW.PrintLast Go.Proofs.YtnnfhnehieoeaaaDoorW.PrintMore Go.Proofs.YtnnfhnehieoeaaaDoor.PHyperTells
set_option linter.unusedVariables false
set_option linter.unusedSimpArgs false

/-- a copy of rows, made since the world Wr -/
def CopyAt (B : Nat) (Wr : World) (v : Value) (y : List (List Int)) (W : World) : Prop := KL.R 30 W B anyK v y ∧ ∀ k, v.ownBlock = some k → Wr.heap.size ≤ k
/-- a block made since the world Wr -/
def BlkAt (Wr : World) (g : Nat) (o : Obj) (W : World) : Prop := W.heap[g]? = some o ∧ Wr.heap.size ≤ g
section
variable {B : Nat} {Wr W W' : World} {v : Value} {y : List (List Int)} {g : Nat} {o : Obj}
theorem CopyAt.below (h : CopyAt B Wr v y W) (hb : Below W.heap.size W W') : CopyAt B Wr v y W' := ⟨Kd.R_below h.1 hb, h.2⟩
theorem BlkAt.below (h : BlkAt Wr g o W) (hb : Below W.heap.size W W') : BlkAt Wr g o W' := ⟨blk_below h.1 hb, h.2⟩
theorem BlkAt.new (hle : Wr.heap.size ≤ W.heap.size) (o : Obj) : BlkAt Wr W.heap.size o (W.alloc o) := ⟨blk_new W o, hle⟩
theorem BlkAt.grown {cs : Array Value} (h : BlkAt Wr g (.cells cs 24 (0, 0)) W) (hv : CopyAt B Wr v y W) (hg : W.grownBy W' v.ownBlock) : BlkAt Wr g (.cells cs 24 (0, 0)) W' :=
  ⟨blk_grown h.1 hg (R_ne_obj hv.1 h.1 (fun cells e => by cases e)), h.2⟩
theorem CopyAt.stored {cs : Array Value} (h : CopyAt B Wr v y W) (hk : BlkAt Wr g (.cells cs 24 (0, 0)) W) (hg : W.grownBy W' (some g)) : CopyAt B Wr v y W' := by
  refine ⟨Kd.R_mono (Kd.R_grown (Kd.R_bound h.1) hg (fun k hk2 e => ?_)) (fun _ _ => trivial), h.2⟩
  obtain ⟨_, _, _, q, hq, cells, hc⟩ := hk2
  injection e with e
  rw [e, hk.1] at hc
  injection hc with hc
  injection hc with h1 h2 h3
  rw [← h2] at hq
  exact absurd hq (by decide)
theorem since_grown {row : Option Nat} (hb : Below Wr.heap.size Wr W) (hg : W.grownBy W' row) (hr : ∀ k, row = some k → Wr.heap.size ≤ k) : Below Wr.heap.size Wr W' := hb.grown hg hb.size hr
theorem since_alloc (hb : Below Wr.heap.size Wr W) (o : Obj) : Below Wr.heap.size Wr (W.alloc o) := hb.alloc hb.size o
theorem store2_grown (w : World) (g : Nat) (a b : Value) : w.grownBy ((w.setCell ⟨g, 0, none⟩ a).setCell ⟨g, 1, none⟩ b) (some g) :=
  ⟨rfl, rfl, rfl, by simp [World.setCell], fun k hk hne => (Below.heap_setCell _ ⟨g, 1, none⟩ b k (fun e => hne (by rw [e]))).trans (Below.heap_setCell w ⟨g, 0, none⟩ a k (fun e => hne (by rw [e])))⟩
theorem BlkAt.stored2 {x0 x1 : Value} (h : BlkAt Wr g (.cells #[x0, x1] 24 (0, 0)) W) (a b : Value) : BlkAt Wr g (.cells #[a, b] 24 (0, 0)) ((W.setCell ⟨g, 0, none⟩ a).setCell ⟨g, 1, none⟩ b) :=
  ⟨blk_put (blk_put h.1 0 a rfl) 1 b rfl, h.2⟩
theorem since_stored2 (hb : Below Wr.heap.size Wr W) (h : BlkAt Wr g o W) (a b : Value) : Below Wr.heap.size Wr ((W.setCell ⟨g, 0, none⟩ a).setCell ⟨g, 1, none⟩ b) :=
  since_grown hb (store2_grown W g a b) (fun k e => by injection e with e; rw [← e]; exact h.2)
/-- the new row, as the append reads it -/
theorem new_row {t : List Int} {u : Value} (hk : BlkAt Wr g (.cells #[u] 30 (0, 0)) W) (ht : KI.R 3 Wr B anyK u t) (hb : Below Wr.heap.size Wr W) :
    ReadsRow (KL.M W B (fun k => k < Wr.heap.size)) 1 W (some ⟨g, 0, none⟩) 1 [t] := by
  refine ⟨rfl, by decide, fun _ => ⟨_, rfl, fun j p hj => ?_⟩⟩
  have hj0 : j = 0 := by have := (List.getElem?_eq_some_iff.1 hj).1; simpa using this
  subst hj0
  have hp : t = p := by simpa using hj
  subst hp
  refine ⟨[u], rfl, ⟨u, rfl, Kd.R_below (Kd.R_mono (Kd.R_bound ht) (fun k hk => hk.2.2.1)) hb⟩, fun i u' hu => ?_⟩
  have hi0 : i = 0 := by have := (List.getElem?_eq_some_iff.1 hu).1; simpa using this
  subst hi0
  have : u = u' := by simpa using hu
  subst this
  exact (blk_cell hk.1 0).trans rfl
end
/-- the beginning of a row of one's own -/
theorem R_takeI {w : World} {B n c m : Nat} {A : Option Addr} {xs : List Int} (h : KI.R 3 w B anyK (.slice A n c) xs) (hn : n = xs.length) (hm : m ≤ n) : KI.R 3 w B anyK (.slice A m c) (xs.take m) := by
  have h1 := Kd.own_of_R h
  rw [← hn] at h1
  have h2 := own_take h1 hm
  refine Kd.R_of_own ?_ (fun _ _ => trivial)
  rw [List.length_take, Nat.min_eq_left (by omega)]
  rw [Nat.mul_one] at h2
  unfold encs at h2 ⊢
  rw [List.map_take]
  exact h2
/-- a row of a row of rows of one's own -/
theorem at_made {w : World} {B c : Nat} {A : Option Addr} {y : List (List Int)} (h : KL.R 30 w B anyK (.slice A y.length c) y) (k : Nat) (hk : k < y.length) :
    ∃ ad A0 c0, A = some ad ∧ w.cell? (ad.add k) = some (.slice A0 (rdL y k).length c0) ∧ KI.R 3 w B anyK (.slice A0 (rdL y k).length c0) (rdL y k) := by
  obtain ⟨_, _, h1⟩ := rows_made h
  obtain ⟨ad, e, hc⟩ := h1.2.2 (by omega)
  obtain ⟨cs, hl, ⟨v, e1, hv⟩, hcell⟩ := hc k _ (List.getElem?_eq_getElem hk)
  subst e1
  obtain ⟨A0, c0, e2⟩ := Kd.R_slice hv
  subst e2
  have h2 := hcell 0 _ rfl
  rw [rdL_at y k hk]
  refine ⟨ad, A0, c0, e, ?_, Kd.R_mono hv (fun _ _ => trivial)⟩
  rw [show k * 1 + 0 = k by omega] at h2
  exact h2
/-- what is held, and a second hypergraph (g8) -/
structure HeldZ (w : World) (gb g4 g8 : Nat) (many : Int) (A : Option Addr) (n c : Nat) (Av : Option Addr) (cv : Nat) (y : List (List Int)) (Az : Option Addr) (cz : Nat) (z : List (List Int)) (W : World) : Prop where
  held : HeldR w gb g4 many A n c Av cv y W
  zb : W.heap[g8]? = some (.cells #[.int .i64 many, .slice Az z.length cz] 24 (0, 0))
  zc : KL.C W Az z.length z
section
variable {w W W' : World} {gb g4 g8 : Nat} {many : Int} {A : Option Addr} {n c : Nat} {Av : Option Addr} {cv : Nat} {y : List (List Int)} {Az : Option Addr} {cz : Nat} {z : List (List Int)}
theorem HeldZ.below (h : HeldZ w gb g4 g8 many A n c Av cv y Az cz z W) (hb : Below W.heap.size W W') : HeldZ w gb g4 g8 many A n c Av cv y Az cz z W' := ⟨h.held.below hb, blk_below h.zb hb, Kd.C_below h.zc hb⟩
theorem HeldZ.drew (h : HeldZ w gb g4 g8 many A n c Av cv y Az cz z W) : HeldZ w gb g4 g8 many A n c Av cv y Az cz z W.drew := ⟨h.held.drew, blk_drew h.zb, Kd.C_drew h.zc⟩
theorem HeldZ.k0 (h : HeldZ w gb g4 g8 many A n c Av cv y Az cz z W) : W.cell? ⟨g8, 0, none⟩ = some (.int .i64 many) := (blk_cell h.zb 0).trans rfl
theorem HeldZ.k1 (h : HeldZ w gb g4 g8 many A n c Av cv y Az cz z W) : W.cell? ⟨g8, 1, none⟩ = some (.slice Az z.length cz) := (blk_cell h.zb 1).trans rfl
end
section
variable {ops : Array Oper} {o : Oper} {a : Act} {Q : Exit → Act → World → Prop} {Kc : Act → World → Prop}
/-- 'append(<the copy>, t)' in a region of open order -/
theorem app_copy {Wr W : World} {B : Nat} (hw : Region.wanted o (yielded ops a.tmps) = true) (s x : Operand) {v u : Value} {y : List (List Int)} {t : List Int} {g : Nat}
    (ho : o.op = .call { callee := .builtin .append, args := #[s, x], argTypes := #[22, 22] }) (hs : a.eval s = v) (hx : a.eval x = .slice (some ⟨g, 0, none⟩) 1 1)
    (hv : CopyAt B Wr v y W) (hk : BlkAt Wr g (.cells #[u] 30 (0, 0)) W) (ht : KI.R 3 Wr B anyK u t) (hb : Below Wr.heap.size Wr W) (hB : B ≤ Wr.heap.size) (hl : y.length ≤ 1000)
    (h : ∀ (v1 : Value) (w1 : World), CopyAt B Wr v1 (y ++ [t]) w1 → Below Wr.heap.size Wr w1 → W.grownBy w1 v.ownBlock → Kc (a.put o.dst v1) w1) :
    if Region.wanted o (yielded ops a.tmps) = true then Oper.wp Tryd.prog o a W Kc Q else Kc (a.put o.dst undef) W := by
  refine Kd.R_append_rows_step KL (Rr := KL.M W B (fun k => k < Wr.heap.size)) (w0 := Wr) B hw s x 22 30 (.slice none 0 0) 24 ho Tryd.underlying22 info30 rfl (by decide) (by decide) v y [t] (some ⟨g, 0, none⟩) 1 1 anyK (fun k => k < Wr.heap.size) hs hx
    hv.1 (new_row hk ht hb) (fun _ _ h => h) (fun k hk => ⟨trivial, fun e => by have := hv.2 k e.symm; omega⟩) (fun _ _ => trivial) (hb.mono hB) (Nat.le_trans hB hb.size) (by omega) ?_
  intro v1 w1 h1 h2 h3 h4
  refine h v1 w1 ⟨h1, fun k hk => ?_⟩ (since_grown hb h3 hv.2) h3
  rcases h4 with e1 | ⟨b, e1, e2⟩
  · exact hv.2 k (e1.symm.trans hk)
  · rw [e1] at hk; injection hk with hk; subst hk; exact Nat.le_trans hb.size e2
end

end Go.Proofs.YtnnfhnehieoeaaaDoor.Hy

/- The law HyperWhole where nothing is asked. (written by gen41.py) -/
namespace Go.Proofs.YtnnfhnehieoeaaaDoor.Hy
open Go.RowKit Go.Shelf Go.Proofs.YtnnfhnehieoeaaaDoorW.PrintWords Go.Proofs.YtnnfhnehieoeaaaDoorW.PrintLast Go.Proofs.YtnnfhnehieoeaaaDoorW.PrintMore Go.Proofs.YtnnfhnehieoeaaaDoor.PHyperTells
set_option linter.unusedVariables false
set_option linter.unusedSimpArgs false
set_option maxHeartbeats 8000000 in
set_option maxRecDepth 100000 in
theorem whole_wrong (many : Int) (A : Option Addr) (c : Nat) (xs : List (List Int)) (at_ : Int) (w : World) (hc0 : xs.length ≤ c) (hr : KL.C w A xs.length xs) (hT : Tab w) (hR : rightB many (cutRows 41 xs) = false) :
    Calls Tryd.prog 4 #[.agg #[.int .i64 many, .slice A xs.length c], .int .i64 at_] w fun e w' => e = .returned (.bool true) ∧ Below w.heap.size w w' := by
  obtain ⟨y, hy⟩ : ∃ y, y = cutRows 41 xs := ⟨_, rfl⟩
  have HOWN : Aside0 (∀ W, KL.C W A xs.length xs → Calls Tryd.prog 7 #[.agg #[.int .i64 many, .slice A xs.length c]] W fun e w' => ∃ v, e = .returned (.agg #[.int .i64 many, v]) ∧ KL.R 30 w' W.heap.size anyK v y ∧ Below W.heap.size W w') := ⟨fun W h => hy ▸ own_any many A c xs W h hc0⟩
  have hty : tame y := hy ▸ cutRows_tame 41 (by omega) xs
  rw [← hy] at hR
  have HCK : Aside0 (∀ W (Av : Option Addr) (cv : Nat), KL.C W Av y.length y → y.length ≤ cv → Calls Tryd.prog 19 #[.agg #[.int .i64 many, .slice Av y.length cv]] W fun e w' => e = .returned (.int .i64 300) ∧ Below W.heap.size W w') := ⟨fun W Av cv h hc => by
    have := check_any many Av cv y W h hc hty.short
    rw [show checkE many y = 300 by unfold checkE; rw [if_neg (by rw [hR]; decide)]] at this
    exact this⟩
  have HR := Aside0.mk hr
  have HT := Aside0.mk hT
  have HTY := Aside0.mk hty
  clear hr hT hR hy hty
  go_enter Tryd.func4, Tryd.ntmps4
  go_wp2_with (first
    | ((with_reducible refine gate_dst (N := 2) rfl ?_); refine box_event ?hg (N := 2) ?hd (cs := #[.int .i64 many, .slice A xs.length c]) (t := 24) ?hr ?_; (case hd => rfl); (case hg => rfl); (case hr => first | (go_simp; done) | (go_simp; rfl)); intro gb hg w2 hbox hb; have HG := Aside0.mk (show w.heap.size ≤ gb by omega); have HBX := Aside0.mk hbox; have HB := Aside0.mk hb; have hcz0 : w2.cell? ⟨gb, 0, none⟩ = some (.int .i64 many) := (blk_cell HBX.out 0).trans rfl; have hcz1 : w2.cell? ⟨gb, 1, none⟩ = some (.slice A xs.length c) := (blk_cell HBX.out 1).trans rfl; clear hg hbox hb)
    | (go_at_call 6; (with_reducible refine (wakes_any _ (HT.out.below HT.out.lt HB.out)).mono ?_); rintro e w3 ⟨rfl, hb⟩; replace HBX := Aside0.mk (blk_below HBX.out hb); replace HB := Aside0.mk (HB.out.trans (hb.mono HB.out.size)); have hcz3 : w3.cell? ⟨gb, 0, none⟩ = some (.int .i64 many) := (blk_cell HBX.out 0).trans rfl; have hcz4 : w3.cell? ⟨gb, 1, none⟩ = some (.slice A xs.length c) := (blk_cell HBX.out 1).trans rfl; clear hb)
    | (go_at_call 7; (with_reducible refine (HOWN.out _ (Kd.C_below HR.out HB.out)).mono ?_); rintro e w4 ⟨v, rfl, hv, hb⟩; obtain ⟨Av, cv, hvf⟩ := Kd.R_slice hv; subst hvf; have hcv : y.length ≤ cv := (Kd.R_reads' hv).2.1; have HH := Aside0.mk (own_held many A c y HB.out HBX.out (HT.out.below HT.out.lt HB.out) hv hb); clear hb hv HB HBX hcz0 hcz1 hcz3 hcz4)
    | (go_at_call 19; (with_reducible refine (HCK.out _ Av cv HH.out.rd hcv).mono ?_); rintro e w5 ⟨rfl, hb⟩; replace HH := Aside0.mk (HH.out.below hb); have hz0 : w5.cell? ⟨w4.heap.size, 0, none⟩ = some (.int .i64 many) := HH.out.z0; have hz1 : w5.cell? ⟨w4.heap.size, 1, none⟩ = some (.slice Av y.length cv) := HH.out.z1; have hq0 : w5.cell? ⟨gb, 0, none⟩ = some (.int .i64 many) := HH.out.q0; have hq1 : w5.cell? ⟨gb, 1, none⟩ = some (.slice A xs.length c) := HH.out.q1; clear hb))
  go_ret
  exact ⟨rfl, HH.out.held.bel⟩
set_option maxHeartbeats 8000000 in
set_option maxRecDepth 100000 in
theorem whole_full (many : Int) (A : Option Addr) (c : Nat) (xs : List (List Int)) (at_ : Int) (w : World) (hc0 : xs.length ≤ c) (hr : KL.C w A xs.length xs) (hT : Tab w) (hR : rightB many (cutRows 41 xs) = true) (hF : (cutRows 41 xs).length = 40) :
    Calls Tryd.prog 4 #[.agg #[.int .i64 many, .slice A xs.length c], .int .i64 at_] w fun e w' => e = .returned (.bool true) ∧ Below w.heap.size w w' := by
  obtain ⟨y, hy⟩ : ∃ y, y = cutRows 41 xs := ⟨_, rfl⟩
  have HOWN : Aside0 (∀ W, KL.C W A xs.length xs → Calls Tryd.prog 7 #[.agg #[.int .i64 many, .slice A xs.length c]] W fun e w' => ∃ v, e = .returned (.agg #[.int .i64 many, v]) ∧ KL.R 30 w' W.heap.size anyK v y ∧ Below W.heap.size W w') := ⟨fun W h => hy ▸ own_any many A c xs W h hc0⟩
  have hty : tame y := hy ▸ cutRows_tame 41 (by omega) xs
  rw [← hy] at hR hF
  have HCK : Aside0 (∀ W (Av : Option Addr) (cv : Nat), KL.C W Av y.length y → y.length ≤ cv → Calls Tryd.prog 19 #[.agg #[.int .i64 many, .slice Av y.length cv]] W fun e w' => e = .returned (.int .i64 0) ∧ Below W.heap.size W w') := ⟨fun W Av cv h hc => by
    have := check_any many Av cv y W h hc hty.short
    rw [show checkE many y = 0 by unfold checkE; rw [if_pos hR]] at this
    exact this⟩
  have hl0 : ((y.length : Int) == 40) = true := by rw [hF]; rfl
  clear hF
  have HR := Aside0.mk hr
  have HT := Aside0.mk hT
  have HTY := Aside0.mk hty
  clear hr hT hR hy hty
  go_enter Tryd.func4, Tryd.ntmps4
  go_wp2_with (first
    | ((with_reducible refine gate_dst (N := 2) rfl ?_); refine box_event ?hg (N := 2) ?hd (cs := #[.int .i64 many, .slice A xs.length c]) (t := 24) ?hr ?_; (case hd => rfl); (case hg => rfl); (case hr => first | (go_simp; done) | (go_simp; rfl)); intro gb hg w2 hbox hb; have HG := Aside0.mk (show w.heap.size ≤ gb by omega); have HBX := Aside0.mk hbox; have HB := Aside0.mk hb; have hcz0 : w2.cell? ⟨gb, 0, none⟩ = some (.int .i64 many) := (blk_cell HBX.out 0).trans rfl; have hcz1 : w2.cell? ⟨gb, 1, none⟩ = some (.slice A xs.length c) := (blk_cell HBX.out 1).trans rfl; clear hg hbox hb)
    | (go_at_call 6; (with_reducible refine (wakes_any _ (HT.out.below HT.out.lt HB.out)).mono ?_); rintro e w3 ⟨rfl, hb⟩; replace HBX := Aside0.mk (blk_below HBX.out hb); replace HB := Aside0.mk (HB.out.trans (hb.mono HB.out.size)); have hcz3 : w3.cell? ⟨gb, 0, none⟩ = some (.int .i64 many) := (blk_cell HBX.out 0).trans rfl; have hcz4 : w3.cell? ⟨gb, 1, none⟩ = some (.slice A xs.length c) := (blk_cell HBX.out 1).trans rfl; clear hb)
    | (go_at_call 7; (with_reducible refine (HOWN.out _ (Kd.C_below HR.out HB.out)).mono ?_); rintro e w4 ⟨v, rfl, hv, hb⟩; obtain ⟨Av, cv, hvf⟩ := Kd.R_slice hv; subst hvf; have hcv : y.length ≤ cv := (Kd.R_reads' hv).2.1; have HH := Aside0.mk (own_held many A c y HB.out HBX.out (HT.out.below HT.out.lt HB.out) hv hb); clear hb hv HB HBX hcz0 hcz1 hcz3 hcz4)
    | (go_at_call 19; (with_reducible refine (HCK.out _ Av cv HH.out.rd hcv).mono ?_); rintro e w5 ⟨rfl, hb⟩; replace HH := Aside0.mk (HH.out.below hb); have hz0 : w5.cell? ⟨w4.heap.size, 0, none⟩ = some (.int .i64 many) := HH.out.z0; have hz1 : w5.cell? ⟨w4.heap.size, 1, none⟩ = some (.slice Av y.length cv) := HH.out.z1; have hq0 : w5.cell? ⟨gb, 0, none⟩ = some (.int .i64 many) := HH.out.q0; have hq1 : w5.cell? ⟨gb, 1, none⟩ = some (.slice A xs.length c) := HH.out.q1; clear hb))
  go_ret
  exact ⟨rfl, HH.out.held.bel⟩

end Go.Proofs.YtnnfhnehieoeaaaDoor.Hy
