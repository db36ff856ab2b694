/- What the law HyperParts holds in its loops. (written by gen52.py) -/
import Derived.Test.YtnnfhnehieoeaaaDoorEA50
import Derived.Deep.DeepCutAuto
import Derived.Deep.QuietTactic
import Derived.BigQuiet
namespace Go.Proofs.YtnnfhnehieoeaaaDoor.Hy
open Go.RowKit Go.Shelf Go.Proofs.YtnnfhnehieoeaaaDoorW.PrintWords Go.Proofs.YtnnfhnehieoeaaaDoorW.PrintLast Go.Proofs.YtnnfhnehieoeaaaDoorW.PrintMore Go.Proofs.YtnnfhnehieoeaaaDoor.PHyperTells
set_option linter.unusedVariables false
set_option linter.unusedSimpArgs false

section
variable {ops : Array Oper} {o : Oper} {a : Act} {Q : Exit → Act → World → Prop} {rest : List Oper}
/-- 'append(<rows of one's own>, t)', t an elder row -/
theorem app_push {wS W : World} {B : Nat} (s x : Operand) {v u : Value} {y : List (List Int)} {t : List Int} (hgd : o.guard = none)
    (ho : o.op = .call { callee := .builtin .append, args := #[s, x], argTypes := #[22, 22] }) (hs : a.eval s = v) (hx : a.eval x = .slice (some ⟨W.heap.size, 0, none⟩) 1 1)
    (hv : CopyAt B wS v y W) (ht : KI.R 3 wS B anyK u t) (hb : Below wS.heap.size wS W) (hB : B ≤ wS.heap.size) (hl : y.length ≤ 1000)
    (h : ∀ (v1 : Value) (w1 : World), CopyAt B wS v1 (y ++ [t]) w1 → Below wS.heap.size wS w1 → W.grownBy w1 v.ownBlock → wpList Tryd.prog ops Q rest (a.put o.dst v1) w1) :
    wpList Tryd.prog ops Q (o :: rest) a (W.alloc (.cells #[u] 30)) := by
  have hM : KL.M W B (fun k => k < wS.heap.size) t [u] := ⟨u, rfl, Kd.R_below (Kd.R_mono (Kd.R_bound ht) (fun k hk => hk.2.2.1)) hb⟩
  refine Kd.R_append KL (w0 := wS) (W := W) B hgd s x 22 30 (.slice none 0 0) 24 ho Tryd.underlying22 info30 rfl (by decide) (by decide) v y t [u] anyK (fun k => k < wS.heap.size) hs hx
    hM (fun k hk => ⟨trivial, fun e => by have := hv.2 k e.symm; omega⟩) (fun _ _ => trivial) hv.1 (hb.mono hB) (Nat.le_trans hB hb.size) (by omega) ?_
  intro v1 w1 h1 h2 h3 h4
  refine h v1 w1 ⟨h1, fun k hk => ?_⟩ (since_grown hb h3 hv.2) h3
  rcases h4 with e1 | ⟨b, e1, e2⟩
  · exact hv.2 k (e1.symm.trans hk)
  · rw [e1] at hk; injection hk with hk; subst hk; exact Nat.le_trans hb.size e2
end

/-- what is held in the inner loops: the hypergraph of one part (g), its rows; the row of all vertices so far -/
structure InP (B : Nat) (wS : World) (g : Nat) (m : Int) (v9 : Value) (os : List (List Int)) (v5 : Value) (al : List Int) (W : World) : Prop where
  bel : Below wS.heap.size wS W
  blk : BlkAt wS g (.cells #[.int .i64 m, v9] 24 (0, 0)) W
  row : CopyAt B wS v9 os W
  all_ : KI.R 3 W wS.heap.size anyK v5 al
section
variable {B : Nat} {wS W W' : World} {g : Nat} {m : Int} {v9 v5 : Value} {os : List (List Int)} {al : List Int}
theorem InP.below (h : InP B wS g m v9 os v5 al W) (hb : Below W.heap.size W W') : InP B wS g m v9 os v5 al W' :=
  ⟨h.bel.trans (hb.mono h.bel.size), h.blk.below hb, h.row.below hb, Kd.R_below h.all_ hb⟩
theorem InP.k0 (h : InP B wS g m v9 os v5 al W) : W.cell? ⟨g, 0, none⟩ = some (.int .i64 m) := (blk_cell h.blk.1 0).trans rfl
theorem InP.k1 (h : InP B wS g m v9 os v5 al W) : W.cell? ⟨g, 1, none⟩ = some v9 := (blk_cell h.blk.1 1).trans rfl
theorem InP.start (hb : Below wS.heap.size wS W) (hB : B ≤ wS.heap.size) (ha : KI.R 3 W wS.heap.size anyK v5 al) : InP B wS W.heap.size m (.slice none 0 0) [] v5 al (W.alloc (.cells #[.int .i64 m, .slice none 0 0] 24)) :=
  ⟨since_alloc hb _, BlkAt.new hb.size _, ⟨Kd.R_nil _ _ _ _ _, fun k hk => by simp [Value.ownBlock] at hk⟩, Kd.R_below ha (alloc_below W _)⟩
/-- the row's block behind an append to the part's rows -/
theorem InP.blk1 (h : InP B wS g m v9 os v5 al W) (hg : W.grownBy W' v9.ownBlock) : BlkAt wS g (.cells #[.int .i64 m, v9] 24 (0, 0)) W' := h.blk.grown h.row hg
theorem InP.pushed (h : InP B wS g m v9 os v5 al W) {v1 : Value} {t : List Int} (h1 : CopyAt B wS v1 (os ++ [t]) W') (h2 : Below wS.heap.size wS W') (hg : W.grownBy W' v9.ownBlock) :
    InP B wS g m v1 (os ++ [t]) v5 al (W'.setCell ⟨g, 1, none⟩ v1) := by
  have hk := h.blk1 hg
  have hs := set_grown W' g 1 v1
  refine ⟨since_grown h2 hs (fun k e => by injection e with e; rw [← e]; exact hk.2), ⟨blk_put hk.1 1 v1 rfl, hk.2⟩, h1.stored hk hs, ?_⟩
  have ha : KI.R 3 W' wS.heap.size anyK v5 al := by
    refine Kd.R_mono (Kd.R_grown (Kd.R_bound h.all_) hg (fun k hk2 e => ?_)) (fun _ _ => trivial)
    obtain ⟨_, _, _, q, hq, cells, hc⟩ := hk2
    obtain ⟨cells2, hc2⟩ := Kd.R_typed h.row.1 k e.symm
    rw [hc] at hc2
    injection hc2 with hc2
    injection hc2 with e1 e2 e3
    rw [e2] at hq
    exact absurd hq (by decide)
  refine Kd.R_mono (Kd.R_grown (Kd.R_bound ha) hs (fun k hk2 e => ?_)) (fun _ _ => trivial)
  obtain ⟨_, _, _, q, hq, cells, hc⟩ := hk2
  injection e with e
  rw [e, hk.1] at hc
  injection hc with hc
  injection hc with e1 e2 e3
  rw [← e2] at hq
  exact absurd hq (by decide)
end
theorem wrap_pred (i : Nat) (h : 0 < i) (h2 : i ≤ 1000) : IntKind.i64.wrap ((i : Int) - 1) = (i : Int) - 1 := by simp [IntKind.wrap, IntKind.signed, IntKind.bits]; omega
theorem drawn_below {w w' : World} (h : Drawn0 w w') : Below w.heap.size w w' := by
  obtain ⟨n, hn⟩ := h.out
  rw [hn]; exact pw_below_drewN (Below.refl _ _) n

end Go.Proofs.YtnnfhnehieoeaaaDoor.Hy

/- The law HyperParts where the hypergraph may not be. (written by gen52.py) -/
namespace Go.Proofs.YtnnfhnehieoeaaaDoor.Hy
open Go.RowKit Go.Shelf Go.Proofs.YtnnfhnehieoeaaaDoorW.PrintWords Go.Proofs.YtnnfhnehieoeaaaDoorW.PrintLast Go.Proofs.YtnnfhnehieoeaaaDoorW.PrintMore Go.Proofs.YtnnfhnehieoeaaaDoor.PHyperTells
set_option linter.unusedVariables false
set_option linter.unusedSimpArgs false
set_option maxHeartbeats 8000000 in
set_option maxRecDepth 100000 in
theorem parts_law_wrong (many : Int) (A : Option Addr) (c : Nat) (xs : List (List Int)) (w : World) (hc0 : xs.length ≤ c) (hr : KL.C w A xs.length xs) (hT : Tab w) (hR : rightB many (cutRows 41 xs) = false) :
    Calls Tryd.prog 5 #[.agg #[.int .i64 many, .slice A xs.length c]] w fun e w' => e = .returned (.bool true) ∧ Below w.heap.size w w' := by
  obtain ⟨y, hy⟩ : ∃ y, y = cutRows 41 xs := ⟨_, rfl⟩
  have HOWN : Aside0 (∀ W, KL.C W A xs.length xs → Calls Tryd.prog 7 #[.agg #[.int .i64 many, .slice A xs.length c]] W fun e w' => ∃ v, e = .returned (.agg #[.int .i64 many, v]) ∧ KL.R 30 w' W.heap.size anyK v y ∧ Below W.heap.size W w') := ⟨fun W h => hy ▸ own_any many A c xs W h hc0⟩
  have hty : tame y := hy ▸ cutRows_tame 41 (by omega) xs
  rw [← hy] at hR
  have HCK : Aside0 (∀ W (Av : Option Addr) (cv : Nat), KL.C W Av y.length y → y.length ≤ cv → Calls Tryd.prog 19 #[.agg #[.int .i64 many, .slice Av y.length cv]] W fun e w' => e = .returned (.int .i64 300) ∧ Below W.heap.size W w') := ⟨fun W Av cv h hc => by
    have := check_any many Av cv y W h hc hty.short
    rw [show checkE many y = 300 by unfold checkE; rw [if_neg (by rw [hR]; decide)]] at this
    exact this⟩
  have HP12 : Aside0 (∀ W (Av : Option Addr) (cv : Nat), KL.C W Av y.length y → y.length ≤ cv → Tab W → Calls Tryd.prog 12 #[.agg #[.int .i64 many, .slice Av y.length cv]] W fun e w' => ∃ A c, e = .returned (.slice A 0 c) ∧ Below W.heap.size W w') := ⟨fun W Av cv h hc hT => by
    refine (p12 many Av cv y W hty h hc hT).mono ?_
    rintro e w' ⟨⟨A, c, h1, _, _⟩, h2⟩
    have e0 : partsL many y = [] := by unfold partsL; rw [hR]; rfl
    rw [e0] at h1
    exact ⟨A, c, h1, h2⟩⟩
  have HP14 : Aside0 (∀ W (Av : Option Addr) (cv : Nat), KL.C W Av y.length y → y.length ≤ cv → Tab W → Calls Tryd.prog 14 #[.agg #[.int .i64 many, .slice Av y.length cv]] W fun e w' => e = .returned (.bool false) ∧ Below W.heap.size W w') := ⟨fun W Av cv h hc hT => p14w many Av cv y W hR hty h hc hT⟩
  have HR := Aside0.mk hr
  have HT := Aside0.mk hT
  have HTY := Aside0.mk hty
  have HW := Aside0.mk hR
  clear hr hT hR hy hty
  go_enter Tryd.func5, Tryd.ntmps5
  go_wp2_with (first
    | ((with_reducible refine gate_dst (N := 1) rfl ?_); refine box_event ?hg (N := 1) ?hd (cs := #[.int .i64 many, .slice A xs.length c]) (t := 24) ?hr ?_; (case hd => rfl); (case hg => rfl); (case hr => first | (go_simp; done) | (go_simp; rfl)); intro gb hg w2 hbox hb; have HG := Aside0.mk (show w.heap.size ≤ gb by omega); have HBX := Aside0.mk hbox; have HB := Aside0.mk hb; have hcz0 : w2.cell? ⟨gb, 0, none⟩ = some (.int .i64 many) := (blk_cell HBX.out 0).trans rfl; have hcz1 : w2.cell? ⟨gb, 1, none⟩ = some (.slice A xs.length c) := (blk_cell HBX.out 1).trans rfl; clear hg hbox hb)
    | (go_at_call 6; (with_reducible refine (wakes_any _ (HT.out.below HT.out.lt HB.out)).mono ?_); rintro e w3 ⟨rfl, hb⟩; replace HBX := Aside0.mk (blk_below HBX.out hb); replace HB := Aside0.mk (HB.out.trans (hb.mono HB.out.size)); have hcz3 : w3.cell? ⟨gb, 0, none⟩ = some (.int .i64 many) := (blk_cell HBX.out 0).trans rfl; have hcz4 : w3.cell? ⟨gb, 1, none⟩ = some (.slice A xs.length c) := (blk_cell HBX.out 1).trans rfl; clear hb)
    | (go_at_call 7; (with_reducible refine (HOWN.out _ (Kd.C_below HR.out HB.out)).mono ?_); rintro e w4 ⟨v, rfl, hv, hb⟩; obtain ⟨Av, cv, hvf⟩ := Kd.R_slice hv; subst hvf; have hcv : y.length ≤ cv := (Kd.R_reads' hv).2.1; have HH := Aside0.mk (own_held many A c y HB.out HBX.out (HT.out.below HT.out.lt HB.out) hv hb); clear hb hv HB HBX hcz0 hcz1 hcz3 hcz4)
    | (go_at_call 12; (with_reducible refine (HP12.out _ Av cv HH.out.rd hcv HH.out.held.tab).mono ?_); rintro e w6 ⟨A6, c6, rfl, hb⟩; replace HH := Aside0.mk (HH.out.below hb); have hz0 : w6.cell? ⟨w4.heap.size, 0, none⟩ = some (.int .i64 many) := HH.out.z0; have hz1 : w6.cell? ⟨w4.heap.size, 1, none⟩ = some (.slice Av y.length cv) := HH.out.z1; have hq0 : w6.cell? ⟨gb, 0, none⟩ = some (.int .i64 many) := HH.out.q0; have hq1 : w6.cell? ⟨gb, 1, none⟩ = some (.slice A xs.length c) := HH.out.q1; clear hb)
    | (go_at_call 19; (with_reducible refine (HCK.out _ Av cv HH.out.rd hcv).mono ?_); rintro e w7 ⟨rfl, hb⟩; clear hz0 hz1 hq0 hq1; replace HH := Aside0.mk (HH.out.below hb); have hz0 : w7.cell? ⟨w4.heap.size, 0, none⟩ = some (.int .i64 many) := HH.out.z0; have hz1 : w7.cell? ⟨w4.heap.size, 1, none⟩ = some (.slice Av y.length cv) := HH.out.z1; have hq0 : w7.cell? ⟨gb, 0, none⟩ = some (.int .i64 many) := HH.out.q0; have hq1 : w7.cell? ⟨gb, 1, none⟩ = some (.slice A xs.length c) := HH.out.q1; clear hb)
    | (go_at_call 14; (with_reducible refine (HP14.out _ Av cv HH.out.rd hcv HH.out.held.tab).mono ?_); rintro e w8 ⟨rfl, hb⟩; clear hz0 hz1 hq0 hq1; replace HH := Aside0.mk (HH.out.below hb); have hz0 : w8.cell? ⟨w4.heap.size, 0, none⟩ = some (.int .i64 many) := HH.out.z0; have hz1 : w8.cell? ⟨w4.heap.size, 1, none⟩ = some (.slice Av y.length cv) := HH.out.z1; have hq0 : w8.cell? ⟨gb, 0, none⟩ = some (.int .i64 many) := HH.out.q0; have hq1 : w8.cell? ⟨gb, 1, none⟩ = some (.slice A xs.length c) := HH.out.q1; clear hb))
  go_ret
  exact ⟨rfl, HH.out.held.bel⟩

end Go.Proofs.YtnnfhnehieoeaaaDoor.Hy
