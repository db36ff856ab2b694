/- Contract of colanderlaw20.own. -/
import Derived.Test.YtnnfhnehieoeaaaDoorGA1
import Derived.Deep.RegionWith
namespace Go.Proofs.YtnnfhnehieoeaaaDoor.Hy
open Go.RowKit Go.Shelf Go.Proofs.YtnnfhnehieoeaaaDoorW.PrintWords Go.Proofs.YtnnfhnehieoeaaaDoorW.PrintLast Go.Proofs.YtnnfhnehieoeaaaDoorW.PrintMore Go.Proofs.YtnnfhnehieoeaaaDoor.PHyperTells
set_option linter.unusedVariables false
set_option linter.unusedSimpArgs false

theorem RL_form {w : World} {base : Nat} {v : Value} {xs : List (List Int)} (h : KL.R 30 w base anyK v xs) : ∃ A n c, v = .slice A n c := by obtain ⟨A, c, e⟩ := Kd.R_slice h; exact ⟨A, _, c, e⟩

set_option maxHeartbeats 1000000 in
set_option maxRecDepth 100000 in
theorem own_any (many : Int) (A : Option Addr) (c : Nat) (xs : List (List Int)) (w : World) (hr : KL.C w A xs.length xs) (hc0 : xs.length ≤ c) :
    Calls Tryd.prog 7 #[.agg #[.int .i64 many, .slice A xs.length c]] w fun e w' => ∃ v, e = .returned (.agg #[.int .i64 many, v]) ∧ KL.R 30 w' w.heap.size anyK v (cutRows 41 xs) ∧ Below w.heap.size w w' := by
  have hb0 : Below w.heap.size w (((w.alloc (.cells #[.int .i64 many, .slice A xs.length c] 24)).alloc (.cells #[.int .i64 0, .slice none 0 0] 24)).drew) := (((Below.refl _ _).alloc (Nat.le_refl _) _).alloc (by simp) _).drew
  have HC := Aside0.mk (rows_any A c xs 41 _ (Kd.C_below hr hb0) hc0 (by omega))
  have HB0 := Aside0.mk hb0
  clear hr hb0
  go_enter Tryd.func7, Tryd.ntmps7
  go_wp2
  go_region_with (go_at_call 17; refine (HC.out).mono ?_; rintro e w1 ⟨v, rfl, hv, hb1⟩; obtain ⟨Av, nv, cv, rfl⟩ := RL_form hv; have HV := Aside0.mk hv; have HB1 := Aside0.mk hb1; have hz := hb1.size; have k0 := (hb1.cell (p := ⟨w.heap.size + 1, 0, none⟩) (by simp)); have k1 := (hb1.cell (p := ⟨w.heap.size + 1, 1, none⟩) (by simp)); have f0 := (hb1.frozen (p := ⟨w.heap.size + 1, 0, none⟩) (by simp)); have f1 := (hb1.frozen (p := ⟨w.heap.size + 1, 1, none⟩) (by simp)); have k2 := (hb1.cell (p := ⟨w.heap.size, 0, none⟩) (by simp; omega)); have k3 := (hb1.cell (p := ⟨w.heap.size, 1, none⟩) (by simp; omega)); simp at k0 k1 k2 k3 f0 f1 hz; clear hv hb1)
  all_goals
    have hV2 : KL.R 30 ((w1.setCell ⟨w.heap.size + 1, 0, none⟩ (.int .i64 many)).setCell ⟨w.heap.size + 1, 1, none⟩ (.slice Av nv cv)) w.heap.size anyK (.slice Av nv cv) (cutRows 41 xs) :=
      Kd.R_lower (Kd.R_mono (Kd.R_far (p := ⟨w.heap.size + 1, 1, none⟩) (Kd.R_far (p := ⟨w.heap.size + 1, 0, none⟩) (Kd.R_mono (Kd.R_bound HV.out) (fun k hk => (hk.2.1 : _ ≤ k))) (fun k hk => by simp at hk ⊢; omega) _) (fun k hk => by simp at hk ⊢; omega) _) (fun _ _ => trivial)) (by simp; omega)
    have hB2 : Below w.heap.size w ((w1.setCell ⟨w.heap.size + 1, 0, none⟩ (.int .i64 many)).setCell ⟨w.heap.size + 1, 1, none⟩ (.slice Av nv cv)) :=
      ((HB0.out.trans (HB1.out.mono HB0.out.size)).setCell (p := ⟨w.heap.size + 1, 0, none⟩) (by simp) _).setCell (p := ⟨w.heap.size + 1, 1, none⟩) (by simp) _
    have HV2 := Aside0.mk hV2
    have HB2 := Aside0.mk hB2
    clear hV2 hB2
    go_wp2
    exact bodyPost_ret (v := .agg #[.int .i64 many, .slice Av nv cv]) (by simp [results, Tryd.results7, go_sem, k0, k1]) rfl ⟨_, rfl, HV2.out, HB2.out⟩

end Go.Proofs.YtnnfhnehieoeaaaDoor.Hy
