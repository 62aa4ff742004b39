import Derived.Test.YtipgdmaagiijmaaF14
set_option maxRecDepth 100000
set_option linter.unusedVariables false
set_option linter.unusedSectionVars false
namespace Go.SX
open Go.Proofs
variable {u w : World} {L B : List Hp} {b : Nat} {M : Hp}

theorem c19 {v : Value} {s : Sc} {most : Int} (H : SH u w L) (hv : RSc L v s) (h : ScOk most s) (hm : most ≤ 2000) : Ret Try.prog 19 [v] w (Pl u L fun v => v = .bool true) := by
  obtain ⟨A, cb, E, ce, vs, rfl, hA, hRA, hRE⟩ := hv
  obtain ⟨⟨l1, l2⟩, ⟨v1, v2⟩, hce, hre, ⟨nb, hb⟩, ne, he⟩ := h
  refine ent Try.func19 rfl H 48 rfl [(0, .v (.agg #[.int .i64 s.len, .int .i64 s.voices, .float .f32 s.ceil, .float .f32 s.rel, .slice A s.bodies.length cb, .slice E s.events.length ce]))] rfl rfl fun a S => ?_
  refine xr hT S rfl true [] 200 rfl (by (repeat' apply And.intro); all_goals first | exact True.intro | with_reducible assumption | decide +kernel | with_reducible exact Option.isSome_some | omega | with_reducible exact decide_eq_true (by omega) | with_reducible exact decide_eq_false (by omega) | with_reducible exact beq_iff_eq.2 (by omega) | with_reducible exact beq_eq_false_iff_ne.2 (by omega) | skip) fun β a w hβ hl S => ?_
  refine xP S rfl rfl rfl rfl rfl rfl en33 (fun H => c33 H l1 (by omega)) fun v a w hv S => ?_
  subst hv
  refine xr hT S hl true [.b false, .b false, .b false] 200 rfl (by (repeat' apply And.intro); all_goals first | exact True.intro | with_reducible assumption | decide +kernel | with_reducible exact Option.isSome_some | omega | with_reducible exact decide_eq_true (by omega) | with_reducible exact decide_eq_false (by omega) | with_reducible exact beq_iff_eq.2 (by omega) | with_reducible exact beq_eq_false_iff_ne.2 (by omega) | skip) fun β a w hβ hl S => ?_
  refine xP S rfl rfl rfl rfl rfl rfl en34 (fun H => c34 H hce hre) fun v a w hv S => ?_
  subst hv
  refine xr hT S hl true [.b false, .b false, .b false] 200 rfl (by (repeat' apply And.intro); all_goals first | exact True.intro | with_reducible assumption | decide +kernel | with_reducible exact Option.isSome_some | omega | with_reducible exact decide_eq_true (by omega) | with_reducible exact decide_eq_false (by omega) | with_reducible exact beq_iff_eq.2 (by omega) | with_reducible exact beq_eq_false_iff_ne.2 (by omega) | skip) fun β a w hβ hl S => ?_
  refine xP S rfl rfl rfl rfl rfl rfl en35 (fun H => c35 H (by omega) (hRA.mono (List.subset_append_right _ _)) (hA.mono fun _ _ h => h.mono (List.subset_append_right _ _)) rfl (fun b hb' => ⟨by have := (hb b hb').1; omega, (hb b hb').2⟩)) fun v a w hv S => ?_
  subst hv
  refine xr hT S hl true [.b true] 200 rfl (by (repeat' apply And.intro); all_goals first | exact True.intro | with_reducible assumption | decide +kernel | with_reducible exact Option.isSome_some | omega | with_reducible exact decide_eq_true (by omega) | with_reducible exact decide_eq_false (by omega) | with_reducible exact beq_iff_eq.2 (by omega) | with_reducible exact beq_eq_false_iff_ne.2 (by omega) | skip) fun β a w hβ hl S => ?_
  refine xP S rfl rfl rfl rfl rfl rfl en38 (fun H => c38 (cap := [_]) H (by omega) (hRE.mono (List.subset_append_right _ _)) rfl en39 (fun e he' w H => c39 H (List.mem_append_left _ (by exact List.mem_cons_self)) (he e he') (by omega))) fun v a w hv S => ?_
  subst hv
  refine xr hT S hl true [] 200 rfl (by (repeat' apply And.intro); all_goals first | exact True.intro | with_reducible assumption | decide +kernel | with_reducible exact Option.isSome_some | omega | with_reducible exact decide_eq_true (by omega) | with_reducible exact decide_eq_false (by omega) | with_reducible exact beq_iff_eq.2 (by omega) | with_reducible exact beq_eq_false_iff_ne.2 (by omega) | skip) fun β a w hβ hl S => ?_
  exact xret hT S rfl ⟨_, rfl, rfl, S.tl'⟩
end Go.SX
