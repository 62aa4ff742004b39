import Derived.Test.YtipgdmaagiijmaaF10
set_option maxRecDepth 100000
set_option linter.unusedVariables false
set_option linter.unusedSectionVars false
namespace Go.SX
open Go.Proofs
variable {u w : World} {L B : List Hp} {b : Nat} {M : Hp}

theorem c33 {x : Int} (H : SH u w L) (h0 : 0 ≤ x) (h1 : x ≤ 2000) : Ret Try.prog 33 [.int .i64 x] w (Pl u L fun v => v = .bool true) := by
  refine ent Try.func33 rfl H 9 rfl [(0, .v (.int .i64 x))] rfl rfl fun a S => ?_
  refine xr hT S rfl true [.b true] 100 rfl (by (repeat' apply And.intro); all_goals first | exact True.intro | with_reducible assumption | decide +kernel | with_reducible exact Option.isSome_some | omega | with_reducible exact decide_eq_true (by omega) | with_reducible exact decide_eq_false (by omega) | with_reducible exact beq_iff_eq.2 (by omega) | with_reducible exact beq_eq_false_iff_ne.2 (by omega) | skip) fun β a w _ hn S => ?_
  refine xret hT S rfl ⟨_, rfl, ?_, S.sh⟩
  simp [SV.dns, retv, SV.dn]
  omega
theorem ceil_ok {f : Nat} (h : Ceil f) : f < 2 ^ 32 ∧ Num .f32 f ∧ fcmp .gtr .f32 f 0 = true := by
  rcases h with rfl | rfl | rfl <;> exact ⟨by decide, ⟨_, _, _, rfl⟩, by decide +kernel⟩
theorem rel_ok {f : Nat} (h : Rel f) : f < 2 ^ 32 ∧ Num .f32 f ∧ fcmp .geq .f32 f 0 = true ∧ fcmp .leq .f32 f 1065353216 = true ∧ decide (IntKind.i64.wrap (wd f) < 0) = false := by
  rcases h with rfl | rfl | rfl | rfl <;> exact ⟨by decide, ⟨_, _, _, rfl⟩, by decide +kernel, by decide +kernel, by decide +kernel⟩
theorem dmp_ok {f : Nat} (h : Dmp f) : f < 2 ^ 32 ∧ Num .f32 f ∧ fcmp .geq .f32 f 0 = true ∧ fcmp .leq .f32 f 1065353216 = true := by
  rcases h with rfl | rfl | rfl | rfl <;> exact ⟨by decide, ⟨_, _, _, rfl⟩, by decide +kernel, by decide +kernel⟩
theorem c34 {ce re : Nat} (H : SH u w L) (hc : Ceil ce) (hr : Rel re) : Ret Try.prog 34 [.float .f32 ce, .float .f32 re] w (Pl u L fun v => v = .bool true) := by
  obtain ⟨a1, a2, a3⟩ := ceil_ok hc
  obtain ⟨b1, b2, b3, b4, b5⟩ := rel_ok hr
  obtain ⟨p1, p2⟩ := wd_spec a2 a1
  obtain ⟨q1, q2⟩ := wd_spec b2 b1
  refine ent Try.func34 rfl H 22 rfl [(0, .v (.float .f32 ce)), (1, .v (.float .f32 re))] rfl rfl fun a S => ?_
  refine xr hT S rfl false [] 200 rfl ?_ fun β a w hβ hn S => ?_
  · (repeat' apply And.intro); all_goals first | exact True.intro | with_reducible assumption | decide +kernel | with_reducible exact Option.isSome_some | omega | with_reducible exact decide_eq_true (by omega) | with_reducible exact decide_eq_false (by omega) | with_reducible exact beq_iff_eq.2 (by omega) | with_reducible exact beq_eq_false_iff_ne.2 (by omega) | skip
    rw [p1]; rfl
  refine xP S rfl rfl rfl rfl rfl rfl en59 (fun H => c59 H p2.num p2.lt64) fun v a w hv S => ?_
  subst hv
  refine xr hT S hn false [.b true, .b true] 200 rfl (by (repeat' apply And.intro); all_goals first | exact True.intro | with_reducible assumption | decide +kernel | with_reducible exact Option.isSome_some | omega | with_reducible exact decide_eq_true (by omega) | with_reducible exact decide_eq_false (by omega) | with_reducible exact beq_iff_eq.2 (by omega) | with_reducible exact beq_eq_false_iff_ne.2 (by omega) | skip) fun β a w hβ hn S => ?_
  refine xP S rfl rfl rfl rfl rfl rfl en60 (fun H => c60 H) fun v a w hv S => ?_
  rw [b3, b4] at hv
  subst hv
  refine xr hT S hn false [.b true] 200 rfl ?_ fun β a w hβ hn S => ?_
  · (repeat' apply And.intro); all_goals first | exact True.intro | with_reducible assumption | decide +kernel | with_reducible exact Option.isSome_some | omega | with_reducible exact decide_eq_true (by omega) | with_reducible exact decide_eq_false (by omega) | with_reducible exact beq_iff_eq.2 (by omega) | with_reducible exact beq_eq_false_iff_ne.2 (by omega) | skip
    rw [q1]; rfl
  refine xP S rfl rfl rfl rfl rfl rfl en61 (fun H => c61 H) fun v a w hv S => ?_
  have e : (floatToFloatBits .f32 re .f64).getD 0 = wd re := rfl
  rw [e, b5] at hv
  subst hv
  refine xr hT S hn false [] 200 rfl (by (repeat' apply And.intro); all_goals first | exact True.intro | with_reducible assumption | decide +kernel | with_reducible exact Option.isSome_some | omega | with_reducible exact decide_eq_true (by omega) | with_reducible exact decide_eq_false (by omega) | with_reducible exact beq_iff_eq.2 (by omega) | with_reducible exact beq_eq_false_iff_ne.2 (by omega) | skip) fun β a w hβ hn S => ?_
  exact xret hT S rfl ⟨_, rfl, rfl, S.sh⟩
end Go.SX
