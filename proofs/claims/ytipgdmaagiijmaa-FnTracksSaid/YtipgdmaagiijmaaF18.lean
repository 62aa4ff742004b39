import Derived.Test.YtipgdmaagiijmaaF17
set_option maxRecDepth 100000
set_option linter.unusedVariables false
set_option linter.unusedSectionVars false
namespace Go.SX
open Go.Proofs
variable {u w : World} {L B : List Hp} {b : Nat} {M : Hp}
def Srtd (A : Option Addr) (n c : Nat) (evs : List Ev) (u : World) (L : List Hp) (w' : World) : Prop := ∃ M cur, cur.length = n ∧ Fil cur evs ∧ Srt n cur ∧ Own M 31 6 (.slice A n c) n (List.flatMap Ev.cells cur) ∧ SH u w' (M :: L)
theorem c68 {A : Option Addr} {n c : Nat} {evs : List Ev} (H : SH u w (M :: L)) (hn : n < 20) (hO : Own M 31 6 (.slice A n c) n (evs.flatMap Ev.cells)) (hlen : evs.length = n) (hev : ∀ e ∈ evs, 0 ≤ e.at_ ∧ e.at_ ≤ 3000) :
    Ret Try.prog 68 [.slice A n c, .int .i64 n, .func (.func 43) #[] #[]] w fun v w' => Srtd A n c evs u L w' := by
  refine ent Try.func68 rfl H 63 rfl [(0, .v (.slice A n c)), (1, .v (.int .i64 n)), (2, .v (.func (.func 43) #[] #[]))] rfl rfl fun a S => ?_
  refine xr hT S rfl true [] 200 rfl (by (repeat' apply And.intro); all_goals first | exact True.intro | with_reducible assumption | decide +kernel | with_reducible exact Option.isSome_some | omega | with_reducible exact decide_eq_true (by omega) | with_reducible exact decide_eq_false (by omega) | with_reducible exact beq_iff_eq.2 (by omega) | with_reducible exact beq_eq_false_iff_ne.2 (by omega) | skip) fun β a w hβ hl S => ?_
  refine xloop (fun (_ : Unit) a w => ∃ β, β.length = 0 ∧ St β u w a 63 [(0, .v (.slice A n c)), (1, .v (.int .i64 n)), (2, .v (.func (.func 43) #[] #[])), (6, .v (.int .i64 20)), (7, .v (.int .i64 0)), (8, .v (.int .i64 20))] [] (M :: L)) (fun _ => 0) () ⟨β, hl, S.keep [0, 1, 2, 6, 7, 8] rfl⟩ fun _ a w ⟨β, hl, S⟩ => ?_
  refine xr hT S hl true [.b false] 200 rfl (by (repeat' apply And.intro); all_goals first | exact True.intro | with_reducible assumption | decide +kernel | with_reducible exact Option.isSome_some | omega | with_reducible exact decide_eq_true (by omega) | with_reducible exact decide_eq_false (by omega) | with_reducible exact beq_iff_eq.2 (by omega) | with_reducible exact beq_eq_false_iff_ne.2 (by omega) | skip) fun β a w hβ hl S => ?_
  refine xc S rfl rfl rfl rfl rfl en95 (c95 S.sh (by omega) hO hlen hev) fun v w ⟨M, cur, h1, h2, h3, h4, H⟩ => ?_
  have S := S.ret1 (New := [M]) 27 v H rfl
  refine xr hT S hl true [] 200 rfl (by (repeat' apply And.intro); all_goals first | exact True.intro | with_reducible assumption | decide +kernel | with_reducible exact Option.isSome_some | omega | with_reducible exact decide_eq_true (by omega) | with_reducible exact decide_eq_false (by omega) | with_reducible exact beq_iff_eq.2 (by omega) | with_reducible exact beq_eq_false_iff_ne.2 (by omega) | skip) fun β a w hβ hl S => ?_
  refine xloop (fun (_ : Unit) a w => ∃ β, β.length = 0 ∧ St β u w a 63 [(1, .v (.int .i64 n)), (6, .v (.int .i64 20))] [] (M :: L)) (fun _ => 0) () ⟨β, hl, S.keep [1, 6] rfl⟩ fun _ a w ⟨β, hl, S⟩ => ?_
  refine xr hT S hl true [.b false] 200 rfl (by (repeat' apply And.intro); all_goals first | exact True.intro | with_reducible assumption | decide +kernel | with_reducible exact Option.isSome_some | omega | with_reducible exact decide_eq_true (by omega) | with_reducible exact decide_eq_false (by omega) | with_reducible exact beq_iff_eq.2 (by omega) | with_reducible exact beq_eq_false_iff_ne.2 (by omega) | skip) fun β a w hβ hl S => ?_
  exact xend hT S rfl ⟨_, rfl, M, cur, h1, h2, h3, h4, S.sh⟩
theorem c42 {A : Option Addr} {n c : Nat} {evs : List Ev} (H : SH u w (M :: L)) (hn : n < 20) (hO : Own M 31 6 (.slice A n c) n (evs.flatMap Ev.cells)) (hlen : evs.length = n) (hev : ∀ e ∈ evs, 0 ≤ e.at_ ∧ e.at_ ≤ 3000) :
    Ret Try.prog 42 [.slice A n c, .func (.func 43) #[] #[]] w fun v w' => Srtd A n c evs u L w' := by
  refine ent Try.func42 rfl H 9 rfl [(0, .v (.slice A n c)), (1, .v (.func (.func 43) #[] #[]))] rfl rfl fun a S => ?_
  refine xr hT S rfl true [] 200 rfl (by (repeat' apply And.intro); all_goals first | exact True.intro | with_reducible assumption | decide +kernel | with_reducible exact Option.isSome_some | omega | with_reducible exact decide_eq_true (by omega) | with_reducible exact decide_eq_false (by omega) | with_reducible exact beq_iff_eq.2 (by omega) | with_reducible exact beq_eq_false_iff_ne.2 (by omega) | skip) fun β a w hβ hl S => ?_
  refine xc S rfl rfl rfl rfl rfl en68 (c68 S.sh hn hO hlen hev) fun v w ⟨M, cur, h1, h2, h3, h4, H⟩ => ?_
  have S := S.ret1 (New := [M]) 8 v H rfl
  refine xr hT S hl true [] 200 rfl (by (repeat' apply And.intro); all_goals first | exact True.intro | with_reducible assumption | decide +kernel | with_reducible exact Option.isSome_some | omega | with_reducible exact decide_eq_true (by omega) | with_reducible exact decide_eq_false (by omega) | with_reducible exact beq_iff_eq.2 (by omega) | with_reducible exact beq_eq_false_iff_ne.2 (by omega) | skip) fun β a w hβ hl S => ?_
  exact xend hT S rfl ⟨_, rfl, M, cur, h1, h2, h3, h4, S.sh⟩
/-- the events of a score, in order -/
theorem c20 {v : Value} {s : Sc} {most : Int} (H : SH u w L) (hv : RSc L v s) (h : ScOk most s) (hm : most ≤ 2000) : Ret Try.prog 20 [v] w
    fun v w' => ∃ A c, v = .slice A s.events.length c ∧ Srtd A s.events.length c s.events u L w' := by
  obtain ⟨A, cb, E, ce, vs, rfl, hA, hRA, hRE⟩ := hv
  refine ent Try.func20 rfl H 10 rfl [(0, .v (.agg #[.int .i64 s.len, .int .i64 s.voices, .float .f32 s.ceil, .float .f32 s.rel, .slice A s.bodies.length cb, .slice E s.events.length ce]))] rfl rfl fun a S => ?_
  refine xr hT S rfl true [] 200 rfl (by (repeat' apply And.intro); all_goals first | exact True.intro | with_reducible assumption | decide +kernel | with_reducible exact Option.isSome_some | omega | with_reducible exact decide_eq_true (by omega) | with_reducible exact decide_eq_false (by omega) | with_reducible exact beq_iff_eq.2 (by omega) | with_reducible exact beq_eq_false_iff_ne.2 (by omega) | skip) fun β a w hβ hl S => ?_
  have hne := h.events.1
  refine xc S rfl rfl rfl rfl rfl en41 (c41 S.sh (by omega) (hRE.mono (List.subset_append_right _ _)) rfl) fun v w ⟨M, hO, H⟩ => ?_
  have S := S.retd (New := [M]) 6 v H rfl
  obtain ⟨A2, c2, rfl, _⟩ := hO.form
  refine xr hT S hl true [] 200 rfl (by (repeat' apply And.intro); all_goals first | exact True.intro | with_reducible assumption | decide +kernel | with_reducible exact Option.isSome_some | omega | with_reducible exact decide_eq_true (by omega) | with_reducible exact decide_eq_false (by omega) | with_reducible exact beq_iff_eq.2 (by omega) | with_reducible exact beq_eq_false_iff_ne.2 (by omega) | skip) fun β a w hβ hl S => ?_
  refine xc S rfl rfl rfl rfl rfl en42 (c42 S.sh.front (by omega) hO rfl (fun e he => by have := (h.events.2 e he).1; have := h.len; omega)) fun v w ⟨M, cur, h1, h2, h3, h4, H⟩ => ?_
  have S := S.ret1 (New := [M]) 8 v H rfl
  refine xr hT S hl true [] 200 rfl (by (repeat' apply And.intro); all_goals first | exact True.intro | with_reducible assumption | decide +kernel | with_reducible exact Option.isSome_some | omega | with_reducible exact decide_eq_true (by omega) | with_reducible exact decide_eq_false (by omega) | with_reducible exact beq_iff_eq.2 (by omega) | with_reducible exact beq_eq_false_iff_ne.2 (by omega) | skip) fun β a w hβ hl S => ?_
  exact xret hT S rfl ⟨_, rfl, A2, c2, rfl, M, cur, h1, h2, h3, h4, S.tl'⟩
theorem c8 {v : Value} {s : Sc} {most : Int} (H : SH u w L) (hv : RSc L v s) (h : ScOk most s) (hm : most ≤ 2000) : Ret Try.prog 8 [v] w
    fun v w' => ∃ A c, v = .slice A s.events.length c ∧ Srtd A s.events.length c s.events u L w' := by
  have hv' := hv
  obtain ⟨A, cb, E, ce, vs, rfl, hA, hRA, hRE⟩ := hv
  refine ent Try.func8 rfl H 8 rfl [(0, .v (.agg #[.int .i64 s.len, .int .i64 s.voices, .float .f32 s.ceil, .float .f32 s.rel, .slice A s.bodies.length cb, .slice E s.events.length ce]))] rfl rfl fun a S => ?_
  refine xr hT S rfl true [] 200 rfl (by (repeat' apply And.intro); all_goals first | exact True.intro | with_reducible assumption | decide +kernel | with_reducible exact Option.isSome_some | omega | with_reducible exact decide_eq_true (by omega) | with_reducible exact decide_eq_false (by omega) | with_reducible exact beq_iff_eq.2 (by omega) | with_reducible exact beq_eq_false_iff_ne.2 (by omega) | skip) fun β a w hβ hl S => ?_
  refine xP S rfl rfl rfl rfl rfl rfl en19 (fun H => c19 H (hv'.mono (List.subset_append_right _ _)) h hm) fun v a w hv S => ?_
  subst hv
  refine xr hT S hl true [.b false] 200 rfl (by (repeat' apply And.intro); all_goals first | exact True.intro | with_reducible assumption | decide +kernel | with_reducible exact Option.isSome_some | omega | with_reducible exact decide_eq_true (by omega) | with_reducible exact decide_eq_false (by omega) | with_reducible exact beq_iff_eq.2 (by omega) | with_reducible exact beq_eq_false_iff_ne.2 (by omega) | skip) fun β a w hβ hl S => ?_
  refine xc S rfl rfl rfl rfl rfl en20 (c20 S.sh (hv'.mono (List.subset_append_right _ _)) h hm) fun v w ⟨A2, c2, hv, M, cur, h1, h2, h3, h4, H⟩ => ?_
  have S := S.retd (New := [M]) 7 v H rfl
  subst hv
  refine xr hT S hl true [] 200 rfl (by (repeat' apply And.intro); all_goals first | exact True.intro | with_reducible assumption | decide +kernel | with_reducible exact Option.isSome_some | omega | with_reducible exact decide_eq_true (by omega) | with_reducible exact decide_eq_false (by omega) | with_reducible exact beq_iff_eq.2 (by omega) | with_reducible exact beq_eq_false_iff_ne.2 (by omega) | skip) fun β a w hβ hl S => ?_
  exact xret hT S rfl ⟨_, rfl, A2, c2, rfl, M, cur, h1, h2, h3, h4, S.tl'⟩
end Go.SX
