import Derived.Test.YtipgdmaagiijmaaF4
set_option maxRecDepth 100000
set_option linter.unusedVariables false
set_option linter.unusedSectionVars false
namespace Go.SX
open Go.Proofs
variable {u w : World} {L : List Hp}

theorem c105 {x : Nat} (H : SH u w L) (hl : x < 2 ^ 64) : Ret Try.prog 105 [.float .f64 x] w (Pl u L fun v => v = .float .f64 (fabs x)) := by
  refine ent Try.func105 rfl H 7 rfl [(0, .v (.float .f64 x))] rfl rfl fun a S => ?_
  refine xr hT S rfl false [] 200 rfl (by (repeat' apply And.intro); all_goals first | exact True.intro | with_reducible assumption | decide +kernel | with_reducible exact Option.isSome_some | omega | with_reducible exact decide_eq_true (by omega) | with_reducible exact decide_eq_false (by omega) | with_reducible exact beq_iff_eq.2 (by omega) | with_reducible exact beq_eq_false_iff_ne.2 (by omega) | skip) fun β a w hβ hn S => ?_
  refine xe S rfl rfl rfl rfl rfl rfl (ext91 x) fun a w S => ?_
  refine xr hT S hn false [] 200 rfl (by (repeat' apply And.intro); all_goals first | exact True.intro | with_reducible assumption | decide +kernel | with_reducible exact Option.isSome_some | omega | with_reducible exact decide_eq_true (by omega) | with_reducible exact decide_eq_false (by omega) | with_reducible exact beq_iff_eq.2 (by omega) | with_reducible exact beq_eq_false_iff_ne.2 (by omega) | skip) fun β a w hβ hn S => ?_
  refine xe S rfl rfl rfl rfl rfl rfl (ext113 _) fun a w S => ?_
  refine xr hT S hn false [] 200 rfl (by (repeat' apply And.intro); all_goals first | exact True.intro | with_reducible assumption | decide +kernel | with_reducible exact Option.isSome_some | omega | with_reducible exact decide_eq_true (by omega) | with_reducible exact decide_eq_false (by omega) | with_reducible exact beq_iff_eq.2 (by omega) | with_reducible exact beq_eq_false_iff_ne.2 (by omega) | skip) fun β a w hβ hn S => ?_
  refine xret hT S rfl ⟨_, rfl, ?_, S.sh⟩
  rw [andNot_top hl]
  rfl
theorem c89 {x : Nat} (H : SH u w L) (hx : Num .f64 x) : Ret Try.prog 89 [.float .f64 x] w (Pl u L fun v => v = .bool false) := by
  refine ent Try.func89 rfl H 6 rfl [(0, .v (.float .f64 x))] rfl rfl fun a S => ?_
  refine xr hT S rfl false [] 200 rfl (by (repeat' apply And.intro); all_goals first | exact True.intro | with_reducible assumption | decide +kernel | with_reducible exact Option.isSome_some | omega | with_reducible exact decide_eq_true (by omega) | with_reducible exact decide_eq_false (by omega) | with_reducible exact beq_iff_eq.2 (by omega) | with_reducible exact beq_eq_false_iff_ne.2 (by omega) | skip) fun β a w hβ hn S => ?_
  refine xret hT S rfl ⟨_, rfl, ?_, S.sh⟩
  rw [← neq_self hx]
  rfl
theorem c90 {x : Nat} (H : SH u w L) (hx : Num .f64 x) (hl : x < 2 ^ 64) : Ret Try.prog 90 [.float .f64 x, .int .i64 0] w (Pl u L fun v => v = .bool false) := by
  refine ent Try.func90 rfl H 15 rfl [(0, .v (.float .f64 x)), (1, .v (.int .i64 0))] rfl rfl fun a S => ?_
  refine xr hT S rfl false [.b true] 200 rfl (by (repeat' apply And.intro); all_goals first | exact True.intro | with_reducible assumption | decide +kernel | with_reducible exact Option.isSome_some | omega | with_reducible exact decide_eq_true (by omega) | with_reducible exact decide_eq_false (by omega) | with_reducible exact beq_iff_eq.2 (by omega) | with_reducible exact beq_eq_false_iff_ne.2 (by omega) | skip) fun β a w hβ hn S => ?_
  refine xP S rfl rfl rfl rfl rfl rfl en105 (fun H => c105 H hl) fun v a w hv S => ?_
  subst hv
  refine xr hT S hn false [] 200 rfl (by (repeat' apply And.intro); all_goals first | exact True.intro | with_reducible assumption | decide +kernel | with_reducible exact Option.isSome_some | omega | with_reducible exact decide_eq_true (by omega) | with_reducible exact decide_eq_false (by omega) | with_reducible exact beq_iff_eq.2 (by omega) | with_reducible exact beq_eq_false_iff_ne.2 (by omega) | skip) fun β a w hβ hn S => ?_
  refine xret hT S rfl ⟨_, rfl, ?_, S.sh⟩
  rw [← abs_max hx]
  rfl
theorem c59 {x : Nat} (H : SH u w L) (hx : Num .f64 x) (hl : x < 2 ^ 64) : Ret Try.prog 59 [.float .f64 x] w (Pl u L fun v => v = .bool true) := by
  refine ent Try.func59 rfl H 11 rfl [(0, .v (.float .f64 x))] rfl rfl fun a S => ?_
  refine xr hT S rfl false [] 200 rfl (by (repeat' apply And.intro); all_goals first | exact True.intro | with_reducible assumption | decide +kernel | with_reducible exact Option.isSome_some | omega | with_reducible exact decide_eq_true (by omega) | with_reducible exact decide_eq_false (by omega) | with_reducible exact beq_iff_eq.2 (by omega) | with_reducible exact beq_eq_false_iff_ne.2 (by omega) | skip) fun β a w hβ hn S => ?_
  refine xP S rfl rfl rfl rfl rfl rfl en89 (fun H => c89 H hx) fun v a w hv S => ?_
  subst hv
  refine xr hT S hn false [.b true] 200 rfl (by (repeat' apply And.intro); all_goals first | exact True.intro | with_reducible assumption | decide +kernel | with_reducible exact Option.isSome_some | omega | with_reducible exact decide_eq_true (by omega) | with_reducible exact decide_eq_false (by omega) | with_reducible exact beq_iff_eq.2 (by omega) | with_reducible exact beq_eq_false_iff_ne.2 (by omega) | skip) fun β a w hβ hn S => ?_
  refine xP S rfl rfl rfl rfl rfl rfl en90 (fun H => c90 H hx hl) fun v a w hv S => ?_
  subst hv
  refine xr hT S hn false [] 200 rfl (by (repeat' apply And.intro); all_goals first | exact True.intro | with_reducible assumption | decide +kernel | with_reducible exact Option.isSome_some | omega | with_reducible exact decide_eq_true (by omega) | with_reducible exact decide_eq_false (by omega) | with_reducible exact beq_iff_eq.2 (by omega) | with_reducible exact beq_eq_false_iff_ne.2 (by omega) | skip) fun β a w hβ hn S => ?_
  exact xret hT S rfl ⟨_, rfl, rfl, S.sh⟩
theorem c60 {x : Nat} (H : SH u w L) : Ret Try.prog 60 [.float .f32 x] w (Pl u L fun v => v = .bool (fcmp .geq .f32 x 0 && fcmp .leq .f32 x 1065353216)) := by
  refine ent Try.func60 rfl H 9 rfl [(0, .v (.float .f32 x))] rfl rfl fun a S => ?_
  cases h : fcmp .geq .f32 x 0
  · refine xr hT S rfl false [.b false] 200 rfl (by (repeat' apply And.intro); all_goals first | exact True.intro | with_reducible assumption | decide +kernel | with_reducible exact Option.isSome_some | omega | with_reducible exact decide_eq_true (by omega) | with_reducible exact decide_eq_false (by omega) | with_reducible exact beq_iff_eq.2 (by omega) | with_reducible exact beq_eq_false_iff_ne.2 (by omega) | skip) fun β a w hβ hn S => ?_
    exact xret hT S rfl ⟨_, rfl, rfl, S.sh⟩
  · refine xr hT S rfl false [.b true] 200 rfl (by (repeat' apply And.intro); all_goals first | exact True.intro | with_reducible assumption | decide +kernel | with_reducible exact Option.isSome_some | omega | with_reducible exact decide_eq_true (by omega) | with_reducible exact decide_eq_false (by omega) | with_reducible exact beq_iff_eq.2 (by omega) | with_reducible exact beq_eq_false_iff_ne.2 (by omega) | skip) fun β a w hβ hn S => ?_
    exact xret hT S rfl ⟨_, rfl, rfl, S.sh⟩
theorem c61 {x : Nat} (H : SH u w L) : Ret Try.prog 61 [.float .f64 x] w (Pl u L fun v => v = .bool (decide (IntKind.i64.wrap x < 0))) := by
  refine ent Try.func61 rfl H 7 rfl [(0, .v (.float .f64 x))] rfl rfl fun a S => ?_
  refine xr hT S rfl false [] 200 rfl (by (repeat' apply And.intro); all_goals first | exact True.intro | with_reducible assumption | decide +kernel | with_reducible exact Option.isSome_some | omega | with_reducible exact decide_eq_true (by omega) | with_reducible exact decide_eq_false (by omega) | with_reducible exact beq_iff_eq.2 (by omega) | with_reducible exact beq_eq_false_iff_ne.2 (by omega) | skip) fun β a w hβ hn S => ?_
  refine xe S rfl rfl rfl rfl rfl rfl (ext91 x) fun a w S => ?_
  refine xr hT S hn false [] 200 rfl (by (repeat' apply And.intro); all_goals first | exact True.intro | with_reducible assumption | decide +kernel | with_reducible exact Option.isSome_some | omega | with_reducible exact decide_eq_true (by omega) | with_reducible exact decide_eq_false (by omega) | with_reducible exact beq_iff_eq.2 (by omega) | with_reducible exact beq_eq_false_iff_ne.2 (by omega) | skip) fun β a w hβ hn S => ?_
  exact xret hT S rfl ⟨_, rfl, rfl, S.sh⟩
theorem c106 {p q : Nat} (H : SH u w L) (hp : Num .f64 p) (hq : Num .f64 q) (lp : p < 2 ^ 64) (lq : q < 2 ^ 64) : Ret Try.prog 106 [.complex .f64 p q] w (Pl u L fun v => v = .bool true) := by
  refine ent Try.func106 rfl H 11 rfl [(0, .v (.complex .f64 p q))] rfl rfl fun a S => ?_
  refine xr hT S rfl false [] 200 rfl (by (repeat' apply And.intro); all_goals first | exact True.intro | with_reducible assumption | decide +kernel | with_reducible exact Option.isSome_some | omega | with_reducible exact decide_eq_true (by omega) | with_reducible exact decide_eq_false (by omega) | with_reducible exact beq_iff_eq.2 (by omega) | with_reducible exact beq_eq_false_iff_ne.2 (by omega) | skip) fun β a w hβ hn S => ?_
  refine xP S rfl rfl rfl rfl rfl rfl en59 (fun H => c59 H hp lp) fun v a w hv S => ?_
  subst hv
  refine xr hT S hn false [.b true] 200 rfl (by (repeat' apply And.intro); all_goals first | exact True.intro | with_reducible assumption | decide +kernel | with_reducible exact Option.isSome_some | omega | with_reducible exact decide_eq_true (by omega) | with_reducible exact decide_eq_false (by omega) | with_reducible exact beq_iff_eq.2 (by omega) | with_reducible exact beq_eq_false_iff_ne.2 (by omega) | skip) fun β a w hβ hn S => ?_
  refine xP S rfl rfl rfl rfl rfl rfl en59 (fun H => c59 H hq lq) fun v a w hv S => ?_
  subst hv
  refine xr hT S hn false [] 200 rfl (by (repeat' apply And.intro); all_goals first | exact True.intro | with_reducible assumption | decide +kernel | with_reducible exact Option.isSome_some | omega | with_reducible exact decide_eq_true (by omega) | with_reducible exact decide_eq_false (by omega) | with_reducible exact beq_iff_eq.2 (by omega) | with_reducible exact beq_eq_false_iff_ne.2 (by omega) | skip) fun β a w hβ hn S => ?_
  exact xret hT S rfl ⟨_, rfl, rfl, S.sh⟩
theorem c94 {p q : Nat} (H : SH u w L) (hp : Num .f32 p) (hq : Num .f32 q) (lp : p < 2 ^ 32) (lq : q < 2 ^ 32) : Ret Try.prog 94 [.complex .f32 p q] w (Pl u L fun v => v = .complex .f64 (wd p) (wd q)) := by
  refine ent Try.func94 rfl H 10 rfl [(0, .v (.complex .f32 p q))] rfl rfl fun a S => ?_
  refine xr hT S rfl false [] 200 rfl ?_ fun β a w hβ hn S => ?_
  · (repeat' apply And.intro); all_goals first | exact True.intro | with_reducible assumption | decide +kernel | with_reducible exact Option.isSome_some | omega | with_reducible exact decide_eq_true (by omega) | with_reducible exact decide_eq_false (by omega) | with_reducible exact beq_iff_eq.2 (by omega) | with_reducible exact beq_eq_false_iff_ne.2 (by omega) | skip
    · rw [(wd_spec hq lq).1]; rfl
    · rw [(wd_spec hp lp).1]; rfl
  exact xret hT S rfl ⟨_, rfl, rfl, S.sh⟩
theorem c93 {p q r s : Nat} (H : SH u w L) (hp : Mf .f64 128 p) (hq : Mf .f64 128 q) (hr : Mf .f64 128 r) (hs : Mf .f64 128 s) (h1 : fcmp .leq .f64 (sq p q) 4607182418800017408 = true) (h2 : fcmp .leq .f64 (fabs r) 4652218415073722368 = true) (h3 : fcmp .leq .f64 (fabs s) 4652218415073722368 = true) :
    Ret Try.prog 93 [.complex .f64 p q, .complex .f64 r s] w (Pl u L fun v => v = .bool true) := by
  refine ent Try.func93 rfl H 41 rfl [(0, .v (.complex .f64 p q)), (1, .v (.complex .f64 r s))] rfl rfl fun a S => ?_
  refine xr hT S rfl false [] 200 rfl (by (repeat' apply And.intro); all_goals first | exact True.intro | with_reducible assumption | decide +kernel | with_reducible exact Option.isSome_some | omega | with_reducible exact decide_eq_true (by omega) | with_reducible exact decide_eq_false (by omega) | with_reducible exact beq_iff_eq.2 (by omega) | with_reducible exact beq_eq_false_iff_ne.2 (by omega) | skip) fun β a w hβ hn S => ?_
  refine xP S rfl rfl rfl rfl rfl rfl en106 (fun H => c106 H hp.num hq.num hp.lt64 hq.lt64) fun v a w hv S => ?_
  subst hv
  refine xr hT S hn false [.b false] 200 rfl (by (repeat' apply And.intro); all_goals first | exact True.intro | with_reducible assumption | decide +kernel | with_reducible exact Option.isSome_some | omega | with_reducible exact decide_eq_true (by omega) | with_reducible exact decide_eq_false (by omega) | with_reducible exact beq_iff_eq.2 (by omega) | with_reducible exact beq_eq_false_iff_ne.2 (by omega) | skip) fun β a w hβ hn S => ?_
  refine xP S rfl rfl rfl rfl rfl rfl en106 (fun H => c106 H hr.num hs.num hr.lt64 hs.lt64) fun v a w hv S => ?_
  subst hv
  refine xr hT S hn false [.b false] 200 rfl (by (repeat' apply And.intro); all_goals first | exact True.intro | with_reducible assumption | decide +kernel | with_reducible exact Option.isSome_some | omega | with_reducible exact decide_eq_true (by omega) | with_reducible exact decide_eq_false (by omega) | with_reducible exact beq_iff_eq.2 (by omega) | with_reducible exact beq_eq_false_iff_ne.2 (by omega) | skip) fun β a w hβ hn S => ?_
  refine xP S rfl rfl rfl rfl rfl rfl en105 (fun H => c105 H hr.lt64) fun v a w hv S => ?_
  subst hv
  refine xr hT S hn false [.b false] 200 rfl ?_ fun β a w hβ hn S => ?_
  · (repeat' apply And.intro); all_goals first | exact True.intro | with_reducible assumption | decide +kernel | with_reducible exact Option.isSome_some | omega | with_reducible exact decide_eq_true (by omega) | with_reducible exact decide_eq_false (by omega) | with_reducible exact beq_iff_eq.2 (by omega) | with_reducible exact beq_eq_false_iff_ne.2 (by omega) | skip
    all_goals exact leq_gtr h2
  refine xP S rfl rfl rfl rfl rfl rfl en105 (fun H => c105 H hs.lt64) fun v a w hv S => ?_
  subst hv
  obtain ⟨g1, g2, g3⟩ := sq_some hp hq
  refine xr hT S hn false [.b false] 200 rfl ?_ fun β a w hβ hn S => ?_
  · (repeat' apply And.intro); all_goals first | exact True.intro | with_reducible assumption | decide +kernel | with_reducible exact Option.isSome_some | omega | with_reducible exact decide_eq_true (by omega) | with_reducible exact decide_eq_false (by omega) | with_reducible exact beq_iff_eq.2 (by omega) | with_reducible exact beq_eq_false_iff_ne.2 (by omega) | skip
    all_goals exact leq_gtr h3
  refine xret hT S rfl ⟨_, rfl, ?_, S.sh⟩
  rw [← h1]
  rfl
theorem c65 {pr pi gr gi : Nat} (H : SH u w L) (h : ModeOk pr pi gr gi) : Ret Try.prog 65 [.agg #[.complex .f32 pr pi, .complex .f32 gr gi]] w (Pl u L fun v => v = .bool true) := by
  refine ent Try.func65 rfl H 10 rfl [(0, .v (.agg #[.complex .f32 pr pi, .complex .f32 gr gi]))] rfl rfl fun a S => ?_
  refine xr hT S rfl false [] 200 rfl (by (repeat' apply And.intro); all_goals first | exact True.intro | with_reducible assumption | decide +kernel | with_reducible exact Option.isSome_some | omega | with_reducible exact decide_eq_true (by omega) | with_reducible exact decide_eq_false (by omega) | with_reducible exact beq_iff_eq.2 (by omega) | with_reducible exact beq_eq_false_iff_ne.2 (by omega) | skip) fun β a w hβ hn S => ?_
  refine xda hT S (by decide +kernel) fun E => ?_
  refine xqr hT S false [] E rfl (by (repeat' apply And.intro); all_goals first | exact True.intro | with_reducible assumption | decide +kernel | with_reducible exact Option.isSome_some | omega | with_reducible exact decide_eq_true (by omega) | with_reducible exact decide_eq_false (by omega) | with_reducible exact beq_iff_eq.2 (by omega) | with_reducible exact beq_eq_false_iff_ne.2 (by omega) | skip) fun a E => ?_
  refine xqc E rfl rfl rfl rfl rfl en94 (fun w H => (c94 H h.pole.1 h.pole.2 h.lt.1.1 h.lt.1.2)) fun a E => ?_
  refine xqr hT S false [] E rfl (by (repeat' apply And.intro); all_goals first | exact True.intro | with_reducible assumption | decide +kernel | with_reducible exact Option.isSome_some | omega | with_reducible exact decide_eq_true (by omega) | with_reducible exact decide_eq_false (by omega) | with_reducible exact beq_iff_eq.2 (by omega) | with_reducible exact beq_eq_false_iff_ne.2 (by omega) | skip) fun a E => ?_
  refine xqc E rfl rfl rfl rfl rfl en94 (fun w H => (c94 H h.gain.1 h.gain.2 h.lt.2.1 h.lt.2.2)) fun a E => ?_
  refine xqr hT S false [] E rfl (by (repeat' apply And.intro); all_goals first | exact True.intro | with_reducible assumption | decide +kernel | with_reducible exact Option.isSome_some | omega | with_reducible exact decide_eq_true (by omega) | with_reducible exact decide_eq_false (by omega) | with_reducible exact beq_iff_eq.2 (by omega) | with_reducible exact beq_eq_false_iff_ne.2 (by omega) | skip) fun a E => ?_
  refine xqc E rfl rfl rfl rfl rfl en93 (fun w H => (c93 H (wd_spec h.pole.1 h.lt.1.1).2 (wd_spec h.pole.2 h.lt.1.2).2 (wd_spec h.gain.1 h.lt.2.1).2 (wd_spec h.gain.2 h.lt.2.2).2 h.one h.most.1 h.most.2)) fun a E => ?_
  refine xqr hT S false [] E rfl (by (repeat' apply And.intro); all_goals first | exact True.intro | with_reducible assumption | decide +kernel | with_reducible exact Option.isSome_some | omega | with_reducible exact decide_eq_true (by omega) | with_reducible exact decide_eq_false (by omega) | with_reducible exact beq_iff_eq.2 (by omega) | with_reducible exact beq_eq_false_iff_ne.2 (by omega) | skip) fun a E => ?_
  refine wpQuiet_nil fun w H => ?_
  have S : St _ _ _ _ _ _ _ _ := ⟨E, H, S.wb⟩
  exact xret hT S rfl ⟨_, rfl, rfl, S.tl'⟩
end Go.SX
