import Derived.Test.YtipgdmaagiijmaaF3
import Derived.Test.YtipgdmaagiijmaaN2
set_option maxRecDepth 100000
set_option linter.unusedVariables false
set_option linter.unusedSectionVars false
namespace Go.SX
open Go.Proofs
variable {u w : World} {L : List Hp}

theorem ext91 (x : Nat) (w : World) : (callFunc 91 #[.float .f64 x]).run Try.prog w = .ok (.value (.int .u64 x)) w := by
  have h : Try.prog.funcs[91]? = some Try.f91 := Try.func91
  simp only [callFunc, Sem.run_bind, run_program, Result.andThen_ok, h]
  rfl
theorem ext113 (x : Int) (w : World) : (callFunc 113 #[.int .u64 x]).run Try.prog w = .ok (.value (.float .f64 x.toNat)) w := by
  have h : Try.prog.funcs[113]? = some Try.f113 := Try.func113
  simp only [callFunc, Sem.run_bind, run_program, Result.andThen_ok, h]
  rfl

theorem c77 {x : Nat} (H : SH u w L) : Ret Try.prog 77 [.float .f64 x] w (Pl u L fun v => ∃ b, v = .bool b ∧ (b = true ↔ Num .f64 x)) := by
  refine ent Try.func77 rfl H 7 rfl [(0, .v (.float .f64 x))] rfl rfl fun a S => ?_
  refine xs hT pF S rfl false [] 200 rfl (by (repeat' apply And.intro); all_goals first | exact True.intro | with_reducible assumption | decide +kernel | with_reducible exact Option.isSome_some | omega | with_reducible exact decide_eq_true (by omega) | with_reducible exact decide_eq_false (by omega) | with_reducible exact beq_iff_eq.2 (by omega) | with_reducible exact beq_eq_false_iff_ne.2 (by omega) | skip) fun β a w hβ hn S => ?_
  refine xfl S rfl rfl rfl rfl rfl rfl (by simp) fun r a w hr hR S => ?_
  refine xr hT S hn true [] 200 rfl (by (repeat' apply And.intro); all_goals first | exact True.intro | with_reducible assumption | decide +kernel | with_reducible exact Option.isSome_some | omega | with_reducible exact decide_eq_true (by omega) | with_reducible exact decide_eq_false (by omega) | with_reducible exact beq_iff_eq.2 (by omega) | with_reducible exact beq_eq_false_iff_ne.2 (by omega) | skip) fun β a w hβ hn S => ?_
  refine xret hT S rfl ⟨_, rfl, ⟨_, rfl, ?_⟩, S.sh⟩
  by_cases h : Num .f64 x
  · have := hR.1 0 (sub_self_num h)
    subst this
    exact ⟨fun _ => h, fun _ => eql_zero⟩
  · have := hR.2 (sub_self_not h)
    rw [fcmp_nan (by decide) this]
    exact ⟨fun h => (by cases h), fun h' => absurd h' h⟩
theorem c103 {p q : Nat} (H : SH u w L) : Ret Try.prog 103 [.complex .f64 p q] w (Pl u L fun v => ∃ b, v = .bool b ∧ (b = true ↔ Num .f64 p ∧ Num .f64 q)) := by
  refine ent Try.func103 rfl H 11 rfl [(0, .v (.complex .f64 p q))] rfl rfl fun a S => ?_
  refine xr hT S rfl false [] 200 rfl (by (repeat' apply And.intro); all_goals first | exact True.intro | with_reducible assumption | decide +kernel | with_reducible exact Option.isSome_some | omega | with_reducible exact decide_eq_true (by omega) | with_reducible exact decide_eq_false (by omega) | with_reducible exact beq_iff_eq.2 (by omega) | with_reducible exact beq_eq_false_iff_ne.2 (by omega) | skip) fun β a w hβ hn S => ?_
  refine xP S rfl rfl rfl rfl rfl rfl en77 (fun H => c77 H) fun v a w ⟨x, hv, hx⟩ S => ?_
  subst hv
  cases x
  · refine xr hT S hn false [.b false] 200 rfl (by (repeat' apply And.intro); all_goals first | exact True.intro | with_reducible assumption | decide +kernel | with_reducible exact Option.isSome_some | omega | with_reducible exact decide_eq_true (by omega) | with_reducible exact decide_eq_false (by omega) | with_reducible exact beq_iff_eq.2 (by omega) | with_reducible exact beq_eq_false_iff_ne.2 (by omega) | skip) fun β a w hβ hn S => ?_
    exact xret hT S rfl ⟨_, rfl, ⟨_, rfl, fun h => (by cases h), fun h => absurd (hx.2 h.1) (by decide)⟩, S.sh⟩
  · refine xr hT S hn false [.b true] 200 rfl (by (repeat' apply And.intro); all_goals first | exact True.intro | with_reducible assumption | decide +kernel | with_reducible exact Option.isSome_some | omega | with_reducible exact decide_eq_true (by omega) | with_reducible exact decide_eq_false (by omega) | with_reducible exact beq_iff_eq.2 (by omega) | with_reducible exact beq_eq_false_iff_ne.2 (by omega) | skip) fun β a w hβ hn S => ?_
    refine xP S rfl rfl rfl rfl rfl rfl en77 (fun H => c77 H) fun v a w ⟨y, hv, hy⟩ S => ?_
    subst hv
    refine xr hT S hn false [] 200 rfl (by (repeat' apply And.intro); all_goals first | exact True.intro | with_reducible assumption | decide +kernel | with_reducible exact Option.isSome_some | omega | with_reducible exact decide_eq_true (by omega) | with_reducible exact decide_eq_false (by omega) | with_reducible exact beq_iff_eq.2 (by omega) | with_reducible exact beq_eq_false_iff_ne.2 (by omega) | skip) fun β a w hβ hn S => ?_
    refine xret hT S rfl ⟨_, rfl, ⟨y, rfl, fun h => ⟨hx.1 rfl, hy.1 h⟩, fun h => hy.2 h.2⟩, S.sh⟩
theorem c86 {p q : Nat} (H : SH u w L) (hp : p < 2 ^ 32) (hq : q < 2 ^ 32) : Ret Try.prog 86 [.complex .f32 p q] w (Pl u L fun v => ∃ b, v = .bool b ∧ (b = true ↔ Num .f32 p ∧ Num .f32 q)) := by
  refine ent Try.func86 rfl H 6 rfl [(0, .v (.complex .f32 p q))] rfl rfl fun a S => ?_
  refine xs hT pF S rfl false [] 200 rfl (by (repeat' apply And.intro); all_goals first | exact True.intro | with_reducible assumption | decide +kernel | with_reducible exact Option.isSome_some | omega | with_reducible exact decide_eq_true (by omega) | with_reducible exact decide_eq_false (by omega) | with_reducible exact beq_iff_eq.2 (by omega) | with_reducible exact beq_eq_false_iff_ne.2 (by omega) | skip) fun β a w hβ hn S => ?_
  refine xcc hT S rfl rfl rfl rfl rfl rfl rfl rfl rfl hp hq fun r t a w hr ht hR hT' S => ?_
  refine xP S rfl rfl rfl rfl rfl rfl en103 (fun H => c103 H) fun v a w ⟨x, hv, hx⟩ S => ?_
  subst hv
  refine xr hT S hn false [] 200 rfl (by (repeat' apply And.intro); all_goals first | exact True.intro | with_reducible assumption | decide +kernel | with_reducible exact Option.isSome_some | omega | with_reducible exact decide_eq_true (by omega) | with_reducible exact decide_eq_false (by omega) | with_reducible exact beq_iff_eq.2 (by omega) | with_reducible exact beq_eq_false_iff_ne.2 (by omega) | skip) fun β a w hβ hn S => ?_
  refine xret hT S rfl ⟨_, rfl, ⟨_, rfl, ?_⟩, S.sh⟩
  rw [hx, num_of_widen hR hp, num_of_widen hT' hq]
theorem c104 {x : Nat} (H : SH u w L) (hx : Num .f64 x) (hl : x < 2 ^ 64) : Ret Try.prog 104 [.float .f64 x] w (Pl u L fun v => v = .float .f64 (fabs x)) := by
  refine ent Try.func104 rfl H 10 rfl [(0, .v (.float .f64 x))] rfl rfl fun a S => ?_
  cases h1 : fcmp .lss .f64 x 0
  · cases h2 : fcmp .eql .f64 x 0
    · refine xr hT S rfl false [.b false, .b false] 200 rfl (by (repeat' apply And.intro); all_goals first | exact True.intro | with_reducible assumption | decide +kernel | with_reducible exact Option.isSome_some | omega | with_reducible exact decide_eq_true (by omega) | with_reducible exact decide_eq_false (by omega) | with_reducible exact beq_iff_eq.2 (by omega) | with_reducible exact beq_eq_false_iff_ne.2 (by omega) | skip) fun β a w hβ hn S => ?_
      refine xret hT S rfl ⟨_, rfl, ?_, S.sh⟩
      rw [abs_pos hx hl h1 h2]
      rfl
    · refine xr hT S rfl false [.b false, .b true] 200 rfl (by (repeat' apply And.intro); all_goals first | exact True.intro | with_reducible assumption | decide +kernel | with_reducible exact Option.isSome_some | omega | with_reducible exact decide_eq_true (by omega) | with_reducible exact decide_eq_false (by omega) | with_reducible exact beq_iff_eq.2 (by omega) | with_reducible exact beq_eq_false_iff_ne.2 (by omega) | skip) fun β a w hβ hn S => ?_
      refine xret hT S rfl ⟨_, rfl, ?_, S.sh⟩
      rw [abs_zero hx h2]
      rfl
  · refine xr hT S rfl false [.b true] 200 rfl (by (repeat' apply And.intro); all_goals first | exact True.intro | with_reducible assumption | decide +kernel | with_reducible exact Option.isSome_some | omega | with_reducible exact decide_eq_true (by omega) | with_reducible exact decide_eq_false (by omega) | with_reducible exact beq_iff_eq.2 (by omega) | with_reducible exact beq_eq_false_iff_ne.2 (by omega) | skip) fun β a w hβ hn S => ?_
    refine xret hT S rfl ⟨_, rfl, ?_, S.sh⟩
    rw [← abs_neg hx hl h1]
    rfl
/-- the word of a float32 widened -/
def wd (x : Nat) : Nat := (floatToFloatBits .f32 x .f64).getD 0
theorem wd_spec {x : Nat} (h : Num .f32 x) (hx : x < 2 ^ 32) : floatToFloatBits .f32 x .f64 = some (wd x) ∧ Mf .f64 128 (wd x) := by
  obtain ⟨r, h1, h2⟩ := (h.mf32 hx).widen (by decide)
  have e : wd x = r := by simp [wd, h1]
  rw [e]
  exact ⟨h1, h2⟩
def sq (P Q : Nat) : Nat := fop .add .f64 (fop .mul .f64 P P) (fop .mul .f64 Q Q)
theorem sq_some {P Q : Nat} (hP : Mf .f64 128 P) (hQ : Mf .f64 128 Q) : (floatBits .mul .f64 P P).isSome = true ∧ (floatBits .mul .f64 Q Q).isSome = true ∧ (floatBits .add .f64 (fop .mul .f64 P P) (fop .mul .f64 Q Q)).isSome = true := by
  obtain ⟨r, h1, h2⟩ := hP.mul hP (by decide)
  obtain ⟨t, h3, h4⟩ := hQ.mul hQ (by decide)
  obtain ⟨s, h5, h6⟩ := h2.add h4 (by decide)
  rw [fop_of h1, fop_of h3]
  simp [h1, h3, h5]
theorem c87 {P Q : Nat} (H : SH u w L) (hP : Mf .f64 128 P) (hQ : Mf .f64 128 Q) : Ret Try.prog 87 [.complex .f64 P Q] w (Pl u L fun v => v = .float .f64 (sq P Q)) := by
  refine ent Try.func87 rfl H 14 rfl [(0, .v (.complex .f64 P Q))] rfl rfl fun a S => ?_
  obtain ⟨h1, h2, h3⟩ := sq_some hP hQ
  refine xr hT S rfl false [] 200 rfl (by (repeat' apply And.intro); all_goals first | exact True.intro | with_reducible assumption | decide +kernel | with_reducible exact Option.isSome_some | omega | with_reducible exact decide_eq_true (by omega) | with_reducible exact decide_eq_false (by omega) | with_reducible exact beq_iff_eq.2 (by omega) | with_reducible exact beq_eq_false_iff_ne.2 (by omega) | skip) fun β a w hβ hn S => ?_
  exact xret hT S rfl ⟨_, rfl, rfl, S.sh⟩
theorem c88 {P Q : Nat} (H : SH u w L) (hP : Mf .f64 128 P) (hQ : Mf .f64 128 Q) : Ret Try.prog 88 [.complex .f64 P Q] w (Pl u L fun v => ∃ b, v = .bool b ∧ (b = true ↔ fcmp .leq .f64 (fabs P) 4652218415073722368 = true ∧ fcmp .leq .f64 (fabs Q) 4652218415073722368 = true)) := by
  refine ent Try.func88 rfl H 13 rfl [(0, .v (.complex .f64 P Q))] rfl rfl fun a S => ?_
  refine xr hT S rfl false [] 200 rfl (by (repeat' apply And.intro); all_goals first | exact True.intro | with_reducible assumption | decide +kernel | with_reducible exact Option.isSome_some | omega | with_reducible exact decide_eq_true (by omega) | with_reducible exact decide_eq_false (by omega) | with_reducible exact beq_iff_eq.2 (by omega) | with_reducible exact beq_eq_false_iff_ne.2 (by omega) | skip) fun β a w hβ hn S => ?_
  refine xP S rfl rfl rfl rfl rfl rfl en104 (fun H => c104 H hP.num hP.lt64) fun v a w hv S => ?_
  subst hv
  cases h1 : fcmp .leq .f64 (fabs P) 4652218415073722368
  · refine xr hT S hn false [.b false] 200 rfl (by (repeat' apply And.intro); all_goals first | exact True.intro | with_reducible assumption | decide +kernel | with_reducible exact Option.isSome_some | omega | with_reducible exact decide_eq_true (by omega) | with_reducible exact decide_eq_false (by omega) | with_reducible exact beq_iff_eq.2 (by omega) | with_reducible exact beq_eq_false_iff_ne.2 (by omega) | skip) fun β a w hβ hn S => ?_
    exact xret hT S rfl ⟨_, rfl, ⟨_, rfl, fun h => (by cases h), fun h => (by cases h.1)⟩, S.sh⟩
  · refine xr hT S hn false [.b true] 200 rfl (by (repeat' apply And.intro); all_goals first | exact True.intro | with_reducible assumption | decide +kernel | with_reducible exact Option.isSome_some | omega | with_reducible exact decide_eq_true (by omega) | with_reducible exact decide_eq_false (by omega) | with_reducible exact beq_iff_eq.2 (by omega) | with_reducible exact beq_eq_false_iff_ne.2 (by omega) | skip) fun β a w hβ hn S => ?_
    refine xP S rfl rfl rfl rfl rfl rfl en104 (fun H => c104 H hQ.num hQ.lt64) fun v a w hv S => ?_
    subst hv
    refine xr hT S hn false [] 200 rfl (by (repeat' apply And.intro); all_goals first | exact True.intro | with_reducible assumption | decide +kernel | with_reducible exact Option.isSome_some | omega | with_reducible exact decide_eq_true (by omega) | with_reducible exact decide_eq_false (by omega) | with_reducible exact beq_iff_eq.2 (by omega) | with_reducible exact beq_eq_false_iff_ne.2 (by omega) | skip) fun β a w hβ hn S => ?_
    exact xret hT S rfl ⟨_, rfl, ⟨_, rfl, fun h => ⟨rfl, h⟩, fun h => h.2⟩, S.sh⟩
/-- a mode as it must be -/
structure ModeOk (pr pi gr gi : Nat) : Prop where
  lt : (pr < 2 ^ 32 ∧ pi < 2 ^ 32) ∧ gr < 2 ^ 32 ∧ gi < 2 ^ 32
  pole : Num .f32 pr ∧ Num .f32 pi
  gain : Num .f32 gr ∧ Num .f32 gi
  one : fcmp .leq .f64 (sq (wd pr) (wd pi)) 4607182418800017408 = true
  most : fcmp .leq .f64 (fabs (wd gr)) 4652218415073722368 = true ∧ fcmp .leq .f64 (fabs (wd gi)) 4652218415073722368 = true
theorem c57 {pr pi gr gi : Nat} (H : SH u w L) (h1 : pr < 2 ^ 32) (h2 : pi < 2 ^ 32) (h3 : gr < 2 ^ 32) (h4 : gi < 2 ^ 32) : Ret Try.prog 57 [.agg #[.complex .f32 pr pi, .complex .f32 gr gi]] w (Pl u L fun v => ∃ b, v = .bool b ∧ (b = true ↔ ModeOk pr pi gr gi)) := by
  refine ent Try.func57 rfl H 24 rfl [(0, .v (.agg #[.complex .f32 pr pi, .complex .f32 gr gi]))] rfl rfl fun a S => ?_
  refine xr hT S rfl false [] 200 rfl (by (repeat' apply And.intro); all_goals first | exact True.intro | with_reducible assumption | decide +kernel | with_reducible exact Option.isSome_some | omega | with_reducible exact decide_eq_true (by omega) | with_reducible exact decide_eq_false (by omega) | with_reducible exact beq_iff_eq.2 (by omega) | with_reducible exact beq_eq_false_iff_ne.2 (by omega) | skip) fun β a w hβ hn S => ?_
  refine xP S rfl rfl rfl rfl rfl rfl en86 (fun H => c86 H h1 h2) fun v a w ⟨x, hv, hx⟩ S => ?_
  subst hv
  cases x
  · refine xr hT S hn false [.b false, .b false, .b false] 200 rfl (by (repeat' apply And.intro); all_goals first | exact True.intro | with_reducible assumption | decide +kernel | with_reducible exact Option.isSome_some | omega | with_reducible exact decide_eq_true (by omega) | with_reducible exact decide_eq_false (by omega) | with_reducible exact beq_iff_eq.2 (by omega) | with_reducible exact beq_eq_false_iff_ne.2 (by omega) | skip) fun β a w hβ hn S => ?_
    exact xret hT S rfl ⟨_, rfl, ⟨_, rfl, fun h => (by cases h), fun h => absurd (hx.2 h.pole) (by decide)⟩, S.tl'⟩
  · have hp := hx.1 rfl
    refine xr hT S hn false [.b true] 200 rfl (by (repeat' apply And.intro); all_goals first | exact True.intro | with_reducible assumption | decide +kernel | with_reducible exact Option.isSome_some | omega | with_reducible exact decide_eq_true (by omega) | with_reducible exact decide_eq_false (by omega) | with_reducible exact beq_iff_eq.2 (by omega) | with_reducible exact beq_eq_false_iff_ne.2 (by omega) | skip) fun β a w hβ hn S => ?_
    refine xP S rfl rfl rfl rfl rfl rfl en86 (fun H => c86 H h3 h4) fun v a w ⟨y, hv, hy⟩ S => ?_
    subst hv
    cases y
    · refine xr hT S hn false [.b false, .b false] 200 rfl (by (repeat' apply And.intro); all_goals first | exact True.intro | with_reducible assumption | decide +kernel | with_reducible exact Option.isSome_some | omega | with_reducible exact decide_eq_true (by omega) | with_reducible exact decide_eq_false (by omega) | with_reducible exact beq_iff_eq.2 (by omega) | with_reducible exact beq_eq_false_iff_ne.2 (by omega) | skip) fun β a w hβ hn S => ?_
      exact xret hT S rfl ⟨_, rfl, ⟨_, rfl, fun h => (by cases h), fun h => absurd (hy.2 h.gain) (by decide)⟩, S.tl'⟩
    · have hg := hy.1 rfl
      obtain ⟨p1, p2⟩ := wd_spec hp.1 h1
      obtain ⟨q1, q2⟩ := wd_spec hp.2 h2
      obtain ⟨r1, r2⟩ := wd_spec hg.1 h3
      obtain ⟨s1, s2⟩ := wd_spec hg.2 h4
      refine xr hT S hn false [.b true] 200 rfl ?_ fun β a w hβ hn S => ?_
      · (repeat' apply And.intro); all_goals first | exact True.intro | with_reducible assumption | decide +kernel | with_reducible exact Option.isSome_some | omega | with_reducible exact decide_eq_true (by omega) | with_reducible exact decide_eq_false (by omega) | with_reducible exact beq_iff_eq.2 (by omega) | with_reducible exact beq_eq_false_iff_ne.2 (by omega) | skip
        · rw [p1]; rfl
        · rw [q1]; rfl
      refine xP S rfl rfl rfl rfl rfl rfl en87 (fun H => c87 H p2 q2) fun v a w hv S => ?_
      subst hv
      cases h5 : fcmp .leq .f64 (sq (wd pr) (wd pi)) 4607182418800017408
      · refine xr hT S hn false [.b false] 200 rfl (by (repeat' apply And.intro); all_goals first | exact True.intro | with_reducible assumption | decide +kernel | with_reducible exact Option.isSome_some | omega | with_reducible exact decide_eq_true (by omega) | with_reducible exact decide_eq_false (by omega) | with_reducible exact beq_iff_eq.2 (by omega) | with_reducible exact beq_eq_false_iff_ne.2 (by omega) | assumption | skip) fun β a w hβ hn S => ?_
        exact xret hT S rfl ⟨_, rfl, ⟨_, rfl, fun h => (by cases h), fun h => absurd (h5.symm.trans h.one) (by decide)⟩, S.tl'⟩
      · refine xr hT S hn false [.b true] 200 rfl ?_ fun β a w hβ hn S => ?_
        · (repeat' apply And.intro); all_goals first | exact True.intro | with_reducible assumption | decide +kernel | with_reducible exact Option.isSome_some | omega | with_reducible exact decide_eq_true (by omega) | with_reducible exact decide_eq_false (by omega) | with_reducible exact beq_iff_eq.2 (by omega) | with_reducible exact beq_eq_false_iff_ne.2 (by omega) | assumption | skip
          · rw [r1]; rfl
          · rw [s1]; rfl
        refine xP S rfl rfl rfl rfl rfl rfl en88 (fun H => c88 H r2 s2) fun v a w ⟨z, hv, hz⟩ S => ?_
        subst hv
        refine xr hT S hn false [] 200 rfl (by (repeat' apply And.intro); all_goals first | exact True.intro | with_reducible assumption | decide +kernel | with_reducible exact Option.isSome_some | omega | with_reducible exact decide_eq_true (by omega) | with_reducible exact decide_eq_false (by omega) | with_reducible exact beq_iff_eq.2 (by omega) | with_reducible exact beq_eq_false_iff_ne.2 (by omega) | assumption | skip) fun β a w hβ hn S => ?_
        exact xret hT S rfl ⟨_, rfl, ⟨_, rfl, fun h => ⟨⟨⟨h1, h2⟩, h3, h4⟩, hp, hg, h5, hz.1 h⟩, fun h => hz.2 h.most⟩, S.tl'⟩
end Go.SX
