import Derived.Test.YtipgdmaagiijmaaF2
set_option maxRecDepth 100000
set_option linter.unusedVariables false
set_option linter.unusedSectionVars false
namespace Go.SX
open Go.Proofs
variable {u w : World} {L B : List Hp} {b : Nat} {M : Hp}
abbrev Any64 (v : Value) : Prop := ∃ r, v = .float .f64 r ∧ r < 2 ^ 64
abbrev Any32 (v : Value) : Prop := ∃ r, v = .float .f32 r ∧ r < 2 ^ 32
abbrev AnyC (v : Value) : Prop := ∃ p q, v = .complex .f32 p q ∧ p < 2 ^ 32 ∧ q < 2 ^ 32
theorem c112 (H : SH u w (M :: L)) (hC : Cur B b M) (hs : B ⊆ L) : Ret Try.prog 112 [.pointer (some ⟨b, 0, none⟩)] w (Drw B b u L Any64) := by
  refine ent Try.func112 rfl H 38 rfl [(0, .v (.pointer (some ⟨b, 0, none⟩)))] rfl rfl fun a S => ?_
  refine xr hT S rfl false [] 200 rfl (by (repeat' apply And.intro); all_goals first | exact True.intro | with_reducible assumption | decide +kernel | with_reducible exact Option.isSome_some | omega | with_reducible exact decide_eq_true (by omega) | with_reducible exact decide_eq_false (by omega) | with_reducible exact beq_iff_eq.2 (by omega) | with_reducible exact beq_eq_false_iff_ne.2 (by omega) | skip) fun β a w hβ hn S => ?_
  refine xD S rfl rfl rfl rfl rfl rfl en29 hs (fun H hs => c29 (n := 12) H hC hs (by decide) (by decide)) fun M v a w hC ⟨x, hv, hx0, hx1⟩ S => ?_
  subst hv
  obtain h | h | h | h | h | h | h | h | h | h | h | h : x = 0 ∨ x = 1 ∨ x = 2 ∨ x = 3 ∨ x = 4 ∨ x = 5 ∨ x = 6 ∨ x = 7 ∨ x = 8 ∨ x = 9 ∨ x = 10 ∨ x = 11 := by omega
  · refine xs hT pF S hn true [.b true] 200 rfl (by (repeat' apply And.intro); all_goals first | exact True.intro | with_reducible assumption | decide +kernel | with_reducible exact Option.isSome_some | omega | with_reducible exact decide_eq_true (by omega) | with_reducible exact decide_eq_false (by omega) | with_reducible exact beq_iff_eq.2 (by omega) | with_reducible exact beq_eq_false_iff_ne.2 (by omega) | skip) fun β a w hβ hn S => ?_
    refine xfl S rfl rfl rfl rfl rfl rfl (by simp) fun r a w hr _ S => ?_
    refine xr hT S hn true [] 200 rfl (by (repeat' apply And.intro); all_goals first | exact True.intro | with_reducible assumption | decide +kernel | with_reducible exact Option.isSome_some | omega | with_reducible exact decide_eq_true (by omega) | with_reducible exact decide_eq_false (by omega) | with_reducible exact beq_iff_eq.2 (by omega) | with_reducible exact beq_eq_false_iff_ne.2 (by omega) | skip) fun β a w hβ hn S => ?_
    exact xret hT S rfl ⟨_, rfl, _, hC, S.sh, _, rfl, hr⟩
  · refine xr hT S hn true [.b false, .b true] 200 rfl (by (repeat' apply And.intro); all_goals first | exact True.intro | with_reducible assumption | decide +kernel | with_reducible exact Option.isSome_some | omega | with_reducible exact decide_eq_true (by omega) | with_reducible exact decide_eq_false (by omega) | with_reducible exact beq_iff_eq.2 (by omega) | with_reducible exact beq_eq_false_iff_ne.2 (by omega) | skip) fun β a w hβ hn S => ?_
    exact xret hT S rfl ⟨_, rfl, _, hC, S.sh, _, rfl, by decide +kernel⟩
  · refine xr hT S hn true [.b false, .b false, .b true] 200 rfl (by (repeat' apply And.intro); all_goals first | exact True.intro | with_reducible assumption | decide +kernel | with_reducible exact Option.isSome_some | omega | with_reducible exact decide_eq_true (by omega) | with_reducible exact decide_eq_false (by omega) | with_reducible exact beq_iff_eq.2 (by omega) | with_reducible exact beq_eq_false_iff_ne.2 (by omega) | skip) fun β a w hβ hn S => ?_
    exact xret hT S rfl ⟨_, rfl, _, hC, S.sh, _, rfl, by decide +kernel⟩
  · refine xr hT S hn true [.b false, .b false, .b false, .b true] 200 rfl (by (repeat' apply And.intro); all_goals first | exact True.intro | with_reducible assumption | decide +kernel | with_reducible exact Option.isSome_some | omega | with_reducible exact decide_eq_true (by omega) | with_reducible exact decide_eq_false (by omega) | with_reducible exact beq_iff_eq.2 (by omega) | with_reducible exact beq_eq_false_iff_ne.2 (by omega) | skip) fun β a w hβ hn S => ?_
    exact xret hT S rfl ⟨_, rfl, _, hC, S.sh, _, rfl, by decide +kernel⟩
  · refine xr hT S hn true [.b false, .b false, .b false, .b false, .b true] 200 rfl (by (repeat' apply And.intro); all_goals first | exact True.intro | with_reducible assumption | decide +kernel | with_reducible exact Option.isSome_some | omega | with_reducible exact decide_eq_true (by omega) | with_reducible exact decide_eq_false (by omega) | with_reducible exact beq_iff_eq.2 (by omega) | with_reducible exact beq_eq_false_iff_ne.2 (by omega) | skip) fun β a w hβ hn S => ?_
    exact xret hT S rfl ⟨_, rfl, _, hC, S.sh, _, rfl, by decide +kernel⟩
  · refine xr hT S hn true [.b false, .b false, .b false, .b false, .b false, .b true] 200 rfl (by (repeat' apply And.intro); all_goals first | exact True.intro | with_reducible assumption | decide +kernel | with_reducible exact Option.isSome_some | omega | with_reducible exact decide_eq_true (by omega) | with_reducible exact decide_eq_false (by omega) | with_reducible exact beq_iff_eq.2 (by omega) | with_reducible exact beq_eq_false_iff_ne.2 (by omega) | skip) fun β a w hβ hn S => ?_
    exact xret hT S rfl ⟨_, rfl, _, hC, S.sh, _, rfl, by decide +kernel⟩
  · refine xr hT S hn true [.b false, .b false, .b false, .b false, .b false, .b false, .b true] 200 rfl (by (repeat' apply And.intro); all_goals first | exact True.intro | with_reducible assumption | decide +kernel | with_reducible exact Option.isSome_some | omega | with_reducible exact decide_eq_true (by omega) | with_reducible exact decide_eq_false (by omega) | with_reducible exact beq_iff_eq.2 (by omega) | with_reducible exact beq_eq_false_iff_ne.2 (by omega) | skip) fun β a w hβ hn S => ?_
    exact xret hT S rfl ⟨_, rfl, _, hC, S.sh, _, rfl, by decide +kernel⟩
  · refine xr hT S hn true [.b false, .b false, .b false, .b false, .b false, .b false, .b false, .b true] 200 rfl (by (repeat' apply And.intro); all_goals first | exact True.intro | with_reducible assumption | decide +kernel | with_reducible exact Option.isSome_some | omega | with_reducible exact decide_eq_true (by omega) | with_reducible exact decide_eq_false (by omega) | with_reducible exact beq_iff_eq.2 (by omega) | with_reducible exact beq_eq_false_iff_ne.2 (by omega) | skip) fun β a w hβ hn S => ?_
    exact xret hT S rfl ⟨_, rfl, _, hC, S.sh, _, rfl, by decide +kernel⟩
  · refine xr hT S hn true [.b false, .b false, .b false, .b false, .b false, .b false, .b false, .b false, .b true] 200 rfl (by (repeat' apply And.intro); all_goals first | exact True.intro | with_reducible assumption | decide +kernel | with_reducible exact Option.isSome_some | omega | with_reducible exact decide_eq_true (by omega) | with_reducible exact decide_eq_false (by omega) | with_reducible exact beq_iff_eq.2 (by omega) | with_reducible exact beq_eq_false_iff_ne.2 (by omega) | skip) fun β a w hβ hn S => ?_
    exact xret hT S rfl ⟨_, rfl, _, hC, S.sh, _, rfl, by decide +kernel⟩
  · refine xr hT S hn true [.b false, .b false, .b false, .b false, .b false, .b false, .b false, .b false, .b false, .b true] 200 rfl (by (repeat' apply And.intro); all_goals first | exact True.intro | with_reducible assumption | decide +kernel | with_reducible exact Option.isSome_some | omega | with_reducible exact decide_eq_true (by omega) | with_reducible exact decide_eq_false (by omega) | with_reducible exact beq_iff_eq.2 (by omega) | with_reducible exact beq_eq_false_iff_ne.2 (by omega) | skip) fun β a w hβ hn S => ?_
    exact xret hT S rfl ⟨_, rfl, _, hC, S.sh, _, rfl, by decide +kernel⟩
  · refine xr hT S hn true [.b false, .b false, .b false, .b false, .b false, .b false, .b false, .b false, .b false, .b false, .b true] 200 rfl (by (repeat' apply And.intro); all_goals first | exact True.intro | with_reducible assumption | decide +kernel | with_reducible exact Option.isSome_some | omega | with_reducible exact decide_eq_true (by omega) | with_reducible exact decide_eq_false (by omega) | with_reducible exact beq_iff_eq.2 (by omega) | with_reducible exact beq_eq_false_iff_ne.2 (by omega) | skip) fun β a w hβ hn S => ?_
    exact xret hT S rfl ⟨_, rfl, _, hC, S.sh, _, rfl, by decide +kernel⟩
  · refine xr hT S hn true [.b false, .b false, .b false, .b false, .b false, .b false, .b false, .b false, .b false, .b false, .b false] 200 rfl (by (repeat' apply And.intro); all_goals first | exact True.intro | with_reducible assumption | decide +kernel | with_reducible exact Option.isSome_some | omega | with_reducible exact decide_eq_true (by omega) | with_reducible exact decide_eq_false (by omega) | with_reducible exact beq_iff_eq.2 (by omega) | with_reducible exact beq_eq_false_iff_ne.2 (by omega) | skip) fun β a w hβ hn S => ?_
    exact xret hT S rfl ⟨_, rfl, _, hC, S.sh, _, rfl, by decide +kernel⟩

def A102 (u : World) (L B : List Hp) (b : Nat) (a : Act) (w : World) : Prop := ∃ β M r, β.length = 0 ∧ Cur B b M ∧ r < 2 ^ 64 ∧ St β u w a 33 [(3, .v (.float .f64 r)), (0, .v (.pointer (some ⟨b, 0, none⟩)))] [] (M :: L)
def I102 (u : World) (L : List Hp) (b : Nat) (M : Hp) (t : Nat) (d : Nat × Nat) (a : Act) (w : World) : Prop := ∃ β, β.length = 0 ∧ d.1 < 2 ^ 64 ∧ d.2 ≤ 250 ∧ St β u w a 33 [(3, .v (.float .f64 d.1)), (t, .v (.int .i64 d.2)), (0, .v (.pointer (some ⟨b, 0, none⟩)))] [] (M :: L)
theorem c102 (H : SH u w (M :: L)) (hC : Cur B b M) (hs : B ⊆ L) : Ret Try.prog 102 [.pointer (some ⟨b, 0, none⟩)] w (Drw B b u L Any64) := by
  refine ent Try.func102 rfl H 33 rfl [(0, .v (.pointer (some ⟨b, 0, none⟩)))] rfl rfl fun a S => ?_
  refine xr hT S rfl false [] 200 rfl (by (repeat' apply And.intro); all_goals first | exact True.intro | with_reducible assumption | decide +kernel | with_reducible exact Option.isSome_some | omega | with_reducible exact decide_eq_true (by omega) | with_reducible exact decide_eq_false (by omega) | with_reducible exact beq_iff_eq.2 (by omega) | with_reducible exact beq_eq_false_iff_ne.2 (by omega) | skip) fun β a w hβ hn S => ?_
  refine xD S rfl rfl rfl rfl rfl rfl en83 hs (fun H hs => c83 (n := 9) H hC hs (by decide) (by decide)) fun M v a w hC ⟨x, hv⟩ S => ?_
  subst hv
  cases x
  · refine xr hT S hn true [.b false] 200 rfl (by (repeat' apply And.intro); all_goals first | exact True.intro | with_reducible assumption | decide +kernel | with_reducible exact Option.isSome_some | omega | with_reducible exact decide_eq_true (by omega) | with_reducible exact decide_eq_false (by omega) | with_reducible exact beq_iff_eq.2 (by omega) | with_reducible exact beq_eq_false_iff_ne.2 (by omega) | skip) fun β a w hβ hn S => ?_
    refine xD S rfl rfl rfl rfl rfl rfl en58 hs (fun H hs => c58 H hC hs) fun M v a w hC ⟨r, hv, hr⟩ S => ?_
    subst hv
    have hr := hr.2
    refine xr hT S hn true [] 200 rfl (by (repeat' apply And.intro); all_goals first | exact True.intro | with_reducible assumption | decide +kernel | with_reducible exact Option.isSome_some | omega | with_reducible exact decide_eq_true (by omega) | with_reducible exact decide_eq_false (by omega) | with_reducible exact beq_iff_eq.2 (by omega) | with_reducible exact beq_eq_false_iff_ne.2 (by omega) | skip) fun β a w hβ hn S => ?_
    refine xD S rfl rfl rfl rfl rfl rfl en83 hs (fun H hs => c83 (n := 9) H hC hs (by decide) (by decide)) fun M v a w hC ⟨x, hv⟩ S => ?_
    subst hv
    refine xr hT S hn true [] 1 rfl (by (repeat' apply And.intro); all_goals first | exact True.intro | with_reducible assumption | decide +kernel | with_reducible exact Option.isSome_some | omega | with_reducible exact decide_eq_true (by omega) | with_reducible exact decide_eq_false (by omega) | with_reducible exact beq_iff_eq.2 (by omega) | with_reducible exact beq_eq_false_iff_ne.2 (by omega) | skip) fun β a w hβ hn S => ?_
    refine xcut (A102 u L B b) ?_ fun a w ⟨β, M, r, hn, hC, hr, S⟩ => ?_
    · cases x
      · refine xr hT S hn true [.b false] 200 rfl (by (repeat' apply And.intro); all_goals first | exact True.intro | with_reducible assumption | decide +kernel | with_reducible exact Option.isSome_some | omega | with_reducible exact decide_eq_true (by omega) | with_reducible exact decide_eq_false (by omega) | with_reducible exact beq_iff_eq.2 (by omega) | with_reducible exact beq_eq_false_iff_ne.2 (by omega) | skip) fun β a w hβ hn S => ?_
        exact xj ⟨β, M, r, hn, hC, hr, S.keep [3, 0] rfl⟩
      · refine xr hT S hn true [.b true] 200 rfl (by (repeat' apply And.intro); all_goals first | exact True.intro | with_reducible assumption | decide +kernel | with_reducible exact Option.isSome_some | omega | with_reducible exact decide_eq_true (by omega) | with_reducible exact decide_eq_false (by omega) | with_reducible exact beq_iff_eq.2 (by omega) | with_reducible exact beq_eq_false_iff_ne.2 (by omega) | skip) fun β a w hβ hn S => ?_
        refine xD S rfl rfl rfl rfl rfl rfl en29 hs (fun H hs => c29 (n := 250) H hC hs (by decide) (by decide)) fun M v a w hC ⟨y, hv, hy0, hy1⟩ S => ?_
        subst hv
        refine xr hT S hn true [] 200 rfl (by (repeat' apply And.intro); all_goals first | exact True.intro | with_reducible assumption | decide +kernel | with_reducible exact Option.isSome_some | omega | with_reducible exact decide_eq_true (by omega) | with_reducible exact decide_eq_false (by omega) | with_reducible exact beq_iff_eq.2 (by omega) | with_reducible exact beq_eq_false_iff_ne.2 (by omega) | skip) fun β a w hβ hn S => ?_
        obtain ⟨y, rfl⟩ := Int.eq_ofNat_of_zero_le hy0
        refine xloop (I102 u L b M 4) (·.2) (r, y) ⟨β, hn, hr, by simp; omega, S.keep [3, 4, 0] rfl⟩ fun ⟨r, y⟩ a w ⟨β, hn, hr, hy, S⟩ => ?_
        by_cases h0 : y = 0
        · refine xr hT S hn true [.b false] 200 rfl (by (repeat' apply And.intro); all_goals first | exact True.intro | with_reducible assumption | decide +kernel | with_reducible exact Option.isSome_some | omega | with_reducible exact decide_eq_true (by omega) | with_reducible exact decide_eq_false (by omega) | with_reducible exact beq_iff_eq.2 (by omega) | with_reducible exact beq_eq_false_iff_ne.2 (by omega) | skip) fun β a w hβ hn S => ?_
          exact xj ⟨β, M, r, hn, hC, hr, S.keep [3, 0] rfl⟩
        · refine xs hT pF S hn true [.b true] 200 rfl (by (repeat' apply And.intro); all_goals first | exact True.intro | with_reducible assumption | decide +kernel | with_reducible exact Option.isSome_some | omega | with_reducible exact decide_eq_true (by omega) | with_reducible exact decide_eq_false (by omega) | with_reducible exact beq_iff_eq.2 (by omega) | with_reducible exact beq_eq_false_iff_ne.2 (by omega) | skip) fun β a w hβ hn S => ?_
          refine xfl S rfl rfl rfl rfl rfl rfl (by simp) fun r a w hr _ S => ?_
          have e : ((y : Int) - 1) = ((y - 1 : Nat) : Int) := by omega
          refine xr hT S hn true [] 200 rfl (by simp only at hy; (repeat' apply And.intro); all_goals first | exact True.intro | with_reducible assumption | decide +kernel | with_reducible exact Option.isSome_some | omega | with_reducible exact decide_eq_true (by omega) | with_reducible exact decide_eq_false (by omega) | with_reducible exact beq_iff_eq.2 (by omega) | with_reducible exact beq_eq_false_iff_ne.2 (by omega) | skip) fun β a w hβ hn S => ?_
          simp only at hy S
          rw [e] at S
          exact xj ⟨(r, y - 1), ⟨β, hn, hr, by simp only; omega, S.keep [3, 4, 0] rfl⟩, by simp only; omega⟩

    refine xr hT S hn true [] 200 rfl (by (repeat' apply And.intro); all_goals first | exact True.intro | with_reducible assumption | decide +kernel | with_reducible exact Option.isSome_some | omega | with_reducible exact decide_eq_true (by omega) | with_reducible exact decide_eq_false (by omega) | with_reducible exact beq_iff_eq.2 (by omega) | with_reducible exact beq_eq_false_iff_ne.2 (by omega) | skip) fun β a w hβ hn S => ?_
    refine xD S rfl rfl rfl rfl rfl rfl en83 hs (fun H hs => c83 (n := 9) H hC hs (by decide) (by decide)) fun M v a w hC ⟨x, hv⟩ S => ?_
    subst hv
    cases x
    · refine xr hT S hn true [.b false] 200 rfl (by (repeat' apply And.intro); all_goals first | exact True.intro | with_reducible assumption | decide +kernel | with_reducible exact Option.isSome_some | omega | with_reducible exact decide_eq_true (by omega) | with_reducible exact decide_eq_false (by omega) | with_reducible exact beq_iff_eq.2 (by omega) | with_reducible exact beq_eq_false_iff_ne.2 (by omega) | skip) fun β a w hβ hn S => ?_
      exact xret hT S rfl ⟨_, rfl, _, hC, S.sh, _, rfl, hr⟩
    · refine xr hT S hn true [.b true] 200 rfl (by (repeat' apply And.intro); all_goals first | exact True.intro | with_reducible assumption | decide +kernel | with_reducible exact Option.isSome_some | omega | with_reducible exact decide_eq_true (by omega) | with_reducible exact decide_eq_false (by omega) | with_reducible exact beq_iff_eq.2 (by omega) | with_reducible exact beq_eq_false_iff_ne.2 (by omega) | skip) fun β a w hβ hn S => ?_
      refine xD S rfl rfl rfl rfl rfl rfl en29 hs (fun H hs => c29 (n := 250) H hC hs (by decide) (by decide)) fun M v a w hC ⟨y, hv, hy0, hy1⟩ S => ?_
      subst hv
      refine xr hT S hn true [] 200 rfl (by (repeat' apply And.intro); all_goals first | exact True.intro | with_reducible assumption | decide +kernel | with_reducible exact Option.isSome_some | omega | with_reducible exact decide_eq_true (by omega) | with_reducible exact decide_eq_false (by omega) | with_reducible exact beq_iff_eq.2 (by omega) | with_reducible exact beq_eq_false_iff_ne.2 (by omega) | skip) fun β a w hβ hn S => ?_
      obtain ⟨y, rfl⟩ := Int.eq_ofNat_of_zero_le hy0
      refine xloop (I102 u L b M 5) (·.2) (r, y) ⟨β, hn, hr, by simp; omega, S.keep [3, 5, 0] rfl⟩ fun ⟨r, y⟩ a w ⟨β, hn, hr, hy, S⟩ => ?_
      by_cases h0 : y = 0
      · refine xr hT S hn true [.b false] 200 rfl (by (repeat' apply And.intro); all_goals first | exact True.intro | with_reducible assumption | decide +kernel | with_reducible exact Option.isSome_some | omega | with_reducible exact decide_eq_true (by omega) | with_reducible exact decide_eq_false (by omega) | with_reducible exact beq_iff_eq.2 (by omega) | with_reducible exact beq_eq_false_iff_ne.2 (by omega) | skip) fun β a w hβ hn S => ?_
        exact xret hT S rfl ⟨_, rfl, _, hC, S.sh, _, rfl, hr⟩
      · refine xs hT pF S hn true [.b true] 200 rfl (by (repeat' apply And.intro); all_goals first | exact True.intro | with_reducible assumption | decide +kernel | with_reducible exact Option.isSome_some | omega | with_reducible exact decide_eq_true (by omega) | with_reducible exact decide_eq_false (by omega) | with_reducible exact beq_iff_eq.2 (by omega) | with_reducible exact beq_eq_false_iff_ne.2 (by omega) | skip) fun β a w hβ hn S => ?_
        refine xfl S rfl rfl rfl rfl rfl rfl (by simp) fun r a w hr _ S => ?_
        have e : ((y : Int) - 1) = ((y - 1 : Nat) : Int) := by omega
        refine xr hT S hn true [] 200 rfl (by simp only at hy; (repeat' apply And.intro); all_goals first | exact True.intro | with_reducible assumption | decide +kernel | with_reducible exact Option.isSome_some | omega | with_reducible exact decide_eq_true (by omega) | with_reducible exact decide_eq_false (by omega) | with_reducible exact beq_iff_eq.2 (by omega) | with_reducible exact beq_eq_false_iff_ne.2 (by omega) | skip) fun β a w hβ hn S => ?_
        simp only at hy S
        rw [e] at S
        exact xj ⟨(r, y - 1), ⟨β, hn, hr, by simp only; omega, S.keep [3, 5, 0] rfl⟩, by simp only; omega⟩

  · refine xr hT S hn true [.b true] 200 rfl (by (repeat' apply And.intro); all_goals first | exact True.intro | with_reducible assumption | decide +kernel | with_reducible exact Option.isSome_some | omega | with_reducible exact decide_eq_true (by omega) | with_reducible exact decide_eq_false (by omega) | with_reducible exact beq_iff_eq.2 (by omega) | with_reducible exact beq_eq_false_iff_ne.2 (by omega) | skip) fun β a w hβ hn S => ?_
    refine xD S rfl rfl rfl rfl rfl rfl en112 hs (fun H hs => c112 H hC hs) fun M v a w hC ⟨r, hv, hr⟩ S => ?_
    subst hv
    refine xr hT S hn true [] 200 rfl (by (repeat' apply And.intro); all_goals first | exact True.intro | with_reducible assumption | decide +kernel | with_reducible exact Option.isSome_some | omega | with_reducible exact decide_eq_true (by omega) | with_reducible exact decide_eq_false (by omega) | with_reducible exact beq_iff_eq.2 (by omega) | with_reducible exact beq_eq_false_iff_ne.2 (by omega) | skip) fun β a w hβ hn S => ?_
    exact xret hT S rfl ⟨_, rfl, _, hC, S.sh, _, rfl, hr⟩

theorem c85 (H : SH u w (M :: L)) (hC : Cur B b M) (hs : B ⊆ L) : Ret Try.prog 85 [.pointer (some ⟨b, 0, none⟩)] w (Drw B b u L AnyC) := by
  refine ent Try.func85 rfl H 10 rfl [(0, .v (.pointer (some ⟨b, 0, none⟩)))] rfl rfl fun a S => ?_
  refine xr hT S rfl false [] 200 rfl (by (repeat' apply And.intro); all_goals first | exact True.intro | with_reducible assumption | decide +kernel | with_reducible exact Option.isSome_some | omega | with_reducible exact decide_eq_true (by omega) | with_reducible exact decide_eq_false (by omega) | with_reducible exact beq_iff_eq.2 (by omega) | with_reducible exact beq_eq_false_iff_ne.2 (by omega) | skip) fun β a w hβ hn S => ?_
  refine xD S rfl rfl rfl rfl rfl rfl en102 hs (fun H hs => c102 H hC hs) fun M v a w hC ⟨r, hv, hr⟩ S => ?_
  subst hv
  refine xcf hT S rfl rfl rfl rfl rfl rfl rfl rfl rfl hr fun r a w hr _ S => ?_
  refine xr hT S hn true [] 200 rfl (by (repeat' apply And.intro); all_goals first | exact True.intro | with_reducible assumption | decide +kernel | with_reducible exact Option.isSome_some | omega | with_reducible exact decide_eq_true (by omega) | with_reducible exact decide_eq_false (by omega) | with_reducible exact beq_iff_eq.2 (by omega) | with_reducible exact beq_eq_false_iff_ne.2 (by omega) | skip) fun β a w hβ hn S => ?_
  refine xD S rfl rfl rfl rfl rfl rfl en102 hs (fun H hs => c102 H hC hs) fun M v a w hC ⟨q, hv, hq⟩ S => ?_
  subst hv
  refine xcf hT S rfl rfl rfl rfl rfl rfl rfl rfl rfl hq fun q a w hq _ S => ?_
  refine xr hT S hn true [] 200 rfl (by (repeat' apply And.intro); all_goals first | exact True.intro | with_reducible assumption | decide +kernel | with_reducible exact Option.isSome_some | omega | with_reducible exact decide_eq_true (by omega) | with_reducible exact decide_eq_false (by omega) | with_reducible exact beq_iff_eq.2 (by omega) | with_reducible exact beq_eq_false_iff_ne.2 (by omega) | skip) fun β a w hβ hn S => ?_
  exact xret hT S rfl ⟨_, rfl, _, hC, S.sh, r, q, rfl, hr, hq⟩

theorem c84 {p q x : Nat} (H : SH u w L) : Ret Try.prog 84 [.complex .f32 p q, .float .f32 x] w fun v w' => AnyC v ∧ SH u w' L := by
  refine ent Try.func84 rfl H 14 rfl [(0, .v (.complex .f32 p q)), (1, .v (.float .f32 x))] rfl rfl fun a S => ?_
  refine xs hT pF S rfl false [] 200 rfl (by (repeat' apply And.intro); all_goals first | exact True.intro | with_reducible assumption | decide +kernel | with_reducible exact Option.isSome_some | omega | with_reducible exact decide_eq_true (by omega) | with_reducible exact decide_eq_false (by omega) | with_reducible exact beq_iff_eq.2 (by omega) | with_reducible exact beq_eq_false_iff_ne.2 (by omega) | skip) fun β a w hβ hn S => ?_
  refine xfl S rfl rfl rfl rfl rfl rfl (by simp) fun r a w hr _ S => ?_
  refine xs hT pF S hn false [] 200 rfl (by (repeat' apply And.intro); all_goals first | exact True.intro | with_reducible assumption | decide +kernel | with_reducible exact Option.isSome_some | omega | with_reducible exact decide_eq_true (by omega) | with_reducible exact decide_eq_false (by omega) | with_reducible exact beq_iff_eq.2 (by omega) | with_reducible exact beq_eq_false_iff_ne.2 (by omega) | skip) fun β a w hβ hn S => ?_
  refine xfl S rfl rfl rfl rfl rfl rfl (by simp) fun t a w ht _ S => ?_
  refine xr hT S hn true [] 200 rfl (by (repeat' apply And.intro); all_goals first | exact True.intro | with_reducible assumption | decide +kernel | with_reducible exact Option.isSome_some | omega | with_reducible exact decide_eq_true (by omega) | with_reducible exact decide_eq_false (by omega) | with_reducible exact beq_iff_eq.2 (by omega) | with_reducible exact beq_eq_false_iff_ne.2 (by omega) | skip) fun β a w hβ hn S => ?_
  exact xret hT S rfl ⟨_, rfl, ⟨r, t, rfl, hr, ht⟩, S.sh⟩
theorem ge_16s : Ge1 .f32 1098907648 := ⟨_, _, _, rfl, by decide +kernel, by decide +kernel⟩
theorem ge_8s : Ge1 .f32 1090519040 := ⟨_, _, _, rfl, by decide +kernel, by decide +kernel⟩
theorem ge_1000s : Ge1 .f32 1148846080 := ⟨_, _, _, rfl, by decide +kernel, by decide +kernel⟩
theorem ge_64s : Ge1 .f32 1115684864 := ⟨_, _, _, rfl, by decide +kernel, by decide +kernel⟩
theorem c82 (H : SH u w (M :: L)) (hC : Cur B b M) (hs : B ⊆ L) : Ret Try.prog 82 [.pointer (some ⟨b, 0, none⟩)] w (Drw B b u L AnyC) := by
  refine ent Try.func82 rfl H 30 rfl [(0, .v (.pointer (some ⟨b, 0, none⟩)))] rfl rfl fun a S => ?_
  refine xr hT S rfl false [] 200 rfl (by (repeat' apply And.intro); all_goals first | exact True.intro | with_reducible assumption | decide +kernel | with_reducible exact Option.isSome_some | omega | with_reducible exact decide_eq_true (by omega) | with_reducible exact decide_eq_false (by omega) | with_reducible exact beq_iff_eq.2 (by omega) | with_reducible exact beq_eq_false_iff_ne.2 (by omega) | skip) fun β a w hβ hn S => ?_
  refine xD S rfl rfl rfl rfl rfl rfl en29 hs (fun H hs => c29 (n := 10) H hC hs (by decide) (by decide)) fun M v a w hC ⟨x, hv, hx0, hx1⟩ S => ?_
  subst hv
  obtain h | h | h | h | h | h | h | h : x = 0 ∨ x = 1 ∨ x = 2 ∨ x = 3 ∨ x = 4 ∨ x = 5 ∨ x = 6 ∨ 7 ≤ x := by omega
  · refine xr hT S hn true [.b true] 200 rfl (by (repeat' apply And.intro); all_goals first | exact True.intro | with_reducible assumption | decide +kernel | with_reducible exact Option.isSome_some | omega | with_reducible exact decide_eq_true (by omega) | with_reducible exact decide_eq_false (by omega) | with_reducible exact beq_iff_eq.2 (by omega) | with_reducible exact beq_eq_false_iff_ne.2 (by omega) | skip) fun β a w hβ hn S => ?_
    exact xret hT S rfl ⟨_, rfl, _, hC, S.sh, _, _, rfl, by decide +kernel, by decide +kernel⟩
  · refine xr hT S hn true [.b false, .b true] 200 rfl (by (repeat' apply And.intro); all_goals first | exact True.intro | with_reducible assumption | decide +kernel | with_reducible exact Option.isSome_some | omega | with_reducible exact decide_eq_true (by omega) | with_reducible exact decide_eq_false (by omega) | with_reducible exact beq_iff_eq.2 (by omega) | with_reducible exact beq_eq_false_iff_ne.2 (by omega) | skip) fun β a w hβ hn S => ?_
    exact xret hT S rfl ⟨_, rfl, _, hC, S.sh, _, _, rfl, by decide +kernel, by decide +kernel⟩
  · refine xr hT S hn true [.b false, .b false, .b true] 200 rfl (by (repeat' apply And.intro); all_goals first | exact True.intro | with_reducible assumption | decide +kernel | with_reducible exact Option.isSome_some | omega | with_reducible exact decide_eq_true (by omega) | with_reducible exact decide_eq_false (by omega) | with_reducible exact beq_iff_eq.2 (by omega) | with_reducible exact beq_eq_false_iff_ne.2 (by omega) | skip) fun β a w hβ hn S => ?_
    exact xret hT S rfl ⟨_, rfl, _, hC, S.sh, _, _, rfl, by decide +kernel, by decide +kernel⟩
  · refine xr hT S hn true [.b false, .b false, .b false, .b true] 200 rfl (by (repeat' apply And.intro); all_goals first | exact True.intro | with_reducible assumption | decide +kernel | with_reducible exact Option.isSome_some | omega | with_reducible exact decide_eq_true (by omega) | with_reducible exact decide_eq_false (by omega) | with_reducible exact beq_iff_eq.2 (by omega) | with_reducible exact beq_eq_false_iff_ne.2 (by omega) | skip) fun β a w hβ hn S => ?_
    exact xret hT S rfl ⟨_, rfl, _, hC, S.sh, _, _, rfl, by decide +kernel, by decide +kernel⟩
  · refine xr hT S hn true [.b false, .b false, .b false, .b false, .b true] 200 rfl (by (repeat' apply And.intro); all_goals first | exact True.intro | with_reducible assumption | decide +kernel | with_reducible exact Option.isSome_some | omega | with_reducible exact decide_eq_true (by omega) | with_reducible exact decide_eq_false (by omega) | with_reducible exact beq_iff_eq.2 (by omega) | with_reducible exact beq_eq_false_iff_ne.2 (by omega) | skip) fun β a w hβ hn S => ?_
    exact xret hT S rfl ⟨_, rfl, _, hC, S.sh, _, _, rfl, by decide +kernel, by decide +kernel⟩
  · refine xr hT S hn true [.b false, .b false, .b false, .b false, .b false, .b true] 200 rfl (by (repeat' apply And.intro); all_goals first | exact True.intro | with_reducible assumption | decide +kernel | with_reducible exact Option.isSome_some | omega | with_reducible exact decide_eq_true (by omega) | with_reducible exact decide_eq_false (by omega) | with_reducible exact beq_iff_eq.2 (by omega) | with_reducible exact beq_eq_false_iff_ne.2 (by omega) | skip) fun β a w hβ hn S => ?_
    exact xret hT S rfl ⟨_, rfl, _, hC, S.sh, _, _, rfl, by decide +kernel, by decide +kernel⟩
  · refine xr hT S hn true [.b false, .b false, .b false, .b false, .b false, .b false, .b true] 200 rfl (by (repeat' apply And.intro); all_goals first | exact True.intro | with_reducible assumption | decide +kernel | with_reducible exact Option.isSome_some | omega | with_reducible exact decide_eq_true (by omega) | with_reducible exact decide_eq_false (by omega) | with_reducible exact beq_iff_eq.2 (by omega) | with_reducible exact beq_eq_false_iff_ne.2 (by omega) | skip) fun β a w hβ hn S => ?_
    exact xret hT S rfl ⟨_, rfl, _, hC, S.sh, _, _, rfl, by decide +kernel, by decide +kernel⟩
  · refine xr hT S hn true [.b false, .b false, .b false, .b false, .b false, .b false, .b false] 200 rfl (by (repeat' apply And.intro); all_goals first | exact True.intro | with_reducible assumption | decide +kernel | with_reducible exact Option.isSome_some | omega | with_reducible exact decide_eq_true (by omega) | with_reducible exact decide_eq_false (by omega) | with_reducible exact beq_iff_eq.2 (by omega) | with_reducible exact beq_eq_false_iff_ne.2 (by omega) | skip) fun β a w hβ hn S => ?_
    refine xD S rfl rfl rfl rfl rfl rfl en29 hs (fun H hs => c29 (n := 23) H hC hs (by decide) (by decide)) fun M v a w hC ⟨y, hv, hy0, hy1⟩ S => ?_
    subst hv
    obtain ⟨r, hr, hm⟩ := Mf.quo (Mf.ofInt .f32 (n := y - 11) (e := 5) (by omega) (by decide)) ge_16s (by decide)
    refine xr hT S hn true [] 200 rfl ?_ fun β a w hβ hn S => ?_
    · (repeat' apply And.intro); all_goals first | exact True.intro | with_reducible assumption | decide +kernel | with_reducible exact Option.isSome_some | omega | with_reducible exact decide_eq_true (by omega) | with_reducible exact decide_eq_false (by omega) | with_reducible exact beq_iff_eq.2 (by omega) | with_reducible exact beq_eq_false_iff_ne.2 (by omega) | skip
      exact Option.isSome_iff_exists.2 ⟨r, hr⟩
    refine xD S rfl rfl rfl rfl rfl rfl en29 hs (fun H hs => c29 (n := 23) H hC hs (by decide) (by decide)) fun M v a w hC ⟨z, hv, hz0, hz1⟩ S => ?_
    subst hv
    obtain ⟨t, ht, hn2⟩ := Mf.quo (Mf.ofInt .f32 (n := z - 11) (e := 5) (by omega) (by decide)) ge_16s (by decide)
    refine xr hT S hn true [] 200 rfl ?_ fun β a w hβ hn S => ?_
    · (repeat' apply And.intro); all_goals first | exact True.intro | with_reducible assumption | decide +kernel | with_reducible exact Option.isSome_some | omega | with_reducible exact decide_eq_true (by omega) | with_reducible exact decide_eq_false (by omega) | with_reducible exact beq_iff_eq.2 (by omega) | with_reducible exact beq_eq_false_iff_ne.2 (by omega) | skip
      exact Option.isSome_iff_exists.2 ⟨t, ht⟩
    exact xret hT S rfl ⟨_, rfl, _, hC, S.sh, r, t, by rw [← fop_of hr, ← fop_of ht]; rfl, hm.2, hn2.2⟩
end Go.SX
