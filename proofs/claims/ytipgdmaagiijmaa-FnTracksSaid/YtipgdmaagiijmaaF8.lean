import Derived.Test.YtipgdmaagiijmaaF7
set_option maxRecDepth 100000
set_option linter.unusedVariables false
set_option linter.unusedSectionVars false
namespace Go.SX
open Go.Proofs
variable {u w : World} {L B : List Hp} {b : Nat} {M : Hp}

def I18 (u : World) (L : List Hp) (A : Option Addr) (n c : Nat) (d : Nat) (a : Act) (w : World) : Prop := ∃ β h, β.length = 0 ∧ inR .i64 h ∧ d ≤ n ∧
  St β u w a 32 [(0, .v (.slice A n c)), (3, .v (.int .i64 h)), (4, .v (.int .i64 ((n - d : Nat) : Int)))] [] L
theorem c18 {A : Option Addr} {n c : Nat} (H : SH u w L) (hB : Byt B A n) (hs : B ⊆ L) (hn : n ≤ 1048576) : Ret Try.prog 18 [.slice A n c] w
    fun v w' => ∃ g M, v = .pointer (some ⟨g, 0, none⟩) ∧ Cur B g M ∧ SH u w' (M :: L) := by
  refine ent Try.func18 rfl H 32 rfl [(0, .v (.slice A n c))] rfl rfl fun a S => ?_
  refine xr hT S rfl true [] 200 rfl (by (repeat' apply And.intro); all_goals first | exact True.intro | with_reducible assumption | decide +kernel | with_reducible exact Option.isSome_some | omega | with_reducible exact decide_eq_true (by omega) | with_reducible exact decide_eq_false (by omega) | with_reducible exact beq_iff_eq.2 (by omega) | with_reducible exact beq_eq_false_iff_ne.2 (by omega) | skip) fun β a w hβ hl S => ?_
  refine xloop (I18 u L A n c) id n ⟨β, 3222 + n, hl, by simp only [inR]; omega, Nat.le_refl _, by rw [Nat.sub_self]; exact S.keep [0, 3, 4] rfl⟩ fun d a w ⟨β, h, hl, hh, hd, S⟩ => ?_
  by_cases h1 : d = 0
  · subst h1
    refine xr hT S hl false [.b false, .b false] 200 rfl (by (repeat' apply And.intro); all_goals first | exact True.intro | with_reducible assumption | decide +kernel | with_reducible exact Option.isSome_some | omega | with_reducible exact decide_eq_true (by omega) | with_reducible exact decide_eq_false (by omega) | with_reducible exact beq_iff_eq.2 (by omega) | with_reducible exact beq_eq_false_iff_ne.2 (by omega) | skip) fun β a w hβ hl S => ?_
    refine xret hT S rfl ⟨_, rfl, β.getD 0 0, _, rfl, ⟨A, n, c, 0, h, rfl, hh, by decide, by omega, hB⟩, S.sh⟩
  · by_cases h2 : ((n - d : Nat) : Int) < 4000
    · obtain ⟨ad, y, rfl, hy0, hy1, hc⟩ := hB.2 (n - d) (by omega)
      refine xr hT S hl false [.b true, .b true, .v [.int .u8 y]] 200 rfl ?_ fun β a w hβ hl S => ?_
      · (repeat' apply And.intro); all_goals first | exact True.intro | with_reducible assumption | decide +kernel | with_reducible exact Option.isSome_some | omega | with_reducible exact decide_eq_true (by omega) | with_reducible exact decide_eq_false (by omega) | with_reducible exact beq_iff_eq.2 (by omega) | with_reducible exact beq_eq_false_iff_ne.2 (by omega) | skip
        exact RdV.one' (hc.mono hs) (by rw [show (((n - d : Nat) : Int)).toNat = n - d by omega]; exact add_mul_one _ _)
      have e : IntKind.i64.wrap (((n - d : Nat) : Int) + 1) = ((n - (d - 1) : Nat) : Int) := by
        rw [wrap_inR (by simp only [inR]; omega)]
        omega
      rw [e] at S
      exact xj ⟨d - 1, ⟨β, _, hl, inR_wrap _, by omega, S.keep [0, 3, 4] rfl⟩, by simp only [id]; omega⟩
    · refine xr hT S hl false [.b true, .b false, .b false] 200 rfl (by (repeat' apply And.intro); all_goals first | exact True.intro | with_reducible assumption | decide +kernel | with_reducible exact Option.isSome_some | omega | with_reducible exact decide_eq_true (by omega) | with_reducible exact decide_eq_false (by omega) | with_reducible exact beq_iff_eq.2 (by omega) | with_reducible exact beq_eq_false_iff_ne.2 (by omega) | skip) fun β a w hβ hl S => ?_
      refine xret hT S rfl ⟨_, rfl, β.getD 0 0, _, rfl, ⟨A, n, c, 0, h, rfl, hh, by decide, by omega, hB⟩, S.sh⟩

/-! ### events -/
structure Ev where
  at_ : Int
  kind : Int
  body : Int
  shape : Int
  count : Int
  force : Nat
def Ev.cells (e : Ev) : List Value := [.int .i64 e.at_, .int .i64 e.kind, .int .i64 e.body, .int .i64 e.shape, .int .i64 e.count, .float .f32 e.force]
def Dmp (f : Nat) : Prop := f = 0 ∨ f = 1056964608 ∨ f = 1063675494 ∨ f = 1065353216
def EvOk (len nb : Int) (e : Ev) : Prop := (0 ≤ e.at_ ∧ e.at_ ≤ len) ∧ (0 ≤ e.body ∧ e.body < nb) ∧
  ((e.kind = 1 ∧ (0 ≤ e.shape ∧ e.shape ≤ 2) ∧ (1 ≤ e.count ∧ e.count ≤ 9) ∧ Mf .f32 20 e.force) ∨ (e.kind = 2 ∧ e.shape = 0 ∧ e.count = 0 ∧ Dmp e.force) ∨ (e.kind = 3 ∧ e.shape = 0 ∧ e.count = 0 ∧ e.force = 0))
theorem dmp0 : fop .quo .f32 (FloatKind.f32.nearest 0) 1148846080 = 0 := by decide +kernel
theorem dmp1 : fop .quo .f32 (FloatKind.f32.nearest 500) 1148846080 = 1056964608 := by decide +kernel
theorem dmp2 : fop .quo .f32 (FloatKind.f32.nearest 900) 1148846080 = 1063675494 := by decide +kernel
theorem dmp3 : fop .quo .f32 (FloatKind.f32.nearest 1000) 1148846080 = 1065353216 := by decide +kernel
def EvV (len nb : Int) (v : Value) : Prop := ∃ e : Ev, v = .agg e.cells.toArray ∧ EvOk len nb e
theorem c32 {len nb : Int} (H : SH u w (M :: L)) (hC : Cur B b M) (hs : B ⊆ L) (h0 : 0 ≤ len) (h1 : len ≤ 1000) (h2 : 1 ≤ nb) (h3 : nb ≤ 10) : Ret Try.prog 32 [.pointer (some ⟨b, 0, none⟩), .int .i64 len, .int .i64 nb] w (Drw B b u L (EvV len nb)) := by
  refine ent Try.func32 rfl H 44 rfl [(0, .v (.pointer (some ⟨b, 0, none⟩))), (1, .v (.int .i64 len)), (2, .v (.int .i64 nb))] rfl rfl fun a S => ?_
  refine xr hT S rfl true [] 200 rfl (by (repeat' apply And.intro); all_goals first | exact True.intro | with_reducible assumption | decide +kernel | with_reducible exact Option.isSome_some | omega | with_reducible exact decide_eq_true (by omega) | with_reducible exact decide_eq_false (by omega) | with_reducible exact beq_iff_eq.2 (by omega) | with_reducible exact beq_eq_false_iff_ne.2 (by omega) | skip) fun β a w hβ hn S => ?_
  refine xD S rfl rfl rfl rfl rfl rfl en29 hs (fun H hs => c29 (n := len + 1) H hC hs (by omega) (by omega)) fun M v a w hC ⟨x, hv, hx0, hx1⟩ S => ?_
  subst hv
  refine xr hT S hn true [] 200 rfl (by (repeat' apply And.intro); all_goals first | exact True.intro | with_reducible assumption | decide +kernel | with_reducible exact Option.isSome_some | omega | with_reducible exact decide_eq_true (by omega) | with_reducible exact decide_eq_false (by omega) | with_reducible exact beq_iff_eq.2 (by omega) | with_reducible exact beq_eq_false_iff_ne.2 (by omega) | skip) fun β a w hβ hn S => ?_
  refine xD S rfl rfl rfl rfl rfl rfl en29 hs (fun H hs => c29 (n := nb) H hC hs (by omega) (by omega)) fun M v a w hC ⟨y, hv, hy0, hy1⟩ S => ?_
  subst hv
  refine xr hT S hn true [] 200 rfl (by (repeat' apply And.intro); all_goals first | exact True.intro | with_reducible assumption | decide +kernel | with_reducible exact Option.isSome_some | omega | with_reducible exact decide_eq_true (by omega) | with_reducible exact decide_eq_false (by omega) | with_reducible exact beq_iff_eq.2 (by omega) | with_reducible exact beq_eq_false_iff_ne.2 (by omega) | skip) fun β a w hβ hn S => ?_
  refine xD S rfl rfl rfl rfl rfl rfl en29 hs (fun H hs => c29 (n := 7) H hC hs (by omega) (by omega)) fun M v a w hC ⟨k, hv, hk0, hk1⟩ S => ?_
  subst hv
  by_cases hk : k = 0
  · refine xr hT S hn true [.b true] 200 rfl (by (repeat' apply And.intro); all_goals first | exact True.intro | with_reducible assumption | decide +kernel | with_reducible exact Option.isSome_some | omega | with_reducible exact decide_eq_true (by omega) | with_reducible exact decide_eq_false (by omega) | with_reducible exact beq_iff_eq.2 (by omega) | with_reducible exact beq_eq_false_iff_ne.2 (by omega) | skip) fun β a w hβ hn S => ?_
    refine xD S rfl rfl rfl rfl rfl rfl en30 hs (fun H hs => c30 (xs := [0, 500, 900, 1000]) H hC hs rfl (by decide) (by decide) (by exact RdV.boxL rfl rfl)) fun M v a w hC ⟨q, hq, hv⟩ S => ?_
    subst hv
    have hq' : 0 ≤ q ∧ q ≤ 1000 := by simp at hq; omega
    obtain ⟨r3, hr3, hm3⟩ := Mf.quo (Mf.ofInt .f32 (n := q) (e := 10) (by omega) (by decide)) ge_1000s (by decide)
    refine xr hT S hn true [] 200 rfl ?_ fun β a w hβ hn S => ?_
    · (repeat' apply And.intro); all_goals first | exact True.intro | with_reducible assumption | decide +kernel | with_reducible exact Option.isSome_some | omega | with_reducible exact decide_eq_true (by omega) | with_reducible exact decide_eq_false (by omega) | with_reducible exact beq_iff_eq.2 (by omega) | with_reducible exact beq_eq_false_iff_ne.2 (by omega) | skip
      exact Option.isSome_iff_exists.2 ⟨r3, hr3⟩
    refine xret hT S rfl ⟨_, rfl, M, hC, S.tl', ⟨x, 2, y, 0, 0, fop .quo .f32 (FloatKind.f32.nearest q) 1148846080⟩, rfl, by simp only; omega, by simp only; omega, .inr (.inl ⟨rfl, rfl, rfl, ?_⟩)⟩
    simp only [List.mem_cons, List.not_mem_nil, or_false] at hq
    rcases hq with rfl | rfl | rfl | rfl
    · exact .inl dmp0
    · exact .inr (.inl dmp1)
    · exact .inr (.inr (.inl dmp2))
    · exact .inr (.inr (.inr dmp3))
  · by_cases hk' : k = 1
    · refine xr hT S hn true [.b false, .b true] 200 rfl (by (repeat' apply And.intro); all_goals first | exact True.intro | with_reducible assumption | decide +kernel | with_reducible exact Option.isSome_some | omega | with_reducible exact decide_eq_true (by omega) | with_reducible exact decide_eq_false (by omega) | with_reducible exact beq_iff_eq.2 (by omega) | with_reducible exact beq_eq_false_iff_ne.2 (by omega) | skip) fun β a w hβ hn S => ?_
      exact xret hT S rfl ⟨_, rfl, M, hC, S.tl', ⟨x, 3, y, 0, 0, 0⟩, rfl, by simp only; omega, by simp only; omega, .inr (.inr ⟨rfl, rfl, rfl, rfl⟩)⟩
    · refine xr hT S hn true [.b false, .b false] 200 rfl (by (repeat' apply And.intro); all_goals first | exact True.intro | with_reducible assumption | decide +kernel | with_reducible exact Option.isSome_some | omega | with_reducible exact decide_eq_true (by omega) | with_reducible exact decide_eq_false (by omega) | with_reducible exact beq_iff_eq.2 (by omega) | with_reducible exact beq_eq_false_iff_ne.2 (by omega) | skip) fun β a w hβ hn S => ?_
      refine xD S rfl rfl rfl rfl rfl rfl en29 hs (fun H hs => c29 (n := 3) H hC hs (by omega) (by omega)) fun M v a w hC ⟨s, hv, hs0, hs1⟩ S => ?_
      subst hv
      refine xr hT S hn true [] 200 rfl (by (repeat' apply And.intro); all_goals first | exact True.intro | with_reducible assumption | decide +kernel | with_reducible exact Option.isSome_some | omega | with_reducible exact decide_eq_true (by omega) | with_reducible exact decide_eq_false (by omega) | with_reducible exact beq_iff_eq.2 (by omega) | with_reducible exact beq_eq_false_iff_ne.2 (by omega) | skip) fun β a w hβ hn S => ?_
      refine xD S rfl rfl rfl rfl rfl rfl en29 hs (fun H hs => c29 (n := 9) H hC hs (by omega) (by omega)) fun M v a w hC ⟨t, hv, ht0, ht1⟩ S => ?_
      subst hv
      refine xr hT S hn true [] 200 rfl (by (repeat' apply And.intro); all_goals first | exact True.intro | with_reducible assumption | decide +kernel | with_reducible exact Option.isSome_some | omega | with_reducible exact decide_eq_true (by omega) | with_reducible exact decide_eq_false (by omega) | with_reducible exact beq_iff_eq.2 (by omega) | with_reducible exact beq_eq_false_iff_ne.2 (by omega) | skip) fun β a w hβ hn S => ?_
      refine xD S rfl rfl rfl rfl rfl rfl en58 hs (fun H hs => c58 H hC hs) fun M v a w hC ⟨r, hv, hr⟩ S => ?_
      subst hv
      obtain ⟨r1, h11, h12⟩ := hr.narrow (by decide)
      obtain ⟨r2, h21, h22⟩ := h12.quo ge_64s (by decide)
      have e1 : (floatToFloatBits .f64 r .f32).getD 0 = r1 := by rw [h11]; rfl
      refine xr hT S hn true [] 200 rfl ?_ fun β a w hβ hn S => ?_
      · (repeat' apply And.intro); all_goals first | exact True.intro | with_reducible assumption | decide +kernel | with_reducible exact Option.isSome_some | omega | with_reducible exact decide_eq_true (by omega) | with_reducible exact decide_eq_false (by omega) | with_reducible exact beq_iff_eq.2 (by omega) | with_reducible exact beq_eq_false_iff_ne.2 (by omega) | skip
        · rw [e1, h21]; rfl
        · rw [h11]; rfl
      rw [e1] at S
      refine xret hT S rfl ⟨_, rfl, M, hC, S.tl', ⟨x, 1, y, s, 1 + t, fop .quo .f32 r1 1115684864⟩, rfl, by simp only; omega, by simp only; omega, .inl ⟨rfl, by simp only; omega, by simp only; omega, ?_⟩⟩
      simp only
      rw [fop_of h21]
      exact h22
end Go.SX
