import Derived.Test.YtipgdmaagiijmaaF5
import Derived.Test.YtipgdmaagiijmaaXo
set_option maxRecDepth 100000
set_option linter.unusedVariables false
set_option linter.unusedSectionVars false
namespace Go.SX
open Go.Proofs
section
variable {β : List Nat} {u w : World} {a : Act} {n : Nat} {l : EL} {bx : BL} {tl : List Hp}
theorem St.dropb {e : Nat × Nat × List SV} (S : St β u w a n l (e :: bx) tl) : St β u w a n l bx tl :=
  ⟨S.env, S.sh.sub (by simp [bhs]), fun e' he => S.wb e' (List.mem_cons_of_mem _ he)⟩
theorem add0 (g j : Nat) : (⟨g, 0, none⟩ : Addr).add j = ⟨g, j, none⟩ := by rw [add_none, Nat.zero_add]
theorem RdV.box {L : List Hp} {i t : Nat} {cs : List SV} (h : bk bx i = some (t, cs)) : RdV (bhs β bx ++ L) ⟨β.getD i 0, 0, none⟩ (SV.dns β cs) := by
  intro j v hv
  rw [add0]
  refine ⟨Hp.one (β.getD i 0) (bobj β (t, cs)), List.mem_append_left _ ?_, (SV.dns β cs).toArray, t, (0, 0), ?_, rfl, ?_⟩
  · exact List.mem_map.2 ⟨(i, t, cs), bk_mem h, rfl⟩
  · simp [Hp.one, bobj]
  · simpa using hv
theorem RdV.boxL {L : List Hp} {i t : Nat} {cs : List SV} {xs : List Value} (h : bk bx i = some (t, cs)) (hx : SV.dns β cs = xs) : RdV (bhs β bx ++ L) ⟨β.getD i 0, 0, none⟩ xs := hx ▸ RdV.box h
end
variable {u w : World} {L B : List Hp} {b : Nat} {M : Hp}
abbrev AnyM (v : Value) : Prop := ∃ pr pi gr gi, v = .agg #[.complex .f32 pr pi, .complex .f32 gr gi] ∧ (pr < 2 ^ 32 ∧ pi < 2 ^ 32) ∧ gr < 2 ^ 32 ∧ gi < 2 ^ 32
def A56 (u : World) (L B : List Hp) (b : Nat) (a : Act) (w : World) : Prop := ∃ β M z0 z1 pr pi gr gi, Cur B b M ∧ ((pr < 2 ^ 32 ∧ pi < 2 ^ 32) ∧ gr < 2 ^ 32 ∧ gi < 2 ^ 32) ∧
  St β u w a 40 [(0, .v (.pointer (some ⟨b, 0, none⟩))), (2, .p 0 0), (3, .p 1 0)] [(1, 98, [.v (.complex .f32 pr pi), .v (.complex .f32 gr gi)]), (0, 98, [z0, z1])] (M :: L)
theorem c56 (H : SH u w (M :: L)) (hC : Cur B b M) (hs : B ⊆ L) : Ret Try.prog 56 [.pointer (some ⟨b, 0, none⟩)] w (Drw B b u L AnyM) := by
  refine ent Try.func56 rfl H 40 rfl [(0, .v (.pointer (some ⟨b, 0, none⟩)))] rfl rfl fun a S => ?_
  refine xr hT S rfl false [] 200 rfl (by (repeat' apply And.intro); all_goals first | exact True.intro | with_reducible assumption | decide +kernel | with_reducible exact Option.isSome_some | omega | with_reducible exact decide_eq_true (by omega) | with_reducible exact decide_eq_false (by omega) | with_reducible exact beq_iff_eq.2 (by omega) | with_reducible exact beq_eq_false_iff_ne.2 (by omega) | skip) fun β a w hβ hn S => ?_
  refine xD S rfl rfl rfl rfl rfl rfl en82 hs (fun H hs => c82 H hC hs) fun M v a w hC ⟨pr, pi, hv, hpr, hpi⟩ S => ?_
  subst hv
  refine xr hT S hn false [] 200 rfl (by (repeat' apply And.intro); all_goals first | exact True.intro | with_reducible assumption | decide +kernel | with_reducible exact Option.isSome_some | omega | with_reducible exact decide_eq_true (by omega) | with_reducible exact decide_eq_false (by omega) | with_reducible exact beq_iff_eq.2 (by omega) | with_reducible exact beq_eq_false_iff_ne.2 (by omega) | skip) fun β a w hβ hn S => ?_
  refine xD S rfl rfl rfl rfl rfl rfl en29 hs (fun H hs => c29 (n := 65) H hC hs (by decide) (by decide)) fun M v a w hC ⟨y, hv, hy0, hy1⟩ S => ?_
  subst hv
  obtain ⟨r, hr, hm⟩ := Mf.quo (Mf.ofInt .f32 (n := y - 32) (e := 6) (by omega) (by decide)) ge_8s (by decide)
  refine xr hT S hn true [] 200 rfl ?_ fun β a w hβ hn S => ?_
  · (repeat' apply And.intro); all_goals first | exact True.intro | with_reducible assumption | decide +kernel | with_reducible exact Option.isSome_some | omega | with_reducible exact decide_eq_true (by omega) | with_reducible exact decide_eq_false (by omega) | with_reducible exact beq_iff_eq.2 (by omega) | with_reducible exact beq_eq_false_iff_ne.2 (by omega) | skip
    exact Option.isSome_iff_exists.2 ⟨r, hr⟩
  refine xD S rfl rfl rfl rfl rfl rfl en29 hs (fun H hs => c29 (n := 65) H hC hs (by decide) (by decide)) fun M v a w hC ⟨z, hv, hz0, hz1⟩ S => ?_
  subst hv
  obtain ⟨t, ht, hn2⟩ := Mf.quo (Mf.ofInt .f32 (n := z - 32) (e := 6) (by omega) (by decide)) ge_8s (by decide)
  refine xr hT S hn true [] 200 rfl ?_ fun β a w hβ hn S => ?_
  · (repeat' apply And.intro); all_goals first | exact True.intro | with_reducible assumption | decide +kernel | with_reducible exact Option.isSome_some | omega | with_reducible exact decide_eq_true (by omega) | with_reducible exact decide_eq_false (by omega) | with_reducible exact beq_iff_eq.2 (by omega) | with_reducible exact beq_eq_false_iff_ne.2 (by omega) | skip
    exact Option.isSome_iff_exists.2 ⟨t, ht⟩
  refine xD S rfl rfl rfl rfl rfl rfl en83 hs (fun H hs => c83 (n := 3) H hC hs (by decide) (by decide)) fun M v a w hC ⟨x, hv⟩ S => ?_
  subst hv
  refine xr hT S hn true [] 1 rfl (by (repeat' apply And.intro); all_goals first | exact True.intro | with_reducible assumption | decide +kernel | with_reducible exact Option.isSome_some | omega | with_reducible exact decide_eq_true (by omega) | with_reducible exact decide_eq_false (by omega) | with_reducible exact beq_iff_eq.2 (by omega) | with_reducible exact beq_eq_false_iff_ne.2 (by omega) | skip) fun β a w hβ hn S => ?_
  refine xcut (A56 u L B b) ?_ fun a w ⟨β, M, z0, z1, pr, pi, gr, gi, hC, hl, S⟩ => ?_
  · have e1 : fop .quo .f32 (FloatKind.f32.nearest (y - 32)) 1090519040 < 2 ^ 32 := by
      have := fop_of hr
      rw [show fop .quo .f32 (FloatKind.f32.nearest (y - 32)) 1090519040 = r from this]; exact hm.2
    have e2 : fop .quo .f32 (FloatKind.f32.nearest (z - 32)) 1090519040 < 2 ^ 32 := by
      have := fop_of ht
      rw [show fop .quo .f32 (FloatKind.f32.nearest (z - 32)) 1090519040 = t from this]; exact hn2.2
    cases x
    · refine xr hT S hn true [.b false] 200 rfl (by (repeat' apply And.intro); all_goals first | exact True.intro | with_reducible assumption | decide +kernel | with_reducible exact Option.isSome_some | omega | with_reducible exact decide_eq_true (by omega) | with_reducible exact decide_eq_false (by omega) | with_reducible exact beq_iff_eq.2 (by omega) | with_reducible exact beq_eq_false_iff_ne.2 (by omega) | skip) fun β a w hβ hn S => ?_
      exact xj ⟨β, M, _, _, pr, pi, _, _, hC, ⟨⟨hpr, hpi⟩, e1, e2⟩, S.keep [0, 2, 3] rfl⟩
    · refine xr hT S hn true [.b true] 200 rfl (by (repeat' apply And.intro); all_goals first | exact True.intro | with_reducible assumption | decide +kernel | with_reducible exact Option.isSome_some | omega | with_reducible exact decide_eq_true (by omega) | with_reducible exact decide_eq_false (by omega) | with_reducible exact beq_iff_eq.2 (by omega) | with_reducible exact beq_eq_false_iff_ne.2 (by omega) | skip) fun β a w hβ hn S => ?_
      have wb := S.wb
      refine xmix hT 3 8 8 [] _ L (pre := []) (tp := [M]) rfl rfl S (by decide +kernel) false [] rfl (by (repeat' apply And.intro); all_goals first | exact True.intro | with_reducible assumption | decide +kernel | with_reducible exact Option.isSome_some | omega | with_reducible exact decide_eq_true (by omega) | with_reducible exact decide_eq_false (by omega) | with_reducible exact beq_iff_eq.2 (by omega) | with_reducible exact beq_eq_false_iff_ne.2 (by omega) | skip) fun a w S => ?_
      refine xr hT S hn true [] 200 rfl (by (repeat' apply And.intro); all_goals first | exact True.intro | with_reducible assumption | decide +kernel | with_reducible exact Option.isSome_some | omega | with_reducible exact decide_eq_true (by omega) | with_reducible exact decide_eq_false (by omega) | with_reducible exact beq_iff_eq.2 (by omega) | with_reducible exact beq_eq_false_iff_ne.2 (by omega) | skip) fun β2 a w hβ hn S => ?_
      refine xas S hβ wb (pre := [_]) (tp := [M]) rfl rfl ?_
      refine xr hT S hn true [] 200 rfl (by (repeat' apply And.intro); all_goals first | exact True.intro | with_reducible assumption | decide +kernel | with_reducible exact Option.isSome_some | omega | with_reducible exact decide_eq_true (by omega) | with_reducible exact decide_eq_false (by omega) | with_reducible exact beq_iff_eq.2 (by omega) | with_reducible exact beq_eq_false_iff_ne.2 (by omega) | skip) fun β3 a w hβ' hn S => ?_
      have hp := hβ.trans hβ'
      refine xD S rfl rfl rfl rfl rfl rfl en30 hs (fun H hs => c30 (xs := [999, 990, 500, 1000]) H hC hs rfl (by decide) (by decide) (by exact RdV.boxL rfl rfl)) fun M v a w hC ⟨q, hq, hv⟩ S => ?_
      subst hv
      have hq : 1 ≤ q ∧ q ≤ 1000 := by simp at hq; omega
      refine xr hT S hn true [] 1 rfl (by (repeat' apply And.intro); all_goals first | exact True.intro | with_reducible assumption | decide +kernel | with_reducible exact Option.isSome_some | omega | with_reducible exact decide_eq_true (by omega) | with_reducible exact decide_eq_false (by omega) | with_reducible exact beq_iff_eq.2 (by omega) | with_reducible exact beq_eq_false_iff_ne.2 (by omega) | skip) fun β a w hβ hn S => ?_
      have hp := hp.trans hβ
      refine xas S hp wb (pre := [_]) (tp := [M]) rfl rfl ?_
      refine xr hT S hn true [] 200 rfl (by (repeat' apply And.intro); all_goals first | exact True.intro | with_reducible assumption | decide +kernel | with_reducible exact Option.isSome_some | omega | with_reducible exact decide_eq_true (by omega) | with_reducible exact decide_eq_false (by omega) | with_reducible exact beq_iff_eq.2 (by omega) | with_reducible exact beq_eq_false_iff_ne.2 (by omega) | skip) fun β a w hβ hn S => ?_
      have hp := hp.trans hβ
      refine xas S hp wb (pre := [_]) (tp := [M]) rfl rfl ?_
      obtain ⟨r3, hr3, hm3⟩ := Mf.quo (Mf.ofInt .f32 (n := q) (e := 10) (by omega) (by decide)) ge_1000s (by decide)
      refine xr hT S hn true [] 200 rfl ?_ fun β a w hβ hn S => ?_
      · (repeat' apply And.intro); all_goals first | exact True.intro | with_reducible assumption | decide +kernel | with_reducible exact Option.isSome_some | omega | with_reducible exact decide_eq_true (by omega) | with_reducible exact decide_eq_false (by omega) | with_reducible exact beq_iff_eq.2 (by omega) | with_reducible exact beq_eq_false_iff_ne.2 (by omega) | skip
        exact Option.isSome_iff_exists.2 ⟨r3, hr3⟩
      have hp := hp.trans hβ
      refine xas S hp wb (pre := [_]) (tp := [M]) rfl rfl ?_
      refine xP S rfl rfl rfl rfl rfl rfl en84 (fun H => c84 H) fun v a w ⟨p5, q5, hv, hp5, hq5⟩ S => ?_
      subst hv
      refine xr hT S hn true [] 1 rfl (by (repeat' apply And.intro); all_goals first | exact True.intro | with_reducible assumption | decide +kernel | with_reducible exact Option.isSome_some | omega | with_reducible exact decide_eq_true (by omega) | with_reducible exact decide_eq_false (by omega) | with_reducible exact beq_iff_eq.2 (by omega) | with_reducible exact beq_eq_false_iff_ne.2 (by omega) | skip) fun β a w hβ hn S => ?_
      have hp := hp.trans hβ
      refine xas S hp wb (pre := [_]) (tp := [M]) rfl rfl ?_
      refine xr hT S hn true [] 200 rfl (by (repeat' apply And.intro); all_goals first | exact True.intro | with_reducible assumption | decide +kernel | with_reducible exact Option.isSome_some | omega | with_reducible exact decide_eq_true (by omega) | with_reducible exact decide_eq_false (by omega) | with_reducible exact beq_iff_eq.2 (by omega) | with_reducible exact beq_eq_false_iff_ne.2 (by omega) | skip) fun β a w hβ hn S => ?_
      exact xj ⟨β, M, _, _, p5, q5, _, _, hC, ⟨⟨hp5, hq5⟩, e1, e2⟩, (S.keep [0, 2, 3] rfl).dropb⟩
  · refine xr hT S rfl true [] 200 rfl (by (repeat' apply And.intro); all_goals first | exact True.intro | with_reducible assumption | decide +kernel | with_reducible exact Option.isSome_some | omega | with_reducible exact decide_eq_true (by omega) | with_reducible exact decide_eq_false (by omega) | with_reducible exact beq_iff_eq.2 (by omega) | with_reducible exact beq_eq_false_iff_ne.2 (by omega) | skip) fun β a w hβ hn S => ?_
    refine xD S rfl rfl rfl rfl rfl rfl en83 hs (fun H hs => c83 (n := 25) H hC hs (by decide) (by decide)) fun M v a w hC ⟨x, hv⟩ S => ?_
    subst hv
    refine xr hT S hn true [] 1 rfl (by (repeat' apply And.intro); all_goals first | exact True.intro | with_reducible assumption | decide +kernel | with_reducible exact Option.isSome_some | omega | with_reducible exact decide_eq_true (by omega) | with_reducible exact decide_eq_false (by omega) | with_reducible exact beq_iff_eq.2 (by omega) | with_reducible exact beq_eq_false_iff_ne.2 (by omega) | skip) fun β a w hβ hn S => ?_
    refine xcut (A56 u L B b) ?_ fun a w ⟨β, M, z0, z1, pr, pi, gr, gi, hC, hl, S⟩ => ?_
    · cases x
      · refine xr hT S hn true [.b false] 200 rfl (by (repeat' apply And.intro); all_goals first | exact True.intro | with_reducible assumption | decide +kernel | with_reducible exact Option.isSome_some | omega | with_reducible exact decide_eq_true (by omega) | with_reducible exact decide_eq_false (by omega) | with_reducible exact beq_iff_eq.2 (by omega) | with_reducible exact beq_eq_false_iff_ne.2 (by omega) | skip) fun β a w hβ hn S => ?_
        exact xj ⟨β, M, _, _, pr, pi, _, _, hC, hl, S.keep [0, 2, 3] rfl⟩
      · refine xr hT S hn true [.b true] 200 rfl (by (repeat' apply And.intro); all_goals first | exact True.intro | with_reducible assumption | decide +kernel | with_reducible exact Option.isSome_some | omega | with_reducible exact decide_eq_true (by omega) | with_reducible exact decide_eq_false (by omega) | with_reducible exact beq_iff_eq.2 (by omega) | with_reducible exact beq_eq_false_iff_ne.2 (by omega) | skip) fun β a w hβ hn S => ?_
        refine xD S rfl rfl rfl rfl rfl rfl en85 hs (fun H hs => c85 H hC hs) fun M v a w hC ⟨p5, q5, hv, hp5, hq5⟩ S => ?_
        subst hv
        refine xr hT S hn true [] 200 rfl (by (repeat' apply And.intro); all_goals first | exact True.intro | with_reducible assumption | decide +kernel | with_reducible exact Option.isSome_some | omega | with_reducible exact decide_eq_true (by omega) | with_reducible exact decide_eq_false (by omega) | with_reducible exact beq_iff_eq.2 (by omega) | with_reducible exact beq_eq_false_iff_ne.2 (by omega) | skip) fun β a w hβ hn S => ?_
        exact xj ⟨β, M, _, _, p5, q5, _, _, hC, ⟨⟨hp5, hq5⟩, hl.2⟩, S.keep [0, 2, 3] rfl⟩
    refine xr hT S rfl true [] 200 rfl (by (repeat' apply And.intro); all_goals first | exact True.intro | with_reducible assumption | decide +kernel | with_reducible exact Option.isSome_some | omega | with_reducible exact decide_eq_true (by omega) | with_reducible exact decide_eq_false (by omega) | with_reducible exact beq_iff_eq.2 (by omega) | with_reducible exact beq_eq_false_iff_ne.2 (by omega) | skip) fun β a w hβ hn S => ?_
    refine xD S rfl rfl rfl rfl rfl rfl en83 hs (fun H hs => c83 (n := 25) H hC hs (by decide) (by decide)) fun M v a w hC ⟨x, hv⟩ S => ?_
    subst hv
    cases x
    · refine xr hT S hn true [.b false] 200 rfl (by (repeat' apply And.intro); all_goals first | exact True.intro | with_reducible assumption | decide +kernel | with_reducible exact Option.isSome_some | omega | with_reducible exact decide_eq_true (by omega) | with_reducible exact decide_eq_false (by omega) | with_reducible exact beq_iff_eq.2 (by omega) | with_reducible exact beq_eq_false_iff_ne.2 (by omega) | skip) fun β a w hβ hn S => ?_
      exact xret hT S rfl ⟨_, rfl, _, hC, S.tl', _, _, _, _, rfl, hl⟩
    · refine xr hT S hn true [.b true] 200 rfl (by (repeat' apply And.intro); all_goals first | exact True.intro | with_reducible assumption | decide +kernel | with_reducible exact Option.isSome_some | omega | with_reducible exact decide_eq_true (by omega) | with_reducible exact decide_eq_false (by omega) | with_reducible exact beq_iff_eq.2 (by omega) | with_reducible exact beq_eq_false_iff_ne.2 (by omega) | skip) fun β a w hβ hn S => ?_
      refine xD S rfl rfl rfl rfl rfl rfl en85 hs (fun H hs => c85 H hC hs) fun M v a w hC ⟨p5, q5, hv, hp5, hq5⟩ S => ?_
      subst hv
      refine xr hT S hn true [] 200 rfl (by (repeat' apply And.intro); all_goals first | exact True.intro | with_reducible assumption | decide +kernel | with_reducible exact Option.isSome_some | omega | with_reducible exact decide_eq_true (by omega) | with_reducible exact decide_eq_false (by omega) | with_reducible exact beq_iff_eq.2 (by omega) | with_reducible exact beq_eq_false_iff_ne.2 (by omega) | skip) fun β a w hβ hn S => ?_
      exact xret hT S rfl ⟨_, rfl, _, hC, S.tl', _, _, _, _, rfl, hl.1, hp5, hq5⟩
end Go.SX
