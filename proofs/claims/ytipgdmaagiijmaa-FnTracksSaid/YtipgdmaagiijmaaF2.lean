import Derived.Test.YtipgdmaagiijmaaF1
import Derived.Test.YtipgdmaagiijmaaXn
import Derived.Test.YtipgdmaagiijmaaN1
set_option maxRecDepth 100000
set_option linter.unusedVariables false
set_option linter.unusedSectionVars false
namespace Go.SX
open Go.Proofs
variable {u w : World} {L B : List Hp} {b : Nat} {M : Hp}

theorem c83 {n : Int} (H : SH u w (M :: L)) (hC : Cur B b M) (hs : B ⊆ L) (hn : 0 < n) (hn' : n ≤ 4294967296) : Ret Try.prog 83 [.pointer (some ⟨b, 0, none⟩), .int .i64 n] w (Drw B b u L fun v => ∃ x, v = .bool x) := by
  refine ent Try.func83 rfl H 9 rfl [(0, .v (.pointer (some ⟨b, 0, none⟩))), (1, .v (.int .i64 n))] rfl rfl fun a S => ?_
  refine xr hT S rfl false [] 200 rfl (by (repeat' apply And.intro); all_goals first | exact True.intro | with_reducible assumption | decide +kernel | with_reducible exact Option.isSome_some | omega | with_reducible exact decide_eq_true (by omega) | with_reducible exact decide_eq_false (by omega) | with_reducible exact beq_iff_eq.2 (by omega) | with_reducible exact beq_eq_false_iff_ne.2 (by omega) | skip) fun β a w hβ hn S => ?_
  refine xD S rfl rfl rfl rfl rfl rfl en29 hs (fun H hs => c29 H hC hs ‹_› ‹_›) fun M v a w hC ⟨x, hv, hx0, hx1⟩ S => ?_
  subst hv
  refine xr hT S hn true [] 200 rfl (by (repeat' apply And.intro); all_goals first | exact True.intro | with_reducible assumption | decide +kernel | with_reducible exact Option.isSome_some | omega | with_reducible exact decide_eq_true (by omega) | with_reducible exact decide_eq_false (by omega) | with_reducible exact beq_iff_eq.2 (by omega) | with_reducible exact beq_eq_false_iff_ne.2 (by omega) | skip) fun β a w hβ hn S => ?_
  exact xret hT S rfl ⟨_, rfl, _, hC, S.sh, _, rfl⟩

theorem c30 {A : Addr} {n c : Nat} {xs : List Int} (H : SH u w (M :: L)) (hC : Cur B b M) (hs : B ⊆ L) (hn : xs.length = n) (h0 : 0 < n) (h1 : n ≤ 4294967296) (hx : RdV L A (xs.map (.int .i64))) :
    Ret Try.prog 30 [.pointer (some ⟨b, 0, none⟩), .slice (some A) n c] w (Drw B b u L fun v => ∃ x ∈ xs, v = .int .i64 x) := by
  refine ent Try.func30 rfl H 12 rfl [(0, .v (.pointer (some ⟨b, 0, none⟩))), (1, .v (.slice (some A) n c))] rfl rfl fun a S => ?_
  refine xr hT S rfl false [] 200 rfl (by (repeat' apply And.intro); all_goals first | exact True.intro | with_reducible assumption | decide +kernel | with_reducible exact Option.isSome_some | omega | with_reducible exact decide_eq_true (by omega) | with_reducible exact decide_eq_false (by omega) | with_reducible exact beq_iff_eq.2 (by omega) | with_reducible exact beq_eq_false_iff_ne.2 (by omega) | skip) fun β a w hβ hn S => ?_
  refine xD S rfl rfl rfl rfl rfl rfl en29 hs (fun H hs => c29 (n := n) H hC hs (by omega) (by omega)) fun M v a w hC ⟨x, hv, hx0, hx1⟩ S => ?_
  subst hv
  have hlt : x.toNat < xs.length := by omega
  refine xr hT S hn true [.v [.int .i64 xs[x.toNat]]] 200 rfl ?_ fun β a w hβ hn S => ?_
  · (repeat' apply And.intro); all_goals first | exact True.intro | with_reducible assumption | decide +kernel | with_reducible exact Option.isSome_some | omega | with_reducible exact decide_eq_true (by omega) | with_reducible exact decide_eq_false (by omega) | with_reducible exact beq_iff_eq.2 (by omega) | with_reducible exact beq_eq_false_iff_ne.2 (by omega) | skip
    · refine RdV.one' ((hx x.toNat _ (by simp [hlt])).mono (List.subset_cons_self _ _)) (add_mul_one _ _)
  exact xret hT S rfl ⟨_, rfl, _, hC, S.sh, _, List.getElem_mem _, rfl⟩

theorem fop_of {op : BinOp} {k : FloatKind} {x y r : Nat} (h : floatBits op k x y = some r) : fop op k x y = r := by simp [fop, h]
theorem ge_16 : Ge1 .f64 4625196817309499392 := ⟨_, _, _, rfl, by decide +kernel, by decide +kernel⟩
theorem ge_m : Ge1 .f64 4697254411347427328 := ⟨_, _, _, rfl, by decide +kernel, by decide +kernel⟩
theorem ge_3 : Ge1 .f64 4613937818241073152 := ⟨_, _, _, rfl, by decide +kernel, by decide +kernel⟩
theorem c58 (H : SH u w (M :: L)) (hC : Cur B b M) (hs : B ⊆ L) : Ret Try.prog 58 [.pointer (some ⟨b, 0, none⟩)] w (Drw B b u L fun v => ∃ r, v = .float .f64 r ∧ Mf .f64 20 r) := by
  refine ent Try.func58 rfl H 30 rfl [(0, .v (.pointer (some ⟨b, 0, none⟩)))] rfl rfl fun a S => ?_
  refine xr hT S rfl false [] 200 rfl (by (repeat' apply And.intro); all_goals first | exact True.intro | with_reducible assumption | decide +kernel | with_reducible exact Option.isSome_some | omega | with_reducible exact decide_eq_true (by omega) | with_reducible exact decide_eq_false (by omega) | with_reducible exact beq_iff_eq.2 (by omega) | with_reducible exact beq_eq_false_iff_ne.2 (by omega) | skip) fun β a w hβ hn S => ?_
  refine xD S rfl rfl rfl rfl rfl rfl en29 hs (fun H hs => c29 (n := 4) H hC hs (by decide) (by decide)) fun M v a w hC ⟨x, hv, hx0, hx1⟩ S => ?_
  subst hv
  obtain h | h | h | h : x = 0 ∨ x = 1 ∨ x = 2 ∨ x = 3 := by omega
  · refine xr hT S hn true [.b true] 200 rfl (by (repeat' apply And.intro); all_goals first | exact True.intro | with_reducible assumption | decide +kernel | with_reducible exact Option.isSome_some | omega | with_reducible exact decide_eq_true (by omega) | with_reducible exact decide_eq_false (by omega) | with_reducible exact beq_iff_eq.2 (by omega) | with_reducible exact beq_eq_false_iff_ne.2 (by omega) | skip) fun β a w hβ hn S => ?_
    refine xD S rfl rfl rfl rfl rfl rfl en29 hs (fun H hs => c29 (n := 65) H hC hs (by decide) (by decide)) fun M v a w hC ⟨y, hv, hy0, hy1⟩ S => ?_
    subst hv
    obtain ⟨r, hr, hm⟩ := Mf.quo (Mf.ofInt .f64 (n := y - 32) (e := 20) (by omega) (by decide)) ge_16 (by decide)
    refine xr hT S hn true [] 200 rfl ?_ fun β a w hβ hn S => ?_
    · (repeat' apply And.intro); all_goals first | exact True.intro | with_reducible assumption | decide +kernel | with_reducible exact Option.isSome_some | omega | with_reducible exact decide_eq_true (by omega) | with_reducible exact decide_eq_false (by omega) | with_reducible exact beq_iff_eq.2 (by omega) | with_reducible exact beq_eq_false_iff_ne.2 (by omega) | skip
      exact Option.isSome_iff_exists.2 ⟨r, hr⟩
    exact xret hT S rfl ⟨_, rfl, _, hC, S.sh, r, by rw [← fop_of hr]; rfl, hm⟩
  · refine xr hT S hn true [.b false, .b true] 200 rfl (by (repeat' apply And.intro); all_goals first | exact True.intro | with_reducible assumption | decide +kernel | with_reducible exact Option.isSome_some | omega | with_reducible exact decide_eq_true (by omega) | with_reducible exact decide_eq_false (by omega) | with_reducible exact beq_iff_eq.2 (by omega) | with_reducible exact beq_eq_false_iff_ne.2 (by omega) | skip) fun β a w hβ hn S => ?_
    refine xD S rfl rfl rfl rfl rfl rfl en29 hs (fun H hs => c29 (n := 2000001) H hC hs (by decide) (by decide)) fun M v a w hC ⟨y, hv, hy0, hy1⟩ S => ?_
    subst hv
    obtain ⟨r, hr, hm⟩ := Mf.quo (Mf.ofInt .f64 (n := y - 1000000) (e := 20) (by omega) (by decide)) ge_m (by decide)
    refine xr hT S hn true [] 200 rfl ?_ fun β a w hβ hn S => ?_
    · (repeat' apply And.intro); all_goals first | exact True.intro | with_reducible assumption | decide +kernel | with_reducible exact Option.isSome_some | omega | with_reducible exact decide_eq_true (by omega) | with_reducible exact decide_eq_false (by omega) | with_reducible exact beq_iff_eq.2 (by omega) | with_reducible exact beq_eq_false_iff_ne.2 (by omega) | skip
      exact Option.isSome_iff_exists.2 ⟨r, hr⟩
    exact xret hT S rfl ⟨_, rfl, _, hC, S.sh, r, by rw [← fop_of hr]; rfl, hm⟩
  · refine xr hT S hn true [.b false, .b false, .b true] 200 rfl (by (repeat' apply And.intro); all_goals first | exact True.intro | with_reducible assumption | decide +kernel | with_reducible exact Option.isSome_some | omega | with_reducible exact decide_eq_true (by omega) | with_reducible exact decide_eq_false (by omega) | with_reducible exact beq_iff_eq.2 (by omega) | with_reducible exact beq_eq_false_iff_ne.2 (by omega) | skip) fun β a w hβ hn S => ?_
    refine xD S rfl rfl rfl rfl rfl rfl en29 hs (fun H hs => c29 (n := 2000001) H hC hs (by decide) (by decide)) fun M v a w hC ⟨y, hv, hy0, hy1⟩ S => ?_
    subst hv
    obtain ⟨r, hr, hm⟩ := Mf.quo (Mf.ofInt .f64 (n := y - 1000000) (e := 20) (by omega) (by decide)) ge_3 (by decide)
    refine xr hT S hn true [] 200 rfl ?_ fun β a w hβ hn S => ?_
    · (repeat' apply And.intro); all_goals first | exact True.intro | with_reducible assumption | decide +kernel | with_reducible exact Option.isSome_some | omega | with_reducible exact decide_eq_true (by omega) | with_reducible exact decide_eq_false (by omega) | with_reducible exact beq_iff_eq.2 (by omega) | with_reducible exact beq_eq_false_iff_ne.2 (by omega) | skip
      exact Option.isSome_iff_exists.2 ⟨r, hr⟩
    exact xret hT S rfl ⟨_, rfl, _, hC, S.sh, r, by rw [← fop_of hr]; rfl, hm⟩
  · refine xr hT S hn true [.b false, .b false, .b false] 200 rfl (by (repeat' apply And.intro); all_goals first | exact True.intro | with_reducible assumption | decide +kernel | with_reducible exact Option.isSome_some | omega | with_reducible exact decide_eq_true (by omega) | with_reducible exact decide_eq_false (by omega) | with_reducible exact beq_iff_eq.2 (by omega) | with_reducible exact beq_eq_false_iff_ne.2 (by omega) | skip) fun β a w hβ hn S => ?_
    refine xD S rfl rfl rfl rfl rfl rfl en29 hs (fun H hs => c29 (n := 5) H hC hs (by decide) (by decide)) fun M v a w hC ⟨y, hv, hy0, hy1⟩ S => ?_
    subst hv
    have hm := Mf.ofInt .f64 (n := y - 2) (e := 20) (by omega) (by decide)
    refine xr hT S hn true [] 200 rfl (by (repeat' apply And.intro); all_goals first | exact True.intro | with_reducible assumption | decide +kernel | with_reducible exact Option.isSome_some | omega | with_reducible exact decide_eq_true (by omega) | with_reducible exact decide_eq_false (by omega) | with_reducible exact beq_iff_eq.2 (by omega) | with_reducible exact beq_eq_false_iff_ne.2 (by omega) | skip) fun β a w hβ hn S => ?_
    exact xret hT S rfl ⟨_, rfl, _, hC, S.sh, _, rfl, hm⟩
end Go.SX
