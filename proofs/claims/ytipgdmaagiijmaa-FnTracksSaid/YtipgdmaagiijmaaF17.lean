import Derived.Test.YtipgdmaagiijmaaN3
set_option maxRecDepth 100000
set_option linter.unusedVariables false
set_option linter.unusedSectionVars false
namespace Go.SX
open Go.Proofs
variable {u w : World} {L B : List Hp} {b : Nat} {M : Hp}
abbrev V95 (A : Option Addr) (n c : Nat) : EL := [(0, .v (.slice A n c)), (1, .v (.int .i64 0)), (2, .v (.int .i64 n)), (3, .v (.func (.func 43) #[] #[]))]
def O95 (u : World) (L : List Hp) (A : Option Addr) (n c : Nat) (evs : List Ev) (i : Nat) (a : Act) (w : World) : Prop := ∃ β M cur, β.length = 0 ∧ 1 ≤ i ∧ cur.length = n ∧ Fil cur evs ∧ Srt i cur ∧ Own M 31 6 (.slice A n c) n (List.flatMap Ev.cells cur) ∧
  St β u w a 53 ((8, .v (.int .i64 (i : Int))) :: V95 A n c) [] (M :: L)
def J95 (u : World) (L : List Hp) (A : Option Addr) (n c : Nat) (evs : List Ev) (i : Nat) (j : Nat) (a : Act) (w : World) : Prop := ∃ β M cur, β.length = 0 ∧ j ≤ i ∧ cur.length = n ∧ Fil cur evs ∧ Hole i j cur ∧ Own M 31 6 (.slice A n c) n (List.flatMap Ev.cells cur) ∧
  St β u w a 53 ((9, .v (.int .i64 (j : Int))) :: (8, .v (.int .i64 (i : Int))) :: V95 A n c) [] (M :: L)
theorem c95 {A : Option Addr} {n c : Nat} {evs : List Ev} (H : SH u w (M :: L)) (hn : n ≤ 100) (hO : Own M 31 6 (.slice A n c) n (evs.flatMap Ev.cells)) (hlen : evs.length = n) (hev : ∀ e ∈ evs, 0 ≤ e.at_ ∧ e.at_ ≤ 3000) :
    Ret Try.prog 95 [.slice A n c, .int .i64 0, .int .i64 n, .func (.func 43) #[] #[]] w fun v w' => ∃ M cur, cur.length = n ∧ Fil cur evs ∧ Srt n cur ∧ Own M 31 6 (.slice A n c) n (cur.flatMap Ev.cells) ∧ SH u w' (M :: L) := by
  refine ent Try.func95 rfl H 53 rfl (V95 A n c) rfl rfl fun a S => ?_
  refine xr hT S rfl true [] 200 rfl (by (repeat' apply And.intro); all_goals first | exact True.intro | with_reducible assumption | decide +kernel | with_reducible exact Option.isSome_some | omega | with_reducible exact decide_eq_true (by omega) | with_reducible exact decide_eq_false (by omega) | with_reducible exact beq_iff_eq.2 (by omega) | with_reducible exact beq_eq_false_iff_ne.2 (by omega) | skip) fun β a w hβ hl S => ?_
  refine xloop (O95 u L A n c evs) (fun i => n + 1 - i) 1 ⟨β, M, evs, hl, Nat.le_refl _, hlen, fun _ => rfl, fun p q e f h1 h2 => absurd h2 (by omega), hO, S.keep [8, 0, 1, 2, 3] rfl⟩ fun i a w ⟨β, M, cur, hl, hi1, hlen, hF, hS, hO, S⟩ => ?_
  by_cases hin : i < n
  · refine xr hT S hl true [.b true] 200 rfl (by (repeat' apply And.intro); all_goals first | exact True.intro | with_reducible assumption | decide +kernel | with_reducible exact Option.isSome_some | omega | with_reducible exact decide_eq_true (by omega) | with_reducible exact decide_eq_false (by omega) | with_reducible exact beq_iff_eq.2 (by omega) | with_reducible exact beq_eq_false_iff_ne.2 (by omega) | skip) fun β a w hβ hl S => ?_
    refine xloop (J95 u L A n c evs i) id i ⟨β, M, cur, hl, Nat.le_refl _, hlen, hF, hS.hole, hO, S.keep [9, 8, 0, 1, 2, 3] rfl⟩ fun j a w ⟨β, M, cur, hl, hji, hlen, hF, hH, hO, S⟩ => ?_
    have ei : (i : Int) + 1 = ((i + 1 : Nat) : Int) := by omega
    by_cases hj0 : j = 0
    · subst hj0
      refine xr hT S hl true [.b false, .b false] 300 rfl (by (repeat' apply And.intro); all_goals first | exact True.intro | with_reducible assumption | decide +kernel | with_reducible exact Option.isSome_some | omega | with_reducible exact decide_eq_true (by omega) | with_reducible exact decide_eq_false (by omega) | with_reducible exact beq_iff_eq.2 (by omega) | with_reducible exact beq_eq_false_iff_ne.2 (by omega) | skip) fun β a w hβ hl S => ?_
      rw [ei] at S
      exact xj ⟨i + 1, ⟨β, M, cur, hl, by omega, hlen, hF, hH.zero, hO, S.keep [8, 0, 1, 2, 3] rfl⟩, by omega⟩
    · have hjn : j < cur.length := by omega
      obtain ⟨g, c', hv⟩ := hO.pos (by omega)
      obtain ⟨rfl, rfl⟩ : A = some ⟨g, 0, none⟩ ∧ c = c' := by cases hv; exact ⟨rfl, rfl⟩
      have hcells : RdV (M :: L) ⟨g, 0, none⟩ (cur.flatMap Ev.cells) := hO.cells rfl List.mem_cons_self
      have hr1 := hcells.elem ev_len hjn
      have hr0 := hcells.elem ev_len (show j - 1 < cur.length by omega)
      have ej : (j : Int) - 1 = ((j - 1 : Nat) : Int) := by omega
      have hm1 := hev _ (hF.mem (List.getElem_mem hjn))
      have hm0 := hev _ (hF.mem (List.getElem_mem (show j - 1 < cur.length by omega)))
      refine xr hT S hl true [] 2 rfl (by (repeat' apply And.intro); all_goals first | exact True.intro | with_reducible assumption | decide +kernel | with_reducible exact Option.isSome_some | omega | with_reducible exact decide_eq_true (by omega) | with_reducible exact decide_eq_false (by omega) | with_reducible exact beq_iff_eq.2 (by omega) | with_reducible exact beq_eq_false_iff_ne.2 (by omega) | skip) fun β a w hβ hl S => ?_
      refine xda hT S (by decide +kernel) fun E => ?_
      refine xqr hT S true [.b true, .v (cur[j]).cells, .v (cur[j - 1]).cells] E rfl ?_ fun a E => ?_
      · (repeat' apply And.intro); all_goals first | exact True.intro | with_reducible assumption | decide +kernel | with_reducible exact Option.isSome_some | omega | with_reducible exact decide_eq_true (by omega) | with_reducible exact decide_eq_false (by omega) | with_reducible exact beq_iff_eq.2 (by omega) | with_reducible exact beq_eq_false_iff_ne.2 (by omega) | skip
        · show RdV (M :: L) (Addr.add ⟨g, 0, none⟩ (Int.toNat ((j : Int) - 1) * 6)) _
          rw [show Int.toNat ((j : Int) - 1) = j - 1 by omega]
          exact hr0
        · show RdV (M :: L) (Addr.add ⟨g, 0, none⟩ (Int.toNat (j : Int) * 6)) _
          rw [Int.toNat_natCast]
          exact hr1
      refine xqc E rfl rfl rfl rfl rfl en43 (fun w H => c43 H hm1 hm0) fun a E => ?_
      refine xqr hT S true [] E rfl (by (repeat' apply And.intro); all_goals first | exact True.intro | with_reducible assumption | decide +kernel | with_reducible exact Option.isSome_some | omega | with_reducible exact decide_eq_true (by omega) | with_reducible exact decide_eq_false (by omega) | with_reducible exact beq_iff_eq.2 (by omega) | with_reducible exact beq_eq_false_iff_ne.2 (by omega) | skip) fun a E => ?_
      refine wpQuiet_nil fun w H => ?_
      have S : St _ _ _ _ _ _ _ _ := ⟨E, H, S.wb⟩
      by_cases hlt : cur[j].at_ < cur[j - 1].at_
      · refine xr hT S hl true [.b true] 4 rfl (by (repeat' apply And.intro); all_goals first | exact True.intro | with_reducible assumption | decide +kernel | with_reducible exact Option.isSome_some | omega | with_reducible exact decide_eq_true (by omega) | with_reducible exact decide_eq_false (by omega) | with_reducible exact beq_iff_eq.2 (by omega) | with_reducible exact beq_eq_false_iff_ne.2 (by omega) | skip) fun β a w hβ hl S => ?_
        refine xmix hT 14 14 16 [2, 3, 4, 10, 11, 12] [] (M :: L) (pre := []) (tp := []) rfl rfl S (by decide +kernel) true [.v (cur[j - 1]).cells, .v (cur[j]).cells] rfl ?_ fun a w S => ?_
        · (repeat' apply And.intro); all_goals first | exact True.intro | with_reducible assumption | decide +kernel | with_reducible exact Option.isSome_some | omega | with_reducible exact decide_eq_true (by omega) | with_reducible exact decide_eq_false (by omega) | with_reducible exact beq_iff_eq.2 (by omega) | with_reducible exact beq_eq_false_iff_ne.2 (by omega) | skip
          · show RdV (M :: L) (Addr.add ⟨g, 0, none⟩ (Int.toNat (j : Int) * 6)) _
            rw [Int.toNat_natCast]
            exact hr1
          · show RdV (M :: L) (Addr.add ⟨g, 0, none⟩ (Int.toNat ((j : Int) - 1) * 6)) _
            rw [show Int.toNat ((j : Int) - 1) = j - 1 by omega]
            exact hr0
        refine xr hT S hl true [] 200 rfl (by (repeat' apply And.intro); all_goals first | exact True.intro | with_reducible assumption | decide +kernel | with_reducible exact Option.isSome_some | omega | with_reducible exact decide_eq_true (by omega) | with_reducible exact decide_eq_false (by omega) | with_reducible exact beq_iff_eq.2 (by omega) | with_reducible exact beq_eq_false_iff_ne.2 (by omega) | skip) fun β a w hβ hl S => ?_
        refine xaw S ?_
        have hlf : (cur.flatMap Ev.cells).length = n * 6 := hO.1
        refine xset hT S rfl rfl rfl rfl rfl (add0 g _) hO rfl rfl rfl (by rw [hlf]; show Int.toNat (j : Int) * 6 + 6 ≤ n * 6; rw [Int.toNat_natCast]; omega) fun M1 a w hO S => ?_
        have hO1 : Own M1 31 6 (.slice (some ⟨g, 0, none⟩) n c) n ((cur.set j cur[j - 1]).flatMap Ev.cells) := by
          rw [← flat_set ev_len hjn]
          simp only [Int.toNat_natCast] at hO
          exact hO
        refine xr hT S hl true [] 1 rfl (by (repeat' apply And.intro); all_goals first | exact True.intro | with_reducible assumption | decide +kernel | with_reducible exact Option.isSome_some | omega | with_reducible exact decide_eq_true (by omega) | with_reducible exact decide_eq_false (by omega) | with_reducible exact beq_iff_eq.2 (by omega) | with_reducible exact beq_eq_false_iff_ne.2 (by omega) | skip) fun β a w hβ hl S => ?_
        refine xaw S ?_
        refine xr hT S hl true [] 1 rfl (by (repeat' apply And.intro); all_goals first | exact True.intro | with_reducible assumption | decide +kernel | with_reducible exact Option.isSome_some | omega | with_reducible exact decide_eq_true (by omega) | with_reducible exact decide_eq_false (by omega) | with_reducible exact beq_iff_eq.2 (by omega) | with_reducible exact beq_eq_false_iff_ne.2 (by omega) | skip) fun β a w hβ hl S => ?_
        have hjn1 : j - 1 < (cur.set j cur[j - 1]).length := by rw [List.length_set]; omega
        have hlf : ((cur.set j cur[j - 1]).flatMap Ev.cells).length = n * 6 := hO1.1
        refine xset hT S rfl rfl rfl rfl rfl (add0 g _) hO1 rfl rfl rfl (by rw [hlf]; show Int.toNat ((j : Int) - 1) * 6 + 6 ≤ n * 6; rw [show Int.toNat ((j : Int) - 1) = j - 1 by omega]; omega) fun M2 a w hO S => ?_
        have hO2 : Own M2 31 6 (.slice (some ⟨g, 0, none⟩) n c) n ((swp cur j).flatMap Ev.cells) := by
          have e : swp cur j = (cur.set j cur[j - 1]).set (j - 1) cur[j] := by
            unfold swp
            rw [List.getElem?_eq_getElem hjn, List.getElem?_eq_getElem (show j - 1 < cur.length by omega)]
          rw [e, ← flat_set ev_len hjn1]
          rw [show Int.toNat ((j : Int) - 1) = j - 1 by omega] at hO
          exact hO
        refine xr hT S hl true [] 200 rfl (by (repeat' apply And.intro); all_goals first | exact True.intro | with_reducible assumption | decide +kernel | with_reducible exact Option.isSome_some | omega | with_reducible exact decide_eq_true (by omega) | with_reducible exact decide_eq_false (by omega) | with_reducible exact beq_iff_eq.2 (by omega) | with_reducible exact beq_eq_false_iff_ne.2 (by omega) | skip) fun β a w hβ hl S => ?_
        rw [ej] at S
        exact xj ⟨j - 1, ⟨β, M2, swp cur j, hl, by omega, by rw [swp_len]; exact hlen, hF.swp (by omega) hjn hlt, hH.swp (by omega) hjn hji hlt, hO2, S.keep [9, 8, 0, 1, 2, 3] rfl⟩, by simp only [id]; omega⟩
      · refine xr hT S hl true [.b false] 300 rfl (by (repeat' apply And.intro); all_goals first | exact True.intro | with_reducible assumption | decide +kernel | with_reducible exact Option.isSome_some | omega | with_reducible exact decide_eq_true (by omega) | with_reducible exact decide_eq_false (by omega) | with_reducible exact beq_iff_eq.2 (by omega) | with_reducible exact beq_eq_false_iff_ne.2 (by omega) | skip) fun β a w hβ hl S => ?_
        rw [ei] at S
        exact xj ⟨i + 1, ⟨β, M, cur, hl, by omega, hlen, hF, hH.done (by omega) hjn hji (by omega), hO, S.keep [8, 0, 1, 2, 3] rfl⟩, by omega⟩
  · refine xr hT S hl true [.b false] 200 rfl (by (repeat' apply And.intro); all_goals first | exact True.intro | with_reducible assumption | decide +kernel | with_reducible exact Option.isSome_some | omega | with_reducible exact decide_eq_true (by omega) | with_reducible exact decide_eq_false (by omega) | with_reducible exact beq_iff_eq.2 (by omega) | with_reducible exact beq_eq_false_iff_ne.2 (by omega) | skip) fun β a w hβ hl S => ?_
    refine xend hT S rfl ⟨_, rfl, M, cur, hlen, hF, fun p q e f h1 h2 => hS p q e f h1 (by omega), hO, S.sh⟩
end Go.SX
