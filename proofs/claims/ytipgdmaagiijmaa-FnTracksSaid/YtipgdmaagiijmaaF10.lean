import Derived.Test.YtipgdmaagiijmaaF9
set_option maxRecDepth 100000
set_option linter.unusedVariables false
set_option linter.unusedSectionVars false
namespace Go.SX
open Go.Proofs
section
variable {β : List Nat} {u w w' : World} {a : Act} {n : Nat} {l : EL} {bx bx' : BL} {tl : List Hp} {o : Oper}
theorem St.retd {New : List Hp} (S : St β u w a n l bx tl) (d : Nat) (v : Value) (H : SH u w' (New ++ (bhs β bx ++ tl))) (hd : dOk n (some d) = true) : St β u w' (a.put (some d) v) n ((d, .v v) :: l) bx (New ++ tl) :=
  S.put (tl' := New ++ tl) (v := v) (H.perm (by rw [← List.append_assoc, ← List.append_assoc]; exact List.perm_append_comm.append_right _)) hd
end
variable {u w : World} {L B : List Hp} {b : Nat} {M : Hp}
theorem c7 {A : Option Addr} {n c : Nat} {most : Int} (H : SH u w L) (hB : Byt B A n) (hs : B ⊆ L) (hn : n ≤ 1048576) (h0 : 0 ≤ most) (h1 : most ≤ 500) : Ret Try.prog 7 [.slice A n c, .int .i64 most] w
    fun v w' => ∃ New s, SH u w' (New ++ L) ∧ RSc New v s ∧ ScOk most s ∧ s.events.length ≤ 13 ∧ EvNz v := by
  refine ent Try.func7 rfl H 11 rfl [(0, .v (.slice A n c)), (1, .v (.int .i64 most))] rfl rfl fun a S => ?_
  refine xr hT S rfl true [] 200 rfl (by (repeat' apply And.intro); all_goals first | exact True.intro | with_reducible assumption | decide +kernel | with_reducible exact Option.isSome_some | omega | with_reducible exact decide_eq_true (by omega) | with_reducible exact decide_eq_false (by omega) | with_reducible exact beq_iff_eq.2 (by omega) | with_reducible exact beq_eq_false_iff_ne.2 (by omega) | with_reducible exact bne_iff_ne.2 (by omega) | with_reducible exact bne_eq_false_iff_eq.2 (by omega) | skip) fun β a w hβ hl S => ?_
  refine xc S rfl rfl rfl rfl rfl en18 (c18 S.sh hB (List.subset_append_of_subset_right _ hs) hn) fun v w ⟨g, M, hv, hC, H⟩ => ?_
  have S := S.retd (New := [M]) 6 v H rfl
  subst hv
  refine xr hT S hl true [] 200 rfl (by (repeat' apply And.intro); all_goals first | exact True.intro | with_reducible assumption | decide +kernel | with_reducible exact Option.isSome_some | omega | with_reducible exact decide_eq_true (by omega) | with_reducible exact decide_eq_false (by omega) | with_reducible exact beq_iff_eq.2 (by omega) | with_reducible exact beq_eq_false_iff_ne.2 (by omega) | with_reducible exact bne_iff_ne.2 (by omega) | with_reducible exact bne_eq_false_iff_eq.2 (by omega) | skip) fun β a w hβ hl S => ?_
  have e : (if (if (500 : Int) < most then 500 else most) > 0 then (if (500 : Int) < most then 500 else most) else 0) = most := by
    rw [if_neg (by omega : ¬ (500 : Int) < most)]
    split <;> omega
  rw [e] at S
  refine xc S rfl rfl rfl rfl rfl en17 (c17 S.sh.front hC (List.subset_append_of_subset_right _ hs) h0 h1) fun v w ⟨M, New, s, hC, H, hR, hO⟩ => ?_
  have S := S.ret1 (New := M :: New) 10 v H rfl
  obtain ⟨A1, cb, E, ce, vs, rfl, hrest⟩ := hR
  refine xr hT S hl true [] 200 rfl (by (repeat' apply And.intro); all_goals first | exact True.intro | with_reducible assumption | decide +kernel | with_reducible exact Option.isSome_some | omega | with_reducible exact decide_eq_true (by omega) | with_reducible exact decide_eq_false (by omega) | with_reducible exact beq_iff_eq.2 (by omega) | with_reducible exact beq_eq_false_iff_ne.2 (by omega) | with_reducible exact bne_iff_ne.2 (by omega) | with_reducible exact bne_eq_false_iff_eq.2 (by omega) | skip) fun β a w hβ hl S => ?_
  exact xret hT S rfl ⟨_, rfl, New, s, S.tl'.sub (List.sublist_cons_self _ _), ⟨A1, cb, E, ce, vs, rfl, hrest⟩, hO⟩
end Go.SX
