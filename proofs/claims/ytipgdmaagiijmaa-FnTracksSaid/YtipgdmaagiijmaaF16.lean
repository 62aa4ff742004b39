import Derived.Test.YtipgdmaagiijmaaF15
set_option maxRecDepth 100000
set_option linter.unusedVariables false
set_option linter.unusedSectionVars false
namespace Go.SX
open Go.Proofs
section
variable {β : List Nat} {u w w' : World} {a : Act} {n : Nat} {l : EL} {bx bx' : BL} {tl : List Hp} {o : Oper}
theorem equalIn_nil {P : Program} {w : World} {t e : TypeId} {d : Nat} (hu : P.underlying t = some (.slice e)) (A : Option Addr) (p q : Nat) : (Op.equalIn (d + 1) t (.slice A p q) (.slice none 0 0)).run P w = .ok A.isNone w := by
  simp only [Op.equalIn, Sem.run_bind, run_underlying hu, Result.andThen_ok]
  cases A <;> rfl
theorem equal_nil {P : Program} {w : World} {t e : TypeId} (hu : P.underlying t = some (.slice e)) (A : Option Addr) (p q : Nat) : (Op.equal t (.slice A p q) (.slice none 0 0)).run P w = .ok A.isNone w := by
  have := @equalIn_nil P w t e 9999 hu A p q
  exact this
/-- a slice against nil -/
theorem xnil {P : Program} {T : TT} (hT : TabOk P T) {R : Exit → Act → World → Prop} {k : List TK} {all rest : List Oper} {d : Nat} {x y : Operand} {t t' e : TypeId} {s1 s2 : Nat} {z1 : Value} {A : Option Addr} {p q : Nat} (S : St β u w a n l bx tl)
    (ho : o.op = .binOp .eql t x y t') (hg : guardV all [] l o = some ([], l, true, True)) (hdst : o.dst = some d) (hd : dOk n (some d) = true) (ht : tk T t = some ⟨s1, s2, z1, .slice e⟩)
    (hx : evo l x = some (.v (.slice A p q))) (hy : evo l y = some (.v (.slice none 0 0)))
    (hk : ∀ a' w', St β u w' a' n ((d, .v (.bool A.isNone)) :: l) bx tl → PQ P R (.r all rest :: k) .normal a' w') : PQ P R (.r all (o :: rest) :: k) .normal a w := by
  refine xval (C := fun v => v = .bool A.isNone) S hg hdst hd ?_ fun v a w hv S => by subst hv; exact hk a w S
  have e1 := (evo_ok S.env hx).1
  have e2 := (evo_ok S.env hy).1
  refine ⟨.bool A.isNone, w, ?_, S.sh, rfl⟩
  simp only [execOp, ho, e1, e2, SV.dn]
  rw [Sem.run_bind, Sem.run_bind, eqGuard_plain _ _ _ _ trivial]
  have := equal_nil (P := P) (w := w) (hT.ok _ _ ht).und A p q
  simp only [Result.andThen_ok, binOp, Sem.run_bind, this, Sem.run_pure]
/-- an empty literal slice is a row of our own -/
theorem St.unbox {i t d : Nat} (S : St β u w a n l ((i, t, []) :: bx) tl) (h : lk l d = some (.s i 0 0)) :
    St β u w a n ((d, .v (.slice (some ⟨β.getD i 0, 0, none⟩) 0 0)) :: l) bx (Hp.one (β.getD i 0) (.cells #[] t (0, 0)) :: tl) :=
  ⟨S.env.refine h rfl trivial, S.sh.back, fun e he => S.wb e (List.mem_cons_of_mem _ he)⟩
theorem Own.empty (g e sz : Nat) : Own (Hp.one g (.cells #[] e (0, 0))) e sz (.slice (some ⟨g, 0, none⟩) 0 0) 0 [] :=
  ⟨by simp, .inr ⟨g, 0, #[], rfl, rfl, Nat.le_refl _, Nat.zero_le _, by simp, by simp⟩⟩
end
variable {u w : World} {L B : List Hp} {b : Nat} {M : Hp}
theorem c43 {e f : Ev} (H : SH u w L) (h1 : 0 ≤ e.at_ ∧ e.at_ ≤ 3000) (h2 : 0 ≤ f.at_ ∧ f.at_ ≤ 3000) : Ret Try.prog 43 [.agg e.cells.toArray, .agg f.cells.toArray] w (Pl u L fun v => v = .int .i64 (e.at_ - f.at_)) := by
  refine ent Try.func43 rfl H 10 rfl [(0, .v (.agg e.cells.toArray)), (1, .v (.agg f.cells.toArray))] rfl rfl fun a S => ?_
  refine xr hT S rfl true [] 200 rfl (by (repeat' apply And.intro); all_goals first | exact True.intro | with_reducible assumption | decide +kernel | with_reducible exact Option.isSome_some | omega | with_reducible exact decide_eq_true (by omega) | with_reducible exact decide_eq_false (by omega) | with_reducible exact beq_iff_eq.2 (by omega) | with_reducible exact beq_eq_false_iff_ne.2 (by omega) | skip) fun β a w hβ hl S => ?_
  exact xret hT S rfl ⟨_, rfl, rfl, S.tl'⟩
theorem c41 {A : Option Addr} {n c : Nat} {evs : List Ev} (H : SH u w L) (hn : n ≤ 100) (hR : Rows L A n 6 (evs.flatMap Ev.cells)) (hlen : evs.length = n) : Ret Try.prog 41 [.slice A n c] w
    fun v w' => ∃ M, Own M 31 6 v n (evs.flatMap Ev.cells) ∧ SH u w' (M :: L) := by
  refine ent Try.func41 rfl H 8 rfl [(0, .v (.slice A n c))] rfl rfl fun a S => ?_
  refine xr hT S rfl true [] 200 rfl (by (repeat' apply And.intro); all_goals first | exact True.intro | with_reducible assumption | decide +kernel | with_reducible exact Option.isSome_some | omega | with_reducible exact decide_eq_true (by omega) | with_reducible exact decide_eq_false (by omega) | with_reducible exact beq_iff_eq.2 (by omega) | with_reducible exact beq_eq_false_iff_ne.2 (by omega) | skip) fun β a w hβ hl S => ?_
  refine xnil hT S rfl rfl rfl rfl rfl rfl rfl fun a w S => ?_
  cases A with
  | none =>
    refine xr hT S hl true [.b true] 200 rfl (by (repeat' apply And.intro); all_goals first | exact True.intro | with_reducible assumption | decide +kernel | with_reducible exact Option.isSome_some | omega | with_reducible exact decide_eq_true (by omega) | with_reducible exact decide_eq_false (by omega) | with_reducible exact beq_iff_eq.2 (by omega) | with_reducible exact beq_eq_false_iff_ne.2 (by omega) | skip) fun β a w hβ hl S => ?_
    have hn0 : n = 0 := by
      rcases Nat.eq_zero_or_pos n with h | h
      · exact h
      · obtain ⟨ad, h⟩ := hR.2.1 h
        cases h
    subst hn0
    have : evs = [] := List.eq_nil_of_length_eq_zero hlen
    subst this
    exact xret hT S rfl ⟨_, rfl, Hp.emp, Own.nil 31 6, S.sh.emp⟩
  | some ad =>
    refine xr hT S hl true [.b false] 200 rfl (by (repeat' apply And.intro); all_goals first | exact True.intro | with_reducible assumption | decide +kernel | with_reducible exact Option.isSome_some | omega | with_reducible exact decide_eq_true (by omega) | with_reducible exact decide_eq_false (by omega) | with_reducible exact beq_iff_eq.2 (by omega) | with_reducible exact beq_eq_false_iff_ne.2 (by omega) | skip; rfl) fun β a w hβ hl S => ?_
    have S := S.unbox (d := 5) rfl
    have hc := hR.2.2 ad rfl
    refine xapp hT S rfl rfl rfl rfl rfl rfl rfl rfl (Own.empty _ 31 6) rfl rfl (fun j v hv => (hc j v hv).run (tl := L) (L := bhs β [] ++ [_]) (by simpa using S.sh)) hR.1 ?_ (by show (0 + n) * 48 ≤ _; omega) (by simp only [maxLen]; omega) fun v' Mb a w hO S => ?_
    · intro v hv
      obtain ⟨e, _, he⟩ := List.mem_flatMap.1 hv
      simp only [Ev.cells, List.mem_cons, List.not_mem_nil, or_false] at he
      rcases he with rfl | rfl | rfl | rfl | rfl | rfl <;> rfl
    refine xr hT S hl true [] 200 rfl (by (repeat' apply And.intro); all_goals first | exact True.intro | with_reducible assumption | decide +kernel | with_reducible exact Option.isSome_some | omega | with_reducible exact decide_eq_true (by omega) | with_reducible exact decide_eq_false (by omega) | with_reducible exact beq_iff_eq.2 (by omega) | with_reducible exact beq_eq_false_iff_ne.2 (by omega) | skip) fun β a w hβ hl S => ?_
    refine xret hT S rfl ⟨_, rfl, Mb, ?_, S.sh⟩
    rw [Nat.zero_add, List.nil_append] at hO
    exact hO
end Go.SX
