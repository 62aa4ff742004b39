import Derived.Test.YtipgdmaagiijmaaG5
set_option maxRecDepth 100000
set_option linter.unusedVariables false
set_option linter.unusedSectionVars false
namespace Go.SX
open Go.Proofs
variable {u w : World} {L B : List Hp} {b : Nat} {M : Hp}
theorem c50 {v : Value} {ms : List Md} (H : SH u w L) (hv : RBod L v ms) (hn : ms.length ≤ 100) : Ret Try.prog 50 [.agg #[v]] w fun r w' => ∃ M A c, r = .agg #[.slice A ms.length c] ∧ Own M 98 2 (.slice A ms.length c) ms.length (ms.flatMap Md.cells) ∧ SH u w' (M :: L) := by
  obtain ⟨A, c, rfl, hR⟩ := hv
  refine ent Try.func50 rfl H 7 rfl [(0, .v (.agg #[.slice A ms.length c]))] rfl rfl fun a S => ?_
  refine xr hT S rfl true [] 200 rfl (by (repeat' apply And.intro); all_goals first | exact True.intro | with_reducible assumption | decide +kernel | with_reducible exact Option.isSome_some | omega | with_reducible exact decide_eq_true (by omega) | with_reducible exact decide_eq_false (by omega) | with_reducible exact beq_iff_eq.2 (by omega) | with_reducible exact beq_eq_false_iff_ne.2 (by omega) | with_reducible exact bne_iff_ne.2 (by omega) | with_reducible exact bne_eq_false_iff_eq.2 (by omega) | skip) fun β a w hβ hl S => ?_
  refine xc S rfl rfl rfl rfl rfl en73 (c73 S.sh hn (hR.mono (List.subset_append_right _ _)) rfl) fun v w ⟨M, hO, H⟩ => ?_
  have S := S.retd (New := [M]) 5 v H rfl
  obtain ⟨A2, c2, rfl, _⟩ := hO.form
  refine xr hT S hl true [] 200 rfl (by (repeat' apply And.intro); all_goals first | exact True.intro | with_reducible assumption | decide +kernel | with_reducible exact Option.isSome_some | omega | with_reducible exact decide_eq_true (by omega) | with_reducible exact decide_eq_false (by omega) | with_reducible exact beq_iff_eq.2 (by omega) | with_reducible exact beq_eq_false_iff_ne.2 (by omega) | with_reducible exact bne_iff_ne.2 (by omega) | with_reducible exact bne_eq_false_iff_eq.2 (by omega) | skip) fun β2 a w hβ2 hl S => ?_
  exact xret hT S rfl ⟨_, rfl, M, A2, c2, rfl, hO, S.tl'⟩
def I26 (u : World) (L : List Hp) (s : Sc) (A : Option Addr) (cb : Nat) (E : Option Addr) (ce : Nat) (i : Nat) (a : Act) (w : World) : Prop := ∃ β Mb Ms Ab cb2 vs2, β.length = 2 ∧ i ≤ s.bodies.length ∧ All2 (RBod Ms) vs2 (List.take i s.bodies) ∧ Own Mb 69 1 (.slice Ab i cb2) i vs2 ∧
  St β u w a 27 [(1, .p 0 0), (2, .p 1 0), (3, .v (.slice Ab i cb2)), (8, .v (.slice A s.bodies.length cb)), (9, .v (.int .i64 s.bodies.length)), (10, .v (.int .i64 (i : Int)))]
    [(1, 27, [.v (.int .i64 0), .v (.int .i64 0), .v (.float .f32 0), .v (.float .f32 0), .v (.slice none 0 0), .v (.slice none 0 0)]), (0, 27, [.v (.int .i64 s.len), .v (.int .i64 s.voices), .v (.float .f32 s.ceil), .v (.float .f32 s.rel), .v (.slice A s.bodies.length cb), .v (.slice E s.events.length ce)])] (Mb :: (Ms ++ L))
theorem c26 {s : Sc} {A E : Option Addr} {cb ce : Nat} {vs : List Value} (H : SH u w L) (hA : All2 (RBod L) vs s.bodies) (hRA : Rows L A s.bodies.length 1 vs) (hRE : Rows L E s.events.length 6 (s.events.flatMap Ev.cells)) (h1 : s.bodies.length ≤ 100) (h2 : s.events.length ≤ 100) (hb : ∀ b ∈ s.bodies, b.length ≤ 100) :
    Ret Try.prog 26 [.agg #[.int .i64 s.len, .int .i64 s.voices, .float .f32 s.ceil, .float .f32 s.rel, .slice A s.bodies.length cb, .slice E s.events.length ce]] w
      fun v w' => ∃ Me Mb Ms A2 c2 E2 ce2 vs2, v = .agg #[.int .i64 s.len, .int .i64 s.voices, .float .f32 s.ceil, .float .f32 s.rel, .slice A2 s.bodies.length c2, .slice E2 s.events.length ce2] ∧ All2 (RBod Ms) vs2 s.bodies ∧ Own Mb 69 1 (.slice A2 s.bodies.length c2) s.bodies.length vs2 ∧
        Own Me 31 6 (.slice E2 s.events.length ce2) s.events.length (s.events.flatMap Ev.cells) ∧ SH u w' (Me :: Mb :: (Ms ++ L)) := by
  refine ent Try.func26 rfl H 27 rfl [(0, .v (.agg #[.int .i64 s.len, .int .i64 s.voices, .float .f32 s.ceil, .float .f32 s.rel, .slice A s.bodies.length cb, .slice E s.events.length ce]))] rfl rfl fun a S => ?_
  refine xr hT S rfl true [] 200 rfl (by (repeat' apply And.intro); all_goals first | exact True.intro | with_reducible assumption | decide +kernel | with_reducible exact Option.isSome_some | omega | with_reducible exact decide_eq_true (by omega) | with_reducible exact decide_eq_false (by omega) | with_reducible exact beq_iff_eq.2 (by omega) | with_reducible exact beq_eq_false_iff_ne.2 (by omega) | with_reducible exact bne_iff_ne.2 (by omega) | with_reducible exact bne_eq_false_iff_eq.2 (by omega) | skip) fun β a w hβ hl S => ?_
  have S := S.unbox (d := 3) rfl
  obtain ⟨β, hl, S⟩ := (S.keep [1, 2, 3, 8, 9, 10] rfl).cut 2 (by rw [hl]; simp) (by simp [SV.wfs, SV.wf]) (by simp [SV.wfs, SV.wf])
  refine xloop (I26 u L s A cb E ce) (fun i => s.bodies.length - i) 0 ⟨β, _, [], _, 0, [], hl, Nat.zero_le _, trivial, Own.empty _ 69 1, S⟩ fun i a w ⟨β, Mb, Ms, Ab, cb2, vs2, hl, hi, hA2, hO, S⟩ => ?_
  have hsub : L ⊆ Mb :: (Ms ++ L) := fun m hm => by simp [hm]
  by_cases hin : i < s.bodies.length
  · obtain ⟨ad, rfl⟩ := hRA.2.1 (by omega)
    obtain ⟨v, hv, A9, c9, rfl, hR9⟩ := hA.at_ hin
    have hvb : RBod L (.slice A9 (List.length s.bodies[i]) c9) s.bodies[i] := ⟨A9, c9, rfl, hR9⟩
    have ei : (i : Int) + 1 = ((i + 1 : Nat) : Int) := by omega
    refine xr hT S hl true [.b true, .v [.slice A9 (List.length s.bodies[i]) c9]] 200 rfl ?_ fun β1 a w hβ1 hl S => ?_
    · (repeat' apply And.intro); all_goals first | exact True.intro | with_reducible assumption | decide +kernel | with_reducible exact Option.isSome_some | omega | with_reducible exact decide_eq_true (by omega) | with_reducible exact decide_eq_false (by omega) | with_reducible exact beq_iff_eq.2 (by omega) | with_reducible exact beq_eq_false_iff_ne.2 (by omega) | with_reducible exact bne_iff_ne.2 (by omega) | with_reducible exact bne_eq_false_iff_eq.2 (by omega) | skip
      all_goals exact (hRA.mono hsub).cell (n := s.bodies.length) (c := 0) hv
    refine xc S rfl rfl rfl rfl rfl en50 (c50 S.sh (hvb.mono (fun m hm => by simp [hm])) (hb _ (List.getElem_mem hin))) fun r w ⟨M2, A2, c2, hr, hOm, H⟩ => ?_
    have S := S.retd (New := [M2]) 16 r H rfl
    subst hr
    have S := S.up 1 rfl rfl
    refine xr hT S hl true [] 200 rfl (by (repeat' apply And.intro); all_goals first | exact True.intro | with_reducible assumption | decide +kernel | with_reducible exact Option.isSome_some | omega | with_reducible exact decide_eq_true (by omega) | with_reducible exact decide_eq_false (by omega) | with_reducible exact beq_iff_eq.2 (by omega) | with_reducible exact beq_eq_false_iff_ne.2 (by omega) | with_reducible exact bne_iff_ne.2 (by omega) | with_reducible exact bne_eq_false_iff_eq.2 (by omega) | skip) fun β2 a w hβ2 hl S => ?_
    refine xapp hT S rfl rfl rfl rfl rfl rfl rfl rfl hO rfl rfl (news := [.slice A2 (List.length s.bodies[i]) c2]) (S.boxCells (i := 3) (t := 69) (cs := [.v (.slice A2 (List.length s.bodies[i]) c2)]) rfl) rfl (by simp [Value.oneCell']) (by show (i + 1) * 24 ≤ _; omega) (by simp only [maxLen]; omega) fun v' Mb a w hO S => ?_
    obtain ⟨A3, c3, rfl, _⟩ := hO.form
    refine xr hT S hl true [] 200 rfl (by (repeat' apply And.intro); all_goals first | exact True.intro | with_reducible assumption | decide +kernel | with_reducible exact Option.isSome_some | omega | with_reducible exact decide_eq_true (by omega) | with_reducible exact decide_eq_false (by omega) | with_reducible exact beq_iff_eq.2 (by omega) | with_reducible exact beq_eq_false_iff_ne.2 (by omega) | with_reducible exact bne_iff_ne.2 (by omega) | with_reducible exact bne_eq_false_iff_eq.2 (by omega) | skip) fun β3 a w hβ3 hl S => ?_
    rw [ei] at S
    obtain ⟨β4, hl4, S⟩ := ((S.keep [1, 2, 3, 8, 9, 10] rfl).dropb.dropb).cut 2 (by rw [hl]; simp) (by simp [SV.wfs, SV.wf]) (by simp [SV.wfs, SV.wf])
    refine xj ⟨i + 1, ⟨β4, Mb, M2 :: Ms, A3, c3, _, hl4, by omega, ?_, hO, S⟩, by omega⟩
    rw [List.take_add_one, List.getElem?_eq_getElem hin]
    exact (hA2.mono fun _ _ h => h.mono (List.subset_cons_self _ _)).snoc ⟨A2, c2, rfl, hOm.rows List.mem_cons_self⟩
  · have e1 : i = s.bodies.length := by omega
    subst e1
    rw [List.take_of_length_le (Nat.le_refl _)] at hA2
    refine xr hT S hl true [.b false] 200 rfl (by (repeat' apply And.intro); all_goals first | exact True.intro | with_reducible assumption | decide +kernel | with_reducible exact Option.isSome_some | omega | with_reducible exact decide_eq_true (by omega) | with_reducible exact decide_eq_false (by omega) | with_reducible exact beq_iff_eq.2 (by omega) | with_reducible exact beq_eq_false_iff_ne.2 (by omega) | with_reducible exact bne_iff_ne.2 (by omega) | with_reducible exact bne_eq_false_iff_eq.2 (by omega) | skip) fun β1 a w hβ1 hl S => ?_
    refine xc S rfl rfl rfl rfl rfl en41 (c41 S.sh h2 (hRE.mono (fun m hm => by simp [hm])) rfl) fun v w ⟨Me, hOe, H⟩ => ?_
    have S := S.retd (New := [Me]) 23 v H rfl
    obtain ⟨A2, c2, rfl, _⟩ := hOe.form
    refine xr hT S hl true [] 200 rfl (by (repeat' apply And.intro); all_goals first | exact True.intro | with_reducible assumption | decide +kernel | with_reducible exact Option.isSome_some | omega | with_reducible exact decide_eq_true (by omega) | with_reducible exact decide_eq_false (by omega) | with_reducible exact beq_iff_eq.2 (by omega) | with_reducible exact beq_eq_false_iff_ne.2 (by omega) | with_reducible exact bne_iff_ne.2 (by omega) | with_reducible exact bne_eq_false_iff_eq.2 (by omega) | skip) fun β2 a w hβ2 hl S => ?_
    exact xret hT S rfl ⟨_, rfl, Me, Mb, Ms, Ab, cb2, A2, c2, vs2, rfl, hA2, hO, hOe, S.tl'⟩
/-! ### parts of a list, changed one by one -/
def mapI {α : Type} (f : α → α) (i : Nat) (l : List α) : List α := (l.take i).map f ++ l.drop i
theorem mapI_zero {α : Type} (f : α → α) (l : List α) : mapI f 0 l = l := by simp [mapI]
theorem mapI_all {α : Type} (f : α → α) (l : List α) : mapI f l.length l = l.map f := by simp [mapI]
theorem mapI_len {α : Type} {f : α → α} {i : Nat} {l : List α} : (mapI f i l).length = l.length := by simp [mapI]; omega
theorem mapI_at {α : Type} {f : α → α} {i : Nat} {l : List α} (h : i < l.length) : (mapI f i l)[i]? = some l[i] := by
  have e1 : ((l.take i).map f).length = i := by simp; omega
  unfold mapI
  rw [List.getElem?_append_right (by omega), e1, Nat.sub_self, List.getElem?_drop, Nat.add_zero, List.getElem?_eq_getElem h]
theorem mapI_set {α : Type} {f : α → α} {i : Nat} {l : List α} (h : i < l.length) : (mapI f i l).set i (f l[i]) = mapI f (i + 1) l := by
  have e1 : ((l.take i).map f).length = i := by simp; omega
  unfold mapI
  rw [List.set_append_right _ _ (by omega), e1, Nat.sub_self, List.drop_eq_getElem_cons h, List.set_cons_zero, List.take_add_one, List.getElem?_eq_getElem h, List.map_append, List.append_assoc]
  rfl
theorem cell0_set {α : Type} {cells : α → List Value} {sz : Nat} (hsz : ∀ x, (cells x).length = sz) (h0 : 0 < sz) {l : List α} {k : Nat} (hk : k < l.length) {e : α} {x : Value} (he : cells e = x :: (cells l[k]).drop 1) :
    (l.flatMap cells).take (k * sz + 0) ++ [x] ++ (l.flatMap cells).drop (k * sz + 0 + 1) = (l.set k e).flatMap cells := by
  rw [← flat_set hsz hk e, he]
  simp only [Nat.add_zero, List.append_assoc]
  congr 1
  have h1 := flat_at hsz hk
  have h3 : ((l.flatMap cells).drop (k * sz + 1)).take (sz - 1) = (cells l[k]).drop 1 := by
    have := congrArg (List.drop 1) h1
    rw [List.drop_take, List.drop_drop] at this
    exact this
  have h4 := List.take_append_drop (sz - 1) ((l.flatMap cells).drop (k * sz + 1))
  rw [h3, List.drop_drop, show k * sz + 1 + (sz - 1) = k * sz + sz by omega] at h4
  rw [← h4]
  rfl
/-! ### a score, shifted -/
def shE (d : Int) (e : Ev) : Ev := { e with at_ := e.at_ + d }
def shS (d : Int) (s : Sc) : Sc := { s with len := s.len + d, events := s.events.map (shE d) }
theorem shS_ok {most d m : Int} {s : Sc} (h : ScOk most s) (hd : 0 ≤ d) (hm : most + d ≤ m) : ScOk m (shS d s) := by
  obtain ⟨h1, h2, h3, h4, h5, h6⟩ := h
  refine ⟨⟨by show (0 : Int) ≤ s.len + d; omega, by show s.len + d ≤ m; omega⟩, h2, h3, h4, h5, by show (s.events.map (shE d)).length ≤ 16; rw [List.length_map]; exact h6.1, fun e he => ?_⟩
  obtain ⟨e0, he0, rfl⟩ := List.mem_map.1 he
  obtain ⟨⟨a1, a2⟩, a3, a4⟩ := h6.2 e0 he0
  exact ⟨⟨by show 0 ≤ e0.at_ + d; omega, by show e0.at_ + d ≤ s.len + d; omega⟩, a3, a4⟩
end Go.SX
set_option maxRecDepth 100000
set_option linter.unusedVariables false
set_option linter.unusedSectionVars false
namespace Go.SX
open Go.Proofs
variable {u w : World} {L B : List Hp} {b : Nat} {M : Hp}
abbrev BXs (i : Nat) (s : Sc) (A : Option Addr) (cb : Nat) (E : Option Addr) (ce : Nat) : Nat × Nat × List SV := (i, 27, [.v (.int .i64 s.len), .v (.int .i64 s.voices), .v (.float .f32 s.ceil), .v (.float .f32 s.rel), .v (.slice A s.bodies.length cb), .v (.slice E s.events.length ce)])
abbrev SVal (s : Sc) (A : Option Addr) (cb : Nat) (E : Option Addr) (ce : Nat) : Value := .agg #[.int .i64 s.len, .int .i64 s.voices, .float .f32 s.ceil, .float .f32 s.rel, .slice A s.bodies.length cb, .slice E s.events.length ce]
theorem c14 {s : Sc} {A E : Option Addr} {cb ce : Nat} {vs : List Value} {d : Int} (H : SH u w L) (hA : All2 (RBod L) vs s.bodies) (hRA : Rows L A s.bodies.length 1 vs) (hRE : Rows L E s.events.length 6 (s.events.flatMap Ev.cells)) (h : ScOk 40 s) (hd0 : 0 ≤ d) (hd1 : d ≤ 30) :
    Ret Try.prog 14 [SVal s A cb E ce, .int .i64 d] w
      fun v w' => ∃ New A2 c2 E2 ce2 vs2, v = .tuple #[.agg #[.int .i64 (s.len + d), .int .i64 s.voices, .float .f32 s.ceil, .float .f32 s.rel, .slice A2 s.bodies.length c2, .slice E2 s.events.length ce2], .bool true] ∧ All2 (RBod New) vs2 s.bodies ∧ Rows New A2 s.bodies.length 1 vs2 ∧
        Rows New E2 s.events.length 6 ((s.events.map (shE d)).flatMap Ev.cells) ∧ SH u w' (New ++ L) := by
  have hbl := h.bodies.1
  have hel := h.events.1
  have hlen := h.len
  refine ent Try.func14 rfl H 49 rfl [(0, .v (SVal s A cb E ce)), (1, .v (.int .i64 d))] rfl rfl fun a S => ?_
  refine xr hT S rfl true [] 200 rfl (by (repeat' apply And.intro); all_goals first | exact True.intro | with_reducible assumption | decide +kernel | with_reducible exact Option.isSome_some | omega | with_reducible exact decide_eq_true (by omega) | with_reducible exact decide_eq_false (by omega) | with_reducible exact beq_iff_eq.2 (by omega) | with_reducible exact beq_eq_false_iff_ne.2 (by omega) | with_reducible exact bne_iff_ne.2 (by omega) | with_reducible exact bne_eq_false_iff_eq.2 (by omega) | skip) fun β a w hβ hl S => ?_
  have hv : ∀ {L'}, L ⊆ L' → RSc L' (SVal s A cb E ce) s := fun hs => ⟨A, cb, E, ce, vs, rfl, hA.mono fun _ _ h => h.mono hs, hRA.mono hs, hRE.mono hs⟩
  refine xP S rfl rfl rfl rfl rfl rfl en19 (fun H => c19 H (hv (List.subset_append_right _ _)) h (by decide)) fun v a w hvv S => ?_
  subst hvv
  refine xr hT S hl true [.b false, .b false, .b false] 200 rfl (by (repeat' apply And.intro); all_goals first | exact True.intro | with_reducible assumption | decide +kernel | with_reducible exact Option.isSome_some | omega | with_reducible exact decide_eq_true (by omega) | with_reducible exact decide_eq_false (by omega) | with_reducible exact beq_iff_eq.2 (by omega) | with_reducible exact beq_eq_false_iff_ne.2 (by omega) | with_reducible exact bne_iff_ne.2 (by omega) | with_reducible exact bne_eq_false_iff_eq.2 (by omega) | skip) fun β1 a w hβ1 hl S => ?_
  have hss := List.subset_append_right (bhs β1 [(1, 27, [SV.v (.int .i64 0), .v (.int .i64 0), .v (.float .f32 0), .v (.float .f32 0), .v (.slice none 0 0), .v (.slice none 0 0)]), BXs 0 s A cb E ce]) L
  refine xc S rfl rfl rfl rfl rfl en26 (c26 (s := s) (A := A) (E := E) (cb := cb) (ce := ce) S.sh (hA.mono fun _ _ h => h.mono hss) (hRA.mono hss) (hRE.mono hss) (by omega) (by omega) (fun b hb => by have := (h.bodies.2 b hb).1; omega)) fun v w ⟨Me, Mb, Ms, A2, c2, E2, ce2, vs2, hv2, hA2, hOb, hOe, H⟩ => ?_
  have S := S.retd (New := Me :: Mb :: Ms) 21 v H rfl
  subst hv2
  refine xr hT S hl true [] 200 rfl (by (repeat' apply And.intro); all_goals first | exact True.intro | with_reducible assumption | decide +kernel | with_reducible exact Option.isSome_some | omega | with_reducible exact decide_eq_true (by omega) | with_reducible exact decide_eq_false (by omega) | with_reducible exact beq_iff_eq.2 (by omega) | with_reducible exact beq_eq_false_iff_ne.2 (by omega) | with_reducible exact bne_iff_ne.2 (by omega) | with_reducible exact bne_eq_false_iff_eq.2 (by omega) | skip) fun β2 a w hβ2 hl S => ?_
  refine xloop (fun (i : Nat) a w => ∃ β Me, β.length = 3 ∧ i ≤ s.events.length ∧ Own Me 31 6 (.slice E2 s.events.length ce2) s.events.length (List.flatMap Ev.cells (mapI (shE d) i s.events)) ∧
    St β u w a 49 [(1, .v (.int .i64 d)), (4, .p 1 0), (6, .p 2 0), (29, .v (.int .i64 s.events.length)), (30, .v (.int .i64 (i : Int)))]
      [(2, 27, [.v (.int .i64 (s.len + d)), .v (.int .i64 s.voices), .v (.float .f32 s.ceil), .v (.float .f32 s.rel), .v (.slice A2 s.bodies.length c2), .v (.slice E2 s.events.length ce2)]), (1, 27, [SV.v (.int .i64 0), .v (.int .i64 0), .v (.float .f32 0), .v (.float .f32 0), .v (.slice none 0 0), .v (.slice none 0 0)]), BXs 0 s A cb E ce] (Me :: Mb :: (Ms ++ L))) (fun i => s.events.length - i) 0
    ⟨β2, Me, hl, Nat.zero_le _, by rw [mapI_zero]; exact hOe, S.keep [1, 4, 6, 29, 30] rfl⟩ fun i a w ⟨β, Me, hl, hi, hOe, S⟩ => ?_
  by_cases hin : i < s.events.length
  · obtain ⟨g, c', hv⟩ := hOe.pos (by omega)
    obtain ⟨rfl, rfl⟩ : E2 = some ⟨g, 0, none⟩ ∧ ce2 = c' := by cases hv; exact ⟨rfl, rfl⟩
    have ei : (i : Int) + 1 = ((i + 1 : Nat) : Int) := by omega
    have hil : i < (mapI (shE d) i s.events).length := by rw [mapI_len]; exact hin
    have hgi : (mapI (shE d) i s.events)[i] = s.events[i] := by
      have := mapI_at (f := shE d) hin
      rw [List.getElem?_eq_getElem hil] at this
      exact Option.some.inj this
    have hev := (h.events.2 _ (List.getElem_mem hin)).1
    have hat : RdV (Me :: Mb :: (Ms ++ L)) ((Addr.add ⟨g, 0, none⟩ (Int.toNat (i : Int) * 6)).add 0) [.int .i64 s.events[i].at_] := by
      rw [Int.toNat_natCast]
      have := at_cell (hOe.cells (L := Me :: Mb :: (Ms ++ L)) rfl List.mem_cons_self) hil
      rw [hgi] at this
      exact this
    refine xr hT S hl true [.b true, .v [.int .i64 s.events[i].at_]] 200 rfl ?_ fun β1 a w hβ1 hl S => ?_
    · (repeat' apply And.intro); all_goals first | exact True.intro | with_reducible assumption | decide +kernel | with_reducible exact Option.isSome_some | omega | with_reducible exact decide_eq_true (by omega) | with_reducible exact decide_eq_false (by omega) | with_reducible exact beq_iff_eq.2 (by omega) | with_reducible exact beq_eq_false_iff_ne.2 (by omega) | with_reducible exact bne_iff_ne.2 (by omega) | with_reducible exact bne_eq_false_iff_eq.2 (by omega) | skip
      all_goals exact hat
    refine xset hT S (off := i * 6 + 0) rfl rfl rfl rfl rfl (by show Addr.add (Addr.add ⟨g, 0, none⟩ (Int.toNat (i : Int) * 6)) 0 = _; rw [Int.toNat_natCast, add_none, add_none, Nat.zero_add]) hOe rfl rfl rfl (by rw [hOe.1]; show i * 6 + 0 + 1 ≤ _; omega) fun Me a w hOe S => ?_
    have hOe : Own Me 31 6 (.slice (some ⟨g, 0, none⟩) s.events.length ce2) s.events.length (List.flatMap Ev.cells (mapI (shE d) (i + 1) s.events)) := by
      rw [← mapI_set hin, ← cell0_set ev_len (by decide) hil (e := shE d s.events[i]) (x := .int .i64 (s.events[i].at_ + d)) (by rw [hgi]; rfl)]
      exact hOe
    refine xr hT S hl true [] 200 rfl (by (repeat' apply And.intro); all_goals first | exact True.intro | with_reducible assumption | decide +kernel | with_reducible exact Option.isSome_some | omega | with_reducible exact decide_eq_true (by omega) | with_reducible exact decide_eq_false (by omega) | with_reducible exact beq_iff_eq.2 (by omega) | with_reducible exact beq_eq_false_iff_ne.2 (by omega) | with_reducible exact bne_iff_ne.2 (by omega) | with_reducible exact bne_eq_false_iff_eq.2 (by omega) | skip) fun β2 a w hβ2 hl S => ?_
    rw [ei] at S
    exact xj ⟨i + 1, ⟨β2, Me, hl, by omega, hOe, S.keep [1, 4, 6, 29, 30] rfl⟩, by omega⟩
  · have e1 : i = s.events.length := by omega
    subst e1
    rw [mapI_all] at hOe
    refine xr hT S hl true [.b false] 200 rfl (by (repeat' apply And.intro); all_goals first | exact True.intro | with_reducible assumption | decide +kernel | with_reducible exact Option.isSome_some | omega | with_reducible exact decide_eq_true (by omega) | with_reducible exact decide_eq_false (by omega) | with_reducible exact beq_iff_eq.2 (by omega) | with_reducible exact beq_eq_false_iff_ne.2 (by omega) | with_reducible exact bne_iff_ne.2 (by omega) | with_reducible exact bne_eq_false_iff_eq.2 (by omega) | skip) fun β1 a w hβ1 hl S => ?_
    have hml : (s.events.map (shE d)).length = s.events.length := List.length_map ..
    have hRs : ∀ {L'}, Me :: Mb :: Ms ⊆ L' → RSc L' (.agg #[.int .i64 (s.len + d), .int .i64 s.voices, .float .f32 s.ceil, .float .f32 s.rel, .slice A2 s.bodies.length c2, .slice E2 s.events.length ce2]) (shS d s) := fun hs =>
      ⟨A2, c2, E2, ce2, vs2, by show _ = Value.agg #[.int .i64 (s.len + d), .int .i64 s.voices, .float .f32 s.ceil, .float .f32 s.rel, .slice A2 s.bodies.length c2, .slice E2 (s.events.map (shE d)).length ce2]; rw [hml], hA2.mono fun _ _ h => h.mono (fun m hm => hs (by simp [hm])), hOb.rows (hs (by simp)), by show Rows _ E2 (s.events.map (shE d)).length 6 _; rw [hml]; exact hOe.rows (hs (by simp))⟩
    refine xP S rfl rfl rfl rfl rfl rfl en19 (fun H => c19 H (hRs (fun m hm => List.mem_append_right _ (by
      rcases List.mem_cons.1 hm with rfl | hm
      · exact List.mem_cons_self
      · rcases List.mem_cons.1 hm with rfl | hm
        · exact List.mem_cons_of_mem _ List.mem_cons_self
        · exact List.mem_cons_of_mem _ (List.mem_cons_of_mem _ (List.mem_append_left _ hm))))) (shS_ok (m := 70) h hd0 (by omega)) (by decide)) fun v a w hvv S => ?_
    subst hvv
    refine xr hT S hl true [.b false] 200 rfl (by (repeat' apply And.intro); all_goals first | exact True.intro | with_reducible assumption | decide +kernel | with_reducible exact Option.isSome_some | omega | with_reducible exact decide_eq_true (by omega) | with_reducible exact decide_eq_false (by omega) | with_reducible exact beq_iff_eq.2 (by omega) | with_reducible exact beq_eq_false_iff_ne.2 (by omega) | with_reducible exact bne_iff_ne.2 (by omega) | with_reducible exact bne_eq_false_iff_eq.2 (by omega) | skip) fun β2 a w hβ2 hl S => ?_
    refine xret hT S rfl ⟨_, rfl, Me :: Mb :: Ms, A2, c2, E2, ce2, vs2, rfl, hA2.mono fun _ _ h => h.mono (fun m hm => by simp [hm]), hOb.rows (by simp), hOe.rows (by simp), S.tl'⟩
theorem c15 {s : Sc} {A E : Option Addr} {cb ce : Nat} {vs : List Value} {lo hi most : Int} (H : SH u w L) (hA : All2 (RBod L) vs s.bodies) (hRA : Rows L A s.bodies.length 1 vs) (hRE : Rows L E s.events.length 6 (s.events.flatMap Ev.cells)) (h : ScOk most s) (hm : most ≤ 2000) (hall : ∀ e ∈ s.events, lo ≤ e.at_ ∧ e.at_ < hi) :
    Ret Try.prog 15 [SVal s A cb E ce, .int .i64 lo, .int .i64 hi] w (Pl u L fun v => v = .int .i64 s.events.length) := by
  have hel := h.events.1
  refine ent Try.func15 rfl H 34 rfl [(0, .v (SVal s A cb E ce)), (1, .v (.int .i64 lo)), (2, .v (.int .i64 hi))] rfl rfl fun a S => ?_
  refine xr hT S rfl true [] 200 rfl (by (repeat' apply And.intro); all_goals first | exact True.intro | with_reducible assumption | decide +kernel | with_reducible exact Option.isSome_some | omega | with_reducible exact decide_eq_true (by omega) | with_reducible exact decide_eq_false (by omega) | with_reducible exact beq_iff_eq.2 (by omega) | with_reducible exact beq_eq_false_iff_ne.2 (by omega) | with_reducible exact bne_iff_ne.2 (by omega) | with_reducible exact bne_eq_false_iff_eq.2 (by omega) | skip) fun β a w hβ hl S => ?_
  have hv : ∀ {L'}, L ⊆ L' → RSc L' (SVal s A cb E ce) s := fun hs => ⟨A, cb, E, ce, vs, rfl, hA.mono fun _ _ h => h.mono hs, hRA.mono hs, hRE.mono hs⟩
  refine xP S rfl rfl rfl rfl rfl rfl en19 (fun H => c19 H (hv (List.subset_append_right _ _)) h hm) fun v a w hvv S => ?_
  subst hvv
  refine xr hT S hl true [.b false] 200 rfl (by (repeat' apply And.intro); all_goals first | exact True.intro | with_reducible assumption | decide +kernel | with_reducible exact Option.isSome_some | omega | with_reducible exact decide_eq_true (by omega) | with_reducible exact decide_eq_false (by omega) | with_reducible exact beq_iff_eq.2 (by omega) | with_reducible exact beq_eq_false_iff_ne.2 (by omega) | with_reducible exact bne_iff_ne.2 (by omega) | with_reducible exact bne_eq_false_iff_eq.2 (by omega) | skip) fun β1 a w hβ1 hl S => ?_
  refine xloop (fun (i : Nat) a w => ∃ β, β.length = 1 ∧ i ≤ s.events.length ∧ St β u w a 34 [(1, .v (.int .i64 lo)), (2, .v (.int .i64 hi)), (7, .v (.int .i64 (i : Int))), (14, .v (.slice E s.events.length ce)), (15, .v (.int .i64 s.events.length)), (16, .v (.int .i64 (i : Int)))] [BXs 0 s A cb E ce] L) (fun i => s.events.length - i) 0
    ⟨β1, hl, Nat.zero_le _, S.keep [1, 2, 7, 14, 15, 16] rfl⟩ fun i a w ⟨β, hl, hi', S⟩ => ?_
  by_cases hin : i < s.events.length
  · obtain ⟨ad, rfl⟩ := hRE.2.1 (by omega)
    have hc := (hRE.2.2 ad rfl).elem ev_len hin
    obtain ⟨g1, g2⟩ := hall _ (List.getElem_mem hin)
    have ei : (i : Int) + 1 = ((i + 1 : Nat) : Int) := by omega
    refine xr hT S hl true [.b true, .v (s.events[i]).cells, .b true, .b true] 200 rfl ?_ fun β1 a w hβ1 hl S => ?_
    · (repeat' apply And.intro); all_goals first | exact True.intro | with_reducible assumption | decide +kernel | with_reducible exact Option.isSome_some | omega | with_reducible exact decide_eq_true (by omega) | with_reducible exact decide_eq_false (by omega) | with_reducible exact beq_iff_eq.2 (by omega) | with_reducible exact beq_eq_false_iff_ne.2 (by omega) | with_reducible exact bne_iff_ne.2 (by omega) | with_reducible exact bne_eq_false_iff_eq.2 (by omega) | skip
      all_goals (show RdV L (ad.add (Int.toNat (i : Int) * 6)) _; rw [Int.toNat_natCast]; exact hc)
    rw [ei] at S
    obtain ⟨β2, hl2, S⟩ := ((S.keep [1, 2, 7, 14, 15, 16] rfl).dropb).cut 1 (by rw [hl]; simp) (by simp [SV.wfs, SV.wf]) (by simp [SV.wfs, SV.wf])
    exact xj ⟨i + 1, ⟨β2, hl2, by omega, S⟩, by omega⟩
  · have e1 : i = s.events.length := by omega
    subst e1
    refine xr hT S hl true [.b false] 200 rfl (by (repeat' apply And.intro); all_goals first | exact True.intro | with_reducible assumption | decide +kernel | with_reducible exact Option.isSome_some | omega | with_reducible exact decide_eq_true (by omega) | with_reducible exact decide_eq_false (by omega) | with_reducible exact beq_iff_eq.2 (by omega) | with_reducible exact beq_eq_false_iff_ne.2 (by omega) | with_reducible exact bne_iff_ne.2 (by omega) | with_reducible exact bne_eq_false_iff_eq.2 (by omega) | skip) fun β1 a w hβ1 hl S => ?_
    exact xret hT S rfl ⟨_, rfl, rfl, S.tl'⟩
end Go.SX
set_option linter.unusedVariables false
set_option linter.unusedSimpArgs false
namespace Go.SX
/-! ### the order of events is one; a shifted score plays the same, later -/
theorem srt_pw {k : Nat} {l : List Ev} (h : Srt k l) (hk : l.length ≤ k) : l.Pairwise fun a b => a.at_ ≤ b.at_ := by
  rw [List.pairwise_iff_getElem]
  intro i j hi hj hij
  exact h i j _ _ hij (by omega) (List.getElem?_eq_getElem hi) (List.getElem?_eq_getElem hj)
theorem fil_unique : ∀ {l m : List Ev}, (l.Pairwise fun a b => a.at_ ≤ b.at_) → (m.Pairwise fun a b => a.at_ ≤ b.at_) → (∀ x : Int, l.filter (fun e => e.at_ == x) = m.filter (fun e => e.at_ == x)) → l = m
  | [], [], _, _, _ => rfl
  | [], f :: r, _, _, h => by
    have := h f.at_
    simp at this
  | e :: r, [], _, _, h => by
    have := h e.at_
    simp at this
  | e :: r, f :: q, h1, h2, h => by
    have p1 := List.pairwise_cons.1 h1
    have p2 := List.pairwise_cons.1 h2
    have he : e ∈ f :: q := by
      have : e ∈ (e :: r).filter (fun x => x.at_ == e.at_) := List.mem_filter.2 ⟨List.mem_cons_self, by simp⟩
      rw [h] at this
      exact (List.mem_filter.1 this).1
    have hf : f ∈ e :: r := by
      have : f ∈ (f :: q).filter (fun x => x.at_ == f.at_) := List.mem_filter.2 ⟨List.mem_cons_self, by simp⟩
      rw [← h] at this
      exact (List.mem_filter.1 this).1
    have hat : e.at_ = f.at_ := by
      have a1 : f.at_ ≤ e.at_ := by
        rcases List.mem_cons.1 he with rfl | he
        · exact Int.le_refl _
        · exact p2.1 e he
      have a2 : e.at_ ≤ f.at_ := by
        rcases List.mem_cons.1 hf with rfl | hf
        · exact Int.le_refl _
        · exact p1.1 f hf
      omega
    have h0 := h e.at_
    rw [List.filter_cons, List.filter_cons, if_pos (by simp), if_pos (by simp [hat])] at h0
    simp only [List.cons.injEq] at h0
    obtain ⟨h3, h4⟩ := h0
    subst h3
    congr 1
    refine fil_unique p1.2 p2.2 fun x => ?_
    by_cases hx : e.at_ = x
    · subst hx; exact h4
    · have h5 := h x
      rw [List.filter_cons, List.filter_cons, if_neg (by simpa using hx), if_neg (by simpa using hx)] at h5
      exact h5
theorem Sorted.unique {s : Sc} {c1 c2 : List Ev} (h1 : Sorted s c1) (h2 : Sorted s c2) : c1 = c2 :=
  fil_unique (srt_pw h1.srt (by rw [h1.len]; exact Nat.le_refl _)) (srt_pw h2.srt (by rw [h2.len]; exact Nat.le_refl _)) fun x => (h1.fil x).trans (h2.fil x).symm
theorem Sorted.shift {s : Sc} {cur : List Ev} (h : Sorted s cur) (d : Int) : Sorted (shS d s) (cur.map (shE d)) := by
  refine ⟨?_, fun x => ?_, fun p q e f hpq hq hp hqq => ?_⟩
  · show (cur.map (shE d)).length = (s.events.map (shE d)).length
    rw [List.length_map, List.length_map, h.len]
  · show _ = (s.events.map (shE d)).filter _
    have e1 : ∀ l : List Ev, (l.map (shE d)).filter (fun e => e.at_ == x) = (l.filter (fun e => e.at_ == x - d)).map (shE d) := by
      intro l
      rw [List.filter_map]
      congr 2
      funext e
      show (e.at_ + d == x) = (e.at_ == x - d)
      rw [Bool.eq_iff_iff]
      simp
      omega
    rw [e1, e1, h.fil]
  · rw [List.getElem?_map] at hp hqq
    obtain ⟨e0, he0, rfl⟩ := Option.map_eq_some_iff.1 hp
    obtain ⟨f0, hf0, rfl⟩ := Option.map_eq_some_iff.1 hqq
    have := h.srt p q e0 f0 hpq (by simpa [shS] using hq) he0 hf0
    show e0.at_ + d ≤ f0.at_ + d
    omega
theorem Sorted.exists {s : Sc} {cur cur' : List Ev} {d : Int} (h : Sorted s cur) (h' : Sorted (shS d s) cur') : cur' = cur.map (shE d) := h'.unique (h.shift d)
section
variable {s : Sc} {d : Nat}
def shP (d : Nat) (p : Pz) : Pz := { p with now := p.now + d }
theorem happen_sh (e : Ev) (p : Pz) : happen (shS d s) (shE d e) (shP d p) = shP d (happen s e p) := by
  unfold happen
  show (if e.kind = 1 then _ else if e.kind = 2 then _ else _) = _
  split
  · rfl
  · split <;> rfl
theorem arrL_sh : ∀ (l : List Ev) (p : Pz), arrL (shS d s) (l.map (shE d)) (shP d p) = shP d (arrL s l p)
  | [], p => rfl
  | e :: r, p => by
    rw [List.map_cons, arrL, arrL]
    by_cases h : e.at_ = p.now
    · have hc : (shE d e).at_ = ((shP d p).now : Int) := by
        show e.at_ + (d : Int) = ((p.now + d : Nat) : Int)
        omega
      rw [if_pos h, if_pos hc, ← arrL_sh r]
      congr 1
      show { happen (shS d s) (shE d e) (shP d p) with done := p.done + 1 } = _
      rw [happen_sh]
      rfl
    · have hc : ¬ (shE d e).at_ = ((shP d p).now : Int) := by
        show ¬ e.at_ + (d : Int) = ((p.now + d : Nat) : Int)
        omega
      rw [if_neg h, if_neg hc]
theorem arr_sh (cur : List Ev) (p : Pz) : arr (shS d s) (cur.map (shE d)) (shP d p) = shP d (arr s cur p) := by
  unfold arr
  rw [← List.map_drop]
  exact arrL_sh _ _
theorem next_sh (cur : List Ev) (p : Pz) : nextP (shS d s) (cur.map (shE d)) (shP d p) = shP d (nextP s cur p) := by
  unfold nextP
  rw [arr_sh]
  show ({ now := (arr s cur p).now + d + 1, done := _, begun := _, voices := _ } : Pz) = { now := (arr s cur p).now + 1 + d, done := _, begun := _, voices := _ }
  congr 1
  omega
theorem outs_sh (cur : List Ev) (p : Pz) : outsP (shS d s) (cur.map (shE d)) (shP d p) = outsP s cur p := by
  unfold outsP
  rw [arr_sh]
  rfl
theorem arr_before {cur : List Ev} (h : ∀ e ∈ cur, (0 : Int) ≤ e.at_) {t : Nat} (ht : t < d) : arr (shS d s) (cur.map (shE d)) ⟨t, 0, 0, []⟩ = ⟨t, 0, 0, []⟩ := by
  unfold arr
  cases cur with
  | nil => rfl
  | cons e r =>
    have := h e List.mem_cons_self
    show arrL _ (shE d e :: r.map (shE d)) _ = _
    have hc : ¬ (shE d e).at_ = (((⟨t, 0, 0, []⟩ : Pz).now : Nat) : Int) := by
      show ¬ e.at_ + (d : Int) = (t : Int)
      omega
    rw [arrL, if_neg hc]
theorem run_before {cur : List Ev} (h : ∀ e ∈ cur, (0 : Int) ≤ e.at_) : ∀ t, t ≤ d → runP (shS d s) (cur.map (shE d)) t = ⟨t, 0, 0, []⟩
  | 0, _ => rfl
  | t + 1, ht => by
    show nextP _ _ (runP _ _ t) = _
    rw [run_before h t (by omega)]
    unfold nextP
    rw [arr_before h (by omega)]
    rfl
theorem run_sh {cur : List Ev} (h : ∀ e ∈ cur, (0 : Int) ≤ e.at_) : ∀ t, runP (shS d s) (cur.map (shE d)) (d + t) = shP d (runP s cur t)
  | 0 => by
    rw [Nat.add_zero, run_before h d (Nat.le_refl _)]
    show (⟨d, 0, 0, []⟩ : Pz) = ⟨0 + d, 0, 0, []⟩
    rw [Nat.zero_add]
  | t + 1 => by
    show nextP _ _ (runP _ _ (d + t)) = _
    rw [run_sh h t, next_sh]
    rfl
theorem zero_lim {ce rel : Nat} (hc : Ceil ce) (hr : Rel rel) : limE 0 0 rel = 0 ∧ limX 0 0 ce rel = 0 ∧ (floatBits .mul .f32 0 rel).isSome = true ∧ fcmp .gtr .f32 (limE 0 0 rel) ce = false := by
  rcases hc with rfl | rfl | rfl <;> rcases hr with rfl | rfl | rfl | rfl <;> decide +kernel
theorem out_before {cur : List Ev} (h : ∀ e ∈ cur, (0 : Int) ≤ e.at_) {t : Nat} (ht : t < d) : outsP (shS d s) (cur.map (shE d)) (runP (shS d s) (cur.map (shE d)) t) = [] := by
  rw [run_before h t (by omega)]
  unfold outsP
  rw [arr_before h ht]
  rfl
theorem env_before {cur : List Ev} (h : ∀ e ∈ cur, (0 : Int) ≤ e.at_) (hc : Ceil s.ceil) (hr : Rel s.rel) : ∀ t, t ≤ d → envP (shS d s) (cur.map (shE d)) t = 0
  | 0, _ => rfl
  | t + 1, ht => by
    show limE (envP _ _ t) (sum32 0 (outsP _ _ (runP _ _ t))) s.rel = 0
    rw [env_before h hc hr t (by omega), out_before h (by omega)]
    exact (zero_lim hc hr).1
theorem smp_before {cur : List Ev} (h : ∀ e ∈ cur, (0 : Int) ≤ e.at_) (hc : Ceil s.ceil) (hr : Rel s.rel) {t : Nat} (ht : t < d) : smpP (shS d s) (cur.map (shE d)) t = 0 := by
  show limX (envP _ _ t) (sum32 0 (outsP _ _ (runP _ _ t))) s.ceil s.rel = 0
  rw [env_before h hc hr t (by omega), out_before h ht]
  exact (zero_lim hc hr).2.1
theorem env_sh {cur : List Ev} (h : ∀ e ∈ cur, (0 : Int) ≤ e.at_) (hc : Ceil s.ceil) (hr : Rel s.rel) : ∀ t, envP (shS d s) (cur.map (shE d)) (d + t) = envP s cur t
  | 0 => env_before h hc hr d (Nat.le_refl _)
  | t + 1 => by
    show limE (envP _ _ (d + t)) (sum32 0 (outsP _ _ (runP _ _ (d + t)))) s.rel = limE (envP s cur t) (sum32 0 (outsP s cur (runP s cur t))) s.rel
    rw [env_sh h hc hr t, run_sh h, outs_sh]
theorem smp_sh {cur : List Ev} (h : ∀ e ∈ cur, (0 : Int) ≤ e.at_) (hc : Ceil s.ceil) (hr : Rel s.rel) (t : Nat) : smpP (shS d s) (cur.map (shE d)) (d + t) = smpP s cur t := by
  show limX (envP _ _ (d + t)) (sum32 0 (outsP _ _ (runP _ _ (d + t)))) s.ceil s.rel = limX (envP s cur t) (sum32 0 (outsP s cur (runP s cur t))) s.ceil s.rel
  rw [env_sh h hc hr, run_sh h, outs_sh]
theorem stepOk_sh {cur : List Ev} (h : ScOk 40 s) (hcu : Sorted s cur) (hd : d ≤ 30) {t : Nat} (ht : t < d + 40) : StepOk (shS d s) (cur.map (shE d)) t := by
  have h0 : ∀ e ∈ cur, (0 : Int) ≤ e.at_ := fun e he => (hcu.ev h e he).1.1
  have hz := zero_lim h.ceil h.rel
  rcases Nat.lt_or_ge t d with hlt | hge
  · have e1 := run_before (s := s) (d := d) h0 t (by omega)
    have e2 := out_before (s := s) (d := d) h0 hlt
    have e3 := env_before (s := s) (d := d) h0 h.ceil h.rel t (by omega)
    have e4 : xP_ (shS d s) (cur.map (shE d)) t = 0 := by unfold xP_; rw [e2]; rfl
    refine ⟨31, 0, by decide, by decide, ?_, by rw [e2]; simp, by decide, by rw [e2]; simp, by rw [e4]; decide, by rw [e3]; exact hz.2.2.1, fun hg => ?_⟩
    · rw [e1]
      exact ⟨by have := h.voices.1; show (0 : Int) ≤ s.voices; omega, Nat.le_refl _, by show (0 : Nat) ≤ 100; omega, by show t ≤ 3000; omega, fun v hv => by cases hv⟩
    · rw [e3, e4] at hg
      have h9 : fcmp .gtr .f32 (limE 0 0 s.rel) s.ceil = true := hg
      rw [hz.2.2.2] at h9
      cases h9
  · obtain ⟨t, rfl⟩ : ∃ r, t = d + r := ⟨t - d, by omega⟩
    obtain ⟨K, e, g1, g2, g3, g4, g5, g6, g7, g8, g9⟩ := (good_all h hcu t (by omega)).1
    have e4 : xP_ (shS d s) (cur.map (shE d)) (d + t) = xP_ s cur t := by unfold xP_; rw [run_sh h0, outs_sh]
    refine ⟨K, e, g1, g2, ?_, ?_, g5, ?_, by rw [e4]; exact g7, by rw [env_sh h0 h.ceil h.rel]; exact g8, by rw [e4, env_sh h0 h.ceil h.rel]; exact g9⟩
    · rw [run_sh h0]
      refine ⟨g3.most, g3.begun, g3.done, ?_, g3.voices⟩
      show (runP s cur t).now + d ≤ 3000
      rw [runP_now]
      omega
    · rw [run_sh h0, outs_sh]
      exact g4
    · rw [run_sh h0, outs_sh]
      exact g6
theorem smp_num {cur : List Ev} (h : ScOk 40 s) (hcu : Sorted s cur) {t : Nat} (ht : t < 40) : Num .f32 (smpP s cur t) ∧ smpP s cur t < 2 ^ 32 := by
  have hev := hcu.ev h
  have hl : cur.length ≤ 100 := by rw [hcu.len]; have := h.events.1; omega
  have hg := runP_gok (evs := cur) h.sok hev hl t (by omega)
  have ha := arr_gok h.sok (K := 31 + 2 * t) (by omega) hg hev hl
  obtain ⟨h1, h2⟩ := outs_mf ha (by omega) (by omega) h.sok
  have hx : Mf .f32 (31 + 2 * t + 10) (xP_ s cur t) := (sum32_mf (e := 31 + 2 * t + 6) (d := 0) (o := 0) h1 (mf_zero _) (by omega)).mono (by omega)
  have he : Mf .f32 (31 + 2 * t + 10) (envP s cur t) := by
    cases t with
    | zero => exact mf_zero _
    | succ t => exact (good_all h hcu t (by omega)).2.mono (by omega)
  obtain ⟨h3, h4⟩ := limE_mf he hx (rel_mf h.rel) (by omega)
  show Num .f32 (limX (envP s cur t) (xP_ s cur t) s.ceil s.rel) ∧ limX (envP s cur t) (xP_ s cur t) s.ceil s.rel < 2 ^ 32
  unfold limX
  split
  · rename_i hgt
    obtain ⟨r, h5, h6⟩ := hx.mul (ceil_mf h.ceil) (by show 31 + 2 * t + 10 + 4 ≤ 127; omega)
    obtain ⟨z, h7, h8⟩ := quo_mf h6 h3 h.ceil hgt (by omega)
    rw [fop_of h5, fop_of h7]
    exact ⟨h8.num, h8.lt32⟩
  · exact ⟨hx.num, hx.lt32⟩
end
end Go.SX
set_option maxRecDepth 100000
set_option linter.unusedVariables false
set_option linter.unusedSectionVars false
namespace Go.SX
open Go.Proofs
variable {u w : World} {L B : List Hp} {b : Nat} {M : Hp}
theorem rep_f0 (n m : Nat) (h : n ≤ m) : ((List.replicate m (Value.cells (.float .f32 0)).toList).flatten).take (n * 1) = (List.replicate n 0).map fV := by
  have e1 : (Value.cells (.float .f32 0)).toList = [fV 0] := rfl
  have e2 : ∀ m : Nat, (List.replicate m [fV 0]).flatten = (List.replicate m 0).map fV := by
    intro m
    induction m with
    | zero => rfl
    | succ m ih => rw [List.replicate_succ, List.flatten_cons, ih]; rfl
  rw [e1, e2, Nat.mul_one, ← List.map_take, List.take_replicate, Nat.min_eq_left h]
theorem add_zero (a : Addr) : a.add 0 = a := by simp [Addr.add]
theorem Rows.head {L : List Hp} {A : Option Addr} {n m c : Nat} {vs : List Value} (h : Rows L A n 1 vs) (hm : m ≤ n) : Rows L (slA c 0 1 A) m 1 (vs.take m) := by
  have e : slA c 0 1 A = A := by
    unfold slA
    split
    · rfl
    · cases A with
      | none => rfl
      | some a => show some (a.add (0 * 1)) = some a; rw [Nat.zero_mul, add_zero]
  rw [e]
  refine ⟨by rw [List.length_take, h.1]; omega, fun hp => h.2.1 (by omega), fun ad hA => ?_⟩
  have := (h.2.2 ad hA).at_ 0 m
  rw [add_zero] at this
  simpa using this
theorem Rows.tail_ {L : List Hp} {A : Option Addr} {n m c : Nat} {vs : List Value} (h : Rows L A n 1 vs) (hm : m ≤ n) (hc : n ≤ c) : Rows L (slA c m 1 A) (n - m) 1 (vs.drop m) := by
  refine ⟨by rw [List.length_drop, h.1]; omega, fun hp => ?_, fun ad hA => ?_⟩
  · obtain ⟨ad, rfl⟩ := h.2.1 (by omega)
    unfold slA
    split
    · exact ⟨ad, rfl⟩
    · exact ⟨_, rfl⟩
  · unfold slA at hA
    split at hA
    · intro j v hv
      have : (vs.drop m).length = 0 := by rw [List.length_drop, h.1]; omega
      rw [List.eq_nil_of_length_eq_zero this] at hv
      simp at hv
    · cases A with
      | none => cases hA
      | some a =>
        cases hA
        have := (h.2.2 a rfl).at_ m (n - m)
        rw [List.take_of_length_le (by rw [List.length_drop, h.1]; omega)] at this
        simpa using this
theorem shE_back (d : Int) (e : Ev) : shE d (shE (-d) e) = e := by
  cases e
  simp only [shE]
  congr 1
  omega
theorem shE_back' (d : Int) (e : Ev) : shE (-d) (shE d e) = e := by
  cases e
  simp only [shE]
  congr 1
  omega
theorem shS_back (d : Int) (s : Sc) : shS (-d) (shS d s) = s := by
  cases s
  simp only [shS, List.map_map]
  congr 1
  · omega
  · rw [show (shE (-d) ∘ shE d) = id by funext e; exact shE_back' d e, List.map_id]
theorem Sorted.unshift {s : Sc} {cur : List Ev} {d : Int} (h : Sorted (shS d s) cur) : ∃ c, Sorted s c ∧ cur = c.map (shE d) := by
  refine ⟨cur.map (shE (-d)), ?_, ?_⟩
  · have := h.shift (-d)
    rw [shS_back] at this
    exact this
  · rw [List.map_map, show (shE d ∘ shE (-d)) = id by funext e; exact shE_back d e, List.map_id]
theorem num0 : Num .f32 0 ∧ 0 < 2 ^ 32 := ⟨⟨_, _, _, rfl⟩, by decide⟩
theorem c5 {A : Option Addr} {n c : Nat} (H : SH u w L) (hB : n ≤ 1048576 → Byt B A n) (hs : B ⊆ L) (hn : n ≤ 9223372036854775807) : Ret Try.prog 5 [.slice A n c] w (Pl u L fun v => v = .bool true) := by
  refine ent Try.func5 rfl H 76 rfl [(0, .v (.slice A n c))] rfl rfl fun a S => ?_
  by_cases hbig : n ≤ 1048576
  · refine xr hT S rfl true [.b false] 200 rfl (by (repeat' apply And.intro); all_goals first | exact True.intro | with_reducible assumption | decide +kernel | with_reducible exact Option.isSome_some | omega | with_reducible exact decide_eq_true (by omega) | with_reducible exact decide_eq_false (by omega) | with_reducible exact beq_iff_eq.2 (by omega) | with_reducible exact beq_eq_false_iff_ne.2 (by omega) | with_reducible exact bne_iff_ne.2 (by omega) | with_reducible exact bne_eq_false_iff_eq.2 (by omega) | skip) fun β a w hβ hl S => ?_
    refine xc S rfl rfl rfl rfl rfl en7 (c7 (most := 40) S.sh (hB hbig) (List.subset_append_of_subset_right _ hs) hbig (by decide) (by decide)) fun v w ⟨New, s, H, hR, hO, hne⟩ => ?_
    have S := S.retd (New := New) 15 v H rfl
    obtain ⟨A1, cb, E, ce, vs, rfl, hA1, hRA, hRE⟩ := hR
    refine xr hT S hl true [] 200 rfl (by (repeat' apply And.intro); all_goals first | exact True.intro | with_reducible assumption | decide +kernel | with_reducible exact Option.isSome_some | omega | with_reducible exact decide_eq_true (by omega) | with_reducible exact decide_eq_false (by omega) | with_reducible exact beq_iff_eq.2 (by omega) | with_reducible exact beq_eq_false_iff_ne.2 (by omega) | with_reducible exact bne_iff_ne.2 (by omega) | with_reducible exact bne_eq_false_iff_eq.2 (by omega) | skip) fun β1 a w hβ1 hl S => ?_
    refine xP S rfl rfl rfl rfl rfl rfl en13 (fun H => c13 H (hB hbig) (fun m hm => by simp [hs hm]) hbig 1 (by decide)) fun v a w ⟨x, hv, hx0, hx1⟩ S => ?_
    subst hv
    obtain ⟨d, hd⟩ := Int.eq_ofNat_of_zero_le (Int.emod_nonneg x (show (30 : Int) ≠ 0 by decide))
    have hd30 := Int.emod_lt_of_pos x (show (0 : Int) < 30 by decide)
    have hd30 : d < 30 := by omega
    refine xr hT S hl true [] 200 rfl (by (repeat' apply And.intro); all_goals first | exact True.intro | with_reducible assumption | decide +kernel | with_reducible exact Option.isSome_some | omega | with_reducible exact decide_eq_true (by omega) | with_reducible exact decide_eq_false (by omega) | with_reducible exact beq_iff_eq.2 (by omega) | with_reducible exact beq_eq_false_iff_ne.2 (by omega) | with_reducible exact bne_iff_ne.2 (by omega) | with_reducible exact bne_eq_false_iff_eq.2 (by omega) | skip) fun β2 a w hβ2 hl S => ?_
    rw [hd] at S
    have hlen := hO.len
    have hel := hO.events.1
    refine xc S rfl rfl rfl rfl rfl en14 (c14 (s := s) (A := A1) (E := E) (cb := cb) (ce := ce) (d := (d : Int)) (L := bhs β2 [BXs 0 s A1 cb E ce] ++ (New ++ L)) S.sh (hA1.mono fun _ _ h => h.mono (fun m hm => by simp [hm])) (hRA.mono (fun m hm => by simp [hm])) (hRE.mono (fun m hm => by simp [hm])) hO (by omega) (by omega)) fun v w ⟨New2, A2, c2, E2, ce2, vs2, hv, hA2, hRA2, hRE2, H⟩ => ?_
    have S := S.retd (New := New2) 22 v H rfl
    subst hv
    refine xr hT S hl true [] 200 rfl (by (repeat' apply And.intro); all_goals first | exact True.intro | with_reducible assumption | decide +kernel | with_reducible exact Option.isSome_some | omega | with_reducible exact decide_eq_true (by omega) | with_reducible exact decide_eq_false (by omega) | with_reducible exact beq_iff_eq.2 (by omega) | with_reducible exact beq_eq_false_iff_ne.2 (by omega) | with_reducible exact bne_iff_ne.2 (by omega) | with_reducible exact bne_eq_false_iff_eq.2 (by omega) | skip) fun β3 a w hβ3 hl S => ?_
    have hml : (shS (d : Int) s).events.length = s.events.length := List.length_map ..
    have hN : (shS (d : Int) s).len.toNat = d + s.len.toNat := by show (s.len + (d : Int)).toNat = _; omega
    have hcall := c9 (s := shS (d : Int) s) (A := A2) (E := E2) (cb := c2) (ce := ce2) (vs := vs2) (most := 70) S.sh (hA2.mono fun _ _ h => h.mono (fun m hm => by simp [hm])) (hRA2.mono (fun m hm => by simp [hm])) (by rw [hml]; exact hRE2.mono (fun m hm => by simp [hm])) (shS_ok hO (by omega) (by omega)) (by decide) (fun cur' hc t ht => by
      obtain ⟨c, h1, rfl⟩ := hc.unshift
      exact stepOk_sh hO h1 (by omega) (by omega))
    rw [hml, hN] at hcall
    refine xc S rfl rfl rfl rfl rfl en9 hcall fun v w ⟨cur', O1, Ao, co, hcur', hv, hOo, H⟩ => ?_
    have S := S.retd (New := [O1]) 27 v H rfl
    subst hv
    refine xr hT S hl true [] 200 rfl (by (repeat' apply And.intro); all_goals first | exact True.intro | with_reducible assumption | decide +kernel | with_reducible exact Option.isSome_some | omega | with_reducible exact decide_eq_true (by omega) | with_reducible exact decide_eq_false (by omega) | with_reducible exact beq_iff_eq.2 (by omega) | with_reducible exact beq_eq_false_iff_ne.2 (by omega) | with_reducible exact bne_iff_ne.2 (by omega) | with_reducible exact bne_eq_false_iff_eq.2 (by omega) | skip) fun β4 a w hβ4 hl S => ?_
    have hcall := c9 (s := s) (A := A1) (E := E) (cb := cb) (ce := ce) (vs := vs) (most := 40) S.sh (hA1.mono fun _ _ h => h.mono (fun m hm => by simp [hm])) (hRA.mono (fun m hm => by simp [hm])) (hRE.mono (fun m hm => by simp [hm])) hO (by decide) (fun cur hc t ht => (good_all hO hc t (by omega)).1)
    refine xc S rfl rfl rfl rfl rfl en9 hcall fun v w ⟨cur, O2, Ao2, co2, hcur, hv, hOo2, H⟩ => ?_
    have S := S.retd (New := [O2]) 32 v H rfl
    subst hv
    have hcc := hcur.exists hcur'
    subst hcc
    have hev0 : ∀ e ∈ cur, (0 : Int) ≤ e.at_ := fun e he => (hcur.ev hO e he).1.1
    have hx1 : ((List.range (d + s.len.toNat)).map (smpP (shS (d : Int) s) (cur.map (shE (d : Int))))).take d = List.replicate d 0 := by
      rw [← List.map_take, List.take_range, Nat.min_eq_left (by omega)]
      refine List.ext_getElem (by simp) fun i h1 h2 => ?_
      simp only [List.getElem_map, List.getElem_range, List.getElem_replicate]
      exact smp_before hev0 hO.ceil hO.rel (by simpa using h2)
    have hx2 : ((List.range (d + s.len.toNat)).map (smpP (shS (d : Int) s) (cur.map (shE (d : Int))))).drop d = (List.range s.len.toNat).map (smpP s cur) := by
      refine List.ext_getElem (by simp) fun i h1 h2 => ?_
      simp only [List.getElem_drop, List.getElem_map, List.getElem_range]
      exact smp_sh hev0 hO.ceil hO.rel i
    have hcap := hOo.cap
    refine xr hT S hl true [.b false, .b false, .b false, .b false] 200 rfl (by (repeat' apply And.intro); all_goals first | exact True.intro | with_reducible assumption | decide +kernel | with_reducible exact Option.isSome_some | omega | with_reducible exact decide_eq_true (by omega) | with_reducible exact decide_eq_false (by omega) | with_reducible exact beq_iff_eq.2 (by omega) | with_reducible exact beq_eq_false_iff_ne.2 (by omega) | with_reducible exact bne_iff_ne.2 (by omega) | with_reducible exact bne_eq_false_iff_eq.2 (by omega) | skip) fun β5 a w hβ5 hl S => ?_
    have wb := S.wb
    refine xhs2 hT [0, 1, 2, 3, 6, 7, 8, 9, 10, 12, 13, 14, 15, 17, 18, 19, 20, 21] [0, 1, 2, 3] (pre := []) _ [] rfl (List.append_nil _).symm S (by decide +kernel) rfl true [] rfl (by (repeat' apply And.intro); all_goals first | exact True.intro | with_reducible assumption | decide +kernel | with_reducible exact Option.isSome_some | omega | with_reducible exact decide_eq_true (by omega) | with_reducible exact decide_eq_false (by omega) | with_reducible exact beq_iff_eq.2 (by omega) | with_reducible exact beq_eq_false_iff_ne.2 (by omega) | with_reducible exact bne_iff_ne.2 (by omega) | with_reducible exact bne_eq_false_iff_eq.2 (by omega) | skip) fun a w S => ?_
    refine xt1 4 (by decide +kernel) (by decide +kernel) rfl ?_
    refine xmake hT S rfl rfl rfl rfl rfl rfl rfl rfl (n0 := d) (m := d) rfl rfl (Nat.le_refl _) (by show d * 4 ≤ _; omega) (by decide) fun v' Mz a w hOz S => ?_
    obtain ⟨Az, cz, rfl, _⟩ := hOz.form
    refine xr hT S hl true [] 200 rfl (by (repeat' apply And.intro); all_goals first | exact True.intro | with_reducible assumption | decide +kernel | with_reducible exact Option.isSome_some | omega | with_reducible exact decide_eq_true (by omega) | with_reducible exact decide_eq_false (by omega) | with_reducible exact beq_iff_eq.2 (by omega) | with_reducible exact beq_eq_false_iff_ne.2 (by omega) | with_reducible exact bne_iff_ne.2 (by omega) | with_reducible exact bne_eq_false_iff_eq.2 (by omega) | skip) fun β6 a w hβ6 hl S => ?_
    refine xah S hβ6 wb (pre := []) rfl (List.append_nil _).symm ?_
    refine xj ?_
    refine xt1 5 (by decide +kernel) (by decide +kernel) rfl ?_
    have hzz : Own Mz 23 1 (.slice Az d cz) d ((List.replicate d 0).map fV) := by
      have := rep_f0 d d (Nat.le_refl _)
      rw [← this]
      exact hOz
    refine xP S rfl rfl rfl rfl rfl rfl en10 (fun H => c10 (n := d) (xs := List.replicate d 0) H (by
      have := (hOo.rows (L := bhs β6 [(1, 27, [.v (.int .i64 (s.len + (d : Int))), .v (.int .i64 s.voices), .v (.float .f32 s.ceil), .v (.float .f32 s.rel), .v (.slice A2 s.bodies.length c2), .v (.slice E2 s.events.length ce2)]), BXs 0 s A1 cb E ce] ++ (Mz :: ([O2] ++ ([O1] ++ (New2 ++ (New ++ L)))))) (by simp)).head (c := co) (m := d) (by omega)
      rw [← List.map_take, hx1] at this
      exact this) (hzz.rows (by simp)) (by omega) (fun y hy => by rw [(List.mem_replicate.1 hy).2]; exact num0)) fun v a w hv S => ?_
    subst hv
    refine xr hT S hl true [] 200 rfl (by (repeat' apply And.intro); all_goals first | exact True.intro | with_reducible assumption | decide +kernel | with_reducible exact Option.isSome_some | omega | with_reducible exact decide_eq_true (by omega) | with_reducible exact decide_eq_false (by omega) | with_reducible exact beq_iff_eq.2 (by omega) | with_reducible exact beq_eq_false_iff_ne.2 (by omega) | with_reducible exact bne_iff_ne.2 (by omega) | with_reducible exact bne_eq_false_iff_eq.2 (by omega) | skip) fun β7 a w hβ7 hl S => ?_
    refine xah S (hβ6.trans hβ7) wb (pre := []) rfl (List.append_nil _).symm ?_
    refine xj ?_
    refine xth hT [6, 7, 8, 9, 10] 12 rfl S (hβ6.trans hβ7) wb (pre := []) rfl (List.append_nil _).symm (by decide +kernel) rfl true [.b true] rfl (by (repeat' apply And.intro); all_goals first | exact True.intro | with_reducible assumption | decide +kernel | with_reducible exact Option.isSome_some | omega | with_reducible exact decide_eq_true (by omega) | with_reducible exact decide_eq_false (by omega) | with_reducible exact beq_iff_eq.2 (by omega) | with_reducible exact beq_eq_false_iff_ne.2 (by omega) | with_reducible exact bne_iff_ne.2 (by omega) | with_reducible exact bne_eq_false_iff_eq.2 (by omega) | skip) fun a S => ?_
    have ens : d + s.len.toNat - Int.toNat (d : Int) = s.len.toNat := by omega
    rw [ens] at S
    refine xt1 11 (by decide +kernel) (by decide +kernel) rfl ?_
    refine xP S rfl rfl rfl rfl rfl rfl en10 (fun H => c10 (n := s.len.toNat) (xs := (List.range s.len.toNat).map (smpP s cur)) H (by
      have := (hOo.rows (L := bhs β7 [(1, 27, [.v (.int .i64 (s.len + (d : Int))), .v (.int .i64 s.voices), .v (.float .f32 s.ceil), .v (.float .f32 s.rel), .v (.slice A2 s.bodies.length c2), .v (.slice E2 s.events.length ce2)]), BXs 0 s A1 cb E ce] ++ (Mz :: ([O2] ++ ([O1] ++ (New2 ++ (New ++ L)))))) (by simp)).tail_ (c := co) (m := d) (by omega) hcap
      rw [← List.map_drop, hx2, Nat.add_sub_cancel_left] at this
      exact this) (hOo2.rows (by simp)) (by omega) (fun y hy => by
        obtain ⟨t, ht, rfl⟩ := List.mem_map.1 hy
        exact smp_num hO hcur (by have := List.mem_range.1 ht; omega))) fun v a w hv S => ?_
    subst hv
    refine xr hT S hl true [] 200 rfl (by (repeat' apply And.intro); all_goals first | exact True.intro | with_reducible assumption | decide +kernel | with_reducible exact Option.isSome_some | omega | with_reducible exact decide_eq_true (by omega) | with_reducible exact decide_eq_false (by omega) | with_reducible exact beq_iff_eq.2 (by omega) | with_reducible exact beq_eq_false_iff_ne.2 (by omega) | with_reducible exact bne_iff_ne.2 (by omega) | with_reducible exact bne_eq_false_iff_eq.2 (by omega) | skip) fun β8 a w hβ8 hl S => ?_
    refine xah S ((hβ6.trans hβ7).trans hβ8) wb (pre := []) rfl (List.append_nil _).symm ?_
    refine xj ?_
    refine xth hT [12, 13, 14, 15, 17, 18, 19] 4 rfl S ((hβ6.trans hβ7).trans hβ8) wb (pre := []) rfl (List.append_nil _).symm (by decide +kernel) rfl true [.b true] rfl (by (repeat' apply And.intro); all_goals first | exact True.intro | with_reducible assumption | decide +kernel | with_reducible exact Option.isSome_some | omega | with_reducible exact decide_eq_true (by omega) | with_reducible exact decide_eq_false (by omega) | with_reducible exact beq_iff_eq.2 (by omega) | with_reducible exact beq_eq_false_iff_ne.2 (by omega) | with_reducible exact bne_iff_ne.2 (by omega) | with_reducible exact bne_eq_false_iff_eq.2 (by omega) | skip) fun a S => ?_
    refine xt1 16 (by decide +kernel) (by decide +kernel) rfl ?_
    have h15 : ∀ {w : World} {L' : List Hp}, SH u w L' → New2 ⊆ L' → Ret Try.prog 15 [.agg #[.int .i64 (s.len + (d : Int)), .int .i64 s.voices, .float .f32 s.ceil, .float .f32 s.rel, .slice A2 s.bodies.length c2, .slice E2 s.events.length ce2], .int .i64 (d : Int), .int .i64 3000] w (Pl u L' fun v => v = .int .i64 s.events.length) := fun H hs => by
      have := c15 (s := shS (d : Int) s) (A := A2) (E := E2) (cb := c2) (ce := ce2) (vs := vs2) (lo := (d : Int)) (hi := 3000) (most := 70) H (hA2.mono fun _ _ h => h.mono hs) (hRA2.mono hs) (by rw [hml]; exact hRE2.mono hs) (shS_ok hO (by omega) (by omega)) (by decide) (fun e he => by
        obtain ⟨e0, he0, rfl⟩ := List.mem_map.1 he
        have := (hO.events.2 e0 he0).1
        exact ⟨by show (d : Int) ≤ e0.at_ + d; omega, by show e0.at_ + (d : Int) < 3000; omega⟩)
      unfold SVal at this
      rw [hml] at this
      exact this
    refine xP S rfl rfl rfl rfl rfl rfl en15 (fun H => h15 H (fun m hm => by simp [hm])) fun v a w hv S => ?_
    subst hv
    refine xr hT S hl true [] 200 rfl (by (repeat' apply And.intro); all_goals first | exact True.intro | with_reducible assumption | decide +kernel | with_reducible exact Option.isSome_some | omega | with_reducible exact decide_eq_true (by omega) | with_reducible exact decide_eq_false (by omega) | with_reducible exact beq_iff_eq.2 (by omega) | with_reducible exact beq_eq_false_iff_ne.2 (by omega) | with_reducible exact bne_iff_ne.2 (by omega) | with_reducible exact bne_eq_false_iff_eq.2 (by omega) | skip) fun β9 a w hβ9 hl S => ?_
    refine xah S (((hβ6.trans hβ7).trans hβ8).trans hβ9) wb (pre := []) rfl (List.append_nil _).symm ?_
    refine xj ?_
    refine xth hT [20, 21] 1 rfl S (((hβ6.trans hβ7).trans hβ8).trans hβ9) wb (pre := []) rfl (List.append_nil _).symm (by decide +kernel) rfl true [] rfl (by (repeat' apply And.intro); all_goals first | exact True.intro | with_reducible assumption | decide +kernel | with_reducible exact Option.isSome_some | omega | with_reducible exact decide_eq_true (by omega) | with_reducible exact decide_eq_false (by omega) | with_reducible exact beq_iff_eq.2 (by omega) | with_reducible exact beq_eq_false_iff_ne.2 (by omega) | with_reducible exact bne_iff_ne.2 (by omega) | with_reducible exact bne_eq_false_iff_eq.2 (by omega) | skip) fun a S => ?_
    refine xt 22 _ rfl rfl (by decide +kernel) ?_
    refine xr hT S hl true [] 200 rfl (by (repeat' apply And.intro); all_goals first | exact True.intro | with_reducible assumption | decide +kernel | with_reducible exact Option.isSome_some | omega | with_reducible exact decide_eq_true (by omega) | with_reducible exact decide_eq_false (by omega) | with_reducible exact beq_iff_eq.2 (by omega) | with_reducible exact beq_eq_false_iff_ne.2 (by omega) | with_reducible exact bne_iff_ne.2 (by omega) | with_reducible exact bne_eq_false_iff_eq.2 (by omega) | skip) fun β10 a w hβ10 hl S => ?_
    refine xret hT S rfl ⟨_, rfl, ?_, S.tl'.sub ?_⟩
    · show Value.bool ((s.events.length : Int) == (s.events.length : Int)) = _
      rw [beq_self_eq_true]
    · exact ((((List.sublist_append_right New L).trans (List.sublist_append_right New2 _)).trans (List.sublist_append_right [O1] _)).trans (List.sublist_append_right [O2] _)).cons Mz
  · refine xr hT S rfl true [.b true] 200 rfl (by (repeat' apply And.intro); all_goals first | exact True.intro | with_reducible assumption | decide +kernel | with_reducible exact Option.isSome_some | omega | with_reducible exact decide_eq_true (by omega) | with_reducible exact decide_eq_false (by omega) | with_reducible exact beq_iff_eq.2 (by omega) | with_reducible exact beq_eq_false_iff_ne.2 (by omega) | with_reducible exact bne_iff_ne.2 (by omega) | with_reducible exact bne_eq_false_iff_eq.2 (by omega) | skip) fun β a w hβ hl S => ?_
    exact xret hT S rfl ⟨_, rfl, rfl, S.sh⟩
end Go.SX
