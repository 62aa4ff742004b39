import Derived.Test.YtipgdmaagiijmaaG6
set_option maxRecDepth 100000
set_option linter.unusedVariables false
set_option linter.unusedSectionVars false
namespace Go.SX
open Go.Proofs
variable {u w : World} {L B : List Hp} {b : Nat} {M : Hp}
def VA (s : Sc) (cur : List Ev) (t : Nat) : List Vc := (arr s cur (runP s cur t)).voices
def I11 (u : World) (L : List Hp) (b : Nat) (s : Sc) (A : Option Addr) (cb : Nat) (E : Option Addr) (ce : Nat) (X : Value) (cur : List Ev) (n : Nat) (A7 : Option Addr) (t : Nat) (a : Act) (w : World) : Prop :=
  ∃ β Ms O, β.length = 1 ∧ t ≤ n ∧ PlM b s A cb E ce X (runP s cur t) Ms ∧ (runP s cur t).done ≤ s.events.length ∧ Own O 3 1 (.slice A7 0 0) 0 [] ∧
    St β u w a 50 [(6, .v (.pointer (some ⟨b, 0, none⟩))), (7, .v (.slice A7 0 0)), (26, .v (.int .i64 n)), (27, .v (.int .i64 (t : Int)))]
      [BXs 0 s A cb E ce] (O :: (Ms ++ L))
theorem c11 {s : Sc} {A E : Option Addr} {cb ce n : Nat} {vs : List Value} (H : SH u w L) (hA : All2 (RBod L) vs s.bodies) (hRA : Rows L A s.bodies.length 1 vs) (hRE : Rows L E s.events.length 6 (s.events.flatMap Ev.cells)) (h : ScOk 40 s) (hn : (n : Int) < s.len) :
    Ret Try.prog 11 [SVal s A cb E ce, .int .i64 (n : Int)] w
      fun v w' => ∃ cur O Ao co, Sorted s cur ∧ v = .tuple #[.slice Ao (VA s cur n).length co, .bool true] ∧ SH u w' (O :: L) := by
  have hlen := h.len
  have hne := h.events.1
  refine ent Try.func11 rfl H 50 rfl [(0, .v (SVal s A cb E ce)), (1, .v (.int .i64 (n : Int)))] rfl rfl fun a S => ?_
  refine xr hT S rfl true [] 200 rfl (by (repeat' apply And.intro); all_goals first | exact True.intro | with_reducible assumption | decide +kernel | with_reducible exact Option.isSome_some | omega | with_reducible exact decide_eq_true (by omega) | with_reducible exact decide_eq_false (by omega) | with_reducible exact beq_iff_eq.2 (by omega) | with_reducible exact beq_eq_false_iff_ne.2 (by omega) | with_reducible exact bne_iff_ne.2 (by omega) | with_reducible exact bne_eq_false_iff_eq.2 (by omega) | skip) fun β a w hβ hl S => ?_
  have hv : ∀ {L'}, L ⊆ L' → RSc L' (SVal s A cb E ce) s := fun hs => ⟨A, cb, E, ce, vs, rfl, hA.mono fun _ _ h => h.mono hs, hRA.mono hs, hRE.mono hs⟩
  refine xP S rfl rfl rfl rfl rfl rfl en19 (fun H => c19 H (hv (List.subset_append_right _ _)) h (by decide)) fun v a w hvv S => ?_
  subst hvv
  refine xr hT S hl true [.b false, .b false, .b false] 200 rfl (by (repeat' apply And.intro); all_goals first | exact True.intro | with_reducible assumption | decide +kernel | with_reducible exact Option.isSome_some | omega | with_reducible exact decide_eq_true (by omega) | with_reducible exact decide_eq_false (by omega) | with_reducible exact beq_iff_eq.2 (by omega) | with_reducible exact beq_eq_false_iff_ne.2 (by omega) | with_reducible exact bne_iff_ne.2 (by omega) | with_reducible exact bne_eq_false_iff_eq.2 (by omega) | skip) fun β1 a w hβ1 hl S => ?_
  have hss := List.subset_append_right (bhs β1 [BXs 0 s A cb E ce]) L
  refine xc S rfl rfl rfl rfl rfl en23 (c23 (s := s) (A := A) (E := E) (cb := cb) (ce := ce) S.sh (hA.mono fun _ _ h => h.mono hss) (hRA.mono hss) (hRE.mono hss) h (by decide)) fun v w ⟨b, M, cur, Ax, cx, Ms, hv, hcur, hOx, hP, H⟩ => ?_
  subst hv
  have S := S.retd (New := Ms ++ [M]) 24 (.pointer (some ⟨b, 0, none⟩)) (by rw [List.append_assoc]; exact H) rfl
  have hev := hcur.ev h
  have hl100 : cur.length ≤ 100 := by rw [hcur.len]; omega
  refine xr hT S hl true [] 200 rfl (by (repeat' apply And.intro); all_goals first | exact True.intro | with_reducible assumption | decide +kernel | with_reducible exact Option.isSome_some | omega | with_reducible exact decide_eq_true (by omega) | with_reducible exact decide_eq_false (by omega) | with_reducible exact beq_iff_eq.2 (by omega) | with_reducible exact beq_eq_false_iff_ne.2 (by omega) | with_reducible exact bne_iff_ne.2 (by omega) | with_reducible exact bne_eq_false_iff_eq.2 (by omega) | skip) fun β2 a w hβ2 hl S => ?_
  have S := S.unbox (d := 7) rfl
  have S : St β2 u w a 50 _ _ (_ :: ((Ms ++ [M]) ++ L)) := S
  rw [List.append_assoc] at S
  obtain ⟨β3, hl3, S⟩ := (S.keep [6, 7, 26, 27] rfl).cut 1 (by rw [hl]; simp) (by simp [SV.wfs, SV.wf]) (by simp [SV.wfs, SV.wf])
  refine xloop (I11 u ([M] ++ L) b s A cb E ce (.slice Ax s.events.length cx) cur n _) (fun t => n - t) 0 ⟨β3, Ms, _, hl3, Nat.zero_le _, hP, Nat.zero_le _, Own.empty _ 3 1, S⟩ fun t a w ⟨β, Ms, O, hl, ht, hP, hdn, hO, S⟩ => ?_
  have hg := runP_gok (evs := cur) h.sok hev hl100 t (by omega)
  by_cases hin : t < n
  · have et : (t : Int) + 1 = ((t + 1 : Nat) : Int) := by omega
    refine xr hT S hl true [.b true] 200 rfl (by (repeat' apply And.intro); all_goals first | exact True.intro | with_reducible assumption | decide +kernel | with_reducible exact Option.isSome_some | omega | with_reducible exact decide_eq_true (by omega) | with_reducible exact decide_eq_false (by omega) | with_reducible exact beq_iff_eq.2 (by omega) | with_reducible exact beq_eq_false_iff_ne.2 (by omega) | with_reducible exact bne_iff_ne.2 (by omega) | with_reducible exact bne_eq_false_iff_eq.2 (by omega) | skip) fun β1 a w hβ1 hl S => ?_
    have hsub : L ⊆ (bhs β1 [BXs 0 s A cb E ce] ++ [O]) ++ ([M] ++ L) := fun m hm => by simp [hm]
    have hcall := c24 (p := runP s cur t) (K := 31 + 2 * t) (evs := cur) (S.sh.perm (perm_call _ _ _ _)) hP hg h.sok hev (SD.mono (L := L) ⟨hA, hRA⟩ hsub) (hOx.rows (by simp)) hcur.len (by omega) hdn (by omega) (by omega) (by rw [runP_now]; omega)
    refine xc S rfl rfl rfl rfl rfl en24 hcall fun v w ⟨Ms, M2, A2, c2, hv, hO2, hP, hg2, hdn, H⟩ => ?_
    subst hv
    have S := S.put (d := some 30) (v := .slice A2 (outsP s cur (runP s cur t)).length c2) (H.perm (perm_back _ _ _ _ _)) rfl
    refine xr hT S hl true [] 200 rfl (by (repeat' apply And.intro); all_goals first | exact True.intro | with_reducible assumption | decide +kernel | with_reducible exact Option.isSome_some | omega | with_reducible exact decide_eq_true (by omega) | with_reducible exact decide_eq_false (by omega) | with_reducible exact beq_iff_eq.2 (by omega) | with_reducible exact beq_eq_false_iff_ne.2 (by omega) | with_reducible exact bne_iff_ne.2 (by omega) | with_reducible exact bne_eq_false_iff_eq.2 (by omega) | skip) fun β2 a w hβ2 hl S => ?_
    rw [et] at S
    exact xj ⟨t + 1, ⟨β2, Ms, O, hl, by omega, hP, hdn, hO, (S.keep [6, 7, 26, 27] rfl).sub (List.sublist_cons_self _ _)⟩, by omega⟩
  · have e1 : t = n := by omega
    subst e1
    refine xr hT S hl true [.b false] 200 rfl (by (repeat' apply And.intro); all_goals first | exact True.intro | with_reducible assumption | decide +kernel | with_reducible exact Option.isSome_some | omega | with_reducible exact decide_eq_true (by omega) | with_reducible exact decide_eq_false (by omega) | with_reducible exact beq_iff_eq.2 (by omega) | with_reducible exact beq_eq_false_iff_ne.2 (by omega) | with_reducible exact bne_iff_ne.2 (by omega) | with_reducible exact bne_eq_false_iff_eq.2 (by omega) | skip) fun β1 a w hβ1 hl S => ?_
    have hsub : L ⊆ (bhs β1 [BXs 0 s A cb E ce] ++ [O]) ++ ([M] ++ L) := fun m hm => by simp [hm]
    have hcall := c25 (p := runP s cur t) (K := 31 + 2 * t) (evs := cur) (S.sh.perm (perm_call _ _ _ _)) hP hg h.sok hev (SD.mono (L := L) ⟨hA, hRA⟩ hsub) (hOx.rows (by simp)) hcur.len (by omega) hdn (by omega)
    refine xc S rfl rfl rfl rfl rfl en25 hcall fun v w ⟨Ms, ⟨Mv, Mt, Av, cv, At, ct, vr, hMs, hvr, hok, hO1, hO2⟩, hg2, hdn, H⟩ => ?_
    have S := S.put (d := some 33) (v := v) (H.perm (perm_call _ _ _ _).symm) rfl
    subst hMs
    have hlv : vr.length = (VA s cur t).length := by rw [← List.length_map (f := VR.v), hvr]; rfl
    have hmost : vr.length ≤ 4 := by
      have := hg2.most
      have h4 := h.voices.2
      have h5 : ((VA s cur t).length : Int) ≤ s.voices := hg2.most
      omega
    have hPH : ∀ {L'}, (PH b s A cb E ce (.slice Ax s.events.length cx) (arr s cur (runP s cur t)).done (arr s cur (runP s cur t)).now (.slice Av vr.length cv) (.slice At vr.length ct) (arr s cur (runP s cur t)).begun) ∈ L' → RdV L' (Addr.add ⟨b, 0, none⟩ 9) [.slice Av vr.length cv] := fun hM => by
      rw [add0]
      exact RdV.at0 hM rfl
    refine xr hT S hl true [.v [.slice Av vr.length cv]] 200 rfl ?_ fun β2 a w hβ2 hl S => ?_
    · (repeat' apply And.intro); all_goals first | exact True.intro | with_reducible assumption | decide +kernel | with_reducible exact Option.isSome_some | omega | with_reducible exact decide_eq_true (by omega) | with_reducible exact decide_eq_false (by omega) | with_reducible exact beq_iff_eq.2 (by omega) | with_reducible exact beq_eq_false_iff_ne.2 (by omega) | with_reducible exact bne_iff_ne.2 (by omega) | with_reducible exact bne_eq_false_iff_eq.2 (by omega) | skip
      all_goals exact hPH (by simp)
    refine xloop (fun (j : Nat) a w => ∃ β O Ao co xs, β.length = 1 ∧ j ≤ vr.length ∧ Own O 3 1 (.slice Ao j co) j xs ∧ St β u w a 50 [(7, .v (.slice Ao j co)), (37, .v (.slice Av vr.length cv)), (38, .v (.int .i64 vr.length)), (39, .v (.int .i64 (j : Int)))] [BXs 0 s A cb E ce] (O :: (Mv :: L))) (fun j => vr.length - j) 0
      ⟨β2, O, _, 0, _, hl, Nat.zero_le _, hO, (S.keep [7, 37, 38, 39] rfl).sub (((((List.sublist_append_right [M] L).trans (List.sublist_append_right (vr.flatMap VR.hps) _)).cons Mt).cons_cons Mv).cons _ |>.cons_cons O)⟩ fun j a w ⟨β, O, Ao, co, xs, hl, hj, hO, S⟩ => ?_
    by_cases hjn : j < vr.length
    · have hOr : Rows (O :: Mv :: L) Av vr.length 4 (vr.flatMap VR.cells) := hO1.rows (by simp)
      obtain ⟨ad, rfl⟩ := hOr.2.1 (by omega)
      have hc := (hOr.2.2 ad rfl).elem vr_len hjn
      have ej : (j : Int) + 1 = ((j + 1 : Nat) : Int) := by omega
      refine xr hT S hl true [.b true, .v (vr[j]).cells] 200 rfl ?_ fun β2 a w hβ2 hl S => ?_
      · (repeat' apply And.intro); all_goals first | exact True.intro | with_reducible assumption | decide +kernel | with_reducible exact Option.isSome_some | omega | with_reducible exact decide_eq_true (by omega) | with_reducible exact decide_eq_false (by omega) | with_reducible exact beq_iff_eq.2 (by omega) | with_reducible exact beq_eq_false_iff_ne.2 (by omega) | with_reducible exact bne_iff_ne.2 (by omega) | with_reducible exact bne_eq_false_iff_eq.2 (by omega) | skip
        all_goals (show RdV _ (ad.add (Int.toNat (j : Int) * 4)) _; rw [Int.toNat_natCast]; exact hc)
      refine xapp hT S rfl rfl rfl rfl rfl rfl rfl rfl hO rfl rfl (news := [.int .i64 vr[j].v.body]) (S.boxCells (i := 2) (t := 3) (cs := [.v (.int .i64 vr[j].v.body)]) rfl) rfl (by simp [Value.oneCell']) (by show (j + 1) * 8 ≤ _; omega) (by simp only [maxLen]; omega) fun v' O a w hO S => ?_
      obtain ⟨Ao, co, rfl, _⟩ := hO.form
      refine xr hT S hl true [] 200 rfl (by (repeat' apply And.intro); all_goals first | exact True.intro | with_reducible assumption | decide +kernel | with_reducible exact Option.isSome_some | omega | with_reducible exact decide_eq_true (by omega) | with_reducible exact decide_eq_false (by omega) | with_reducible exact beq_iff_eq.2 (by omega) | with_reducible exact beq_eq_false_iff_ne.2 (by omega) | with_reducible exact bne_iff_ne.2 (by omega) | with_reducible exact bne_eq_false_iff_eq.2 (by omega) | skip) fun β3 a w hβ3 hl S => ?_
      rw [ej] at S
      obtain ⟨βz, hlz, S⟩ := ((S.keep [7, 37, 38, 39] rfl).dropb.dropb).cut 1 (by rw [hl]; simp) (by simp [SV.wfs, SV.wf]) (by simp [SV.wfs, SV.wf])
      exact xj ⟨j + 1, ⟨βz, O, Ao, co, _, hlz, by omega, hO, S⟩, by omega⟩
    · have e1 : j = vr.length := by omega
      subst e1
      refine xr hT S hl true [.b false] 200 rfl (by (repeat' apply And.intro); all_goals first | exact True.intro | with_reducible assumption | decide +kernel | with_reducible exact Option.isSome_some | omega | with_reducible exact decide_eq_true (by omega) | with_reducible exact decide_eq_false (by omega) | with_reducible exact beq_iff_eq.2 (by omega) | with_reducible exact beq_eq_false_iff_ne.2 (by omega) | with_reducible exact bne_iff_ne.2 (by omega) | with_reducible exact bne_eq_false_iff_eq.2 (by omega) | skip) fun β4 a w hβ4 hl S => ?_
      refine xret hT S rfl ⟨_, rfl, cur, O, Ao, co, hcur, by rw [← hlv]; rfl, S.tl'.sub ((List.sublist_cons_self _ _).cons_cons O)⟩
end Go.SX
set_option maxRecDepth 100000
set_option linter.unusedVariables false
set_option linter.unusedSectionVars false
namespace Go.SX
open Go.Proofs
variable {u w : World} {L B : List Hp} {b : Nat} {M : Hp}
/-! ### the tracks: which voice they are of -/
structure Tok (p : Pz) : Prop where
  lt : ∀ v ∈ p.voices, v.track < p.begun
theorem Tok.happen {s : Sc} {e : Ev} {p : Pz} (h : Tok p) : Tok { happen s e p with done := p.done + 1 } := by
  refine ⟨fun v hv => ?_⟩
  unfold Go.SX.happen at hv ⊢
  split at hv
  · rename_i h1
    rw [if_pos h1]
    simp only at hv ⊢
    rcases List.mem_append.1 hv with hv | hv
    · have : v ∈ p.voices := by
        split at hv
        · exact List.mem_of_mem_drop hv
        · exact hv
      have := h.lt v this
      omega
    · rw [List.mem_singleton.1 hv]
      show p.begun < p.begun + 1
      omega
  · rename_i h1
    rw [if_neg h1]
    split at hv
    · rename_i h2
      rw [if_pos h2]
      obtain ⟨v0, hv0, rfl⟩ := List.mem_map.1 hv
      have := h.lt v0 hv0
      split
      · exact this
      · exact this
    · rename_i h2
      rw [if_neg h2]
      exact h.lt v (List.mem_filter.1 hv).1
theorem Tok.arrL {s : Sc} : ∀ (l : List Ev) {q : Pz}, Tok q → Tok (arrL s l q)
  | [], q, h => h
  | e :: r, q, h => by
    rw [Go.SX.arrL]
    split
    · exact Tok.arrL r h.happen
    · exact h
theorem Tok.arr {s : Sc} {evs : List Ev} {q : Pz} (h : Tok q) : Tok (arr s evs q) := Tok.arrL _ h
theorem Tok.run {s : Sc} {evs : List Ev} : ∀ t, Tok (runP s evs t)
  | 0 => ⟨fun v hv => by cases hv⟩
  | t + 1 => ⟨fun v hv => by
      have hv : v ∈ (Go.SX.arr s evs (runP s evs t)).voices.map Vc.next := hv
      obtain ⟨v0, hv0, rfl⟩ := List.mem_map.1 hv
      exact (Tok.run (s := s) (evs := evs) t).arr.lt v0 hv0⟩
theorem begun_mono_L {s : Sc} : ∀ (l : List Ev) (q : Pz), q.begun ≤ (arrL s l q).begun
  | [], q => Nat.le_refl _
  | e :: r, q => by
    rw [arrL]
    split
    · refine Nat.le_trans ?_ (begun_mono_L r _)
      show q.begun ≤ (happen s e q).begun
      unfold happen
      split
      · simp only; omega
      · split <;> exact Nat.le_refl _
    · exact Nat.le_refl _
/-- a row of samples in memory -/
structure RW where
  g : Nat
  c : Nat
  h : Hp
  xs : List Nat
def RW.val (N : Nat) (r : RW) : Value := .slice (some ⟨r.g, 0, none⟩) N r.c
def RW.ok (N : Nat) (r : RW) : Prop := Own r.h 23 1 (.slice (some ⟨r.g, 0, none⟩) N r.c) N (r.xs.map fV)
theorem RW.ok.len {N : Nat} {r : RW} (h : r.ok N) : r.xs.length = N := by have := h.1; rw [List.length_map] at this; omega
/-- where no voice of the track sounds, the row is 0 -/
def RZ (s : Sc) (cur : List Ev) (t : Nat) (rws : List RW) : Prop := ∀ k r, rws[k]? = some r → ∀ j, (t ≤ j ∨ ∀ v ∈ VA s cur j, v.track ≠ k) → r.xs.getD j 0 = 0
theorem RZ.step {s : Sc} {cur : List Ev} {t : Nat} {rws : List RW} (h : RZ s cur t rws) : RZ s cur (t + 1) rws := fun k r hk j hj => h k r hk j (by
  rcases hj with hj | hj
  · exact .inl (by omega)
  · exact .inr hj)
theorem RZ.add {s : Sc} {cur : List Ev} {t : Nat} {rws : List RW} (h : RZ s cur t rws) {r : RW} (hr : ∀ j, r.xs.getD j 0 = 0) : RZ s cur t (rws ++ [r]) := by
  intro k q hk j hj
  by_cases hlt : k < rws.length
  · rw [List.getElem?_append_left hlt] at hk
    exact h k q hk j hj
  · rw [List.getElem?_append_right (by omega)] at hk
    have : q = r := by
      cases hkk : k - rws.length with
      | zero => rw [hkk] at hk; simpa using hk.symm
      | succ z => rw [hkk] at hk; simp at hk
    rw [this]
    exact hr j
theorem RZ.set {s : Sc} {cur : List Ev} {t k : Nat} {rws : List RW} (h : RZ s cur (t + 1) rws) {r r' : RW} {x : Nat} (hk : rws[k]? = some r) (hx : r'.xs = r.xs.set t x) (hv : ∃ v ∈ VA s cur t, v.track = k) : RZ s cur (t + 1) (rws.set k r') := by
  intro i q hi j hj
  by_cases hik : k = i
  · subst hik
    have hlt : k < rws.length := (List.getElem?_eq_some_iff.1 hk).1
    rw [List.getElem?_set_self hlt] at hi
    cases hi
    rw [hx]
    by_cases hjt : t = j
    · subst hjt
      obtain ⟨v, hv1, hv2⟩ := hv
      rcases hj with hj | hj
      · omega
      · exact absurd hv2 (hj v hv1)
    · have := h k r hk j hj
      rw [List.getD_eq_getElem?_getD] at this ⊢
      rw [List.getElem?_set_ne hjt]
      exact this
  · rw [List.getElem?_set_ne hik] at hi
    exact h i q hi j hj
def I12 (u : World) (L : List Hp) (b : Nat) (s : Sc) (A : Option Addr) (cb : Nat) (E : Option Addr) (ce : Nat) (X : Value) (cur : List Ev) (N : Nat) (t : Nat) (a : Act) (w : World) : Prop :=
  ∃ β Ms O Ao co rws, β.length = 1 ∧ t ≤ N ∧ PlM b s A cb E ce X (runP s cur t) Ms ∧ (runP s cur t).done ≤ s.events.length ∧ List.length rws = (runP s cur t).begun ∧ (∀ r ∈ rws, RW.ok N r) ∧ RZ s cur t rws ∧
    Own O 33 1 (.slice Ao (List.length rws) co) (List.length rws) (List.map (RW.val N) rws) ∧
    St β u w a 59 [(1, .p 0 0), (4, .v (.pointer (some ⟨b, 0, none⟩))), (5, .v (.slice Ao (List.length rws) co)), (17, .v (.int .i64 s.len)), (18, .v (.int .i64 (t : Int)))]
      [BXs 0 s A cb E ce] (O :: (Ms ++ (List.map RW.h rws ++ L)))
theorem perm_rows (O M : Hp) (Ms R L : List Hp) : (O :: M :: (Ms ++ (R ++ L))).Perm (O :: (R ++ (M :: (Ms ++ L)))) := by
  refine List.Perm.cons _ ?_
  refine List.Perm.trans ?_ (List.perm_middle).symm
  exact (List.perm_append_comm_assoc Ms R L).cons M
/-- the rows, as the voices' outputs are put into them -/
def J12 (u : World) (L1 : List Hp) (bx : BL) (b : Nat) (s : Sc) (cur : List Ev) (N t : Nat) (q : Nat) (A2 : Option Addr) (c2 m : Nat) (i : Nat) (a : Act) (w : World) : Prop :=
  ∃ β O Ao co rws, β.length = 1 ∧ i ≤ m ∧ List.length rws = q ∧ (∀ r ∈ rws, RW.ok N r) ∧ RZ s cur (t + 1) rws ∧ Own O 33 1 (.slice Ao (List.length rws) co) (List.length rws) (List.map (RW.val N) rws) ∧
    St β u w a 59 [(1, .p 0 0), (4, .v (.pointer (some ⟨b, 0, none⟩))), (5, .v (.slice Ao (List.length rws) co)), (6, .v (.int .i64 (t : Int))), (17, .v (.int .i64 s.len)), (18, .v (.int .i64 (t : Int))), (36, .v (.slice A2 m c2)), (37, .v (.int .i64 m)), (38, .v (.int .i64 (i : Int)))] bx (O :: (List.map RW.h rws ++ L1))
def K12 (u : World) (L1 : List Hp) (bx : BL) (b : Nat) (s : Sc) (cur : List Ev) (N t : Nat) (q : Nat) (A2 : Option Addr) (c2 m : Nat) (i : Nat) (a : Act) (w : World) : Prop :=
  ∃ β O Ao co rws, β.length = 1 ∧ List.length rws = i ∧ i ≤ q ∧ (∀ r ∈ rws, RW.ok N r) ∧ RZ s cur t rws ∧ Own O 33 1 (.slice Ao (List.length rws) co) (List.length rws) (List.map (RW.val N) rws) ∧
    St β u w a 59 [(1, .p 0 0), (4, .v (.pointer (some ⟨b, 0, none⟩))), (5, .v (.slice Ao (List.length rws) co)), (6, .v (.int .i64 (t : Int))), (7, .v (.slice A2 m c2)), (17, .v (.int .i64 s.len)), (18, .v (.int .i64 (t : Int)))] bx (O :: (List.map RW.h rws ++ L1))
theorem c12 {s : Sc} {A E : Option Addr} {cb ce : Nat} {vs : List Value} (H : SH u w L) (hA : All2 (RBod L) vs s.bodies) (hRA : Rows L A s.bodies.length 1 vs) (hRE : Rows L E s.events.length 6 (s.events.flatMap Ev.cells)) (h : ScOk 40 s) :
    Ret Try.prog 12 [SVal s A cb E ce] w
      fun v w' => ∃ cur O Ao co rws, Sorted s cur ∧ v = .tuple #[.slice Ao (List.length rws) co, .bool true] ∧ List.length rws = (runP s cur s.len.toNat).begun ∧ (∀ r ∈ rws, RW.ok s.len.toNat r) ∧ RZ s cur s.len.toNat rws ∧
        Own O 33 1 (.slice Ao (List.length rws) co) (List.length rws) (List.map (RW.val s.len.toNat) rws) ∧ SH u w' (O :: (List.map RW.h rws ++ L)) := by
  have hlen := h.len
  have hne := h.events.1
  have hNi : ((s.len.toNat : Nat) : Int) = s.len := Int.toNat_of_nonneg hlen.1
  generalize hN : s.len.toNat = N at hNi
  refine ent Try.func12 rfl H 59 rfl [(0, .v (SVal s A cb E ce))] rfl rfl fun a S => ?_
  refine xr hT S rfl true [] 200 rfl (by (repeat' apply And.intro); all_goals first | exact True.intro | with_reducible assumption | decide +kernel | with_reducible exact Option.isSome_some | omega | with_reducible exact decide_eq_true (by omega) | with_reducible exact decide_eq_false (by omega) | with_reducible exact beq_iff_eq.2 (by omega) | with_reducible exact beq_eq_false_iff_ne.2 (by omega) | with_reducible exact bne_iff_ne.2 (by omega) | with_reducible exact bne_eq_false_iff_eq.2 (by omega) | skip) fun β a w hβ hl S => ?_
  have hv : ∀ {L'}, L ⊆ L' → RSc L' (SVal s A cb E ce) s := fun hs => ⟨A, cb, E, ce, vs, rfl, hA.mono fun _ _ h => h.mono hs, hRA.mono hs, hRE.mono hs⟩
  refine xP S rfl rfl rfl rfl rfl rfl en19 (fun H => c19 H (hv (List.subset_append_right _ _)) h (by decide)) fun v a w hvv S => ?_
  subst hvv
  refine xr hT S hl true [.b false] 200 rfl (by (repeat' apply And.intro); all_goals first | exact True.intro | with_reducible assumption | decide +kernel | with_reducible exact Option.isSome_some | omega | with_reducible exact decide_eq_true (by omega) | with_reducible exact decide_eq_false (by omega) | with_reducible exact beq_iff_eq.2 (by omega) | with_reducible exact beq_eq_false_iff_ne.2 (by omega) | with_reducible exact bne_iff_ne.2 (by omega) | with_reducible exact bne_eq_false_iff_eq.2 (by omega) | skip) fun β1 a w hβ1 hl S => ?_
  have hss := List.subset_append_right (bhs β1 [BXs 0 s A cb E ce]) L
  refine xc S rfl rfl rfl rfl rfl en23 (c23 (s := s) (A := A) (E := E) (cb := cb) (ce := ce) S.sh (hA.mono fun _ _ h => h.mono hss) (hRA.mono hss) (hRE.mono hss) h (by decide)) fun v w ⟨b, M, cur, Ax, cx, Ms, hv, hcur, hOx, hP, H⟩ => ?_
  subst hv
  have S := S.retd (New := Ms ++ [M]) 14 (.pointer (some ⟨b, 0, none⟩)) (by rw [List.append_assoc]; exact H) rfl
  have hev := hcur.ev h
  have hl100 : cur.length ≤ 100 := by rw [hcur.len]; omega
  refine xr hT S hl true [] 200 rfl (by (repeat' apply And.intro); all_goals first | exact True.intro | with_reducible assumption | decide +kernel | with_reducible exact Option.isSome_some | omega | with_reducible exact decide_eq_true (by omega) | with_reducible exact decide_eq_false (by omega) | with_reducible exact beq_iff_eq.2 (by omega) | with_reducible exact beq_eq_false_iff_ne.2 (by omega) | with_reducible exact bne_iff_ne.2 (by omega) | with_reducible exact bne_eq_false_iff_eq.2 (by omega) | skip) fun β2 a w hβ2 hl S => ?_
  have S := S.unbox (d := 5) rfl
  have S : St β2 u w a 59 _ _ (_ :: ((Ms ++ [M]) ++ L)) := S
  rw [List.append_assoc] at S
  obtain ⟨β3, hl3, S⟩ := (S.keep [1, 4, 5, 17, 18] rfl).cut 1 (by rw [hl]; simp) (by simp [SV.wfs, SV.wf]) (by simp [SV.wfs, SV.wf])
  refine xloop (I12 u ([M] ++ L) b s A cb E ce (.slice Ax s.events.length cx) cur N) (fun t => N - t) 0 ⟨β3, Ms, _, _, 0, [], hl3, Nat.zero_le _, hP, Nat.zero_le _, rfl, by simp, (fun k r hk => by simp at hk), Own.empty _ 33 1, S⟩ fun t a w ⟨β, Ms, O, Ao, co, rws, hl, ht, hP, hdn, hrl, hrk, hRZ, hO, S⟩ => ?_
  by_cases hin : t < N
  · have et : (t : Int) + 1 = ((t + 1 : Nat) : Int) := by omega
    have hg := runP_gok (evs := cur) h.sok hev hl100 t (by omega)
    refine xr hT S hl true [.b true] 200 rfl (by (repeat' apply And.intro); all_goals first | exact True.intro | with_reducible assumption | decide +kernel | with_reducible exact Option.isSome_some | omega | with_reducible exact decide_eq_true (by omega) | with_reducible exact decide_eq_false (by omega) | with_reducible exact beq_iff_eq.2 (by omega) | with_reducible exact beq_eq_false_iff_ne.2 (by omega) | with_reducible exact bne_iff_ne.2 (by omega) | with_reducible exact bne_eq_false_iff_eq.2 (by omega) | skip) fun β1 a w hβ1 hl S => ?_
    have hsub : L ⊆ (bhs β1 [BXs 0 s A cb E ce] ++ [O]) ++ (rws.map RW.h ++ ([M] ++ L)) := fun m hm => by simp [hm]
    have hcall := c24 (p := runP s cur t) (K := 31 + 2 * t) (evs := cur) (S.sh.perm (perm_call _ _ _ _)) hP hg h.sok hev (SD.mono (L := L) ⟨hA, hRA⟩ hsub) (hOx.rows (by simp)) hcur.len (by omega) hdn (by omega) (by omega) (by rw [runP_now]; omega)
    refine xc S rfl rfl rfl rfl rfl en24 hcall fun v w ⟨Ms, M2, A2, c2, hv, hO2, hP, hg2, hdn, H⟩ => ?_
    subst hv
    have S := S.put (d := some 22) (v := .slice A2 (outsP s cur (runP s cur t)).length c2) (H.perm (perm_back _ _ _ _ _)) rfl
    have hrun : nextP s cur (runP s cur t) = runP s cur (t + 1) := rfl
    rw [hrun] at hP hg2 hdn
    have hP0 := hP
    obtain ⟨Mv, Mt, Av, cv, At, ct, vr, hMs, hvr, hok, hOv, hOt⟩ := hP
    have hol : (outsP s cur (runP s cur t)).length = vr.length := by
      have h1 : (outsP s cur (runP s cur t)).length = (VA s cur t).length := List.length_map ..
      have h2 : (runP s cur (t + 1)).voices = (VA s cur t).map Vc.next := rfl
      have h9 : vr.length = (vr.map VR.v).length := (List.length_map ..).symm
      rw [h1, h9, hvr, h2, List.length_map]
    have hmost : vr.length ≤ 4 := by
      have h3 : ((runP s cur (t + 1)).voices.length : Int) ≤ s.voices := hg2.most
      have h4 := h.voices.2
      rw [← hvr, List.length_map] at h3
      omega
    have hbeg : (runP s cur t).begun ≤ (runP s cur (t + 1)).begun := begun_mono_L _ _
    have hbeg2 : (runP s cur (t + 1)).begun ≤ 100 := by have := hg2.begun; have := hg2.done; omega
    rw [hol] at S hO2 ⊢
    have hPHm : ∀ {L' : List Hp}, Ms ⊆ L' → PH b s A cb E ce (.slice Ax s.events.length cx) (runP s cur (t + 1)).done (runP s cur (t + 1)).now (.slice Av vr.length cv) (.slice At vr.length ct) (runP s cur (t + 1)).begun ∈ L' := fun hs => hs (by rw [hMs]; exact List.mem_cons_self)
    refine xr hT S hl true [] 200 rfl (by (repeat' apply And.intro); all_goals first | exact True.intro | with_reducible assumption | decide +kernel | with_reducible exact Option.isSome_some | omega | with_reducible exact decide_eq_true (by omega) | with_reducible exact decide_eq_false (by omega) | with_reducible exact beq_iff_eq.2 (by omega) | with_reducible exact beq_eq_false_iff_ne.2 (by omega) | with_reducible exact bne_iff_ne.2 (by omega) | with_reducible exact bne_eq_false_iff_eq.2 (by omega) | skip) fun β2 a w hβ2 hl S => ?_
    have S := (S.keep [1, 4, 5, 6, 7, 17, 18] rfl).perm (tl' := O :: (rws.map RW.h ++ (M2 :: (Ms ++ ([M] ++ L))))) ((List.Perm.swap _ _ _).trans (perm_rows _ _ _ _ _))
    refine xloop (K12 u (M2 :: (Ms ++ ([M] ++ L))) [BXs 0 s A cb E ce] b s cur N t (runP s cur (t + 1)).begun A2 c2 vr.length) (fun i => (runP s cur (t + 1)).begun - i) (runP s cur t).begun
      ⟨β2, O, Ao, co, rws, hl, hrl, hbeg, hrk, hRZ, hO, S⟩ fun i a w ⟨β, O, Ao, co, rws, hl, hri, hiq, hrk, hRZ, hO, S⟩ => ?_
    have hbg : RdV (O :: (rws.map RW.h ++ (M2 :: (Ms ++ ([M] ++ L))))) (Addr.add ⟨b, 0, none⟩ 11) [.int .i64 ((runP s cur (t + 1)).begun : Int)] := by
      rw [add0]
      exact RdV.at0 (hPHm (fun m hm => by simp [hm])) rfl
    by_cases hadd : i < (runP s cur (t + 1)).begun
    · refine xr hT S hl true [.v [.int .i64 ((runP s cur (t + 1)).begun : Int)], .b true] 200 rfl ?_ fun β3 a w hβ3 hl S => ?_
      · (repeat' apply And.intro); all_goals first | exact True.intro | with_reducible assumption | decide +kernel | with_reducible exact Option.isSome_some | omega | with_reducible exact decide_eq_true (by omega) | with_reducible exact decide_eq_false (by omega) | with_reducible exact beq_iff_eq.2 (by omega) | with_reducible exact beq_eq_false_iff_ne.2 (by omega) | with_reducible exact bne_iff_ne.2 (by omega) | with_reducible exact bne_eq_false_iff_eq.2 (by omega) | skip
        all_goals exact hbg
      refine xmake hT S rfl rfl rfl rfl rfl rfl rfl rfl (n0 := N) (m := N) hNi.symm hNi.symm (Nat.le_refl _) (by show N * 4 ≤ _; omega) (by decide) fun v' Mz a w hOz S => ?_
      obtain ⟨g, c, rfl⟩ := hOz.pos (by omega)
      have S := S.up 1 rfl rfl
      refine xr hT S hl true [] 200 rfl (by (repeat' apply And.intro); all_goals first | exact True.intro | with_reducible assumption | decide +kernel | with_reducible exact Option.isSome_some | omega | with_reducible exact decide_eq_true (by omega) | with_reducible exact decide_eq_false (by omega) | with_reducible exact beq_iff_eq.2 (by omega) | with_reducible exact beq_eq_false_iff_ne.2 (by omega) | with_reducible exact bne_iff_ne.2 (by omega) | with_reducible exact bne_eq_false_iff_eq.2 (by omega) | skip) fun β4 a w hβ4 hl S => ?_
      refine xapp hT S rfl rfl rfl rfl rfl rfl rfl rfl hO rfl rfl (news := [.slice (some ⟨g, 0, none⟩) N c]) (S.boxCells (i := 1) (t := 33) (cs := [.v (.slice (some ⟨g, 0, none⟩) N c)]) rfl) rfl (by simp [Value.oneCell']) (by show (rws.length + 1) * 24 ≤ _; omega) (by simp only [maxLen]; omega) fun v' O a w hO S => ?_
      obtain ⟨Ao, co, rfl, _⟩ := hO.form
      refine xr hT S hl true [] 200 rfl (by (repeat' apply And.intro); all_goals first | exact True.intro | with_reducible assumption | decide +kernel | with_reducible exact Option.isSome_some | omega | with_reducible exact decide_eq_true (by omega) | with_reducible exact decide_eq_false (by omega) | with_reducible exact beq_iff_eq.2 (by omega) | with_reducible exact beq_eq_false_iff_ne.2 (by omega) | with_reducible exact bne_iff_ne.2 (by omega) | with_reducible exact bne_eq_false_iff_eq.2 (by omega) | skip) fun β5 a w hβ5 hl S => ?_
      obtain ⟨βz, hlz, S⟩ := ((S.keep [1, 4, 5, 6, 7, 17, 18] rfl).dropb).cut 1 (by rw [hl]; simp) (by simp [SV.wfs, SV.wf]) (by simp [SV.wfs, SV.wf])
      have er : (rws ++ [(⟨g, c, Mz, List.replicate N 0⟩ : RW)]).length = rws.length + 1 := by simp
      refine xj ⟨i + 1, ⟨βz, O, Ao, co, rws ++ [⟨g, c, Mz, List.replicate N 0⟩], hlz, by rw [er, hri], by omega, ?_, hRZ.add (fun j => ?_), ?_, ?_⟩, by omega⟩
      · intro r hr
        rcases List.mem_append.1 hr with hr | hr
        · exact hrk r hr
        · rw [List.mem_singleton.1 hr]
          show Own Mz 23 1 _ N ((List.replicate N 0).map fV)
          rw [← rep_f0 N N (Nat.le_refl _)]
          exact hOz
      · simp only [List.getD_eq_getElem?_getD, List.getElem?_replicate]
        split <;> rfl
      · rw [er, List.map_append]
        exact hO
      · rw [er]
        refine S.perm ?_
        rw [List.map_append, List.append_assoc]
        exact ((List.perm_middle).symm).cons O
    · have e1 : i = (runP s cur (t + 1)).begun := by omega
      refine xr hT S hl true [.v [.int .i64 ((runP s cur (t + 1)).begun : Int)], .b false] 200 rfl ?_ fun β3 a w hβ3 hl S => ?_
      · (repeat' apply And.intro); all_goals first | exact True.intro | with_reducible assumption | decide +kernel | with_reducible exact Option.isSome_some | omega | with_reducible exact decide_eq_true (by omega) | with_reducible exact decide_eq_false (by omega) | with_reducible exact beq_iff_eq.2 (by omega) | with_reducible exact beq_eq_false_iff_ne.2 (by omega) | with_reducible exact bne_iff_ne.2 (by omega) | with_reducible exact bne_eq_false_iff_eq.2 (by omega) | skip
        all_goals exact hbg
      refine xloop (J12 u (M2 :: (Ms ++ ([M] ++ L))) [BXs 0 s A cb E ce] b s cur N t (runP s cur (t + 1)).begun A2 c2 vr.length) (fun i => vr.length - i) 0
        ⟨β3, O, Ao, co, rws, hl, Nat.zero_le _, by omega, hrk, hRZ.step, hO, S.keep [1, 4, 5, 6, 17, 18, 36, 37, 38] rfl⟩ fun i a w ⟨β, O, Ao, co, rws, hl, him, hrq, hrk, hRZ, hO, S⟩ => ?_
      by_cases hiv : i < vr.length
      · have ei : (i : Int) + 1 = ((i + 1 : Nat) : Int) := by omega
        have hvi : vr[i].v ∈ (runP s cur (t + 1)).voices := by rw [← hvr]; exact List.mem_map_of_mem (List.getElem_mem hiv)
        have hkq := (Tok.run (s := s) (evs := cur) (t + 1)).lt _ hvi
        obtain ⟨k, hk⟩ : ∃ k, k = vr[i].v.track := ⟨_, rfl⟩
        rw [← hk] at hkq
        have hkr : k < rws.length := by omega
        have hrok := hrk _ (List.getElem_mem hkr)
        have htouch : ∃ v ∈ VA s cur t, v.track = k := by
          have h2 : (runP s cur (t + 1)).voices = (VA s cur t).map Vc.next := rfl
          rw [h2] at hvi
          obtain ⟨v0, hv0, hv1⟩ := List.mem_map.1 hvi
          exact ⟨v0, hv0, by rw [hk, ← hv1]; rfl⟩
        obtain ⟨r, hr⟩ : ∃ r, r = rws[k] := ⟨_, rfl⟩
        rw [← hr] at hrok
        have hoi : i < (outsP s cur (runP s cur t)).length := by omega
        obtain ⟨x, hx⟩ : ∃ x, x = (outsP s cur (runP s cur t))[i] := ⟨_, rfl⟩
        have q1 : RdV (O :: (rws.map RW.h ++ (M2 :: (Ms ++ ([M] ++ L))))) (Addr.add ⟨b, 0, none⟩ 10) [.slice At vr.length ct] := by
          rw [add0]
          exact RdV.at0 (hPHm (fun m hm => by simp [hm])) rfl
        have hR2 : Rows (O :: (rws.map RW.h ++ (M2 :: (Ms ++ ([M] ++ L))))) A2 vr.length 1 ((outsP s cur (runP s cur t)).map fV) := hO2.rows (by simp)
        obtain ⟨ad2, rfl⟩ := hR2.2.1 (by omega)
        have q2 := hR2.cell (j := i) (v := fV x) (n := vr.length) (c := 0) (by rw [List.getElem?_map, List.getElem?_eq_getElem hoi, hx]; rfl)
        have hRt : Rows (O :: (rws.map RW.h ++ (M2 :: (Ms ++ ([M] ++ L))))) At vr.length 1 (vr.flatMap VR.trk) := hOt.rows (by rw [hMs]; simp)
        obtain ⟨adt, rfl⟩ := hRt.2.1 (by omega)
        have q3 : RdV (O :: (rws.map RW.h ++ (M2 :: (Ms ++ ([M] ++ L))))) (adt.add (Int.toNat (i : Int) * 1)) [.int .i64 (k : Int)] := by
          rw [Int.toNat_natCast, hk]
          exact (hRt.2.2 adt rfl).elem trk_len hiv
        have hRo : Rows (O :: (rws.map RW.h ++ (M2 :: (Ms ++ ([M] ++ L))))) Ao rws.length 1 (rws.map (RW.val N)) := hO.rows List.mem_cons_self
        obtain ⟨ado, rfl⟩ := hRo.2.1 (by omega)
        have q4 := hRo.cell (j := k) (v := .slice (some ⟨r.g, 0, none⟩) N r.c) (n := rws.length) (c := 0) (by rw [List.getElem?_map, List.getElem?_eq_getElem hkr, hr]; rfl)
        refine xr hT S hl true [.b true, .v [fV x], .v [.slice (some adt) vr.length ct], .v [.int .i64 (k : Int)], .v [.slice (some ⟨r.g, 0, none⟩) N r.c]] 200 rfl ?_ fun β4 a w hβ4 hl S => ?_
        · (repeat' apply And.intro); all_goals first | exact True.intro | with_reducible assumption | decide +kernel | with_reducible exact Option.isSome_some | omega | with_reducible exact decide_eq_true (by omega) | with_reducible exact decide_eq_false (by omega) | with_reducible exact beq_iff_eq.2 (by omega) | with_reducible exact beq_eq_false_iff_ne.2 (by omega) | with_reducible exact bne_iff_ne.2 (by omega) | with_reducible exact bne_eq_false_iff_eq.2 (by omega) | skip
          all_goals first | exact q1 | exact q2 | exact q3 | exact q4
        have hsp : rws.map RW.h = (rws.take k).map RW.h ++ r.h :: (rws.drop (k + 1)).map RW.h := by
          have h3 : rws = rws.take k ++ r :: rws.drop (k + 1) := by
            rw [hr, ← List.drop_eq_getElem_cons hkr, List.take_append_drop]
          have := congrArg (List.map RW.h) h3
          rw [List.map_append, List.map_cons] at this
          exact this
        have S := S.perm (tl' := r.h :: (O :: ((rws.take k).map RW.h ++ ((rws.drop (k + 1)).map RW.h ++ (M2 :: (Ms ++ ([M] ++ L))))))) (by
          rw [hsp, List.append_assoc, List.cons_append]
          exact ((List.perm_middle).cons O).trans (List.Perm.swap _ _ _))
        refine xset hT S (off := t) rfl rfl rfl rfl rfl (by show Addr.add ⟨r.g, 0, none⟩ (Int.toNat (t : Int) * 1) = _; rw [Int.toNat_natCast, Nat.mul_one, add0]) hrok rfl rfl rfl (by rw [List.length_map, hrok.len]; show t + 1 ≤ N; omega) fun Mr a w hOr S => ?_
        have hro2 : RW.ok N ⟨r.g, r.c, Mr, r.xs.set t x⟩ := by
          have e9 : (r.xs.set t x).map fV = (r.xs.map fV).take t ++ fV x :: (r.xs.map fV).drop (t + 1) := by
            rw [List.map_set, List.set_eq_take_append_cons_drop, if_pos (by rw [List.length_map, hrok.len]; exact hin)]
          show Own Mr 23 1 (.slice (some ⟨r.g, 0, none⟩) N r.c) N ((r.xs.set t x).map fV)
          rw [e9]
          rw [List.append_assoc] at hOr
          exact hOr
        refine xr hT S hl true [] 200 rfl (by (repeat' apply And.intro); all_goals first | exact True.intro | with_reducible assumption | decide +kernel | with_reducible exact Option.isSome_some | omega | with_reducible exact decide_eq_true (by omega) | with_reducible exact decide_eq_false (by omega) | with_reducible exact beq_iff_eq.2 (by omega) | with_reducible exact beq_eq_false_iff_ne.2 (by omega) | with_reducible exact bne_iff_ne.2 (by omega) | with_reducible exact bne_eq_false_iff_eq.2 (by omega) | skip) fun β5 a w hβ5 hl S => ?_
        rw [ei] at S
        have el : (rws.set k ⟨r.g, r.c, Mr, r.xs.set t x⟩).length = rws.length := List.length_set ..
        have ev : (rws.set k ⟨r.g, r.c, Mr, r.xs.set t x⟩).map (RW.val N) = rws.map (RW.val N) := by
          rw [List.map_set]
          have : RW.val N ⟨r.g, r.c, Mr, r.xs.set t x⟩ = (rws.map (RW.val N))[k]'(by rw [List.length_map]; exact hkr) := by
            rw [List.getElem_map, ← hr]
            rfl
          rw [this, List.set_getElem_self]
        refine xj ⟨i + 1, ⟨β5, O, some ado, co, rws.set k ⟨r.g, r.c, Mr, r.xs.set t x⟩, hl, by omega, by rw [el]; exact hrq, ?_, hRZ.set (by rw [List.getElem?_eq_getElem hkr, ← hr]) rfl htouch, by rw [el, ev]; exact hO, ?_⟩, by omega⟩
        · intro z hz
          rcases List.mem_or_eq_of_mem_set hz with hz | hz
          · exact hrk z hz
          · rw [hz]; exact hro2
        · rw [el]
          refine (S.keep [1, 4, 5, 6, 17, 18, 36, 37, 38] rfl).perm ?_
          have hsp2 : (rws.set k ⟨r.g, r.c, Mr, r.xs.set t x⟩).map RW.h = (rws.take k).map RW.h ++ Mr :: (rws.drop (k + 1)).map RW.h := by
            rw [List.set_eq_take_append_cons_drop, if_pos hkr, List.map_append, List.map_cons]
          rw [hsp2, List.append_assoc, List.cons_append]
          exact (((List.perm_middle).cons O).trans (List.Perm.swap _ _ _)).symm
      · have e2 : i = vr.length := by omega
        subst e2
        refine xr hT S hl true [.b false] 200 rfl (by (repeat' apply And.intro); all_goals first | exact True.intro | with_reducible assumption | decide +kernel | with_reducible exact Option.isSome_some | omega | with_reducible exact decide_eq_true (by omega) | with_reducible exact decide_eq_false (by omega) | with_reducible exact beq_iff_eq.2 (by omega) | with_reducible exact beq_eq_false_iff_ne.2 (by omega) | with_reducible exact bne_iff_ne.2 (by omega) | with_reducible exact bne_eq_false_iff_eq.2 (by omega) | skip) fun β4 a w hβ4 hl S => ?_
        rw [et] at S
        refine xj ⟨t + 1, ⟨β4, Ms, O, Ao, co, rws, hl, by omega, hP0, hdn, hrq, hrk, hRZ, hO, ?_⟩, by omega⟩
        exact ((S.keep [1, 4, 5, 17, 18] rfl).perm ((perm_rows O M2 Ms (rws.map RW.h) ([M] ++ L)).symm.trans (List.Perm.swap _ _ _))).sub (List.sublist_cons_self _ _)
  · have e1 : t = N := by omega
    subst e1
    refine xr hT S hl true [.b false] 200 rfl (by (repeat' apply And.intro); all_goals first | exact True.intro | with_reducible assumption | decide +kernel | with_reducible exact Option.isSome_some | omega | with_reducible exact decide_eq_true (by omega) | with_reducible exact decide_eq_false (by omega) | with_reducible exact beq_iff_eq.2 (by omega) | with_reducible exact beq_eq_false_iff_ne.2 (by omega) | with_reducible exact bne_iff_ne.2 (by omega) | with_reducible exact bne_eq_false_iff_eq.2 (by omega) | skip) fun β4 a w hβ4 hl S => ?_
    refine xret hT S rfl ⟨_, rfl, cur, O, Ao, co, rws, hcur, rfl, hrl, hrk, hRZ, hO, S.tl'.sub ?_⟩
    exact (((List.Sublist.refl _).append (List.sublist_append_right [M] L)).trans (List.sublist_append_right Ms _)).cons_cons O
end Go.SX
