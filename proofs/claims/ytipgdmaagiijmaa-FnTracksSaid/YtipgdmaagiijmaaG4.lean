import Derived.Test.YtipgdmaagiijmaaG3
set_option maxRecDepth 100000
set_option linter.unusedVariables false
set_option linter.unusedSectionVars false
namespace Go.SX
open Go.Proofs
variable {u w : World} {L B : List Hp} {b : Nat} {M : Hp}
/-- the last of a voice's cells is written -/
theorem vset {D T : List VR} {r r1 : VR} {x : Value} (h : r1.cells = r.cells.take 3 ++ [x]) : ((D ++ r :: T).flatMap VR.cells).take (D.length * 4 + 3) ++ [x] ++ ((D ++ r :: T).flatMap VR.cells).drop (D.length * 4 + 3 + 1) = (D ++ r1 :: T).flatMap VR.cells := by
  have hl : (D.flatMap VR.cells).length = D.length * 4 := by
    induction D with
    | nil => rfl
    | cons y D ih => rw [List.flatMap_cons, List.length_append, ih, vr_len, List.length_cons]; omega
  rw [List.flatMap_append, List.flatMap_append, List.flatMap_cons, List.flatMap_cons, h]
  rw [← hl, List.take_length_add_append, show (D.flatMap VR.cells).length + 3 + 1 = (D.flatMap VR.cells).length + 4 by omega, List.drop_length_add_append]
  simp [VR.cells]
def I24 (u : World) (L : List Hp) (b : Nat) (s : Sc) (A : Option Addr) (cb : Nat) (E : Option Addr) (ce : Nat) (X : Value) (q : Pz) (Av : Option Addr) (cv : Nat) (tr : Value) (Mt : Hp) (vr : List VR) (n : Nat) (i : Nat) (a : Act) (w : World) : Prop :=
  ∃ D Mv O Ao co, i ≤ n ∧ List.length D = i ∧ List.map VR.v D = List.map (fun r => Vc.next (VR.v r)) (List.take i vr) ∧ (∀ r ∈ D, VR.ok r) ∧ Own Mv 63 4 (.slice Av n cv) n (List.flatMap VR.cells (D ++ List.drop i vr)) ∧
    Own O 23 1 (.slice Ao i co) i (List.map fV (List.map (fun r => Vc.out (VR.v r)) (List.take i vr))) ∧
    St [b] u w a 65 [(0, .p 0 0), (3, .v (.slice Ao i co)), (14, .v (.int .i64 n)), (15, .v (.int .i64 (i : Int)))] [(0, 59, PB s A cb E ce X q.done q.now (.slice Av n cv) tr q.begun)] (O :: Mv :: Mt :: (List.flatMap VR.hps D ++ (List.flatMap VR.hps (List.drop i vr) ++ L)))
def J24 (u : World) (L1 : List Hp) (b : Nat) (bx : BL) (r : VR) (n i : Nat) (gv cv : Nat) (Ao : Option Addr) (co : Nat) (D T : List VR) (O : Hp) (a : Act) (w : World) : Prop :=
  ∃ Mv ia ic, Rows [r.hi] ia (List.length (List.tail r.v.input)) 1 (List.map fV (List.tail r.v.input)) ∧ List.length (List.tail r.v.input) ≤ ic ∧
    Own Mv 63 4 (.slice (some ⟨gv, 0, none⟩) n cv) n (List.flatMap VR.cells (D ++ { r with ia := ia, ic := ic, v := { r.v with input := List.tail r.v.input } } :: T)) ∧
    St [b] u w a 65 [(0, .p 0 0), (3, .v (.slice Ao i co)), (14, .v (.int .i64 n)), (15, .v (.int .i64 (i : Int))), (5, .v (.pointer (some ⟨gv, i * 4, none⟩))), (6, .v (fV r.v.x))] bx (O :: Mv :: L1)
section
variable {s : Sc} {A : Option Addr} {cb : Nat} {E : Option Addr} {ce : Nat} {X : Value} {p : Pz} {Ms : List Hp} {vs : List Value} {e : Ev} {len : Int} {K : Nat}
theorem Vok.next {v : Vc} (h : Vok K v) (h31 : 31 ≤ K) (hK : K + 2 ≤ 127) : Vok (K + 2) v.next := by
  have hx : Mf .f32 20 v.x := by
    unfold Vc.x
    cases hi : v.input with
    | nil => exact mf_zero 20
    | cons x r => exact h.input x (by rw [hi]; exact List.mem_cons_self)
  refine ⟨h.few, ?_, h.modes, stepL_ok hx h31 hK h.modes h.states, fun x hx => h.input x (List.mem_of_mem_tail hx), ?_⟩
  · show (stepL v.modes v.states v.x).length = v.modes.length
    rw [stepL_len _ _ _ h.same.symm, h.same]
  · show v.input.tail.length ≤ 9
    rw [List.length_tail]
    have := h.short
    omega
theorem Gok.next {evs : List Ev} (h : Gok s K (arr s evs p)) (h31 : 31 ≤ K) (hK : K + 2 ≤ 127) (hn : (arr s evs p).now < 3000) : Gok s (K + 2) (nextP s evs p) := by
  refine ⟨?_, h.begun, h.done, ?_, fun v hv => ?_⟩
  · show (((arr s evs p).voices.map Vc.next).length : Int) ≤ _
    rw [List.length_map]
    exact h.most
  · show (arr s evs p).now + 1 ≤ 3000
    omega
  · have hv : v ∈ (arr s evs p).voices.map Vc.next := hv
    obtain ⟨v0, hv0, rfl⟩ := List.mem_map.1 hv
    exact (h.voices v0 hv0).next h31 hK
theorem c24 {Ax : Option Addr} {nx cx : Nat} {evs : List Ev} (H : SH u w (Ms ++ L)) (hP : PlM b s A cb E ce (.slice Ax nx cx) p Ms) (hp : Gok s K p) (hs : SOk s) (hev : ∀ e ∈ evs, EvOk len s.bodies.length e) (hD : SD L s A vs)
    (hX : Rows L Ax nx 6 (evs.flatMap Ev.cells)) (hlen : evs.length = nx) (hn : nx ≤ 100) (hd : p.done ≤ nx) (h31 : 31 ≤ K) (hK : K + 6 ≤ 127) (hnw : p.now < 3000) :
    Ret Try.prog 24 [.pointer (some ⟨b, 0, none⟩)] w fun v w' => ∃ Ms' M Ao co, v = .slice Ao (outsP s evs p).length co ∧ Own M 23 1 v (outsP s evs p).length ((outsP s evs p).map fV) ∧ PlM b s A cb E ce (.slice Ax nx cx) (nextP s evs p) Ms' ∧ Gok s (K + 2) (nextP s evs p) ∧ (nextP s evs p).done ≤ nx ∧ SH u w' (M :: (Ms' ++ L)) := by
  have hP0 := hP
  obtain ⟨Mv, Mt, Av, cv, At, ct, vr, rfl, hvr, hok, hO1, hO2⟩ := hP
  refine entB Try.func24 rfl [b] [(0, 59, PB s A cb E ce (.slice Ax nx cx) p.done p.now (.slice Av vr.length cv) (.slice At vr.length ct) p.begun)] (xs := [.p 0 0]) (tl := Mv :: Mt :: (vr.flatMap VR.hps ++ L)) H 65 rfl [(0, .p 0 0)] rfl rfl (by simp [SV.wfs, SV.wf]) (by simp [SV.wfs, SV.wf]) fun a S => ?_
  refine xr hT S rfl true [] 200 rfl (by (repeat' apply And.intro); all_goals first | exact True.intro | with_reducible assumption | decide +kernel | with_reducible exact Option.isSome_some | omega | with_reducible exact decide_eq_true (by omega) | with_reducible exact decide_eq_false (by omega) | with_reducible exact beq_iff_eq.2 (by omega) | with_reducible exact beq_eq_false_iff_ne.2 (by omega) | with_reducible exact bne_iff_ne.2 (by omega) | with_reducible exact bne_eq_false_iff_eq.2 (by omega) | skip) fun β a w hβ hl S => ?_
  have S := S.cutT [b] hβ (by simp [SV.wfs, SV.wf]) (by simp [SV.wfs, SV.wf])
  refine xc S rfl rfl rfl rfl rfl en25 (c25 (L := L) S.sh hP0 hp hs hev hD hX hlen hn hd h31) fun v w ⟨Ms', ⟨Mv, Mt, Av, cv, At, ct, vr, hMs, hvr, hok, hO1, hO2⟩, hg, hdn, H⟩ => ?_
  subst hMs
  have hnow : (arr s evs p).now = p.now := by
    have key : ∀ (l : List Ev) (q : Pz), (arrL s l q).now = q.now := by
      intro l
      induction l with
      | nil => intro q; rfl
      | cons e r ih =>
        intro q
        rw [arrL]
        split
        · rw [ih]
          exact happen_now
        · rfl
    exact key _ _
  have hG := hg.next h31 (by omega) (by rw [hnow]; exact hnw)
  unfold nextP outsP at *
  simp only at *
  generalize arr s evs p = q at hvr hg hdn hG H hnow
  have hlv : vr.length = q.voices.length := by rw [← hvr, List.length_map]
  have hmost : vr.length ≤ 4 := by have := hg.most; have := hs.voices.2; omega
  have S := S.rebox2 (d := some 8) (v := v) (cs' := PB s A cb E ce (.slice Ax nx cx) q.done q.now (.slice Av vr.length cv) (.slice At vr.length ct) q.begun) (tl' := Mv :: Mt :: (vr.flatMap VR.hps ++ L)) H rfl (by simp [SV.wfs, SV.wf])
  refine xr hT S rfl true [] 200 rfl (by (repeat' apply And.intro); all_goals first | exact True.intro | with_reducible assumption | decide +kernel | with_reducible exact Option.isSome_some | omega | with_reducible exact decide_eq_true (by omega) | with_reducible exact decide_eq_false (by omega) | with_reducible exact beq_iff_eq.2 (by omega) | with_reducible exact beq_eq_false_iff_ne.2 (by omega) | with_reducible exact bne_iff_ne.2 (by omega) | with_reducible exact bne_eq_false_iff_eq.2 (by omega) | skip) fun β a w hβ hl S => ?_
  have S := ((S.unbox (d := 3) rfl).keep [0, 3, 14, 15] rfl).cutT [b] hβ (by simp [SV.wfs, SV.wf]) (by simp [SV.wfs, SV.wf])
  refine xloop (I24 u L b s A cb E ce (.slice Ax nx cx) q Av cv (.slice At vr.length ct) Mt vr vr.length) (fun i => vr.length - i) 0
    ⟨[], Mv, _, _, 0, Nat.zero_le _, rfl, rfl, by simp, hO1, Own.empty _ 23 1, S⟩ fun i a w ⟨D, Mv, O, Ao, co, hi, hDl, hD1, hDo, hO1, hOo, S⟩ => ?_
  by_cases hin : i < vr.length
  · obtain ⟨r, hr⟩ : ∃ r, r = vr[i] := ⟨_, rfl⟩
    have hmem : r ∈ vr := by rw [hr]; exact List.getElem_mem hin
    have hrok := hok r hmem
    have hrp : r.v ∈ q.voices := by rw [← hvr]; exact List.mem_map_of_mem hmem
    have hvk := hg.voices _ hrp
    have hfew := hvk.few
    have hshort := hvk.short
    have hdr : vr.drop i = r :: vr.drop (i + 1) := by rw [List.drop_eq_getElem_cons hin, hr]
    have htk : vr.take (i + 1) = vr.take i ++ [r] := by rw [List.take_add_one, List.getElem?_eq_getElem hin, hr]; rfl
    rw [hdr] at S hO1
    generalize hT1 : vr.drop (i + 1) = T at S hO1
    obtain ⟨gv, cv', hv⟩ := hO1.pos (by omega)
    obtain ⟨rfl, rfl⟩ : Av = some ⟨gv, 0, none⟩ ∧ cv = cv' := by cases hv; exact ⟨rfl, rfl⟩
    have hix : i < (D ++ r :: T).length := by simp; omega
    have hgi : (D ++ r :: T)[i] = r := by rw [List.getElem_append_right (by omega)]; simp [hDl]
    have hcel : ∀ {L' : List Hp} {Mv : Hp} {r1 : VR} (j : Nat), Own Mv 63 4 (.slice (some ⟨gv, 0, none⟩) vr.length cv) vr.length ((D ++ r1 :: T).flatMap VR.cells) → Mv ∈ L' → RdV L' ((Addr.add ⟨gv, 0, none⟩ (Int.toNat (i : Int) * 4)).add j) ((r1.cells.drop j).take 1) := by
      intro L' Mv r1 j hO hM
      rw [Int.toNat_natCast]
      have hix1 : i < (D ++ r1 :: T).length := by simp; omega
      have hgi1 : (D ++ r1 :: T)[i] = r1 := by rw [List.getElem_append_right (by omega)]; simp [hDl]
      have := ((hO.cells (L := L') rfl hM).elem vr_len hix1).at_ j 1
      rw [hgi1] at this
      exact this
    have hcel2 : ∀ {L' : List Hp} {Mv : Hp} {r1 : VR} (j : Nat), Own Mv 63 4 (.slice (some ⟨gv, 0, none⟩) vr.length cv) vr.length ((D ++ r1 :: T).flatMap VR.cells) → Mv ∈ L' → RdV L' ((⟨gv, i * 4, none⟩ : Addr).add j) ((r1.cells.drop j).take 1) := by
      intro L' Mv r1 j hO hM
      have := hcel j hO hM
      rw [Int.toNat_natCast, add_none gv 0 (i * 4), Nat.zero_add] at this
      exact this
    have ei : (i : Int) + 1 = ((i + 1 : Nat) : Int) := by omega
    refine xr hT S rfl true [.b true, .v [.slice r.ia r.v.input.length r.ic]] 200 rfl ?_ fun β1 a w hβ1 hl S => ?_
    · (repeat' apply And.intro); all_goals first | exact True.intro | with_reducible assumption | decide +kernel | with_reducible exact Option.isSome_some | omega | with_reducible exact decide_eq_true (by omega) | with_reducible exact decide_eq_false (by omega) | with_reducible exact beq_iff_eq.2 (by omega) | with_reducible exact beq_eq_false_iff_ne.2 (by omega) | with_reducible exact bne_iff_ne.2 (by omega) | with_reducible exact bne_eq_false_iff_eq.2 (by omega) | skip
      all_goals exact hcel 3 hO1 (by simp)
    refine xP S rfl rfl rfl rfl rfl rfl en47 (fun H => c47 H (hrok.input.mono (fun m hm => by rw [List.mem_singleton.1 hm]; simp [VR.hps])) (by omega)) fun v a w hv S => ?_
    subst hv
    refine xr hT S hl true [.v [.slice r.ia r.v.input.length r.ic]] 200 rfl ?_ fun β2 a w hβ2 hl S => ?_
    · (repeat' apply And.intro); all_goals first | exact True.intro | with_reducible assumption | decide +kernel | with_reducible exact Option.isSome_some | omega | with_reducible exact decide_eq_true (by omega) | with_reducible exact decide_eq_false (by omega) | with_reducible exact beq_iff_eq.2 (by omega) | with_reducible exact beq_eq_false_iff_ne.2 (by omega) | with_reducible exact bne_iff_ne.2 (by omega) | with_reducible exact bne_eq_false_iff_eq.2 (by omega) | skip
      all_goals exact hcel 3 hO1 (by simp)
    have S := S.cutT [b] (hβ1.trans hβ2) (by simp [SV.wfs, SV.wf]) (by simp [SV.wfs, SV.wf])
    have eA : Addr.add ⟨gv, 0, none⟩ (Int.toNat (i : Int) * 4) = ⟨gv, i * 4, none⟩ := by rw [Int.toNat_natCast, add_none, Nat.zero_add]
    refine xcut (J24 u (Mt :: (D.flatMap VR.hps ++ ((r :: T).flatMap VR.hps ++ L))) b [(0, 59, PB s A cb E ce (.slice Ax nx cx) q.done q.now (.slice (some ⟨gv, 0, none⟩) vr.length cv) (.slice At vr.length ct) q.begun)] r vr.length i gv cv Ao co D T O) ?_ fun a w ⟨Mv, ia, ic, hIn, hIc, hO1, S⟩ => ?_
    · cases hinp : r.v.input with
      | nil =>
        rw [hinp] at S
        refine xr hT S rfl true [.b false] 200 rfl (by (repeat' apply And.intro); all_goals first | exact True.intro | with_reducible assumption | decide +kernel | with_reducible exact Option.isSome_some | omega | with_reducible exact decide_eq_true (by omega) | with_reducible exact decide_eq_false (by omega) | with_reducible exact beq_iff_eq.2 (by omega) | with_reducible exact beq_eq_false_iff_ne.2 (by omega) | with_reducible exact bne_iff_ne.2 (by omega) | with_reducible exact bne_eq_false_iff_eq.2 (by omega) | skip) fun β3 a w hβ3 hl S => ?_
        have S := ((S.keep [0, 3, 14, 15, 5, 6] rfl).cutT [b] hβ3 (by simp [SV.wfs, SV.wf]) (by simp [SV.wfs, SV.wf]))
        have S : St [b] u w a 65 [(0, .p 0 0), (3, .v (.slice Ao i co)), (14, .v (.int .i64 vr.length)), (15, .v (.int .i64 (i : Int))), (5, .v (.pointer (some (Addr.add ⟨gv, 0, none⟩ (Int.toNat (i : Int) * 4))))), (6, .v (fV (List.headD [] 0)))] _ _ := S
        rw [eA] at S
        have hx : r.v.x = 0 := by unfold Vc.x; rw [hinp]; rfl
        refine xj ⟨Mv, r.ia, r.ic, ?_, ?_, ?_, by rw [hx]; exact S⟩
        · have := hrok.input
          rw [hinp] at this ⊢
          exact this
        · rw [hinp]
          exact Nat.zero_le _
        · have e2 : ({ r with ia := r.ia, ic := r.ic, v := { r.v with input := r.v.input.tail } } : VR) = r := by
            rw [hinp]
            cases r with
            | mk _ _ _ _ _ _ _ _ _ v => cases v; simp at hinp; subst hinp; rfl
          rw [e2]
          exact hO1
      | cons x t =>
        have hinl : r.v.input.length = t.length + 1 := by rw [hinp]; rfl
        have hic := hrok.cap
        have S := S.up 1 rfl rfl
        refine xr hT S rfl true [.b true, .v [.slice r.ia r.v.input.length r.ic]] 200 rfl ?_ fun β3 a w hβ3 hl S => ?_
        · (repeat' apply And.intro); all_goals first | exact True.intro | with_reducible assumption | decide +kernel | with_reducible exact Option.isSome_some | omega | with_reducible exact decide_eq_true (by omega) | with_reducible exact decide_eq_false (by omega) | with_reducible exact beq_iff_eq.2 (by omega) | with_reducible exact beq_eq_false_iff_ne.2 (by omega) | with_reducible exact bne_iff_ne.2 (by omega) | with_reducible exact bne_eq_false_iff_eq.2 (by omega) | skip
          all_goals exact hcel 3 hO1 (by simp)
        refine xset hT S (off := i * 4 + 3) rfl rfl rfl rfl rfl (by show Addr.add (Addr.add ⟨gv, 0, none⟩ (Int.toNat (i : Int) * 4)) 3 = _; rw [eA, add_none]) hO1 rfl rfl rfl (by rw [hO1.1]; show i * 4 + 3 + 1 ≤ vr.length * 4; omega) fun Mv a w hO1 S => ?_
        have S := S.up 1 rfl rfl
        refine xr hT S hl true [] 200 rfl (by (repeat' apply And.intro); all_goals first | exact True.intro | with_reducible assumption | decide +kernel | with_reducible exact Option.isSome_some | omega | with_reducible exact decide_eq_true (by omega) | with_reducible exact decide_eq_false (by omega) | with_reducible exact beq_iff_eq.2 (by omega) | with_reducible exact beq_eq_false_iff_ne.2 (by omega) | with_reducible exact bne_iff_ne.2 (by omega) | with_reducible exact bne_eq_false_iff_eq.2 (by omega) | skip) fun β4 a w hβ4 hl S => ?_
        have S := ((S.keep [0, 3, 14, 15, 5, 6] rfl).cutT [b] (hβ3.trans hβ4) (by simp [SV.wfs, SV.wf]) (by simp [SV.wfs, SV.wf]))
        have S : St [b] u w a 65 [(0, .p 0 0), (3, .v (.slice Ao i co)), (14, .v (.int .i64 vr.length)), (15, .v (.int .i64 (i : Int))), (5, .v (.pointer (some (Addr.add ⟨gv, 0, none⟩ (Int.toNat (i : Int) * 4))))), (6, .v (fV (List.headD r.v.input 0)))] _ _ := S
        rw [eA] at S
        refine xj ⟨Mv, slA r.ic 1 1 r.ia, r.ic - 1, ?_, ?_, ?_, S⟩
        · obtain ⟨ad, had⟩ := hrok.input.2.1 (by omega)
          refine ⟨by simp, fun hpos => ?_, fun ad2 h2 => ?_⟩
          · rw [List.length_tail, hinl] at hpos
            rw [had]
            unfold slA
            rw [if_neg (by omega)]
            exact ⟨_, rfl⟩
          · rw [had] at h2
            unfold slA at h2
            have hrd := hrok.input.2.2 ad had
            rw [hinp] at hrd ⊢
            split at h2
            · have : t = [] := List.eq_nil_of_length_eq_zero (by omega)
              subst this
              intro j v hv
              simp at hv
            · cases h2
              have h3 := hrd.at_ 1 t.length
              have e5 : (((x :: t).map fV).drop 1).take t.length = ((x :: t).tail).map fV := by
                rw [List.map_cons, List.drop_one, List.tail_cons, List.tail_cons, List.take_of_length_le (by simp)]
              rw [e5] at h3
              exact h3
        · rw [List.length_tail]
          omega
        · rw [← vset (r := r) (x := .slice (slA r.ic 1 1 r.ia) (r.v.input.length - 1) (r.ic - 1)) (by simp [VR.cells]), hDl]
          exact hO1
    · have hr1s : ∀ z, ({ r with ia := ia, ic := ic, v := z } : VR).ma = r.ma := fun _ => rfl
      refine xr hT S rfl true [] 200 rfl (by (repeat' apply And.intro); all_goals first | exact True.intro | with_reducible assumption | decide +kernel | with_reducible exact Option.isSome_some | omega | with_reducible exact decide_eq_true (by omega) | with_reducible exact decide_eq_false (by omega) | with_reducible exact beq_iff_eq.2 (by omega) | with_reducible exact beq_eq_false_iff_ne.2 (by omega) | with_reducible exact bne_iff_ne.2 (by omega) | with_reducible exact bne_eq_false_iff_eq.2 (by omega) | skip) fun β1 a w hβ1 hl S => ?_
      have S := S.perm (tl' := r.hs :: O :: Mv :: (r.hm :: r.hi :: Mt :: (D.flatMap VR.hps ++ (T.flatMap VR.hps ++ L)))) (by
        rw [List.flatMap_cons]
        show (O :: Mv :: Mt :: (D.flatMap VR.hps ++ (r.hm :: r.hs :: r.hi :: (T.flatMap VR.hps ++ L)))).Perm _
        have p1 : (D.flatMap VR.hps ++ (r.hm :: r.hs :: r.hi :: (T.flatMap VR.hps ++ L))).Perm (r.hm :: r.hs :: r.hi :: (D.flatMap VR.hps ++ (T.flatMap VR.hps ++ L))) := (List.perm_middle).trans (((List.perm_middle).trans ((List.perm_middle).cons _)).cons _)
        refine (((p1.cons Mt).cons Mv).cons O).trans ?_
        have p2 := up_perm (l := O :: Mv :: Mt :: r.hm :: r.hs :: r.hi :: (D.flatMap VR.hps ++ (T.flatMap VR.hps ++ L))) (k := 4) (x := r.hs) rfl
        refine p2.trans (List.Perm.cons _ (List.Perm.cons _ (List.Perm.cons _ ?_)))
        exact (List.Perm.swap _ _ _).trans ((List.Perm.swap _ _ _).cons _))
      have wb := S.wb
      have hO1m : ∀ {L' : List Hp}, Mv ∈ L' → RdV L' ((⟨gv, i * 4, none⟩ : Addr).add 1) [.slice r.ma r.v.modes.length r.mc] := fun hM => by
        have := hcel2 1 hO1 hM
        exact this
      have hO1s : ∀ {L' : List Hp}, Mv ∈ L' → RdV L' ((⟨gv, i * 4, none⟩ : Addr).add 2) [.slice r.sa r.v.modes.length r.sc] := fun hM => by
        have := hcel2 2 hO1 hM
        simp only [VR.cells, hrok.same] at this
        exact this
      refine xhs hT [0, 1, 2, 3, 4, 5, 6, 7, 8, 9] (pre := []) (tp := [r.hs, O]) _ (Mv :: (r.hm :: r.hi :: Mt :: (D.flatMap VR.hps ++ (T.flatMap VR.hps ++ L)))) rfl rfl S (by decide +kernel) rfl true [.v [.slice r.ma r.v.modes.length r.mc], .v [.slice r.sa r.v.modes.length r.sc]] rfl ?_ fun a w S => ?_
      · (repeat' apply And.intro); all_goals first | exact True.intro | with_reducible assumption | decide +kernel | with_reducible exact Option.isSome_some | omega | with_reducible exact decide_eq_true (by omega) | with_reducible exact decide_eq_false (by omega) | with_reducible exact beq_iff_eq.2 (by omega) | with_reducible exact beq_eq_false_iff_ne.2 (by omega) | with_reducible exact bne_iff_ne.2 (by omega) | with_reducible exact bne_eq_false_iff_eq.2 (by omega) | skip
        all_goals first | exact hO1m List.mem_cons_self | exact hO1s List.mem_cons_self
      refine xt1 10 (by decide +kernel) (by decide +kernel) rfl ?_
      have hst := hrok.states
      rw [hrok.same] at hst
      have hx : Mf .f32 20 r.v.x := by
        unfold Vc.x
        cases hi : r.v.input with
        | nil => exact mf_zero 20
        | cons x t => exact hvk.input x (by rw [hi]; exact List.mem_cons_self)
      have hcall := c48 (ms := r.v.modes) (ss := r.v.states) (x := r.v.x) (e := K) (cs := r.sc) (c := r.mc) (A := r.ma) (S.sh.front) (hrok.modes.rows (by simp)) hst rfl hrok.same hvk.modes hvk.states hx h31 (by omega)
      refine xc S rfl rfl rfl rfl rfl en48 hcall fun v w ⟨hv, hs', hOs, H⟩ => ?_
      have S := S.ret1 (New := [hs']) 53 v H rfl
      subst hv
      refine xr hT S hl true [] 200 rfl (by (repeat' apply And.intro); all_goals first | exact True.intro | with_reducible assumption | decide +kernel | with_reducible exact Option.isSome_some | omega | with_reducible exact decide_eq_true (by omega) | with_reducible exact decide_eq_false (by omega) | with_reducible exact beq_iff_eq.2 (by omega) | with_reducible exact beq_eq_false_iff_ne.2 (by omega) | with_reducible exact bne_iff_ne.2 (by omega) | with_reducible exact bne_eq_false_iff_eq.2 (by omega) | skip) fun β2 a w hβ2 hl S => ?_
      refine xah S hβ2 wb (pre := []) rfl (tp := [hs', O]) rfl ?_
      refine xj ?_
      refine xt1 11 (by decide +kernel) (by decide +kernel) rfl ?_
      refine xr hT S hl true [] 200 rfl (by (repeat' apply And.intro); all_goals first | exact True.intro | with_reducible assumption | decide +kernel | with_reducible exact Option.isSome_some | omega | with_reducible exact decide_eq_true (by omega) | with_reducible exact decide_eq_false (by omega) | with_reducible exact beq_iff_eq.2 (by omega) | with_reducible exact beq_eq_false_iff_ne.2 (by omega) | with_reducible exact bne_iff_ne.2 (by omega) | with_reducible exact bne_eq_false_iff_eq.2 (by omega) | skip) fun β3 a w hβ3 hl S => ?_
      refine xah S (hβ2.trans hβ3) wb (pre := [_]) rfl (tp := [hs', O]) rfl ?_
      refine xj ?_
      have S := S.up 1 rfl rfl
      refine xt1 12 (by decide +kernel) (by decide +kernel) rfl ?_
      refine xapp hT S rfl rfl rfl rfl rfl rfl rfl rfl hOo rfl rfl (news := [fV r.v.out]) (S.boxCells (i := 1) (t := 23) (cs := [.v (fV r.v.out)]) rfl) rfl (by simp [Value.oneCell', fV]) (by show (i + 1) * 4 ≤ _; omega) (by simp only [maxLen]; omega) fun v' O a w hOo S => ?_
      obtain ⟨Ao, co, rfl, _⟩ := hOo.form
      refine xr hT S hl true [] 200 rfl (by (repeat' apply And.intro); all_goals first | exact True.intro | with_reducible assumption | decide +kernel | with_reducible exact Option.isSome_some | omega | with_reducible exact decide_eq_true (by omega) | with_reducible exact decide_eq_false (by omega) | with_reducible exact beq_iff_eq.2 (by omega) | with_reducible exact beq_eq_false_iff_ne.2 (by omega) | with_reducible exact bne_iff_ne.2 (by omega) | with_reducible exact bne_eq_false_iff_eq.2 (by omega) | skip) fun β4 a w hβ4 hl S => ?_
      refine xah S ((hβ2.trans hβ3).trans hβ4) wb (pre := [_]) rfl (tp := [O, hs']) rfl ?_
      refine xj ?_
      refine xt 13 _ rfl rfl (by decide +kernel) ?_
      refine xr hT S hl true [] 200 rfl (by (repeat' apply And.intro); all_goals first | exact True.intro | with_reducible assumption | decide +kernel | with_reducible exact Option.isSome_some | omega | with_reducible exact decide_eq_true (by omega) | with_reducible exact decide_eq_false (by omega) | with_reducible exact beq_iff_eq.2 (by omega) | with_reducible exact beq_eq_false_iff_ne.2 (by omega) | with_reducible exact bne_iff_ne.2 (by omega) | with_reducible exact bne_eq_false_iff_eq.2 (by omega) | skip) fun β5 a w hβ5 hl S => ?_
      rw [ei] at S
      have S := (((S.keep [0, 3, 14, 15] rfl).dropb).cutT [b] ((((hβ1.trans hβ2).trans hβ3).trans hβ4).trans hβ5) (by simp [SV.wfs, SV.wf]) (by simp [SV.wfs, SV.wf]))
      obtain ⟨r2, hr2⟩ : ∃ r2 : VR, r2 = { r with ia := ia, ic := ic, hs := hs', v := r.v.next } := ⟨_, rfl⟩
      have hnl : r.v.next.states.length = r.v.modes.length := by
        show (stepL r.v.modes r.v.states r.v.x).length = _
        rw [stepL_len _ _ _ hrok.same.symm, hrok.same]
      refine xj ⟨i + 1, ⟨D ++ [r2], Mv, O, Ao, co, by omega, by simp [hDl], ?_, ?_, ?_, ?_, ?_⟩, by omega⟩
      · rw [htk, List.map_append, List.map_append, hD1, hr2]
        rfl
      · intro z hz
        rcases List.mem_append.1 hz with hz | hz
        · exact hDo z hz
        · rw [List.mem_singleton.1 hz, hr2]
          refine ⟨hrok.modes, ?_, hIn, hnl, hIc⟩
          simp only [hnl]
          exact hOs
      · rw [hT1, List.append_assoc]
        have e3 : ∀ (F : List VR) (x y : VR), x.cells = y.cells → (D ++ x :: F).flatMap VR.cells = (D ++ y :: F).flatMap VR.cells := by
          intro F x y h
          rw [List.flatMap_append, List.flatMap_append, List.flatMap_cons, List.flatMap_cons, h]
        show Own Mv 63 4 _ _ ((D ++ r2 :: T).flatMap VR.cells)
        rw [e3 T r2 { r with ia := ia, ic := ic, v := { r.v with input := r.v.input.tail } } (by rw [hr2]; simp only [VR.cells, hnl, hrok.same]; rfl)]
        exact hO1
      · rw [htk, List.map_append, List.map_append]
        exact hOo
      · rw [hT1]
        refine S.perm ?_
        rw [List.flatMap_append, List.append_assoc]
        have e2 : [r2].flatMap VR.hps = [r.hm, hs', r.hi] := by rw [hr2]; rfl
        rw [e2]
        show (O :: hs' :: Mv :: (r.hm :: r.hi :: Mt :: (D.flatMap VR.hps ++ (T.flatMap VR.hps ++ L)))).Perm (O :: Mv :: Mt :: (D.flatMap VR.hps ++ (r.hm :: hs' :: r.hi :: (T.flatMap VR.hps ++ L))))
        have p1 : (D.flatMap VR.hps ++ (r.hm :: hs' :: r.hi :: (T.flatMap VR.hps ++ L))).Perm (r.hm :: hs' :: r.hi :: (D.flatMap VR.hps ++ (T.flatMap VR.hps ++ L))) := (List.perm_middle).trans (((List.perm_middle).trans ((List.perm_middle).cons _)).cons _)
        refine List.Perm.cons _ (List.Perm.trans ?_ ((p1.symm.cons Mt).cons Mv))
        refine (List.Perm.swap _ _ _).trans (List.Perm.cons _ ?_)
        have p2 := up_perm (l := hs' :: r.hm :: r.hi :: Mt :: (D.flatMap VR.hps ++ (T.flatMap VR.hps ++ L))) (k := 3) (x := Mt) rfl
        exact p2.trans (List.Perm.cons _ (List.Perm.swap _ _ _))
  · have e1 : i = vr.length := by omega
    subst e1
    rw [List.take_of_length_le (Nat.le_refl _)] at hD1 hOo
    rw [List.drop_of_length_le (Nat.le_refl _)] at S hO1
    refine xr hT S rfl true [.b false] 200 rfl (by (repeat' apply And.intro); all_goals first | exact True.intro | with_reducible assumption | decide +kernel | with_reducible exact Option.isSome_some | omega | with_reducible exact decide_eq_true (by omega) | with_reducible exact decide_eq_false (by omega) | with_reducible exact beq_iff_eq.2 (by omega) | with_reducible exact beq_eq_false_iff_ne.2 (by omega) | with_reducible exact bne_iff_ne.2 (by omega) | with_reducible exact bne_eq_false_iff_eq.2 (by omega) | skip) fun β4 a w hβ4 hl S => ?_
    have S := S.cutT [b] hβ4 (by simp [SV.wfs, SV.wf]) (by simp [SV.wfs, SV.wf])
    have en : (q.now : Int) + 1 = ((q.now + 1 : Nat) : Int) := by omega
    rw [en] at S
    have hoe : vr.map (fun r => r.v.out) = q.voices.map Vc.out := by rw [← hvr, List.map_map]; rfl
    have hol : (q.voices.map Vc.out).length = vr.length := by rw [List.length_map, hlv]
    rw [hol, ← hoe]
    refine xret hT S rfl ⟨_, rfl, _, O, Ao, co, rfl, hOo, ⟨Mv, Mt, Av, cv, At, ct, D, rfl, ?_, hDo, ?_, ?_⟩, hG, hdn, ?_⟩
    · rw [hD1, ← hvr, List.map_map]
      rfl
    · rw [hDl]
      rw [List.append_nil] at hO1
      exact hO1
    · rw [hDl]
      have htr : D.flatMap VR.trk = vr.flatMap VR.trk := by
        have t1 : ∀ l : List VR, l.flatMap VR.trk = (l.map VR.v).map (fun v => Value.int .i64 v.track) := by
          intro l
          induction l with
          | nil => rfl
          | cons x r ih => rw [List.flatMap_cons, ih]; rfl
        rw [t1, t1, hD1, List.map_map, List.map_map]
        rfl
      rw [htr]
      exact hO2
    · rw [hDl]
      exact S.sh.up 1 rfl rfl
end
end Go.SX
set_option maxRecDepth 100000
set_option linter.unusedVariables false
set_option linter.unusedSectionVars false
namespace Go.SX
open Go.Proofs
variable {u w : World} {L B : List Hp} {b : Nat} {M : Hp}
structure Sorted (s : Sc) (cur : List Ev) : Prop where
  len : cur.length = s.events.length
  fil : Fil cur s.events
  srt : Srt s.events.length cur
theorem c23 {s : Sc} {A E : Option Addr} {cb ce : Nat} {vs : List Value} {most : Int} (H : SH u w L) (hA : All2 (RBod L) vs s.bodies) (hRA : Rows L A s.bodies.length 1 vs) (hRE : Rows L E s.events.length 6 (s.events.flatMap Ev.cells)) (h : ScOk most s) (hm : most ≤ 2000) :
    Ret Try.prog 23 [.agg #[.int .i64 s.len, .int .i64 s.voices, .float .f32 s.ceil, .float .f32 s.rel, .slice A s.bodies.length cb, .slice E s.events.length ce]] w
      fun v w' => ∃ b M cur Ax cx Ms, v = .pointer (some ⟨b, 0, none⟩) ∧ Sorted s cur ∧ Own M 31 6 (.slice Ax s.events.length cx) s.events.length (List.flatMap Ev.cells cur) ∧ PlM b s A cb E ce (.slice Ax s.events.length cx) P0 Ms ∧ SH u w' (Ms ++ (M :: L)) := by
  refine ent Try.func23 rfl H 8 rfl [(0, .v (.agg #[.int .i64 s.len, .int .i64 s.voices, .float .f32 s.ceil, .float .f32 s.rel, .slice A s.bodies.length cb, .slice E s.events.length ce]))] rfl rfl fun a S => ?_
  refine xr hT S rfl true [] 200 rfl (by (repeat' apply And.intro); all_goals first | exact True.intro | with_reducible assumption | decide +kernel | with_reducible exact Option.isSome_some | omega | with_reducible exact decide_eq_true (by omega) | with_reducible exact decide_eq_false (by omega) | with_reducible exact beq_iff_eq.2 (by omega) | with_reducible exact beq_eq_false_iff_ne.2 (by omega) | with_reducible exact bne_iff_ne.2 (by omega) | with_reducible exact bne_eq_false_iff_eq.2 (by omega) | skip) fun β a w hβ hl S => ?_
  have wb := S.wb
  refine xhs hT [0, 1] (pre := []) _ [] rfl (List.append_nil _).symm S (by decide +kernel) rfl true [] rfl (by (repeat' apply And.intro); all_goals first | exact True.intro | with_reducible assumption | decide +kernel | with_reducible exact Option.isSome_some | omega | with_reducible exact decide_eq_true (by omega) | with_reducible exact decide_eq_false (by omega) | with_reducible exact beq_iff_eq.2 (by omega) | with_reducible exact beq_eq_false_iff_ne.2 (by omega) | with_reducible exact bne_iff_ne.2 (by omega) | with_reducible exact bne_eq_false_iff_eq.2 (by omega) | skip) fun a w S => ?_
  refine xt1 2 (by decide +kernel) (by decide +kernel) rfl ?_
  refine xc S rfl rfl rfl rfl rfl en20 (c20 (v := .agg #[.int .i64 s.len, .int .i64 s.voices, .float .f32 s.ceil, .float .f32 s.rel, .slice A s.bodies.length cb, .slice E s.events.length ce]) S.sh ⟨A, cb, E, ce, vs, rfl, hA.mono fun _ _ h => h.mono (List.subset_append_right _ _), hRA.mono (List.subset_append_right _ _), hRE.mono (List.subset_append_right _ _)⟩ h hm) fun v w ⟨Ax, cx, hv, M, cur, h1, h2, h3, h4, H⟩ => ?_
  have S := S.retd (New := [M]) 5 v H rfl
  subst hv
  refine xr hT S hl true [] 200 rfl (by (repeat' apply And.intro); all_goals first | exact True.intro | with_reducible assumption | decide +kernel | with_reducible exact Option.isSome_some | omega | with_reducible exact decide_eq_true (by omega) | with_reducible exact decide_eq_false (by omega) | with_reducible exact beq_iff_eq.2 (by omega) | with_reducible exact beq_eq_false_iff_ne.2 (by omega) | with_reducible exact bne_iff_ne.2 (by omega) | with_reducible exact bne_eq_false_iff_eq.2 (by omega) | skip) fun β2 a w hβ2 hl S => ?_
  refine xah S hβ2 wb (pre := []) rfl (List.append_nil _).symm ?_
  refine xj ?_
  refine xt1 3 (by decide +kernel) (by decide +kernel) rfl ?_
  refine xr hT S hl true [] 200 rfl (by (repeat' apply And.intro); all_goals first | exact True.intro | with_reducible assumption | decide +kernel | with_reducible exact Option.isSome_some | omega | with_reducible exact decide_eq_true (by omega) | with_reducible exact decide_eq_false (by omega) | with_reducible exact beq_iff_eq.2 (by omega) | with_reducible exact beq_eq_false_iff_ne.2 (by omega) | with_reducible exact bne_iff_ne.2 (by omega) | with_reducible exact bne_eq_false_iff_eq.2 (by omega) | skip) fun β3 a w hβ3 hl S => ?_
  refine xah S (hβ2.trans hβ3) wb (pre := []) rfl (List.append_nil _).symm ?_
  refine xj ?_
  refine xt1 4 (by decide +kernel) (by decide +kernel) rfl ?_
  refine xr hT S hl true [] 200 rfl (by (repeat' apply And.intro); all_goals first | exact True.intro | with_reducible assumption | decide +kernel | with_reducible exact Option.isSome_some | omega | with_reducible exact decide_eq_true (by omega) | with_reducible exact decide_eq_false (by omega) | with_reducible exact beq_iff_eq.2 (by omega) | with_reducible exact beq_eq_false_iff_ne.2 (by omega) | with_reducible exact bne_iff_ne.2 (by omega) | with_reducible exact bne_eq_false_iff_eq.2 (by omega) | skip) fun β4 a w hβ4 hl S => ?_
  refine xah S ((hβ2.trans hβ3).trans hβ4) wb (pre := [_]) rfl (List.append_nil _).symm ?_
  refine xj ?_
  refine xt 5 _ rfl rfl (by decide +kernel) ?_
  refine xr hT S hl true [] 200 rfl (by (repeat' apply And.intro); all_goals first | exact True.intro | with_reducible assumption | decide +kernel | with_reducible exact Option.isSome_some | omega | with_reducible exact decide_eq_true (by omega) | with_reducible exact decide_eq_false (by omega) | with_reducible exact beq_iff_eq.2 (by omega) | with_reducible exact beq_eq_false_iff_ne.2 (by omega) | with_reducible exact bne_iff_ne.2 (by omega) | with_reducible exact bne_eq_false_iff_eq.2 (by omega) | skip) fun β5 a w hβ5 hl S => ?_
  have H := S.sh
  refine xret hT S rfl ⟨_, rfl, β5.getD 1 0, M, cur, Ax, cx, _, rfl, ⟨h1, h2, h3⟩, h4, ⟨Hp.emp, Hp.emp, none, 0, none, 0, [], rfl, rfl, by simp, Own.nil 63 4, Own.nil 3 1⟩, ?_⟩
  have H2 := H.sub (L' := PH (β5.getD 1 0) s A cb E ce (.slice Ax s.events.length cx) 0 0 (.slice none 0 0) (.slice none 0 0) 0 :: M :: L) (((List.Sublist.refl _).cons _).cons_cons _)
  exact H2.emp.emp.up 2 rfl rfl
end Go.SX
set_option maxRecDepth 100000
set_option linter.unusedVariables false
set_option linter.unusedSectionVars false
namespace Go.SX
open Go.Proofs
variable {u w : World} {L B : List Hp} {b : Nat} {M : Hp}
theorem arrL_now (s : Sc) : ∀ (l : List Ev) (q : Pz), (arrL s l q).now = q.now
  | [], q => rfl
  | e :: r, q => by
    rw [arrL]
    split
    · rw [arrL_now s r]
      exact happen_now
    · rfl
theorem runP_now (s : Sc) (evs : List Ev) : ∀ t, (runP s evs t).now = t
  | 0 => rfl
  | t + 1 => by
    show (arr s evs (runP s evs t)).now + 1 = t + 1
    unfold arr
    rw [arrL_now, runP_now s evs t]
def xP_ (s : Sc) (cur : List Ev) (t : Nat) : Nat := sum32 0 (outsP s cur (runP s cur t))
/-- the sample at t can be made -/
def StepOk (s : Sc) (cur : List Ev) (t : Nat) : Prop := ∃ K e, 31 ≤ K ∧ K + 6 ≤ 127 ∧ Gok s K (runP s cur t) ∧ (∀ x ∈ outsP s cur (runP s cur t), Mf .f32 e x) ∧ e + 4 ≤ 127 ∧ (outsP s cur (runP s cur t)).length ≤ 4 ∧ xP_ s cur t < 2 ^ 32 ∧
  (floatBits .mul .f32 (envP s cur t) s.rel).isSome = true ∧ (fcmp .gtr .f32 (limE (envP s cur t) (xP_ s cur t) s.rel) s.ceil = true → (floatBits .mul .f32 (xP_ s cur t) s.ceil).isSome = true ∧ (floatBits .quo .f32 (fop .mul .f32 (xP_ s cur t) s.ceil) (limE (envP s cur t) (xP_ s cur t) s.rel)).isSome = true)
theorem ScOk.sok {most : Int} {s : Sc} (h : ScOk most s) : SOk s := ⟨h.voices, by have := h.bodies.1; omega, h.bodies.2⟩
theorem Sorted.ev {most : Int} {s : Sc} {cur : List Ev} (h : ScOk most s) (hc : Sorted s cur) : ∀ e ∈ cur, EvOk s.len s.bodies.length e := fun e he => h.events.2 e (hc.fil.mem he)
section
variable {β : List Nat} {a : Act} {n : Nat} {l : EL} {bx : BL} {tl : List Hp}
theorem perm_call (X R Ms : List Hp) (O : Hp) : (X ++ (O :: (Ms ++ R))).Perm (Ms ++ ((X ++ [O]) ++ R)) := by
  rw [List.append_cons]
  exact List.perm_append_comm_assoc _ _ _
theorem perm_back (X R Ms : List Hp) (O M : Hp) : (M :: (Ms ++ ((X ++ [O]) ++ R))).Perm (X ++ (M :: O :: (Ms ++ R))) := by
  refine List.Perm.trans ?_ (List.perm_middle).symm
  exact (perm_call X R Ms O).symm.cons M
end
def I21 (u : World) (L : List Hp) (b : Nat) (s : Sc) (A : Option Addr) (cb : Nat) (E : Option Addr) (ce : Nat) (X : Value) (cur : List Ev) (n : Nat) (t : Nat) (a : Act) (w : World) : Prop :=
  ∃ β Ms O Ao co, β.length = 1 ∧ t ≤ n ∧ PlM b s A cb E ce X (runP s cur t) Ms ∧ (runP s cur t).done ≤ s.events.length ∧ Own O 23 1 (.slice Ao t co) t (List.map fV (List.map (smpP s cur) (List.range t))) ∧
    St β u w a 37 [(2, .p 0 0), (7, .v (.pointer (some ⟨b, 0, none⟩))), (8, .v (fV (envP s cur t))), (9, .v (.slice Ao t co)), (14, .v (.int .i64 n)), (15, .v (.int .i64 (t : Int)))]
      [(0, 27, [.v (.int .i64 s.len), .v (.int .i64 s.voices), .v (.float .f32 s.ceil), .v (.float .f32 s.rel), .v (.slice A s.bodies.length cb), .v (.slice E s.events.length ce)])] (O :: (Ms ++ L))
theorem c21 {s : Sc} {A E : Option Addr} {cb ce n : Nat} {vs : List Value} {most : Int} (H : SH u w L) (hA : All2 (RBod L) vs s.bodies) (hRA : Rows L A s.bodies.length 1 vs) (hRE : Rows L E s.events.length 6 (s.events.flatMap Ev.cells)) (h : ScOk most s) (hm : most ≤ 2000) (hn : n ≤ 2000)
    (hok : ∀ cur, Sorted s cur → ∀ t < n, StepOk s cur t) :
    Ret Try.prog 21 [.agg #[.int .i64 s.len, .int .i64 s.voices, .float .f32 s.ceil, .float .f32 s.rel, .slice A s.bodies.length cb, .slice E s.events.length ce], .int .i64 (n : Int)] w
      fun v w' => ∃ cur p O Ao co, Sorted s cur ∧ v = .tuple #[p, fV (envP s cur n), .slice Ao n co] ∧ Own O 23 1 (.slice Ao n co) n (((List.range n).map (smpP s cur)).map fV) ∧ SH u w' (O :: L) := by
  refine ent Try.func21 rfl H 37 rfl [(0, .v (.agg #[.int .i64 s.len, .int .i64 s.voices, .float .f32 s.ceil, .float .f32 s.rel, .slice A s.bodies.length cb, .slice E s.events.length ce])), (1, .v (.int .i64 (n : Int)))] rfl rfl fun a S => ?_
  refine xr hT S rfl true [] 200 rfl (by (repeat' apply And.intro); all_goals first | exact True.intro | with_reducible assumption | decide +kernel | with_reducible exact Option.isSome_some | omega | with_reducible exact decide_eq_true (by omega) | with_reducible exact decide_eq_false (by omega) | with_reducible exact beq_iff_eq.2 (by omega) | with_reducible exact beq_eq_false_iff_ne.2 (by omega) | with_reducible exact bne_iff_ne.2 (by omega) | with_reducible exact bne_eq_false_iff_eq.2 (by omega) | skip) fun β a w hβ hl S => ?_
  have hss := List.subset_append_right (bhs β [(0, 27, [SV.v (.int .i64 s.len), .v (.int .i64 s.voices), .v (.float .f32 s.ceil), .v (.float .f32 s.rel), .v (.slice A s.bodies.length cb), .v (.slice E s.events.length ce)])]) L
  refine xc S rfl rfl rfl rfl rfl en23 (c23 (s := s) (A := A) (E := E) (cb := cb) (ce := ce) S.sh (hA.mono fun _ _ h => h.mono hss) (hRA.mono hss) (hRE.mono hss) h hm) fun v w ⟨b, M, cur, Ax, cx, Ms, hv, hcur, hOx, hP, H⟩ => ?_
  subst hv
  have S := S.retd (New := Ms ++ [M]) 12 (.pointer (some ⟨b, 0, none⟩)) (by rw [List.append_assoc]; exact H) rfl
  have hok := hok cur hcur
  have hev := hcur.ev h
  have hne := h.events.1
  refine xr hT S hl true [] 200 rfl (by (repeat' apply And.intro); all_goals first | exact True.intro | with_reducible assumption | decide +kernel | with_reducible exact Option.isSome_some | omega | with_reducible exact decide_eq_true (by omega) | with_reducible exact decide_eq_false (by omega) | with_reducible exact beq_iff_eq.2 (by omega) | with_reducible exact beq_eq_false_iff_ne.2 (by omega) | with_reducible exact bne_iff_ne.2 (by omega) | with_reducible exact bne_eq_false_iff_eq.2 (by omega) | skip) fun β2 a w hβ2 hl S => ?_
  have S := S.unbox (d := 9) rfl
  have S : St β2 u w a 37 _ _ (_ :: ((Ms ++ [M]) ++ L)) := S
  rw [List.append_assoc] at S
  obtain ⟨β3, hl3, S⟩ := (S.keep [2, 7, 8, 9, 14, 15] rfl).cut 1 (by rw [hl]; simp) (by simp [SV.wfs, SV.wf]) (by simp [SV.wfs, SV.wf])
  refine xloop (I21 u ([M] ++ L) b s A cb E ce (.slice Ax s.events.length cx) cur n) (fun t => n - t) 0 ⟨β3, Ms, _, _, 0, hl3, Nat.zero_le _, hP, Nat.zero_le _, Own.empty _ 23 1, S⟩ fun t a w ⟨β, Ms, O, Ao, co, hl, ht, hP, hdn, hO, S⟩ => ?_
  by_cases hin : t < n
  · obtain ⟨K, e, h31, hK, hg, hb, he, ho4, hx32, hmul, hlim⟩ := hok t hin
    have et : (t : Int) + 1 = ((t + 1 : Nat) : Int) := by omega
    refine xr hT S hl true [.b true] 200 rfl (by (repeat' apply And.intro); all_goals first | exact True.intro | with_reducible assumption | decide +kernel | with_reducible exact Option.isSome_some | omega | with_reducible exact decide_eq_true (by omega) | with_reducible exact decide_eq_false (by omega) | with_reducible exact beq_iff_eq.2 (by omega) | with_reducible exact beq_eq_false_iff_ne.2 (by omega) | with_reducible exact bne_iff_ne.2 (by omega) | with_reducible exact bne_eq_false_iff_eq.2 (by omega) | skip) fun β1 a w hβ1 hl S => ?_
    have wb := S.wb
    refine xhs hT [0, 1, 4, 5, 6, 7] (pre := []) _ [] rfl (List.append_nil _).symm S (by decide +kernel) rfl true [] rfl (by (repeat' apply And.intro); all_goals first | exact True.intro | with_reducible assumption | decide +kernel | with_reducible exact Option.isSome_some | omega | with_reducible exact decide_eq_true (by omega) | with_reducible exact decide_eq_false (by omega) | with_reducible exact beq_iff_eq.2 (by omega) | with_reducible exact beq_eq_false_iff_ne.2 (by omega) | with_reducible exact bne_iff_ne.2 (by omega) | with_reducible exact bne_eq_false_iff_eq.2 (by omega) | skip) fun a w S => ?_
    refine xt1 2 (by decide +kernel) (by decide +kernel) rfl ?_
    have hsub : L ⊆ (bhs β1 [(0, 27, [SV.v (.int .i64 s.len), .v (.int .i64 s.voices), .v (.float .f32 s.ceil), .v (.float .f32 s.rel), .v (.slice A s.bodies.length cb), .v (.slice E s.events.length ce)])] ++ [O]) ++ ([M] ++ L) := fun m hm => by simp [hm]
    have hcall := c24 (p := runP s cur t) (K := K) (evs := cur) (S.sh.perm (perm_call _ _ _ _)) hP hg h.sok hev (SD.mono (L := L) ⟨hA, hRA⟩ hsub) (hOx.rows (by simp)) hcur.len (by omega) hdn h31 hK (by rw [runP_now]; omega)
    refine xc S rfl rfl rfl rfl rfl en24 hcall fun v w ⟨Ms, M2, A2, c2, hv, hO2, hP, hg2, hdn, H⟩ => ?_
    subst hv
    have S := S.put (d := some 20) (v := .slice A2 (outsP s cur (runP s cur t)).length c2) (H.perm (perm_back _ _ _ _ _)) rfl
    refine xr hT S hl true [] 200 rfl (by (repeat' apply And.intro); all_goals first | exact True.intro | with_reducible assumption | decide +kernel | with_reducible exact Option.isSome_some | omega | with_reducible exact decide_eq_true (by omega) | with_reducible exact decide_eq_false (by omega) | with_reducible exact beq_iff_eq.2 (by omega) | with_reducible exact beq_eq_false_iff_ne.2 (by omega) | with_reducible exact bne_iff_ne.2 (by omega) | with_reducible exact bne_eq_false_iff_eq.2 (by omega) | skip) fun β2 a w hβ2 hl S => ?_
    refine xah S hβ2 wb (pre := []) rfl (List.append_nil _).symm ?_
    refine xj ?_
    refine xt1 3 (by decide +kernel) (by decide +kernel) rfl ?_
    refine xP S rfl rfl rfl rfl rfl rfl en45 (fun H => c45 (e := e) H (hO2.rows (by simp)) hb (by omega)) fun v a w hv S => ?_
    subst hv
    have hxe : sum32 0 (outsP s cur (runP s cur t)) = xP_ s cur t := rfl
    rw [hxe] at S
    refine xr hT S hl true [] 200 rfl (by (repeat' apply And.intro); all_goals first | exact True.intro | with_reducible assumption | decide +kernel | with_reducible exact Option.isSome_some | omega | with_reducible exact decide_eq_true (by omega) | with_reducible exact decide_eq_false (by omega) | with_reducible exact beq_iff_eq.2 (by omega) | with_reducible exact beq_eq_false_iff_ne.2 (by omega) | with_reducible exact bne_iff_ne.2 (by omega) | with_reducible exact bne_eq_false_iff_eq.2 (by omega) | skip) fun β3 a w hβ3 hl S => ?_
    refine xah S (hβ2.trans hβ3) wb (pre := []) rfl (List.append_nil _).symm ?_
    refine xj ?_
    refine xt1 8 (by decide +kernel) (by decide +kernel) rfl ?_
    refine xP S rfl rfl rfl rfl rfl rfl en44 (fun H => c44 H hx32 hmul hlim) fun v a w hv S => ?_
    subst hv
    refine xr hT S hl true [] 200 rfl (by (repeat' apply And.intro); all_goals first | exact True.intro | with_reducible assumption | decide +kernel | with_reducible exact Option.isSome_some | omega | with_reducible exact decide_eq_true (by omega) | with_reducible exact decide_eq_false (by omega) | with_reducible exact beq_iff_eq.2 (by omega) | with_reducible exact beq_eq_false_iff_ne.2 (by omega) | with_reducible exact bne_iff_ne.2 (by omega) | with_reducible exact bne_eq_false_iff_eq.2 (by omega) | skip) fun β4 a w hβ4 hl S => ?_
    refine xah S ((hβ2.trans hβ3).trans hβ4) wb (pre := []) rfl (List.append_nil _).symm ?_
    refine xj ?_
    refine xt1 9 (by decide +kernel) (by decide +kernel) rfl ?_
    refine xr hT S hl true [] 200 rfl (by (repeat' apply And.intro); all_goals first | exact True.intro | with_reducible assumption | decide +kernel | with_reducible exact Option.isSome_some | omega | with_reducible exact decide_eq_true (by omega) | with_reducible exact decide_eq_false (by omega) | with_reducible exact beq_iff_eq.2 (by omega) | with_reducible exact beq_eq_false_iff_ne.2 (by omega) | with_reducible exact bne_iff_ne.2 (by omega) | with_reducible exact bne_eq_false_iff_eq.2 (by omega) | skip) fun β5 a w hβ5 hl S => ?_
    refine xah S (((hβ2.trans hβ3).trans hβ4).trans hβ5) wb (pre := []) rfl (List.append_nil _).symm ?_
    refine xj ?_
    have e1 : limX (envP s cur t) (xP_ s cur t) s.ceil s.rel = smpP s cur t := rfl
    have e2 : limE (envP s cur t) (xP_ s cur t) s.rel = envP s cur (t + 1) := rfl
    rw [e1, e2] at S
    refine xt2 10 11 (by decide +kernel) (by decide +kernel) (by decide +kernel) rfl rfl ?_ ?_
    · refine xr hT S hl true [] 200 rfl (by (repeat' apply And.intro); all_goals first | exact True.intro | with_reducible assumption | decide +kernel | with_reducible exact Option.isSome_some | omega | with_reducible exact decide_eq_true (by omega) | with_reducible exact decide_eq_false (by omega) | with_reducible exact beq_iff_eq.2 (by omega) | with_reducible exact beq_eq_false_iff_ne.2 (by omega) | with_reducible exact bne_iff_ne.2 (by omega) | with_reducible exact bne_eq_false_iff_eq.2 (by omega) | skip) fun β6 a w hβ6 hl S => ?_
      refine xah S ((((hβ2.trans hβ3).trans hβ4).trans hβ5).trans hβ6) wb (pre := []) rfl (List.append_nil _).symm ?_
      refine xj ?_
      refine xt2 11 12 (by decide +kernel) (by decide +kernel) (by decide +kernel) rfl rfl ?_ ?_
      · refine xr hT S hl true [] 200 rfl (by (repeat' apply And.intro); all_goals first | exact True.intro | with_reducible assumption | decide +kernel | with_reducible exact Option.isSome_some | omega | with_reducible exact decide_eq_true (by omega) | with_reducible exact decide_eq_false (by omega) | with_reducible exact beq_iff_eq.2 (by omega) | with_reducible exact beq_eq_false_iff_ne.2 (by omega) | with_reducible exact bne_iff_ne.2 (by omega) | with_reducible exact bne_eq_false_iff_eq.2 (by omega) | skip) fun β7 a w hβ7 hl S => ?_
        refine xah S (((((hβ2.trans hβ3).trans hβ4).trans hβ5).trans hβ6).trans hβ7) wb (pre := []) rfl (List.append_nil _).symm ?_
        refine xj ?_
        refine xt1 12 (by decide +kernel) (by decide +kernel) rfl ?_
        refine xr hT S hl true [] 200 rfl (by (repeat' apply And.intro); all_goals first | exact True.intro | with_reducible assumption | decide +kernel | with_reducible exact Option.isSome_some | omega | with_reducible exact decide_eq_true (by omega) | with_reducible exact decide_eq_false (by omega) | with_reducible exact beq_iff_eq.2 (by omega) | with_reducible exact beq_eq_false_iff_ne.2 (by omega) | with_reducible exact bne_iff_ne.2 (by omega) | with_reducible exact bne_eq_false_iff_eq.2 (by omega) | skip) fun β8 a w hβ8 hl S => ?_
        refine xah S ((((((hβ2.trans hβ3).trans hβ4).trans hβ5).trans hβ6).trans hβ7).trans hβ8) wb (pre := []) rfl (List.append_nil _).symm ?_
        refine xj ?_
        refine xt 13 _ rfl rfl (by decide +kernel) ?_
        refine xr hT S hl true [] 200 rfl (by (repeat' apply And.intro); all_goals first | exact True.intro | with_reducible assumption | decide +kernel | with_reducible exact Option.isSome_some | omega | with_reducible exact decide_eq_true (by omega) | with_reducible exact decide_eq_false (by omega) | with_reducible exact beq_iff_eq.2 (by omega) | with_reducible exact beq_eq_false_iff_ne.2 (by omega) | with_reducible exact bne_iff_ne.2 (by omega) | with_reducible exact bne_eq_false_iff_eq.2 (by omega) | skip) fun β9 a w hβ9 hl S => ?_
        have S := S.up 1 rfl rfl
        refine xapp hT S rfl rfl rfl rfl rfl rfl rfl rfl hO rfl rfl (news := [fV (smpP s cur t)]) (S.boxCells (i := 1) (t := 23) (cs := [.v (fV (smpP s cur t))]) rfl) rfl (by simp [Value.oneCell', fV]) (by show (t + 1) * 4 ≤ _; omega) (by simp only [maxLen]; omega) fun v' O a w hO S => ?_
        obtain ⟨Ao, co, rfl, _⟩ := hO.form
        refine xr hT S hl true [] 200 rfl (by (repeat' apply And.intro); all_goals first | exact True.intro | with_reducible assumption | decide +kernel | with_reducible exact Option.isSome_some | omega | with_reducible exact decide_eq_true (by omega) | with_reducible exact decide_eq_false (by omega) | with_reducible exact beq_iff_eq.2 (by omega) | with_reducible exact beq_eq_false_iff_ne.2 (by omega) | with_reducible exact bne_iff_ne.2 (by omega) | with_reducible exact bne_eq_false_iff_eq.2 (by omega) | skip) fun β10 a w hβ10 hl S => ?_
        rw [et] at S
        obtain ⟨βz, hlz, S⟩ := ((S.keep [2, 7, 8, 9, 14, 15] rfl).dropb).cut 1 (by rw [hl]; simp) (by simp [SV.wfs, SV.wf]) (by simp [SV.wfs, SV.wf])
        refine xj ⟨t + 1, ⟨βz, Ms, O, Ao, co, hlz, by omega, hP, hdn, ?_, S.sub (((List.Sublist.refl _).cons M2).cons_cons O)⟩, by omega⟩
        rw [List.range_succ, List.map_append, List.map_append]
        exact hO
      · refine xr hT S hl true [] 200 rfl (by (repeat' apply And.intro); all_goals first | exact True.intro | with_reducible assumption | decide +kernel | with_reducible exact Option.isSome_some | omega | with_reducible exact decide_eq_true (by omega) | with_reducible exact decide_eq_false (by omega) | with_reducible exact beq_iff_eq.2 (by omega) | with_reducible exact beq_eq_false_iff_ne.2 (by omega) | with_reducible exact bne_iff_ne.2 (by omega) | with_reducible exact bne_eq_false_iff_eq.2 (by omega) | skip) fun β7 a w hβ7 hl S => ?_
        refine xah S (((((hβ2.trans hβ3).trans hβ4).trans hβ5).trans hβ6).trans hβ7) wb (pre := []) rfl (List.append_nil _).symm ?_
        refine xj ?_
        refine xt1 11 (by decide +kernel) (by decide +kernel) rfl ?_
        refine xr hT S hl true [] 200 rfl (by (repeat' apply And.intro); all_goals first | exact True.intro | with_reducible assumption | decide +kernel | with_reducible exact Option.isSome_some | omega | with_reducible exact decide_eq_true (by omega) | with_reducible exact decide_eq_false (by omega) | with_reducible exact beq_iff_eq.2 (by omega) | with_reducible exact beq_eq_false_iff_ne.2 (by omega) | with_reducible exact bne_iff_ne.2 (by omega) | with_reducible exact bne_eq_false_iff_eq.2 (by omega) | skip) fun β8 a w hβ8 hl S => ?_
        refine xah S ((((((hβ2.trans hβ3).trans hβ4).trans hβ5).trans hβ6).trans hβ7).trans hβ8) wb (pre := []) rfl (List.append_nil _).symm ?_
        refine xj ?_
        refine xt 13 _ rfl rfl (by decide +kernel) ?_
        refine xr hT S hl true [] 200 rfl (by (repeat' apply And.intro); all_goals first | exact True.intro | with_reducible assumption | decide +kernel | with_reducible exact Option.isSome_some | omega | with_reducible exact decide_eq_true (by omega) | with_reducible exact decide_eq_false (by omega) | with_reducible exact beq_iff_eq.2 (by omega) | with_reducible exact beq_eq_false_iff_ne.2 (by omega) | with_reducible exact bne_iff_ne.2 (by omega) | with_reducible exact bne_eq_false_iff_eq.2 (by omega) | skip) fun β9 a w hβ9 hl S => ?_
        have S := S.up 1 rfl rfl
        refine xapp hT S rfl rfl rfl rfl rfl rfl rfl rfl hO rfl rfl (news := [fV (smpP s cur t)]) (S.boxCells (i := 1) (t := 23) (cs := [.v (fV (smpP s cur t))]) rfl) rfl (by simp [Value.oneCell', fV]) (by show (t + 1) * 4 ≤ _; omega) (by simp only [maxLen]; omega) fun v' O a w hO S => ?_
        obtain ⟨Ao, co, rfl, _⟩ := hO.form
        refine xr hT S hl true [] 200 rfl (by (repeat' apply And.intro); all_goals first | exact True.intro | with_reducible assumption | decide +kernel | with_reducible exact Option.isSome_some | omega | with_reducible exact decide_eq_true (by omega) | with_reducible exact decide_eq_false (by omega) | with_reducible exact beq_iff_eq.2 (by omega) | with_reducible exact beq_eq_false_iff_ne.2 (by omega) | with_reducible exact bne_iff_ne.2 (by omega) | with_reducible exact bne_eq_false_iff_eq.2 (by omega) | skip) fun β10 a w hβ10 hl S => ?_
        rw [et] at S
        obtain ⟨βz, hlz, S⟩ := ((S.keep [2, 7, 8, 9, 14, 15] rfl).dropb).cut 1 (by rw [hl]; simp) (by simp [SV.wfs, SV.wf]) (by simp [SV.wfs, SV.wf])
        refine xj ⟨t + 1, ⟨βz, Ms, O, Ao, co, hlz, by omega, hP, hdn, ?_, S.sub (((List.Sublist.refl _).cons M2).cons_cons O)⟩, by omega⟩
        rw [List.range_succ, List.map_append, List.map_append]
        exact hO
    · refine xr hT S hl true [] 200 rfl (by (repeat' apply And.intro); all_goals first | exact True.intro | with_reducible assumption | decide +kernel | with_reducible exact Option.isSome_some | omega | with_reducible exact decide_eq_true (by omega) | with_reducible exact decide_eq_false (by omega) | with_reducible exact beq_iff_eq.2 (by omega) | with_reducible exact beq_eq_false_iff_ne.2 (by omega) | with_reducible exact bne_iff_ne.2 (by omega) | with_reducible exact bne_eq_false_iff_eq.2 (by omega) | skip) fun β6 a w hβ6 hl S => ?_
      refine xah S ((((hβ2.trans hβ3).trans hβ4).trans hβ5).trans hβ6) wb (pre := []) rfl (List.append_nil _).symm ?_
      refine xj ?_
      refine xt1 10 (by decide +kernel) (by decide +kernel) rfl ?_
      refine xr hT S hl true [] 200 rfl (by (repeat' apply And.intro); all_goals first | exact True.intro | with_reducible assumption | decide +kernel | with_reducible exact Option.isSome_some | omega | with_reducible exact decide_eq_true (by omega) | with_reducible exact decide_eq_false (by omega) | with_reducible exact beq_iff_eq.2 (by omega) | with_reducible exact beq_eq_false_iff_ne.2 (by omega) | with_reducible exact bne_iff_ne.2 (by omega) | with_reducible exact bne_eq_false_iff_eq.2 (by omega) | skip) fun β7 a w hβ7 hl S => ?_
      refine xah S (((((hβ2.trans hβ3).trans hβ4).trans hβ5).trans hβ6).trans hβ7) wb (pre := []) rfl (List.append_nil _).symm ?_
      refine xj ?_
      refine xt1 12 (by decide +kernel) (by decide +kernel) rfl ?_
      refine xr hT S hl true [] 200 rfl (by (repeat' apply And.intro); all_goals first | exact True.intro | with_reducible assumption | decide +kernel | with_reducible exact Option.isSome_some | omega | with_reducible exact decide_eq_true (by omega) | with_reducible exact decide_eq_false (by omega) | with_reducible exact beq_iff_eq.2 (by omega) | with_reducible exact beq_eq_false_iff_ne.2 (by omega) | with_reducible exact bne_iff_ne.2 (by omega) | with_reducible exact bne_eq_false_iff_eq.2 (by omega) | skip) fun β8 a w hβ8 hl S => ?_
      refine xah S ((((((hβ2.trans hβ3).trans hβ4).trans hβ5).trans hβ6).trans hβ7).trans hβ8) wb (pre := []) rfl (List.append_nil _).symm ?_
      refine xj ?_
      refine xt 13 _ rfl rfl (by decide +kernel) ?_
      refine xr hT S hl true [] 200 rfl (by (repeat' apply And.intro); all_goals first | exact True.intro | with_reducible assumption | decide +kernel | with_reducible exact Option.isSome_some | omega | with_reducible exact decide_eq_true (by omega) | with_reducible exact decide_eq_false (by omega) | with_reducible exact beq_iff_eq.2 (by omega) | with_reducible exact beq_eq_false_iff_ne.2 (by omega) | with_reducible exact bne_iff_ne.2 (by omega) | with_reducible exact bne_eq_false_iff_eq.2 (by omega) | skip) fun β9 a w hβ9 hl S => ?_
      have S := S.up 1 rfl rfl
      refine xapp hT S rfl rfl rfl rfl rfl rfl rfl rfl hO rfl rfl (news := [fV (smpP s cur t)]) (S.boxCells (i := 1) (t := 23) (cs := [.v (fV (smpP s cur t))]) rfl) rfl (by simp [Value.oneCell', fV]) (by show (t + 1) * 4 ≤ _; omega) (by simp only [maxLen]; omega) fun v' O a w hO S => ?_
      obtain ⟨Ao, co, rfl, _⟩ := hO.form
      refine xr hT S hl true [] 200 rfl (by (repeat' apply And.intro); all_goals first | exact True.intro | with_reducible assumption | decide +kernel | with_reducible exact Option.isSome_some | omega | with_reducible exact decide_eq_true (by omega) | with_reducible exact decide_eq_false (by omega) | with_reducible exact beq_iff_eq.2 (by omega) | with_reducible exact beq_eq_false_iff_ne.2 (by omega) | with_reducible exact bne_iff_ne.2 (by omega) | with_reducible exact bne_eq_false_iff_eq.2 (by omega) | skip) fun β10 a w hβ10 hl S => ?_
      rw [et] at S
      obtain ⟨βz, hlz, S⟩ := ((S.keep [2, 7, 8, 9, 14, 15] rfl).dropb).cut 1 (by rw [hl]; simp) (by simp [SV.wfs, SV.wf]) (by simp [SV.wfs, SV.wf])
      refine xj ⟨t + 1, ⟨βz, Ms, O, Ao, co, hlz, by omega, hP, hdn, ?_, S.sub (((List.Sublist.refl _).cons M2).cons_cons O)⟩, by omega⟩
      rw [List.range_succ, List.map_append, List.map_append]
      exact hO
  · have e1 : t = n := by omega
    subst e1
    refine xr hT S hl true [.b false] 200 rfl (by (repeat' apply And.intro); all_goals first | exact True.intro | with_reducible assumption | decide +kernel | with_reducible exact Option.isSome_some | omega | with_reducible exact decide_eq_true (by omega) | with_reducible exact decide_eq_false (by omega) | with_reducible exact beq_iff_eq.2 (by omega) | with_reducible exact beq_eq_false_iff_ne.2 (by omega) | with_reducible exact bne_iff_ne.2 (by omega) | with_reducible exact bne_eq_false_iff_eq.2 (by omega) | skip) fun β4 a w hβ4 hl S => ?_
    refine xret hT S rfl ⟨_, rfl, cur, _, O, Ao, co, hcur, rfl, hO, ?_⟩
    refine S.tl'.sub ?_
    exact ((List.sublist_append_right [M] L).trans (List.sublist_append_right Ms _)).cons_cons O
end Go.SX
