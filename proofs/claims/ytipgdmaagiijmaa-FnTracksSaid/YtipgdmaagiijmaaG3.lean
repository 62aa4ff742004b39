import Derived.Test.YtipgdmaagiijmaaG2
set_option maxRecDepth 100000
set_option linter.unusedVariables false
set_option linter.unusedSectionVars false
namespace Go.SX
open Go.Proofs
variable {u w : World} {L B : List Hp} {b : Nat} {M : Hp}
theorem flatMap_sub {α β : Type} (f : α → List β) : ∀ {l l' : List α}, l.Sublist l' → (l.flatMap f).Sublist (l'.flatMap f)
  | _, _, .slnil => List.Sublist.refl _
  | _, _, .cons a h => by
    rw [List.flatMap_cons]
    exact (flatMap_sub f h).trans (List.sublist_append_right _ _)
  | _, _, .cons_cons a h => by
    rw [List.flatMap_cons, List.flatMap_cons]
    exact (List.Sublist.refl _).append (flatMap_sub f h)
section
variable {s : Sc} {A : Option Addr} {cb : Nat} {E : Option Addr} {ce : Nat} {X : Value} {p : Pz} {Ms : List Hp} {vs : List Value} {e : Ev} {len : Int}
theorem c49r (H : SH u w (Ms ++ L)) (hP : PlM b s A cb E ce X p Ms) (hp : Pok s p) (hk : e.kind = 3) :
    Ret Try.prog 49 [.pointer (some ⟨b, 0, none⟩), .agg e.cells.toArray] w fun v w' => ∃ Ms', PlM b s A cb E ce X (happen s e p) Ms' ∧ SH u w' (Ms' ++ L) := by
  obtain ⟨Mv, Mt, Av, cv, At, ct, vr, rfl, hvr, hok, hO1, hO2⟩ := hP
  have hlv : vr.length = p.voices.length := by rw [← hvr, List.length_map]
  have hmost := hp.most
  refine entB Try.func49 rfl [b] [(0, 59, PB s A cb E ce X p.done p.now (.slice Av vr.length cv) (.slice At vr.length ct) p.begun)] (xs := [.p 0 0, .v (.agg e.cells.toArray)]) (tl := Mv :: Mt :: (vr.flatMap VR.hps ++ L)) H 129 rfl [(0, .p 0 0), (1, .v (.agg e.cells.toArray))] rfl rfl (by simp [SV.wfs, SV.wf]) (by simp [SV.wfs, SV.wf]) fun a S => ?_
  refine xr hT S rfl true [.b false, .b false, .b true] 200 rfl (by (repeat' apply And.intro); all_goals first | exact True.intro | with_reducible assumption | decide +kernel | with_reducible exact Option.isSome_some | omega | with_reducible exact decide_eq_true (by omega) | with_reducible exact decide_eq_false (by omega) | with_reducible exact beq_iff_eq.2 (by omega) | with_reducible exact beq_eq_false_iff_ne.2 (by omega) | with_reducible exact bne_iff_ne.2 (by omega) | with_reducible exact bne_eq_false_iff_eq.2 (by omega) | skip) fun β2 a w hβ2 hl S => ?_
  have S := S.upb 2 rfl rfl
  have H := S.sh
  have H : SH u w (PH (β2.getD 0 0) s A cb E ce X p.done p.now (.slice Av vr.length cv) (.slice At vr.length ct) p.begun :: (bhs β2 [B2 e, B1] ++ (Mv :: Mt :: (vr.flatMap VR.hps ++ L)))) := H
  have hcall := c71 (cap := [.pointer (some ⟨β2.getD 1 0, 0, none⟩), .pointer (some ⟨β2.getD 2 0, 0, none⟩)]) (f := 76) (p := fun i => if h : i < vr.length then vr[i].v.body == e.body else false) (H.perm (perm_out _ _ _ _ _)) rfl (by omega) (hO1.rows List.mem_cons_self) (hO2.rows List.mem_cons_self) en76 (fun i hi H hs => by
    have := c76 (e := e) (i := i) H (hs (List.mem_cons_of_mem _ (List.mem_cons_of_mem _ (List.mem_cons_of_mem _ (List.mem_append_left _ (List.mem_cons_of_mem _ List.mem_cons_self)))))) (hs List.mem_cons_self)
      (hO1.rows (hs (List.mem_cons_of_mem _ List.mem_cons_self))) (hs (List.mem_cons_of_mem _ (List.mem_cons_of_mem _ (List.mem_cons_of_mem _ (List.mem_append_left _ List.mem_cons_self))))) rfl hi
    rw [dif_pos hi]
    exact this)
  refine xc S rfl rfl rfl rfl rfl en71 hcall fun v w ⟨Mv, Mt, A1, c1, A2, c2, hO1, hO2, H⟩ => ?_
  have hkf : keepI (fun i => if h : i < vr.length then vr[i].v.body == e.body else false) 0 vr = vr.filter (fun r => !(r.v.body == e.body)) := by
    refine keepI_filter (fun r : VR => r.v.body == e.body) 0 vr _ (fun i hi => ?_)
    simp only [Nat.zero_add]
    rw [dif_pos hi]
  rw [hkf] at hO1 hO2 H
  have hsb : (vr.filter (fun r => !(r.v.body == e.body))).Sublist vr := List.filter_sublist
  have hpe : happen s e p = { p with voices := (vr.filter (fun r => !(r.v.body == e.body))).map VR.v } := by
    unfold happen
    rw [if_neg (by omega), if_neg (by omega), ← hvr, List.filter_map]
    rfl
  generalize vr.filter (fun r => !(r.v.body == e.body)) = vq at hO1 hO2 H hsb hpe
  rw [hpe]
  have S := S.rebox2 (d := some 128) (v := v) (cs' := PB s A cb E ce X p.done p.now (.slice A1 vq.length c1) (.slice A2 vq.length c2) p.begun) (tl' := Mv :: Mt :: (vr.flatMap VR.hps ++ L)) (H.perm (perm_out _ _ _ _ _).symm) rfl (by simp [SV.wfs, SV.wf])
  refine xr hT S hl true [] 200 rfl (by (repeat' apply And.intro); all_goals first | exact True.intro | with_reducible assumption | decide +kernel | with_reducible exact Option.isSome_some | omega | with_reducible exact decide_eq_true (by omega) | with_reducible exact decide_eq_false (by omega) | with_reducible exact beq_iff_eq.2 (by omega) | with_reducible exact beq_eq_false_iff_ne.2 (by omega) | with_reducible exact bne_iff_ne.2 (by omega) | with_reducible exact bne_eq_false_iff_eq.2 (by omega) | skip) fun β3 a w hβ3 hl S => ?_
  have eb : β3.getD 0 0 = b := pre_getD (hβ2.trans hβ3) (by simp)
  have H := S.sh
  refine xend hT S rfl ⟨_, rfl, _, ⟨Mv, Mt, A1, c1, A2, c2, vq, rfl, rfl, fun r hr => hok r (hsb.subset hr), hO1, hO2⟩, ?_⟩
  have H2 := H.sub (L' := PH (β3.getD 0 0) s A cb E ce X p.done p.now (.slice A1 vq.length c1) (.slice A2 vq.length c2) p.begun :: Mv :: Mt :: (vq.flatMap VR.hps ++ L)) (((((((flatMap_sub VR.hps hsb).append (List.Sublist.refl L)).cons_cons Mt).cons_cons Mv).cons _).cons _).cons_cons _)
  rw [eb] at H2
  exact H2
def dmpV (e : Ev) (v : Vc) : Vc := if v.body = e.body then { v with modes := v.modes.map (dmpM e.force) } else v
def dI (e : Ev) (v : Vc) (k : Nat) : List Md := if v.body = e.body then (v.modes.take k).map (dmpM e.force) ++ v.modes.drop k else v.modes
theorem dI_zero (e : Ev) (v : Vc) : dI e v 0 = v.modes := by unfold dI; split <;> simp
theorem dI_all (e : Ev) (v : Vc) : dI e v v.modes.length = (dmpV e v).modes := by
  unfold dI dmpV
  split
  · simp
  · rfl
theorem dI_len {e : Ev} {v : Vc} {k : Nat} (hk : k ≤ v.modes.length) : (dI e v k).length = v.modes.length := by
  unfold dI
  split
  · simp; omega
  · rfl
theorem dI_at {e : Ev} {v : Vc} {k : Nat} (hk : k < v.modes.length) : (dI e v k)[k]? = some v.modes[k] := by
  unfold dI
  split
  · have e1 : ((v.modes.take k).map (dmpM e.force)).length = k := by simp; omega
    rw [List.getElem?_append_right (by omega), e1, Nat.sub_self, List.getElem?_drop, Nat.add_zero, List.getElem?_eq_getElem hk]
  · exact List.getElem?_eq_getElem hk
theorem dI_set {e : Ev} {v : Vc} {k : Nat} (hk : k < v.modes.length) (hb : v.body = e.body) : (dI e v k).set k (dmpM e.force v.modes[k]) = dI e v (k + 1) := by
  unfold dI
  rw [if_pos hb, if_pos hb]
  have e1 : ((v.modes.take k).map (dmpM e.force)).length = k := by simp; omega
  rw [List.set_append_right _ _ (by omega), e1, Nat.sub_self, List.drop_eq_getElem_cons hk, List.set_cons_zero, List.take_add_one, List.getElem?_eq_getElem hk, List.map_append, List.append_assoc]
  rfl
theorem dI_skip {e : Ev} {v : Vc} (k : Nat) (hb : ¬ v.body = e.body) : dI e v k = v.modes := by
  unfold dI
  rw [if_neg hb]
/-- the pole of one mode is written -/
theorem pole_set {ms : List Md} {k : Nat} (hk : k < ms.length) (z : Cx) : (ms.flatMap Md.cells).take (k * 2 + 0) ++ [cV z] ++ (ms.flatMap Md.cells).drop (k * 2 + 0 + 1) = (ms.set k { ms[k] with pr := z.1, pi := z.2 }).flatMap Md.cells := by
  rw [← flat_set md_len hk]
  simp only [Nat.add_zero, List.append_assoc]
  congr 1
  have h1 := flat_at md_len hk
  have h2 : (ms.flatMap Md.cells).drop (k * 2 + 1) = [.complex .f32 ms[k].gr ms[k].gi] ++ (ms.flatMap Md.cells).drop (k * 2 + 2) := by
    have h3 : ((ms.flatMap Md.cells).drop (k * 2 + 1)).take 1 = [.complex .f32 ms[k].gr ms[k].gi] := by
      have := congrArg (List.drop 1) h1
      rw [List.drop_take, List.drop_drop] at this
      simpa [Md.cells] using this
    have h4 := List.take_append_drop 1 ((ms.flatMap Md.cells).drop (k * 2 + 1))
    rw [h3, List.drop_drop] at h4
    exact h4.symm
  rw [h2]
  rfl
theorem dmp_mf {f : Nat} (h : Dmp f) : Mf .f32 0 f := by
  rcases h with rfl | rfl | rfl | rfl <;> exact small_mf (by decide)
end
end Go.SX
set_option maxRecDepth 100000
set_option linter.unusedVariables false
set_option linter.unusedSectionVars false
namespace Go.SX
open Go.Proofs
variable {u w : World} {L B : List Hp} {b : Nat} {M : Hp}
section
variable {s : Sc} {A : Option Addr} {cb : Nat} {E : Option Addr} {ce : Nat} {X : Value} {p : Pz} {Ms : List Hp} {vs : List Value} {e : Ev} {len : Int}
abbrev BX49 (s : Sc) (A : Option Addr) (cb : Nat) (E : Option Addr) (ce : Nat) (X : Value) (p : Pz) (vo tr : Value) (e : Ev) : BL := [B2 e, B1, (0, 59, PB s A cb E ce X p.done p.now vo tr p.begun)]
def I49d (u : World) (L : List Hp) (b : Nat) (bx : BL) (Mv Mt : Hp) (Av : Option Addr) (cv : Nat) (e : Ev) (vr : List VR) (n : Nat) (i : Nat) (a : Act) (w : World) : Prop :=
  ∃ β D, [b] <+: β ∧ β.length = 3 ∧ i ≤ n ∧ List.map VR.v D = List.map (fun r => dmpV e (VR.v r)) (List.take i vr) ∧ List.map VR.cells D = List.map VR.cells (List.take i vr) ∧ (∀ r ∈ D, VR.ok r) ∧
    St β u w a 129 [(2, .p 1 0), (3, .p 2 0), (91, .v (.slice Av n cv)), (92, .v (.int .i64 n)), (93, .v (.int .i64 (i : Int)))] bx (Mv :: Mt :: (List.flatMap VR.hps D ++ (List.flatMap VR.hps (List.drop i vr) ++ L)))
def J49d (u : World) (L1 : List Hp) (b : Nat) (bx : BL) (Av : Option Addr) (cv : Nat) (e : Ev) (r : VR) (n i : Nat) (k : Nat) (a : Act) (w : World) : Prop :=
  ∃ β hm, [b] <+: β ∧ β.length = 4 ∧ k ≤ r.v.modes.length ∧ Own hm 98 2 (.slice r.ma r.v.modes.length r.mc) r.v.modes.length (List.flatMap Md.cells (dI e r.v k)) ∧
    St β u w a 129 [(2, .p 1 0), (3, .p 2 0), (91, .v (.slice Av n cv)), (92, .v (.int .i64 n)), (93, .v (.int .i64 (i : Int))), (8, .p 3 0), (99, .v (.int .i64 r.v.modes.length)), (100, .v (.int .i64 (k : Int)))] ((3, 63, [.v (.int .i64 r.v.body), .v (.slice r.ma r.v.modes.length r.mc), .v (.slice r.sa r.v.states.length r.sc), .v (.slice r.ia r.v.input.length r.ic)]) :: bx) (hm :: L1)
theorem c49d (H : SH u w (Ms ++ L)) (hP : PlM b s A cb E ce X p Ms) (hp : Pok s p) (hk : e.kind = 2) (hf : Dmp e.force) :
    Ret Try.prog 49 [.pointer (some ⟨b, 0, none⟩), .agg e.cells.toArray] w fun v w' => ∃ Ms', PlM b s A cb E ce X (happen s e p) Ms' ∧ SH u w' (Ms' ++ L) := by
  obtain ⟨Mv, Mt, Av, cv, At, ct, vr, rfl, hvr, hok, hO1, hO2⟩ := hP
  have hlv : vr.length = p.voices.length := by rw [← hvr, List.length_map]
  have hmost := hp.most
  refine entB Try.func49 rfl [b] [(0, 59, PB s A cb E ce X p.done p.now (.slice Av vr.length cv) (.slice At vr.length ct) p.begun)] (xs := [.p 0 0, .v (.agg e.cells.toArray)]) (tl := Mv :: Mt :: (vr.flatMap VR.hps ++ L)) H 129 rfl [(0, .p 0 0), (1, .v (.agg e.cells.toArray))] rfl rfl (by simp [SV.wfs, SV.wf]) (by simp [SV.wfs, SV.wf]) fun a S => ?_
  refine xr hT S rfl true [.b false, .b true] 200 rfl (by (repeat' apply And.intro); all_goals first | exact True.intro | with_reducible assumption | decide +kernel | with_reducible exact Option.isSome_some | omega | with_reducible exact decide_eq_true (by omega) | with_reducible exact decide_eq_false (by omega) | with_reducible exact beq_iff_eq.2 (by omega) | with_reducible exact beq_eq_false_iff_ne.2 (by omega) | with_reducible exact bne_iff_ne.2 (by omega) | with_reducible exact bne_eq_false_iff_eq.2 (by omega) | skip) fun β2 a w hβ2 hl S => ?_
  refine xloop (I49d u L b (BX49 s A cb E ce X p (.slice Av vr.length cv) (.slice At vr.length ct) e) Mv Mt Av cv e vr vr.length) (fun i => vr.length - i) 0
    ⟨β2, [], hβ2, hl, Nat.zero_le _, rfl, rfl, by simp, S.keep [2, 3, 91, 92, 93] rfl⟩ fun i a w ⟨β, D, hβ, hl, hi, hD1, hD2, hDo, S⟩ => ?_
  by_cases hin : i < vr.length
  · have hO1r : Rows (Mv :: Mt :: (D.flatMap VR.hps ++ ((vr.drop i).flatMap VR.hps ++ L))) Av vr.length 4 (vr.flatMap VR.cells) := hO1.rows List.mem_cons_self
    obtain ⟨ad, rfl⟩ := hO1r.2.1 (by omega)
    have hc := (hO1r.2.2 ad rfl).elem vr_len hin
    obtain ⟨r, hr⟩ : ∃ r, r = vr[i] := ⟨_, rfl⟩
    rw [← hr] at hc
    have hmem : r ∈ vr := by rw [hr]; exact List.getElem_mem hin
    have hrok := hok r hmem
    have hrp : r.v ∈ p.voices := by rw [← hvr]; exact List.mem_map_of_mem hmem
    obtain ⟨hml, hgm⟩ := hp.modes _ hrp
    have hdr : vr.drop i = r :: vr.drop (i + 1) := by rw [List.drop_eq_getElem_cons hin, hr]
    have htk : vr.take (i + 1) = vr.take i ++ [r] := by rw [List.take_add_one, List.getElem?_eq_getElem hin, hr]; rfl
    rw [hdr] at S
    refine xr hT S hl true [.b true, .v r.cells] 200 rfl ?_ fun β3 a w hβ3 hl S => ?_
    · (repeat' apply And.intro); all_goals first | exact True.intro | with_reducible assumption | decide +kernel | with_reducible exact Option.isSome_some | omega | with_reducible exact decide_eq_true (by omega) | with_reducible exact decide_eq_false (by omega) | with_reducible exact beq_iff_eq.2 (by omega) | with_reducible exact beq_eq_false_iff_ne.2 (by omega) | with_reducible exact bne_iff_ne.2 (by omega) | with_reducible exact bne_eq_false_iff_eq.2 (by omega) | skip
      all_goals (rw [hdr] at hc; show RdV _ (ad.add (Int.toNat (i : Int) * 4)) _; rw [Int.toNat_natCast]; exact hc)
    have S := S.perm (tl' := r.hm :: (Mv :: Mt :: (D.flatMap VR.hps ++ (r.hs :: r.hi :: ((vr.drop (i + 1)).flatMap VR.hps ++ L))))) (by
      rw [List.flatMap_cons]
      show (Mv :: Mt :: (D.flatMap VR.hps ++ (r.hm :: (r.hs :: r.hi :: ((vr.drop (i + 1)).flatMap VR.hps ++ L))))).Perm _
      exact (((List.perm_middle).cons Mt).cons Mv).trans ((((List.Perm.swap _ _ _).cons Mv)).trans (List.Perm.swap _ _ _)))
    refine xloop (J49d u (Mv :: Mt :: (D.flatMap VR.hps ++ (r.hs :: r.hi :: ((vr.drop (i + 1)).flatMap VR.hps ++ L)))) b (BX49 s A cb E ce X p (.slice (some ad) vr.length cv) (.slice At vr.length ct) e) (some ad) cv e r vr.length i) (fun k => r.v.modes.length - k) 0
      ⟨β3, r.hm, hβ.trans hβ3, hl, Nat.zero_le _, by rw [dI_zero]; exact hrok.modes, S.keep [2, 3, 91, 92, 93, 8, 99, 100] rfl⟩ fun k a w ⟨β, hm, hβ, hl, hkl, hOm, S⟩ => ?_
    by_cases hkn : k < r.v.modes.length
    · have ek : (k : Int) + 1 = ((k + 1 : Nat) : Int) := by omega
      obtain ⟨g, c', hv⟩ := hOm.pos (by omega)
      have hma : r.ma = some ⟨g, 0, none⟩ := by
        simp only [Value.slice.injEq] at hv
        exact hv.1
      by_cases hbd : r.v.body = e.body
      · rw [hma] at hOm S
        refine xr hT S hl true [.b true, .b true] 200 rfl (by (repeat' apply And.intro); all_goals first | exact True.intro | with_reducible assumption | decide +kernel | with_reducible exact Option.isSome_some | omega | with_reducible exact decide_eq_true (by omega) | with_reducible exact decide_eq_false (by omega) | with_reducible exact beq_iff_eq.2 (by omega) | with_reducible exact beq_eq_false_iff_ne.2 (by omega) | with_reducible exact bne_iff_ne.2 (by omega) | with_reducible exact bne_eq_false_iff_eq.2 (by omega) | skip; all_goals exact beq_iff_eq.2 hbd) fun β4 a w hβ4 hl S => ?_
        have hlk : k < (dI e r.v k).length := by rw [dI_len hkl]; exact hkn
        have hgk : (dI e r.v k)[k] = r.v.modes[k] := by
          have := dI_at (e := e) hkn
          rw [List.getElem?_eq_getElem hlk] at this
          exact Option.some.inj this
        have hcm : RdV (hm :: (Mv :: Mt :: (D.flatMap VR.hps ++ (r.hs :: r.hi :: ((vr.drop (i + 1)).flatMap VR.hps ++ L))))) ((Addr.add ⟨g, 0, none⟩ (Int.toNat (k : Int) * 2)).add 0) [.complex .f32 r.v.modes[k].pr r.v.modes[k].pi] := by
          rw [Int.toNat_natCast]
          have := ((hOm.cells (L := hm :: (Mv :: Mt :: (D.flatMap VR.hps ++ (r.hs :: r.hi :: ((vr.drop (i + 1)).flatMap VR.hps ++ L))))) rfl List.mem_cons_self).elem md_len hlk).at_ 0 1
          rw [hgk] at this
          exact this
        refine xdr hT S (n0 := 12) (by decide +kernel) fun E0 => ?_
        refine xqr hT S true [.v [.complex .f32 r.v.modes[k].pr r.v.modes[k].pi]] E0 rfl ?_ fun a E0 => ?_
        · (repeat' apply And.intro); all_goals first | exact True.intro | with_reducible assumption | decide +kernel | with_reducible exact Option.isSome_some | omega | with_reducible exact decide_eq_true (by omega) | with_reducible exact decide_eq_false (by omega) | with_reducible exact beq_iff_eq.2 (by omega) | with_reducible exact beq_eq_false_iff_ne.2 (by omega) | with_reducible exact bne_iff_ne.2 (by omega) | with_reducible exact bne_eq_false_iff_eq.2 (by omega) | skip
          all_goals exact hcm
        have hsc := (hgm _ (List.getElem_mem hkn)).pole.scale (dmp_mf hf) (by decide)
        obtain ⟨z, hz⟩ : ∃ z, z = scS (r.v.modes[k].pr, r.v.modes[k].pi) e.force := ⟨_, rfl⟩
        have k75 : ∀ {w L}, SH u w L → Ret Try.prog 75 [.complex .f32 r.v.modes[k].pr r.v.modes[k].pi, .float .f32 e.force] w (Pl u L fun v => v = .complex .f32 z.1 z.2) := fun H => by rw [hz]; exact c75 H hsc
        refine xqc E0 rfl rfl rfl rfl rfl en75 (fun w H => k75 H) fun a E0 => ?_
        refine wpQuiet_nil fun w H => ?_
        have S : St _ _ _ _ _ _ _ _ := ⟨E0, H, S.wb⟩
        refine xr hT S hl true [] 2 rfl (by (repeat' apply And.intro); all_goals first | exact True.intro | with_reducible assumption | decide +kernel | with_reducible exact Option.isSome_some | omega | with_reducible exact decide_eq_true (by omega) | with_reducible exact decide_eq_false (by omega) | with_reducible exact beq_iff_eq.2 (by omega) | with_reducible exact beq_eq_false_iff_ne.2 (by omega) | with_reducible exact bne_iff_ne.2 (by omega) | with_reducible exact bne_eq_false_iff_eq.2 (by omega) | skip) fun β5 a w hβ5 hl S => ?_
        have hfl : ((dI e r.v k).flatMap Md.cells).length = r.v.modes.length * 2 := hOm.1
        refine xset hT S (off := k * 2 + 0) rfl rfl rfl rfl rfl (by show Addr.add (Addr.add ⟨g, 0, none⟩ (Int.toNat (k : Int) * 2)) 0 = ⟨g, k * 2 + 0, none⟩; rw [Int.toNat_natCast, add_none, add_none, Nat.zero_add]) hOm rfl rfl rfl (by rw [hfl]; show k * 2 + 0 + 1 ≤ _; omega) fun hm a w hOm S => ?_
        have hOm : Own hm 98 2 (.slice (some ⟨g, 0, none⟩) r.v.modes.length r.mc) r.v.modes.length ((dI e r.v (k + 1)).flatMap Md.cells) := by
          rw [← dI_set hkn hbd]
          have hd : dmpM e.force r.v.modes[k] = { (dI e r.v k)[k] with pr := z.1, pi := z.2 } := by rw [hgk, hz]; rfl
          rw [hd, ← pole_set hlk z]
          exact hOm
        refine xr hT S hl true [] 200 rfl (by (repeat' apply And.intro); all_goals first | exact True.intro | with_reducible assumption | decide +kernel | with_reducible exact Option.isSome_some | omega | with_reducible exact decide_eq_true (by omega) | with_reducible exact decide_eq_false (by omega) | with_reducible exact beq_iff_eq.2 (by omega) | with_reducible exact beq_eq_false_iff_ne.2 (by omega) | with_reducible exact bne_iff_ne.2 (by omega) | with_reducible exact bne_eq_false_iff_eq.2 (by omega) | skip) fun β6 a w hβ6 hl S => ?_
        rw [ek] at S
        have S := S.keep [2, 3, 91, 92, 93, 8, 99, 100] rfl
        rw [← hma] at hOm S
        exact xj ⟨k + 1, ⟨β6, hm, ((hβ.trans hβ4).trans hβ5).trans hβ6, hl, by omega, hOm, S⟩, by omega⟩
      · refine xr hT S hl true [.b true, .b false] 200 rfl (by (repeat' apply And.intro); all_goals first | exact True.intro | with_reducible assumption | decide +kernel | with_reducible exact Option.isSome_some | omega | with_reducible exact decide_eq_true (by omega) | with_reducible exact decide_eq_false (by omega) | with_reducible exact beq_iff_eq.2 (by omega) | with_reducible exact beq_eq_false_iff_ne.2 (by omega) | with_reducible exact bne_iff_ne.2 (by omega) | with_reducible exact bne_eq_false_iff_eq.2 (by omega) | skip; all_goals exact beq_eq_false_iff_ne.2 hbd) fun β4 a w hβ4 hl S => ?_
        rw [ek] at S
        exact xj ⟨k + 1, ⟨β4, hm, hβ.trans hβ4, hl, by omega, by rw [dI_skip _ hbd] at hOm ⊢; exact hOm, S.keep [2, 3, 91, 92, 93, 8, 99, 100] rfl⟩, by omega⟩
    · have e1 : k = r.v.modes.length := by omega
      subst e1
      refine xr hT S hl true [.b false] 200 rfl (by (repeat' apply And.intro); all_goals first | exact True.intro | with_reducible assumption | decide +kernel | with_reducible exact Option.isSome_some | omega | with_reducible exact decide_eq_true (by omega) | with_reducible exact decide_eq_false (by omega) | with_reducible exact beq_iff_eq.2 (by omega) | with_reducible exact beq_eq_false_iff_ne.2 (by omega) | with_reducible exact bne_iff_ne.2 (by omega) | with_reducible exact bne_eq_false_iff_eq.2 (by omega) | skip) fun β4 a w hβ4 hl S => ?_
      rw [dI_all] at hOm
      have hdl : (dmpV e r.v).modes.length = r.v.modes.length := by unfold dmpV; split <;> simp
      have ei : (i : Int) + 1 = ((i + 1 : Nat) : Int) := by omega
      rw [ei] at S
      obtain ⟨d1, d2, d3, d4⟩ : (dmpV e r.v).states = r.v.states ∧ (dmpV e r.v).input = r.v.input ∧ (dmpV e r.v).body = r.v.body ∧ (dmpV e r.v).track = r.v.track := by unfold dmpV; split <;> exact ⟨rfl, rfl, rfl, rfl⟩
      obtain ⟨r', hr'⟩ : ∃ r' : VR, r' = { r with hm := hm, v := dmpV e r.v } := ⟨_, rfl⟩
      have S := ((S.keep [2, 3, 91, 92, 93] rfl).dropb).cutT (β4.take 3) (List.take_prefix _ _) (by rw [List.length_take, hl]; simp [SV.wfs, SV.wf]) (by rw [List.length_take, hl]; simp [SV.wfs, SV.wf])
      refine xj ⟨i + 1, ⟨β4.take 3, D ++ [r'], List.prefix_of_prefix_length_le (hβ.trans hβ4) (List.take_prefix _ _) (by rw [List.length_take, hl]; simp), by rw [List.length_take, hl]; rfl, by omega, ?_, ?_, ?_, ?_⟩, by omega⟩
      · rw [htk, List.map_append, List.map_append, hD1, hr']
        rfl
      · rw [htk, List.map_append, List.map_append, hD2, hr']
        simp [VR.cells, hdl, d1, d2, d3]
      · intro q hq
        rcases List.mem_append.1 hq with hq | hq
        · exact hDo q hq
        · rw [List.mem_singleton.1 hq, hr']
          refine ⟨?_, ?_, ?_, ?_, ?_⟩
          · simp only [hdl]
            exact hOm
          · simp only [d1]
            exact hrok.states
          · simp only [d2]
            exact hrok.input
          · simp only [d1, hdl]
            exact hrok.same
          · simp only [d2]
            exact hrok.cap
      · refine S.perm ?_
        rw [List.flatMap_append, List.append_assoc]
        have e2 : [r'].flatMap VR.hps = [hm, r.hs, r.hi] := by rw [hr']; rfl
        rw [e2]
        show (hm :: (Mv :: Mt :: (D.flatMap VR.hps ++ (r.hs :: r.hi :: ((vr.drop (i + 1)).flatMap VR.hps ++ L))))).Perm (Mv :: Mt :: (D.flatMap VR.hps ++ (hm :: (r.hs :: r.hi :: ((vr.drop (i + 1)).flatMap VR.hps ++ L)))))
        exact ((((List.perm_middle).cons Mt).cons Mv).trans ((((List.Perm.swap _ _ _).cons Mv)).trans (List.Perm.swap _ _ _))).symm
  · have e1 : i = vr.length := by omega
    subst e1
    rw [List.take_of_length_le (Nat.le_refl _)] at hD1 hD2
    rw [List.drop_of_length_le (Nat.le_refl _)] at S
    refine xr hT S hl true [.b false] 200 rfl (by (repeat' apply And.intro); all_goals first | exact True.intro | with_reducible assumption | decide +kernel | with_reducible exact Option.isSome_some | omega | with_reducible exact decide_eq_true (by omega) | with_reducible exact decide_eq_false (by omega) | with_reducible exact beq_iff_eq.2 (by omega) | with_reducible exact beq_eq_false_iff_ne.2 (by omega) | with_reducible exact bne_iff_ne.2 (by omega) | with_reducible exact bne_eq_false_iff_eq.2 (by omega) | skip) fun β4 a w hβ4 hl S => ?_
    have eb : β4.getD 0 0 = b := pre_getD (hβ.trans hβ4) (by simp)
    have hdl : D.length = vr.length := by have := congrArg List.length hD1; simpa using this
    have hpe : happen s e p = { p with voices := D.map VR.v } := by
      unfold happen
      rw [if_neg (by omega), if_pos hk, ← hvr, List.map_map, hD1]
      rfl
    have hcl : D.flatMap VR.cells = vr.flatMap VR.cells := by rw [List.flatMap_def, List.flatMap_def, hD2]
    have htr : D.flatMap VR.trk = vr.flatMap VR.trk := by
      have t1 : ∀ l : List VR, l.flatMap VR.trk = (l.map VR.v).map (fun v => Value.int .i64 v.track) := by
        intro l
        induction l with
        | nil => rfl
        | cons x r ih => rw [List.flatMap_cons, ih]; rfl
      rw [t1, t1, hD1, List.map_map, List.map_map]
      refine List.map_congr_left fun r _ => ?_
      show Value.int .i64 ((dmpV e r.v).track : Int) = _
      unfold dmpV
      split <;> rfl
    rw [hpe]
    have H := S.sh
    refine xend hT S rfl ⟨_, rfl, _, ⟨Mv, Mt, Av, cv, At, ct, D, rfl, rfl, hDo, by rw [hdl, hcl]; exact hO1, by rw [hdl, htr]; exact hO2⟩, ?_⟩
    have H2 := H.sub (L' := PH (β4.getD 0 0) s A cb E ce X p.done p.now (.slice Av vr.length cv) (.slice At vr.length ct) p.begun :: Mv :: Mt :: (D.flatMap VR.hps ++ L)) ((((List.Sublist.refl _).cons_cons _).cons _).cons _)
    rw [eb] at H2
    rw [hdl]
    exact H2
end
end Go.SX
set_option maxRecDepth 100000
set_option linter.unusedVariables false
set_option linter.unusedSectionVars false
namespace Go.SX
open Go.Proofs
variable {u w : World} {L B : List Hp} {b : Nat} {M : Hp}
/-- a voice whose numbers are small -/
structure Vok (K : Nat) (v : Vc) : Prop where
  few : v.modes.length ≤ 4
  same : v.states.length = v.modes.length
  modes : ∀ m ∈ v.modes, Gm m
  states : ∀ z ∈ v.states, MC K z
  input : ∀ x ∈ v.input, Mf .f32 20 x
  short : v.input.length ≤ 9
structure Gok (s : Sc) (K : Nat) (p : Pz) : Prop where
  most : (p.voices.length : Int) ≤ s.voices
  begun : p.begun ≤ p.done
  done : p.done ≤ 100
  now : p.now ≤ 3000
  voices : ∀ v ∈ p.voices, Vok K v
/-- what a score must be -/
structure SOk (s : Sc) : Prop where
  voices : 1 ≤ s.voices ∧ s.voices ≤ 4
  few : s.bodies.length ≤ 8
  bodies : ∀ b ∈ s.bodies, b.length ≤ 4 ∧ ∀ m ∈ b, Md.ok m
structure SD (L : List Hp) (s : Sc) (A : Option Addr) (vs : List Value) : Prop where
  all : All2 (RBod L) vs s.bodies
  rows : Rows L A s.bodies.length 1 vs
theorem SD.mono {L L' : List Hp} {s : Sc} {A : Option Addr} {vs : List Value} (h : SD L s A vs) (hs : L ⊆ L') : SD L' s A vs := ⟨h.all.mono fun _ _ h => h.mono hs, h.rows.mono hs⟩
section
variable {s : Sc} {K : Nat} {p : Pz} {e : Ev} {len : Int}
theorem Gok.pok (h : Gok s K p) (hs : SOk s) : Pok s p := by
  refine ⟨?_, ?_, ?_, h.now, fun v hv => ⟨?_, (h.voices v hv).modes⟩⟩
  · have := h.most; have := hs.voices.2; omega
  · have := h.begun; have := h.done; omega
  · have := h.done; omega
  · have := (h.voices v hv).few; omega
theorem shapeL_mf {e : Ev} (h1 : e.count ≤ 9) (h2 : Mf .f32 20 e.force) : ∀ x ∈ shapeL e, Mf .f32 20 x := by
  intro x hx
  obtain ⟨j, hj, rfl⟩ := List.mem_map.1 hx
  obtain ⟨r, h3, h4⟩ := (shape_mf (kind := e.shape) (n := e.count.toNat) (i := j) (by omega) (by simpa using hj)).mul h2 (by decide)
  rw [fop_of h3]
  simpa using h4
theorem dmpM_gm {f : Nat} (hf : Mf .f32 0 f) {m : Md} (h : Gm m) : Gm (dmpM f m) := ⟨(h.pole.scale hf (by decide)).out, h.gain⟩
theorem Gok.happen (h : Gok s K p) (hs : SOk s) (he : EvOk len s.bodies.length e) (hd : p.done < 100) (h31 : 31 ≤ K) : Gok s K { happen s e p with done := p.done + 1 } := by
  obtain ⟨_, ⟨b0, b1⟩, hk⟩ := he
  have hv := hs.voices
  have hm := h.most
  have hbg := h.begun
  rcases hk with ⟨k1, ⟨s0, s1⟩, ⟨t0, t1⟩, hf⟩ | ⟨k1, s0, t0, hf⟩ | ⟨k1, s0, t0, hf⟩
  · unfold Go.SX.happen
    rw [if_pos k1]
    refine ⟨?_, by simp only; omega, by simp only; omega, h.now, fun v hv => ?_⟩
    · simp only [List.length_append, List.length_singleton]
      split
      · rw [List.length_drop]; omega
      · omega
    · simp only at hv
      rcases List.mem_append.1 hv with hv | hv
      · refine h.voices v ?_
        split at hv
        · exact List.mem_of_mem_drop hv
        · exact hv
      · rw [List.mem_singleton.1 hv]
        have hj : e.body.toNat < s.bodies.length := by omega
        have hg : s.bodies.getD e.body.toNat [] = s.bodies[e.body.toNat] := by rw [List.getD_eq_getElem?_getD, List.getElem?_eq_getElem hj]; rfl
        obtain ⟨h1, h2⟩ := hs.bodies _ (List.getElem_mem hj)
        unfold newVc
        rw [hg]
        refine ⟨h1, by simp, fun m hm => (h2 m hm).gm, fun z hz => ?_, shapeL_mf t1 hf, by simp [shapeL]; omega⟩
        rw [(List.mem_replicate.1 hz).2]
        exact ⟨mf_zero K, mf_zero K⟩
  · unfold Go.SX.happen
    rw [if_neg (by omega), if_pos k1]
    refine ⟨by simpa using hm, by simp only; omega, by simp only; omega, h.now, fun v hv => ?_⟩
    obtain ⟨v0, hv0, rfl⟩ := List.mem_map.1 hv
    have hv1 := h.voices v0 hv0
    split
    · refine ⟨by simpa using hv1.few, by simpa using hv1.same, fun m hm => ?_, hv1.states, hv1.input, hv1.short⟩
      obtain ⟨m0, hm0, rfl⟩ := List.mem_map.1 hm
      exact dmpM_gm (dmp_mf hf) (hv1.modes m0 hm0)
    · exact hv1
  · unfold Go.SX.happen
    rw [if_neg (by omega), if_neg (by omega)]
    refine ⟨?_, by simp only; omega, by simp only; omega, h.now, fun v hv => h.voices v (List.mem_filter.1 hv).1⟩
    have := List.length_filter_le (fun v : Vc => !(v.body == e.body)) p.voices
    simp only
    omega
theorem happen_done : (Go.SX.happen s e p).done = p.done := by
  unfold Go.SX.happen
  split
  · rfl
  · split <;> rfl
theorem happen_now : (Go.SX.happen s e p).now = p.now := by
  unfold Go.SX.happen
  split
  · rfl
  · split <;> rfl
theorem arr_step {evs : List Ev} (hd : p.done < evs.length) (ha : evs[p.done].at_ = p.now) : arr s evs p = arr s evs { happen s evs[p.done] p with done := p.done + 1 } := by
  unfold arr
  rw [List.drop_eq_getElem_cons hd, arrL, if_pos ha]
theorem arr_stop {evs : List Ev} (hd : p.done < evs.length) (ha : ¬ evs[p.done].at_ = p.now) : arr s evs p = p := by
  unfold arr
  rw [List.drop_eq_getElem_cons hd, arrL, if_neg ha]
theorem arr_end {evs : List Ev} (hd : evs.length ≤ p.done) : arr s evs p = p := by
  unfold arr
  rw [List.drop_of_length_le hd, arrL]
end
section
variable {s : Sc} {A : Option Addr} {cb : Nat} {E : Option Addr} {ce : Nat} {X : Value} {p : Pz} {Ms : List Hp} {vs : List Value} {e : Ev} {len : Int} {K : Nat}
theorem c49 (H : SH u w (Ms ++ L)) (hP : PlM b s A cb E ce X p Ms) (hp : Gok s K p) (hs : SOk s) (he : EvOk len s.bodies.length e) (hD : SD L s A vs) :
    Ret Try.prog 49 [.pointer (some ⟨b, 0, none⟩), .agg e.cells.toArray] w fun v w' => ∃ Ms', PlM b s A cb E ce X (happen s e p) Ms' ∧ SH u w' (Ms' ++ L) := by
  rcases he.2.2 with ⟨k1, _⟩ | ⟨k1, _, _, hf⟩ | ⟨k1, _⟩
  · exact c49s H hP (hp.pok hs) he k1 hD.all hD.rows (fun b hb => ⟨by have := (hs.bodies b hb).1; omega, (hs.bodies b hb).2⟩) (by have := hs.few; omega) ⟨hs.voices.1, by have := hs.voices.2; omega⟩
  · exact c49d H hP (hp.pok hs) k1 hf
  · exact c49r H hP (hp.pok hs) k1
def I25 (u : World) (L : List Hp) (b : Nat) (s : Sc) (A : Option Addr) (cb : Nat) (E : Option Addr) (ce : Nat) (X : Value) (K : Nat) (evs : List Ev) (p : Pz) (d : Nat) (a : Act) (w : World) : Prop :=
  ∃ q Mv Mt Av cv At ct vr, q.done = d ∧ q.done ≤ evs.length ∧ List.map VR.v vr = q.voices ∧ (∀ r ∈ vr, VR.ok r) ∧ Own Mv 63 4 (.slice Av (List.length vr) cv) (List.length vr) (List.flatMap VR.cells vr) ∧ Own Mt 3 1 (.slice At (List.length vr) ct) (List.length vr) (List.flatMap VR.trk vr) ∧
    Gok s K q ∧ arr s evs q = arr s evs p ∧ St [b] u w a 49 [(0, .p 0 0)] [(0, 59, PB s A cb E ce X q.done q.now (.slice Av (List.length vr) cv) (.slice At (List.length vr) ct) q.begun)] (Mv :: Mt :: (List.flatMap VR.hps vr ++ L))
theorem c25 {Ax : Option Addr} {nx cx : Nat} {evs : List Ev} (H : SH u w (Ms ++ L)) (hP : PlM b s A cb E ce (.slice Ax nx cx) p Ms) (hp : Gok s K p) (hs : SOk s) (hev : ∀ e ∈ evs, EvOk len s.bodies.length e) (hD : SD L s A vs)
    (hX : Rows L Ax nx 6 (evs.flatMap Ev.cells)) (hlen : evs.length = nx) (hn : nx ≤ 100) (hd : p.done ≤ nx) (h31 : 31 ≤ K) :
    Ret Try.prog 25 [.pointer (some ⟨b, 0, none⟩)] w fun v w' => ∃ Ms', PlM b s A cb E ce (.slice Ax nx cx) (arr s evs p) Ms' ∧ Gok s K (arr s evs p) ∧ (arr s evs p).done ≤ nx ∧ SH u w' (Ms' ++ L) := by
  obtain ⟨Mv, Mt, Av, cv, At, ct, vr, rfl, hvr, hok, hO1, hO2⟩ := hP
  subst hlen
  refine entB Try.func25 rfl [b] [(0, 59, PB s A cb E ce (.slice Ax evs.length cx) p.done p.now (.slice Av vr.length cv) (.slice At vr.length ct) p.begun)] (xs := [.p 0 0]) (tl := Mv :: Mt :: (vr.flatMap VR.hps ++ L)) H 49 rfl [(0, .p 0 0)] rfl rfl (by simp [SV.wfs, SV.wf]) (by simp [SV.wfs, SV.wf]) fun a S => ?_
  refine xr hT S rfl true [] 200 rfl (by (repeat' apply And.intro); all_goals first | exact True.intro | with_reducible assumption | decide +kernel | with_reducible exact Option.isSome_some | omega | with_reducible exact decide_eq_true (by omega) | with_reducible exact decide_eq_false (by omega) | with_reducible exact beq_iff_eq.2 (by omega) | with_reducible exact beq_eq_false_iff_ne.2 (by omega) | with_reducible exact bne_iff_ne.2 (by omega) | with_reducible exact bne_eq_false_iff_eq.2 (by omega) | skip) fun β a w hβ hl S => ?_
  have S := S.cutT [b] hβ (by simp [SV.wfs, SV.wf]) (by simp [SV.wfs, SV.wf])
  refine xloop (I25 u L b s A cb E ce (.slice Ax evs.length cx) K evs p) (fun d => evs.length - d) p.done ⟨p, Mv, Mt, Av, cv, At, ct, vr, rfl, hd, hvr, hok, hO1, hO2, hp, rfl, S⟩ fun d a w ⟨q, Mv, Mt, Av, cv, At, ct, vr, hqd, hqn, hvr, hok, hO1, hO2, hq, hqa, S⟩ => ?_
  have hnow := hq.now
  by_cases hin : q.done < evs.length
  · obtain ⟨ad, rfl⟩ := hX.2.1 (by omega)
    have hXc := (hX.mono (L' := Mv :: Mt :: (vr.flatMap VR.hps ++ L)) (fun m hm => by simp [hm])).2.2 ad rfl
    have he := hXc.elem ev_len hin
    have hat : RdV (Mv :: Mt :: (vr.flatMap VR.hps ++ L)) ((ad.add (Int.toNat (q.done : Int) * 6)).add 0) [.int .i64 evs[q.done].at_] := by
      rw [Int.toNat_natCast]
      exact at_cell hXc hin
    by_cases ha : evs[q.done].at_ = q.now
    · refine xr hT S rfl true [.b true, .v [.int .i64 evs[q.done].at_], .b true] 200 rfl ?_ fun β a w hβ hl S => ?_
      · (repeat' apply And.intro); all_goals first | exact True.intro | with_reducible assumption | decide +kernel | with_reducible exact Option.isSome_some | omega | with_reducible exact decide_eq_true (by omega) | with_reducible exact decide_eq_false (by omega) | with_reducible exact beq_iff_eq.2 (by omega) | with_reducible exact beq_eq_false_iff_ne.2 (by omega) | with_reducible exact bne_iff_ne.2 (by omega) | with_reducible exact bne_eq_false_iff_eq.2 (by omega) | skip
        all_goals first | exact hat | exact beq_iff_eq.2 ha
      refine xdr hT S (n0 := 11) (by decide +kernel) fun E0 => ?_
      refine xqr hT S true [.v (evs[q.done]).cells] E0 rfl ?_ fun a E0 => ?_
      · (repeat' apply And.intro); all_goals first | exact True.intro | with_reducible assumption | decide +kernel | with_reducible exact Option.isSome_some | omega | with_reducible exact decide_eq_true (by omega) | with_reducible exact decide_eq_false (by omega) | with_reducible exact beq_iff_eq.2 (by omega) | with_reducible exact beq_eq_false_iff_ne.2 (by omega) | with_reducible exact bne_iff_ne.2 (by omega) | with_reducible exact bne_eq_false_iff_eq.2 (by omega) | skip
        all_goals (show RdV _ (ad.add (Int.toNat (q.done : Int) * 6)) _; rw [Int.toNat_natCast]; exact he)
      refine wpQuiet_nil fun w H => ?_
      have S : St _ _ _ _ _ _ _ _ := ⟨E0, H, S.wb⟩
      have S := S.cutT [b] hβ (by simp [SV.wfs, SV.wf]) (by simp [SV.wfs, SV.wf])
      have hcall := c49 (e := evs[q.done]) (L := L) S.sh ⟨Mv, Mt, Av, cv, At, ct, vr, rfl, hvr, hok, hO1, hO2⟩ hq hs (hev _ (List.getElem_mem hin)) hD
      refine xc S rfl rfl rfl rfl rfl en49 hcall fun v w ⟨Ms', ⟨Mv, Mt, Av, cv, At, ct, vr, hMs, hvr, hok, hO1, hO2⟩, H⟩ => ?_
      subst hMs
      have S := S.rebox2 (d := some 41) (v := v) (cs' := PB s A cb E ce (.slice (some ad) evs.length cx) (happen s evs[q.done] q).done (happen s evs[q.done] q).now (.slice Av vr.length cv) (.slice At vr.length ct) (happen s evs[q.done] q).begun) (tl' := Mv :: Mt :: (vr.flatMap VR.hps ++ L)) H rfl (by simp [SV.wfs, SV.wf])
      have hhd : (happen s evs[q.done] q).done = q.done := happen_done
      have hqd2 := hq.done
      rw [hhd] at S
      refine xr hT S rfl true [] 200 rfl (by (repeat' apply And.intro); all_goals first | exact True.intro | with_reducible assumption | decide +kernel | with_reducible exact Option.isSome_some | omega | with_reducible exact decide_eq_true (by omega) | with_reducible exact decide_eq_false (by omega) | with_reducible exact beq_iff_eq.2 (by omega) | with_reducible exact beq_eq_false_iff_ne.2 (by omega) | with_reducible exact bne_iff_ne.2 (by omega) | with_reducible exact bne_eq_false_iff_eq.2 (by omega) | skip) fun β a w hβ hl S => ?_
      have S := (S.keep [0] rfl).cutT [b] hβ (by simp [SV.wfs, SV.wf]) (by simp [SV.wfs, SV.wf])
      have ed : (q.done : Int) + 1 = ((q.done + 1 : Nat) : Int) := by omega
      rw [ed] at S
      exact xj ⟨q.done + 1, ⟨{ happen s evs[q.done] q with done := q.done + 1 }, Mv, Mt, Av, cv, At, ct, vr, rfl, by simp only; omega, hvr, hok, hO1, hO2, hq.happen hs (hev _ (List.getElem_mem hin)) (by omega) h31, by rw [← hqa]; exact (arr_step hin ha).symm, S⟩, by omega⟩
    · refine xr hT S rfl true [.b true, .v [.int .i64 evs[q.done].at_], .b false] 200 rfl ?_ fun β a w hβ hl S => ?_
      · (repeat' apply And.intro); all_goals first | exact True.intro | with_reducible assumption | decide +kernel | with_reducible exact Option.isSome_some | omega | with_reducible exact decide_eq_true (by omega) | with_reducible exact decide_eq_false (by omega) | with_reducible exact beq_iff_eq.2 (by omega) | with_reducible exact beq_eq_false_iff_ne.2 (by omega) | with_reducible exact bne_iff_ne.2 (by omega) | with_reducible exact bne_eq_false_iff_eq.2 (by omega) | skip
        all_goals first | exact hat | exact beq_eq_false_iff_ne.2 ha
      have S := S.cutT [b] hβ (by simp [SV.wfs, SV.wf]) (by simp [SV.wfs, SV.wf])
      rw [← hqa, arr_stop hin ha]
      exact xend hT S rfl ⟨_, rfl, _, ⟨Mv, Mt, Av, cv, At, ct, vr, rfl, hvr, hok, hO1, hO2⟩, hq, hqn, S.sh⟩
  · refine xr hT S rfl true [.b false] 200 rfl (by (repeat' apply And.intro); all_goals first | exact True.intro | with_reducible assumption | decide +kernel | with_reducible exact Option.isSome_some | omega | with_reducible exact decide_eq_true (by omega) | with_reducible exact decide_eq_false (by omega) | with_reducible exact beq_iff_eq.2 (by omega) | with_reducible exact beq_eq_false_iff_ne.2 (by omega) | with_reducible exact bne_iff_ne.2 (by omega) | with_reducible exact bne_eq_false_iff_eq.2 (by omega) | skip) fun β a w hβ hl S => ?_
    have S := S.cutT [b] hβ (by simp [SV.wfs, SV.wf]) (by simp [SV.wfs, SV.wf])
    rw [← hqa, arr_end (by omega)]
    exact xend hT S rfl ⟨_, rfl, _, ⟨Mv, Mt, Av, cv, At, ct, vr, rfl, hvr, hok, hO1, hO2⟩, hq, hqn, S.sh⟩
end
end Go.SX
