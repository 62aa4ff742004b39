import Derived.Test.YtipgdmaagiijmaaG1
set_option maxRecDepth 100000
set_option linter.unusedVariables false
set_option linter.unusedSectionVars false
namespace Go.SX
open Go.Proofs
variable {u w : World} {L B : List Hp} {b : Nat} {M : Hp}
theorem c74 {A : Option Addr} {n c force : Nat} {xs : List Nat} (H : SH u w L) (hR : Rows L A n 1 (xs.map fV)) (hn : n ≤ 100) (hm : ∀ x ∈ xs, (floatBits .mul .f32 x force).isSome = true) : Ret Try.prog 74 [.slice A n c, .float .f32 force] w
    fun v w' => ∃ M A' c', v = .slice A' n c' ∧ Own M 23 1 v n ((xs.map (fop .mul .f32 · force)).map fV) ∧ SH u w' (M :: L) := by
  have hlen := hR.len1
  rw [List.length_map] at hlen
  refine ent Try.func74 rfl H 23 rfl [(0, .v (.slice A n c)), (1, .v (.float .f32 force))] rfl rfl fun a S => ?_
  refine xr hT S rfl true [] 200 rfl (by (repeat' apply And.intro); all_goals first | exact True.intro | with_reducible assumption | decide +kernel | with_reducible exact Option.isSome_some | omega | with_reducible exact decide_eq_true (by omega) | with_reducible exact decide_eq_false (by omega) | with_reducible exact beq_iff_eq.2 (by omega) | with_reducible exact beq_eq_false_iff_ne.2 (by omega) | with_reducible exact bne_iff_ne.2 (by omega) | with_reducible exact bne_eq_false_iff_eq.2 (by omega) | skip) fun β a w hβ hl S => ?_
  have S := S.unbox (d := 5) rfl
  obtain ⟨β', hl', S⟩ := (S.keep [1, 5, 9, 10, 11] rfl).cut 0 (by omega) (by simp [SV.wfs, SV.wf]) (by simp)
  refine xloop (fun (i : Nat) a w => ∃ β M A' c', β.length = 0 ∧ i ≤ n ∧ Own M 23 1 (.slice A' i c') i (((xs.take i).map (fop .mul .f32 · force)).map fV) ∧ St β u w a 23 [(1, .v (.float .f32 force)), (5, .v (.slice A' i c')), (9, .v (.slice A n c)), (10, .v (.int .i64 n)), (11, .v (.int .i64 (i : Int)))] [] (M :: L)) (fun i => n - i) 0
    ⟨β', _, _, 0, hl', Nat.zero_le _, Own.empty _ 23 1, S⟩ fun i a w ⟨β, M, A', c', hl, hi, hO, S⟩ => ?_
  by_cases hin : i < n
  · obtain ⟨ad, rfl⟩ := hR.2.1 (by omega)
    have hix : i < xs.length := by omega
    have hgx : (xs.map fV)[i]? = some (fV xs[i]) := by simp [hix]
    have hmul := hm _ (List.getElem_mem hix)
    refine xr hT S hl true [.b true, .v [fV xs[i]]] 200 rfl ?_ fun β a w hβ hl S => ?_
    · (repeat' apply And.intro); all_goals first | exact True.intro | with_reducible assumption | decide +kernel | with_reducible exact Option.isSome_some | omega | with_reducible exact decide_eq_true (by omega) | with_reducible exact decide_eq_false (by omega) | with_reducible exact beq_iff_eq.2 (by omega) | with_reducible exact beq_eq_false_iff_ne.2 (by omega) | with_reducible exact bne_iff_ne.2 (by omega) | with_reducible exact bne_eq_false_iff_eq.2 (by omega) | skip
      all_goals exact (hR.mono (List.subset_cons_self _ _)).cell (n := n) (c := 0) hgx
    refine xapp hT S rfl rfl rfl rfl rfl rfl rfl rfl hO rfl rfl (news := [fV (fop .mul .f32 xs[i] force)]) (S.boxCells (i := 0) (t := 23) (cs := [.v (.float .f32 (fop .mul .f32 xs[i] force))]) rfl) rfl (by simp [Value.oneCell', fV]) (by show (i + 1) * 4 ≤ _; omega) (by simp only [maxLen]; omega) fun v' M a w hO S => ?_
    obtain ⟨A2, c2, rfl, _⟩ := hO.form
    refine xr hT S hl true [] 200 rfl (by (repeat' apply And.intro); all_goals first | exact True.intro | with_reducible assumption | decide +kernel | with_reducible exact Option.isSome_some | omega | with_reducible exact decide_eq_true (by omega) | with_reducible exact decide_eq_false (by omega) | with_reducible exact beq_iff_eq.2 (by omega) | with_reducible exact beq_eq_false_iff_ne.2 (by omega) | with_reducible exact bne_iff_ne.2 (by omega) | with_reducible exact bne_eq_false_iff_eq.2 (by omega) | skip) fun β a w hβ hl S => ?_
    have ei : (i : Int) + 1 = ((i + 1 : Nat) : Int) := by omega
    have e2 : ((xs.take (i + 1)).map (fop .mul .f32 · force)).map fV = ((xs.take i).map (fop .mul .f32 · force)).map fV ++ [fV (fop .mul .f32 xs[i] force)] := by
      rw [List.take_add_one, List.getElem?_eq_getElem hix, List.map_append, List.map_append]
      rfl
    obtain ⟨β, hl, S⟩ := (S.keep [1, 5, 9, 10, 11] rfl).dropb.cut 0 (by omega) (by simp [SV.wfs, SV.wf]) (by simp)
    rw [ei] at S
    exact xj ⟨i + 1, ⟨β, M, A2, c2, hl, by omega, by rw [e2]; exact hO, S⟩, by omega⟩
  · have e1 : i = n := by omega
    subst e1
    refine xr hT S hl true [.b false] 200 rfl (by (repeat' apply And.intro); all_goals first | exact True.intro | with_reducible assumption | decide +kernel | with_reducible exact Option.isSome_some | omega | with_reducible exact decide_eq_true (by omega) | with_reducible exact decide_eq_false (by omega) | with_reducible exact beq_iff_eq.2 (by omega) | with_reducible exact beq_eq_false_iff_ne.2 (by omega) | with_reducible exact bne_iff_ne.2 (by omega) | with_reducible exact bne_eq_false_iff_eq.2 (by omega) | skip) fun β a w hβ hl S => ?_
    rw [List.take_of_length_le (by omega)] at hO
    exact xret hT S rfl ⟨_, rfl, M, A', c', rfl, hO, S.sh⟩
theorem c73 {A : Option Addr} {n c : Nat} {ms : List Md} (H : SH u w L) (hn : n ≤ 100) (hR : Rows L A n 2 (ms.flatMap Md.cells)) (hlen : ms.length = n) : Ret Try.prog 73 [.slice A n c] w
    fun v w' => ∃ M, Own M 98 2 v n (ms.flatMap Md.cells) ∧ SH u w' (M :: L) := by
  refine ent Try.func73 rfl H 8 rfl [(0, .v (.slice A n c))] rfl rfl fun a S => ?_
  refine xr hT S rfl true [] 200 rfl (by (repeat' apply And.intro); all_goals first | exact True.intro | with_reducible assumption | decide +kernel | with_reducible exact Option.isSome_some | omega | with_reducible exact decide_eq_true (by omega) | with_reducible exact decide_eq_false (by omega) | with_reducible exact beq_iff_eq.2 (by omega) | with_reducible exact beq_eq_false_iff_ne.2 (by omega) | with_reducible exact bne_iff_ne.2 (by omega) | with_reducible exact bne_eq_false_iff_eq.2 (by omega) | skip) fun β a w hβ hl S => ?_
  refine xnil hT S rfl rfl rfl rfl rfl rfl rfl fun a w S => ?_
  cases A with
  | none =>
    refine xr hT S hl true [.b true] 200 rfl (by (repeat' apply And.intro); all_goals first | exact True.intro | with_reducible assumption | decide +kernel | with_reducible exact Option.isSome_some | omega | with_reducible exact decide_eq_true (by omega) | with_reducible exact decide_eq_false (by omega) | with_reducible exact beq_iff_eq.2 (by omega) | with_reducible exact beq_eq_false_iff_ne.2 (by omega) | with_reducible exact bne_iff_ne.2 (by omega) | with_reducible exact bne_eq_false_iff_eq.2 (by omega) | skip) fun β a w hβ hl S => ?_
    have hn0 : n = 0 := by
      rcases Nat.eq_zero_or_pos n with h | h
      · exact h
      · obtain ⟨ad, h⟩ := hR.2.1 h
        cases h
    subst hn0
    have : ms = [] := List.eq_nil_of_length_eq_zero hlen
    subst this
    exact xret hT S rfl ⟨_, rfl, Hp.emp, Own.nil 98 2, S.sh.emp⟩
  | some ad =>
    refine xr hT S hl true [.b false] 200 rfl (by (repeat' apply And.intro); all_goals first | exact True.intro | with_reducible assumption | decide +kernel | with_reducible exact Option.isSome_some | omega | with_reducible exact decide_eq_true (by omega) | with_reducible exact decide_eq_false (by omega) | with_reducible exact beq_iff_eq.2 (by omega) | with_reducible exact beq_eq_false_iff_ne.2 (by omega) | with_reducible exact bne_iff_ne.2 (by omega) | with_reducible exact bne_eq_false_iff_eq.2 (by omega) | skip; rfl) fun β a w hβ hl S => ?_
    have S := S.unbox (d := 5) rfl
    have hc := hR.2.2 ad rfl
    refine xapp hT S rfl rfl rfl rfl rfl rfl rfl rfl (Own.empty _ 98 2) rfl rfl (fun j v hv => (hc j v hv).run (tl := L) (L := bhs β [] ++ [_]) (by simpa using S.sh)) hR.1 ?_ (by show (0 + n) * 16 ≤ _; omega) (by simp only [maxLen]; omega) fun v' Mb a w hO S => ?_
    · intro v hv
      obtain ⟨e, _, he⟩ := List.mem_flatMap.1 hv
      simp only [Md.cells, List.mem_cons, List.not_mem_nil, or_false] at he
      rcases he with rfl | rfl <;> rfl
    refine xr hT S hl true [] 200 rfl (by (repeat' apply And.intro); all_goals first | exact True.intro | with_reducible assumption | decide +kernel | with_reducible exact Option.isSome_some | omega | with_reducible exact decide_eq_true (by omega) | with_reducible exact decide_eq_false (by omega) | with_reducible exact beq_iff_eq.2 (by omega) | with_reducible exact beq_eq_false_iff_ne.2 (by omega) | with_reducible exact bne_iff_ne.2 (by omega) | with_reducible exact bne_eq_false_iff_eq.2 (by omega) | skip) fun β a w hβ hl S => ?_
    refine xret hT S rfl ⟨_, rfl, Mb, ?_, S.sh⟩
    rw [Nat.zero_add, List.nil_append] at hO
    exact hO
/-! ### the player in memory -/
/-- a voice in memory -/
structure VR where
  ma : Option Addr
  mc : Nat
  sa : Option Addr
  sc : Nat
  ia : Option Addr
  ic : Nat
  hm : Hp
  hs : Hp
  hi : Hp
  v : Vc
def VR.cells (r : VR) : List Value := [.int .i64 r.v.body, .slice r.ma r.v.modes.length r.mc, .slice r.sa r.v.states.length r.sc, .slice r.ia r.v.input.length r.ic]
theorem vr_len (r : VR) : r.cells.length = 4 := rfl
def VR.trk (r : VR) : List Value := [.int .i64 r.v.track]
theorem trk_len (r : VR) : r.trk.length = 1 := rfl
def VR.hps (r : VR) : List Hp := [r.hm, r.hs, r.hi]
structure VR.ok (r : VR) : Prop where
  modes : Own r.hm 98 2 (.slice r.ma r.v.modes.length r.mc) r.v.modes.length (r.v.modes.flatMap Md.cells)
  states : Own r.hs 96 1 (.slice r.sa r.v.states.length r.sc) r.v.states.length (r.v.states.map cV)
  input : Rows [r.hi] r.ia r.v.input.length 1 (r.v.input.map fV)
  same : r.v.states.length = r.v.modes.length
  cap : r.v.input.length ≤ r.ic
theorem Own.cap {M : Hp} {e sz n m c : Nat} {A : Option Addr} {xs : List Value} (h : Own M e sz (.slice A n c) m xs) : n ≤ c := by
  rcases h.2 with ⟨h1, _⟩ | ⟨g, cap, cur, h1, _, h3, _⟩
  · cases h1; exact Nat.le_refl _
  · cases h1; exact h3
/-- the player's own cells -/
abbrev PB (s : Sc) (A : Option Addr) (cb : Nat) (E : Option Addr) (ce : Nat) (X : Value) (done now : Nat) (vo tr : Value) (bg : Nat) : List SV :=
  [.v (.int .i64 s.len), .v (.int .i64 s.voices), .v (.float .f32 s.ceil), .v (.float .f32 s.rel), .v (.slice A s.bodies.length cb), .v (.slice E s.events.length ce), .v X, .v (.int .i64 (done : Int)), .v (.int .i64 (now : Int)), .v vo, .v tr, .v (.int .i64 (bg : Int))]
abbrev PV (s : Sc) (A : Option Addr) (cb : Nat) (E : Option Addr) (ce : Nat) (X : Value) (done now : Nat) (vo tr : Value) (bg : Nat) : List Value :=
  [.int .i64 s.len, .int .i64 s.voices, .float .f32 s.ceil, .float .f32 s.rel, .slice A s.bodies.length cb, .slice E s.events.length ce, X, .int .i64 (done : Int), .int .i64 (now : Int), vo, tr, .int .i64 (bg : Int)]
abbrev PH (b : Nat) (s : Sc) (A : Option Addr) (cb : Nat) (E : Option Addr) (ce : Nat) (X : Value) (done now : Nat) (vo tr : Value) (bg : Nat) : Hp := Hp.one b (.cells (PV s A cb E ce X done now vo tr bg).toArray 59 (0, 0))
theorem c72 {i : Nat} (H : SH u w L) : Ret Try.prog 72 [.int .i64 (i : Int)] w (Pl u L fun v => v = .bool (i == 0)) := by
  refine ent Try.func72 rfl H 5 rfl [(0, .v (.int .i64 (i : Int)))] rfl rfl fun a S => ?_
  refine xr hT S rfl true [] 200 rfl (by (repeat' apply And.intro); all_goals first | exact True.intro | with_reducible assumption | decide +kernel | with_reducible exact Option.isSome_some | omega | with_reducible exact decide_eq_true (by omega) | with_reducible exact decide_eq_false (by omega) | with_reducible exact beq_iff_eq.2 (by omega) | with_reducible exact beq_eq_false_iff_ne.2 (by omega) | with_reducible exact bne_iff_ne.2 (by omega) | with_reducible exact bne_eq_false_iff_eq.2 (by omega) | skip) fun β a w hβ hl S => ?_
  refine xret hT S rfl ⟨_, rfl, ?_, S.sh⟩
  have e : ((i : Int) == 0) = (i == 0) := by
    rw [Bool.eq_iff_iff]
    simp
  rw [← e]
  rfl
theorem RdV.at0 {L : List Hp} {g : Nat} {cs : List Value} {t o : Nat} {v : Value} (hM : Hp.one g (.cells cs.toArray t (0, 0)) ∈ L) (hv : cs[o]? = some v) : RdV L ⟨g, o, none⟩ [v] :=
  RdV.one ⟨_, hM, cs.toArray, t, (0, 0), by simp [Hp.one], rfl, by simpa using hv⟩
theorem c76 {s : Sc} {A : Option Addr} {cb : Nat} {E : Option Addr} {ce : Nat} {X : Value} {done now : Nat} {Av : Option Addr} {cv : Nat} {tr : Value} {bg : Nat} {vr : List VR} {b2 b3 i n : Nat} {e : Ev} (H : SH u w L) (h2 : Hp.one b2 (.cells #[.pointer (some ⟨b, 0, none⟩)] 51 (0, 0)) ∈ L)
    (hp : PH b s A cb E ce X done now (.slice Av n cv) tr bg ∈ L) (hR : Rows L Av n 4 (vr.flatMap VR.cells)) (h3 : Hp.one b3 (.cells e.cells.toArray 31 (0, 0)) ∈ L) (hn : vr.length = n) (hi : i < vr.length) :
    Ret Try.prog 76 [.int .i64 (i : Int), .pointer (some ⟨b2, 0, none⟩), .pointer (some ⟨b3, 0, none⟩)] w (Pl u L fun v => v = .bool (vr[i].v.body == e.body)) := by
  obtain ⟨ad, rfl⟩ := hR.2.1 (by omega)
  refine ent Try.func76 rfl H 16 rfl [(0, .v (.int .i64 (i : Int))), (1, .v (.pointer (some ⟨b2, 0, none⟩))), (2, .v (.pointer (some ⟨b3, 0, none⟩)))] rfl rfl fun a S => ?_
  have hb := ((hR.2.2 ad rfl).elem vr_len hi).at_ 0 1
  refine xr hT S rfl true [.v [.pointer (some ⟨b, 0, none⟩)], .v [.slice (some ad) n cv], .v [.int .i64 vr[i].v.body], .v [.int .i64 e.body]] 200 rfl ?_ fun β a w hβ hl S => ?_
  · (repeat' apply And.intro); all_goals first | exact True.intro | with_reducible assumption | decide +kernel | with_reducible exact Option.isSome_some | omega | with_reducible exact decide_eq_true (by omega) | with_reducible exact decide_eq_false (by omega) | with_reducible exact beq_iff_eq.2 (by omega) | with_reducible exact beq_eq_false_iff_ne.2 (by omega) | with_reducible exact bne_iff_ne.2 (by omega) | with_reducible exact bne_eq_false_iff_eq.2 (by omega) | skip
    all_goals first | exact RdV.at0 h2 rfl | (refine RdV.one' (ad := ⟨b, 9, none⟩) (RdV.at0 hp rfl 0 _ rfl) (add0 b 9)) | (refine RdV.one' (ad := ⟨b3, 2, none⟩) (RdV.at0 h3 rfl 0 _ rfl) (add0 b3 2)) | skip
    all_goals (show RdV L ((ad.add (Int.toNat (i : Int) * 4)).add 0) _; rw [Int.toNat_natCast]; exact hb)
  exact xret hT S rfl ⟨_, rfl, rfl, S.sh⟩
end Go.SX
set_option maxRecDepth 100000
set_option linter.unusedVariables false
set_option linter.unusedSectionVars false
namespace Go.SX
open Go.Proofs
variable {u w : World} {L B : List Hp} {b : Nat} {M : Hp}
def keepI {α : Type} (p : Nat → Bool) : Nat → List α → List α
  | _, [] => []
  | k, x :: r => if p k = true then keepI p (k + 1) r else x :: keepI p (k + 1) r
theorem keepI_snoc {α : Type} (p : Nat → Bool) : ∀ (k : Nat) (l : List α) (x : α), keepI p k (l ++ [x]) = keepI p k l ++ (if p (k + l.length) = true then [] else [x])
  | k, [], x => by simp only [List.nil_append, keepI, List.length_nil, Nat.add_zero]
  | k, y :: r, x => by
    have := keepI_snoc p (k + 1) r x
    rw [List.cons_append, keepI, keepI, this, List.length_cons, show k + 1 + r.length = k + (r.length + 1) by omega]
    split <;> rfl
theorem keepI_take {α : Type} (p : Nat → Bool) {l : List α} {i : Nat} (hi : i < l.length) : keepI p 0 (l.take (i + 1)) = keepI p 0 (l.take i) ++ (if p i = true then [] else [l[i]]) := by
  have e : l.take (i + 1) = l.take i ++ [l[i]] := by rw [List.take_add_one, List.getElem?_eq_getElem hi]; rfl
  have e2 : (l.take i).length = i := by rw [List.length_take]; omega
  rw [e, keepI_snoc, e2, Nat.zero_add]
theorem keepI_sub {α : Type} (p : Nat → Bool) : ∀ (k : Nat) (l : List α), (keepI p k l).Sublist l
  | k, [] => List.Sublist.slnil
  | k, x :: r => by
    rw [keepI]
    split
    · exact (keepI_sub p (k + 1) r).cons x
    · exact (keepI_sub p (k + 1) r).cons_cons x
theorem keepI_drop1 {α : Type} : ∀ (l : List α), keepI (fun i => i == 0) 0 l = l.drop 1 := by
  have key : ∀ (l : List α) (k : Nat), keepI (fun i => i == 0) (k + 1) l = l := by
    intro l
    induction l with
    | nil => intro k; rfl
    | cons x r ih =>
      intro k
      rw [keepI, if_neg (by simp), ih]
  intro l
  cases l with
  | nil => rfl
  | cons x r => rw [keepI, if_pos (by decide), key]; rfl
theorem keepI_filter {α : Type} (q : α → Bool) : ∀ (k : Nat) (l : List α) (p : Nat → Bool), (∀ i (h : i < l.length), p (k + i) = q l[i]) → keepI p k l = l.filter fun x => !q x
  | k, [], p, _ => rfl
  | k, x :: r, p, h => by
    have h0 := h 0 (by simp)
    have ih := keepI_filter q (k + 1) r p (fun i hi => by
      have := h (i + 1) (by simp; omega)
      rw [show k + 1 + i = k + (i + 1) by omega]
      simpa using this)
    rw [keepI, ih]
    simp only [Nat.add_zero, List.getElem_cons_zero] at h0
    rw [h0, List.filter_cons]
    cases q x <;> rfl
section
variable {s : Sc} {A : Option Addr} {cb : Nat} {E : Option Addr} {ce : Nat} {X : Value} {done now : Nat} {bg : Nat} {vr : List VR} {n : Nat}
abbrev BX71 (s : Sc) (A : Option Addr) (cb : Nat) (E : Option Addr) (ce : Nat) (X : Value) (done now : Nat) (vo tr : Value) (bg : Nat) : BL := [(0, 59, PB s A cb E ce X done now vo tr bg)]
def I71 (u : World) (L : List Hp) (b : Nat) (s : Sc) (A : Option Addr) (cb : Nat) (E : Option Addr) (ce : Nat) (X : Value) (done now : Nat) (bg : Nat) (Av : Option Addr) (cv : Nat) (At : Option Addr) (ct : Nat) (f : Value) (p : Nat → Bool) (vr : List VR) (n : Nat) (i : Nat) (a : Act) (w : World) : Prop :=
  ∃ Ov Ot A1 c1 A2 c2, i ≤ n ∧ Own Ov 63 4 (.slice A1 (List.length (keepI p 0 (List.take i vr))) c1) (List.length (keepI p 0 (List.take i vr))) (List.flatMap VR.cells (keepI p 0 (List.take i vr))) ∧ Own Ot 3 1 (.slice A2 (List.length (keepI p 0 (List.take i vr))) c2) (List.length (keepI p 0 (List.take i vr))) (List.flatMap VR.trk (keepI p 0 (List.take i vr))) ∧
    St [b] u w a 47 [(0, .p 0 0), (1, .v f), (4, .v (.slice A1 (List.length (keepI p 0 (List.take i vr))) c1)), (5, .v (.slice A2 (List.length (keepI p 0 (List.take i vr))) c2)), (13, .v (.slice Av n cv)), (14, .v (.int .i64 n)), (15, .v (.int .i64 (i : Int)))] (BX71 s A cb E ce X done now (.slice Av n cv) (.slice At n ct) bg) (Ov :: Ot :: L)
theorem St.cutT {β : List Nat} {u w : World} {a : Act} {n : Nat} {l : EL} {bx : BL} {tl : List Hp} (S : St β u w a n l bx tl) (β0 : List Nat) (h : β0 <+: β) (hl : SV.wfs β0.length (l.map (·.2))) (hb : ∀ e ∈ bx, e.1 < β0.length ∧ SV.wfs β0.length e.2.2) : St β0 u w a n l bx tl := by
  obtain ⟨r, rfl⟩ := h
  refine ⟨⟨S.env.defers, S.env.size, fun t x hx => ?_, fun p hp => ?_⟩, ?_, ?_⟩
  · rw [← dn_pre r β0 x ((wfs_iff _ _).1 hl _ (List.mem_map.2 ⟨(t, x), lk_mem hx, rfl⟩))]
    exact S.env.at_ t x hx
  · exact (wfs_iff _ _).1 hl _ (List.mem_map.2 ⟨p, hp, rfl⟩)
  · have := bhs_pre (bx := bx) r β0 hb
    rw [← this]
    exact S.sh
  · exact hb
theorem keep_le {p : Nat → Bool} {vr : List VR} {i : Nat} : (keepI p 0 (vr.take i)).length ≤ vr.length :=
  Nat.le_trans (keepI_sub p 0 _).length_le (by rw [List.length_take]; omega)
theorem c71 {Av : Option Addr} {cv : Nat} {At : Option Addr} {ct : Nat} {Mv Mt : Hp} {f : FuncId} {cap : List Value} {p : Nat → Bool} (H : SH u w (PH b s A cb E ce X done now (.slice Av n cv) (.slice At n ct) bg :: Mv :: Mt :: L)) (hlen : vr.length = n) (hn : n ≤ 100)
    (hv : Rows [Mv] Av n 4 (vr.flatMap VR.cells)) (ht : Rows [Mt] At n 1 (vr.flatMap VR.trk)) (he : Enters Try.prog f)
    (hf : ∀ {w : World} {L' : List Hp} (i : Nat), i < n → SH u w L' → (PH b s A cb E ce X done now (.slice Av n cv) (.slice At n ct) bg :: Mv :: Mt :: L) ⊆ L' → Ret Try.prog f (.int .i64 (i : Int) :: cap) w (Pl u L' fun v => v = .bool (p i))) :
    Ret Try.prog 71 [.pointer (some ⟨b, 0, none⟩), .func (.func f) #[] cap.toArray] w fun v w' => ∃ Mv Mt A1 c1 A2 c2, Own Mv 63 4 (.slice A1 (keepI p 0 vr).length c1) (keepI p 0 vr).length ((keepI p 0 vr).flatMap VR.cells) ∧
      Own Mt 3 1 (.slice A2 (keepI p 0 vr).length c2) (keepI p 0 vr).length ((keepI p 0 vr).flatMap VR.trk) ∧ SH u w' (PH b s A cb E ce X done now (.slice A1 (keepI p 0 vr).length c1) (.slice A2 (keepI p 0 vr).length c2) bg :: Mv :: Mt :: L) := by
  refine entB Try.func71 rfl [b] (BX71 s A cb E ce X done now (.slice Av n cv) (.slice At n ct) bg) (xs := [.p 0 0, .v (.func (.func f) #[] cap.toArray)]) (tl := Mv :: Mt :: L) H 47 rfl [(0, .p 0 0), (1, .v (.func (.func f) #[] cap.toArray))] rfl rfl (by simp [SV.wfs, SV.wf]) (by simp [SV.wfs, SV.wf]) fun a S => ?_
  refine xr hT S rfl true [] 200 rfl (by (repeat' apply And.intro); all_goals first | exact True.intro | with_reducible assumption | decide +kernel | with_reducible exact Option.isSome_some | omega | with_reducible exact decide_eq_true (by omega) | with_reducible exact decide_eq_false (by omega) | with_reducible exact beq_iff_eq.2 (by omega) | with_reducible exact beq_eq_false_iff_ne.2 (by omega) | with_reducible exact bne_iff_ne.2 (by omega) | with_reducible exact bne_eq_false_iff_eq.2 (by omega) | skip) fun β a w hβ hl S => ?_
  have S := (S.perm (List.Perm.refl _)).unbox (d := 5) rfl
  have S := (S.keep [0, 1, 4, 5, 13, 14, 15] rfl).unbox (d := 4) rfl
  have S := (S.keep [0, 1, 4, 5, 13, 14, 15] rfl).cutT [b] hβ (by simp [SV.wfs, SV.wf]) (by simp [SV.wfs, SV.wf])
  refine xloop (I71 u (Mv :: Mt :: L) b s A cb E ce X done now bg Av cv At ct (.func (.func f) #[] cap.toArray) p vr n) (fun i => n - i) 0
    ⟨_, _, _, 0, _, 0, Nat.zero_le _, Own.empty _ 63 4, Own.empty _ 3 1, S⟩ fun i a w ⟨Ov, Ot, A1, c1, A2, c2, hi, hO1, hO2, S⟩ => ?_
  by_cases hin : i < n
  · obtain ⟨ad, rfl⟩ := hv.2.1 (by omega)
    have hiv : i < vr.length := by omega
    have hc := ((hv.2.2 ad rfl).mono (L' := Ov :: Ot :: Mv :: Mt :: L) (by intro m hm; rw [List.mem_singleton.1 hm]; simp)).elem vr_len hiv
    have ei : (i : Int) + 1 = ((i + 1 : Nat) : Int) := by omega
    refine xr hT S rfl true [.b true, .v (vr[i]).cells] 200 rfl ?_ fun β a w hβ hl S => ?_
    · (repeat' apply And.intro); all_goals first | exact True.intro | with_reducible assumption | decide +kernel | with_reducible exact Option.isSome_some | omega | with_reducible exact decide_eq_true (by omega) | with_reducible exact decide_eq_false (by omega) | with_reducible exact beq_iff_eq.2 (by omega) | with_reducible exact beq_eq_false_iff_ne.2 (by omega) | with_reducible exact bne_iff_ne.2 (by omega) | with_reducible exact bne_eq_false_iff_eq.2 (by omega) | skip
      all_goals (show RdV (Ov :: Ot :: Mv :: Mt :: L) (ad.add (Int.toNat (i : Int) * 4)) _; rw [Int.toNat_natCast]; exact hc)
    have eb : β.getD 0 0 = b := pre_getD hβ (by simp)
    refine xP S rfl rfl rfl rfl rfl rfl he (fun H => by
      rw [dns_app', dns_vs]
      refine hf i hin H ?_
      intro m hm
      rcases List.mem_cons.1 hm with rfl | hm
      · refine List.mem_append_left _ ?_
        rw [← eb]
        exact List.mem_cons_of_mem _ List.mem_cons_self
      · exact List.mem_append_right _ (List.mem_cons_of_mem _ (List.mem_cons_of_mem _ hm))) fun v a w hvv S => ?_
    have hkt := keepI_take p hiv
    have hkl : (keepI p 0 (vr.take i)).length ≤ 100 := Nat.le_trans keep_le (by omega)
    cases hpi : p i with
    | true =>
      rw [hpi] at hvv hkt
      rw [if_pos rfl, List.append_nil] at hkt
      subst hvv
      refine xr hT S hl true [.b false] 200 rfl (by (repeat' apply And.intro); all_goals first | exact True.intro | with_reducible assumption | decide +kernel | with_reducible exact Option.isSome_some | omega | with_reducible exact decide_eq_true (by omega) | with_reducible exact decide_eq_false (by omega) | with_reducible exact beq_iff_eq.2 (by omega) | with_reducible exact beq_eq_false_iff_ne.2 (by omega) | with_reducible exact bne_iff_ne.2 (by omega) | with_reducible exact bne_eq_false_iff_eq.2 (by omega) | skip) fun β2 a w hβ2 hl S => ?_
      have S := ((S.keep [0, 1, 4, 5, 13, 14, 15] rfl).dropb).cutT [b] (hβ.trans hβ2) (by simp [SV.wfs, SV.wf]) (by simp [SV.wfs, SV.wf])
      rw [ei] at S
      exact xj ⟨i + 1, ⟨Ov, Ot, A1, c1, A2, c2, by omega, by rw [hkt]; exact hO1, by rw [hkt]; exact hO2, by rw [hkt]; exact S⟩, by omega⟩
    | false =>
      rw [hpi] at hvv hkt
      rw [if_neg (by simp)] at hkt
      subst hvv
      obtain ⟨ad2, rfl⟩ := ht.2.1 (by omega)
      have htk := ((ht.2.2 ad2 rfl).mono (L' := Mv :: Mt :: L) (by intro m hm; rw [List.mem_singleton.1 hm]; simp)).elem trk_len hiv
      have el : (keepI p 0 (vr.take i) ++ [vr[i]]).length = (keepI p 0 (vr.take i)).length + 1 := by simp
      have ec : (keepI p 0 (vr.take i) ++ [vr[i]]).flatMap VR.cells = (keepI p 0 (vr.take i)).flatMap VR.cells ++ vr[i].cells := by simp
      have et : (keepI p 0 (vr.take i) ++ [vr[i]]).flatMap VR.trk = (keepI p 0 (vr.take i)).flatMap VR.trk ++ vr[i].trk := by simp
      have ek := hkt
      refine xr hT S hl true [.b true] 200 rfl (by (repeat' apply And.intro); all_goals first | exact True.intro | with_reducible assumption | decide +kernel | with_reducible exact Option.isSome_some | omega | with_reducible exact decide_eq_true (by omega) | with_reducible exact decide_eq_false (by omega) | with_reducible exact beq_iff_eq.2 (by omega) | with_reducible exact beq_eq_false_iff_ne.2 (by omega) | with_reducible exact bne_iff_ne.2 (by omega) | with_reducible exact bne_eq_false_iff_eq.2 (by omega) | skip) fun β2 a w hβ2 hl S => ?_
      have wb := S.wb
      refine xhs hT [0, 1, 4, 5, 6, 7, 8, 9, 10, 11] (pre := []) (tp := [Ov, Ot]) _ (Mv :: Mt :: L) rfl rfl S (by decide +kernel) rfl true [.v (vr[i]).trk] rfl ?_ fun a w S => ?_
      · (repeat' apply And.intro); all_goals first | exact True.intro | with_reducible assumption | decide +kernel | with_reducible exact Option.isSome_some | omega | with_reducible exact decide_eq_true (by omega) | with_reducible exact decide_eq_false (by omega) | with_reducible exact beq_iff_eq.2 (by omega) | with_reducible exact beq_eq_false_iff_ne.2 (by omega) | with_reducible exact bne_iff_ne.2 (by omega) | with_reducible exact bne_eq_false_iff_eq.2 (by omega) | skip
        all_goals (show RdV (Mv :: Mt :: L) (ad2.add (Int.toNat (i : Int) * 1)) _; rw [Int.toNat_natCast]; exact htk)
      refine xt2 2 12 (by decide +kernel) (by decide +kernel) (by decide +kernel) rfl rfl ?_ ?_
      · refine xr hT S hl true [] 200 rfl (by (repeat' apply And.intro); all_goals first | exact True.intro | with_reducible assumption | decide +kernel | with_reducible exact Option.isSome_some | omega | with_reducible exact decide_eq_true (by omega) | with_reducible exact decide_eq_false (by omega) | with_reducible exact beq_iff_eq.2 (by omega) | with_reducible exact beq_eq_false_iff_ne.2 (by omega) | with_reducible exact bne_iff_ne.2 (by omega) | with_reducible exact bne_eq_false_iff_eq.2 (by omega) | skip) fun β3 a w hβ3 hl S => ?_
        refine xah S hβ3 wb (pre := [_]) rfl (tp := [Ov, Ot]) rfl ?_
        refine xj ?_
        refine xt2 3 12 (by decide +kernel) (by decide +kernel) (by decide +kernel) rfl rfl ?_ ?_
        · refine xapp hT S rfl rfl rfl rfl rfl rfl rfl rfl hO1 rfl rfl (news := vr[i].cells) (S.boxCells (i := 2) (t := 63) (cs := vr[i].cells.map .v) rfl) rfl (by simp [VR.cells, Value.oneCell']) (by show ((keepI p 0 (vr.take i)).length + 1) * 80 ≤ _; omega) (by simp only [maxLen]; omega) fun v' Ov a w hO1 S => ?_
          obtain ⟨A1, c1, rfl, _⟩ := hO1.form
          refine xr hT S hl true [] 200 rfl (by (repeat' apply And.intro); all_goals first | exact True.intro | with_reducible assumption | decide +kernel | with_reducible exact Option.isSome_some | omega | with_reducible exact decide_eq_true (by omega) | with_reducible exact decide_eq_false (by omega) | with_reducible exact beq_iff_eq.2 (by omega) | with_reducible exact beq_eq_false_iff_ne.2 (by omega) | with_reducible exact bne_iff_ne.2 (by omega) | with_reducible exact bne_eq_false_iff_eq.2 (by omega) | skip) fun β4 a w hβ4 hl S => ?_
          refine xah S (hβ3.trans hβ4) wb (pre := [_]) rfl (tp := [Ov, Ot]) rfl ?_
          refine xj ?_
          refine xt1 12 (by decide +kernel) (by decide +kernel) rfl ?_
          refine xr hT S hl true [] 200 rfl (by (repeat' apply And.intro); all_goals first | exact True.intro | with_reducible assumption | decide +kernel | with_reducible exact Option.isSome_some | omega | with_reducible exact decide_eq_true (by omega) | with_reducible exact decide_eq_false (by omega) | with_reducible exact beq_iff_eq.2 (by omega) | with_reducible exact beq_eq_false_iff_ne.2 (by omega) | with_reducible exact bne_iff_ne.2 (by omega) | with_reducible exact bne_eq_false_iff_eq.2 (by omega) | skip) fun β5 a w hβ5 hl S => ?_
          refine xah S ((hβ3.trans hβ4).trans hβ5) wb (pre := [_, _]) rfl (tp := [Ov, Ot]) rfl ?_
          refine xj ?_
          refine xt1 13 (by decide +kernel) (by decide +kernel) rfl ?_
          have S := S.perm (List.Perm.swap _ _ _)
          refine xapp hT S rfl rfl rfl rfl rfl rfl rfl rfl hO2 rfl rfl (news := vr[i].trk) (S.boxCells (i := 3) (t := 3) (cs := vr[i].trk.map .v) rfl) rfl (by simp [VR.trk, Value.oneCell']) (by show ((keepI p 0 (vr.take i)).length + 1) * 8 ≤ _; omega) (by simp only [maxLen]; omega) fun v' Ot a w hO2 S => ?_
          obtain ⟨A2, c2, rfl, _⟩ := hO2.form
          have S := S.perm (List.Perm.swap _ _ _)
          refine xr hT S hl true [] 200 rfl (by (repeat' apply And.intro); all_goals first | exact True.intro | with_reducible assumption | decide +kernel | with_reducible exact Option.isSome_some | omega | with_reducible exact decide_eq_true (by omega) | with_reducible exact decide_eq_false (by omega) | with_reducible exact beq_iff_eq.2 (by omega) | with_reducible exact beq_eq_false_iff_ne.2 (by omega) | with_reducible exact bne_iff_ne.2 (by omega) | with_reducible exact bne_eq_false_iff_eq.2 (by omega) | skip) fun β6 a w hβ6 hl S => ?_
          refine xah S (((hβ3.trans hβ4).trans hβ5).trans hβ6) wb (pre := [_, _]) rfl (tp := [Ov, Ot]) rfl ?_
          refine xj ?_
          refine xt1 14 (by decide +kernel) (by decide +kernel) rfl ?_
          refine xr hT S hl true [] 200 rfl (by (repeat' apply And.intro); all_goals first | exact True.intro | with_reducible assumption | decide +kernel | with_reducible exact Option.isSome_some | omega | with_reducible exact decide_eq_true (by omega) | with_reducible exact decide_eq_false (by omega) | with_reducible exact beq_iff_eq.2 (by omega) | with_reducible exact beq_eq_false_iff_ne.2 (by omega) | with_reducible exact bne_iff_ne.2 (by omega) | with_reducible exact bne_eq_false_iff_eq.2 (by omega) | skip) fun β8 a w hβ8 hl S => ?_
          refine xah S ((((hβ3.trans hβ4).trans hβ5).trans hβ6).trans hβ8) wb (pre := [_, _]) rfl (tp := [Ov, Ot]) rfl ?_
          refine xj ?_
          refine xt 15 _ rfl rfl (by decide +kernel) ?_
          refine xr hT S hl true [] 200 rfl (by (repeat' apply And.intro); all_goals first | exact True.intro | with_reducible assumption | decide +kernel | with_reducible exact Option.isSome_some | omega | with_reducible exact decide_eq_true (by omega) | with_reducible exact decide_eq_false (by omega) | with_reducible exact beq_iff_eq.2 (by omega) | with_reducible exact beq_eq_false_iff_ne.2 (by omega) | with_reducible exact bne_iff_ne.2 (by omega) | with_reducible exact bne_eq_false_iff_eq.2 (by omega) | skip) fun β7 a w hβ7 hl S => ?_
          have S := ((S.keep [0, 1, 4, 5, 13, 14, 15] rfl).dropb.dropb.dropb).cutT [b] (((((((hβ.trans hβ2).trans hβ3).trans hβ4).trans hβ5).trans hβ6).trans hβ8).trans hβ7) (by simp [SV.wfs, SV.wf]) (by simp [SV.wfs, SV.wf])
          rw [ei] at S
          exact xj ⟨i + 1, ⟨Ov, Ot, A1, c1, A2, c2, by omega, by rw [ek, el, ec]; exact hO1, by rw [ek, el, et]; exact hO2, by rw [ek, el]; exact S⟩, by omega⟩
        · refine xr hT S hl true [] 200 rfl (by (repeat' apply And.intro); all_goals first | exact True.intro | with_reducible assumption | decide +kernel | with_reducible exact Option.isSome_some | omega | with_reducible exact decide_eq_true (by omega) | with_reducible exact decide_eq_false (by omega) | with_reducible exact beq_iff_eq.2 (by omega) | with_reducible exact beq_eq_false_iff_ne.2 (by omega) | with_reducible exact bne_iff_ne.2 (by omega) | with_reducible exact bne_eq_false_iff_eq.2 (by omega) | skip) fun β4 a w hβ4 hl S => ?_
          refine xah S (hβ3.trans hβ4) wb (pre := [_, _]) rfl (tp := [Ov, Ot]) rfl ?_
          refine xj ?_
          refine xt1 3 (by decide +kernel) (by decide +kernel) rfl ?_
          refine xapp hT S rfl rfl rfl rfl rfl rfl rfl rfl hO1 rfl rfl (news := vr[i].cells) (S.boxCells (i := 2) (t := 63) (cs := vr[i].cells.map .v) rfl) rfl (by simp [VR.cells, Value.oneCell']) (by show ((keepI p 0 (vr.take i)).length + 1) * 80 ≤ _; omega) (by simp only [maxLen]; omega) fun v' Ov a w hO1 S => ?_
          obtain ⟨A1, c1, rfl, _⟩ := hO1.form
          refine xr hT S hl true [] 200 rfl (by (repeat' apply And.intro); all_goals first | exact True.intro | with_reducible assumption | decide +kernel | with_reducible exact Option.isSome_some | omega | with_reducible exact decide_eq_true (by omega) | with_reducible exact decide_eq_false (by omega) | with_reducible exact beq_iff_eq.2 (by omega) | with_reducible exact beq_eq_false_iff_ne.2 (by omega) | with_reducible exact bne_iff_ne.2 (by omega) | with_reducible exact bne_eq_false_iff_eq.2 (by omega) | skip) fun β5 a w hβ5 hl S => ?_
          refine xah S ((hβ3.trans hβ4).trans hβ5) wb (pre := [_, _]) rfl (tp := [Ov, Ot]) rfl ?_
          refine xj ?_
          refine xt1 13 (by decide +kernel) (by decide +kernel) rfl ?_
          have S := S.perm (List.Perm.swap _ _ _)
          refine xapp hT S rfl rfl rfl rfl rfl rfl rfl rfl hO2 rfl rfl (news := vr[i].trk) (S.boxCells (i := 3) (t := 3) (cs := vr[i].trk.map .v) rfl) rfl (by simp [VR.trk, Value.oneCell']) (by show ((keepI p 0 (vr.take i)).length + 1) * 8 ≤ _; omega) (by simp only [maxLen]; omega) fun v' Ot a w hO2 S => ?_
          obtain ⟨A2, c2, rfl, _⟩ := hO2.form
          have S := S.perm (List.Perm.swap _ _ _)
          refine xr hT S hl true [] 200 rfl (by (repeat' apply And.intro); all_goals first | exact True.intro | with_reducible assumption | decide +kernel | with_reducible exact Option.isSome_some | omega | with_reducible exact decide_eq_true (by omega) | with_reducible exact decide_eq_false (by omega) | with_reducible exact beq_iff_eq.2 (by omega) | with_reducible exact beq_eq_false_iff_ne.2 (by omega) | with_reducible exact bne_iff_ne.2 (by omega) | with_reducible exact bne_eq_false_iff_eq.2 (by omega) | skip) fun β6 a w hβ6 hl S => ?_
          refine xah S (((hβ3.trans hβ4).trans hβ5).trans hβ6) wb (pre := [_, _]) rfl (tp := [Ov, Ot]) rfl ?_
          refine xj ?_
          refine xt1 14 (by decide +kernel) (by decide +kernel) rfl ?_
          refine xr hT S hl true [] 200 rfl (by (repeat' apply And.intro); all_goals first | exact True.intro | with_reducible assumption | decide +kernel | with_reducible exact Option.isSome_some | omega | with_reducible exact decide_eq_true (by omega) | with_reducible exact decide_eq_false (by omega) | with_reducible exact beq_iff_eq.2 (by omega) | with_reducible exact beq_eq_false_iff_ne.2 (by omega) | with_reducible exact bne_iff_ne.2 (by omega) | with_reducible exact bne_eq_false_iff_eq.2 (by omega) | skip) fun β8 a w hβ8 hl S => ?_
          refine xah S ((((hβ3.trans hβ4).trans hβ5).trans hβ6).trans hβ8) wb (pre := [_, _]) rfl (tp := [Ov, Ot]) rfl ?_
          refine xj ?_
          refine xt 15 _ rfl rfl (by decide +kernel) ?_
          refine xr hT S hl true [] 200 rfl (by (repeat' apply And.intro); all_goals first | exact True.intro | with_reducible assumption | decide +kernel | with_reducible exact Option.isSome_some | omega | with_reducible exact decide_eq_true (by omega) | with_reducible exact decide_eq_false (by omega) | with_reducible exact beq_iff_eq.2 (by omega) | with_reducible exact beq_eq_false_iff_ne.2 (by omega) | with_reducible exact bne_iff_ne.2 (by omega) | with_reducible exact bne_eq_false_iff_eq.2 (by omega) | skip) fun β7 a w hβ7 hl S => ?_
          have S := ((S.keep [0, 1, 4, 5, 13, 14, 15] rfl).dropb.dropb.dropb).cutT [b] (((((((hβ.trans hβ2).trans hβ3).trans hβ4).trans hβ5).trans hβ6).trans hβ8).trans hβ7) (by simp [SV.wfs, SV.wf]) (by simp [SV.wfs, SV.wf])
          rw [ei] at S
          exact xj ⟨i + 1, ⟨Ov, Ot, A1, c1, A2, c2, by omega, by rw [ek, el, ec]; exact hO1, by rw [ek, el, et]; exact hO2, by rw [ek, el]; exact S⟩, by omega⟩
      · refine xr hT S hl true [] 200 rfl (by (repeat' apply And.intro); all_goals first | exact True.intro | with_reducible assumption | decide +kernel | with_reducible exact Option.isSome_some | omega | with_reducible exact decide_eq_true (by omega) | with_reducible exact decide_eq_false (by omega) | with_reducible exact beq_iff_eq.2 (by omega) | with_reducible exact beq_eq_false_iff_ne.2 (by omega) | with_reducible exact bne_iff_ne.2 (by omega) | with_reducible exact bne_eq_false_iff_eq.2 (by omega) | skip) fun β3 a w hβ3 hl S => ?_
        refine xah S hβ3 wb (pre := [_]) rfl (tp := [Ov, Ot]) rfl ?_
        refine xj ?_
        refine xt1 2 (by decide +kernel) (by decide +kernel) rfl ?_
        refine xr hT S hl true [] 200 rfl (by (repeat' apply And.intro); all_goals first | exact True.intro | with_reducible assumption | decide +kernel | with_reducible exact Option.isSome_some | omega | with_reducible exact decide_eq_true (by omega) | with_reducible exact decide_eq_false (by omega) | with_reducible exact beq_iff_eq.2 (by omega) | with_reducible exact beq_eq_false_iff_ne.2 (by omega) | with_reducible exact bne_iff_ne.2 (by omega) | with_reducible exact bne_eq_false_iff_eq.2 (by omega) | skip) fun β4 a w hβ4 hl S => ?_
        refine xah S (hβ3.trans hβ4) wb (pre := [_, _]) rfl (tp := [Ov, Ot]) rfl ?_
        refine xj ?_
        refine xt1 3 (by decide +kernel) (by decide +kernel) rfl ?_
        refine xapp hT S rfl rfl rfl rfl rfl rfl rfl rfl hO1 rfl rfl (news := vr[i].cells) (S.boxCells (i := 3) (t := 63) (cs := vr[i].cells.map .v) rfl) rfl (by simp [VR.cells, Value.oneCell']) (by show ((keepI p 0 (vr.take i)).length + 1) * 80 ≤ _; omega) (by simp only [maxLen]; omega) fun v' Ov a w hO1 S => ?_
        obtain ⟨A1, c1, rfl, _⟩ := hO1.form
        refine xr hT S hl true [] 200 rfl (by (repeat' apply And.intro); all_goals first | exact True.intro | with_reducible assumption | decide +kernel | with_reducible exact Option.isSome_some | omega | with_reducible exact decide_eq_true (by omega) | with_reducible exact decide_eq_false (by omega) | with_reducible exact beq_iff_eq.2 (by omega) | with_reducible exact beq_eq_false_iff_ne.2 (by omega) | with_reducible exact bne_iff_ne.2 (by omega) | with_reducible exact bne_eq_false_iff_eq.2 (by omega) | skip) fun β5 a w hβ5 hl S => ?_
        refine xah S ((hβ3.trans hβ4).trans hβ5) wb (pre := [_, _]) rfl (tp := [Ov, Ot]) rfl ?_
        refine xj ?_
        refine xt1 13 (by decide +kernel) (by decide +kernel) rfl ?_
        have S := S.perm (List.Perm.swap _ _ _)
        refine xapp hT S rfl rfl rfl rfl rfl rfl rfl rfl hO2 rfl rfl (news := vr[i].trk) (S.boxCells (i := 2) (t := 3) (cs := vr[i].trk.map .v) rfl) rfl (by simp [VR.trk, Value.oneCell']) (by show ((keepI p 0 (vr.take i)).length + 1) * 8 ≤ _; omega) (by simp only [maxLen]; omega) fun v' Ot a w hO2 S => ?_
        obtain ⟨A2, c2, rfl, _⟩ := hO2.form
        have S := S.perm (List.Perm.swap _ _ _)
        refine xr hT S hl true [] 200 rfl (by (repeat' apply And.intro); all_goals first | exact True.intro | with_reducible assumption | decide +kernel | with_reducible exact Option.isSome_some | omega | with_reducible exact decide_eq_true (by omega) | with_reducible exact decide_eq_false (by omega) | with_reducible exact beq_iff_eq.2 (by omega) | with_reducible exact beq_eq_false_iff_ne.2 (by omega) | with_reducible exact bne_iff_ne.2 (by omega) | with_reducible exact bne_eq_false_iff_eq.2 (by omega) | skip) fun β6 a w hβ6 hl S => ?_
        refine xah S (((hβ3.trans hβ4).trans hβ5).trans hβ6) wb (pre := [_, _]) rfl (tp := [Ov, Ot]) rfl ?_
        refine xj ?_
        refine xt1 14 (by decide +kernel) (by decide +kernel) rfl ?_
        refine xr hT S hl true [] 200 rfl (by (repeat' apply And.intro); all_goals first | exact True.intro | with_reducible assumption | decide +kernel | with_reducible exact Option.isSome_some | omega | with_reducible exact decide_eq_true (by omega) | with_reducible exact decide_eq_false (by omega) | with_reducible exact beq_iff_eq.2 (by omega) | with_reducible exact beq_eq_false_iff_ne.2 (by omega) | with_reducible exact bne_iff_ne.2 (by omega) | with_reducible exact bne_eq_false_iff_eq.2 (by omega) | skip) fun β8 a w hβ8 hl S => ?_
        refine xah S ((((hβ3.trans hβ4).trans hβ5).trans hβ6).trans hβ8) wb (pre := [_, _]) rfl (tp := [Ov, Ot]) rfl ?_
        refine xj ?_
        refine xt 15 _ rfl rfl (by decide +kernel) ?_
        refine xr hT S hl true [] 200 rfl (by (repeat' apply And.intro); all_goals first | exact True.intro | with_reducible assumption | decide +kernel | with_reducible exact Option.isSome_some | omega | with_reducible exact decide_eq_true (by omega) | with_reducible exact decide_eq_false (by omega) | with_reducible exact beq_iff_eq.2 (by omega) | with_reducible exact beq_eq_false_iff_ne.2 (by omega) | with_reducible exact bne_iff_ne.2 (by omega) | with_reducible exact bne_eq_false_iff_eq.2 (by omega) | skip) fun β7 a w hβ7 hl S => ?_
        have S := ((S.keep [0, 1, 4, 5, 13, 14, 15] rfl).dropb.dropb.dropb).cutT [b] (((((((hβ.trans hβ2).trans hβ3).trans hβ4).trans hβ5).trans hβ6).trans hβ8).trans hβ7) (by simp [SV.wfs, SV.wf]) (by simp [SV.wfs, SV.wf])
        rw [ei] at S
        exact xj ⟨i + 1, ⟨Ov, Ot, A1, c1, A2, c2, by omega, by rw [ek, el, ec]; exact hO1, by rw [ek, el, et]; exact hO2, by rw [ek, el]; exact S⟩, by omega⟩
  · have e1 : i = n := by omega
    subst e1
    rw [List.take_of_length_le (by omega)] at hO1 hO2 S
    refine xr hT S rfl true [.b false] 200 rfl (by (repeat' apply And.intro); all_goals first | exact True.intro | with_reducible assumption | decide +kernel | with_reducible exact Option.isSome_some | omega | with_reducible exact decide_eq_true (by omega) | with_reducible exact decide_eq_false (by omega) | with_reducible exact beq_iff_eq.2 (by omega) | with_reducible exact beq_eq_false_iff_ne.2 (by omega) | with_reducible exact bne_iff_ne.2 (by omega) | with_reducible exact bne_eq_false_iff_eq.2 (by omega) | skip) fun β a w hβ hl S => ?_
    have eb : β.getD 0 0 = b := pre_getD hβ (by simp)
    refine xend hT S rfl ⟨_, rfl, Ov, Ot, A1, c1, A2, c2, hO1, hO2, ?_⟩
    have H := S.sh
    have H : SH u w (PH (β.getD 0 0) s A cb E ce X done now (.slice A1 (keepI p 0 vr).length c1) (.slice A2 (keepI p 0 vr).length c2) bg :: Ov :: Ot :: Mv :: Mt :: L) := H
    rw [eb] at H
    refine H.sub ?_
    exact ((List.sublist_append_right [Mv, Mt] L).cons_cons Ot).cons_cons Ov |>.cons_cons _
end
end Go.SX
set_option maxRecDepth 100000
set_option linter.unusedVariables false
set_option linter.unusedSectionVars false
namespace Go.SX
open Go.Proofs
variable {u w : World} {L B : List Hp} {b : Nat} {M : Hp}
theorem up_perm {α : Type} : ∀ {l : List α} {k : Nat} {x : α}, l[k]? = some x → l.Perm (x :: l.eraseIdx k)
  | [], k, x, h => by simp at h
  | y :: r, 0, x, h => by
    simp at h
    subst h
    exact List.Perm.refl _
  | y :: r, k + 1, x, h => by
    have := up_perm (l := r) (k := k) (x := x) (by simpa using h)
    rw [List.eraseIdx_cons_succ]
    exact (this.cons y).trans (List.Perm.swap x y _)
section
variable {β : List Nat} {a : Act} {n : Nat} {l : EL} {bx bx' : BL} {tl : List Hp}
theorem St.permb (S : St β u w a n l bx tl) (h : bx.Perm bx') : St β u w a n l bx' tl :=
  ⟨S.env, S.sh.perm ((h.map _).append_right _), fun e he => S.wb e (h.mem_iff.2 he)⟩
/-- the k-th heap ahead -/
theorem St.up (S : St β u w a n l bx tl) (k : Nat) {M : Hp} {tl' : List Hp} (h : tl[k]? = some M) (h' : tl.eraseIdx k = tl') : St β u w a n l bx (M :: tl') := by
  subst h'
  exact S.perm (up_perm h)
/-- the k-th box ahead -/
theorem St.upb (S : St β u w a n l bx tl) (k : Nat) {e : Nat × Nat × List SV} {bx' : BL} (h : bx[k]? = some e) (h' : bx.eraseIdx k = bx') : St β u w a n l (e :: bx') tl := by
  subst h'
  exact S.permb (up_perm h)
theorem SH.up {tl : List Hp} (H : SH u w tl) (k : Nat) {M : Hp} {tl' : List Hp} (h : tl[k]? = some M) (h' : tl.eraseIdx k = tl') : SH u w (M :: tl') := by
  subst h'
  exact H.perm (up_perm h)
/-- behind a call that has written our first box, and has made or lost heaps -/
theorem St.rebox2 {w' : World} {i t : Nat} {cs cs' : List SV} {d : Option Nat} {v : Value} {tl' : List Hp} (S : St β u w a n l ((i, t, cs) :: bx) tl) (H : SH u w' (Hp.one (β.getD i 0) (.cells (SV.dns β cs').toArray t (0, 0)) :: (bhs β bx ++ tl')))
    (hd : dOk n d = true) (hw : SV.wfs β.length cs') : St β u w' (a.put d v) n (putl l d (.v v)) ((i, t, cs') :: bx) tl' :=
  ⟨putl_ok (x := .v v) S.env hd trivial, H, fun e he => by
    rcases List.mem_cons.1 he with rfl | he
    · exact ⟨(S.wb (i, t, cs) List.mem_cons_self).1, hw⟩
    · exact S.wb e (List.mem_cons_of_mem _ he)⟩
end
theorem perm_out {α : Type} (x y z : α) (B R : List α) : (x :: (B ++ (y :: z :: R))).Perm (x :: y :: z :: (B ++ R)) :=
  ((List.perm_middle).trans ((List.perm_middle).cons y)).cons x
def PlM (b : Nat) (s : Sc) (A : Option Addr) (cb : Nat) (E : Option Addr) (ce : Nat) (X : Value) (p : Pz) (Ms : List Hp) : Prop :=
  ∃ Mv Mt Av cv At ct vr, Ms = PH b s A cb E ce X p.done p.now (.slice Av (List.length vr) cv) (.slice At (List.length vr) ct) p.begun :: Mv :: Mt :: List.flatMap VR.hps vr ∧ List.map VR.v vr = p.voices ∧ (∀ r ∈ vr, VR.ok r) ∧
    Own Mv 63 4 (.slice Av (List.length vr) cv) (List.length vr) (List.flatMap VR.cells vr) ∧ Own Mt 3 1 (.slice At (List.length vr) ct) (List.length vr) (List.flatMap VR.trk vr)
/-- what the voices must be -/
structure Pok (s : Sc) (p : Pz) : Prop where
  most : p.voices.length ≤ 8
  begun : p.begun ≤ 1000
  done : p.done ≤ 1000
  now : p.now ≤ 3000
  modes : ∀ v ∈ p.voices, v.modes.length ≤ 16 ∧ ∀ m ∈ v.modes, Gm m
section
variable {s : Sc} {A : Option Addr} {cb : Nat} {E : Option Addr} {ce : Nat} {X : Value} {p : Pz} {Ms : List Hp} {vs : List Value} {e : Ev} {len : Int}
abbrev B2 (e : Ev) : Nat × Nat × List SV := (2, 31, [.v (.int .i64 e.at_), .v (.int .i64 e.kind), .v (.int .i64 e.body), .v (.int .i64 e.shape), .v (.int .i64 e.count), .v (.float .f32 e.force)])
abbrev B1 : Nat × Nat × List SV := (1, 51, [.p 0 0])
theorem rep_c0 (n : Nat) : ((List.replicate n (Value.cells (.complex .f32 0 0)).toList).flatten).take (n * 1) = (List.replicate n ((0, 0) : Cx)).map cV := by
  have e1 : (Value.cells (.complex .f32 0 0)).toList = [cV (0, 0)] := rfl
  have e2 : ∀ m : Nat, (List.replicate m [cV (0, 0)]).flatten = (List.replicate m ((0, 0) : Cx)).map cV := by
    intro m
    induction m with
    | zero => rfl
    | succ m ih => rw [List.replicate_succ, List.flatten_cons, ih]; rfl
  rw [e1, e2, List.take_of_length_le (by simp)]
def shapeN (kind : Int) (n : Nat) : List Nat := (List.range n).map fun j => shapeW kind n j
theorem shapeRow_full (kind : Int) (n : Nat) : shapeRow kind n n = (shapeN kind n).map fV := by
  unfold shapeRow shapeN
  rw [List.map_map]
  refine List.map_congr_left fun j hj => ?_
  rw [List.mem_range] at hj
  simp [fV, hj]
theorem shapeL_eq (e : Ev) : shapeL e = (shapeN e.shape e.count.toNat).map (fop .mul .f32 · e.force) := by
  unfold shapeL shapeN
  rw [List.map_map]
  rfl
abbrev L49 (e : Ev) : EL := [(2, .p 1 0), (3, .p 2 0)]
/-- a strike, behind the removal -/
def J49 (u : World) (L : List Hp) (b : Nat) (s : Sc) (A : Option Addr) (cb : Nat) (E : Option Addr) (ce : Nat) (X : Value) (p : Pz) (e : Ev) (vr : List VR) (a : Act) (w : World) : Prop :=
  ∃ β Mv Mt Av cv At ct, [b] <+: β ∧ β.length = 3 ∧ Own Mv 63 4 (.slice Av (List.length vr) cv) (List.length vr) (List.flatMap VR.cells vr) ∧ Own Mt 3 1 (.slice At (List.length vr) ct) (List.length vr) (List.flatMap VR.trk vr) ∧
    St β u w a 129 [(2, .p 1 0), (3, .p 2 0)] [B2 e, B1, (0, 59, PB s A cb E ce X p.done p.now (.slice Av (List.length vr) cv) (.slice At (List.length vr) ct) p.begun)] (Mv :: Mt :: (List.flatMap VR.hps vr ++ L))
theorem c49s (H : SH u w (Ms ++ L)) (hP : PlM b s A cb E ce X p Ms) (hp : Pok s p) (he : EvOk len s.bodies.length e) (hk : e.kind = 1) (hA : All2 (RBod L) vs s.bodies) (hRA : Rows L A s.bodies.length 1 vs) (hb : ∀ b ∈ s.bodies, b.length ≤ 16 ∧ ∀ m ∈ b, Md.ok m) (hnb : s.bodies.length ≤ 100) (hvo : 1 ≤ s.voices ∧ s.voices ≤ 8) :
    Ret Try.prog 49 [.pointer (some ⟨b, 0, none⟩), .agg e.cells.toArray] w fun v w' => ∃ Ms', PlM b s A cb E ce X (happen s e p) Ms' ∧ SH u w' (Ms' ++ L) := by
  obtain ⟨Mv, Mt, Av, cv, At, ct, vr, rfl, hvr, hok, hO1, hO2⟩ := hP
  have hlv : vr.length = p.voices.length := by rw [← hvr, List.length_map]
  have hmost := hp.most
  refine entB Try.func49 rfl [b] [(0, 59, PB s A cb E ce X p.done p.now (.slice Av vr.length cv) (.slice At vr.length ct) p.begun)] (xs := [.p 0 0, .v (.agg e.cells.toArray)]) (tl := Mv :: Mt :: (vr.flatMap VR.hps ++ L)) H 129 rfl [(0, .p 0 0), (1, .v (.agg e.cells.toArray))] rfl rfl (by simp [SV.wfs, SV.wf]) (by simp [SV.wfs, SV.wf]) fun a S => ?_
  refine xr hT S rfl true [.b true] 200 rfl (by (repeat' apply And.intro); all_goals first | exact True.intro | with_reducible assumption | decide +kernel | with_reducible exact Option.isSome_some | omega | with_reducible exact decide_eq_true (by omega) | with_reducible exact decide_eq_false (by omega) | with_reducible exact beq_iff_eq.2 (by omega) | with_reducible exact beq_eq_false_iff_ne.2 (by omega) | with_reducible exact bne_iff_ne.2 (by omega) | with_reducible exact bne_eq_false_iff_eq.2 (by omega) | skip) fun β a w hβ hl S => ?_
  have wb0 := S.wb
  refine xcut (J49 u L b s A cb E ce X p e (if s.voices ≤ (vr.length : Int) then vr.drop 1 else vr)) ?_ fun a w ⟨β, Mv, Mt, Av, cv, At, ct, hβ, hl, hO1, hO2, S⟩ => ?_
  · by_cases hfull : s.voices ≤ (vr.length : Int)
    · rw [if_pos hfull]
      refine xr hT S hl true [.b true] 200 rfl (by (repeat' apply And.intro); all_goals first | exact True.intro | with_reducible assumption | decide +kernel | with_reducible exact Option.isSome_some | omega | with_reducible exact decide_eq_true (by omega) | with_reducible exact decide_eq_false (by omega) | with_reducible exact beq_iff_eq.2 (by omega) | with_reducible exact beq_eq_false_iff_ne.2 (by omega) | with_reducible exact bne_iff_ne.2 (by omega) | with_reducible exact bne_eq_false_iff_eq.2 (by omega) | skip) fun β2 a w hβ2 hl S => ?_
      have S := S.upb 2 rfl rfl
      have H := S.sh
      have H : SH u w (PH (β2.getD 0 0) s A cb E ce X p.done p.now (.slice Av vr.length cv) (.slice At vr.length ct) p.begun :: (bhs β2 [B2 e, B1] ++ (Mv :: Mt :: (vr.flatMap VR.hps ++ L)))) := H
      have hcall := c71 (cap := []) (f := 72) (p := fun i => i == 0) (H.perm (perm_out _ _ _ _ _)) rfl (by omega) (hO1.rows List.mem_cons_self) (hO2.rows List.mem_cons_self) en72 (fun i hi H hs => c72 H)
      refine xc S rfl rfl rfl rfl rfl en71 hcall fun v w ⟨Mv, Mt, A1, c1, A2, c2, hO1, hO2, H⟩ => ?_
      rw [keepI_drop1] at hO1 hO2 H
      have S := S.rebox2 (d := some 26) (v := v) (cs' := PB s A cb E ce X p.done p.now (.slice A1 (vr.drop 1).length c1) (.slice A2 (vr.drop 1).length c2) p.begun) (tl' := Mv :: Mt :: (vr.flatMap VR.hps ++ L)) (H.perm (perm_out _ _ _ _ _).symm) rfl (by simp [SV.wfs, SV.wf])
      have S := S.sub (tl' := Mv :: Mt :: ((vr.drop 1).flatMap VR.hps ++ L)) (by
        refine List.Sublist.cons_cons _ (List.Sublist.cons_cons _ (List.Sublist.append ?_ (List.Sublist.refl _)))
        cases vr with
        | nil => exact List.Sublist.refl _
        | cons x r => exact List.sublist_append_right _ _)
      have S := S.permb (bx' := [B2 e, B1, (0, 59, PB s A cb E ce X p.done p.now (.slice A1 (vr.drop 1).length c1) (.slice A2 (vr.drop 1).length c2) p.begun)]) (((List.Perm.swap _ _ _).trans ((List.Perm.swap _ _ _).cons _)))
      refine xr hT S hl true [] 200 rfl (by (repeat' apply And.intro); all_goals first | exact True.intro | with_reducible assumption | decide +kernel | with_reducible exact Option.isSome_some | omega | with_reducible exact decide_eq_true (by omega) | with_reducible exact decide_eq_false (by omega) | with_reducible exact beq_iff_eq.2 (by omega) | with_reducible exact beq_eq_false_iff_ne.2 (by omega) | with_reducible exact bne_iff_ne.2 (by omega) | with_reducible exact bne_eq_false_iff_eq.2 (by omega) | skip) fun β3 a w hβ3 hl S => ?_
      exact xj ⟨β3, Mv, Mt, A1, c1, A2, c2, (hβ.trans hβ2).trans hβ3, hl, hO1, hO2, S.keep [2, 3] rfl⟩
    · rw [if_neg hfull]
      refine xr hT S hl true [.b false] 200 rfl (by (repeat' apply And.intro); all_goals first | exact True.intro | with_reducible assumption | decide +kernel | with_reducible exact Option.isSome_some | omega | with_reducible exact decide_eq_true (by omega) | with_reducible exact decide_eq_false (by omega) | with_reducible exact beq_iff_eq.2 (by omega) | with_reducible exact beq_eq_false_iff_ne.2 (by omega) | with_reducible exact bne_iff_ne.2 (by omega) | with_reducible exact bne_eq_false_iff_eq.2 (by omega) | skip) fun β3 a w hβ3 hl S => ?_
      exact xj ⟨β3, Mv, Mt, Av, cv, At, ct, hβ.trans hβ3, hl, hO1, hO2, S.keep [2, 3] rfl⟩
  have hsub : ∀ r ∈ (if s.voices ≤ (vr.length : Int) then vr.drop 1 else vr), VR.ok r := by
    intro r hr
    refine hok r ?_
    split at hr
    · exact List.mem_of_mem_drop hr
    · exact hr
  have hmap : (if s.voices ≤ (vr.length : Int) then vr.drop 1 else vr).map VR.v = (if s.voices ≤ (p.voices.length : Int) then p.voices.drop 1 else p.voices) := by
    rw [← hlv]
    split
    · rw [List.map_drop, hvr]
    · exact hvr
  have hle : (if s.voices ≤ (vr.length : Int) then vr.drop 1 else vr).length ≤ 8 := by
    split
    · rw [List.length_drop]; omega
    · omega
  generalize (if s.voices ≤ (vr.length : Int) then vr.drop 1 else vr) = vq at hsub hmap hle hO1 hO2 S
  obtain ⟨_, ⟨b0, b1⟩, hkk⟩ := he
  obtain ⟨⟨sh0, sh1⟩, ⟨ct0, ct1⟩, hfo⟩ : (0 ≤ e.shape ∧ e.shape ≤ 2) ∧ (1 ≤ e.count ∧ e.count ≤ 9) ∧ Mf .f32 20 e.force := by
    rcases hkk with ⟨_, h1, h2, h3⟩ | ⟨h, _⟩ | ⟨h, _⟩
    · exact ⟨h1, h2, h3⟩
    · omega
    · omega
  have hcn : ((e.count.toNat : Nat) : Int) = e.count := Int.toNat_of_nonneg (by omega)
  have hjb : e.body.toNat < s.bodies.length := by omega
  obtain ⟨bv, hbv, A2, c2, rfl, hR2⟩ := hA.at_ hjb
  have hms := hb _ (List.getElem_mem hjb)
  have hgd : s.bodies.getD e.body.toNat [] = s.bodies[e.body.toNat] := by rw [List.getD_eq_getElem?_getD, List.getElem?_eq_getElem hjb]; rfl
  generalize hmd : s.bodies[e.body.toNat] = ms at hbv hR2 hms hgd
  obtain ⟨ad, rfl⟩ := hRA.2.1 (by omega)
  have hbeg := hp.begun
  refine xr hT S hl true [] 200 rfl (by (repeat' apply And.intro); all_goals first | exact True.intro | with_reducible assumption | decide +kernel | with_reducible exact Option.isSome_some | omega | with_reducible exact decide_eq_true (by omega) | with_reducible exact decide_eq_false (by omega) | with_reducible exact beq_iff_eq.2 (by omega) | with_reducible exact beq_eq_false_iff_ne.2 (by omega) | with_reducible exact bne_iff_ne.2 (by omega) | with_reducible exact bne_eq_false_iff_eq.2 (by omega) | skip) fun β1 a w hβ1 hl S => ?_
  have h67 := c67 (kind := e.shape) (n := e.count.toNat) S.sh sh0 sh1 (by omega) (by omega)
  rw [hcn] at h67
  refine xc S rfl rfl rfl rfl rfl en67 h67 fun v w ⟨Mr, g, c, hv, hOr, H⟩ => ?_
  have S := S.retd (New := [Mr]) 32 v H rfl
  subst hv
  refine xr hT S hl true [] 200 rfl (by (repeat' apply And.intro); all_goals first | exact True.intro | with_reducible assumption | decide +kernel | with_reducible exact Option.isSome_some | omega | with_reducible exact decide_eq_true (by omega) | with_reducible exact decide_eq_false (by omega) | with_reducible exact beq_iff_eq.2 (by omega) | with_reducible exact beq_eq_false_iff_ne.2 (by omega) | with_reducible exact bne_iff_ne.2 (by omega) | with_reducible exact bne_eq_false_iff_eq.2 (by omega) | skip) fun β2 a w hβ2 hl S => ?_
  refine xdr hT S (n0 := 10) (by decide +kernel) fun E0 => ?_
  refine xqr hT S true [.v [.slice A2 ms.length c2]] E0 rfl ?_ fun a E0 => ?_
  · (repeat' apply And.intro); all_goals first | exact True.intro | with_reducible assumption | decide +kernel | with_reducible exact Option.isSome_some | omega | with_reducible exact decide_eq_true (by omega) | with_reducible exact decide_eq_false (by omega) | with_reducible exact beq_iff_eq.2 (by omega) | with_reducible exact beq_eq_false_iff_ne.2 (by omega) | with_reducible exact bne_iff_ne.2 (by omega) | with_reducible exact bne_eq_false_iff_eq.2 (by omega) | skip
    all_goals (refine RdV.mono (L := L) ?_ (fun m hm => by simp [hm]); exact RdV.one' ((hRA.2.2 ad rfl) _ _ hbv) (by show (ad.add (e.body.toNat * 1)).add 0 = _; simp [Addr.add]))
  refine wpQuiet_nil fun w H => ?_
  have S : St _ _ _ _ _ _ _ _ := ⟨E0, H, S.wb⟩
  refine xc S rfl rfl rfl rfl rfl en73 (c73 S.sh (by omega) (hR2.mono (fun m hm => by simp [hm])) rfl) fun v w ⟨Mm, hOm, H⟩ => ?_
  have S := S.retd (New := [Mm]) 45 v H rfl
  obtain ⟨A3, c3, rfl, _⟩ := hOm.form
  refine xr hT S hl true [] 200 rfl (by (repeat' apply And.intro); all_goals first | exact True.intro | with_reducible assumption | decide +kernel | with_reducible exact Option.isSome_some | omega | with_reducible exact decide_eq_true (by omega) | with_reducible exact decide_eq_false (by omega) | with_reducible exact beq_iff_eq.2 (by omega) | with_reducible exact beq_eq_false_iff_ne.2 (by omega) | with_reducible exact bne_iff_ne.2 (by omega) | with_reducible exact bne_eq_false_iff_eq.2 (by omega) | skip) fun β3 a w hβ3 hl S => ?_
  have wb := S.wb
  refine xhs hT [0, 1, 2, 3, 4, 5, 6, 7, 8, 9, 11, 12, 13] (pre := []) _ [] rfl (List.append_nil _).symm S (by decide +kernel) rfl true [] rfl (by (repeat' apply And.intro); all_goals first | exact True.intro | with_reducible assumption | decide +kernel | with_reducible exact Option.isSome_some | omega | with_reducible exact decide_eq_true (by omega) | with_reducible exact decide_eq_false (by omega) | with_reducible exact beq_iff_eq.2 (by omega) | with_reducible exact beq_eq_false_iff_ne.2 (by omega) | with_reducible exact bne_iff_ne.2 (by omega) | with_reducible exact bne_eq_false_iff_eq.2 (by omega) | skip) fun a w S => ?_
  have hOr' : Own Mr 23 1 (.slice (some ⟨g, 0, none⟩) e.count.toNat c) e.count.toNat ((shapeN e.shape e.count.toNat).map fV) := shapeRow_full _ _ ▸ hOr
  have hmul : ∀ x ∈ shapeN e.shape e.count.toNat, (floatBits .mul .f32 x e.force).isSome = true := by
    intro x hx
    obtain ⟨j, hj, rfl⟩ := List.mem_map.1 hx
    obtain ⟨r, h1, _⟩ := (shape_mf (kind := e.shape) (n := e.count.toNat) (i := j) (by omega) (by simpa using hj)).mul hfo (by decide)
    rw [h1]
    rfl
  have hsl : (shapeL e).length = e.count.toNat := by simp [shapeL]
  have hnv : newVc s e p.begun = ⟨e.body, ms, List.replicate ms.length (0, 0), shapeL e, p.begun⟩ := by unfold newVc; rw [hgd]
  have ebg : (p.begun : Int) + 1 = ((p.begun + 1 : Nat) : Int) := by omega
  have hpe : happen s e p = { p with voices := vq.map VR.v ++ [⟨e.body, ms, List.replicate ms.length (0, 0), shapeL e, p.begun⟩], begun := p.begun + 1 } := by
    unfold happen
    rw [if_pos hk, ← hmap, hnv]
  rw [hpe]
  refine xt2 10 14 (by decide +kernel) (by decide +kernel) (by decide +kernel) rfl rfl ?_ ?_
  · refine xmake hT S rfl rfl rfl rfl rfl rfl rfl rfl (n0 := ms.length) (m := ms.length) rfl rfl (Nat.le_refl _) (by show ms.length * 8 ≤ _; omega) (by decide) fun v' Hs a w hOs S => ?_
    obtain ⟨As, cs, rfl, _⟩ := hOs.form
    refine xr hT S hl true [] 200 rfl (by (repeat' apply And.intro); all_goals first | exact True.intro | with_reducible assumption | decide +kernel | with_reducible exact Option.isSome_some | omega | with_reducible exact decide_eq_true (by omega) | with_reducible exact decide_eq_false (by omega) | with_reducible exact beq_iff_eq.2 (by omega) | with_reducible exact beq_eq_false_iff_ne.2 (by omega) | with_reducible exact bne_iff_ne.2 (by omega) | with_reducible exact bne_eq_false_iff_eq.2 (by omega) | skip) fun β4 a w hβ4 hl S => ?_
    refine xah S hβ4 wb (pre := []) rfl (List.append_nil _).symm ?_
    refine xj ?_
    refine xt1 14 (by decide +kernel) (by decide +kernel) rfl ?_
    refine xc S rfl rfl rfl rfl rfl en74 (c74 S.sh (hOr'.rows (by simp)) (by omega) hmul) fun v w ⟨Hi, Ai, ci, hv, hOi, H⟩ => ?_
    have S := S.retd (New := [Hi]) 60 v H rfl
    subst hv
    refine xr hT S hl true [] 200 rfl (by (repeat' apply And.intro); all_goals first | exact True.intro | with_reducible assumption | decide +kernel | with_reducible exact Option.isSome_some | omega | with_reducible exact decide_eq_true (by omega) | with_reducible exact decide_eq_false (by omega) | with_reducible exact beq_iff_eq.2 (by omega) | with_reducible exact beq_eq_false_iff_ne.2 (by omega) | with_reducible exact bne_iff_ne.2 (by omega) | with_reducible exact bne_eq_false_iff_eq.2 (by omega) | skip) fun β5 a w hβ5 hl S => ?_
    refine xah S (hβ4.trans hβ5) wb (pre := []) rfl (List.append_nil _).symm ?_
    refine xj ?_
    refine xt1 15 (by decide +kernel) (by decide +kernel) rfl ?_
    refine xr hT S hl true [] 200 rfl (by (repeat' apply And.intro); all_goals first | exact True.intro | with_reducible assumption | decide +kernel | with_reducible exact Option.isSome_some | omega | with_reducible exact decide_eq_true (by omega) | with_reducible exact decide_eq_false (by omega) | with_reducible exact beq_iff_eq.2 (by omega) | with_reducible exact beq_eq_false_iff_ne.2 (by omega) | with_reducible exact bne_iff_ne.2 (by omega) | with_reducible exact bne_eq_false_iff_eq.2 (by omega) | skip) fun β6 a w hβ6 hl S => ?_
    refine xah S (((hβ4).trans hβ5).trans hβ6) wb (pre := []) rfl (List.append_nil _).symm ?_
    refine xj ?_
    refine xt1 16 (by decide +kernel) (by decide +kernel) rfl ?_
    refine xr hT S hl true [] 200 rfl (by (repeat' apply And.intro); all_goals first | exact True.intro | with_reducible assumption | decide +kernel | with_reducible exact Option.isSome_some | omega | with_reducible exact decide_eq_true (by omega) | with_reducible exact decide_eq_false (by omega) | with_reducible exact beq_iff_eq.2 (by omega) | with_reducible exact beq_eq_false_iff_ne.2 (by omega) | with_reducible exact bne_iff_ne.2 (by omega) | with_reducible exact bne_eq_false_iff_eq.2 (by omega) | skip) fun β7 a w hβ7 hl S => ?_
    refine xah S ((((hβ4).trans hβ5).trans hβ6).trans hβ7) wb (pre := [_]) rfl (List.append_nil _).symm ?_
    refine xj ?_
    have S := S.up 4 rfl rfl
    refine xt1 17 (by decide +kernel) (by decide +kernel) rfl ?_
    refine xapp hT S rfl rfl rfl rfl rfl rfl rfl rfl hO1 rfl rfl (news := [.int .i64 e.body, .slice A3 ms.length c3, .slice As ms.length cs, .slice Ai e.count.toNat ci]) (S.boxCells (i := 3) (t := 63) (cs := [.v (.int .i64 e.body), .v (.slice A3 ms.length c3), .v (.slice As ms.length cs), .v (.slice Ai e.count.toNat ci)]) rfl) rfl (by simp [Value.oneCell']) (by show (vq.length + 1) * 80 ≤ _; omega) (by simp only [maxLen]; omega) fun v' Mv a w hO1 S => ?_
    obtain ⟨Av, cv, rfl, _⟩ := hO1.form
    refine xr hT S hl true [] 200 rfl (by (repeat' apply And.intro); all_goals first | exact True.intro | with_reducible assumption | decide +kernel | with_reducible exact Option.isSome_some | omega | with_reducible exact decide_eq_true (by omega) | with_reducible exact decide_eq_false (by omega) | with_reducible exact beq_iff_eq.2 (by omega) | with_reducible exact beq_eq_false_iff_ne.2 (by omega) | with_reducible exact bne_iff_ne.2 (by omega) | with_reducible exact bne_eq_false_iff_eq.2 (by omega) | skip) fun β8 a w hβ8 hl S => ?_
    refine xah S (((((hβ4).trans hβ5).trans hβ6).trans hβ7).trans hβ8) wb (pre := [_]) rfl (List.append_nil _).symm ?_
    refine xj ?_
    refine xt 18 _ rfl rfl (by decide +kernel) ?_
    refine xr hT S hl true [] 200 rfl (by (repeat' apply And.intro); all_goals first | exact True.intro | with_reducible assumption | decide +kernel | with_reducible exact Option.isSome_some | omega | with_reducible exact decide_eq_true (by omega) | with_reducible exact decide_eq_false (by omega) | with_reducible exact beq_iff_eq.2 (by omega) | with_reducible exact beq_eq_false_iff_ne.2 (by omega) | with_reducible exact bne_iff_ne.2 (by omega) | with_reducible exact bne_eq_false_iff_eq.2 (by omega) | skip) fun β9 a w hβ9 hl S => ?_
    have wb2 := S.wb
    refine xhs hT [0, 1, 2, 3, 4, 5, 6, 7, 8] (pre := []) _ [] rfl (List.append_nil _).symm S (by decide +kernel) rfl true [] rfl (by (repeat' apply And.intro); all_goals first | exact True.intro | with_reducible assumption | decide +kernel | with_reducible exact Option.isSome_some | omega | with_reducible exact decide_eq_true (by omega) | with_reducible exact decide_eq_false (by omega) | with_reducible exact beq_iff_eq.2 (by omega) | with_reducible exact beq_eq_false_iff_ne.2 (by omega) | with_reducible exact bne_iff_ne.2 (by omega) | with_reducible exact bne_eq_false_iff_eq.2 (by omega) | skip) fun a w S => ?_
    refine xt1 9 (by decide +kernel) (by decide +kernel) rfl ?_
    refine xr hT S hl true [] 200 rfl (by (repeat' apply And.intro); all_goals first | exact True.intro | with_reducible assumption | decide +kernel | with_reducible exact Option.isSome_some | omega | with_reducible exact decide_eq_true (by omega) | with_reducible exact decide_eq_false (by omega) | with_reducible exact beq_iff_eq.2 (by omega) | with_reducible exact beq_eq_false_iff_ne.2 (by omega) | with_reducible exact bne_iff_ne.2 (by omega) | with_reducible exact bne_eq_false_iff_eq.2 (by omega) | skip) fun β10 a w hβ10 hl S => ?_
    refine xah S hβ10 wb2 (pre := [_]) rfl (List.append_nil _).symm ?_
    refine xj ?_
    have S := S.up 5 rfl rfl
    refine xt1 10 (by decide +kernel) (by decide +kernel) rfl ?_
    refine xapp hT S rfl rfl rfl rfl rfl rfl rfl rfl hO2 rfl rfl (news := [.int .i64 (p.begun : Int)]) (S.boxCells (i := 4) (t := 3) (cs := [.v (.int .i64 (p.begun : Int))]) rfl) rfl (by simp [Value.oneCell']) (by show (vq.length + 1) * 8 ≤ _; omega) (by simp only [maxLen]; omega) fun v' Mt a w hO2 S => ?_
    obtain ⟨At, ct, rfl, _⟩ := hO2.form
    refine xr hT S hl true [] 200 rfl (by (repeat' apply And.intro); all_goals first | exact True.intro | with_reducible assumption | decide +kernel | with_reducible exact Option.isSome_some | omega | with_reducible exact decide_eq_true (by omega) | with_reducible exact decide_eq_false (by omega) | with_reducible exact beq_iff_eq.2 (by omega) | with_reducible exact beq_eq_false_iff_ne.2 (by omega) | with_reducible exact bne_iff_ne.2 (by omega) | with_reducible exact bne_eq_false_iff_eq.2 (by omega) | skip) fun β11 a w hβ11 hl S => ?_
    refine xah S (hβ10.trans hβ11) wb2 (pre := [_]) rfl (List.append_nil _).symm ?_
    refine xj ?_
    refine xt 11 _ rfl rfl (by decide +kernel) ?_
    refine xr hT S hl true [] 200 rfl (by (repeat' apply And.intro); all_goals first | exact True.intro | with_reducible assumption | decide +kernel | with_reducible exact Option.isSome_some | omega | with_reducible exact decide_eq_true (by omega) | with_reducible exact decide_eq_false (by omega) | with_reducible exact beq_iff_eq.2 (by omega) | with_reducible exact beq_eq_false_iff_ne.2 (by omega) | with_reducible exact bne_iff_ne.2 (by omega) | with_reducible exact bne_eq_false_iff_eq.2 (by omega) | skip) fun β12 a w hβ12 hl S => ?_
    rw [ebg] at S
    have eb : β12.getD 0 0 = b := pre_getD ((((((((((((hβ.trans hβ1).trans hβ2).trans hβ3).trans hβ4).trans hβ5).trans hβ6).trans hβ7).trans hβ8).trans hβ9).trans hβ10).trans hβ11).trans hβ12) (by simp)
    have H := S.sh
    have el : (vq ++ [(⟨A3, c3, As, cs, Ai, ci, Mm, Hs, Hi, ⟨e.body, ms, List.replicate ms.length (0, 0), shapeL e, p.begun⟩⟩ : VR)]).length = vq.length + 1 := by simp
    refine xend hT S rfl ⟨_, rfl, _, ⟨Mv, Mt, Av, cv, At, ct, vq ++ [⟨A3, c3, As, cs, Ai, ci, Mm, Hs, Hi, ⟨e.body, ms, List.replicate ms.length (0, 0), shapeL e, p.begun⟩⟩], rfl, by simp, ?_, ?_, ?_⟩, ?_⟩
    · intro r hr
      rcases List.mem_append.1 hr with hr | hr
      · exact hsub r hr
      · rw [List.mem_singleton.1 hr]
        refine ⟨hOm, ?_, ?_, by simp, by show (shapeL e).length ≤ ci; rw [hsl]; exact hOi.cap⟩
        · have := rep_c0 ms.length
          rw [← this]
          simp only [List.length_replicate]
          exact hOs
        · show Rows [Hi] Ai (shapeL e).length 1 ((shapeL e).map fV)
          rw [hsl, shapeL_eq]
          exact hOi.rows List.mem_cons_self
    · rw [el, List.flatMap_append]
      simp only [List.flatMap_cons, List.flatMap_nil, List.append_nil, VR.cells, List.length_replicate, hsl]
      exact hO1
    · rw [el, List.flatMap_append]
      exact hO2
    · rw [el]
      have H2 := H.sub (L' := PH (β12.getD 0 0) s (some ad) cb E ce X p.done p.now (.slice Av (vq.length + 1) cv) (.slice At (vq.length + 1) ct) (p.begun + 1) :: Mt :: Mv :: Hi :: Hs :: Mm :: (vq.flatMap VR.hps ++ L)) ((((((((((((List.Sublist.refl _).cons Mr).cons_cons _).cons_cons _).cons_cons _).cons_cons _).cons_cons _).cons_cons _).cons _).cons _).cons _).cons _)
      rw [eb] at H2
      refine H2.perm ?_
      rw [List.flatMap_append, List.cons_append, List.cons_append, List.cons_append, List.append_assoc]
      refine List.Perm.cons _ ((List.Perm.swap _ _ _).trans (List.Perm.cons _ (List.Perm.cons _ ?_)))
      show ([Hi, Hs, Mm] ++ (vq.flatMap VR.hps ++ L)).Perm (vq.flatMap VR.hps ++ ([Mm, Hs, Hi] ++ L))
      refine List.perm_append_comm_assoc _ _ _ |>.trans (List.Perm.append_left _ (List.Perm.append_right _ ?_))
      exact (List.Perm.swap _ _ _).trans (((List.Perm.swap _ _ _).cons _).trans (List.Perm.swap _ _ _)) |>.trans (by exact List.Perm.refl _)
  · refine xc S rfl rfl rfl rfl rfl en74 (c74 S.sh (hOr'.rows (by simp)) (by omega) hmul) fun v w ⟨Hi, Ai, ci, hv, hOi, H⟩ => ?_
    have S := S.retd (New := [Hi]) 60 v H rfl
    subst hv
    refine xr hT S hl true [] 200 rfl (by (repeat' apply And.intro); all_goals first | exact True.intro | with_reducible assumption | decide +kernel | with_reducible exact Option.isSome_some | omega | with_reducible exact decide_eq_true (by omega) | with_reducible exact decide_eq_false (by omega) | with_reducible exact beq_iff_eq.2 (by omega) | with_reducible exact beq_eq_false_iff_ne.2 (by omega) | with_reducible exact bne_iff_ne.2 (by omega) | with_reducible exact bne_eq_false_iff_eq.2 (by omega) | skip) fun β4 a w hβ4 hl S => ?_
    refine xah S hβ4 wb (pre := []) rfl (List.append_nil _).symm ?_
    refine xj ?_
    refine xt1 10 (by decide +kernel) (by decide +kernel) rfl ?_
    refine xmake hT S rfl rfl rfl rfl rfl rfl rfl rfl (n0 := ms.length) (m := ms.length) rfl rfl (Nat.le_refl _) (by show ms.length * 8 ≤ _; omega) (by decide) fun v' Hs a w hOs S => ?_
    obtain ⟨As, cs, rfl, _⟩ := hOs.form
    refine xr hT S hl true [] 200 rfl (by (repeat' apply And.intro); all_goals first | exact True.intro | with_reducible assumption | decide +kernel | with_reducible exact Option.isSome_some | omega | with_reducible exact decide_eq_true (by omega) | with_reducible exact decide_eq_false (by omega) | with_reducible exact beq_iff_eq.2 (by omega) | with_reducible exact beq_eq_false_iff_ne.2 (by omega) | with_reducible exact bne_iff_ne.2 (by omega) | with_reducible exact bne_eq_false_iff_eq.2 (by omega) | skip) fun β5 a w hβ5 hl S => ?_
    refine xah S (hβ4.trans hβ5) wb (pre := []) rfl (List.append_nil _).symm ?_
    refine xj ?_
    refine xt1 15 (by decide +kernel) (by decide +kernel) rfl ?_
    refine xr hT S hl true [] 200 rfl (by (repeat' apply And.intro); all_goals first | exact True.intro | with_reducible assumption | decide +kernel | with_reducible exact Option.isSome_some | omega | with_reducible exact decide_eq_true (by omega) | with_reducible exact decide_eq_false (by omega) | with_reducible exact beq_iff_eq.2 (by omega) | with_reducible exact beq_eq_false_iff_ne.2 (by omega) | with_reducible exact bne_iff_ne.2 (by omega) | with_reducible exact bne_eq_false_iff_eq.2 (by omega) | skip) fun β6 a w hβ6 hl S => ?_
    refine xah S (((hβ4).trans hβ5).trans hβ6) wb (pre := []) rfl (List.append_nil _).symm ?_
    refine xj ?_
    refine xt1 16 (by decide +kernel) (by decide +kernel) rfl ?_
    refine xr hT S hl true [] 200 rfl (by (repeat' apply And.intro); all_goals first | exact True.intro | with_reducible assumption | decide +kernel | with_reducible exact Option.isSome_some | omega | with_reducible exact decide_eq_true (by omega) | with_reducible exact decide_eq_false (by omega) | with_reducible exact beq_iff_eq.2 (by omega) | with_reducible exact beq_eq_false_iff_ne.2 (by omega) | with_reducible exact bne_iff_ne.2 (by omega) | with_reducible exact bne_eq_false_iff_eq.2 (by omega) | skip) fun β7 a w hβ7 hl S => ?_
    refine xah S ((((hβ4).trans hβ5).trans hβ6).trans hβ7) wb (pre := [_]) rfl (List.append_nil _).symm ?_
    refine xj ?_
    have S := S.up 4 rfl rfl
    refine xt1 17 (by decide +kernel) (by decide +kernel) rfl ?_
    refine xapp hT S rfl rfl rfl rfl rfl rfl rfl rfl hO1 rfl rfl (news := [.int .i64 e.body, .slice A3 ms.length c3, .slice As ms.length cs, .slice Ai e.count.toNat ci]) (S.boxCells (i := 3) (t := 63) (cs := [.v (.int .i64 e.body), .v (.slice A3 ms.length c3), .v (.slice As ms.length cs), .v (.slice Ai e.count.toNat ci)]) rfl) rfl (by simp [Value.oneCell']) (by show (vq.length + 1) * 80 ≤ _; omega) (by simp only [maxLen]; omega) fun v' Mv a w hO1 S => ?_
    obtain ⟨Av, cv, rfl, _⟩ := hO1.form
    refine xr hT S hl true [] 200 rfl (by (repeat' apply And.intro); all_goals first | exact True.intro | with_reducible assumption | decide +kernel | with_reducible exact Option.isSome_some | omega | with_reducible exact decide_eq_true (by omega) | with_reducible exact decide_eq_false (by omega) | with_reducible exact beq_iff_eq.2 (by omega) | with_reducible exact beq_eq_false_iff_ne.2 (by omega) | with_reducible exact bne_iff_ne.2 (by omega) | with_reducible exact bne_eq_false_iff_eq.2 (by omega) | skip) fun β8 a w hβ8 hl S => ?_
    refine xah S (((((hβ4).trans hβ5).trans hβ6).trans hβ7).trans hβ8) wb (pre := [_]) rfl (List.append_nil _).symm ?_
    refine xj ?_
    refine xt 18 _ rfl rfl (by decide +kernel) ?_
    refine xr hT S hl true [] 200 rfl (by (repeat' apply And.intro); all_goals first | exact True.intro | with_reducible assumption | decide +kernel | with_reducible exact Option.isSome_some | omega | with_reducible exact decide_eq_true (by omega) | with_reducible exact decide_eq_false (by omega) | with_reducible exact beq_iff_eq.2 (by omega) | with_reducible exact beq_eq_false_iff_ne.2 (by omega) | with_reducible exact bne_iff_ne.2 (by omega) | with_reducible exact bne_eq_false_iff_eq.2 (by omega) | skip) fun β9 a w hβ9 hl S => ?_
    have wb2 := S.wb
    refine xhs hT [0, 1, 2, 3, 4, 5, 6, 7, 8] (pre := []) _ [] rfl (List.append_nil _).symm S (by decide +kernel) rfl true [] rfl (by (repeat' apply And.intro); all_goals first | exact True.intro | with_reducible assumption | decide +kernel | with_reducible exact Option.isSome_some | omega | with_reducible exact decide_eq_true (by omega) | with_reducible exact decide_eq_false (by omega) | with_reducible exact beq_iff_eq.2 (by omega) | with_reducible exact beq_eq_false_iff_ne.2 (by omega) | with_reducible exact bne_iff_ne.2 (by omega) | with_reducible exact bne_eq_false_iff_eq.2 (by omega) | skip) fun a w S => ?_
    refine xt1 9 (by decide +kernel) (by decide +kernel) rfl ?_
    refine xr hT S hl true [] 200 rfl (by (repeat' apply And.intro); all_goals first | exact True.intro | with_reducible assumption | decide +kernel | with_reducible exact Option.isSome_some | omega | with_reducible exact decide_eq_true (by omega) | with_reducible exact decide_eq_false (by omega) | with_reducible exact beq_iff_eq.2 (by omega) | with_reducible exact beq_eq_false_iff_ne.2 (by omega) | with_reducible exact bne_iff_ne.2 (by omega) | with_reducible exact bne_eq_false_iff_eq.2 (by omega) | skip) fun β10 a w hβ10 hl S => ?_
    refine xah S hβ10 wb2 (pre := [_]) rfl (List.append_nil _).symm ?_
    refine xj ?_
    have S := S.up 5 rfl rfl
    refine xt1 10 (by decide +kernel) (by decide +kernel) rfl ?_
    refine xapp hT S rfl rfl rfl rfl rfl rfl rfl rfl hO2 rfl rfl (news := [.int .i64 (p.begun : Int)]) (S.boxCells (i := 4) (t := 3) (cs := [.v (.int .i64 (p.begun : Int))]) rfl) rfl (by simp [Value.oneCell']) (by show (vq.length + 1) * 8 ≤ _; omega) (by simp only [maxLen]; omega) fun v' Mt a w hO2 S => ?_
    obtain ⟨At, ct, rfl, _⟩ := hO2.form
    refine xr hT S hl true [] 200 rfl (by (repeat' apply And.intro); all_goals first | exact True.intro | with_reducible assumption | decide +kernel | with_reducible exact Option.isSome_some | omega | with_reducible exact decide_eq_true (by omega) | with_reducible exact decide_eq_false (by omega) | with_reducible exact beq_iff_eq.2 (by omega) | with_reducible exact beq_eq_false_iff_ne.2 (by omega) | with_reducible exact bne_iff_ne.2 (by omega) | with_reducible exact bne_eq_false_iff_eq.2 (by omega) | skip) fun β11 a w hβ11 hl S => ?_
    refine xah S (hβ10.trans hβ11) wb2 (pre := [_]) rfl (List.append_nil _).symm ?_
    refine xj ?_
    refine xt 11 _ rfl rfl (by decide +kernel) ?_
    refine xr hT S hl true [] 200 rfl (by (repeat' apply And.intro); all_goals first | exact True.intro | with_reducible assumption | decide +kernel | with_reducible exact Option.isSome_some | omega | with_reducible exact decide_eq_true (by omega) | with_reducible exact decide_eq_false (by omega) | with_reducible exact beq_iff_eq.2 (by omega) | with_reducible exact beq_eq_false_iff_ne.2 (by omega) | with_reducible exact bne_iff_ne.2 (by omega) | with_reducible exact bne_eq_false_iff_eq.2 (by omega) | skip) fun β12 a w hβ12 hl S => ?_
    rw [ebg] at S
    have eb : β12.getD 0 0 = b := pre_getD ((((((((((((hβ.trans hβ1).trans hβ2).trans hβ3).trans hβ4).trans hβ5).trans hβ6).trans hβ7).trans hβ8).trans hβ9).trans hβ10).trans hβ11).trans hβ12) (by simp)
    have H := S.sh
    have el : (vq ++ [(⟨A3, c3, As, cs, Ai, ci, Mm, Hs, Hi, ⟨e.body, ms, List.replicate ms.length (0, 0), shapeL e, p.begun⟩⟩ : VR)]).length = vq.length + 1 := by simp
    refine xend hT S rfl ⟨_, rfl, _, ⟨Mv, Mt, Av, cv, At, ct, vq ++ [⟨A3, c3, As, cs, Ai, ci, Mm, Hs, Hi, ⟨e.body, ms, List.replicate ms.length (0, 0), shapeL e, p.begun⟩⟩], rfl, by simp, ?_, ?_, ?_⟩, ?_⟩
    · intro r hr
      rcases List.mem_append.1 hr with hr | hr
      · exact hsub r hr
      · rw [List.mem_singleton.1 hr]
        refine ⟨hOm, ?_, ?_, by simp, by show (shapeL e).length ≤ ci; rw [hsl]; exact hOi.cap⟩
        · have := rep_c0 ms.length
          rw [← this]
          simp only [List.length_replicate]
          exact hOs
        · show Rows [Hi] Ai (shapeL e).length 1 ((shapeL e).map fV)
          rw [hsl, shapeL_eq]
          exact hOi.rows List.mem_cons_self
    · rw [el, List.flatMap_append]
      simp only [List.flatMap_cons, List.flatMap_nil, List.append_nil, VR.cells, List.length_replicate, hsl]
      exact hO1
    · rw [el, List.flatMap_append]
      exact hO2
    · rw [el]
      have H2 := H.sub (L' := PH (β12.getD 0 0) s (some ad) cb E ce X p.done p.now (.slice Av (vq.length + 1) cv) (.slice At (vq.length + 1) ct) (p.begun + 1) :: Mt :: Mv :: Hs :: Hi :: Mm :: (vq.flatMap VR.hps ++ L)) ((((((((((((List.Sublist.refl _).cons Mr).cons_cons _).cons_cons _).cons_cons _).cons_cons _).cons_cons _).cons_cons _).cons _).cons _).cons _).cons _)
      rw [eb] at H2
      refine H2.perm ?_
      rw [List.flatMap_append, List.cons_append, List.cons_append, List.cons_append, List.append_assoc]
      refine List.Perm.cons _ ((List.Perm.swap _ _ _).trans (List.Perm.cons _ (List.Perm.cons _ ?_)))
      show ([Hs, Hi, Mm] ++ (vq.flatMap VR.hps ++ L)).Perm (vq.flatMap VR.hps ++ ([Mm, Hs, Hi] ++ L))
      refine List.perm_append_comm_assoc _ _ _ |>.trans (List.Perm.append_left _ (List.Perm.append_right _ ?_))
      exact (List.perm_append_comm (l₁ := [Hs, Hi]) (l₂ := [Mm]))
end
end Go.SX
