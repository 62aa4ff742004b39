import Derived.Test.YtipgdmaagiijmaaF12
set_option maxRecDepth 100000
set_option linter.unusedVariables false
set_option linter.unusedSectionVars false
namespace Go.SX
open Go.Proofs
variable {u w : World} {L B : List Hp} {b : Nat} {M : Hp}

theorem c40 {e : Ev} {len nb : Int} (H : SH u w L) (he : EvOk len nb e) (hl : len ≤ 2000) : Ret Try.prog 40 [.agg e.cells.toArray, .int .i64 nb] w (Pl u L fun v => v = .bool true) := by
  obtain ⟨⟨a1, a2⟩, ⟨b1, b2⟩, hk⟩ := he
  refine ent Try.func40 rfl H 73 rfl [(0, .v (.agg e.cells.toArray)), (1, .v (.int .i64 nb))] rfl rfl fun a S => ?_
  refine xr hT S rfl true [] 200 rfl (by (repeat' apply And.intro); all_goals first | exact True.intro | with_reducible assumption | decide +kernel | with_reducible exact Option.isSome_some | omega | with_reducible exact decide_eq_true (by omega) | with_reducible exact decide_eq_false (by omega) | with_reducible exact beq_iff_eq.2 (by omega) | with_reducible exact beq_eq_false_iff_ne.2 (by omega) | skip) fun β a w hβ hn S => ?_
  refine xP S rfl rfl rfl rfl rfl rfl en33 (fun H => c33 H a1 (by omega)) fun v a w hv S => ?_
  subst hv
  rcases hk with ⟨k1, ⟨s1, s2⟩, ⟨t1, t2⟩, hf⟩ | ⟨k1, s1, t1, hf⟩ | ⟨k1, s1, t1, hf⟩
  · obtain ⟨ct, hct⟩ := Int.eq_ofNat_of_zero_le (show 0 ≤ e.count by omega)
    obtain ⟨p1, p2⟩ := wd_spec hf.num hf.lt32
    by_cases hs0 : e.shape = 0
    · refine xr hT S hn true [.b false, .b false, .b false, .b true, .b true] 200 rfl (by (repeat' apply And.intro); all_goals first | exact True.intro | with_reducible assumption | decide +kernel | with_reducible exact Option.isSome_some | omega | with_reducible exact decide_eq_true (by omega) | with_reducible exact decide_eq_false (by omega) | with_reducible exact beq_iff_eq.2 (by omega) | with_reducible exact beq_eq_false_iff_ne.2 (by omega) | skip) fun β a w hβ hn S => ?_
      rw [hct] at S
      refine xc S rfl rfl rfl rfl rfl en67 (c67 S.sh s1 s2 (by omega) (by omega)) fun v w ⟨Mr, g, c, hv, hO, H⟩ => ?_
      have S := S.retd (New := [Mr]) 40 v H rfl
      subst hv
      refine xr hT S hn true [.b true] 200 rfl ?_ fun β a w hβ hn S => ?_
      · (repeat' apply And.intro); all_goals first | exact True.intro | with_reducible assumption | decide +kernel | with_reducible exact Option.isSome_some | omega | with_reducible exact decide_eq_true (by omega) | with_reducible exact decide_eq_false (by omega) | with_reducible exact beq_iff_eq.2 (by omega) | with_reducible exact beq_eq_false_iff_ne.2 (by omega) | skip
        rw [p1]; rfl
      refine xP S rfl rfl rfl rfl rfl rfl en59 (fun H => c59 H p2.num p2.lt64) fun v a w hv S => ?_
      subst hv
      refine xr hT S hn false [] 200 rfl (by (repeat' apply And.intro); all_goals first | exact True.intro | with_reducible assumption | decide +kernel | with_reducible exact Option.isSome_some | omega | with_reducible exact decide_eq_true (by omega) | with_reducible exact decide_eq_false (by omega) | with_reducible exact beq_iff_eq.2 (by omega) | with_reducible exact beq_eq_false_iff_ne.2 (by omega) | skip) fun β a w hβ hn S => ?_
      exact xret hT S rfl ⟨_, rfl, rfl, S.tl'.sub (List.sublist_cons_self _ _)⟩
    · refine xr hT S hn true [.b false, .b false, .b false, .b false, .b true] 200 rfl (by (repeat' apply And.intro); all_goals first | exact True.intro | with_reducible assumption | decide +kernel | with_reducible exact Option.isSome_some | omega | with_reducible exact decide_eq_true (by omega) | with_reducible exact decide_eq_false (by omega) | with_reducible exact beq_iff_eq.2 (by omega) | with_reducible exact beq_eq_false_iff_ne.2 (by omega) | skip) fun β a w hβ hn S => ?_
      rw [hct] at S
      refine xc S rfl rfl rfl rfl rfl en67 (c67 S.sh s1 s2 (by omega) (by omega)) fun v w ⟨Mr, g, c, hv, hO, H⟩ => ?_
      have S := S.retd (New := [Mr]) 40 v H rfl
      subst hv
      refine xr hT S hn true [.b true] 200 rfl ?_ fun β a w hβ hn S => ?_
      · (repeat' apply And.intro); all_goals first | exact True.intro | with_reducible assumption | decide +kernel | with_reducible exact Option.isSome_some | omega | with_reducible exact decide_eq_true (by omega) | with_reducible exact decide_eq_false (by omega) | with_reducible exact beq_iff_eq.2 (by omega) | with_reducible exact beq_eq_false_iff_ne.2 (by omega) | skip
        rw [p1]; rfl
      refine xP S rfl rfl rfl rfl rfl rfl en59 (fun H => c59 H p2.num p2.lt64) fun v a w hv S => ?_
      subst hv
      refine xr hT S hn false [] 200 rfl (by (repeat' apply And.intro); all_goals first | exact True.intro | with_reducible assumption | decide +kernel | with_reducible exact Option.isSome_some | omega | with_reducible exact decide_eq_true (by omega) | with_reducible exact decide_eq_false (by omega) | with_reducible exact beq_iff_eq.2 (by omega) | with_reducible exact beq_eq_false_iff_ne.2 (by omega) | skip) fun β a w hβ hn S => ?_
      exact xret hT S rfl ⟨_, rfl, rfl, S.tl'.sub (List.sublist_cons_self _ _)⟩
  · obtain ⟨d1, d2, d3, d4⟩ := dmp_ok hf
    refine xr hT S hn true [.b false, .b false, .b false, .b true, .b false, .b true, .b true] 200 rfl (by (repeat' apply And.intro); all_goals first | exact True.intro | with_reducible assumption | decide +kernel | with_reducible exact Option.isSome_some | omega | with_reducible exact decide_eq_true (by omega) | with_reducible exact decide_eq_false (by omega) | with_reducible exact beq_iff_eq.2 (by omega) | with_reducible exact beq_eq_false_iff_ne.2 (by omega) | skip) fun β a w hβ hn S => ?_
    refine xP S rfl rfl rfl rfl rfl rfl en60 (fun H => c60 H) fun v a w hv S => ?_
    rw [d3, d4] at hv
    subst hv
    refine xr hT S hn false [] 200 rfl (by (repeat' apply And.intro); all_goals first | exact True.intro | with_reducible assumption | decide +kernel | with_reducible exact Option.isSome_some | omega | with_reducible exact decide_eq_true (by omega) | with_reducible exact decide_eq_false (by omega) | with_reducible exact beq_iff_eq.2 (by omega) | with_reducible exact beq_eq_false_iff_ne.2 (by omega) | skip) fun β a w hβ hn S => ?_
    exact xret hT S rfl ⟨_, rfl, rfl, S.tl'⟩
  · have g1 : fcmp .eql .f32 e.force 0 = true := by rw [hf]; decide +kernel
    have g2 : floatToFloatBits .f32 e.force .f64 = some 0 := by rw [hf]; decide +kernel
    refine xr hT S hn true [.b false, .b false, .b false, .b true, .b false, .b false, .b true, .b true, .b true] 200 rfl ?_ fun β a w hβ hn S => ?_
    · (repeat' apply And.intro); all_goals first | exact True.intro | with_reducible assumption | decide +kernel | with_reducible exact Option.isSome_some | omega | with_reducible exact decide_eq_true (by omega) | with_reducible exact decide_eq_false (by omega) | with_reducible exact beq_iff_eq.2 (by omega) | with_reducible exact beq_eq_false_iff_ne.2 (by omega) | skip
      rw [g2]; rfl
    rw [g2] at S
    refine xP S rfl rfl rfl rfl rfl rfl en61 (fun H => c61 H) fun v a w hv S => ?_
    subst hv
    refine xr hT S hn false [] 200 rfl (by (repeat' apply And.intro); all_goals first | exact True.intro | with_reducible assumption | decide +kernel | with_reducible exact Option.isSome_some | omega | with_reducible exact decide_eq_true (by omega) | with_reducible exact decide_eq_false (by omega) | with_reducible exact beq_iff_eq.2 (by omega) | with_reducible exact beq_eq_false_iff_ne.2 (by omega) | skip) fun β a w hβ hn S => ?_
    have g3 : decide (IntKind.i64.wrap ((0 : Nat) : Int) < 0) = false := by decide +kernel
    exact xret hT S rfl ⟨_, rfl, by show Value.bool (!decide (IntKind.i64.wrap ((0 : Nat) : Int) < 0)) = _; rw [g3]; rfl, S.tl'⟩

/-- the closure in IsScore: the score's box is the captured variable -/
theorem c39 {e : Ev} {len : Int} {g : Nat} {x0 x1 x2 x3 x5 : Value} {A : Option Addr} {nb c : Nat} (H : SH u w L) (hM : Hp.one g (.cells #[x0, x1, x2, x3, .slice A nb c, x5] 27 (0, 0)) ∈ L) (he : EvOk len nb e) (hl : len ≤ 2000) :
    Ret Try.prog 39 [.agg e.cells.toArray, .pointer (some ⟨g, 0, none⟩)] w (Pl u L fun v => v = .bool false) := by
  refine ent Try.func39 rfl H 10 rfl [(0, .v (.agg e.cells.toArray)), (1, .v (.pointer (some ⟨g, 0, none⟩)))] rfl rfl fun a S => ?_
  refine xr hT S rfl true [.v [.slice A nb c]] 200 rfl ?_ fun β a w hβ hn S => ?_
  · (repeat' apply And.intro); all_goals first | exact True.intro | with_reducible assumption | decide +kernel | with_reducible exact Option.isSome_some | omega | with_reducible exact decide_eq_true (by omega) | with_reducible exact decide_eq_false (by omega) | with_reducible exact beq_iff_eq.2 (by omega) | with_reducible exact beq_eq_false_iff_ne.2 (by omega) | skip
    refine RdV.one' (ad := ⟨g, 4, none⟩) ⟨_, hM, #[x0, x1, x2, x3, .slice A nb c, x5], 27, (0, 0), by simp [Hp.one], rfl, rfl⟩ (add0 g 4)
  refine xP S rfl rfl rfl rfl rfl rfl en40 (fun H => c40 H he hl) fun v a w hv S => ?_
  subst hv
  refine xr hT S hn true [] 200 rfl (by (repeat' apply And.intro); all_goals first | exact True.intro | with_reducible assumption | decide +kernel | with_reducible exact Option.isSome_some | omega | with_reducible exact decide_eq_true (by omega) | with_reducible exact decide_eq_false (by omega) | with_reducible exact beq_iff_eq.2 (by omega) | with_reducible exact beq_eq_false_iff_ne.2 (by omega) | skip) fun β a w hβ hn S => ?_
  exact xret hT S rfl ⟨_, rfl, rfl, S.tl'⟩

theorem flat_at {α : Type} {cells : α → List Value} {sz : Nat} (hsz : ∀ x, (cells x).length = sz) : ∀ {xs : List α} {j : Nat} (hj : j < xs.length), ((xs.flatMap cells).drop (j * sz)).take sz = cells xs[j]
  | x :: r, 0, _ => by simp [hsz]
  | x :: r, j + 1, hj => by
    have e : (j + 1) * sz = (cells x).length + j * sz := by rw [hsz, Nat.add_mul, Nat.one_mul, Nat.add_comm]
    rw [List.flatMap_cons, e, List.drop_append]
    simp only [Nat.add_sub_cancel_left]
    rw [List.drop_eq_nil_of_le (by omega), List.nil_append]
    exact flat_at hsz (by simpa using hj)
theorem RdV.elem {L : List Hp} {ad : Addr} {α : Type} {cells : α → List Value} {sz : Nat} (hsz : ∀ x, (cells x).length = sz) {xs : List α} (h : RdV L ad (xs.flatMap cells)) {j : Nat} (hj : j < xs.length) : RdV L (ad.add (j * sz)) (cells xs[j]) := by
  rw [← flat_at hsz hj]
  exact h.at_ (j * sz) sz
theorem ev_len (e : Ev) : e.cells.length = 6 := rfl
theorem md_len (m : Md) : m.cells.length = 2 := rfl
def I66 (u : World) (L : List Hp) (A : Option Addr) (n c : Nat) (f : Value) (d : Nat) (a : Act) (w : World) : Prop := ∃ β, β.length = 0 ∧ d ≤ n ∧
  St β u w a 19 [(0, .v (.slice A n c)), (1, .v f), (7, .v (.int .i64 n)), (8, .v (.int .i64 ((n - d : Nat) : Int)))] [] L
theorem c66 {A : Option Addr} {n c f : Nat} {cap : List Value} {evs : List Ev} (H : SH u w L) (hn : n ≤ 100) (hR : Rows L A n 6 (evs.flatMap Ev.cells)) (hlen : evs.length = n) (he : Enters Try.prog f)
    (hf : ∀ e ∈ evs, ∀ w, SH u w L → Ret Try.prog f (.agg e.cells.toArray :: cap) w (Pl u L fun v => v = .bool false)) : Ret Try.prog 66 [.slice A n c, .func (.func f) #[] cap.toArray] w (Pl u L fun v => v = .int .i64 (-1)) := by
  refine ent Try.func66 rfl H 19 rfl [(0, .v (.slice A n c)), (1, .v (.func (.func f) #[] cap.toArray))] rfl rfl fun a S => ?_
  refine xr hT S rfl true [] 200 rfl (by (repeat' apply And.intro); all_goals first | exact True.intro | with_reducible assumption | decide +kernel | with_reducible exact Option.isSome_some | omega | with_reducible exact decide_eq_true (by omega) | with_reducible exact decide_eq_false (by omega) | with_reducible exact beq_iff_eq.2 (by omega) | with_reducible exact beq_eq_false_iff_ne.2 (by omega) | skip) fun β a w hβ hl S => ?_
  refine xloop (I66 u L A n c (.func (.func f) #[] cap.toArray)) id n ⟨β, hl, Nat.le_refl _, by rw [Nat.sub_self]; exact S.keep [0, 1, 7, 8] rfl⟩ fun d a w ⟨β, hl, hd, S⟩ => ?_
  by_cases hd0 : d = 0
  · subst hd0
    refine xr hT S hl true [.b false] 200 rfl (by (repeat' apply And.intro); all_goals first | exact True.intro | with_reducible assumption | decide +kernel | with_reducible exact Option.isSome_some | omega | with_reducible exact decide_eq_true (by omega) | with_reducible exact decide_eq_false (by omega) | with_reducible exact beq_iff_eq.2 (by omega) | with_reducible exact beq_eq_false_iff_ne.2 (by omega) | skip) fun β a w hβ hl S => ?_
    exact xret hT S rfl ⟨_, rfl, rfl, S.sh⟩
  · have hi : n - d < evs.length := by omega
    obtain ⟨ad, rfl⟩ := hR.2.1 (by omega)
    have hcells := hR.2.2 ad rfl
    refine xr hT S hl true [.b true, .v (evs[n - d]).cells] 200 rfl ?_ fun β a w hβ hl S => ?_
    · (repeat' apply And.intro); all_goals first | exact True.intro | with_reducible assumption | decide +kernel | with_reducible exact Option.isSome_some | omega | with_reducible exact decide_eq_true (by omega) | with_reducible exact decide_eq_false (by omega) | with_reducible exact beq_iff_eq.2 (by omega) | with_reducible exact beq_eq_false_iff_ne.2 (by omega) | skip
      show RdV L (ad.add (Int.toNat ((n - d : Nat) : Int) * 6)) _
      rw [Int.toNat_natCast]
      exact hcells.elem ev_len hi
    refine xP S rfl rfl rfl rfl rfl rfl he (fun H => by
      rw [dns_app', dns_vs]
      exact hf _ (List.getElem_mem hi) _ H) fun v a w hv S => ?_
    subst hv
    refine xr hT S hl true [.b false] 200 rfl (by (repeat' apply And.intro); all_goals first | exact True.intro | with_reducible assumption | decide +kernel | with_reducible exact Option.isSome_some | omega | with_reducible exact decide_eq_true (by omega) | with_reducible exact decide_eq_false (by omega) | with_reducible exact beq_iff_eq.2 (by omega) | with_reducible exact beq_eq_false_iff_ne.2 (by omega) | skip) fun β a w hβ hl S => ?_
    have e : ((n - d : Nat) : Int) + 1 = ((n - (d - 1) : Nat) : Int) := by omega
    rw [e] at S
    exact xj ⟨d - 1, ⟨β, hl, by omega, S.keep [0, 1, 7, 8] rfl⟩, by simp only [id]; omega⟩
theorem c38 {A : Option Addr} {n c f : Nat} {cap : List Value} {evs : List Ev} (H : SH u w L) (hn : n ≤ 100) (hR : Rows L A n 6 (evs.flatMap Ev.cells)) (hlen : evs.length = n) (he : Enters Try.prog f)
    (hf : ∀ e ∈ evs, ∀ w, SH u w L → Ret Try.prog f (.agg e.cells.toArray :: cap) w (Pl u L fun v => v = .bool false)) : Ret Try.prog 38 [.slice A n c, .func (.func f) #[] cap.toArray] w (Pl u L fun v => v = .bool false) := by
  refine ent Try.func38 rfl H 9 rfl [(0, .v (.slice A n c)), (1, .v (.func (.func f) #[] cap.toArray))] rfl rfl fun a S => ?_
  refine xr hT S rfl true [] 200 rfl (by (repeat' apply And.intro); all_goals first | exact True.intro | with_reducible assumption | decide +kernel | with_reducible exact Option.isSome_some | omega | with_reducible exact decide_eq_true (by omega) | with_reducible exact decide_eq_false (by omega) | with_reducible exact beq_iff_eq.2 (by omega) | with_reducible exact beq_eq_false_iff_ne.2 (by omega) | skip) fun β a w hβ hl S => ?_
  refine xP S rfl rfl rfl rfl rfl rfl en66 (fun H => c66 H hn hR hlen he hf) fun v a w hv S => ?_
  subst hv
  refine xr hT S hl true [] 200 rfl (by (repeat' apply And.intro); all_goals first | exact True.intro | with_reducible assumption | decide +kernel | with_reducible exact Option.isSome_some | omega | with_reducible exact decide_eq_true (by omega) | with_reducible exact decide_eq_false (by omega) | with_reducible exact beq_iff_eq.2 (by omega) | with_reducible exact beq_eq_false_iff_ne.2 (by omega) | skip) fun β a w hβ hl S => ?_
  exact xret hT S rfl ⟨_, rfl, rfl, S.sh⟩
end Go.SX
