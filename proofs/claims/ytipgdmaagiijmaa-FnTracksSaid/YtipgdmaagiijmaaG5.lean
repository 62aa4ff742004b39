import Derived.Test.YtipgdmaagiijmaaG4
set_option maxRecDepth 100000
set_option linter.unusedVariables false
set_option linter.unusedSectionVars false
namespace Go.SX
open Go.Proofs
variable {u w : World} {L B : List Hp} {b : Nat} {M : Hp}
theorem c9 {s : Sc} {A E : Option Addr} {cb ce : Nat} {vs : List Value} {most : Int} (H : SH u w L) (hA : All2 (RBod L) vs s.bodies) (hRA : Rows L A s.bodies.length 1 vs) (hRE : Rows L E s.events.length 6 (s.events.flatMap Ev.cells)) (h : ScOk most s) (hm : most ≤ 2000)
    (hok : ∀ cur, Sorted s cur → ∀ t < s.len.toNat, StepOk s cur t) :
    Ret Try.prog 9 [.agg #[.int .i64 s.len, .int .i64 s.voices, .float .f32 s.ceil, .float .f32 s.rel, .slice A s.bodies.length cb, .slice E s.events.length ce]] w
      fun v w' => ∃ cur O Ao co, Sorted s cur ∧ v = .tuple #[.slice Ao s.len.toNat co, .bool true] ∧ Own O 23 1 (.slice Ao s.len.toNat co) s.len.toNat (((List.range s.len.toNat).map (smpP s cur)).map fV) ∧ SH u w' (O :: L) := by
  refine ent Try.func9 rfl H 19 rfl [(0, .v (.agg #[.int .i64 s.len, .int .i64 s.voices, .float .f32 s.ceil, .float .f32 s.rel, .slice A s.bodies.length cb, .slice E s.events.length ce]))] rfl rfl fun a S => ?_
  refine xr hT S rfl true [] 200 rfl (by (repeat' apply And.intro); all_goals first | exact True.intro | with_reducible assumption | decide +kernel | with_reducible exact Option.isSome_some | omega | with_reducible exact decide_eq_true (by omega) | with_reducible exact decide_eq_false (by omega) | with_reducible exact beq_iff_eq.2 (by omega) | with_reducible exact beq_eq_false_iff_ne.2 (by omega) | with_reducible exact bne_iff_ne.2 (by omega) | with_reducible exact bne_eq_false_iff_eq.2 (by omega) | skip) fun β a w hβ hl S => ?_
  have hss := List.subset_append_right (bhs β [(0, 27, [SV.v (.int .i64 s.len), .v (.int .i64 s.voices), .v (.float .f32 s.ceil), .v (.float .f32 s.rel), .v (.slice A s.bodies.length cb), .v (.slice E s.events.length ce)])]) L
  have hv : ∀ {L'}, L ⊆ L' → RSc L' (.agg #[.int .i64 s.len, .int .i64 s.voices, .float .f32 s.ceil, .float .f32 s.rel, .slice A s.bodies.length cb, .slice E s.events.length ce]) s := fun hs => ⟨A, cb, E, ce, vs, rfl, hA.mono fun _ _ h => h.mono hs, hRA.mono hs, hRE.mono hs⟩
  refine xP S rfl rfl rfl rfl rfl rfl en19 (fun H => c19 H (hv hss) h hm) fun v a w hvv S => ?_
  subst hvv
  refine xr hT S hl true [.b false] 200 rfl (by (repeat' apply And.intro); all_goals first | exact True.intro | with_reducible assumption | decide +kernel | with_reducible exact Option.isSome_some | omega | with_reducible exact decide_eq_true (by omega) | with_reducible exact decide_eq_false (by omega) | with_reducible exact beq_iff_eq.2 (by omega) | with_reducible exact beq_eq_false_iff_ne.2 (by omega) | with_reducible exact bne_iff_ne.2 (by omega) | with_reducible exact bne_eq_false_iff_eq.2 (by omega) | skip) fun β2 a w hβ2 hl S => ?_
  have hln : ((s.len.toNat : Nat) : Int) = s.len := Int.toNat_of_nonneg h.len.1
  have hlm := h.len.2
  have hss := List.subset_append_right (bhs β2 [(0, 27, [SV.v (.int .i64 s.len), .v (.int .i64 s.voices), .v (.float .f32 s.ceil), .v (.float .f32 s.rel), .v (.slice A s.bodies.length cb), .v (.slice E s.events.length ce)])]) L
  have hcall := c21 (n := s.len.toNat) (s := s) (A := A) (E := E) (cb := cb) (ce := ce) S.sh (hA.mono fun _ _ h => h.mono hss) (hRA.mono hss) (hRE.mono hss) h hm (by omega) hok
  rw [hln] at hcall
  refine xc S rfl rfl rfl rfl rfl en21 hcall fun v w ⟨cur, p, O, Ao, co, hcur, hv, hO, H⟩ => ?_
  subst hv
  have S := S.retd (New := [O]) 14 (.tuple #[p, fV (envP s cur s.len.toNat), .slice Ao s.len.toNat co]) H rfl
  refine xr hT S hl true [] 200 rfl (by (repeat' apply And.intro); all_goals first | exact True.intro | with_reducible assumption | decide +kernel | with_reducible exact Option.isSome_some | omega | with_reducible exact decide_eq_true (by omega) | with_reducible exact decide_eq_false (by omega) | with_reducible exact beq_iff_eq.2 (by omega) | with_reducible exact beq_eq_false_iff_ne.2 (by omega) | with_reducible exact bne_iff_ne.2 (by omega) | with_reducible exact bne_eq_false_iff_eq.2 (by omega) | skip) fun β3 a w hβ3 hl S => ?_
  exact xret hT S rfl ⟨_, rfl, cur, O, Ao, co, hcur, rfl, hO, S.tl'⟩
end Go.SX
set_option linter.unusedVariables false
set_option linter.unusedSimpArgs false
namespace Go.SX
open Ieee
/-! ### a score's samples can be made: no number grows too great -/
theorem arrL_gok {s : Sc} {K : Nat} {len : Int} (hs : SOk s) (h31 : 31 ≤ K) : ∀ (l : List Ev) (q : Pz), Gok s K q → (∀ e ∈ l, EvOk len s.bodies.length e) → q.done + l.length ≤ 100 → Gok s K (arrL s l q)
  | [], q, h, _, _ => h
  | e :: r, q, h, he, hd => by
    simp only [List.length_cons] at hd
    rw [arrL]
    split
    · refine arrL_gok hs h31 r _ (h.happen hs (he e List.mem_cons_self) (by omega) h31) (fun x hx => he x (List.mem_cons_of_mem _ hx)) ?_
      show q.done + 1 + r.length ≤ 100
      omega
    · exact h
theorem arr_gok {s : Sc} {K : Nat} {len : Int} {evs : List Ev} {q : Pz} (hs : SOk s) (h31 : 31 ≤ K) (h : Gok s K q) (he : ∀ e ∈ evs, EvOk len s.bodies.length e) (hl : evs.length ≤ 100) : Gok s K (arr s evs q) := by
  refine arrL_gok hs h31 _ q h (fun e hx => he e (List.mem_of_mem_drop hx)) ?_
  rw [List.length_drop]
  have := h.done
  omega
theorem gok0 (s : Sc) (hs : SOk s) (K : Nat) : Gok s K P0 := ⟨by have := hs.voices.1; show (0 : Int) ≤ _; omega, Nat.le_refl _, by show (0 : Nat) ≤ 100; omega, by show (0 : Nat) ≤ 3000; omega, fun v hv => by cases hv⟩
theorem runP_gok {s : Sc} {len : Int} {evs : List Ev} (hs : SOk s) (he : ∀ e ∈ evs, EvOk len s.bodies.length e) (hl : evs.length ≤ 100) : ∀ t, t ≤ 40 → Gok s (31 + 2 * t) (runP s evs t)
  | 0, _ => gok0 s hs _
  | t + 1, ht => by
    have ih := runP_gok hs he hl t (by omega)
    have ha := arr_gok (K := 31 + 2 * t) hs (by omega) ih he hl
    have := ha.next (by omega) (by omega) (by unfold arr; rw [arrL_now, runP_now]; omega)
    rw [show 31 + 2 * (t + 1) = 31 + 2 * t + 2 by omega]
    exact this
theorem out_mf {K : Nat} {v : Vc} (h : Vok K v) (h31 : 31 ≤ K) (hK : K + 6 ≤ 127) : Mf .f32 (K + 6) v.out := by
  have hx : Mf .f32 20 v.x := by
    unfold Vc.x
    cases hi : v.input with
    | nil => exact mf_zero 20
    | cons x r => exact h.input x (by rw [hi]; exact List.mem_cons_self)
  have hl : (stepL v.modes v.states v.x).length ≤ 4 := by rw [stepL_len _ _ _ h.same.symm, h.same]; exact h.few
  have := sum32_mf (e := K + 2) (xs := (stepL v.modes v.states v.x).map (·.1)) (o := 0) (d := 0) (fun y hy => by
    obtain ⟨z, hz, rfl⟩ := List.mem_map.1 hy
    exact (stepL_ok hx h31 (by omega) h.modes h.states z hz).1) (mf_zero _) (by rw [List.length_map]; omega)
  exact this.mono (by rw [List.length_map]; omega)
theorem outs_mf {s : Sc} {K : Nat} {evs : List Ev} {q : Pz} (h : Gok s K (arr s evs q)) (h31 : 31 ≤ K) (hK : K + 6 ≤ 127) (hs : SOk s) : (∀ x ∈ outsP s evs q, Mf .f32 (K + 6) x) ∧ (outsP s evs q).length ≤ 4 := by
  refine ⟨fun x hx => ?_, ?_⟩
  · obtain ⟨v, hv, rfl⟩ := List.mem_map.1 hx
    exact out_mf (h.voices v hv) h31 hK
  · unfold outsP
    rw [List.length_map]
    have := h.most
    have := hs.voices.2
    omega
theorem read_sz {x : Nat} {s m p} (h : single.read x = .number s m p) : single.read (sz32 x) = .number false m p := by
  unfold Format.read at h ⊢
  rw [sw32] at h ⊢
  simp only at h ⊢
  unfold sz32
  have e1 : x % 2 ^ 31 % 2 ^ 31 = x % 2 ^ 31 := Nat.mod_mod _ _
  have e2 : (x % 2 ^ 31 / 2 ^ 31 % 2 == 1) = false := by
    have : x % 2 ^ 31 / 2 ^ 31 = 0 := Nat.div_eq_of_lt (Nat.mod_lt _ (by decide))
    rw [this]
    rfl
  rw [e1, e2]
  split at h
  · cases h; rw [if_pos ‹_›]
  · rw [if_neg ‹_›]
    split at h
    · cases h; rw [if_pos ‹_›]
    · rw [if_neg ‹_›]
      split at h <;> cases h
theorem Mf.sz {e x : Nat} (h : Mf .f32 e x) : Mf .f32 e (sz32 x) := by
  obtain ⟨⟨s, m, p, h1, h2, h3⟩, h4⟩ := h
  refine ⟨⟨false, m, p, read_sz h1, h2, h3⟩, ?_⟩
  have : x % 2 ^ 31 < 2 ^ 31 := Nat.mod_lt _ (by decide)
  show x % 2 ^ 31 < 2 ^ 32
  omega
theorem rel_mf {f : Nat} (h : Rel f) : Mf .f32 0 f := by
  rcases h with rfl | rfl | rfl | rfl <;> exact small_mf (by decide)
theorem ceil_mf {f : Nat} (h : Ceil f) : Mf .f32 4 f := by
  rcases h with rfl | rfl | rfl <;> exact ⟨read_bd (f := single) (K := 153) (by decide) (by decide) (by decide), by decide⟩
theorem limE_mf {e env x rel : Nat} (he : Mf .f32 e env) (hx : Mf .f32 e x) (hr : Mf .f32 0 rel) (h : e ≤ 127) : Mf .f32 e (limE env x rel) ∧ (floatBits .mul .f32 env rel).isSome = true := by
  obtain ⟨r, h1, h2⟩ := he.mul hr (by show e + 0 ≤ 127; omega)
  refine ⟨?_, by rw [h1]; rfl⟩
  unfold limE
  split
  · exact hx.sz
  · rw [fop_of h1]; exact h2
theorem order_s {x y : Nat} {s m p t n q} (hx : single.read x = .number s m p) (hy : single.read y = .number t n q) :
    FloatKind.f32.format.order x y = some (compare (signed s m (p - min p q).toNat) (signed t n (q - min p q).toNat)) := by
  show Format.order single x y = _
  unfold Format.order
  rw [hx, hy]
  rfl
theorem ceil_read {f : Nat} (h : Ceil f) : ∃ m p, single.read f = .number false m p ∧ 2 ^ 146 ≤ m * 2 ^ (p + 149).toNat ∧ -149 ≤ p := by
  rcases h with rfl | rfl | rfl
  · exact ⟨8388608, -26, by decide +kernel, by decide +kernel, by decide⟩
  · exact ⟨8388608, -23, by decide +kernel, by decide +kernel, by decide⟩
  · exact ⟨13107200, -20, by decide +kernel, by decide +kernel, by decide⟩
theorem quo_mf {e x y ce : Nat} (hx : Mf .f32 e x) {e' : Nat} (hy : Mf .f32 e' y) (hc : Ceil ce) (h : fcmp .gtr .f32 y ce = true) (he : e + 3 ≤ 127) : ∃ r, floatBits .quo .f32 x y = some r ∧ Mf .f32 (e + 3) r := by
  obtain ⟨m, p, hr, hm, hp⟩ := ceil_read hc
  obtain ⟨⟨t, n, q, h1, h2, h3⟩, _⟩ := hy
  have h4 : fcmp .gtr .f32 y ce = (FloatKind.f32.format.order y ce == some .gt) := rfl
  rw [h4, order_s h1 hr] at h
  rw [lp32] at h2
  have h5 : compare (signed t n (q - min q p).toNat) (signed false m (p - min q p).toNat) = .gt := by simpa using h
  rw [signed_f] at h5
  have h6 : ((m * 2 ^ (p - min q p).toNat : Nat) : Int) < signed t n (q - min q p).toNat := by
    rw [compare, instOrdInt] at h5
    simp only [compareOfLessAndEq] at h5
    split at h5
    · cases h5
    · split at h5
      · cases h5
      · omega
  have h7 : 2 ^ 146 ≤ n * 2 ^ (q - single.leastPlace).toNat := by
    cases t with
    | true =>
      rw [signed_t] at h6
      omega
    | false =>
      rw [signed_f] at h6
      have h8 : m * 2 ^ (p - min q p).toNat < n * 2 ^ (q - min q p).toNat := by omega
      rw [lp32]
      have a1 : (p - min q p).toNat + (min q p + 149).toNat = (p + 149).toNat := by omega
      have a2 : (q - min q p).toNat + (min q p + 149).toNat = (q - -149).toNat := by omega
      have h9 := Nat.mul_le_mul_right (2 ^ (min q p + 149).toNat) (Nat.le_of_lt h8)
      rw [Nat.mul_assoc, Nat.mul_assoc, ← Nat.pow_add, ← Nat.pow_add, a1, a2] at h9
      exact Nat.le_trans hm h9
  obtain ⟨r, h8, h9⟩ := div_bd good_single hx.1 h1 h7 (by rw [lp32]; exact h2) (N := e + 3 + 149) (by rw [lp32]; omega) (by simp [single]) (by rw [top32]; omega)
  exact ⟨r, h8, h9, Format.div_lt _ h8⟩
theorem quo_lim {e x y ce : Nat} (hx : Mf .f32 e x) {e' : Nat} (hy : Mf .f32 e' y) (hc : Ceil ce) (h : fcmp .gtr .f32 y ce = true) (he : e + 3 ≤ 127) : (floatBits .quo .f32 x y).isSome = true := by
  obtain ⟨r, h1, _⟩ := quo_mf hx hy hc h he
  rw [h1]
  rfl
theorem stepOk_of {s : Sc} {cur : List Ev} {t K : Nat} (hc : Ceil s.ceil) (hr : Rel s.rel) (hs : SOk s) (h31 : 31 ≤ K) (hK : K + 17 ≤ 127) (hg : Gok s K (runP s cur t)) (ha : Gok s K (arr s cur (runP s cur t))) (he : Mf .f32 (K + 10) (envP s cur t)) : StepOk s cur t ∧ Mf .f32 (K + 10) (envP s cur (t + 1)) := by
  obtain ⟨h1, h2⟩ := outs_mf ha h31 (by omega) hs
  have hx : Mf .f32 (K + 10) (xP_ s cur t) := (sum32_mf (e := K + 6) (d := 0) (o := 0) h1 (mf_zero _) (by omega)).mono (by omega)
  obtain ⟨h3, h4⟩ := limE_mf he hx (rel_mf hr) (by omega)
  refine ⟨⟨K, K + 6, h31, by omega, hg, h1, by omega, h2, hx.lt32, h4, fun hgt => ?_⟩, h3⟩
  obtain ⟨r, h5, h6⟩ := hx.mul (ceil_mf hc) (by show K + 10 + 4 ≤ 127; omega)
  refine ⟨by rw [h5]; rfl, ?_⟩
  rw [fop_of h5]
  exact quo_lim h6 h3 hc hgt (by omega)
theorem good_all {s : Sc} {cur : List Ev} (h : ScOk 40 s) (hc : Sorted s cur) : ∀ t, t < 40 → StepOk s cur t ∧ Mf .f32 (31 + 2 * t + 10) (envP s cur (t + 1)) := by
  have hev := hc.ev h
  have hl : cur.length ≤ 100 := by rw [hc.len]; have := h.events.1; omega
  intro t
  induction t with
  | zero =>
    intro _
    have hg := runP_gok (evs := cur) h.sok hev hl 0 (by omega)
    exact stepOk_of h.ceil h.rel h.sok (by omega) (by omega) hg (arr_gok h.sok (by omega) hg hev hl) (mf_zero _)
  | succ t ih =>
    intro ht
    have hg := runP_gok (evs := cur) h.sok hev hl (t + 1) (by omega)
    exact stepOk_of h.ceil h.rel h.sok (by omega) (by omega) hg (arr_gok h.sok (by omega) hg hev hl) ((ih (by omega)).2.mono (by omega))
end Go.SX
set_option maxRecDepth 100000
set_option linter.unusedVariables false
set_option linter.unusedSectionVars false
namespace Go.SX
open Go.Proofs
variable {u w : World} {L B : List Hp} {b : Nat} {M : Hp}
theorem c13 {A : Option Addr} {n c : Nat} (H : SH u w L) (hB : Byt B A n) (hs : B ⊆ L) (hn : n ≤ 1048576) (i : Nat) (hi : i ≤ 100) : Ret Try.prog 13 [.slice A n c, .int .i64 (i : Int)] w (Pl u L (In 0 255)) := by
  refine ent Try.func13 rfl H 21 rfl [(0, .v (.slice A n c)), (1, .v (.int .i64 (i : Int)))] rfl rfl fun a S => ?_
  by_cases h : i < n
  · obtain ⟨ad, y, rfl, hy0, hy1, hc⟩ := hB.2 i h
    refine xr hT S rfl true [.b true, .v [.int .u8 y]] 200 rfl ?_ fun β a w hβ hl S => ?_
    · (repeat' apply And.intro); all_goals first | exact True.intro | with_reducible assumption | decide +kernel | with_reducible exact Option.isSome_some | omega | with_reducible exact decide_eq_true (by omega) | with_reducible exact decide_eq_false (by omega) | with_reducible exact beq_iff_eq.2 (by omega) | with_reducible exact beq_eq_false_iff_ne.2 (by omega) | with_reducible exact bne_iff_ne.2 (by omega) | with_reducible exact bne_eq_false_iff_eq.2 (by omega) | skip
      all_goals (refine RdV.one' (hc.mono hs) ?_; show ad.add (Int.toNat (i : Int) * 1) = _; rw [Int.toNat_natCast, Nat.mul_one])
    exact xret hT S rfl ⟨_, rfl, ⟨_, rfl, hy0, hy1⟩, S.sh⟩
  · refine xr hT S rfl true [.b false] 200 rfl (by (repeat' apply And.intro); all_goals first | exact True.intro | with_reducible assumption | decide +kernel | with_reducible exact Option.isSome_some | omega | with_reducible exact decide_eq_true (by omega) | with_reducible exact decide_eq_false (by omega) | with_reducible exact beq_iff_eq.2 (by omega) | with_reducible exact beq_eq_false_iff_ne.2 (by omega) | with_reducible exact bne_iff_ne.2 (by omega) | with_reducible exact bne_eq_false_iff_eq.2 (by omega) | skip) fun β a w hβ hl S => ?_
    refine xret hT S rfl ⟨_, rfl, ⟨_, rfl, ?_, ?_⟩, S.sh⟩
    · exact Int.emod_nonneg _ (by decide)
    · have := Int.emod_lt_of_pos ((i : Int) * 37 + (n : Int) * 11) (show (0 : Int) < 256 by decide)
      omega
theorem c46 {x : Nat} (H : SH u w L) (hx : Num .f64 x) : Ret Try.prog 46 [.float .f64 x, .float .f64 x] w (Pl u L fun v => v = .bool true) := by
  refine ent Try.func46 rfl H 37 rfl [(0, .v (.float .f64 x)), (1, .v (.float .f64 x))] rfl rfl fun a S => ?_
  have hne := neq_self hx
  have heq : fcmp .eql .f64 x x = true := by
    obtain ⟨s, m, p, h⟩ := hx
    have h' : Ieee.double.read x = .number s m p := h
    show (Ieee.Format.order Ieee.double x x == some .eq) = true
    unfold Ieee.Format.order
    rw [h']
    simp [Ieee.Datum.order, cmp_self]
  cases hz : fcmp .eql .f64 x 0
  · refine xr hT S rfl true [.b false, .b false, .b false, .b false] 200 rfl (by (repeat' apply And.intro); all_goals first | exact True.intro | with_reducible assumption | decide +kernel | with_reducible exact Option.isSome_some | omega | with_reducible exact decide_eq_true (by omega) | with_reducible exact decide_eq_false (by omega) | with_reducible exact beq_iff_eq.2 (by omega) | with_reducible exact beq_eq_false_iff_ne.2 (by omega) | with_reducible exact bne_iff_ne.2 (by omega) | with_reducible exact bne_eq_false_iff_eq.2 (by omega) | skip) fun β a w hβ hl S => ?_
    exact xret hT S rfl ⟨_, rfl, by rw [← heq]; rfl, S.sh⟩
  · have hq : (floatBits .quo .f64 4607182418800017408 x).isSome = true := by
      obtain ⟨s, m, p, h⟩ := hx
      have h' : Ieee.double.read x = .number s m p := h
      show (Ieee.Format.div Ieee.double 4607182418800017408 x).isSome = true
      unfold Ieee.Format.div
      have h1 : Ieee.double.read 4607182418800017408 = .number false 4503599627370496 (-52) := by decide +kernel
      rw [h', h1]
      simp only [Ieee.Datum.quotient]
      split
      · rfl
      · rfl
    refine xr hT S rfl true [.b false, .b false, .b true, .b true] 200 rfl (by (repeat' apply And.intro); all_goals first | exact True.intro | with_reducible assumption | decide +kernel | with_reducible exact Option.isSome_some | omega | with_reducible exact decide_eq_true (by omega) | with_reducible exact decide_eq_false (by omega) | with_reducible exact beq_iff_eq.2 (by omega) | with_reducible exact beq_eq_false_iff_ne.2 (by omega) | with_reducible exact bne_iff_ne.2 (by omega) | with_reducible exact bne_eq_false_iff_eq.2 (by omega) | skip) fun β a w hβ hl S => ?_
    refine xret hT S rfl ⟨_, rfl, ?_, S.sh⟩
    show Value.bool (fcmp .gtr .f64 (fop .quo .f64 4607182418800017408 x) 0 == fcmp .gtr .f64 (fop .quo .f64 4607182418800017408 x) 0) = _
    rw [beq_self_eq_true]
theorem c22 {A A' : Option Addr} {n c c' : Nat} {xs : List Nat} (H : SH u w L) (hR : Rows L A n 1 (xs.map fV)) (hR' : Rows L A' n 1 (xs.map fV)) (hn : n ≤ 3000) (hx : ∀ x ∈ xs, Num .f32 x ∧ x < 2 ^ 32) : Ret Try.prog 22 [.slice A n c, .slice A' n c'] w (Pl u L fun v => v = .int .i64 (-1)) := by
  have hlen := hR.len1
  rw [List.length_map] at hlen
  refine ent Try.func22 rfl H 43 rfl [(0, .v (.slice A n c)), (1, .v (.slice A' n c'))] rfl rfl fun a S => ?_
  refine xr hT S rfl true [] 200 rfl (by (repeat' apply And.intro); all_goals first | exact True.intro | with_reducible assumption | decide +kernel | with_reducible exact Option.isSome_some | omega | with_reducible exact decide_eq_true (by omega) | with_reducible exact decide_eq_false (by omega) | with_reducible exact beq_iff_eq.2 (by omega) | with_reducible exact beq_eq_false_iff_ne.2 (by omega) | with_reducible exact bne_iff_ne.2 (by omega) | with_reducible exact bne_eq_false_iff_eq.2 (by omega) | skip) fun β a w hβ hl S => ?_
  refine xloop (fun (i : Nat) a w => ∃ β, β.length = 0 ∧ i ≤ n ∧ St β u w a 43 [(0, .v (.slice A n c)), (1, .v (.slice A' n c')), (5, .v (.int .i64 (i : Int)))] [] L) (fun i => n - i) 0 ⟨β, hl, Nat.zero_le _, S.keep [0, 1, 5] rfl⟩ fun i a w ⟨β, hl, hi, S⟩ => ?_
  by_cases hin : i < n
  · obtain ⟨ad, rfl⟩ := hR.2.1 (by omega)
    obtain ⟨ad', rfl⟩ := hR'.2.1 (by omega)
    have hix : i < xs.length := by omega
    have hgx : (xs.map fV)[i]? = some (fV xs[i]) := by simp [hix]
    obtain ⟨hnum, h32⟩ := hx _ (List.getElem_mem hix)
    obtain ⟨p1, p2⟩ := wd_spec hnum h32
    refine xr hT S hl true [.b true] 200 rfl (by (repeat' apply And.intro); all_goals first | exact True.intro | with_reducible assumption | decide +kernel | with_reducible exact Option.isSome_some | omega | with_reducible exact decide_eq_true (by omega) | with_reducible exact decide_eq_false (by omega) | with_reducible exact beq_iff_eq.2 (by omega) | with_reducible exact beq_eq_false_iff_ne.2 (by omega) | with_reducible exact bne_iff_ne.2 (by omega) | with_reducible exact bne_eq_false_iff_eq.2 (by omega) | skip) fun β a w hβ hl S => ?_
    refine xda hT S (by decide +kernel) fun E => ?_
    refine xqr hT S true [.b false, .b false, .v [fV xs[i]], .v [fV xs[i]]] E rfl ?_ fun a E => ?_
    · (repeat' apply And.intro); all_goals first | exact True.intro | with_reducible assumption | decide +kernel | with_reducible exact Option.isSome_some | omega | with_reducible exact decide_eq_true (by omega) | with_reducible exact decide_eq_false (by omega) | with_reducible exact beq_iff_eq.2 (by omega) | with_reducible exact beq_eq_false_iff_ne.2 (by omega) | with_reducible exact bne_iff_ne.2 (by omega) | with_reducible exact bne_eq_false_iff_eq.2 (by omega) | skip
      all_goals first | exact hR.cell (n := n) (c := 0) hgx | exact hR'.cell (n := n) (c := 0) hgx | (rw [p1]; rfl)
    refine xqc E rfl rfl rfl rfl rfl en46 (fun w H => c46 H p2.num) fun a E => ?_
    refine xqr hT S true [] E rfl (by (repeat' apply And.intro); all_goals first | exact True.intro | with_reducible assumption | decide +kernel | with_reducible exact Option.isSome_some | omega | with_reducible exact decide_eq_true (by omega) | with_reducible exact decide_eq_false (by omega) | with_reducible exact beq_iff_eq.2 (by omega) | with_reducible exact beq_eq_false_iff_ne.2 (by omega) | with_reducible exact bne_iff_ne.2 (by omega) | with_reducible exact bne_eq_false_iff_eq.2 (by omega) | skip) fun a E => ?_
    refine wpQuiet_nil fun w H => ?_
    have S : St _ _ _ _ _ _ _ _ := ⟨E, H, S.wb⟩
    refine xr hT S hl true [.b false] 200 rfl (by (repeat' apply And.intro); all_goals first | exact True.intro | with_reducible assumption | decide +kernel | with_reducible exact Option.isSome_some | omega | with_reducible exact decide_eq_true (by omega) | with_reducible exact decide_eq_false (by omega) | with_reducible exact beq_iff_eq.2 (by omega) | with_reducible exact beq_eq_false_iff_ne.2 (by omega) | with_reducible exact bne_iff_ne.2 (by omega) | with_reducible exact bne_eq_false_iff_eq.2 (by omega) | skip) fun β a w hβ hl S => ?_
    have ei : (i : Int) + 1 = ((i + 1 : Nat) : Int) := by omega
    rw [ei] at S
    exact xj ⟨i + 1, ⟨β, hl, by omega, S.keep [0, 1, 5] rfl⟩, by omega⟩
  · refine xr hT S hl true [.b false, .b false] 200 rfl (by (repeat' apply And.intro); all_goals first | exact True.intro | with_reducible assumption | decide +kernel | with_reducible exact Option.isSome_some | omega | with_reducible exact decide_eq_true (by omega) | with_reducible exact decide_eq_false (by omega) | with_reducible exact beq_iff_eq.2 (by omega) | with_reducible exact beq_eq_false_iff_ne.2 (by omega) | with_reducible exact bne_iff_ne.2 (by omega) | with_reducible exact bne_eq_false_iff_eq.2 (by omega) | skip) fun β a w hβ hl S => ?_
    exact xret hT S rfl ⟨_, rfl, rfl, S.sh⟩
theorem c10 {A A' : Option Addr} {n c c' : Nat} {xs : List Nat} (H : SH u w L) (hR : Rows L A n 1 (xs.map fV)) (hR' : Rows L A' n 1 (xs.map fV)) (hn : n ≤ 3000) (hx : ∀ x ∈ xs, Num .f32 x ∧ x < 2 ^ 32) : Ret Try.prog 10 [.slice A n c, .slice A' n c'] w (Pl u L fun v => v = .bool true) := by
  refine ent Try.func10 rfl H 9 rfl [(0, .v (.slice A n c)), (1, .v (.slice A' n c'))] rfl rfl fun a S => ?_
  refine xr hT S rfl true [] 200 rfl (by (repeat' apply And.intro); all_goals first | exact True.intro | with_reducible assumption | decide +kernel | with_reducible exact Option.isSome_some | omega | with_reducible exact decide_eq_true (by omega) | with_reducible exact decide_eq_false (by omega) | with_reducible exact beq_iff_eq.2 (by omega) | with_reducible exact beq_eq_false_iff_ne.2 (by omega) | with_reducible exact bne_iff_ne.2 (by omega) | with_reducible exact bne_eq_false_iff_eq.2 (by omega) | skip) fun β a w hβ hl S => ?_
  refine xP S rfl rfl rfl rfl rfl rfl en22 (fun H => c22 H hR hR' hn hx) fun v a w hv S => ?_
  subst hv
  refine xr hT S hl true [] 200 rfl (by (repeat' apply And.intro); all_goals first | exact True.intro | with_reducible assumption | decide +kernel | with_reducible exact Option.isSome_some | omega | with_reducible exact decide_eq_true (by omega) | with_reducible exact decide_eq_false (by omega) | with_reducible exact beq_iff_eq.2 (by omega) | with_reducible exact beq_eq_false_iff_ne.2 (by omega) | with_reducible exact bne_iff_ne.2 (by omega) | with_reducible exact bne_eq_false_iff_eq.2 (by omega) | skip) fun β a w hβ hl S => ?_
  exact xret hT S rfl ⟨_, rfl, rfl, S.sh⟩
end Go.SX
