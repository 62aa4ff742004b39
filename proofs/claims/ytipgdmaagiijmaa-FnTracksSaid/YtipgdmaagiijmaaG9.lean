import Derived.Test.YtipgdmaagiijmaaG8
import Derived.Laws.Strings
set_option maxRecDepth 100000
set_option linter.unusedVariables false
set_option linter.unusedSectionVars false
namespace Go.SX
open Go.Proofs
variable {u w : World} {L B : List Hp} {b : Nat} {M : Hp}
theorem c51 {x lo hi : Int} (H : SH u w L) (h1 : lo ≤ x) (h2 : x ≤ hi) : Ret Try.prog 51 [.int .i64 x, .int .i64 lo, .int .i64 hi] w (Pl u L fun v => v = .bool true) := by
  refine ent Try.func51 rfl H 15 rfl [(0, .v (.int .i64 x)), (1, .v (.int .i64 lo)), (2, .v (.int .i64 hi))] rfl rfl fun a S => ?_
  refine xr hT S rfl true [.b true] 200 rfl (by (repeat' apply And.intro); all_goals first | exact True.intro | with_reducible assumption | decide +kernel | with_reducible exact Option.isSome_some | omega | with_reducible exact decide_eq_true (by omega) | with_reducible exact decide_eq_false (by omega) | with_reducible exact beq_iff_eq.2 (by omega) | with_reducible exact beq_eq_false_iff_ne.2 (by omega) | with_reducible exact bne_iff_ne.2 (by omega) | with_reducible exact bne_eq_false_iff_eq.2 (by omega) | skip) fun β a w hβ hl S => ?_
  refine xret hT S rfl ⟨_, rfl, ?_, S.sh⟩
  show Value.bool (decide (x ≤ hi)) = _
  rw [decide_eq_true h2]
theorem ba_size (l : List UInt8) : (ByteArray.mk l.toArray).size = l.length := by simp [ByteArray.size]
theorem c111p {n : Nat} (H : SH u w L) (hn : n ≤ 1099511627776) : Ret Try.prog 111 [.int .i64 (n : Int)] w fun v w' => (∃ s : ByteArray, v = .string s ∧ 1 ≤ s.size ∧ s.size ≤ 2199023255552) ∧ SH u w' L := by
  refine ent Try.func111 rfl H 31 rfl [(0, .v (.int .i64 (n : Int)))] rfl rfl fun a S => ?_
  refine xr hT S rfl true [.b false] 200 rfl (by (repeat' apply And.intro); all_goals first | exact True.intro | with_reducible assumption | decide +kernel | with_reducible exact Option.isSome_some | omega | with_reducible exact decide_eq_true (by omega) | with_reducible exact decide_eq_false (by omega) | with_reducible exact beq_iff_eq.2 (by omega) | with_reducible exact beq_eq_false_iff_ne.2 (by omega) | with_reducible exact bne_iff_ne.2 (by omega) | with_reducible exact bne_eq_false_iff_eq.2 (by omega) | skip) fun β a w hβ hl S => ?_
  have e1 : (n : Int) / 10 = ((n / 10 : Nat) : Int) := by omega
  rw [e1] at S
  refine xloop (fun (d : Nat) a w => ∃ β s, β.length = 0 ∧ 1 ≤ ByteArray.size s ∧ ByteArray.size s + d ≤ 1099511627776 + 1 ∧ St β u w a 31 [(0, .v (.int .i64 (d : Int))), (3, .v (.string s))] [] L) id (n / 10) ?_ fun d a w ⟨β, s, hl, hs, hd, S⟩ => ?_
  · obtain ⟨βz, hlz, S⟩ := ((S.keep [0, 3] rfl).dropb).cut 0 (by omega) (by simp [SV.wfs, SV.wf]) (by simp)
    refine ⟨βz, _, hlz, ?_, ?_, S⟩
    · rw [ba_size]; simp
    · rw [ba_size]; simp; omega
  · by_cases h0 : d = 0
    · subst h0
      refine xr hT S hl true [.b false] 200 rfl (by (repeat' apply And.intro); all_goals first | exact True.intro | with_reducible assumption | decide +kernel | with_reducible exact Option.isSome_some | omega | with_reducible exact decide_eq_true (by omega) | with_reducible exact decide_eq_false (by omega) | with_reducible exact beq_iff_eq.2 (by omega) | with_reducible exact beq_eq_false_iff_ne.2 (by omega) | with_reducible exact bne_iff_ne.2 (by omega) | with_reducible exact bne_eq_false_iff_eq.2 (by omega) | skip) fun β a w hβ hl S => ?_
      exact xret hT S rfl ⟨_, rfl, ⟨s, rfl, hs, by omega⟩, S.sh⟩
    · have e2 : (d : Int) / 10 = ((d / 10 : Nat) : Int) := by omega
      refine xr hT S hl true [.b true] 200 rfl ?_ fun β a w hβ hl S => ?_
      · (repeat' apply And.intro); all_goals first | exact True.intro | with_reducible assumption | decide +kernel | with_reducible exact Option.isSome_some | omega | with_reducible exact decide_eq_true (by omega) | with_reducible exact decide_eq_false (by omega) | with_reducible exact beq_iff_eq.2 (by omega) | with_reducible exact beq_eq_false_iff_ne.2 (by omega) | with_reducible exact bne_iff_ne.2 (by omega) | with_reducible exact bne_eq_false_iff_eq.2 (by omega) | skip
        all_goals (rw [ba_size]; simp; omega)
      rw [e2] at S
      obtain ⟨βz, hlz, S⟩ := ((S.keep [0, 3] rfl).dropb).cut 0 (by omega) (by simp [SV.wfs, SV.wf]) (by simp)
      refine xj ⟨d / 10, ⟨βz, _, hlz, ?_, ?_, S⟩, by simp only [id]; omega⟩
      · rw [ByteArray.size_append, ba_size]; simp
      · rw [ByteArray.size_append, ba_size]; simp; omega
theorem c111 {n : Int} (H : SH u w L) (hn : n.natAbs ≤ 1099511627776) : Ret Try.prog 111 [.int .i64 n] w fun v w' => (∃ s : ByteArray, v = .string s ∧ 1 ≤ s.size ∧ s.size ≤ 4398046511104) ∧ SH u w' L := by
  by_cases h : 0 ≤ n
  · obtain ⟨m, rfl⟩ := Int.eq_ofNat_of_zero_le h
    exact (c111p H (by simpa using hn)).mono fun v w' ⟨⟨s, h1, h2, h3⟩, H⟩ => ⟨⟨s, h1, h2, by omega⟩, H⟩
  · refine ent Try.func111 rfl H 31 rfl [(0, .v (.int .i64 n))] rfl rfl fun a S => ?_
    refine xr hT S rfl true [.b true] 200 rfl (by (repeat' apply And.intro); all_goals first | exact True.intro | with_reducible assumption | decide +kernel | with_reducible exact Option.isSome_some | omega | with_reducible exact decide_eq_true (by omega) | with_reducible exact decide_eq_false (by omega) | with_reducible exact beq_iff_eq.2 (by omega) | with_reducible exact beq_eq_false_iff_ne.2 (by omega) | with_reducible exact bne_iff_ne.2 (by omega) | with_reducible exact bne_eq_false_iff_eq.2 (by omega) | skip) fun β a w hβ hl S => ?_
    have e1 : (0 : Int) - n = (n.natAbs : Int) := by omega
    rw [e1] at S
    refine xc S rfl rfl rfl rfl rfl en111 (c111p S.sh hn) fun v w ⟨⟨s, hv, h1, h2⟩, H⟩ => ?_
    have S := S.put (d := some 8) (v := v) H rfl
    subst hv
    refine xr hT S hl true [] 200 rfl ?_ fun β a w hβ hl S => ?_
    · (repeat' apply And.intro); all_goals first | exact True.intro | with_reducible assumption | decide +kernel | with_reducible exact Option.isSome_some | omega | with_reducible exact decide_eq_true (by omega) | with_reducible exact decide_eq_false (by omega) | with_reducible exact beq_iff_eq.2 (by omega) | with_reducible exact beq_eq_false_iff_ne.2 (by omega) | with_reducible exact bne_iff_ne.2 (by omega) | with_reducible exact bne_eq_false_iff_eq.2 (by omega) | skip
      all_goals (show 1 + s.size ≤ _; omega)
    refine xret hT S rfl ⟨_, rfl, ⟨_, rfl, ?_, ?_⟩, S.sh⟩
    · rw [ByteArray.size_append]; omega
    · rw [ByteArray.size_append]; show 1 + s.size ≤ _; omega
/-! ### a number's parts, for the numbers that are asked here -/
def dbl (x : Nat) : Nat → Nat
  | 0 => x
  | i + 1 => fop .mul .f64 (dbl x i) 4611686018427387904
def toI (x : Nat) : Int := (floatToIntVal .f64 x .i64).getD 0
def partB (x k : Nat) : Bool :=
  (fcmp .geq .f64 x 4845873199050653696 == false) && ((List.range (k + 1)).all fun i => (floatToIntVal .f64 (dbl x i) .i64).isSome) &&
  ((List.range k).all fun i => fcmp .neq .f64 (dbl x i) (FloatKind.f64.nearest (toI (dbl x i))) && (floatBits .mul .f64 (dbl x i) 4611686018427387904).isSome) &&
  (fcmp .neq .f64 (dbl x k) (FloatKind.f64.nearest (toI (dbl x k))) == false) && decide (0 ≤ toI (dbl x k)) && decide (toI (dbl x k) ≤ 1099511627776) && (toI (dbl x k) % 2 == 1) && decide (k ≤ 1000)
theorem c110 {x k : Nat} (H : SH u w L) (h : partB x k = true) : Ret Try.prog 110 [.float .f64 x] w (Pl u L fun v => v = .tuple #[.int .i64 (toI (dbl x k)), .int .i64 (0 - (k : Int))]) := by
  simp only [partB, Bool.and_eq_true, beq_iff_eq, decide_eq_true_eq] at h
  obtain ⟨⟨⟨⟨⟨⟨⟨p1, p2⟩, p3⟩, p4⟩, p5⟩, p6⟩, p7⟩, p8⟩ := h
  refine ent Try.func110 rfl H 32 rfl [(0, .v (.float .f64 x))] rfl rfl fun a S => ?_
  refine xr hT S rfl true [] 200 rfl (by (repeat' apply And.intro); all_goals first | exact True.intro | with_reducible assumption | decide +kernel | with_reducible exact Option.isSome_some | omega | with_reducible exact decide_eq_true (by omega) | with_reducible exact decide_eq_false (by omega) | with_reducible exact beq_iff_eq.2 (by omega) | with_reducible exact beq_eq_false_iff_ne.2 (by omega) | with_reducible exact bne_iff_ne.2 (by omega) | with_reducible exact bne_eq_false_iff_eq.2 (by omega) | skip) fun β a w hβ hl S => ?_
  refine xloop (fun (_ : Unit) a w => ∃ β, β.length = 0 ∧ St β u w a 32 [(0, .v (.float .f64 x)), (4, .v (.int .i64 0))] [] L) (fun _ => 0) () ⟨β, hl, S.keep [0, 4] rfl⟩ fun _ a w ⟨β, hl, S⟩ => ?_
  refine xr hT S hl true [.b false] 200 rfl (by (repeat' apply And.intro); all_goals first | exact True.intro | with_reducible assumption | decide +kernel | with_reducible exact Option.isSome_some | omega | with_reducible exact decide_eq_true (by omega) | with_reducible exact decide_eq_false (by omega) | with_reducible exact beq_iff_eq.2 (by omega) | with_reducible exact beq_eq_false_iff_ne.2 (by omega) | with_reducible exact bne_iff_ne.2 (by omega) | with_reducible exact bne_eq_false_iff_eq.2 (by omega) | skip) fun β a w hβ hl S => ?_
  refine xloop (fun (i : Nat) a w => ∃ β, β.length = 0 ∧ i ≤ k ∧ St β u w a 32 [(0, .v (.float .f64 (dbl x i))), (4, .v (.int .i64 (0 - (i : Int))))] [] L) (fun i => k - i) 0 ⟨β, hl, Nat.zero_le _, S.keep [0, 4] rfl⟩ fun i a w ⟨β, hl, hi, S⟩ => ?_
  have q2 := List.all_eq_true.1 p2 i (by simp; omega)
  by_cases hik : i < k
  · have q3 := List.all_eq_true.1 p3 i (by simpa using hik)
    simp only [Bool.and_eq_true] at q3
    obtain ⟨q4, q5⟩ := q3
    refine xr hT S hl true [.b true] 200 rfl ?_ fun β a w hβ hl S => ?_
    · (repeat' apply And.intro); all_goals first | exact True.intro | with_reducible assumption | decide +kernel | with_reducible exact Option.isSome_some | omega | with_reducible exact decide_eq_true (by omega) | with_reducible exact decide_eq_false (by omega) | with_reducible exact beq_iff_eq.2 (by omega) | with_reducible exact beq_eq_false_iff_ne.2 (by omega) | with_reducible exact bne_iff_ne.2 (by omega) | with_reducible exact bne_eq_false_iff_eq.2 (by omega) | skip
      all_goals exact q4
    have e1 : (0 : Int) - i - 1 = 0 - ((i + 1 : Nat) : Int) := by omega
    rw [e1] at S
    exact xj ⟨i + 1, ⟨β, hl, by omega, S.keep [0, 4] rfl⟩, by omega⟩
  · have e1 : i = k := by omega
    subst e1
    refine xr hT S hl true [.b false] 200 rfl ?_ fun β a w hβ hl S => ?_
    · (repeat' apply And.intro); all_goals first | exact True.intro | with_reducible assumption | decide +kernel | with_reducible exact Option.isSome_some | omega | with_reducible exact decide_eq_true (by omega) | with_reducible exact decide_eq_false (by omega) | with_reducible exact beq_iff_eq.2 (by omega) | with_reducible exact beq_eq_false_iff_ne.2 (by omega) | with_reducible exact bne_iff_ne.2 (by omega) | with_reducible exact bne_eq_false_iff_eq.2 (by omega) | skip
      all_goals exact p4
    refine xloop (fun (_ : Unit) a w => ∃ β, β.length = 0 ∧ St β u w a 32 [(5, .v (.int .i64 (toI (dbl x i)))), (4, .v (.int .i64 (0 - (i : Int))))] [] L) (fun _ => 0) () ⟨β, hl, S.keep [5, 4] rfl⟩ fun _ a w ⟨β, hl, S⟩ => ?_
    refine xr hT S hl true [.b false] 200 rfl ?_ fun β a w hβ hl S => ?_
    · (repeat' apply And.intro); all_goals first | exact True.intro | with_reducible assumption | decide +kernel | with_reducible exact Option.isSome_some | omega | with_reducible exact decide_eq_true (by omega) | with_reducible exact decide_eq_false (by omega) | with_reducible exact beq_iff_eq.2 (by omega) | with_reducible exact beq_eq_false_iff_ne.2 (by omega) | with_reducible exact bne_iff_ne.2 (by omega) | with_reducible exact bne_eq_false_iff_eq.2 (by omega) | skip
      all_goals (rw [p7]; rfl)
    exact xret hT S rfl ⟨_, rfl, rfl, S.sh⟩
theorem c101p {x k : Nat} (H : SH u w L) (hx : Num .f64 x) (hl : x < 2 ^ 64) (h0 : fcmp .eql .f64 x 0 = false) (h1 : fcmp .lss .f64 x 0 = false) (h : partB (fabs x) k = true) : Ret Try.prog 101 [.float .f64 x] w fun v w' => (∃ s : ByteArray, v = .string s ∧ 3 ≤ s.size) ∧ SH u w' L := by
  refine ent Try.func101 rfl H 30 rfl [(0, .v (.float .f64 x))] rfl rfl fun a S => ?_
  refine xr hT S rfl true [] 200 rfl (by (repeat' apply And.intro); all_goals first | exact True.intro | with_reducible assumption | decide +kernel | with_reducible exact Option.isSome_some | omega | with_reducible exact decide_eq_true (by omega) | with_reducible exact decide_eq_false (by omega) | with_reducible exact beq_iff_eq.2 (by omega) | with_reducible exact beq_eq_false_iff_ne.2 (by omega) | with_reducible exact bne_iff_ne.2 (by omega) | with_reducible exact bne_eq_false_iff_eq.2 (by omega) | skip) fun β a w hβ hl' S => ?_
  refine xP S rfl rfl rfl rfl rfl rfl en77 (fun H => c77 H) fun v a w ⟨y, hv, hy⟩ S => ?_
  have : y = true := hy.2 hx
  subst this
  subst hv
  refine xr hT S hl' true [.b false, .b false, .b false] 200 rfl (by (repeat' apply And.intro); all_goals first | exact True.intro | with_reducible assumption | decide +kernel | with_reducible exact Option.isSome_some | omega | with_reducible exact decide_eq_true (by omega) | with_reducible exact decide_eq_false (by omega) | with_reducible exact beq_iff_eq.2 (by omega) | with_reducible exact beq_eq_false_iff_ne.2 (by omega) | with_reducible exact bne_iff_ne.2 (by omega) | with_reducible exact bne_eq_false_iff_eq.2 (by omega) | skip) fun β a w hβ hl' S => ?_
  refine xP S rfl rfl rfl rfl rfl rfl en104 (fun H => c104 H hx hl) fun v a w hv S => ?_
  subst hv
  refine xP S rfl rfl rfl rfl rfl rfl en110 (fun H => c110 H h) fun v a w hv S => ?_
  subst hv
  simp only [partB, Bool.and_eq_true, beq_iff_eq, decide_eq_true_eq] at h
  obtain ⟨⟨⟨⟨⟨⟨⟨p1, p2⟩, p3⟩, p4⟩, p5⟩, p6⟩, p7⟩, p8⟩ := h
  refine xr hT S hl' true [] 200 rfl (by (repeat' apply And.intro); all_goals first | exact True.intro | with_reducible assumption | decide +kernel | with_reducible exact Option.isSome_some | omega | with_reducible exact decide_eq_true (by omega) | with_reducible exact decide_eq_false (by omega) | with_reducible exact beq_iff_eq.2 (by omega) | with_reducible exact beq_eq_false_iff_ne.2 (by omega) | with_reducible exact bne_iff_ne.2 (by omega) | with_reducible exact bne_eq_false_iff_eq.2 (by omega) | skip) fun β a w hβ hl' S => ?_
  refine xc S rfl rfl rfl rfl rfl en111 (c111 S.sh (by omega)) fun v w ⟨⟨s1, hv, g1, g2⟩, H⟩ => ?_
  have S := S.put (d := some 24) (v := v) H rfl
  subst hv
  refine xr hT S hl' true [] 200 rfl ?_ fun β a w hβ hl' S => ?_
  · (repeat' apply And.intro); all_goals first | exact True.intro | with_reducible assumption | decide +kernel | with_reducible exact Option.isSome_some | omega | with_reducible exact decide_eq_true (by omega) | with_reducible exact decide_eq_false (by omega) | with_reducible exact beq_iff_eq.2 (by omega) | with_reducible exact beq_eq_false_iff_ne.2 (by omega) | with_reducible exact bne_iff_ne.2 (by omega) | with_reducible exact bne_eq_false_iff_eq.2 (by omega) | skip
    all_goals first | (show 0 + s1.size ≤ _; omega) | (rw [ByteArray.size_append]; show 0 + s1.size + 1 ≤ _; omega)
  refine xc S rfl rfl rfl rfl rfl en111 (c111 S.sh (by omega)) fun v w ⟨⟨s2, hv, g3, g4⟩, H⟩ => ?_
  have S := S.put (d := some 28) (v := v) H rfl
  subst hv
  refine xr hT S hl' true [] 200 rfl ?_ fun β a w hβ hl' S => ?_
  · (repeat' apply And.intro); all_goals first | exact True.intro | with_reducible assumption | decide +kernel | with_reducible exact Option.isSome_some | omega | with_reducible exact decide_eq_true (by omega) | with_reducible exact decide_eq_false (by omega) | with_reducible exact beq_iff_eq.2 (by omega) | with_reducible exact beq_eq_false_iff_ne.2 (by omega) | with_reducible exact bne_iff_ne.2 (by omega) | with_reducible exact bne_eq_false_iff_eq.2 (by omega) | skip
    all_goals (rw [ByteArray.size_append, ByteArray.size_append]; show 0 + s1.size + 1 + s2.size ≤ _; omega)
  refine xret hT S rfl ⟨_, rfl, ⟨_, rfl, ?_⟩, S.sh⟩
  rw [ByteArray.size_append, ByteArray.size_append, ByteArray.size_append]
  show 3 ≤ 0 + s1.size + 1 + s2.size
  omega
end Go.SX
set_option maxRecDepth 100000
set_option linter.unusedVariables false
set_option linter.unusedSectionVars false
namespace Go.SX
open Go.Proofs
variable {u w : World} {L B : List Hp} {b : Nat} {M : Hp}
def ba0 : ByteArray := ⟨#[48]⟩
theorem c101z (H : SH u w L) : Ret Try.prog 101 [.float .f64 0] w (Pl u L fun v => v = .string ba0) := by
  refine ent Try.func101 rfl H 30 rfl [(0, .v (.float .f64 0))] rfl rfl fun a S => ?_
  refine xr hT S rfl true [] 200 rfl (by (repeat' apply And.intro); all_goals first | exact True.intro | with_reducible assumption | decide +kernel | with_reducible exact Option.isSome_some | omega | with_reducible exact decide_eq_true (by omega) | with_reducible exact decide_eq_false (by omega) | with_reducible exact beq_iff_eq.2 (by omega) | with_reducible exact beq_eq_false_iff_ne.2 (by omega) | with_reducible exact bne_iff_ne.2 (by omega) | with_reducible exact bne_eq_false_iff_eq.2 (by omega) | skip) fun β a w hβ hl' S => ?_
  refine xP S rfl rfl rfl rfl rfl rfl en77 (fun H => c77 H) fun v a w ⟨y, hv, hy⟩ S => ?_
  have : y = true := hy.2 num_zero
  subst this
  subst hv
  refine xr hT S hl' true [.b false, .b true, .b false] 200 rfl (by (repeat' apply And.intro); all_goals first | exact True.intro | with_reducible assumption | decide +kernel | with_reducible exact Option.isSome_some | omega | with_reducible exact decide_eq_true (by omega) | with_reducible exact decide_eq_false (by omega) | with_reducible exact beq_iff_eq.2 (by omega) | with_reducible exact beq_eq_false_iff_ne.2 (by omega) | with_reducible exact bne_iff_ne.2 (by omega) | with_reducible exact bne_eq_false_iff_eq.2 (by omega) | skip) fun β a w hβ hl' S => ?_
  exact xret hT S rfl ⟨_, rfl, rfl, S.sh⟩
theorem wd0 : wd 0 = 0 := by decide +kernel
/-- the text of a release -/
theorem c78 {x : Nat} (H : SH u w L) (hx : Rel x) : Ret Try.prog 78 [.float .f32 x] w fun v w' => (∃ s : ByteArray, v = .string s ∧ (s = ba0 ∨ 3 ≤ s.size)) ∧ SH u w' L := by
  obtain ⟨b1, b2, b3, b4, b5⟩ := rel_ok hx
  obtain ⟨q1, q2⟩ := wd_spec b2 b1
  refine ent Try.func78 rfl H 6 rfl [(0, .v (.float .f32 x))] rfl rfl fun a S => ?_
  refine xr hT S rfl true [] 200 rfl ?_ fun β a w hβ hl' S => ?_
  · (repeat' apply And.intro); all_goals first | exact True.intro | with_reducible assumption | decide +kernel | with_reducible exact Option.isSome_some | omega | with_reducible exact decide_eq_true (by omega) | with_reducible exact decide_eq_false (by omega) | with_reducible exact beq_iff_eq.2 (by omega) | with_reducible exact beq_eq_false_iff_ne.2 (by omega) | with_reducible exact bne_iff_ne.2 (by omega) | with_reducible exact bne_eq_false_iff_eq.2 (by omega) | skip
    all_goals (rw [q1]; rfl)
  have ew : (floatToFloatBits .f32 x .f64).getD 0 = wd x := rfl
  rw [ew] at S
  have hcall : Ret Try.prog 101 [.float .f64 (wd x)] w fun v w' => (∃ s : ByteArray, v = .string s ∧ (s = ba0 ∨ 3 ≤ s.size)) ∧ SH u w' L := by
    have big : ∀ {k : Nat}, fcmp .eql .f64 (wd x) 0 = false → fcmp .lss .f64 (wd x) 0 = false → partB (fabs (wd x)) k = true → Ret Try.prog 101 [.float .f64 (wd x)] w fun v w' => (∃ s : ByteArray, v = .string s ∧ (s = ba0 ∨ 3 ≤ s.size)) ∧ SH u w' L :=
      fun h0 h1 h => (c101p S.sh q2.num q2.lt64 h0 h1 h).mono fun v w' ⟨⟨s, h1, h2⟩, H⟩ => ⟨⟨s, h1, .inr h2⟩, H⟩
    rcases hx with rfl | rfl | rfl | rfl
    · rw [wd0]
      exact (c101z S.sh).mono fun v w' ⟨hv, H⟩ => ⟨⟨_, hv, .inl rfl⟩, H⟩
    · exact big (k := 1) (by decide +kernel) (by decide +kernel) (by decide +kernel)
    · exact big (k := 22) (by decide +kernel) (by decide +kernel) (by decide +kernel)
    · exact big (k := 0) (by decide +kernel) (by decide +kernel) (by decide +kernel)
  refine xc S rfl rfl rfl rfl rfl en101 hcall fun v w ⟨⟨s, hv, hs⟩, H⟩ => ?_
  have S := S.put (d := some 5) (v := v) H rfl
  subst hv
  refine xr hT S hl' true [] 200 rfl (by (repeat' apply And.intro); all_goals first | exact True.intro | with_reducible assumption | decide +kernel | with_reducible exact Option.isSome_some | omega | with_reducible exact decide_eq_true (by omega) | with_reducible exact decide_eq_false (by omega) | with_reducible exact beq_iff_eq.2 (by omega) | with_reducible exact beq_eq_false_iff_ne.2 (by omega) | with_reducible exact bne_iff_ne.2 (by omega) | with_reducible exact bne_eq_false_iff_eq.2 (by omega) | skip) fun β a w hβ hl' S => ?_
  exact xret hT S rfl ⟨_, rfl, ⟨s, rfl, hs⟩, S.sh⟩
theorem neq_m0 {s : ByteArray} (hs : s = ba0 ∨ 3 ≤ s.size) {t : ByteArray} (ht : t.data.toList = [45, 48]) : (!(s.toList == t.toList)) = true := by
  rw [ByteArray.toList_eq, ByteArray.toList_eq, ht]
  rcases hs with rfl | hs
  · decide
  · rw [Bool.not_eq_true', beq_eq_false_iff_ne]
    intro h
    have := congrArg List.length h
    have h2 : s.data.toList.length = s.size := rfl
    rw [h2] at this
    simp at this
    omega
theorem c52 {ce re : Nat} (H : SH u w L) (hc : Ceil ce) (hr : Rel re) : Ret Try.prog 52 [.float .f32 ce, .float .f32 re] w (Pl u L fun v => v = .bool true) := by
  obtain ⟨a1, a2, a3⟩ := ceil_ok hc
  obtain ⟨b1, b2, b3, b4, b5⟩ := rel_ok hr
  obtain ⟨p1, p2⟩ := wd_spec a2 a1
  refine ent Try.func52 rfl H 25 rfl [(0, .v (.float .f32 ce)), (1, .v (.float .f32 re))] rfl rfl fun a S => ?_
  refine xr hT S rfl true [.b true] 200 rfl ?_ fun β a w hβ hl S => ?_
  · (repeat' apply And.intro); all_goals first | exact True.intro | with_reducible assumption | decide +kernel | with_reducible exact Option.isSome_some | omega | with_reducible exact decide_eq_true (by omega) | with_reducible exact decide_eq_false (by omega) | with_reducible exact beq_iff_eq.2 (by omega) | with_reducible exact beq_eq_false_iff_ne.2 (by omega) | with_reducible exact bne_iff_ne.2 (by omega) | with_reducible exact bne_eq_false_iff_eq.2 (by omega) | skip
    all_goals first | exact a3 | (rw [p1]; rfl)
  refine xP S rfl rfl rfl rfl rfl rfl en77 (fun H => c77 H) fun v a w ⟨y, hv, hy⟩ S => ?_
  have : y = true := hy.2 p2.num
  subst this
  subst hv
  refine xr hT S hl true [.b true, .b true, .b true] 200 rfl ?_ fun β a w hβ hl S => ?_
  · (repeat' apply And.intro); all_goals first | exact True.intro | with_reducible assumption | decide +kernel | with_reducible exact Option.isSome_some | omega | with_reducible exact decide_eq_true (by omega) | with_reducible exact decide_eq_false (by omega) | with_reducible exact beq_iff_eq.2 (by omega) | with_reducible exact beq_eq_false_iff_ne.2 (by omega) | with_reducible exact bne_iff_ne.2 (by omega) | with_reducible exact bne_eq_false_iff_eq.2 (by omega) | skip
    all_goals first | exact b3 | exact b4
  refine xc S rfl rfl rfl rfl rfl en78 (c78 S.sh hr) fun v w ⟨⟨s, hv, hs⟩, H⟩ => ?_
  have S := S.put (d := some 22) (v := v) H rfl
  subst hv
  refine xr hT S hl true [] 200 rfl (by (repeat' apply And.intro); all_goals first | exact True.intro | with_reducible assumption | decide +kernel | with_reducible exact Option.isSome_some | omega | with_reducible exact decide_eq_true (by omega) | with_reducible exact decide_eq_false (by omega) | with_reducible exact beq_iff_eq.2 (by omega) | with_reducible exact beq_eq_false_iff_ne.2 (by omega) | with_reducible exact bne_iff_ne.2 (by omega) | with_reducible exact bne_eq_false_iff_eq.2 (by omega) | skip) fun β a w hβ hl S => ?_
  refine xret hT S rfl ⟨_, rfl, ?_, S.sh⟩
  refine congrArg Value.bool ?_
  exact neq_m0 hs rfl
theorem c81 (H : SH u w L) : Ret Try.prog 81 [.float .f32 0] w (Pl u L fun v => v = .bool true) := by
  refine ent Try.func81 rfl H 6 rfl [(0, .v (.float .f32 0))] rfl rfl fun a S => ?_
  refine xr hT S rfl true [] 200 rfl (by (repeat' apply And.intro); all_goals first | exact True.intro | with_reducible assumption | decide +kernel | with_reducible exact Option.isSome_some | omega | with_reducible exact decide_eq_true (by omega) | with_reducible exact decide_eq_false (by omega) | with_reducible exact beq_iff_eq.2 (by omega) | with_reducible exact beq_eq_false_iff_ne.2 (by omega) | with_reducible exact bne_iff_ne.2 (by omega) | with_reducible exact bne_eq_false_iff_eq.2 (by omega) | skip) fun β a w hβ hl S => ?_
  have h0 : Ret Try.prog 78 [.float .f32 0] w (Pl u L fun v => v = .string ba0) := by
    refine ent Try.func78 rfl S.sh 6 rfl [(0, .v (.float .f32 0))] rfl rfl fun a S => ?_
    refine xr hT S rfl true [] 200 rfl (by (repeat' apply And.intro); all_goals first | exact True.intro | with_reducible assumption | decide +kernel | with_reducible exact Option.isSome_some | omega | with_reducible exact decide_eq_true (by omega) | with_reducible exact decide_eq_false (by omega) | with_reducible exact beq_iff_eq.2 (by omega) | with_reducible exact beq_eq_false_iff_ne.2 (by omega) | with_reducible exact bne_iff_ne.2 (by omega) | with_reducible exact bne_eq_false_iff_eq.2 (by omega) | skip) fun β a w hβ hl S => ?_
    have ew : (floatToFloatBits .f32 0 .f64).getD 0 = 0 := wd0
    rw [ew] at S
    refine xP S rfl rfl rfl rfl rfl rfl en101 (fun H => c101z H) fun v a w hv S => ?_
    subst hv
    refine xr hT S hl true [] 200 rfl (by (repeat' apply And.intro); all_goals first | exact True.intro | with_reducible assumption | decide +kernel | with_reducible exact Option.isSome_some | omega | with_reducible exact decide_eq_true (by omega) | with_reducible exact decide_eq_false (by omega) | with_reducible exact beq_iff_eq.2 (by omega) | with_reducible exact beq_eq_false_iff_ne.2 (by omega) | with_reducible exact bne_iff_ne.2 (by omega) | with_reducible exact bne_eq_false_iff_eq.2 (by omega) | skip) fun β a w hβ hl S => ?_
    exact xret hT S rfl ⟨_, rfl, rfl, S.sh⟩
  refine xP S rfl rfl rfl rfl rfl rfl en78 (fun _ => h0) fun v a w hv S => ?_
  subst hv
  refine xr hT S hl true [] 200 rfl (by (repeat' apply And.intro); all_goals first | exact True.intro | with_reducible assumption | decide +kernel | with_reducible exact Option.isSome_some | omega | with_reducible exact decide_eq_true (by omega) | with_reducible exact decide_eq_false (by omega) | with_reducible exact beq_iff_eq.2 (by omega) | with_reducible exact beq_eq_false_iff_ne.2 (by omega) | with_reducible exact bne_iff_ne.2 (by omega) | with_reducible exact bne_eq_false_iff_eq.2 (by omega) | skip) fun β a w hβ hl S => ?_
  refine xret hT S rfl ⟨_, rfl, ?_, S.sh⟩
  refine congrArg Value.bool ?_
  rw [ByteArray.toList_eq, ByteArray.toList_eq]
  rfl
theorem c79 {A : Option Addr} {n c : Nat} {ms : List Md} (H : SH u w L) (hR : Rows L A n 2 (ms.flatMap Md.cells)) (hlen : ms.length = n) (hn : n ≤ 16) (ho : ∀ m ∈ ms, m.ok) : Ret Try.prog 79 [.slice A n c] w (Pl u L fun v => v = .bool true) := by
  refine ent Try.func79 rfl H 18 rfl [(0, .v (.slice A n c))] rfl rfl fun a S => ?_
  refine xr hT S rfl true [] 200 rfl (by (repeat' apply And.intro); all_goals first | exact True.intro | with_reducible assumption | decide +kernel | with_reducible exact Option.isSome_some | omega | with_reducible exact decide_eq_true (by omega) | with_reducible exact decide_eq_false (by omega) | with_reducible exact beq_iff_eq.2 (by omega) | with_reducible exact beq_eq_false_iff_ne.2 (by omega) | with_reducible exact bne_iff_ne.2 (by omega) | with_reducible exact bne_eq_false_iff_eq.2 (by omega) | skip) fun β a w hβ hl S => ?_
  refine xloop (fun (i : Nat) a w => ∃ β, β.length = 0 ∧ i ≤ n ∧ St β u w a 18 [(0, .v (.slice A n c)), (5, .v (.slice A n c)), (6, .v (.int .i64 n)), (7, .v (.int .i64 (i : Int)))] [] L) (fun i => n - i) 0 ⟨β, hl, Nat.zero_le _, S.keep [0, 5, 6, 7] rfl⟩ fun i a w ⟨β, hl, hi, S⟩ => ?_
  by_cases hin : i < n
  · have him : i < ms.length := by omega
    obtain ⟨ad, rfl⟩ := hR.2.1 (by omega)
    have hc := (hR.2.2 ad rfl).elem md_len him
    have hok := ho _ (List.getElem_mem him)
    have ei : (i : Int) + 1 = ((i + 1 : Nat) : Int) := by omega
    refine xr hT S hl true [.b true, .v (ms[i]).cells] 200 rfl ?_ fun β1 a w hβ1 hl S => ?_
    · (repeat' apply And.intro); all_goals first | exact True.intro | with_reducible assumption | decide +kernel | with_reducible exact Option.isSome_some | omega | with_reducible exact decide_eq_true (by omega) | with_reducible exact decide_eq_false (by omega) | with_reducible exact beq_iff_eq.2 (by omega) | with_reducible exact beq_eq_false_iff_ne.2 (by omega) | with_reducible exact bne_iff_ne.2 (by omega) | with_reducible exact bne_eq_false_iff_eq.2 (by omega) | skip
      all_goals (show RdV L (ad.add (Int.toNat (i : Int) * 2)) _; rw [Int.toNat_natCast]; exact hc)
    refine xP S rfl rfl rfl rfl rfl rfl en57 (fun H => c57 H hok.lt.1.1 hok.lt.1.2 hok.lt.2.1 hok.lt.2.2) fun v a w ⟨y, hv, hy⟩ S => ?_
    have : y = true := hy.2 hok
    subst this
    subst hv
    refine xr hT S hl true [.b false] 200 rfl (by (repeat' apply And.intro); all_goals first | exact True.intro | with_reducible assumption | decide +kernel | with_reducible exact Option.isSome_some | omega | with_reducible exact decide_eq_true (by omega) | with_reducible exact decide_eq_false (by omega) | with_reducible exact beq_iff_eq.2 (by omega) | with_reducible exact beq_eq_false_iff_ne.2 (by omega) | with_reducible exact bne_iff_ne.2 (by omega) | with_reducible exact bne_eq_false_iff_eq.2 (by omega) | skip) fun β2 a w hβ2 hl S => ?_
    rw [ei] at S
    obtain ⟨βz, hlz, S⟩ := ((S.keep [0, 5, 6, 7] rfl).dropb).cut 0 (by omega) (by simp [SV.wfs, SV.wf]) (by simp)
    exact xj ⟨i + 1, ⟨βz, hlz, by omega, S⟩, by omega⟩
  · refine xr hT S hl true [.b false] 200 rfl (by (repeat' apply And.intro); all_goals first | exact True.intro | with_reducible assumption | decide +kernel | with_reducible exact Option.isSome_some | omega | with_reducible exact decide_eq_true (by omega) | with_reducible exact decide_eq_false (by omega) | with_reducible exact beq_iff_eq.2 (by omega) | with_reducible exact beq_eq_false_iff_ne.2 (by omega) | with_reducible exact bne_iff_ne.2 (by omega) | with_reducible exact bne_eq_false_iff_eq.2 (by omega) | skip) fun β1 a w hβ1 hl S => ?_
    refine xret hT S rfl ⟨_, rfl, ?_, S.sh⟩
    show Value.bool (decide ((n : Int) ≤ 16)) = _
    rw [decide_eq_true (by omega)]
theorem c53 {v : Value} {ms : List Md} (H : SH u w L) (hv : RBod L v ms) (h : ms.length ≤ 16) (ho : ∀ m ∈ ms, m.ok) : Ret Try.prog 53 [.agg #[v]] w (Pl u L fun v => v = .bool true) := by
  obtain ⟨A, c, rfl, hR⟩ := hv
  refine ent Try.func53 rfl H 6 rfl [(0, .v (.agg #[.slice A ms.length c]))] rfl rfl fun a S => ?_
  refine xr hT S rfl true [] 200 rfl (by (repeat' apply And.intro); all_goals first | exact True.intro | with_reducible assumption | decide +kernel | with_reducible exact Option.isSome_some | omega | with_reducible exact decide_eq_true (by omega) | with_reducible exact decide_eq_false (by omega) | with_reducible exact beq_iff_eq.2 (by omega) | with_reducible exact beq_eq_false_iff_ne.2 (by omega) | with_reducible exact bne_iff_ne.2 (by omega) | with_reducible exact bne_eq_false_iff_eq.2 (by omega) | skip) fun β a w hβ hl S => ?_
  refine xP S rfl rfl rfl rfl rfl rfl en79 (fun H => c79 H (hR.mono (List.subset_append_right _ _)) rfl h ho) fun v a w hv S => ?_
  subst hv
  refine xr hT S hl true [] 200 rfl (by (repeat' apply And.intro); all_goals first | exact True.intro | with_reducible assumption | decide +kernel | with_reducible exact Option.isSome_some | omega | with_reducible exact decide_eq_true (by omega) | with_reducible exact decide_eq_false (by omega) | with_reducible exact beq_iff_eq.2 (by omega) | with_reducible exact beq_eq_false_iff_ne.2 (by omega) | with_reducible exact bne_iff_ne.2 (by omega) | with_reducible exact bne_eq_false_iff_eq.2 (by omega) | skip) fun β a w hβ hl S => ?_
  exact xret hT S rfl ⟨_, rfl, rfl, S.tl'⟩
theorem c80 {kind : Int} {n : Nat} (H : SH u w L) (h0 : 0 ≤ kind) (h1 : kind ≤ 2) (h2 : 1 ≤ n) (h3 : n ≤ 9) : Ret Try.prog 80 [.int .i64 kind, .int .i64 n] w
    fun v w' => ∃ M A c, v = .tuple #[.slice A n c, .bool true] ∧ SH u w' (M :: L) := by
  refine ent Try.func80 rfl H 55 rfl [(0, .v (.int .i64 kind)), (1, .v (.int .i64 n))] rfl rfl fun a S => ?_
  refine xr hT S rfl true [] 200 rfl (by (repeat' apply And.intro); all_goals first | exact True.intro | with_reducible assumption | decide +kernel | with_reducible exact Option.isSome_some | omega | with_reducible exact decide_eq_true (by omega) | with_reducible exact decide_eq_false (by omega) | with_reducible exact beq_iff_eq.2 (by omega) | with_reducible exact beq_eq_false_iff_ne.2 (by omega) | with_reducible exact bne_iff_ne.2 (by omega) | with_reducible exact bne_eq_false_iff_eq.2 (by omega) | skip) fun β a w hβ hl S => ?_
  refine xP S rfl rfl rfl rfl rfl rfl en51 (fun H => c51 H h0 h1) fun v a w hv S => ?_
  subst hv
  refine xr hT S hl true [.b false] 200 rfl (by (repeat' apply And.intro); all_goals first | exact True.intro | with_reducible assumption | decide +kernel | with_reducible exact Option.isSome_some | omega | with_reducible exact decide_eq_true (by omega) | with_reducible exact decide_eq_false (by omega) | with_reducible exact beq_iff_eq.2 (by omega) | with_reducible exact beq_eq_false_iff_ne.2 (by omega) | with_reducible exact bne_iff_ne.2 (by omega) | with_reducible exact bne_eq_false_iff_eq.2 (by omega) | skip) fun β a w hβ hl S => ?_
  refine xP S rfl rfl rfl rfl rfl rfl en51 (fun H => c51 H (by omega) (by omega)) fun v a w hv S => ?_
  subst hv
  refine xr hT S hl true [.b false] 200 rfl (by (repeat' apply And.intro); all_goals first | exact True.intro | with_reducible assumption | decide +kernel | with_reducible exact Option.isSome_some | omega | with_reducible exact decide_eq_true (by omega) | with_reducible exact decide_eq_false (by omega) | with_reducible exact beq_iff_eq.2 (by omega) | with_reducible exact beq_eq_false_iff_ne.2 (by omega) | with_reducible exact bne_iff_ne.2 (by omega) | with_reducible exact bne_eq_false_iff_eq.2 (by omega) | skip) fun β a w hβ hl S => ?_
  have S := S.unbox (d := 6) rfl
  obtain ⟨βz, hlz, S⟩ := (S.keep [0, 1, 6, 7] rfl).cut 0 (by omega) (by simp [SV.wfs, SV.wf]) (by simp)
  refine xloop (fun (i : Nat) a w => ∃ β M A c xs, β.length = 0 ∧ i ≤ n ∧ Own M 23 1 (.slice A i c) i xs ∧ St β u w a 55 [(0, .v (.int .i64 kind)), (1, .v (.int .i64 n)), (6, .v (.slice A i c)), (7, .v (.int .i64 (i : Int)))] [] (M :: L)) (fun i => n - i) 0 ⟨βz, _, _, 0, _, hlz, Nat.zero_le _, Own.empty _ 23 1, S⟩ fun i a w ⟨β, M, A, c, xs, hl, hi, hO, S⟩ => ?_
  by_cases hin : i < n
  · have ei : (i : Int) + 1 = ((i + 1 : Nat) : Int) := by omega
    have hchk := chk_ok h3 hin
    simp only [chk, Bool.and_eq_true] at hchk
    obtain ⟨⟨⟨⟨⟨⟨k1, k2⟩, k3⟩, k4⟩, k5⟩, k6⟩, k7⟩ := hchk
    simp only [archT] at k3 k4 k5
    refine xr hT S hl true [.b true] 200 rfl (by (repeat' apply And.intro); all_goals first | exact True.intro | with_reducible assumption | decide +kernel | with_reducible exact Option.isSome_some | omega | with_reducible exact decide_eq_true (by omega) | with_reducible exact decide_eq_false (by omega) | with_reducible exact beq_iff_eq.2 (by omega) | with_reducible exact beq_eq_false_iff_ne.2 (by omega) | with_reducible exact bne_iff_ne.2 (by omega) | with_reducible exact bne_eq_false_iff_eq.2 (by omega) | skip) fun β1 a w hβ1 hl S => ?_
    refine xcut (fun a w => ∃ β x, β.length = 0 ∧ St β u w a 55 [(0, .v (.int .i64 kind)), (1, .v (.int .i64 n)), (6, .v (.slice A i c)), (7, .v (.int .i64 (i : Int))), (8, .v (.float .f32 x))] [] (M :: L)) ?_ fun a w ⟨β, x, hl, S⟩ => ?_
    · obtain hk | hk | hk : kind = 0 ∨ kind = 1 ∨ kind = 2 := by omega
      · subst hk
        by_cases hi0 : i = 0
        · refine xr hT S hl true [.b true, .b true] 200 rfl (by (repeat' apply And.intro); all_goals first | exact True.intro | with_reducible assumption | decide +kernel | with_reducible exact Option.isSome_some | omega | with_reducible exact decide_eq_true (by omega) | with_reducible exact decide_eq_false (by omega) | with_reducible exact beq_iff_eq.2 (by omega) | with_reducible exact beq_eq_false_iff_ne.2 (by omega) | with_reducible exact bne_iff_ne.2 (by omega) | with_reducible exact bne_eq_false_iff_eq.2 (by omega) | skip) fun β2 a w hβ2 hl S => ?_
          exact xj ⟨β2, _, hl, S.keep [0, 1, 6, 7, 8] rfl⟩
        · refine xr hT S hl true [.b true, .b false] 200 rfl (by (repeat' apply And.intro); all_goals first | exact True.intro | with_reducible assumption | decide +kernel | with_reducible exact Option.isSome_some | omega | with_reducible exact decide_eq_true (by omega) | with_reducible exact decide_eq_false (by omega) | with_reducible exact beq_iff_eq.2 (by omega) | with_reducible exact beq_eq_false_iff_ne.2 (by omega) | with_reducible exact bne_iff_ne.2 (by omega) | with_reducible exact bne_eq_false_iff_eq.2 (by omega) | skip) fun β2 a w hβ2 hl S => ?_
          exact xj ⟨β2, _, hl, S.keep [0, 1, 6, 7, 8] rfl⟩
      · subst hk
        refine xr hT S hl true [.b false, .b true] 200 rfl (by (repeat' apply And.intro); all_goals first | exact True.intro | with_reducible assumption | decide +kernel | with_reducible exact Option.isSome_some | omega | with_reducible exact decide_eq_true (by omega) | with_reducible exact decide_eq_false (by omega) | with_reducible exact beq_iff_eq.2 (by omega) | with_reducible exact beq_eq_false_iff_ne.2 (by omega) | with_reducible exact bne_iff_ne.2 (by omega) | with_reducible exact bne_eq_false_iff_eq.2 (by omega) | skip) fun β2 a w hβ2 hl S => ?_
        exact xj ⟨β2, _, hl, S.keep [0, 1, 6, 7, 8] rfl⟩
      · subst hk
        refine xr hT S hl true [.b false, .b false] 200 rfl (by (repeat' apply And.intro); all_goals first | exact True.intro | with_reducible assumption | decide +kernel | with_reducible exact Option.isSome_some | omega | with_reducible exact decide_eq_true (by omega) | with_reducible exact decide_eq_false (by omega) | with_reducible exact beq_iff_eq.2 (by omega) | with_reducible exact beq_eq_false_iff_ne.2 (by omega) | with_reducible exact bne_iff_ne.2 (by omega) | with_reducible exact bne_eq_false_iff_eq.2 (by omega) | skip) fun β2 a w hβ2 hl S => ?_
        exact xj ⟨β2, _, hl, S.keep [0, 1, 6, 7, 8] rfl⟩
    · refine xr hT S hl true [] 200 rfl (by (repeat' apply And.intro); all_goals first | exact True.intro | with_reducible assumption | decide +kernel | with_reducible exact Option.isSome_some | omega | with_reducible exact decide_eq_true (by omega) | with_reducible exact decide_eq_false (by omega) | with_reducible exact beq_iff_eq.2 (by omega) | with_reducible exact beq_eq_false_iff_ne.2 (by omega) | with_reducible exact bne_iff_ne.2 (by omega) | with_reducible exact bne_eq_false_iff_eq.2 (by omega) | skip) fun β1 a w hβ1 hl S => ?_
      refine xapp hT S rfl rfl rfl rfl rfl rfl rfl rfl hO rfl rfl (news := [.float .f32 x]) (S.boxCells (i := 0) (t := 23) (cs := [.v (.float .f32 x)]) rfl) rfl (by simp [Value.oneCell']) (by show (i + 1) * 4 ≤ _; omega) (by simp only [maxLen]; omega) fun v' M a w hO S => ?_
      obtain ⟨A2, c2, rfl, _⟩ := hO.form
      refine xr hT S hl true [] 200 rfl (by (repeat' apply And.intro); all_goals first | exact True.intro | with_reducible assumption | decide +kernel | with_reducible exact Option.isSome_some | omega | with_reducible exact decide_eq_true (by omega) | with_reducible exact decide_eq_false (by omega) | with_reducible exact beq_iff_eq.2 (by omega) | with_reducible exact beq_eq_false_iff_ne.2 (by omega) | with_reducible exact bne_iff_ne.2 (by omega) | with_reducible exact bne_eq_false_iff_eq.2 (by omega) | skip) fun β2 a w hβ2 hl S => ?_
      rw [ei] at S
      obtain ⟨βz, hlz, S⟩ := ((S.keep [0, 1, 6, 7] rfl).dropb).cut 0 (by omega) (by simp [SV.wfs, SV.wf]) (by simp)
      exact xj ⟨i + 1, ⟨βz, M, A2, c2, _, hlz, by omega, hO, S⟩, by omega⟩
  · have e1 : i = n := by omega
    subst e1
    refine xr hT S hl true [.b false] 200 rfl (by (repeat' apply And.intro); all_goals first | exact True.intro | with_reducible assumption | decide +kernel | with_reducible exact Option.isSome_some | omega | with_reducible exact decide_eq_true (by omega) | with_reducible exact decide_eq_false (by omega) | with_reducible exact beq_iff_eq.2 (by omega) | with_reducible exact beq_eq_false_iff_ne.2 (by omega) | with_reducible exact bne_iff_ne.2 (by omega) | with_reducible exact bne_eq_false_iff_eq.2 (by omega) | skip) fun β1 a w hβ1 hl S => ?_
    exact xret hT S rfl ⟨_, rfl, M, A, c, rfl, S.sh⟩
end Go.SX
set_option maxRecDepth 100000
set_option linter.unusedVariables false
set_option linter.unusedSectionVars false
namespace Go.SX
open Go.Proofs
variable {u w : World} {L B : List Hp} {b : Nat} {M : Hp}
theorem c54 {s : Sc} {A E : Option Addr} {cb ce : Nat} {e : Ev} (H : SH u w L) (he : EvOk s.len s.bodies.length e) (hl : s.len ≤ 2000) (hb : s.bodies.length ≤ 100) : Ret Try.prog 54 [SVal s A cb E ce, .agg e.cells.toArray] w fun v w' => v = .bool true ∧ ∃ New, SH u w' (New ++ L) := by
  obtain ⟨⟨a1, a2⟩, ⟨b1, b2⟩, hk⟩ := he
  refine ent Try.func54 rfl H 75 rfl [(0, .v (SVal s A cb E ce)), (1, .v (.agg e.cells.toArray))] rfl rfl fun a S => ?_
  refine xr hT S rfl true [] 200 rfl (by (repeat' apply And.intro); all_goals first | exact True.intro | with_reducible assumption | decide +kernel | with_reducible exact Option.isSome_some | omega | with_reducible exact decide_eq_true (by omega) | with_reducible exact decide_eq_false (by omega) | with_reducible exact beq_iff_eq.2 (by omega) | with_reducible exact beq_eq_false_iff_ne.2 (by omega) | with_reducible exact bne_iff_ne.2 (by omega) | with_reducible exact bne_eq_false_iff_eq.2 (by omega) | skip) fun β a w hβ hl S => ?_
  refine xP S rfl rfl rfl rfl rfl rfl en51 (fun H => c51 H a1 (by omega)) fun v a w hv S => ?_
  subst hv
  refine xr hT S hl true [.b false] 200 rfl (by (repeat' apply And.intro); all_goals first | exact True.intro | with_reducible assumption | decide +kernel | with_reducible exact Option.isSome_some | omega | with_reducible exact decide_eq_true (by omega) | with_reducible exact decide_eq_false (by omega) | with_reducible exact beq_iff_eq.2 (by omega) | with_reducible exact beq_eq_false_iff_ne.2 (by omega) | with_reducible exact bne_iff_ne.2 (by omega) | with_reducible exact bne_eq_false_iff_eq.2 (by omega) | skip) fun β1 a w hβ1 hl S => ?_
  refine xP S rfl rfl rfl rfl rfl rfl en51 (fun H => c51 H b1 (by omega)) fun v a w hv S => ?_
  subst hv
  rcases hk with ⟨k1, ⟨s1, s2⟩, ⟨t1, t2⟩, hf⟩ | ⟨k1, s1, t1, hf⟩ | ⟨k1, s1, t1, hf⟩
  · have hct : ((e.count.toNat : Nat) : Int) = e.count := Int.toNat_of_nonneg (by omega)
    obtain ⟨p1, p2⟩ := wd_spec hf.num hf.lt32
    refine xr hT S hl true [.b false, .b true] 200 rfl (by (repeat' apply And.intro); all_goals first | exact True.intro | with_reducible assumption | decide +kernel | with_reducible exact Option.isSome_some | omega | with_reducible exact decide_eq_true (by omega) | with_reducible exact decide_eq_false (by omega) | with_reducible exact beq_iff_eq.2 (by omega) | with_reducible exact beq_eq_false_iff_ne.2 (by omega) | with_reducible exact bne_iff_ne.2 (by omega) | with_reducible exact bne_eq_false_iff_eq.2 (by omega) | skip) fun β2 a w hβ2 hl S => ?_
    have hcall := c80 (kind := e.shape) (n := e.count.toNat) S.sh s1 s2 (by omega) (by omega)
    rw [hct] at hcall
    refine xc S rfl rfl rfl rfl rfl en80 hcall fun v w ⟨M, A9, c9, hv, H⟩ => ?_
    have S := S.retd (New := [M]) 30 v H rfl
    subst hv
    refine xr hT S hl true [.b true] 200 rfl ?_ fun β3 a w hβ3 hl S => ?_
    · (repeat' apply And.intro); all_goals first | exact True.intro | with_reducible assumption | decide +kernel | with_reducible exact Option.isSome_some | omega | with_reducible exact decide_eq_true (by omega) | with_reducible exact decide_eq_false (by omega) | with_reducible exact beq_iff_eq.2 (by omega) | with_reducible exact beq_eq_false_iff_ne.2 (by omega) | with_reducible exact bne_iff_ne.2 (by omega) | with_reducible exact bne_eq_false_iff_eq.2 (by omega) | skip
      all_goals (rw [p1]; rfl)
    refine xP S rfl rfl rfl rfl rfl rfl en77 (fun H => c77 H) fun v a w ⟨y, hv, hy⟩ S => ?_
    have : y = true := hy.2 p2.num
    subst this
    subst hv
    refine xr hT S hl true [] 200 rfl (by (repeat' apply And.intro); all_goals first | exact True.intro | with_reducible assumption | decide +kernel | with_reducible exact Option.isSome_some | omega | with_reducible exact decide_eq_true (by omega) | with_reducible exact decide_eq_false (by omega) | with_reducible exact beq_iff_eq.2 (by omega) | with_reducible exact beq_eq_false_iff_ne.2 (by omega) | with_reducible exact bne_iff_ne.2 (by omega) | with_reducible exact bne_eq_false_iff_eq.2 (by omega) | skip) fun β4 a w hβ4 hl S => ?_
    exact xret hT S rfl ⟨_, rfl, rfl, [M], S.tl'⟩
  · obtain ⟨d1, d2, d3, d4⟩ := dmp_ok hf
    refine xr hT S hl true [.b false, .b false, .b true, .b true, .b true, .b true] 200 rfl ?_ fun β2 a w hβ2 hl S => ?_
    · (repeat' apply And.intro); all_goals first | exact True.intro | with_reducible assumption | decide +kernel | with_reducible exact Option.isSome_some | omega | with_reducible exact decide_eq_true (by omega) | with_reducible exact decide_eq_false (by omega) | with_reducible exact beq_iff_eq.2 (by omega) | with_reducible exact beq_eq_false_iff_ne.2 (by omega) | with_reducible exact bne_iff_ne.2 (by omega) | with_reducible exact bne_eq_false_iff_eq.2 (by omega) | skip
      all_goals exact d3
    refine xret hT S rfl ⟨_, rfl, ?_, [], S.tl'⟩
    exact congrArg Value.bool d4
  · refine xr hT S hl true [.b false, .b false, .b false, .b true, .b true, .b true] 200 rfl (by (repeat' apply And.intro); all_goals first | exact True.intro | with_reducible assumption | decide +kernel | with_reducible exact Option.isSome_some | omega | with_reducible exact decide_eq_true (by omega) | with_reducible exact decide_eq_false (by omega) | with_reducible exact beq_iff_eq.2 (by omega) | with_reducible exact beq_eq_false_iff_ne.2 (by omega) | with_reducible exact bne_iff_ne.2 (by omega) | with_reducible exact bne_eq_false_iff_eq.2 (by omega) | skip) fun β2 a w hβ2 hl S => ?_
    rw [hf] at S
    refine xP S rfl rfl rfl rfl rfl rfl en81 (fun H => c81 H) fun v a w hv S => ?_
    subst hv
    refine xr hT S hl true [] 200 rfl (by (repeat' apply And.intro); all_goals first | exact True.intro | with_reducible assumption | decide +kernel | with_reducible exact Option.isSome_some | omega | with_reducible exact decide_eq_true (by omega) | with_reducible exact decide_eq_false (by omega) | with_reducible exact beq_iff_eq.2 (by omega) | with_reducible exact beq_eq_false_iff_ne.2 (by omega) | with_reducible exact bne_iff_ne.2 (by omega) | with_reducible exact bne_eq_false_iff_eq.2 (by omega) | skip) fun β3 a w hβ3 hl S => ?_
    exact xret hT S rfl ⟨_, rfl, rfl, [], S.tl'⟩
theorem c27 {s : Sc} {A E : Option Addr} {cb ce : Nat} {vs : List Value} {most : Int} (H : SH u w L) (hA : All2 (RBod L) vs s.bodies) (hRA : Rows L A s.bodies.length 1 vs) (hRE : Rows L E s.events.length 6 (s.events.flatMap Ev.cells)) (h : ScOk most s) (hm : most ≤ 2000) :
    Ret Try.prog 27 [SVal s A cb E ce] w fun v w' => v = .bool true ∧ ∃ New, SH u w' (New ++ L) := by
  have h1 := h.len
  have h2 := h.voices
  have h3 := h.bodies.1
  have h4 := h.events.1
  refine ent Try.func27 rfl H 58 rfl [(0, .v (SVal s A cb E ce))] rfl rfl fun a S => ?_
  refine xr hT S rfl true [] 200 rfl (by (repeat' apply And.intro); all_goals first | exact True.intro | with_reducible assumption | decide +kernel | with_reducible exact Option.isSome_some | omega | with_reducible exact decide_eq_true (by omega) | with_reducible exact decide_eq_false (by omega) | with_reducible exact beq_iff_eq.2 (by omega) | with_reducible exact beq_eq_false_iff_ne.2 (by omega) | with_reducible exact bne_iff_ne.2 (by omega) | with_reducible exact bne_eq_false_iff_eq.2 (by omega) | skip) fun β a w hβ hl S => ?_
  refine xP S rfl rfl rfl rfl rfl rfl en51 (fun H => c51 H h1.1 (by omega)) fun v a w hv S => ?_
  subst hv
  refine xr hT S hl true [.b false] 200 rfl (by (repeat' apply And.intro); all_goals first | exact True.intro | with_reducible assumption | decide +kernel | with_reducible exact Option.isSome_some | omega | with_reducible exact decide_eq_true (by omega) | with_reducible exact decide_eq_false (by omega) | with_reducible exact beq_iff_eq.2 (by omega) | with_reducible exact beq_eq_false_iff_ne.2 (by omega) | with_reducible exact bne_iff_ne.2 (by omega) | with_reducible exact bne_eq_false_iff_eq.2 (by omega) | skip) fun β1 a w hβ1 hl S => ?_
  refine xP S rfl rfl rfl rfl rfl rfl en51 (fun H => c51 H h2.1 (by omega)) fun v a w hv S => ?_
  subst hv
  refine xr hT S hl true [.b false] 200 rfl (by (repeat' apply And.intro); all_goals first | exact True.intro | with_reducible assumption | decide +kernel | with_reducible exact Option.isSome_some | omega | with_reducible exact decide_eq_true (by omega) | with_reducible exact decide_eq_false (by omega) | with_reducible exact beq_iff_eq.2 (by omega) | with_reducible exact beq_eq_false_iff_ne.2 (by omega) | with_reducible exact bne_iff_ne.2 (by omega) | with_reducible exact bne_eq_false_iff_eq.2 (by omega) | skip) fun β2 a w hβ2 hl S => ?_
  refine xP S rfl rfl rfl rfl rfl rfl en52 (fun H => c52 H h.ceil h.rel) fun v a w hv S => ?_
  subst hv
  refine xr hT S hl true [.b false, .b false, .b false] 200 rfl (by (repeat' apply And.intro); all_goals first | exact True.intro | with_reducible assumption | decide +kernel | with_reducible exact Option.isSome_some | omega | with_reducible exact decide_eq_true (by omega) | with_reducible exact decide_eq_false (by omega) | with_reducible exact beq_iff_eq.2 (by omega) | with_reducible exact beq_eq_false_iff_ne.2 (by omega) | with_reducible exact bne_iff_ne.2 (by omega) | with_reducible exact bne_eq_false_iff_eq.2 (by omega) | skip) fun β3 a w hβ3 hl S => ?_
  refine xloop (fun (i : Nat) a w => ∃ β, β.length = 1 ∧ i ≤ s.bodies.length ∧ St β u w a 58 [(1, .p 0 0), (36, .v (.slice A s.bodies.length cb)), (37, .v (.int .i64 s.bodies.length)), (38, .v (.int .i64 (i : Int)))] [BXs 0 s A cb E ce] L) (fun i => s.bodies.length - i) 0 ⟨β3, hl, Nat.zero_le _, S.keep [1, 36, 37, 38] rfl⟩ fun i a w ⟨β, hl, hi, S⟩ => ?_
  by_cases hin : i < s.bodies.length
  · obtain ⟨ad, rfl⟩ := hRA.2.1 (by omega)
    obtain ⟨v, hv, A9, c9, rfl, hR9⟩ := hA.at_ hin
    have hbo := h.bodies.2 _ (List.getElem_mem hin)
    have ei : (i : Int) + 1 = ((i + 1 : Nat) : Int) := by omega
    refine xr hT S hl true [.b true, .v [.slice A9 (List.length s.bodies[i]) c9]] 200 rfl ?_ fun β4 a w hβ4 hl S => ?_
    · (repeat' apply And.intro); all_goals first | exact True.intro | with_reducible assumption | decide +kernel | with_reducible exact Option.isSome_some | omega | with_reducible exact decide_eq_true (by omega) | with_reducible exact decide_eq_false (by omega) | with_reducible exact beq_iff_eq.2 (by omega) | with_reducible exact beq_eq_false_iff_ne.2 (by omega) | with_reducible exact bne_iff_ne.2 (by omega) | with_reducible exact bne_eq_false_iff_eq.2 (by omega) | skip
      all_goals exact hRA.cell (n := s.bodies.length) (c := 0) hv
    refine xP S rfl rfl rfl rfl rfl rfl en53 (fun H => c53 H ⟨A9, c9, rfl, hR9.mono (List.subset_append_right _ _)⟩ (by omega) hbo.2) fun v a w hv S => ?_
    subst hv
    refine xr hT S hl true [.b false] 200 rfl (by (repeat' apply And.intro); all_goals first | exact True.intro | with_reducible assumption | decide +kernel | with_reducible exact Option.isSome_some | omega | with_reducible exact decide_eq_true (by omega) | with_reducible exact decide_eq_false (by omega) | with_reducible exact beq_iff_eq.2 (by omega) | with_reducible exact beq_eq_false_iff_ne.2 (by omega) | with_reducible exact bne_iff_ne.2 (by omega) | with_reducible exact bne_eq_false_iff_eq.2 (by omega) | skip) fun β5 a w hβ5 hl S => ?_
    rw [ei] at S
    obtain ⟨βz, hlz, S⟩ := ((S.keep [1, 36, 37, 38] rfl).dropb).cut 1 (by rw [hl]; simp) (by simp [SV.wfs, SV.wf]) (by simp [SV.wfs, SV.wf])
    exact xj ⟨i + 1, ⟨βz, hlz, by omega, S⟩, by omega⟩
  · have e1 : i = s.bodies.length := by omega
    subst e1
    refine xr hT S hl true [.b false] 200 rfl (by (repeat' apply And.intro); all_goals first | exact True.intro | with_reducible assumption | decide +kernel | with_reducible exact Option.isSome_some | omega | with_reducible exact decide_eq_true (by omega) | with_reducible exact decide_eq_false (by omega) | with_reducible exact beq_iff_eq.2 (by omega) | with_reducible exact beq_eq_false_iff_ne.2 (by omega) | with_reducible exact bne_iff_ne.2 (by omega) | with_reducible exact bne_eq_false_iff_eq.2 (by omega) | skip) fun β4 a w hβ4 hl S => ?_
    refine xloop (fun (i : Nat) a w => ∃ β New, β.length = 1 ∧ i ≤ s.events.length ∧ St β u w a 58 [(1, .p 0 0), (47, .v (.slice E s.events.length ce)), (48, .v (.int .i64 s.events.length)), (49, .v (.int .i64 (i : Int)))] [BXs 0 s A cb E ce] (New ++ L)) (fun i => s.events.length - i) 0 ⟨β4, [], hl, Nat.zero_le _, S.keep [1, 47, 48, 49] rfl⟩ fun i a w ⟨β, New, hl, hi, S⟩ => ?_
    by_cases hin : i < s.events.length
    · obtain ⟨ad, rfl⟩ := hRE.2.1 (by omega)
      have hc := ((hRE.2.2 ad rfl).mono (L' := New ++ L) (List.subset_append_right _ _)).elem ev_len hin
      have ei : (i : Int) + 1 = ((i + 1 : Nat) : Int) := by omega
      refine xr hT S hl true [.b true, .v (s.events[i]).cells] 200 rfl ?_ fun β5 a w hβ5 hl S => ?_
      · (repeat' apply And.intro); all_goals first | exact True.intro | with_reducible assumption | decide +kernel | with_reducible exact Option.isSome_some | omega | with_reducible exact decide_eq_true (by omega) | with_reducible exact decide_eq_false (by omega) | with_reducible exact beq_iff_eq.2 (by omega) | with_reducible exact beq_eq_false_iff_ne.2 (by omega) | with_reducible exact bne_iff_ne.2 (by omega) | with_reducible exact bne_eq_false_iff_eq.2 (by omega) | skip
        all_goals (show RdV (New ++ L) (ad.add (Int.toNat (i : Int) * 6)) _; rw [Int.toNat_natCast]; exact hc)
      refine xc S rfl rfl rfl rfl rfl en54 (c54 (s := s) (A := A) (E := some ad) (cb := cb) (ce := ce) (e := s.events[i]) S.sh (h.events.2 _ (List.getElem_mem hin)) (by omega) (by omega)) fun v w ⟨hv, New2, H⟩ => ?_
      have S := S.retd (New := New2) 55 v H rfl
      subst hv
      refine xr hT S hl true [.b false] 200 rfl (by (repeat' apply And.intro); all_goals first | exact True.intro | with_reducible assumption | decide +kernel | with_reducible exact Option.isSome_some | omega | with_reducible exact decide_eq_true (by omega) | with_reducible exact decide_eq_false (by omega) | with_reducible exact beq_iff_eq.2 (by omega) | with_reducible exact beq_eq_false_iff_ne.2 (by omega) | with_reducible exact bne_iff_ne.2 (by omega) | with_reducible exact bne_eq_false_iff_eq.2 (by omega) | skip) fun β6 a w hβ6 hl S => ?_
      rw [ei] at S
      obtain ⟨βz, hlz, S⟩ := ((S.keep [1, 47, 48, 49] rfl).dropb).cut 1 (by rw [hl]; simp) (by simp [SV.wfs, SV.wf]) (by simp [SV.wfs, SV.wf])
      exact xj ⟨i + 1, ⟨βz, New2 ++ New, hlz, by omega, by rw [List.append_assoc]; exact S⟩, by omega⟩
    · have e1 : i = s.events.length := by omega
      subst e1
      refine xr hT S hl true [.b false] 200 rfl (by (repeat' apply And.intro); all_goals first | exact True.intro | with_reducible assumption | decide +kernel | with_reducible exact Option.isSome_some | omega | with_reducible exact decide_eq_true (by omega) | with_reducible exact decide_eq_false (by omega) | with_reducible exact beq_iff_eq.2 (by omega) | with_reducible exact beq_eq_false_iff_ne.2 (by omega) | with_reducible exact bne_iff_ne.2 (by omega) | with_reducible exact bne_eq_false_iff_eq.2 (by omega) | skip) fun β5 a w hβ5 hl S => ?_
      exact xret hT S rfl ⟨_, rfl, rfl, New, S.tl'⟩
end Go.SX
set_option linter.unusedVariables false
set_option linter.unusedSimpArgs false
namespace Go.SX
/-! ### insertion behind its equals -/
abbrev PwE (l : List Ev) : Prop := l.Pairwise fun a b => a.at_ ≤ b.at_
theorem ins_pw {cur : List Ev} {e : Ev} {k : Nat} (h : PwE cur) (hk : k ≤ cur.length) (hb : 0 < k → ∀ h : k - 1 < cur.length, cur[k - 1].at_ ≤ e.at_) (ha : ∀ p (hp : p < cur.length), k ≤ p → e.at_ < cur[p].at_) : PwE (cur.take k ++ [e] ++ cur.drop k) := by
  have hall : ∀ x ∈ cur.take k, x.at_ ≤ e.at_ := by
    intro x hx
    obtain ⟨p, hp, rfl⟩ := List.getElem_of_mem hx
    rw [List.length_take] at hp
    have hp2 : p < cur.length := by omega
    rw [List.getElem_take]
    have h1 := hb (by omega) (by omega)
    by_cases hpk : p = k - 1
    · subst hpk; exact h1
    · have := (List.pairwise_iff_getElem.1 h) p (k - 1) hp2 (by omega) (by omega)
      omega
  have hall2 : ∀ x ∈ cur.drop k, e.at_ < x.at_ := by
    intro x hx
    obtain ⟨p, hp, rfl⟩ := List.getElem_of_mem hx
    rw [List.getElem_drop]
    exact ha (k + p) (by rw [List.length_drop] at hp; omega) (by omega)
  refine List.pairwise_append.2 ⟨List.pairwise_append.2 ⟨h.sublist (List.take_sublist _ _), List.pairwise_singleton _ _, fun a ha b hb => by rw [List.mem_singleton.1 hb]; exact hall a ha⟩, h.sublist (List.drop_sublist _ _), fun a ha b hb => ?_⟩
  have h2 := hall2 b hb
  rcases List.mem_append.1 ha with ha | ha
  · have := hall a ha
    omega
  · rw [List.mem_singleton.1 ha]
    omega
theorem ins_fil {cur evs : List Ev} {e : Ev} {k : Nat} (hf : ∀ x : Int, cur.filter (fun e => e.at_ == x) = evs.filter (fun e => e.at_ == x)) (ha : ∀ p (hp : p < cur.length), k ≤ p → e.at_ < cur[p].at_) (x : Int) :
    (cur.take k ++ [e] ++ cur.drop k).filter (fun e => e.at_ == x) = (evs ++ [e]).filter (fun e => e.at_ == x) := by
  have h1 := hf x
  rw [List.filter_append (l₁ := evs), ← h1]
  have h2 : cur.filter (fun e => e.at_ == x) = (cur.take k).filter (fun e => e.at_ == x) ++ (cur.drop k).filter (fun e => e.at_ == x) := by rw [← List.filter_append, List.take_append_drop]
  rw [h2, List.filter_append, List.filter_append]
  by_cases hx : e.at_ = x
  · have : (cur.drop k).filter (fun e => e.at_ == x) = [] := by
      rw [List.filter_eq_nil_iff]
      intro y hy
      obtain ⟨p, hp, rfl⟩ := List.getElem_of_mem hy
      rw [List.getElem_drop]
      have := ha (k + p) (by rw [List.length_drop] at hp; omega) (by omega)
      simp
      omega
    rw [this]
    simp
  · have : [e].filter (fun e => e.at_ == x) = [] := by simp [hx]
    rw [this]
    simp
theorem Sorted.of {s : Sc} {cur : List Ev} (h1 : cur.length = s.events.length) (h2 : PwE cur) (h3 : ∀ x : Int, cur.filter (fun e => e.at_ == x) = s.events.filter (fun e => e.at_ == x)) : Sorted s cur :=
  ⟨h1, h3, fun p q e f hpq hq hp hqq => by
    obtain ⟨hp', rfl⟩ := List.getElem?_eq_some_iff.1 hp
    obtain ⟨hq', rfl⟩ := List.getElem?_eq_some_iff.1 hqq
    exact (List.pairwise_iff_getElem.1 h2) p q hp' hq' hpq⟩
/-! ### how many voices have begun -/
def stk (t : Int) (e : Ev) : Bool := e.kind == 1 && decide (e.at_ < t)
theorem fold_begun (s : Sc) : ∀ (l : List Ev) (q : Pz), (l.foldl (hap s) q).begun = q.begun + l.countP (fun e => e.kind == 1)
  | [], q => rfl
  | e :: r, q => by
    rw [List.foldl_cons, fold_begun s r, List.countP_cons]
    have h2 : (hap s q e).begun = q.begun + if e.kind = 1 then 1 else 0 := by
      show (happen s e q).begun = _
      by_cases h : e.kind = 1
      · rw [if_pos h]; unfold happen; rw [if_pos h]
      · rw [if_neg h]; unfold happen; rw [if_neg h]
        split <;> rfl
    rw [h2]
    by_cases h : e.kind = 1
    · rw [if_pos h, if_pos (by simpa using h)]; omega
    · rw [if_neg h, if_neg (by simpa using h)]; omega
theorem stk_split (t : Nat) : ∀ (l : List Ev), l.countP (stk (t : Int)) + (l.filter (fun e => e.at_ == (t : Int))).countP (fun e => e.kind == 1) = l.countP (stk ((t + 1 : Nat) : Int))
  | [] => rfl
  | e :: r => by
    have ih := stk_split t r
    have hc : ∀ (p : Ev → Bool), (e :: r).countP p = r.countP p + if p e = true then 1 else 0 := fun p => List.countP_cons
    rw [hc, hc, List.filter_cons]
    by_cases h1 : e.at_ = (t : Int)
    · rw [if_pos (show (e.at_ == (t : Int)) = true by simpa using h1), List.countP_cons]
      by_cases h2 : e.kind = 1
      · have a1 : stk (t : Int) e = false := by simp [stk, h1]
        have a2 : stk ((t + 1 : Nat) : Int) e = true := by simp [stk, h1, h2]; omega
        have a3 : (e.kind == 1) = true := by simpa using h2
        rw [a1, a2, a3]
        simp only [if_true, Bool.false_eq_true, if_false]
        omega
      · have a1 : stk (t : Int) e = false := by simp [stk, h2]
        have a2 : stk ((t + 1 : Nat) : Int) e = false := by simp [stk, h2]
        have a3 : (e.kind == 1) = false := by simpa using h2
        rw [a1, a2, a3]
        simp only [if_true, Bool.false_eq_true, if_false]
        omega
    · rw [if_neg (show ¬ (e.at_ == (t : Int)) = true by simpa using h1)]
      have a1 : stk (t : Int) e = stk ((t + 1 : Nat) : Int) e := by
        unfold stk
        congr 1
        rw [Bool.eq_iff_iff]
        simp
        omega
      rw [a1]
      omega
section
variable {s : Sc} {cur : List Ev}
theorem arr_begun (hc : Sorted s cur) (h0 : ∀ e ∈ cur, (0 : Int) ≤ e.at_) (t : Nat) : (arr s cur (runP s cur t)).begun = (runP s cur t).begun + (cur.filter (fun e => e.at_ == (t : Int))).countP (fun e => e.kind == 1) := by
  rw [arr_at hc h0, fold_begun, ← hc.fil (t : Int)]
theorem run_begun (hc : Sorted s cur) (h0 : ∀ e ∈ cur, (0 : Int) ≤ e.at_) : ∀ t, (runP s cur t).begun = cur.countP (stk (t : Int))
  | 0 => by
    symm
    show _ = 0
    rw [List.countP_eq_zero]
    intro e he
    have := h0 e he
    simp [stk]
    omega
  | t + 1 => by
    show (arr s cur (runP s cur t)).begun = _
    rw [arr_begun hc h0, run_begun hc h0 t, stk_split]
theorem va_begun (hc : Sorted s cur) (h0 : ∀ e ∈ cur, (0 : Int) ≤ e.at_) (t : Nat) : ∀ v ∈ VA s cur t, v.track < cur.countP (stk ((t + 1 : Nat) : Int)) := by
  intro v hv
  have h1 : (runP s cur (t + 1)).begun = cur.countP (stk ((t + 1 : Nat) : Int)) := run_begun hc h0 (t + 1)
  have h2 : (runP s cur (t + 1)).begun = (arr s cur (runP s cur t)).begun := rfl
  rw [← h1, h2]
  exact (Tok.run (s := s) (evs := cur) t).arr.lt v hv
/-- the strikes before one in the list -/
theorem stk_before (hp : PwE cur) {j N i : Nat} (hj : j < cur.length) (hi : (i : Int) < cur[j].at_) (hN : cur[j].at_ < (N : Int)) : cur.countP (stk ((i + 1 : Nat) : Int)) ≤ (cur.take j).countP (stk (N : Int)) := by
  have h1 : cur.countP (stk ((i + 1 : Nat) : Int)) = (cur.take j).countP (stk ((i + 1 : Nat) : Int)) + (cur.drop j).countP (stk ((i + 1 : Nat) : Int)) := by
    rw [← List.countP_append, List.take_append_drop]
  have h2 : (cur.drop j).countP (stk ((i + 1 : Nat) : Int)) = 0 := by
    rw [List.countP_eq_zero]
    intro e he
    obtain ⟨p, hp2, rfl⟩ := List.getElem_of_mem he
    rw [List.getElem_drop]
    have hlt : j + p < cur.length := by rw [List.length_drop] at hp2; omega
    have : cur[j].at_ ≤ cur[j + p].at_ := by
      by_cases hz : p = 0
      · subst hz; exact Int.le_refl _
      · exact (List.pairwise_iff_getElem.1 hp) j (j + p) hj hlt (by omega)
    simp [stk]
    omega
  rw [h1, h2, Nat.add_zero]
  refine List.countP_mono_left fun e _ he => ?_
  simp only [stk, Bool.and_eq_true, decide_eq_true_eq] at he ⊢
  exact ⟨he.1, by omega⟩
end
end Go.SX
set_option maxRecDepth 100000
set_option linter.unusedVariables false
set_option linter.unusedSectionVars false
namespace Go.SX
open Go.Proofs
variable {u w : World} {L B : List Hp} {b : Nat} {M : Hp}
theorem slA0 (c sz : Nat) (A : Option Addr) : slA c 0 sz A = A := by
  unfold slA
  split
  · rfl
  · cases A with
    | none => rfl
    | some a => show some (a.add (0 * sz)) = some a; rw [Nat.zero_mul, add_zero]
theorem slA_none {c k sz : Nat} {A : Option Addr} (h : slA c k sz A = none) : A = none := by
  unfold slA at h
  split at h
  · exact h
  · cases A with
    | none => rfl
    | some a => cases h
theorem Rows.headS {L : List Hp} {A : Option Addr} {n m c sz : Nat} {vs : List Value} (h : Rows L A n sz vs) (hm : m ≤ n) : Rows L (slA c 0 sz A) m sz (vs.take (m * sz)) := by
  rw [slA0]
  refine ⟨by rw [List.length_take, h.1]; exact Nat.min_eq_left (Nat.mul_le_mul_right _ hm), fun hp => h.2.1 (by omega), fun ad hA => ?_⟩
  have := (h.2.2 ad hA).at_ 0 (m * sz)
  rw [add_zero] at this
  simpa using this
theorem Rows.tailS {L : List Hp} {A : Option Addr} {n m c sz : Nat} {vs : List Value} (h : Rows L A n sz vs) (hm : m ≤ n) (hc : n ≤ c) : Rows L (slA c m sz A) (n - m) sz (vs.drop (m * sz)) := by
  have hl : (vs.drop (m * sz)).length = (n - m) * sz := by rw [List.length_drop, h.1, Nat.sub_mul]
  refine ⟨hl, fun hp => ?_, fun ad hA => ?_⟩
  · obtain ⟨ad, rfl⟩ := h.2.1 (by omega)
    unfold slA
    split
    · exact ⟨ad, rfl⟩
    · exact ⟨_, rfl⟩
  · unfold slA at hA
    split at hA
    · intro j v hv
      have : n - m = 0 := by omega
      rw [this, Nat.zero_mul] at hl
      rw [List.eq_nil_of_length_eq_zero hl] at hv
      simp at hv
    · cases A with
      | none => cases hA
      | some a =>
        cases hA
        have := (h.2.2 a rfl).at_ (m * sz) ((n - m) * sz)
        rw [List.take_of_length_le (by rw [hl]; exact Nat.le_refl _)] at this
        exact this
theorem flat_len {α : Type} {cells : α → List Value} {sz : Nat} (hsz : ∀ x, (cells x).length = sz) : ∀ xs : List α, (xs.flatMap cells).length = xs.length * sz
  | [] => by simp
  | x :: r => by rw [List.flatMap_cons, List.length_append, hsz, flat_len hsz r, List.length_cons, Nat.add_mul, Nat.one_mul, Nat.add_comm]
theorem flat_take {α : Type} {cells : α → List Value} {sz : Nat} (hsz : ∀ x, (cells x).length = sz) {xs : List α} {k : Nat} (hk : k ≤ xs.length) : (xs.flatMap cells).take (k * sz) = (xs.take k).flatMap cells := by
  conv => lhs; rw [← List.take_append_drop k xs]
  rw [List.flatMap_append]
  exact List.take_left' (by rw [flat_len hsz, List.length_take, Nat.min_eq_left hk])
theorem flat_drop {α : Type} {cells : α → List Value} {sz : Nat} (hsz : ∀ x, (cells x).length = sz) {xs : List α} {k : Nat} (hk : k ≤ xs.length) : (xs.flatMap cells).drop (k * sz) = (xs.drop k).flatMap cells := by
  conv => lhs; rw [← List.take_append_drop k xs]
  rw [List.flatMap_append]
  exact List.drop_left' (by rw [flat_len hsz, List.length_take, Nat.min_eq_left hk])
/-- the row of the first i events, put in order -/
structure Ins (evs cur : List Ev) (i : Nat) : Prop where
  len : cur.length = i
  pw : PwE cur
  fil : ∀ x : Int, cur.filter (fun e => e.at_ == x) = (evs.take i).filter (fun e => e.at_ == x)
theorem c28 {E : Option Addr} {ce : Nat} {evs : List Ev} (H : SH u w L) (hRE : Rows L E evs.length 6 (evs.flatMap Ev.cells)) (hn : evs.length ≤ 16) : Ret Try.prog 28 [.slice E evs.length ce] w
    fun v w' => ∃ M A c cur, v = .slice A evs.length c ∧ Ins evs cur evs.length ∧ Own M 31 6 (.slice A evs.length c) evs.length (cur.flatMap Ev.cells) ∧ SH u w' (M :: L) := by
  refine ent Try.func28 rfl H 48 rfl [(0, .v (.slice E evs.length ce))] rfl rfl fun a S => ?_
  refine xr hT S rfl true [] 200 rfl (by (repeat' apply And.intro); all_goals first | exact True.intro | with_reducible assumption | decide +kernel | with_reducible exact Option.isSome_some | omega | with_reducible exact decide_eq_true (by omega) | with_reducible exact decide_eq_false (by omega) | with_reducible exact beq_iff_eq.2 (by omega) | with_reducible exact beq_eq_false_iff_ne.2 (by omega) | with_reducible exact bne_iff_ne.2 (by omega) | with_reducible exact bne_eq_false_iff_eq.2 (by omega) | skip) fun β a w hβ hl S => ?_
  have S := S.unbox (d := 3) rfl
  refine xloop (fun (i : Nat) a w => ∃ β M A c cur, β.length = 0 ∧ i ≤ evs.length ∧ Ins evs cur i ∧ Own M 31 6 (.slice A i c) i (cur.flatMap Ev.cells) ∧ St β u w a 48 [(3, .v (.slice A i c)), (9, .v (.slice E evs.length ce)), (10, .v (.int .i64 evs.length)), (11, .v (.int .i64 (i : Int)))] [] (M :: L)) (fun i => evs.length - i) 0
    ?_ fun i a w ⟨β, M, A, c, cur, hl, hi, hI, hO, S⟩ => ?_
  · obtain ⟨βz, hlz, S⟩ := (S.keep [3, 9, 10, 11] rfl).cut 0 (by rw [hl]; simp) (by simp [SV.wfs, SV.wf]) (by simp [SV.wfs, SV.wf])
    exact ⟨βz, _, _, 0, [], hlz, Nat.zero_le _, ⟨rfl, List.Pairwise.nil, fun x => rfl⟩, Own.empty _ 31 6, S⟩
  by_cases hin : i < evs.length
  · obtain ⟨ad, rfl⟩ := hRE.2.1 (by omega)
    have hc := ((hRE.2.2 ad rfl).mono (L' := M :: L) (fun m hm => by simp [hm])).elem ev_len hin
    have ei : (i : Int) + 1 = ((i + 1 : Nat) : Int) := by omega
    refine xr hT S hl true [.b true, .v (evs[i]).cells] 200 rfl ?_ fun β2 a w hβ2 hl S => ?_
    · (repeat' apply And.intro); all_goals first | exact True.intro | with_reducible assumption | decide +kernel | with_reducible exact Option.isSome_some | omega | with_reducible exact decide_eq_true (by omega) | with_reducible exact decide_eq_false (by omega) | with_reducible exact beq_iff_eq.2 (by omega) | with_reducible exact beq_eq_false_iff_ne.2 (by omega) | with_reducible exact bne_iff_ne.2 (by omega) | with_reducible exact bne_eq_false_iff_eq.2 (by omega) | skip
      all_goals (show RdV _ (ad.add (Int.toNat (i : Int) * 6)) _; rw [Int.toNat_natCast]; exact hc)
    have hcap := hO.cap
    have hlc := hI.len
    refine xloop (fun (k : Nat) a w => ∃ β, β.length = 1 ∧ k ≤ i ∧ (∀ p (hp : p < cur.length), k ≤ p → (evs[i]).at_ < cur[p].at_) ∧ St β u w a 48 [(3, .v (.slice A i c)), (5, .p 0 0), (6, .v (.int .i64 (k : Int))), (9, .v (.slice (some ad) evs.length ce)), (10, .v (.int .i64 evs.length)), (11, .v (.int .i64 (i : Int)))] [(0, 31, (evs[i]).cells.map .v)] (M :: L)) (fun k => k) i
      ⟨β2, hl, Nat.le_refl _, fun p hp h => absurd hp (by omega), S.keep [3, 5, 6, 9, 10, 11] rfl⟩ fun k a w ⟨β, hl, hki, hgt, S⟩ => ?_
    have hsplit : k = 0 ∨ (0 < k ∧ ∃ h : k - 1 < cur.length, ¬ cur[k - 1].at_ > (evs[i]).at_) ∨ (0 < k ∧ ∃ h : k - 1 < cur.length, cur[k - 1].at_ > (evs[i]).at_) := by
      by_cases h0 : k = 0
      · exact .inl h0
      · have h1 : k - 1 < cur.length := by omega
        by_cases h2 : cur[k - 1].at_ > (evs[i]).at_
        · exact .inr (.inr ⟨by omega, h1, h2⟩)
        · exact .inr (.inl ⟨by omega, h1, h2⟩)
    have ek : 0 < k → Int.toNat ((k : Int) - 1) = k - 1 := fun h => by omega
    have ek2 : 0 < k → (k : Int) - 1 = ((k - 1 : Nat) : Int) := fun h => by omega
    rcases hsplit with hk0 | ⟨hk0, hkc, hg⟩ | ⟨hk0, hkc, hg⟩
    rotate_right
    · obtain ⟨ac, rfl⟩ := ((hO.rows (L := M :: L) (by simp)).2.1 (by omega))
      have hcr := ((hO.rows (L := M :: L) (by simp)).2.2 ac rfl).elem ev_len hkc
      refine xr hT S hl true [.b true, .v [.int .i64 cur[k - 1].at_], .b true] 200 rfl ?_ fun β3 a w hβ3 hl S => ?_
      · (repeat' apply And.intro); all_goals first | exact True.intro | with_reducible assumption | decide +kernel | with_reducible exact Option.isSome_some | omega | with_reducible exact decide_eq_true (by omega) | with_reducible exact decide_eq_false (by omega) | with_reducible exact beq_iff_eq.2 (by omega) | with_reducible exact beq_eq_false_iff_ne.2 (by omega) | with_reducible exact bne_iff_ne.2 (by omega) | with_reducible exact bne_eq_false_iff_eq.2 (by omega) | skip
        all_goals (show RdV _ ((ac.add (Int.toNat ((k : Int) - 1) * 6)).add 0) _; rw [ek hk0]; exact hcr.at_ 0 1)
      rw [ek2 hk0] at S
      refine xj ⟨k - 1, ⟨β3, hl, by omega, fun p hp h => ?_, S.keep [3, 5, 6, 9, 10, 11] rfl⟩, by omega⟩
      by_cases hpk : p = k - 1
      · subst hpk; exact hg
      · exact hgt p hp (by omega)
    focus
      have hb : 0 < k → ∀ h : k - 1 < cur.length, cur[k - 1].at_ ≤ (evs[i]).at_ := fun h _ => absurd h (by omega)
      refine xr hT S hl true [.b false] 200 rfl (by (repeat' apply And.intro); all_goals first | exact True.intro | with_reducible assumption | decide +kernel | with_reducible exact Option.isSome_some | omega | with_reducible exact decide_eq_true (by omega) | with_reducible exact decide_eq_false (by omega) | with_reducible exact beq_iff_eq.2 (by omega) | with_reducible exact beq_eq_false_iff_ne.2 (by omega) | with_reducible exact bne_iff_ne.2 (by omega) | with_reducible exact bne_eq_false_iff_eq.2 (by omega) | skip) fun β3 a w hβ3 hl S => ?_
    rotate_left
    focus
      obtain ⟨ac, rfl⟩ := ((hO.rows (L := M :: L) (by simp)).2.1 (by omega))
      have hcr := ((hO.rows (L := M :: L) (by simp)).2.2 ac rfl).elem ev_len hkc
      have hb : 0 < k → ∀ h : k - 1 < cur.length, cur[k - 1].at_ ≤ (evs[i]).at_ := fun _ _ => by omega
      refine xr hT S hl true [.b true, .v [.int .i64 cur[k - 1].at_], .b false] 200 rfl ?_ fun β3 a w hβ3 hl S => ?_
      · (repeat' apply And.intro); all_goals first | exact True.intro | with_reducible assumption | decide +kernel | with_reducible exact Option.isSome_some | omega | with_reducible exact decide_eq_true (by omega) | with_reducible exact decide_eq_false (by omega) | with_reducible exact beq_iff_eq.2 (by omega) | with_reducible exact beq_eq_false_iff_ne.2 (by omega) | with_reducible exact bne_iff_ne.2 (by omega) | with_reducible exact bne_eq_false_iff_eq.2 (by omega) | skip
        all_goals (show RdV _ ((ac.add (Int.toNat ((k : Int) - 1) * 6)).add 0) _; rw [ek hk0]; exact hcr.at_ 0 1)
    all_goals
      have S := S.unbox (d := 32) rfl
      refine xappR hT S rfl rfl rfl rfl rfl rfl rfl rfl (Own.empty _ 31 6) rfl ((hO.rows (by simp)).headS hki) (fun h => by have := hO.nz (slA_none h); omega) (fun u hu => ev_one _ u (List.mem_of_mem_take hu)) (by show (0 + k) * 48 ≤ _; omega) (by simp only [maxLen]; omega) fun v' M1 a w hO1 S => ?_
      obtain ⟨A1, c1, rfl, _⟩ := hO1.form
      refine xr hT S hl true [] 200 rfl (by (repeat' apply And.intro); all_goals first | exact True.intro | with_reducible assumption | decide +kernel | with_reducible exact Option.isSome_some | omega | with_reducible exact decide_eq_true (by omega) | with_reducible exact decide_eq_false (by omega) | with_reducible exact beq_iff_eq.2 (by omega) | with_reducible exact beq_eq_false_iff_ne.2 (by omega) | with_reducible exact bne_iff_ne.2 (by omega) | with_reducible exact bne_eq_false_iff_eq.2 (by omega) | skip) fun β4 a w hβ4 hl S => ?_
      refine xapp hT S rfl rfl rfl rfl rfl rfl rfl rfl hO1 rfl rfl (news := (evs[i]).cells) (S.boxCells (i := 2) (t := 31) (cs := (evs[i]).cells.map .v) rfl) rfl (by simp [Ev.cells, Value.oneCell']) (by show (0 + k + 1) * 48 ≤ _; omega) (by simp only [maxLen]; omega) fun v' M2 a w hO2 S => ?_
      obtain ⟨A2, c2, rfl, _⟩ := hO2.form
      refine xr hT S hl true [] 200 rfl (by (repeat' apply And.intro); all_goals first | exact True.intro | with_reducible assumption | decide +kernel | with_reducible exact Option.isSome_some | omega | with_reducible exact decide_eq_true (by omega) | with_reducible exact decide_eq_false (by omega) | with_reducible exact beq_iff_eq.2 (by omega) | with_reducible exact beq_eq_false_iff_ne.2 (by omega) | with_reducible exact bne_iff_ne.2 (by omega) | with_reducible exact bne_eq_false_iff_eq.2 (by omega) | skip) fun β5 a w hβ5 hl S => ?_
      refine xappR hT S rfl rfl rfl rfl rfl rfl rfl rfl hO2 rfl ((hO.rows (by simp)).tailS hki hcap) (fun h => by have := hO.nz (slA_none h); omega) (fun u hu => ev_one _ u (List.mem_of_mem_drop hu)) (by show (0 + k + 1 + (i - k)) * 48 ≤ _; omega) (by simp only [maxLen]; omega) fun v' M3 a w hO3 S => ?_
      obtain ⟨A3, c3, rfl, _⟩ := hO3.form
      refine xr hT S hl true [] 200 rfl (by (repeat' apply And.intro); all_goals first | exact True.intro | with_reducible assumption | decide +kernel | with_reducible exact Option.isSome_some | omega | with_reducible exact decide_eq_true (by omega) | with_reducible exact decide_eq_false (by omega) | with_reducible exact beq_iff_eq.2 (by omega) | with_reducible exact beq_eq_false_iff_ne.2 (by omega) | with_reducible exact bne_iff_ne.2 (by omega) | with_reducible exact bne_eq_false_iff_eq.2 (by omega) | skip) fun β6 a w hβ6 hl S => ?_
      rw [ei] at S
      have en : 0 + k + 1 + (i - k) = i + 1 := by omega
      have exs : [] ++ List.take (k * 6) (cur.flatMap Ev.cells) ++ (evs[i]).cells ++ List.drop (k * 6) (cur.flatMap Ev.cells) = (cur.take k ++ [evs[i]] ++ cur.drop k).flatMap Ev.cells := by
        rw [flat_take ev_len (by omega), flat_drop ev_len (by omega), List.nil_append, List.flatMap_append, List.flatMap_append, List.flatMap_singleton]
      obtain ⟨βz, hlz, S⟩ := ((S.keep [3, 9, 10, 11] rfl).dropb.dropb).cut 0 (by rw [hl]; simp) (by simp [SV.wfs, SV.wf]) (by simp [SV.wfs, SV.wf])
      have hO3 : Own M3 31 6 (.slice A3 (0 + k + 1 + (i - k)) c3) (0 + k + 1 + (i - k)) ((cur.take k ++ [evs[i]] ++ cur.drop k).flatMap Ev.cells) := by rw [← exs]; exact hO3
      have en2 : 0 + (Int.toNat (k : Int) - 0) + 1 + (i - Int.toNat (k : Int)) = i + 1 := by omega
      rw [en] at hO3
      rw [en2] at S
      refine xj ⟨i + 1, ⟨βz, M3, A3, c3, _, hlz, by omega, ⟨?_, ins_pw hI.pw (by omega) hb hgt, fun x => ?_⟩, hO3, S.sub ((List.sublist_cons_self M L).cons_cons M3)⟩, by omega⟩
      · rw [List.length_append, List.length_append, List.length_take, List.length_drop]
        simp
        omega
      · rw [ins_fil hI.fil hgt x, List.take_add_one, List.getElem?_eq_getElem hin]
        rfl
  · have e1 : i = evs.length := by omega
    subst e1
    refine xr hT S hl true [.b false] 200 rfl (by (repeat' apply And.intro); all_goals first | exact True.intro | with_reducible assumption | decide +kernel | with_reducible exact Option.isSome_some | omega | with_reducible exact decide_eq_true (by omega) | with_reducible exact decide_eq_false (by omega) | with_reducible exact beq_iff_eq.2 (by omega) | with_reducible exact beq_eq_false_iff_ne.2 (by omega) | with_reducible exact bne_iff_ne.2 (by omega) | with_reducible exact bne_eq_false_iff_eq.2 (by omega) | skip) fun β4 a w hβ4 hl S => ?_
    exact xret hT S rfl ⟨_, rfl, M, A, c, cur, rfl, hI, hO, S.tl'⟩
theorem c16 {s : Sc} {A E : Option Addr} {cb ce : Nat} {vs : List Value} {most : Int} (H : SH u w L) (hA : All2 (RBod L) vs s.bodies) (hRA : Rows L A s.bodies.length 1 vs) (hRE : Rows L E s.events.length 6 (s.events.flatMap Ev.cells)) (h : ScOk most s) (hm : most ≤ 2000) :
    Ret Try.prog 16 [SVal s A cb E ce] w fun v w' => ∃ M New A c cur, v = .slice A s.events.length c ∧ Sorted s cur ∧ Own M 31 6 (.slice A s.events.length c) s.events.length (cur.flatMap Ev.cells) ∧ SH u w' (M :: (New ++ L)) := by
  have h4 := h.events.1
  refine ent Try.func16 rfl H 9 rfl [(0, .v (SVal s A cb E ce))] rfl rfl fun a S => ?_
  refine xr hT S rfl true [] 200 rfl (by (repeat' apply And.intro); all_goals first | exact True.intro | with_reducible assumption | decide +kernel | with_reducible exact Option.isSome_some | omega | with_reducible exact decide_eq_true (by omega) | with_reducible exact decide_eq_false (by omega) | with_reducible exact beq_iff_eq.2 (by omega) | with_reducible exact beq_eq_false_iff_ne.2 (by omega) | with_reducible exact bne_iff_ne.2 (by omega) | with_reducible exact bne_eq_false_iff_eq.2 (by omega) | skip) fun β a w hβ hl S => ?_
  refine xc S rfl rfl rfl rfl rfl en27 (c27 (s := s) (A := A) (E := E) (cb := cb) (ce := ce) S.sh (hA.mono fun _ _ h => h.mono (fun m hm => by simp [hm])) (hRA.mono (fun m hm => by simp [hm])) (hRE.mono (fun m hm => by simp [hm])) h hm) fun v w ⟨hv, New, H⟩ => ?_
  have S := S.retd (New := New) 4 v H rfl
  subst hv
  refine xr hT S hl true [.b false] 200 rfl (by (repeat' apply And.intro); all_goals first | exact True.intro | with_reducible assumption | decide +kernel | with_reducible exact Option.isSome_some | omega | with_reducible exact decide_eq_true (by omega) | with_reducible exact decide_eq_false (by omega) | with_reducible exact beq_iff_eq.2 (by omega) | with_reducible exact beq_eq_false_iff_ne.2 (by omega) | with_reducible exact bne_iff_ne.2 (by omega) | with_reducible exact bne_eq_false_iff_eq.2 (by omega) | skip) fun β1 a w hβ1 hl S => ?_
  refine xc S rfl rfl rfl rfl rfl en28 (c28 (E := E) (ce := ce) (evs := s.events) S.sh (hRE.mono (fun m hm => by simp [hm])) h4) fun v w ⟨M, A9, c9, cur, hv, hI, hO, H⟩ => ?_
  have S := S.retd (New := [M]) 8 v H rfl
  subst hv
  refine xr hT S hl true [] 200 rfl (by (repeat' apply And.intro); all_goals first | exact True.intro | with_reducible assumption | decide +kernel | with_reducible exact Option.isSome_some | omega | with_reducible exact decide_eq_true (by omega) | with_reducible exact decide_eq_false (by omega) | with_reducible exact beq_iff_eq.2 (by omega) | with_reducible exact beq_eq_false_iff_ne.2 (by omega) | with_reducible exact bne_iff_ne.2 (by omega) | with_reducible exact bne_eq_false_iff_eq.2 (by omega) | skip) fun β2 a w hβ2 hl S => ?_
  refine xret hT S rfl ⟨_, rfl, M, New, A9, c9, cur, rfl, Sorted.of hI.len hI.pw (fun x => ?_), hO, S.tl'⟩
  have := hI.fil x
  rw [List.take_of_length_le (Nat.le_refl _)] at this
  exact this
end Go.SX
set_option maxRecDepth 100000
set_option linter.unusedVariables false
set_option linter.unusedSectionVars false
namespace Go.SX
open Go.Proofs
variable {u w : World} {L B : List Hp} {b : Nat} {M : Hp}
theorem take_stk {cur : List Ev} {N j : Nat} (hj : j < cur.length) : (cur.take (j + 1)).countP (stk (N : Int)) = (cur.take j).countP (stk (N : Int)) + if stk (N : Int) cur[j] = true then 1 else 0 := by
  rw [List.take_add_one, List.getElem?_eq_getElem hj, List.countP_append]
  show _ + List.countP _ [cur[j]] = _
  rw [List.countP_singleton]
theorem take_le {cur : List Ev} {p : Ev → Bool} (j : Nat) : (cur.take j).countP p ≤ cur.countP p := List.Sublist.countP_le (List.take_sublist j cur)
theorem c6 {A : Option Addr} {n c : Nat} (H : SH u w L) (hB : n ≤ 1048576 → Byt B A n) (hs : B ⊆ L) (hn : n ≤ 9223372036854775807) : Ret Try.prog 6 [.slice A n c] w (Pl u L fun v => v = .bool true) := by
  refine ent Try.func6 rfl H 99 rfl [(0, .v (.slice A n c))] rfl rfl fun a S => ?_
  by_cases hbig : n ≤ 1048576
  · refine xr hT S rfl true [.b false] 200 rfl (by (repeat' apply And.intro); all_goals first | exact True.intro | with_reducible assumption | decide +kernel | with_reducible exact Option.isSome_some | omega | with_reducible exact decide_eq_true (by omega) | with_reducible exact decide_eq_false (by omega) | with_reducible exact beq_iff_eq.2 (by omega) | with_reducible exact beq_eq_false_iff_ne.2 (by omega) | with_reducible exact bne_iff_ne.2 (by omega) | with_reducible exact bne_eq_false_iff_eq.2 (by omega) | skip) fun β a w hβ hl S => ?_
    refine xc S rfl rfl rfl rfl rfl en7 (c7 (most := 40) S.sh (hB hbig) (List.subset_append_of_subset_right _ hs) hbig (by decide) (by decide)) fun v w ⟨New, s, H, hR, hO, hne⟩ => ?_
    have S := S.retd (New := New) 17 v H rfl
    obtain ⟨A1, cb, E, ce, vs, rfl, hA1, hRA, hRE⟩ := hR
    refine xr hT S hl true [] 200 rfl (by (repeat' apply And.intro); all_goals first | exact True.intro | with_reducible assumption | decide +kernel | with_reducible exact Option.isSome_some | omega | with_reducible exact decide_eq_true (by omega) | with_reducible exact decide_eq_false (by omega) | with_reducible exact beq_iff_eq.2 (by omega) | with_reducible exact beq_eq_false_iff_ne.2 (by omega) | with_reducible exact bne_iff_ne.2 (by omega) | with_reducible exact bne_eq_false_iff_eq.2 (by omega) | skip) fun β1 a w hβ1 hl S => ?_
    have hlen := hO.len
    have hel := hO.events.1
    have hvo := hO.voices
    have hcall := c12 (s := s) (A := A1) (E := E) (cb := cb) (ce := ce) (vs := vs) S.sh (hA1.mono fun _ _ h => h.mono (fun m hm => by simp [hm])) (hRA.mono (fun m hm => by simp [hm])) (hRE.mono (fun m hm => by simp [hm])) hO
    have hNi : ((s.len.toNat : Nat) : Int) = s.len := Int.toNat_of_nonneg hlen.1
    generalize hN : s.len.toNat = N at hNi hcall
    refine xc S rfl rfl rfl rfl rfl en12 hcall fun v w ⟨cur, O2, Ao2, co2, rws, hcur, hv, hrl, hrk, hRZ, hO2, H⟩ => ?_
    have S := S.retd (New := O2 :: rws.map RW.h) 20 v H rfl
    subst hv
    refine xr hT S hl true [] 200 rfl (by (repeat' apply And.intro); all_goals first | exact True.intro | with_reducible assumption | decide +kernel | with_reducible exact Option.isSome_some | omega | with_reducible exact decide_eq_true (by omega) | with_reducible exact decide_eq_false (by omega) | with_reducible exact beq_iff_eq.2 (by omega) | with_reducible exact beq_eq_false_iff_ne.2 (by omega) | with_reducible exact bne_iff_ne.2 (by omega) | with_reducible exact bne_eq_false_iff_eq.2 (by omega) | skip) fun β2 a w hβ2 hl S => ?_
    refine xc S rfl rfl rfl rfl rfl en16 (c16 (s := s) (A := A1) (E := E) (cb := cb) (ce := ce) (vs := vs) (most := 40) S.sh (hA1.mono fun _ _ h => h.mono (fun m hm => by simp [hm])) (hRA.mono (fun m hm => by simp [hm])) (hRE.mono (fun m hm => by simp [hm])) hO (by decide)) fun v w ⟨M3, New3, A3, c3, curX, hv, hcurX, hO3, H⟩ => ?_
    have S := S.retd (New := M3 :: New3) 24 v H rfl
    subst hv
    obtain rfl : cur = curX := hcur.unique hcurX
    refine xr hT S hl true [] 200 rfl (by (repeat' apply And.intro); all_goals first | exact True.intro | with_reducible assumption | decide +kernel | with_reducible exact Option.isSome_some | omega | with_reducible exact decide_eq_true (by omega) | with_reducible exact decide_eq_false (by omega) | with_reducible exact beq_iff_eq.2 (by omega) | with_reducible exact beq_eq_false_iff_ne.2 (by omega) | with_reducible exact bne_iff_ne.2 (by omega) | with_reducible exact bne_eq_false_iff_eq.2 (by omega) | skip) fun β3 a w hβ3 hl S => ?_
    have hcl := hcur.len
    have hev0 : ∀ e ∈ cur, (0 : Int) ≤ e.at_ := fun e he => (hcur.ev hO e he).1.1
    have hp := srt_pw hcur.srt (by rw [hcur.len]; exact Nat.le_refl _)
    have hrb : rws.length = cur.countP (stk (N : Int)) := by rw [hrl, run_begun hcur hev0]
    have hcc : cur.countP (stk (N : Int)) ≤ 16 := by have := List.countP_le_length (p := stk (N : Int)) (l := cur); omega
    have S := S.keep [3, 4, 5, 6, 24, 25, 26] rfl
    obtain ⟨TL, hTL⟩ : ∃ TL, TL = (M3 :: New3) ++ ((O2 :: rws.map RW.h) ++ (New ++ L)) := ⟨_, rfl⟩
    have hO2m : O2 ∈ TL := by rw [hTL]; simp
    have hO3m : M3 ∈ TL := by rw [hTL]; simp
    have hNm : New ⊆ TL := fun m hm => by rw [hTL]; simp [hm]
    have hrm : ∀ r ∈ rws, r.h ∈ TL := fun r hr => by
      rw [hTL]
      exact List.mem_append_right _ (List.mem_append_left _ (List.mem_cons_of_mem _ (List.mem_map_of_mem hr)))
    have hLs : L.Sublist TL := by
      rw [hTL]
      exact ((List.sublist_append_right New L).trans (List.sublist_append_right _ _)).trans (List.sublist_append_right _ _)
    rw [← hTL] at S
    refine xloop (fun (j : Nat) a w => ∃ β, β.length = 1 ∧ j ≤ s.events.length ∧ St β u w a 99 [(3, .p 0 0), (4, .v (.slice Ao2 rws.length co2)), (5, .v (.bool true)), (6, .v (.int .i64 ((cur.take j).countP (stk (N : Int)) : Nat))), (24, .v (.slice A3 s.events.length c3)), (25, .v (.int .i64 s.events.length)), (26, .v (.int .i64 (j : Int)))] [BXs 0 s A1 cb E ce] TL) (fun j => s.events.length - j) 0
      ⟨β3, hl, Nat.zero_le _, S⟩ fun j a w ⟨β, hl, hj, S⟩ => ?_
    by_cases hjn : j < s.events.length
    · have hjc : j < cur.length := by omega
      have hRo : Rows TL Ao2 rws.length 1 (rws.map (RW.val N)) := hO2.rows hO2m
      have hR3 : Rows TL A3 s.events.length 6 (cur.flatMap Ev.cells) := hO3.rows hO3m
      obtain ⟨ad3, rfl⟩ := hR3.2.1 (by omega)
      have hc3 := (hR3.2.2 ad3 rfl).elem ev_len hjc
      have ej : (j : Int) + 1 = ((j + 1 : Nat) : Int) := by omega
      have htk := take_stk (N := N) hjc
      have hle := take_le (cur := cur) (p := stk (N : Int)) (j + 1)
      by_cases hk1 : cur[j].kind = 1
      · by_cases hat : cur[j].at_ < s.len
        · have hst : stk (N : Int) cur[j] = true := by simp [stk, hk1]; omega
          rw [hst, if_pos rfl] at htk
          generalize hkk : (cur.take j).countP (stk (N : Int)) = k at S htk
          have hkn : k < rws.length := by omega
          obtain ⟨ado, rfl⟩ := hRo.2.1 (by omega)
          obtain ⟨r, hr⟩ : ∃ r, r = rws[k] := ⟨_, rfl⟩
          have hmem : r ∈ rws := by rw [hr]; exact List.getElem_mem hkn
          have hrok := hrk r hmem
          have q4 := hRo.cell (j := k) (v := .slice (some ⟨r.g, 0, none⟩) N r.c) (n := rws.length) (c := 0) (by rw [List.getElem?_map, List.getElem?_eq_getElem hkn, hr]; rfl)
          have hrr : Rows TL (some ⟨r.g, 0, none⟩) N 1 (r.xs.map fV) := hrok.rows (hrm r hmem)
          have ha0 := hev0 _ (List.getElem_mem hjc)
          obtain ⟨at0, hat0⟩ := Int.eq_ofNat_of_zero_le ha0
          refine xr hT S hl true [.b true, .v (cur[j]).cells, .b false, .b false, .b false, .v [.slice (some ⟨r.g, 0, none⟩) N r.c], .b false] 200 rfl ?_ fun β4 a w hβ4 hl S => ?_
          · (repeat' apply And.intro); all_goals first | exact True.intro | with_reducible assumption | decide +kernel | with_reducible exact Option.isSome_some | omega | with_reducible exact decide_eq_true (by omega) | with_reducible exact decide_eq_false (by omega) | with_reducible exact beq_iff_eq.2 (by omega) | with_reducible exact beq_eq_false_iff_ne.2 (by omega) | with_reducible exact bne_iff_ne.2 (by omega) | with_reducible exact bne_eq_false_iff_eq.2 (by omega) | skip
            all_goals first | exact bne_eq_false_iff_eq.2 hk1 | exact q4 | exact bne_eq_false_iff_eq.2 hNi | (show RdV _ (ad3.add (Int.toNat (j : Int) * 6)) _; rw [Int.toNat_natCast]; exact hc3)
          refine xloop (fun (i : Nat) a w => ∃ β, β.length = 2 ∧ i ≤ at0 ∧ St β u w a 99 [(3, .p 0 0), (4, .v (.slice (some ado) rws.length co2)), (5, .v (.bool true)), (6, .v (.int .i64 (k : Int))), (8, .p 1 0), (9, .v (.int .i64 (i : Int))), (24, .v (.slice (some ad3) s.events.length c3)), (25, .v (.int .i64 s.events.length)), (26, .v (.int .i64 (j : Int)))] [(1, 31, (cur[j]).cells.map .v), BXs 0 s A1 cb E ce] TL) (fun i => at0 - i) 0
            ⟨β4, hl, Nat.zero_le _, S.keep [3, 4, 5, 6, 8, 9, 24, 25, 26] rfl⟩ fun i a w ⟨β, hl, hi, S⟩ => ?_
          by_cases hin : i < at0
          · have ei : (i : Int) + 1 = ((i + 1 : Nat) : Int) := by omega
            have hx0 : (r.xs.map fV)[i]? = some (fV 0) := by
              have hz := hRZ k r (by rw [List.getElem?_eq_getElem hkn, hr]) i (.inr (fun v hv => by
                have h1 := va_begun hcur hev0 i v hv
                have h2 := stk_before hp (i := i) hjc (by omega) (N := N) (by omega)
                omega))
              have hlt : i < r.xs.length := by rw [hrok.len]; omega
              rw [List.getElem?_map, List.getElem?_eq_getElem hlt]
              rw [List.getD_eq_getElem?_getD, List.getElem?_eq_getElem hlt] at hz
              simp only [Option.getD_some] at hz
              rw [hz]
              rfl
            have q5 := hrr.cell (j := i) (v := fV 0) (n := N) (c := 0) hx0
            refine xr hT S hl true [.b true, .v [.slice (some ⟨r.g, 0, none⟩) N r.c], .v [fV 0], .b false] 200 rfl ?_ fun β5 a w hβ5 hl S => ?_
            · (repeat' apply And.intro); all_goals first | exact True.intro | with_reducible assumption | decide +kernel | with_reducible exact Option.isSome_some | omega | with_reducible exact decide_eq_true (by omega) | with_reducible exact decide_eq_false (by omega) | with_reducible exact beq_iff_eq.2 (by omega) | with_reducible exact beq_eq_false_iff_ne.2 (by omega) | with_reducible exact bne_iff_ne.2 (by omega) | with_reducible exact bne_eq_false_iff_eq.2 (by omega) | skip
              all_goals first | exact q4 | exact q5 | skip
            rw [ei] at S
            exact xj ⟨i + 1, ⟨β5, hl, by omega, S.keep [3, 4, 5, 6, 8, 9, 24, 25, 26] rfl⟩, by omega⟩
          · refine xr hT S hl true [.b false] 200 rfl (by (repeat' apply And.intro); all_goals first | exact True.intro | with_reducible assumption | decide +kernel | with_reducible exact Option.isSome_some | omega | with_reducible exact decide_eq_true (by omega) | with_reducible exact decide_eq_false (by omega) | with_reducible exact beq_iff_eq.2 (by omega) | with_reducible exact beq_eq_false_iff_ne.2 (by omega) | with_reducible exact bne_iff_ne.2 (by omega) | with_reducible exact bne_eq_false_iff_eq.2 (by omega) | skip) fun β5 a w hβ5 hl S => ?_
            have ek : (k : Int) + 1 = (((cur.take (j + 1)).countP (stk (N : Int)) : Nat) : Int) := by omega
            rw [ej, ek] at S
            obtain ⟨βz, hlz, S⟩ := ((S.keep [3, 4, 5, 6, 24, 25, 26] rfl).dropb).cut 1 (by rw [hl]; simp) (by simp [SV.wfs, SV.wf]) (by simp [SV.wfs, SV.wf])
            exact xj ⟨j + 1, ⟨βz, hlz, by omega, S⟩, by omega⟩
        · have hst : stk (N : Int) cur[j] = false := by simp [stk, hk1]; omega
          rw [hst, if_neg (by decide)] at htk
          refine xr hT S hl true [.b true, .v (cur[j]).cells, .b false, .b true] 200 rfl ?_ fun β4 a w hβ4 hl S => ?_
          · (repeat' apply And.intro); all_goals first | exact True.intro | with_reducible assumption | decide +kernel | with_reducible exact Option.isSome_some | omega | with_reducible exact decide_eq_true (by omega) | with_reducible exact decide_eq_false (by omega) | with_reducible exact beq_iff_eq.2 (by omega) | with_reducible exact beq_eq_false_iff_ne.2 (by omega) | with_reducible exact bne_iff_ne.2 (by omega) | with_reducible exact bne_eq_false_iff_eq.2 (by omega) | skip
            all_goals first | exact bne_eq_false_iff_eq.2 hk1 | (show RdV _ (ad3.add (Int.toNat (j : Int) * 6)) _; rw [Int.toNat_natCast]; exact hc3)
          rw [ej, ← Nat.add_zero ((cur.take j).countP _), ← htk] at S
          obtain ⟨βz, hlz, S⟩ := ((S.keep [3, 4, 5, 6, 24, 25, 26] rfl).dropb).cut 1 (by rw [hl]; simp) (by simp [SV.wfs, SV.wf]) (by simp [SV.wfs, SV.wf])
          exact xj ⟨j + 1, ⟨βz, hlz, by omega, S⟩, by omega⟩
      · have hst : stk (N : Int) cur[j] = false := by simp [stk, hk1]
        rw [hst, if_neg (by decide)] at htk
        refine xr hT S hl true [.b true, .v (cur[j]).cells, .b true] 200 rfl ?_ fun β4 a w hβ4 hl S => ?_
        · (repeat' apply And.intro); all_goals first | exact True.intro | with_reducible assumption | decide +kernel | with_reducible exact Option.isSome_some | omega | with_reducible exact decide_eq_true (by omega) | with_reducible exact decide_eq_false (by omega) | with_reducible exact beq_iff_eq.2 (by omega) | with_reducible exact beq_eq_false_iff_ne.2 (by omega) | with_reducible exact bne_iff_ne.2 (by omega) | with_reducible exact bne_eq_false_iff_eq.2 (by omega) | skip
          all_goals first | exact bne_iff_ne.2 hk1 | (show RdV _ (ad3.add (Int.toNat (j : Int) * 6)) _; rw [Int.toNat_natCast]; exact hc3)
        rw [ej, ← Nat.add_zero ((cur.take j).countP _), ← htk] at S
        obtain ⟨βz, hlz, S⟩ := ((S.keep [3, 4, 5, 6, 24, 25, 26] rfl).dropb).cut 1 (by rw [hl]; simp) (by simp [SV.wfs, SV.wf]) (by simp [SV.wfs, SV.wf])
        exact xj ⟨j + 1, ⟨βz, hlz, by omega, S⟩, by omega⟩
    · have e1 : j = cur.length := by omega
      rw [e1, List.take_of_length_le (Nat.le_refl _), ← hrb] at S
      refine xr hT S hl true [.b false] 200 rfl (by (repeat' apply And.intro); all_goals first | exact True.intro | with_reducible assumption | decide +kernel | with_reducible exact Option.isSome_some | omega | with_reducible exact decide_eq_true (by omega) | with_reducible exact decide_eq_false (by omega) | with_reducible exact beq_iff_eq.2 (by omega) | with_reducible exact beq_eq_false_iff_ne.2 (by omega) | with_reducible exact bne_iff_ne.2 (by omega) | with_reducible exact bne_eq_false_iff_eq.2 (by omega) | skip) fun β4 a w hβ4 hl S => ?_
      refine xloop (fun (i : Nat) a w => ∃ β, β.length = 1 ∧ i ≤ N ∧ St β u w a 99 [(3, .p 0 0), (4, .v (.slice Ao2 rws.length co2)), (5, .v (.bool true)), (6, .v (.int .i64 rws.length)), (10, .v (.int .i64 (i : Int)))] [BXs 0 s A1 cb E ce] TL) (fun i => N - i) 0
        ⟨β4, hl, Nat.zero_le _, S.keep [3, 4, 5, 6, 10] rfl⟩ fun i a w ⟨β, hl, hi, S⟩ => ?_
      by_cases hin : i < N
      · have ei : (i : Int) + 1 = ((i + 1 : Nat) : Int) := by omega
        refine xr hT S hl true [.b true] 200 rfl (by (repeat' apply And.intro); all_goals first | exact True.intro | with_reducible assumption | decide +kernel | with_reducible exact Option.isSome_some | omega | with_reducible exact decide_eq_true (by omega) | with_reducible exact decide_eq_false (by omega) | with_reducible exact beq_iff_eq.2 (by omega) | with_reducible exact beq_eq_false_iff_ne.2 (by omega) | with_reducible exact bne_iff_ne.2 (by omega) | with_reducible exact bne_eq_false_iff_eq.2 (by omega) | skip) fun β5 a w hβ5 hl S => ?_
        have hNs : ∀ β' : List Nat, ∀ bx' : BL, New ⊆ bhs β' bx' ++ TL := fun β' bx' m hm => List.mem_append_right _ (hNm hm)
        refine xc S rfl rfl rfl rfl rfl en11 (c11 (s := s) (A := A1) (E := E) (cb := cb) (ce := ce) (vs := vs) (n := i) S.sh (hA1.mono fun _ _ h => h.mono (hNs _ _)) (hRA.mono (hNs _ _)) (hRE.mono (hNs _ _)) hO (by omega)) fun v w ⟨cur9, O, Ao, co, hcur9, hv, H⟩ => ?_
        have S := S.retd (New := [O]) 80 v H rfl
        obtain rfl : cur = cur9 := hcur.unique hcur9
        subst hv
        have hlv : ((VA s cur i).length : Int) ≤ s.voices := by
          have hg := runP_gok (evs := cur) hO.sok (hcur.ev hO) (by omega) i (by omega)
          exact (arr_gok hO.sok (by omega) hg (hcur.ev hO) (by omega)).most
        refine xr hT S hl true [.b false, .b false] 200 rfl (by (repeat' apply And.intro); all_goals first | exact True.intro | with_reducible assumption | decide +kernel | with_reducible exact Option.isSome_some | omega | with_reducible exact decide_eq_true (by omega) | with_reducible exact decide_eq_false (by omega) | with_reducible exact beq_iff_eq.2 (by omega) | with_reducible exact beq_eq_false_iff_ne.2 (by omega) | with_reducible exact bne_iff_ne.2 (by omega) | with_reducible exact bne_eq_false_iff_eq.2 (by omega) | skip) fun β6 a w hβ6 hl S => ?_
        rw [ei] at S
        exact xj ⟨i + 1, ⟨β6, hl, by omega, (S.keep [3, 4, 5, 6, 10] rfl).sub (List.sublist_cons_self O TL)⟩, by omega⟩
      · refine xr hT S hl true [.b false, .b true] 200 rfl (by (repeat' apply And.intro); all_goals first | exact True.intro | with_reducible assumption | decide +kernel | with_reducible exact Option.isSome_some | omega | with_reducible exact decide_eq_true (by omega) | with_reducible exact decide_eq_false (by omega) | with_reducible exact beq_iff_eq.2 (by omega) | with_reducible exact beq_eq_false_iff_ne.2 (by omega) | with_reducible exact bne_iff_ne.2 (by omega) | with_reducible exact bne_eq_false_iff_eq.2 (by omega) | skip) fun β5 a w hβ5 hl S => ?_
        refine xret hT S rfl ⟨_, rfl, ?_, S.tl'.sub hLs⟩
        show Value.bool ((rws.length : Int) == (rws.length : Int)) = _
        rw [beq_self_eq_true]
  · refine xr hT S rfl true [.b true] 200 rfl (by (repeat' apply And.intro); all_goals first | exact True.intro | with_reducible assumption | decide +kernel | with_reducible exact Option.isSome_some | omega | with_reducible exact decide_eq_true (by omega) | with_reducible exact decide_eq_false (by omega) | with_reducible exact beq_iff_eq.2 (by omega) | with_reducible exact beq_eq_false_iff_ne.2 (by omega) | with_reducible exact bne_iff_ne.2 (by omega) | with_reducible exact bne_eq_false_iff_eq.2 (by omega) | skip) fun β a w hβ hl S => ?_
    exact xret hT S rfl ⟨_, rfl, rfl, S.sh⟩
end Go.SX
