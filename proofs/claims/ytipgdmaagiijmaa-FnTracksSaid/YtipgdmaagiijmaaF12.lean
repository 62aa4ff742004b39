import Derived.Test.YtipgdmaagiijmaaF11
set_option maxRecDepth 100000
set_option linter.unusedVariables false
set_option linter.unusedSectionVars false
namespace Go.SX
open Go.Proofs
variable {u w : World} {L B : List Hp} {b : Nat} {M : Hp}

def rampW (n i : Nat) : Nat := fop .quo .f32 (FloatKind.f32.nearest ((i : Int) + 1)) (FloatKind.f32.nearest n)
def archT (n i : Nat) : Nat := fop .quo .f32 (FloatKind.f32.nearest (2 * (i : Int) + 1)) (FloatKind.f32.nearest (2 * (n : Int)))
def archW (n i : Nat) : Nat := fop .mul .f32 (fop .mul .f32 1082130432 (archT n i)) (fop .sub .f32 1065353216 (archT n i))
def shapeW (kind : Int) (n i : Nat) : Nat := if kind = 0 then (if i = 0 then 1065353216 else 0) else if kind = 1 then rampW n i else archW n i
def small1 (x : Nat) : Bool := decide (x < 2 ^ 32) && decide (x % 2 ^ 31 ≤ 1065353216)
def chk (n i : Nat) : Bool :=
  (floatBits .quo .f32 (FloatKind.f32.nearest ((i : Int) + 1)) (FloatKind.f32.nearest n)).isSome && (floatBits .quo .f32 (FloatKind.f32.nearest (2 * (i : Int) + 1)) (FloatKind.f32.nearest (2 * (n : Int)))).isSome &&
  (floatBits .mul .f32 1082130432 (archT n i)).isSome && (floatBits .sub .f32 1065353216 (archT n i)).isSome && (floatBits .mul .f32 (fop .mul .f32 1082130432 (archT n i)) (fop .sub .f32 1065353216 (archT n i))).isSome &&
  small1 (rampW n i) && small1 (archW n i)
theorem chk_all : ((List.range 10).all fun n => (List.range n).all fun i => chk n i) = true := by decide +kernel
theorem chk_ok {n i : Nat} (hn : n ≤ 9) (hi : i < n) : chk n i = true := by
  have h1 := List.all_eq_true.1 chk_all n (by simp; omega)
  exact List.all_eq_true.1 h1 i (by simpa using hi)
theorem small_mf {x : Nat} (h : small1 x = true) : Mf .f32 0 x := by
  simp only [small1, Bool.and_eq_true, decide_eq_true_eq] at h
  exact ⟨read_bd (f := Ieee.single) (K := 149) (by decide) h.2 (by decide), h.1⟩
theorem shape_mf {kind : Int} {n i : Nat} (hn : n ≤ 9) (hi : i < n) : Mf .f32 0 (shapeW kind n i) := by
  have h := chk_ok hn hi
  simp only [chk, Bool.and_eq_true] at h
  unfold shapeW
  split
  · split
    · exact small_mf (by decide)
    · exact small_mf (by decide)
  · split
    · exact small_mf h.1.2
    · exact small_mf h.2
def shapeRow (kind : Int) (n i : Nat) : List Value := (List.range n).map fun j => .float .f32 (if j < i then shapeW kind n j else 0)
theorem shapeRow_len (kind : Int) (n i : Nat) : (shapeRow kind n i).length = n := by simp [shapeRow]
theorem shapeRow_set {kind : Int} {n i : Nat} (hi : i < n) (v : Value) (hv : v = .float .f32 (shapeW kind n i)) : (shapeRow kind n i).take i ++ [v] ++ (shapeRow kind n i).drop (i + 1) = shapeRow kind n (i + 1) := by
  subst hv
  refine List.ext_getElem? fun j => ?_
  simp only [shapeRow, List.getElem?_append, List.length_append, List.length_take, List.length_map, List.length_range, List.length_singleton, List.getElem?_take, List.getElem?_drop, List.getElem?_map, Nat.min_eq_left (Nat.le_of_lt hi)]
  rcases Nat.lt_trichotomy j i with h | h | h
  · rw [if_pos (by omega), if_pos h, if_pos h]
    simp [List.getElem?_range (show j < n by omega), h, show j < i + 1 by omega]
  · subst h
    rw [if_pos (by omega), if_neg (by omega)]
    simp [List.getElem?_range hi]
  · rw [if_neg (by omega)]
    have e : i + 1 + (j - (i + 1)) = j := by omega
    rw [e]
    by_cases hj : j < n
    · simp [List.getElem?_range hj, show ¬ j < i by omega, show ¬ j < i + 1 by omega]
    · simp [hj]
theorem shapeRow_click {n i : Nat} (hn : 0 < n) : (shapeRow 0 n i).take 0 ++ [.float .f32 1065353216] ++ (shapeRow 0 n i).drop (0 + 1) = shapeRow 0 n (i + 1) := by
  refine List.ext_getElem? fun j => ?_
  simp only [shapeRow, List.take_zero, List.nil_append, List.getElem?_append, List.length_singleton, List.getElem?_drop, List.getElem?_map]
  cases j with
  | zero => simp [List.getElem?_range hn, shapeW]
  | succ j =>
    rw [if_neg (by omega), show 0 + 1 + (j + 1 - 1) = j + 1 by omega]
    by_cases hj : j + 1 < n
    · simp [List.getElem?_range hj, shapeW]
    · simp [hj]
theorem Own.pos {M : Hp} {e sz n : Nat} {v : Value} {xs : List Value} (h : Own M e sz v n xs) (hn : 0 < n) : ∃ g c, v = .slice (some ⟨g, 0, none⟩) n c := by
  rcases h.2 with ⟨_, h2, _⟩ | ⟨g, cap, cur, h1, _⟩
  · omega
  · exact ⟨g, cap, h1⟩
def I67 (u : World) (L : List Hp) (kind : Int) (n : Nat) (d : Nat) (a : Act) (w : World) : Prop := ∃ β Mr g c, β.length = 0 ∧ d ≤ n ∧ Own Mr 23 1 (.slice (some ⟨g, 0, none⟩) n c) n (shapeRow kind n (n - d)) ∧
  St β u w a 70 [(0, .v (.int .i64 kind)), (1, .v (.int .i64 n)), (6, .v (.slice (some ⟨g, 0, none⟩) n c)), (28, .v (.int .i64 n)), (29, .v (.int .i64 ((n - d : Nat) : Int)))] [] (Mr :: L)
theorem c67 {kind : Int} {n : Nat} (H : SH u w L) (h0 : 0 ≤ kind) (h1 : kind ≤ 2) (h2 : 1 ≤ n) (h3 : n ≤ 9) : Ret Try.prog 67 [.int .i64 kind, .int .i64 n] w
    fun v w' => ∃ Mr g c, v = .tuple #[.slice (some ⟨g, 0, none⟩) n c, .bool true] ∧ Own Mr 23 1 (.slice (some ⟨g, 0, none⟩) n c) n (shapeRow kind n n) ∧ SH u w' (Mr :: L) := by
  refine ent Try.func67 rfl H 70 rfl [(0, .v (.int .i64 kind)), (1, .v (.int .i64 n))] rfl rfl fun a S => ?_
  refine xr hT S rfl true [.b false, .b false, .b false, .b false] 200 rfl (by (repeat' apply And.intro); all_goals first | exact True.intro | with_reducible assumption | decide +kernel | with_reducible exact Option.isSome_some | omega | with_reducible exact decide_eq_true (by omega) | with_reducible exact decide_eq_false (by omega) | with_reducible exact beq_iff_eq.2 (by omega) | with_reducible exact beq_eq_false_iff_ne.2 (by omega) | skip) fun β a w hβ hl S => ?_
  refine xmake hT S rfl rfl rfl rfl rfl rfl rfl rfl (n0 := n) (m := n) rfl rfl (Nat.le_refl _) (by show n * 4 ≤ _; omega) (by decide) fun v' Mr a w hO S => ?_
  obtain ⟨g, c, rfl⟩ := hO.pos (by omega)
  have e0 : ((List.replicate n (Value.cells (.float .f32 0)).toList).flatten).take (n * 1) = shapeRow kind n 0 := by
    have e1 : (Value.cells (.float .f32 0)).toList = [.float .f32 0] := rfl
    rw [e1, Nat.mul_one]
    refine List.ext_getElem? fun j => ?_
    have e2 : ∀ m : Nat, (List.replicate m [Value.float .f32 0]).flatten = List.replicate m (Value.float .f32 0) := by
      intro m
      induction m with
      | zero => rfl
      | succ m ih => rw [List.replicate_succ, List.flatten_cons, ih]; rfl
    rw [e2]
    by_cases hj : j < n
    · simp [shapeRow, hj]
    · simp [shapeRow, hj]
  have hO : Own Mr 23 1 (.slice (some ⟨g, 0, none⟩) n c) n (shapeRow kind n 0) := e0 ▸ hO
  refine xr hT S hl true [] 200 rfl (by (repeat' apply And.intro); all_goals first | exact True.intro | with_reducible assumption | decide +kernel | with_reducible exact Option.isSome_some | omega | with_reducible exact decide_eq_true (by omega) | with_reducible exact decide_eq_false (by omega) | with_reducible exact beq_iff_eq.2 (by omega) | with_reducible exact beq_eq_false_iff_ne.2 (by omega) | skip) fun β a w hβ hl S => ?_
  refine xloop (I67 u L kind n) id n ⟨β, Mr, g, c, hl, Nat.le_refl _, by rw [Nat.sub_self]; exact hO, by rw [Nat.sub_self]; exact S.keep [0, 1, 6, 28, 29] rfl⟩ fun d a w ⟨β, Mr, g, c, hl, hd, hO, S⟩ => ?_
  by_cases hd0 : d = 0
  · subst hd0
    refine xr hT S hl true [.b false] 200 rfl (by (repeat' apply And.intro); all_goals first | exact True.intro | with_reducible assumption | decide +kernel | with_reducible exact Option.isSome_some | omega | with_reducible exact decide_eq_true (by omega) | with_reducible exact decide_eq_false (by omega) | with_reducible exact beq_iff_eq.2 (by omega) | with_reducible exact beq_eq_false_iff_ne.2 (by omega) | skip) fun β a w hβ hl S => ?_
    exact xret hT S rfl ⟨_, rfl, Mr, g, c, rfl, hO, S.sh⟩
  · have hi : n - d < n := by omega
    have hchk := chk_ok h3 hi
    simp only [chk, Bool.and_eq_true] at hchk
    obtain ⟨⟨⟨⟨⟨⟨k1, k2⟩, k3⟩, k4⟩, k5⟩, k6⟩, k7⟩ := hchk
    simp only [archT] at k3 k4 k5
    have ed : ((n - d : Nat) : Int) + 1 = ((n - (d - 1) : Nat) : Int) := by omega
    have ed' : n - d + 1 = n - (d - 1) := by omega
    obtain hk | hk | hk : kind = 0 ∨ kind = 1 ∨ kind = 2 := by omega
    · subst hk
      refine xr hT S hl true [.b true, .b true] 200 rfl (by (repeat' apply And.intro); all_goals first | exact True.intro | with_reducible assumption | decide +kernel | with_reducible exact Option.isSome_some | omega | with_reducible exact decide_eq_true (by omega) | with_reducible exact decide_eq_false (by omega) | with_reducible exact beq_iff_eq.2 (by omega) | with_reducible exact beq_eq_false_iff_ne.2 (by omega) | skip) fun β a w hβ hl S => ?_
      refine xset hT S rfl rfl rfl rfl rfl (add0 g _) hO rfl rfl rfl (by rw [shapeRow_len]; show 0 * 1 + 1 ≤ n; omega) fun Mr a w hO S => ?_
      have hO : Own Mr 23 1 (.slice (some ⟨g, 0, none⟩) n c) n (shapeRow 0 n (n - (d - 1))) := by
        rw [← ed']
        rw [← shapeRow_click (by omega)]
        exact hO
      refine xr hT S hl true [] 200 rfl (by (repeat' apply And.intro); all_goals first | exact True.intro | with_reducible assumption | decide +kernel | with_reducible exact Option.isSome_some | omega | with_reducible exact decide_eq_true (by omega) | with_reducible exact decide_eq_false (by omega) | with_reducible exact beq_iff_eq.2 (by omega) | with_reducible exact beq_eq_false_iff_ne.2 (by omega) | skip) fun β a w hβ hl S => ?_
      rw [ed] at S
      exact xj ⟨d - 1, ⟨β, Mr, g, c, hl, by omega, hO, S.keep [0, 1, 6, 28, 29] rfl⟩, by simp only [id]; omega⟩
    · subst hk
      refine xr hT S hl true [.b true, .b false, .b true] 200 rfl (by (repeat' apply And.intro); all_goals first | exact True.intro | with_reducible assumption | decide +kernel | with_reducible exact Option.isSome_some | omega | with_reducible exact decide_eq_true (by omega) | with_reducible exact decide_eq_false (by omega) | with_reducible exact beq_iff_eq.2 (by omega) | with_reducible exact beq_eq_false_iff_ne.2 (by omega) | skip) fun β a w hβ hl S => ?_
      refine xset hT S rfl rfl rfl rfl rfl (add0 g _) hO rfl rfl rfl (by rw [shapeRow_len]; show Int.toNat ((n - d : Nat) : Int) * 1 + 1 ≤ n; rw [Int.toNat_natCast]; omega) fun Mr a w hO S => ?_
      have hO : Own Mr 23 1 (.slice (some ⟨g, 0, none⟩) n c) n (shapeRow 1 n (n - (d - 1))) := by
        rw [← ed']
        simp only [Int.toNat_natCast, Nat.mul_one] at hO
        rw [← shapeRow_set hi _ rfl]
        exact hO
      refine xr hT S hl true [] 200 rfl (by (repeat' apply And.intro); all_goals first | exact True.intro | with_reducible assumption | decide +kernel | with_reducible exact Option.isSome_some | omega | with_reducible exact decide_eq_true (by omega) | with_reducible exact decide_eq_false (by omega) | with_reducible exact beq_iff_eq.2 (by omega) | with_reducible exact beq_eq_false_iff_ne.2 (by omega) | skip) fun β a w hβ hl S => ?_
      rw [ed] at S
      exact xj ⟨d - 1, ⟨β, Mr, g, c, hl, by omega, hO, S.keep [0, 1, 6, 28, 29] rfl⟩, by simp only [id]; omega⟩
    · subst hk
      refine xr hT S hl true [.b true, .b false, .b false, .b true] 200 rfl (by (repeat' apply And.intro); all_goals first | exact True.intro | with_reducible assumption | decide +kernel | with_reducible exact Option.isSome_some | omega | with_reducible exact decide_eq_true (by omega) | with_reducible exact decide_eq_false (by omega) | with_reducible exact beq_iff_eq.2 (by omega) | with_reducible exact beq_eq_false_iff_ne.2 (by omega) | skip) fun β a w hβ hl S => ?_
      have eW : fop .mul .f32 (fop .mul .f32 1082130432 (fop .quo .f32 (FloatKind.f32.nearest (2 * ((n - d : Nat) : Int) + 1)) (FloatKind.f32.nearest (2 * (n : Int))))) (fop .sub .f32 1065353216 (fop .quo .f32 (FloatKind.f32.nearest (2 * ((n - d : Nat) : Int) + 1)) (FloatKind.f32.nearest (2 * (n : Int))))) = shapeW 2 n (n - d) := rfl
      rw [eW] at S
      generalize hW : shapeW 2 n (n - d) = W at S
      refine xset hT S rfl rfl rfl rfl rfl (add0 g _) hO rfl rfl rfl (by rw [shapeRow_len]; show Int.toNat ((n - d : Nat) : Int) * 1 + 1 ≤ n; rw [Int.toNat_natCast]; omega) fun Mr a w hO S => ?_
      have hO : Own Mr 23 1 (.slice (some ⟨g, 0, none⟩) n c) n (shapeRow 2 n (n - (d - 1))) := by
        rw [← ed']
        simp only [Int.toNat_natCast, Nat.mul_one] at hO
        rw [← shapeRow_set hi (.float .f32 W) (by rw [hW])]
        exact hO
      refine xr hT S hl true [] 200 rfl (by (repeat' apply And.intro); all_goals first | exact True.intro | with_reducible assumption | decide +kernel | with_reducible exact Option.isSome_some | omega | with_reducible exact decide_eq_true (by omega) | with_reducible exact decide_eq_false (by omega) | with_reducible exact beq_iff_eq.2 (by omega) | with_reducible exact beq_eq_false_iff_ne.2 (by omega) | skip) fun β a w hβ hl S => ?_
      rw [ed] at S
      exact xj ⟨d - 1, ⟨β, Mr, g, c, hl, by omega, hO, S.keep [0, 1, 6, 28, 29] rfl⟩, by simp only [id]; omega⟩
end Go.SX
