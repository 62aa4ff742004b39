import Derived.Test.YtipgdmaagiijmaaF16
set_option linter.unusedVariables false
set_option linter.unusedSimpArgs false
namespace Go.SX
/-! ### insertion by swaps, in plain lists -/
def swp (cur : List Ev) (j : Nat) : List Ev := match cur[j - 1]?, cur[j]? with
  | some x, some y => (cur.set j x).set (j - 1) y
  | _, _ => cur
theorem swp_len (cur : List Ev) (j : Nat) : (swp cur j).length = cur.length := by
  unfold swp
  split <;> simp
def Fil (cur evs : List Ev) : Prop := ∀ x, cur.filter (fun e => e.at_ == x) = evs.filter (fun e => e.at_ == x)
theorem Fil.mem {cur evs : List Ev} (h : Fil cur evs) {e : Ev} (he : e ∈ cur) : e ∈ evs := by
  have h1 : e ∈ cur.filter (fun f => f.at_ == e.at_) := List.mem_filter.2 ⟨he, by simp⟩
  rw [h] at h1
  exact (List.mem_filter.1 h1).1
theorem swp_split {cur : List Ev} {j : Nat} (hj0 : 0 < j) (hj : j < cur.length) : cur = cur.take (j - 1) ++ [cur[j - 1], cur[j]] ++ cur.drop (j + 1) ∧ swp cur j = cur.take (j - 1) ++ [cur[j], cur[j - 1]] ++ cur.drop (j + 1) := by
  have h1 : cur[j - 1]? = some cur[j - 1] := List.getElem?_eq_getElem (by omega)
  have h2 : cur[j]? = some cur[j] := List.getElem?_eq_getElem hj
  constructor
  · refine List.ext_getElem? fun i => ?_
    simp only [List.getElem?_append, List.length_append, List.length_take, List.length_cons, List.length_nil, List.getElem?_take, List.getElem?_drop, Nat.min_eq_left (show j - 1 ≤ cur.length by omega)]
    by_cases c1 : i < j - 1
    · simp [c1, show i < j - 1 + 2 by omega]
    · by_cases c2 : i = j - 1
      · subst c2; simp [h1]
      · by_cases c3 : i = j
        · subst c3
          have : i - (i - 1) = 1 := by omega
          simp [h2, this, show ¬ i < i - 1 by omega, show i < i - 1 + 2 by omega]
        · simp [c1, show ¬ i < j - 1 + 2 by omega, show j + 1 + (i - (j - 1 + 2)) = i by omega]
  · unfold swp
    rw [h1, h2]
    simp only
    refine List.ext_getElem? fun i => ?_
    simp only [List.getElem?_set, List.length_set, List.getElem?_append, List.length_append, List.length_take, List.length_cons, List.length_nil, List.getElem?_take, List.getElem?_drop, Nat.min_eq_left (show j - 1 ≤ cur.length by omega)]
    by_cases c1 : i < j - 1
    · simp [c1, show i < j - 1 + 2 by omega, show ¬ j - 1 = i by omega, show ¬ j = i by omega]
    · by_cases c2 : i = j - 1
      · subst c2; simp [show j - 1 < cur.length by omega]
      · by_cases c3 : i = j
        · subst c3
          have : i - (i - 1) = 1 := by omega
          simp [this, hj, show ¬ i - 1 = i by omega, show ¬ i < i - 1 by omega, show i < i - 1 + 2 by omega]
        · simp [c1, show ¬ i < j - 1 + 2 by omega, show j + 1 + (i - (j - 1 + 2)) = i by omega, show ¬ j - 1 = i by omega, show ¬ j = i by omega]
theorem Fil.swp {cur evs : List Ev} {j : Nat} (h : Fil cur evs) (hj0 : 0 < j) (hj : j < cur.length) (hlt : cur[j].at_ < cur[j - 1].at_) : Fil (swp cur j) evs := by
  intro x
  rw [← h x]
  obtain ⟨e1, e2⟩ := swp_split hj0 hj
  generalize cur[j] = y at hlt e1 e2
  generalize cur[j - 1] = z at hlt e1 e2
  rw [e2]
  conv => rhs; rw [e1]
  simp only [List.filter_append]
  congr 2
  simp only [List.filter_cons, List.filter_nil]
  by_cases c1 : z.at_ = x
  · have c2 : ¬ y.at_ = x := by omega
    simp [c1, c2]
  · by_cases c2 : y.at_ = x
    · simp [c1, c2]
    · simp [c1, c2]
def Srt (k : Nat) (cur : List Ev) : Prop := ∀ p q e f, p < q → q < k → cur[p]? = some e → cur[q]? = some f → e.at_ ≤ f.at_
def Hole (i j : Nat) (cur : List Ev) : Prop := ∀ p q e f, p < q → q ≤ i → q ≠ j → cur[p]? = some e → cur[q]? = some f → e.at_ ≤ f.at_
theorem Srt.hole {i : Nat} {cur : List Ev} (h : Srt i cur) : Hole i i cur := fun p q e f h1 h2 h3 => h p q e f h1 (by omega)
theorem Hole.zero {i : Nat} {cur : List Ev} (h : Hole i 0 cur) : Srt (i + 1) cur := fun p q e f h1 h2 => h p q e f h1 (by omega) (by omega)
theorem Hole.done {i j : Nat} {cur : List Ev} (h : Hole i j cur) (hj0 : 0 < j) (hj : j < cur.length) (hji : j ≤ i) (hle : cur[j - 1].at_ ≤ cur[j].at_) : Srt (i + 1) cur := by
  intro p q e f h1 h2 hp hq
  by_cases hqj : q = j
  · subst hqj
    have hf : f = cur[q] := by rw [List.getElem?_eq_getElem hj] at hq; exact (Option.some.inj hq).symm
    subst hf
    have hm : cur[q - 1]? = some cur[q - 1] := List.getElem?_eq_getElem (by omega)
    by_cases hpq : p = q - 1
    · subst hpq
      rw [hm] at hp
      cases hp
      exact hle
    · exact Int.le_trans (h p (q - 1) e _ (by omega) (by omega) (by omega) hp hm) hle
  · exact h p q e f h1 (by omega) hqj hp hq
theorem swp_at {cur : List Ev} {j : Nat} (hj0 : 0 < j) (hj : j < cur.length) (i : Nat) : (swp cur j)[i]? = if i = j then some cur[j - 1] else if i = j - 1 then some cur[j] else cur[i]? := by
  have h1 : cur[j - 1]? = some cur[j - 1] := List.getElem?_eq_getElem (by omega)
  have h2 : cur[j]? = some cur[j] := List.getElem?_eq_getElem hj
  unfold swp
  rw [h1, h2]
  simp only [List.getElem?_set, List.length_set]
  by_cases c1 : i = j
  · subst c1
    simp [hj, show ¬ i - 1 = i by omega]
  · by_cases c2 : i = j - 1
    · subst c2
      simp [c1, show j - 1 < cur.length by omega]
    · simp [c1, c2, show ¬ j = i by omega, show ¬ j - 1 = i by omega]
theorem Hole.swp {i j : Nat} {cur : List Ev} (h : Hole i j cur) (hj0 : 0 < j) (hj : j < cur.length) (hji : j ≤ i) (hlt : cur[j].at_ < cur[j - 1].at_) : Hole i (j - 1) (swp cur j) := by
  have h1 : cur[j - 1]? = some cur[j - 1] := List.getElem?_eq_getElem (by omega)
  have h2 : cur[j]? = some cur[j] := List.getElem?_eq_getElem hj
  intro p q e f hpq hqi hqj hp hq
  rw [swp_at hj0 hj] at hp hq
  by_cases c1 : q = j
  · rw [if_pos c1] at hq
    cases hq
    rw [if_neg (by omega)] at hp
    by_cases c2 : p = j - 1
    · rw [if_pos c2] at hp
      cases hp
      exact Int.le_of_lt hlt
    · rw [if_neg c2] at hp
      exact h p (j - 1) e _ (by omega) (by omega) (by omega) hp h1
  · rw [if_neg c1, if_neg hqj] at hq
    by_cases c2 : p = j
    · rw [if_pos c2] at hp
      cases hp
      exact h (j - 1) q _ f (by omega) hqi c1 h1 hq
    · rw [if_neg c2] at hp
      by_cases c3 : p = j - 1
      · rw [if_pos c3] at hp
        cases hp
        exact h j q _ f (by omega) hqi c1 h2 hq
      · rw [if_neg c3] at hp
        exact h p q e f hpq hqi c1 hp hq
theorem flat_set {α : Type} {cells : α → List Value} {sz : Nat} (hsz : ∀ x, (cells x).length = sz) : ∀ {xs : List α} {j : Nat} (hj : j < xs.length) (e : α), (xs.flatMap cells).take (j * sz) ++ cells e ++ (xs.flatMap cells).drop (j * sz + sz) = (xs.set j e).flatMap cells
  | x :: r, 0, _, e => by simp [hsz]
  | x :: r, j + 1, hj, e => by
    have e1 : (j + 1) * sz = (cells x).length + j * sz := by rw [hsz, Nat.add_mul, Nat.one_mul, Nat.add_comm]
    have e2 : (cells x).length + j * sz + sz = (cells x).length + (j * sz + sz) := by omega
    rw [List.flatMap_cons, e1, List.take_length_add_append, e2, List.drop_length_add_append, List.set_cons_succ, List.flatMap_cons, ← flat_set hsz (by simpa using hj) e]
    simp
end Go.SX
