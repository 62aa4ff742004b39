import Derived.Test.YtipgdmaagiijmaaN3
set_option linter.unusedVariables false
namespace Go.SX
def fx (x : Int) (l : List Ev) : List Ev := l.filter (fun e => e.at_ == x)
theorem fx_split (x : Int) {l : List Ev} {k : Nat} (hk : k < l.length) : fx x l = fx x (l.take k) ++ fx x [l[k]] ++ fx x (l.drop (k + 1)) := by
  unfold fx
  rw [← List.filter_append, ← List.filter_append]
  congr 1
  have h1 := List.take_append_drop k l
  have h2 := List.drop_eq_getElem_cons hk
  rw [List.append_assoc, List.singleton_append, ← h2, h1]
theorem fx_take (x : Int) {l : List Ev} {k : Nat} (hk : k < l.length) : fx x (l.take (k + 1)) = fx x (l.take k) ++ fx x [l[k]] := by
  unfold fx
  rw [← List.filter_append]
  congr 1
  rw [List.take_add_one, List.getElem?_eq_getElem hk]
  rfl
theorem fx_one {x : Int} {e : Ev} (h : e.at_ = x) : fx x [e] = [e] := by simp [fx, h]
theorem fx_none {x : Int} {e : Ev} (h : e.at_ ≠ x) : fx x [e] = [] := by simp [fx, h]
variable {cur evs : List Ev} {x : Int} {k q : Nat}
def Mid (cur evs : List Ev) (x : Int) (k q : Nat) : Prop := fx x (cur.take k) = fx x (evs.take q)
theorem Mid.zero : Mid cur evs x 0 0 := by simp [Mid]
theorem Mid.skipE (h : Mid cur evs x k q) (hq : q < evs.length) (hx : evs[q].at_ ≠ x) : Mid cur evs x k (q + 1) := by
  unfold Mid at *
  rw [fx_take x hq, fx_none hx, List.append_nil, h]
theorem Mid.skipC (h : Mid cur evs x k q) (hk : k < cur.length) (hx : cur[k].at_ ≠ x) : Mid cur evs x (k + 1) q := by
  unfold Mid at *
  rw [fx_take x hk, fx_none hx, List.append_nil, h]
theorem Mid.not_end (h : Mid cur evs x k q) (hF : Fil cur evs) (hk : cur.length ≤ k) (hq : q < evs.length) (hx : evs[q].at_ = x) : False := by
  unfold Mid at h
  rw [List.take_of_length_le hk] at h
  have h1 : fx x cur = fx x evs := hF x
  rw [h1, fx_split x hq, fx_one hx, List.append_assoc] at h
  have := congrArg List.length h
  simp at this
theorem Mid.same (h : Mid cur evs x k q) (hF : Fil cur evs) (hk : k < cur.length) (hq : q < evs.length) (h1 : cur[k].at_ = x) (h2 : evs[q].at_ = x) : cur[k] = evs[q] ∧ Mid cur evs x (k + 1) (q + 1) := by
  unfold Mid at *
  have hF' : fx x cur = fx x evs := hF x
  rw [fx_split x hk, fx_split x hq, fx_one h1, fx_one h2, h, List.append_assoc, List.append_assoc] at hF'
  have := List.append_cancel_left hF'
  simp only [List.singleton_append, List.cons.injEq] at this
  refine ⟨this.1, ?_⟩
  rw [fx_take x hk, fx_take x hq, fx_one h1, fx_one h2, h, this.1]
end Go.SX
