import Derived.Test.YtipgdmaagiijmaaXn
set_option linter.unusedVariables false
set_option linter.unusedSimpArgs false
set_option linter.unusedSectionVars false
namespace Go
/-! ### a drawing region: a quiet head, and a tail in one order that keeps what the head looks at -/
section
variable {P : Program} {ops : Array Oper} {md : Region.Mode} {C : World → Prop} {Q : Exit → Act → World → Prop}
def YieldsC (P : Program) (ops : Array Oper) (C : World → Prop) (o : Oper) (v : Value) (a : Act) : Prop :=
  (Region.wanted o (yielded ops a.tmps) = true ∧ ∀ w, C w → (execOp a.eval o).run P w = .ok (.value v) w) ∨
  (Region.wanted o (yielded ops a.tmps) = false ∧ v = undef)
theorem YieldsC.of_same {o : Oper} {v : Value} {a a' : Act} (hy : YieldsC P ops C o v a) (he : execOp a'.eval o = execOp a.eval o)
    (hw : Region.wanted o (yielded ops a'.tmps) = Region.wanted o (yielded ops a.tmps)) : YieldsC P ops C o v a' := by
  unfold YieldsC at *
  rw [he, hw]
  exact hy
theorem YieldsC.wpOp {i : Nat} {o : Oper} {v : Value} {a : Act} (hi : ops[i]? = some o) (hy : YieldsC P ops C o v a)
    {K : Act → World → Prop} {w : World} (hw : C w) (h : K (a.put o.dst v) w) : wpOp P ops Q i K a w := by
  unfold Go.wpOp
  simp only [hi]
  rcases hy with ⟨hw', hv⟩ | ⟨hw', rfl⟩
  · simp only [hw', if_true, Oper.wp, hv w hw, Oper.upon]; exact .inl h
  · simp only [hw', Bool.false_eq_true, if_false]; exact h
theorem wpOp_putC {j : Nat} {oi oj : Oper} {v : Value} (hj : ops[j]? = some oj) (hap : oi.apart ops oj = true)
    (hsi : ∀ cs b, oi.op ≠ .select cs b) (hsj : ∀ cs b, oj.op ≠ .select cs b)
    (hQ : ∀ c a w, Q (.panic c) (a.put oi.dst v) w → Q (.panic c) a w) {K : Act → World → Prop} {a : Act} {w : World}
    (hy : YieldsC P ops C oi v a) (h : wpOp P ops Q j K (a.put oi.dst v) w) :
    wpOp P ops Q j (fun a' w' => YieldsC P ops C oi v a' ∧ K (a'.put oi.dst v) w') a w := by
  obtain ⟨h1, h2, h3⟩ := Oper.apart_spec hap
  have keep : ∀ (a : Act), YieldsC P ops C oi v a → ∀ u, YieldsC P ops C oi v (a.put oj.dst u) := fun a hy u =>
    hy.of_same (execOp_put oi hsi a oj.dst u h3) (wanted_put oi a oj.dst u h3)
  have keepD : ∀ d, YieldsC P ops C oi v { a with defers := d :: a.defers } := fun d => hy.of_same rfl rfl
  unfold wpOp at *
  simp only [hj] at *
  rw [wanted_put oj a oi.dst v h1] at h
  split
  · rename_i hw
    simp only [hw, if_true] at h
    rcases h with h | ⟨hasks, hlets⟩
    case inr => exact .inr ⟨by unfold Oper.asks at *; rw [execOp_put oj hsj a oi.dst v h1] at hasks; exact hasks, hlets⟩
    refine .inl ?_
    unfold Oper.wp at *
    rw [execOp_put oj hsj a oi.dst v h1] at h
    generalize (execOp a.eval oj).run P w = r at *
    cases r with
    | ok n w' =>
      cases n <;> simp only [Oper.upon] at h ⊢
      case value u => exact ⟨keep a hy u, by rw [← Act.put_comm a v u h2]; exact h⟩
      case skip => exact ⟨keep a hy _, by rw [← Act.put_comm a v undef h2]; exact h⟩
      case defer d =>
        refine ⟨keep _ (keepD d) _, ?_⟩
        rw [← Act.put_comm _ v undef h2, ← Act.put_defers]
        exact h
      case enter f args =>
        refine Calls.mono h fun e w'' he => ?_
        cases e with
        | returned u => exact ⟨keep a hy u, by rw [← Act.put_comm a v u h2]; exact he⟩
        | panicked c => exact hQ _ _ _ he
        | outgrown => exact he
      case row row args => exact Rows.mono h fun u w'' he => ⟨keep a hy u, by rw [← Act.put_comm a v u h2]; exact he⟩
    | halt x w' =>
      cases x <;> simp only [Oper.upon] at h ⊢
      case panic u => exact hQ _ _ _ h
  · rename_i hw
    simp only [hw] at h
    exact ⟨keep a hy _, by rw [← Act.put_comm a v undef h2]; exact h⟩
def wpAnyM (P : Program) (md : Region.Mode) (ops : Array Oper) (C : Nat → World → Prop) (n : Nat) (Q : Exit → Act → World → Prop) : Nat → Array Bool → Act → World → Prop
  | 0, listed, a, w => Region.ready md ops listed = [] ∧ Q .normal a w
  | fuel + 1, listed, a, w =>
    (Region.ready md ops listed = [] → Q .normal a w) ∧
    ∀ i ∈ Region.ready md ops listed, wpOp P ops Q i (fun a' w' => ((i < n → w' = w) ∧ (n ≤ i → ∀ j < n, Region.waitsFor md ops i j = true ∨ C j w')) ∧ wpAnyM P md ops C n Q fuel (listed.setIfInBounds i true) a' w') a w
theorem wpAny_of_M {C : Nat → World → Prop} {n : Nat} : ∀ (f : Nat) (listed : Array Bool) (a : Act) (w : World), wpAnyM P md ops C n Q f listed a w → wpAny P md ops Q f listed a w
  | 0, _, _, _, h => h
  | f + 1, _, _, _, h => ⟨h.1, fun i hi => wpOp_mono (fun a' w' h' => wpAny_of_M f _ a' w' h'.2) (h.2 i hi)⟩
theorem wpAnyM_first {C : Nat → World → Prop} {n i : Nat} {oi : Oper} {v : Value} (hin : i < n) (hi : ops[i]? = some oi) (hsel : ∀ (j : Nat) (o : Oper) cs b, ops[j]? = some o → o.op ≠ .select cs b)
    (hQ : ∀ c a w, Q (.panic c) (a.put oi.dst v) w → Q (.panic c) a w) :
    ∀ (fuel : Nat) (listed : Array Bool) (a : Act) (w : World), C i w →
      (∀ j oj, ops[j]? = some oj → j ≠ i → listed.getD j true = false → (∀ e ∈ oj.after, Region.binds md e = true → e.on ≠ i) → oi.apart ops oj = true) →
      i ∈ Region.ready md ops listed → YieldsC P ops (C i) oi v a →
      wpAnyM P md ops C n Q fuel (listed.setIfInBounds i true) (a.put oi.dst v) w → wpAnyM P md ops C n Q (fuel + 1) listed a w := by
  intro fuel
  induction fuel with
  | zero =>
    intro listed a w hCw _ hr hy H
    refine ⟨fun h => (by rw [h] at hr; cases hr), fun j hj => ?_⟩
    by_cases hji : j = i
    · subst hji; exact hy.wpOp hi hCw ⟨⟨fun _ => rfl, fun h => absurd h (by omega)⟩, H⟩
    · have := ready_mono hj hji
      rw [H.1] at this
      cases this
  | succ fuel ih =>
    intro listed a w hCw hfree hr hy H
    refine ⟨fun h => (by rw [h] at hr; cases hr), fun j hj => ?_⟩
    by_cases hji : j = i
    · subst hji; exact hy.wpOp hi hCw ⟨⟨fun _ => rfl, fun h => absurd h (by omega)⟩, H⟩
    · have h1 := H.2 j (ready_mono hj hji)
      obtain ⟨hjun, oj, hoj, hall⟩ := mem_ready.1 hj
      have hnot : ∀ e ∈ oj.after, Region.binds md e = true → e.on ≠ i := fun e he hb heq => by
        have h1 := hall e he hb
        have h0 := (mem_ready.1 hr).1
        rw [heq] at h1
        rcases Nat.lt_or_ge i listed.size with h' | h'
        · simp [h'] at h0 h1; rw [h0] at h1; cases h1
        · simp [Array.getElem?_eq_none h'] at h1
      have hnl : Region.waitsFor md ops j i = false := by
        cases hl : Region.waitsFor md ops j i
        · rfl
        · obtain ⟨oj', hoj', e, he, hb, heq⟩ := Region.waitsFor_spec hl
          rw [hoj] at hoj'
          cases hoj'
          exact absurd heq (hnot e he hb)
      have h2 := wpOp_putC hoj (hfree j oj hoj hji hjun hnot) (fun cs b => hsel i oi cs b hi) (fun cs b => hsel j oj cs b hoj) hQ hy h1
      have hfree' : ∀ k ok, ops[k]? = some ok → k ≠ i → (listed.setIfInBounds j true).getD k true = false →
          (∀ e ∈ ok.after, Region.binds md e = true → e.on ≠ i) → oi.apart ops ok = true := fun k ok hk hki hun hno => by
        refine hfree k ok hk hki ?_ hno
        by_cases hjk : j = k
        · subst hjk; exact hjun
        · rw [getD_set_ne true hjk] at hun; exact hun
      refine wpOp_mono (fun a' w' h3 => ?_) h2
      have hC' : C i w' := by
        by_cases hjn : j < n
        · rw [h3.2.1.1 hjn]; exact hCw
        · exact (h3.2.1.2 (by omega) i hin).resolve_left (by rw [hnl]; exact Bool.false_ne_true)
      refine ⟨h3.2.1, ih (listed.setIfInBounds j true) a' w' hC' hfree' (ready_mono hr (Ne.symm hji)) h3.1 ?_⟩
      rw [Array.setIfInBounds_comm _ _ hji]
      exact h3.2.2
/-- the head, every operation k yielding one value wherever C k holds, and writing nothing -/
def wpPure (P : Program) (ops : Array Oper) (C : Nat → World → Prop) (Q : Act → Prop) : Nat → List Oper → Act → Prop
  | _, [], a => Q a
  | k, o :: rest, a => if Region.wanted o (yielded ops a.tmps) then ∃ v, (∀ w, C k w → (execOp a.eval o).run P w = .ok (.value v) w) ∧ wpPure P ops C Q (k + 1) rest (a.put o.dst v) else wpPure P ops C Q (k + 1) rest (a.put o.dst undef)
def wpTail (P : Program) (ops : Array Oper) (A : Nat → World → Prop) (Q : Exit → Act → World → Prop) : Nat → List Oper → Act → World → Prop
  | _, [], a, w => Q .normal a w
  | k, _ :: rest, a, w => wpOp P ops Q k (fun a' w' => A k w' ∧ wpTail P ops A Q (k + 1) rest a' w') a w
theorem wpAnyM_of_tail {C A : Nat → World → Prop} {n : Nat} (hA : ∀ k w, n ≤ k → k < ops.size → A k w → ∀ j < n, Region.waitsFor md ops k j = true ∨ C j w) : ∀ (l : List Oper) (k : Nat) (listed : Array Bool) (a : Act) (w : World), n ≤ k → k + l.length = ops.size →
    Region.seqB md ops l.length k listed = true → wpTail P ops A Q k l a w → wpAnyM P md ops C n Q l.length listed a w
  | [], _, _, _, _, _, _, hB, h => ⟨by simpa [Region.seqB] using hB, h⟩
  | o :: l, k, listed, a, w, hk, hs, hB, h => by
    simp only [List.length_cons, Region.seqB, Bool.and_eq_true, decide_eq_true_eq] at hB
    refine ⟨fun h1 => (by rw [hB.1] at h1; cases h1), fun i hi => ?_⟩
    rw [hB.1] at hi
    have hik : i = k := by simpa using hi
    subst hik
    simp only [List.length_cons] at hs
    exact wpOp_mono (fun a' w' h' => ⟨⟨fun h => absurd h (by omega), fun _ => hA i w' hk (by omega) h'.1⟩, wpAnyM_of_tail hA l (i + 1) _ a' w' (by omega) (by omega) hB.2 h'.2⟩) h
/-- wk: the head's operations that look at nothing; behind m1 all wait for the others, behind m2 for these too -/
def Region.mixB (md : Region.Mode) (ops : Array Oper) (n m1 m2 : Nat) (wk : List Nat) : Bool :=
  Region.noSelect ops && decide (n ≤ ops.size) && (List.range ops.size).all (fun j => (decide (j < m1) || (List.range n).all fun i => wk.contains i || Region.waitsFor md ops j i) && (decide (j < m2) || (List.range n).all fun i => Region.waitsFor md ops j i)) &&
    decide (n ≤ m1) && decide (m1 ≤ m2) && Region.lexHead md ops (ops.size - n) n 0 (Array.replicate ops.size false)
theorem wpAnyM_lex {C A : Nat → World → Prop} {n g : Nat} (hsel : Region.noSelect ops = true) (hQ : ∀ d v c a w, Q (.panic c) (a.put d v) w → Q (.panic c) a w)
    (hA : ∀ k w, n ≤ k → k < ops.size → A k w → ∀ j < n, Region.waitsFor md ops k j = true ∨ C j w)
    {tl : List Oper} (htl : tl.length = g) (hg : n + g = ops.size) :
    ∀ (l : List Oper) (k : Nat) (listed : Array Bool) (a : Act) (w : World), (∀ i < n, C i w) → (∀ j, j < l.length → l[j]? = ops[k + j]?) → k + l.length = n →
    Region.lexHead md ops g l.length k listed = true → wpPure P ops C (fun a' => wpTail P ops A Q n tl a' w) k l a →
    wpAnyM P md ops C n Q (l.length + g) listed a w
  | [], k, listed, a, w, hCw, _, hk, hB, h => by
    have : k = n := by simpa using hk
    subst this
    subst htl
    rw [List.length_nil, Nat.zero_add]
    exact wpAnyM_of_tail hA tl k listed a w (Nat.le_refl _) hg (by simpa [Region.lexHead] using hB) h
  | o :: l, k, listed, a, w, hCw, hl, hk, hB, h => by
    have h0 : ops[k]? = some o := by simpa using (hl 0 (by simp)).symm
    simp only [List.length_cons, Region.lexHead, Bool.and_eq_true] at hB
    obtain ⟨⟨hr, hf⟩, hB'⟩ := hB
    have hr' : k ∈ Region.ready md ops listed := by simpa using hr
    have hkn : k < n := by simp only [List.length_cons] at hk; omega
    obtain ⟨v, hy, hK⟩ : ∃ v, YieldsC P ops (C k) o v a ∧ wpPure P ops C (fun a' => wpTail P ops A Q n tl a' w) (k + 1) l (a.put o.dst v) := by
      unfold wpPure at h
      by_cases hw : Region.wanted o (yielded ops a.tmps) = true
      · rw [if_pos hw] at h
        obtain ⟨v, h1, h2⟩ := h
        exact ⟨v, .inl ⟨hw, h1⟩, h2⟩
      · rw [if_neg hw] at h
        exact ⟨undef, .inr ⟨by simpa using hw, rfl⟩, h⟩
    rw [List.length_cons, show l.length + 1 + g = (l.length + g) + 1 by omega]
    exact wpAnyM_first hkn h0 (Region.noSelect_spec hsel) (hQ o.dst v) (l.length + g) listed a w (hCw k hkn) (Region.free_spec h0 hf) hr' hy
      (wpAnyM_lex hsel hQ hA htl hg l (k + 1) _ _ w hCw (fun j hj => by have := hl (j + 1) (by simp; omega); simpa [Nat.add_assoc, Nat.add_comm 1 j] using this) (by simp only [List.length_cons] at hk; omega) hB' hK)
/-- what a tail's operation must keep -/
def mixA (C0 C1 : World → Prop) (m1 m2 : Nat) (k : Nat) (w : World) : Prop := (k < m1 → C0 w) ∧ (k < m2 → C1 w)
def mixC (C0 C1 : World → Prop) (wk : List Nat) (i : Nat) : World → Prop := if wk.contains i = true then C1 else C0
theorem wp_region_mix {C0 C1 : World → Prop} {id : Nat} {a : Act} {w : World} {l : List Oper} (n m1 m2 : Nat) (wk : List Nat) (hm : P.follows .mixedOrders = true) (hB : Region.mixB .any l.toArray n m1 m2 wk = true)
    (hQ : ∀ d v c a w, Q (.panic c) (a.put d v) w → Q (.panic c) a w) (hC0 : C0 { w with drawn := w.drawn + 1 }) (hC1 : C1 { w with drawn := w.drawn + 1 })
    (h : wpPure P l.toArray (mixC C0 C1 wk) (fun a' => wpTail P l.toArray (mixA C0 C1 m1 m2) Q n (l.drop n) a' { w with drawn := w.drawn + 1 }) 0 (l.take n) a) : (Code.region id l.toArray true).wp P Q a w := by
  simp only [Region.mixB, Bool.and_eq_true, decide_eq_true_eq] at hB
  obtain ⟨⟨⟨⟨⟨hsel, hn⟩, hl⟩, hnm⟩, hmm⟩, hlex⟩ := hB
  have hn' : n ≤ l.length := by simpa using hn
  have htl : (l.take n).length = n := by simp; omega
  refine wp_region_any hm (wpAny_of_M (C := mixC C0 C1 wk) (n := n) _ _ _ _ ?_)
  have := wpAnyM_lex (md := .any) (n := n) (g := l.toArray.size - n) (C := mixC C0 C1 wk) (A := mixA C0 C1 m1 m2) hsel hQ (fun k w hk hks hA j hj => by
    have := List.all_eq_true.1 hl k (by simpa using hks)
    simp only [Bool.and_eq_true, Bool.or_eq_true, decide_eq_true_eq] at this
    obtain ⟨h1, h2⟩ := this
    rcases h2 with h2 | h2
    · by_cases hw : wk.contains j = true
      · right
        unfold mixC
        rw [if_pos hw]
        exact hA.2 h2
      · rcases h1 with h1 | h1
        · right
          unfold mixC
          rw [if_neg hw]
          exact hA.1 h1
        · left
          have := List.all_eq_true.1 h1 j (by simpa using hj)
          simp only [Bool.or_eq_true] at this
          exact this.resolve_left hw
    · left
      exact List.all_eq_true.1 h2 j (by simpa using hj)) (tl := l.drop n) (by simp) (by simp; omega) (l.take n) 0 (Array.replicate l.toArray.size false) a _ (fun i hi => by
      unfold mixC
      split
      · exact hC1
      · exact hC0) (fun j hj => by
      have hj' : j < n := by rw [htl] at hj; exact hj
      simp [hj']) (by simpa using htl) (by rw [htl]; exact hlex) h
  rw [htl, show n + (l.toArray.size - n) = l.toArray.size by simp; omega] at this
  exact this
end
end Go

namespace Go.SX
def mixS (C0 C1 : World → Prop) (all : List Oper) : Nat → Nat → List Oper → List TK → List TK
  | 0, _, l, k => .r all l :: k
  | t + 1, t1, o :: l, k => .r all [o] :: .a (match t1 with | 0 => C1 | _ + 1 => C0) :: mixS C0 C1 all t (t1 - 1) l k
  | _ + 1, _, [], k => k
theorem PQ_not_normal {P : Program} {R : Exit → Act → World → Prop} {C0 C1 : World → Prop} {all : List Oper} {e : Exit} (he : e ≠ .normal) {a : Act} {w : World} : ∀ (t t1 : Nat) (l : List Oper) (k : List TK), PQ P R (mixS C0 C1 all t t1 l k) e a w = PQ P R k e a w
  | 0, _, l, k => by cases e <;> first | exact absurd rfl he | rfl
  | t + 1, _, [], k => rfl
  | t + 1, t1, o :: l, k => by
    have := PQ_not_normal (P := P) (R := R) (C0 := C0) (C1 := C1) (all := all) he (a := a) (w := w) t (t1 - 1) l k
    cases e <;> first | exact absurd rfl he | (simpa only [mixS, PQ, Exit.then] using this)
theorem Oper.wp_upto {P : Program} {Q Q' : Exit → Act → World → Prop} {o : Oper} {a : Act} {w : World} {K : Act → World → Prop} (h : ∀ e, e ≠ .normal → ∀ a w, Q e a w = Q' e a w) (hh : o.wp P a w K Q) : o.wp P a w K Q' := by
  unfold Oper.wp at *
  generalize (execOp a.eval o).run P w = r at *
  have hl : LetsOut Q → LetsOut Q' := fun ⟨a, w, h1⟩ => ⟨a, w, by rw [← h _ (by simp)]; exact h1⟩
  cases r with
  | ok n w' =>
    cases n <;> simp only [Oper.upon] at hh ⊢ <;>
      first
        | exact hh
        | exact Calls.mono hh (fun e w'' he => by
            cases e with
            | returned v => exact he
            | panicked c => exact (h (.panic c) (by simp) a w'').mp he
            | outgrown => exact hl he)
  | halt x w' => cases x <;> simp only [Oper.upon] at hh ⊢ <;> first | exact hh | (rw [← h _ (by simp)]; exact hh)
theorem tail_step {P : Program} {R : Exit → Act → World → Prop} {C : World → Prop} {A : Nat → World → Prop} {all l : List Oper} {o : Oper} {i : Nat} {k S : List TK} {a : Act} {w : World} (h0 : all.toArray[i]? = some o)
    (hS : ∀ e, e ≠ .normal → ∀ a w, PQ P R S e a w = PQ P R k e a w) (hn : ∀ a w, C w → PQ P R S .normal a w → A i w ∧ wpTail P all.toArray A (PQ P R k) (i + 1) l a w)
    (h : PQ P R (.r all [o] :: .a C :: S) .normal a w) : wpTail P all.toArray A (PQ P R k) i (o :: l) a w := by
  have hq : ∀ e, e ≠ .normal → ∀ a w, PQ P R (.a C :: S) e a w = PQ P R k e a w := fun e he a w => by
    have := hS e he a w
    cases e <;> first | exact absurd rfl he | (simpa only [PQ, Exit.then] using this)
  rw [PQ] at h
  simp only [Exit.then] at h
  unfold wpList at h
  unfold wpTail wpOp
  simp only [h0]
  have key : ∀ a w, wpList P all.toArray (PQ P R (.a C :: S)) [] a w → A i w ∧ wpTail P all.toArray A (PQ P R k) (i + 1) l a w := fun a w hh => by
    simp only [wpList, PQ, Exit.then] at hh
    exact hn a w hh.1 hh.2
  split at h
  · rename_i hw
    rw [if_pos hw]
    refine h.imp (fun hh => Oper.wp_upto hq (Oper.wp_mono key hh)) fun ⟨h1, a', w', h2⟩ => ⟨h1, a', w', ?_⟩
    rw [← hq _ (by simp)]
    exact h2
  · rename_i hw
    rw [if_neg hw]
    exact key _ _ h
theorem tail_of_PQ {P : Program} {R : Exit → Act → World → Prop} {C0 C1 : World → Prop} (hC : ∀ w, C0 w → C1 w) {all : List Oper} {m1 m2 : Nat} (hm : m1 ≤ m2) {k : List TK} :
    ∀ (l : List Oper) (i : Nat) (t t1 : Nat) (a : Act) (w : World), (∀ j, l[j]? = all[i + j]?) → t = m2 - i → t1 = m1 - i → PQ P R (mixS C0 C1 all t t1 l k) .normal a w →
      wpTail P all.toArray (mixA C0 C1 m1 m2) (PQ P R k) i l a w
  | [], i, 0, _, a, w, hl, ht, ht2, h => by
    simp only [mixS, PQ, Exit.then, wpList] at h
    exact h
  | [], i, t + 1, _, a, w, hl, ht, ht2, h => h
  | o :: l, i, 0, t1, a, w, hl, ht, ht2, h => by
    have h0 : all.toArray[i]? = some o := by simpa using (hl 0).symm
    simp only [mixS, PQ, Exit.then] at h
    unfold wpList at h
    unfold wpTail wpOp
    simp only [h0]
    have key : ∀ a w, wpList P all.toArray (PQ P R k) l a w → mixA C0 C1 m1 m2 i w ∧ wpTail P all.toArray (mixA C0 C1 m1 m2) (PQ P R k) (i + 1) l a w := fun a w hh =>
      ⟨⟨fun h => absurd h (by omega), fun h => absurd h (by omega)⟩, tail_of_PQ hC hm l (i + 1) 0 0 a w (fun j => by have := hl (j + 1); simpa [Nat.add_assoc, Nat.add_comm 1 j] using this) (by omega) (by omega) hh⟩
    split at h
    · rename_i hw
      rw [if_pos hw]
      exact h.imp (Oper.wp_mono key) id
    · rename_i hw
      rw [if_neg hw]
      exact key _ _ h
  | o :: l, i, t + 1, t1, a, w, hl, ht, ht2, h => by
    have h0 : all.toArray[i]? = some o := by simpa using (hl 0).symm
    refine tail_step h0 (fun e he a w => PQ_not_normal he t (t1 - 1) l k) (fun a w hCw hh => ⟨?_, ?_⟩) h
    · cases t1 with
      | zero => exact ⟨fun h => absurd h (by omega), fun _ => hCw⟩
      | succ t1 => exact ⟨fun _ => hCw, fun _ => hC w hCw⟩
    · exact tail_of_PQ hC hm l (i + 1) t (t1 - 1) a w (fun j => by have := hl (j + 1); simpa [Nat.add_assoc, Nat.add_comm 1 j] using this) (by omega) (by omega) hh
theorem PQ_panic {P : Program} {R : Exit → Act → World → Prop} (hR : ∀ d v c a w, R (.panic c) (a.put d v) w → R (.panic c) a w) {d : Option Nat} {v : Value} {c : _} {a : Act} {w : World} : ∀ (k : List TK), PQ P R k (.panic c) (a.put d v) w → PQ P R k (.panic c) a w
  | [], h => hR _ _ _ _ _ h
  | .c _ :: k, h => PQ_panic hR k h
  | .r _ _ :: k, h => PQ_panic hR k h
  | .k _ :: k, h => PQ_panic hR k h
  | .j _ :: k, h => PQ_panic hR k h
  | .a _ :: k, h => PQ_panic hR k h
theorem body_panic {P : Program} {fn : Func} {R : Ending → World → Prop} (d : Option Nat) (v : Value) (c : _) (a : Act) (w : World) (h : bodyPost P fn R (.panic c) (a.put d v) w) : bodyPost P fn R (.panic c) a w := by
  cases d <;> exact h
section
variable {P : Program} {T : TT} (hT : TabOk P T) {β : List Nat} {bx : BL} {u w : World} {a : Act} {n : Nat} {l : EL} {tl : List Hp} {k : List TK} {all rest : List Oper} {o : Oper}
include hT
/-- the head of a drawing region; the operations of wk look at nothing -/
def qrunW (T : TT) (ch : Bool) (n : Nat) (tl : List Hp) (all : List Oper) (bx : BL) (wk : List Nat) : Nat → List Dn → List Oper → EL → List Prop → QO
  | _, ds, [], l, cs => ⟨ds, l, [], cs⟩
  | k, ds, o :: rest, l, cs => match dOk n o.dst with
    | false => ⟨ds, l, o :: rest, cs⟩
    | true => match guardV all ds l o with
      | none => ⟨ds, l, o :: rest, cs⟩
      | some (ds1, l1, true, c1) => match (match wk.contains k with
          | true => oneV T ch [] ds1 l1 [] o.op
          | false => oneV T ch tl ds1 l1 bx o.op) with
        | some (ds2, y, c2) => nfV y fun y' => putK l1 o.dst y' fun l' => qrunW T ch n tl all bx wk (k + 1) ds2 rest l' (c2 :: c1 :: cs)
        | none => ⟨ds, l, o :: rest, cs⟩
      | some (ds1, l1, false, c1) => putK l1 o.dst (.v undef) fun l' => qrunW T ch n tl all bx wk (k + 1) ds1 rest l' (c1 :: cs)
omit hT in
theorem qrunW_cs {ch n tl all bx wk} : ∀ {os : List Oper} {k : Nat} {ds : List Dn} {l : EL} {cs : List Prop} {r : QO}, qrunW T ch n tl all bx wk k ds os l cs = r → allP r.cs → allP cs
  | [], k, ds, l, cs, r, h, hc => by subst h; exact hc
  | o :: rest, k, ds, l, cs, r, h, hc => by
    simp only [qrunW] at h
    split at h
    · subst h; exact hc
    · split at h
      · subst h; exact hc
      · split at h
        · rw [nfV_eq, putK_eq] at h
          exact (qrunW_cs h hc).2.2
        · subst h; exact hc
      · rw [putK_eq] at h
        exact (qrunW_cs h hc).2
theorem qrunW_ok {ch n tl all bx wk} {u w0 : World} {β : List Nat} (H0 : SH u w0 (bhs β bx ++ tl)) (wb : ∀ e ∈ bx, e.1 < β.length ∧ SV.wfs β.length e.2.2) {Q : Act → Prop} :
    ∀ {os : List Oper} {k : Nat} {ds : List Dn} {l : EL} {cs : List Prop} {r : QO} {a : Act}, Env β a n l → qrunW T ch n tl all bx wk k ds os l cs = r → allP r.cs → r.rest = [] →
    (∀ a', Env β a' n r.l → Q a') → wpPure P all.toArray (mixC (fun w => SH u w (bhs β bx ++ tl)) (fun w => SH u w []) wk) Q k os a
  | [], k, ds, l, cs, r, a, E, h, hc, hr, hk => by subst h; exact hk a E
  | o :: rest, k, ds, l, cs, r, a, E, h, hc, hr, hk => by
    simp only [qrunW] at h
    split at h
    · subst h; cases hr
    · rename_i hd
      split at h
      · subst h; cases hr
      · rename_i ds1 l1 c1 hg
        split at h
        · rename_i ds2 y c2 h1
          rw [nfV_eq, putK_eq] at h
          have hcs := qrunW_cs h hc
          obtain ⟨E1, hw⟩ := guardV_ok E hg hcs.2.1
          unfold wpPure
          rw [if_pos hw]
          have key : SV.wf β.length y ∧ ∀ w, mixC (fun w => SH u w (bhs β bx ++ tl)) (fun w => SH u w []) wk k w → (execOp a.eval o).run P w = .ok (.value (SV.dn β y)) w := by
            cases hwk : wk.contains k with
            | true =>
              rw [hwk] at h1
              simp only at h1
              have Hn : SH u w0 (bhs β [] ++ []) := H0.sub (List.nil_sublist _)
              refine ⟨(oneV_ok hT E1 Hn (by simp) h1 hcs.1).2, fun w H => ?_⟩
              unfold mixC at H
              rw [if_pos hwk] at H
              exact (oneV_ok hT E1 (tl := []) (bx := []) H (by simp) h1 hcs.1).1
            | false =>
              rw [hwk] at h1
              simp only at h1
              refine ⟨(oneV_ok hT E1 H0 wb h1 hcs.1).2, fun w H => ?_⟩
              unfold mixC at H
              rw [if_neg (by rw [hwk]; exact Bool.false_ne_true)] at H
              exact (oneV_ok hT E1 H wb h1 hcs.1).1
          exact ⟨SV.dn β y, key.2, qrunW_ok H0 wb (putl_ok E1 hd key.1) h hc hr hk⟩
        · subst h; cases hr
      · rename_i ds1 l1 c1 hg
        rw [putK_eq] at h
        have hcs := qrunW_cs h hc
        obtain ⟨E1, hw⟩ := guardV_ok E hg hcs.1
        unfold wpPure
        rw [if_neg (by simp [hw])]
        exact qrunW_ok H0 wb (putl_ok E1 hd (x := .v undef) trivial) h hc hr hk
/-- a drawing region: the first n0 operations only look, at bx0 and tl0, those of wk at nothing; all behind m1 stand behind the former, all behind m2 behind all of these -/
theorem xmix {fn : Func} {Post : Ending → World → Prop} (n0 m1 m2 : Nat) (wk : List Nat) {pre tp : _} (bx0 : BL) (tl0 : List Hp) (hbx : bx = pre ++ bx0) (htl : tl = tp ++ tl0) {id : Nat} {ops : List Oper} (S : St β u w a n l bx tl) (hB : Region.mixB .any ops.toArray n0 m1 m2 wk = true)
    (ch : Bool) (ds : List Dn) {ds' l' cs'} (h : qrunW T ch n tl0 ops bx0 wk 0 ds (ops.take n0) l [] = ⟨ds', l', [], cs'⟩) (hc : allP cs')
    (hk : ∀ a' w', St β u w' a' n l' bx tl → PQ P (bodyPost P fn Post) (mixS (fun w => SH u w (bhs β bx0 ++ tl0)) (fun w => SH u w []) ops (m2 - n0) (m1 - n0) (ops.drop n0) k) .normal a' w') :
    PQ P (bodyPost P fn Post) (.c (.region id ⟨ops⟩ true) :: k) .normal a w := by
  have hB' := hB
  simp only [Region.mixB, Bool.and_eq_true, decide_eq_true_eq] at hB'
  have hsub : (bhs β bx0 ++ tl0).Sublist (bhs β bx ++ tl) := by
    subst hbx
    subst htl
    refine List.Sublist.append ?_ (List.sublist_append_right _ _)
    simp [bhs]
  have wb0 : ∀ e ∈ bx0, e.1 < β.length ∧ SV.wfs β.length e.2.2 := fun e he => S.wb e (by subst hbx; exact List.mem_append_right _ he)
  simp only [PQ, Exit.then]
  refine wp_region_mix (C0 := fun w => SH u w (bhs β bx0 ++ tl0)) (C1 := fun w => SH u w []) n0 m1 m2 wk hT.mixed hB (fun d v c a w h => PQ_panic body_panic k h) (S.sh.draw.sub hsub) (S.sh.draw.sub (List.nil_sublist _)) ?_
  refine qrunW_ok hT (S.sh.sub hsub) wb0 S.env h hc rfl fun a' E' => ?_
  exact tail_of_PQ (fun w H => H.sub (List.nil_sublist _)) hB'.1.2 _ n0 _ _ a' _ (fun j => by simp [List.getElem?_drop]) rfl rfl (hk a' _ ⟨E', S.sh.draw, S.wb⟩)
omit hT
theorem bhs_pre {bx : BL} : ∀ (r β : List Nat), (∀ e ∈ bx, e.1 < β.length ∧ SV.wfs β.length e.2.2) → bhs (β ++ r) bx = bhs β bx
  | [], β, _ => by rw [List.append_nil]
  | b :: r, β, h => by
    rw [show β ++ b :: r = (β ++ [b]) ++ r by simp, bhs_pre r (β ++ [b]) (fun e he => ⟨by have := (h e he).1; simp; omega, by
      rw [List.length_append, List.length_singleton]
      exact (wfs_iff _ _).2 fun x hx => wf_mono _ ((wfs_iff _ _).1 (h e he).2 x hx)⟩), bhs_app h]
/-- what the head looked at is still there -/
theorem xas {R : Exit → Act → World → Prop} {β0 : List Nat} {bx0 : BL} {tl0 : List Hp} {pre tp : _} (S : St β u w a n l bx tl) (hβ : β0 <+: β) (wb0 : ∀ e ∈ bx0, e.1 < β0.length ∧ SV.wfs β0.length e.2.2) (hbx : bx = pre ++ bx0) (htl : tl = tp ++ tl0)
    (h : PQ P R k .normal a w) : PQ P R (.a (fun w => SH u w (bhs β0 bx0 ++ tl0)) :: k) .normal a w := by
  simp only [PQ, Exit.then]
  refine ⟨?_, h⟩
  obtain ⟨r, rfl⟩ := hβ
  rw [← bhs_pre r β0 wb0]
  refine S.sh.sub ?_
  subst hbx
  subst htl
  refine List.Sublist.append ?_ (List.sublist_append_right _ _)
  simp [bhs]
theorem xaw {R : Exit → Act → World → Prop} (S : St β u w a n l bx tl) (h : PQ P R k .normal a w) : PQ P R (.a (fun w => SH u w []) :: k) .normal a w := ⟨S.sh.sub (List.nil_sublist _), h⟩
end
end Go.SX
