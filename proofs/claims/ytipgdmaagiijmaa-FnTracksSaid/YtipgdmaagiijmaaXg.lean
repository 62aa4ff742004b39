import Derived.Test.YtipgdmaagiijmaaXf
set_option linter.unusedVariables false
set_option linter.unusedSimpArgs false
set_option linter.unusedSectionVars false
namespace Go.SX
section
variable {P : Program} {w : World} {T : TT} (hT : TabOk P T) {β : List Nat} {bx : BL}
include hT

theorem op1_ok {n : Nat} {a : Act} {l : EL} (E : Env β a n l) (HB : ∀ i x, bk bx i = some x → w.heap[β.getD i 0]? = some (bobj β x)) (wb : ∀ e ∈ bx, SV.wfs β.length e.2.2)
    {ch : Bool} {o : Oper} {y : SV} {c : Prop} (h : op1 T ch l bx o.op = some (y, c)) (hc : c) :
    (execOp a.eval o).run P w = .ok (.value (SV.dn β y)) w ∧ SV.wf β.length y := by
  cases ho : o.op with
  | move x =>
    rw [ho] at h
    simp only [op1] at h
    split at h
    · rename_i y' hx
      cases h
      obtain ⟨e, hw⟩ := evo_ok E hx
      exact ⟨by simp [execOp, ho, e], hw⟩
    · cases h
  | assign x =>
    rw [ho] at h
    simp only [op1] at h
    split at h
    · rename_i y' hx
      cases h
      obtain ⟨e, hw⟩ := evo_ok E hx
      exact ⟨by simp [execOp, ho, e], hw⟩
    · cases h
  | pick cc aa bb =>
    rw [ho] at h
    simp only [op1] at h
    split at h
    · rename_i hcx
      split at h
      · rename_i y' hx
        cases h
        obtain ⟨e, hw⟩ := evo_ok E hx
        obtain ⟨e1, _⟩ := evo_ok E hcx
        exact ⟨by simp [execOp, ho, e, e1, SV.dn, asBool], hw⟩
      · cases h
    · rename_i hcx
      split at h
      · rename_i y' hx
        cases h
        obtain ⟨e, hw⟩ := evo_ok E hx
        obtain ⟨e1, _⟩ := evo_ok E hcx
        exact ⟨by simp [execOp, ho, e, e1, SV.dn, asBool], hw⟩
      · cases h
    · cases h
  | load t ad =>
    rw [ho] at h
    simp only [op1] at h
    split at h
    · rename_i id off hx
      split at h
      · rename_i ty cs hb
        split at h
        · rename_i ti ht
          split at h
          · rename_i y' hy
            cases h
            obtain ⟨e, hw⟩ := evo_ok E hx
            have := load_ok (w := w) hT (HB := HB) wb hb ht hy
            exact ⟨by simp [execOp, ho, e, this.1], this.2⟩
          · cases h
        · cases h
      · cases h
    · cases h
  | nilCheck x =>
    rw [ho] at h
    simp only [op1] at h
    split at h
    · rename_i y' hx
      split at h
      · rename_i hn
        cases h
        obtain ⟨e, hw⟩ := evo_ok E hx
        refine ⟨?_, hw⟩
        simp only [execOp, ho, e]
        unfold nilOk at hn
        split at hn <;> first | rfl | cases hn
      · cases h
    · cases h
  | binOp op t x y' yt =>
    rw [ho] at h
    simp only [op1] at h
    split at h
    · rename_i aa hx
      split at h
      · rename_i bb hy
        obtain ⟨e1, w1⟩ := evo_ok E hx
        obtain ⟨e2, w2⟩ := evo_ok E hy
        have := bin_ok (P := P) (w := w) hT h hc β x y'
        refine ⟨?_, this.2⟩
        simp only [execOp, ho, e1, e2]
        rw [Sem.run_bind, this.1]
        rfl
      · cases h
    · cases h
  | unOp op t x =>
    rw [ho] at h
    simp only [op1] at h
    split at h
    · rename_i aa hx
      obtain ⟨e1, w1⟩ := evo_ok E hx
      have := unV_ok (P := P) (w := w) (β := β) h hc
      refine ⟨?_, this.2⟩
      simp only [execOp, ho, e1]
      rw [Sem.run_bind, this.1]
      rfl
    · cases h
  | convert s d x =>
    rw [ho] at h
    simp only [op1] at h
    split at h
    · rename_i aa hx
      obtain ⟨e1, w1⟩ := evo_ok E hx
      have := conv_ok (P := P) (w := w) hT (β := β) HB h hc
      refine ⟨?_, this.2⟩
      simp only [execOp, ho, e1]
      rw [Sem.run_bind, this.1]
      rfl
    · cases h
  | makeFunc fn aa cc =>
    rw [ho] at h
    simp only [op1] at h
    split at h
    · rename_i xs hx
      split at h
      · rename_i ys hy
        cases h
        obtain ⟨e1, w1⟩ := evos_ok E hx
        obtain ⟨e2, w2⟩ := evos_ok E hy
        refine ⟨?_, w1, w2⟩
        simp only [execOp, ho, Instr.makeFunc, Sem.run_bind, Sem.run_pure, Result.andThen_ok, SV.dn]
        congr 2
        congr 1
        · apply Array.ext'; simpa using e1
        · apply Array.ext'; simpa using e2
      · cases h
    · cases h
  | slice t x lo hi mx =>
    rw [ho] at h
    cases mx with
    | some m => simp only [op1] at h; cases h
    | none =>
      simp only [op1] at h
      split at h
      · rename_i aa hx
        split at h
        · rename_i lo' hlo
          split at h
          · rename_i hi' hhi
            obtain ⟨e1, w1⟩ := evo_ok E hx
            obtain ⟨k, e2⟩ := bnd_ok hT E hlo
            obtain ⟨k', e3⟩ := bnd_ok hT E hhi
            have := sliceV_ok (P := P) (w := w) hT (β := β) (k := k) (k' := k') h hc
            refine ⟨?_, this.2⟩
            simp only [execOp, ho, e1, e2, e3, Option.map_none]
            rw [Sem.run_bind, this.1]
            rfl
          · cases h
        · cases h
      · cases h
  | fieldAddr t x f =>
    rw [ho] at h
    simp only [op1] at h
    split at h
    · rename_i aa hx
      obtain ⟨e1, w1⟩ := evo_ok E hx
      have := faddrV_ok (P := P) (w := w) hT (β := β) w1 h
      refine ⟨?_, this.2⟩
      simp only [execOp, ho, e1]
      rw [Sem.run_bind, this.1]
      rfl
    · cases h
  | field t x f =>
    rw [ho] at h
    simp only [op1] at h
    split at h
    · rename_i aa hx
      obtain ⟨e1, w1⟩ := evo_ok E hx
      have := fieldV_ok (P := P) (w := w) hT (β := β) w1 h
      refine ⟨?_, this.2⟩
      simp only [execOp, ho, e1]
      rw [Sem.run_bind, this.1]
      rfl
    · cases h
  | indexAddr t x i =>
    rw [ho] at h
    simp only [op1] at h
    split at h
    · rename_i aa hx
      split at h
      · rename_i bb hy
        obtain ⟨e1, w1⟩ := evo_ok E hx
        obtain ⟨e2, w2⟩ := evo_ok E hy
        have := iaddrV_ok (P := P) (w := w) hT (β := β) w1 h hc
        refine ⟨?_, this.2⟩
        simp only [execOp, ho, e1, e2]
        rw [Sem.run_bind, this.1]
        rfl
      · cases h
    · cases h
  | index t x i =>
    rw [ho] at h
    simp only [op1] at h
    split at h
    · rename_i aa hx
      split at h
      · rename_i bb hy
        obtain ⟨e1, w1⟩ := evo_ok E hx
        obtain ⟨e2, w2⟩ := evo_ok E hy
        have := indexV_ok (P := P) (w := w) hT (β := β) h hc
        refine ⟨?_, this.2⟩
        simp only [execOp, ho, e1, e2]
        rw [Sem.run_bind, this.1]
        rfl
      · cases h
    · cases h
  | extract x i =>
    rw [ho] at h
    simp only [op1] at h
    split at h
    · rename_i aa hx
      obtain ⟨e1, w1⟩ := evo_ok E hx
      have := extractV_ok (P := P) (w := w) hT (β := β) h
      refine ⟨?_, this.2⟩
      simp only [execOp, ho, e1]
      rw [Sem.run_bind, this.1]
      rfl
    · cases h
  | build t ps =>
    rw [ho] at h
    simp only [op1] at h
    split at h
    · rename_i s1 s2 z fs ht
      split at h
      · rename_i hf
        split at h
        · rename_i qs hp
          split at h
          · rename_i cs hcs
            cases h
            have := buildV_ok (w := w) hT E ht hf hp hcs
            refine ⟨?_, this.2⟩
            simp only [execOp, ho]
            rw [Sem.run_bind, this.1]
            rfl
          · cases h
        · cases h
      · cases h
    · cases h
  | call cl =>
    rw [ho] at h
    obtain ⟨callee, args, ts⟩ := cl
    cases callee with
    | builtin b =>
      simp only [op1] at h
      split at h
      · rename_i xs hx
        obtain ⟨e1, w1⟩ := evos_ok E hx
        have hargs : args.map a.eval = (SV.dns β xs).toArray := by apply Array.ext'; simpa using e1
        have := builtinV_ok (P := P) (w := w) hT (β := β) (ty := o.type) (cs := args.map fun | .const _ => true | _ => false) h
        refine ⟨?_, this.2⟩
        simp only [execOp, ho, resolve, Sem.run_bind, Sem.run_pure, Result.andThen_ok, invoke, hargs]
        exact this.1
      · cases h
    | _ => simp only [op1] at h; cases h
  | _ => rw [ho] at h; simp only [op1] at h; cases h
end
end Go.SX
