import Derived.Test.YtipgdmaagiijmaaXd
set_option linter.unusedVariables false
set_option linter.unusedSimpArgs false
set_option linter.unusedSectionVars false
namespace Go.SX
section
variable {P : Program} {w : World} {T : TT} (hT : TabOk P T) {β : List Nat} {bx : BL}
include hT
theorem bnd_ok {n : Nat} {a : Act} {l : EL} (E : Env β a n l) {o : Option Operand} {r : Option Int} (h : bnd l o = some r) : ∃ k, (o.map a.eval) = r.map (Value.int k) := by
  cases o with
  | none => cases h; exact ⟨.i64, rfl⟩
  | some o =>
    simp only [bnd] at h
    split at h
    · rename_i k m he
      cases h
      exact ⟨k, by simp [(evo_ok E he).1, SV.dn]⟩
    · cases h
theorem sb_ok {k : IntKind} {a : Int} {y : Nat} {code : BoundsCode} (h : 0 ≤ a ∧ a ≤ y) : (Instr.sliceBound (.int k a) y code).run P w = .ok a.toNat w := by
  simp [Instr.sliceBound, asIntOf, h.1, h.2]
theorem sliceV_ok {t x lo hi y c} {k k' : IntKind} (h : sliceV T t x lo hi = some (y, c)) (hc : c) : (Instr.sliceAt t (SV.dn β x) (lo.map (Value.int k)) (hi.map (Value.int k')) none).run P w = .ok (SV.dn β y) w ∧ SV.wf β.length y := by
  unfold sliceV at h
  split at h
  · rename_i s
    split at h
    · rename_i ht
      have ut := run_tk (w := w) ht hT
      simp only at ut
      split at h <;> cases h <;> refine ⟨?_, trivial⟩
      · simp only [Instr.sliceAt, Sem.run_bind, ut, Result.andThen_ok, SV.dn, Instr.slice, Instr.sliceBounds, Option.map_none, Option.isSome_none, Bool.false_eq_true, ↓reduceIte, Sem.run_pure]
      · rename_i a
        have e := sb_ok (P := P) (w := w) hT (k := k) (code := .sliceB) (a := a) (y := s.size) hc
        simp only [Instr.sliceAt, Sem.run_bind, ut, Result.andThen_ok, SV.dn, Instr.slice, Instr.sliceBounds, Option.map_none, Option.map_some, Option.isSome_none, Bool.false_eq_true, ↓reduceIte, Sem.run_pure, e]
      · rename_i b
        have e := sb_ok (P := P) (w := w) hT (k := k') (code := .sliceAlen) (a := b) (y := s.size) hc
        simp only [Instr.sliceAt, Sem.run_bind, ut, Result.andThen_ok, SV.dn, Instr.slice, Instr.sliceBounds, Option.map_none, Option.map_some, Option.isSome_none, Bool.false_eq_true, ↓reduceIte, Sem.run_pure, e]
      · rename_i a b
        have e := sb_ok (P := P) (w := w) hT (k := k') (code := .sliceAlen) (a := b) (y := s.size) ⟨by omega, hc.2.2⟩
        have e' := sb_ok (P := P) (w := w) hT (k := k) (code := .sliceB) (a := a) (y := b.toNat) ⟨hc.1, by omega⟩
        simp only [Instr.sliceAt, Sem.run_bind, ut, Result.andThen_ok, SV.dn, Instr.slice, Instr.sliceBounds, Option.map_none, Option.map_some, Option.isSome_none, Bool.false_eq_true, ↓reduceIte, Sem.run_pure, e, e']
    · cases h
  · rename_i A n c
    split at h
    · rename_i ht
      split at h
      · rename_i ie he
        have ut := run_tk (w := w) ht hT
        have us := (hT.ok _ _ he).run_size w
        simp only at ut
        split at h <;> cases h <;> refine ⟨?_, trivial⟩
        · simp only [Instr.sliceAt, Sem.run_bind, ut, us, Result.andThen_ok, SV.dn, Instr.slice, Instr.sliceBounds, Option.map_none, Option.isSome_none, Bool.false_eq_true, ↓reduceIte, Sem.run_pure, slA]
        · rename_i a
          have e := sb_ok (P := P) (w := w) hT (k := k) (code := .sliceB) (a := a) (y := n) hc
          simp only [Instr.sliceAt, Sem.run_bind, ut, us, Result.andThen_ok, SV.dn, Instr.slice, Instr.sliceBounds, Option.map_none, Option.map_some, Option.isSome_none, Bool.false_eq_true, ↓reduceIte, Sem.run_pure, e, slA]
        · rename_i b
          have e := sb_ok (P := P) (w := w) hT (k := k') (code := .sliceAcap) (a := b) (y := c) hc
          simp only [Instr.sliceAt, Sem.run_bind, ut, us, Result.andThen_ok, SV.dn, Instr.slice, Instr.sliceBounds, Option.map_none, Option.map_some, Option.isSome_none, Bool.false_eq_true, ↓reduceIte, Sem.run_pure, e, slA]
        · rename_i a b
          have e := sb_ok (P := P) (w := w) hT (k := k') (code := .sliceAcap) (a := b) (y := c) ⟨by omega, hc.2.2⟩
          have e' := sb_ok (P := P) (w := w) hT (k := k) (code := .sliceB) (a := a) (y := b.toNat) ⟨hc.1, by omega⟩
          simp only [Instr.sliceAt, Sem.run_bind, ut, us, Result.andThen_ok, SV.dn, Instr.slice, Instr.sliceBounds, Option.map_none, Option.map_some, Option.isSome_none, Bool.false_eq_true, ↓reduceIte, Sem.run_pure, e, e', slA]
      · cases h
    · cases h
  · cases h

theorem fieldOf_ok {s f off i} (h : fieldOf T s f = some (off, i)) : ∃ fs : Array Field, ∃ fl, (underlying s).run P w = .ok (.struct fs) w ∧ fs[f]? = some fl ∧ fl.offset = off ∧ TyOk P fl.type i := by
  unfold fieldOf at h
  split at h
  · rename_i _ _ _ fs hs
    split at h
    · rename_i fl hf
      split at h
      · rename_i i' hi
        cases h
        exact ⟨fs, fl, run_tk hs hT, hf, rfl, hT.ok _ _ hi⟩
      · cases h
    · cases h
  · cases h
theorem part_ok {i : TInfo} {ft : TypeId} (hi : TyOk P ft i) {cs : List SV} {off : Nat} {y} (hw : SV.wfs β.length cs) (h : partV i cs off = some y) : (part ft (SV.dns β cs).toArray off).run P w = .ok (SV.dn β y) w ∧ SV.wf β.length y := by
  unfold partV at h
  split at h
  · rename_i hag
    split at h
    · cases h
      refine ⟨?_, (wfs_iff _ _).2 fun x hx => (wfs_iff _ _).1 hw x (List.mem_of_mem_drop (List.mem_of_mem_take hx))⟩
      simp only [part, Sem.run_bind, hi.run_agg, hag, Result.andThen_ok, ↓reduceIte, hi.run_size, Sem.run_pure, SV.dn]
      congr 2
      apply Array.ext'
      simp only [dns_eq, Array.toList_extract, List.extract, List.map_take, List.map_drop]
      congr 1
      omega
    · cases h
  · rename_i hag
    have hm := List.mem_of_getElem? h
    refine ⟨?_, (wfs_iff _ _).1 hw y hm⟩
    simp only [part, Sem.run_bind, hi.run_agg, hag, Result.andThen_ok, Bool.false_eq_true, ↓reduceIte]
    have : (SV.dns β cs).toArray[off]? = some (SV.dn β y) := by simp [dns_eq, h]
    rw [this]
    rfl
theorem fieldV_ok {t x f y c} (hw : SV.wf β.length x) (h : fieldV T t x f = some (y, c)) : (Instr.field t (SV.dn β x) f).run P w = .ok (SV.dn β y) w ∧ SV.wf β.length y := by
  unfold fieldV at h
  split at h
  · rename_i off i hf
    obtain ⟨fs, fl, h1, h2, rfl, h4⟩ := fieldOf_ok (w := w) hT hf
    split at h
    · rename_i cs
      split at h
      · rename_i y' hp
        cases h
        have := part_ok (w := w) hT h4 (β := β) hw hp
        refine ⟨?_, this.2⟩
        simp only [Instr.field, Sem.run_bind, h1, Result.andThen_ok, h2, SV.dn, asAgg, Sem.run_pure]
        exact this.1
      · cases h
    · rename_i a
      split at h
      · rename_i y' hp
        cases h
        have := part_ok (w := w) hT h4 (β := β) (cs := a.toList.map .v) ((wfs_iff _ _).2 (by simp [SV.wf])) hp
        refine ⟨?_, this.2⟩
        simp only [Instr.field, Sem.run_bind, h1, Result.andThen_ok, h2, SV.dn, asAgg, Sem.run_pure]
        have e : (SV.dns β (a.toList.map SV.v)).toArray = a := by simp [dns_eq, Function.comp_def, SV.dn]
        rw [e] at this
        exact this.1
      · cases h
    · cases h
  · cases h
theorem faddrV_ok {t x f y c} (hw : SV.wf β.length x) (h : faddrV T t x f = some (y, c)) : (Instr.fieldAt t (SV.dn β x) f).run P w = .ok (SV.dn β y) w ∧ SV.wf β.length y := by
  unfold faddrV at h
  split at h
  · rename_i off i hf
    obtain ⟨fs, fl, h1, h2, rfl, h4⟩ := fieldOf_ok (w := w) hT hf
    split at h
    · cases h
    · rename_i m hs
      have hne : ¬ i.size = 0 := by omega
      split at h
      · rename_i id o
        cases h
        refine ⟨?_, hw⟩
        simp only [Instr.fieldAt, Sem.run_bind, h1, Result.andThen_ok, h2, SV.dn, Instr.sureAddr, Sem.run_pure, fieldPlace, h4.run_size, hne, ↓reduceIte, add_none]
      · rename_i ad
        cases h
        refine ⟨?_, trivial⟩
        simp only [Instr.fieldAt, Sem.run_bind, h1, Result.andThen_ok, h2, SV.dn, Instr.sureAddr, Sem.run_pure, fieldPlace, h4.run_size, hne, ↓reduceIte]
      · cases h
  · cases h
theorem iaddrV_ok {t x ix y c} (hw : SV.wf β.length x) (h : iaddrV T t x ix = some (y, c)) (hc : c) : (Instr.indexAt t (SV.dn β x) (SV.dn β ix)).run P w = .ok (SV.dn β y) w ∧ SV.wf β.length y := by
  unfold iaddrV at h
  split at h
  · rename_i k i
    split at h
    · rename_i e ht
      split at h
      · rename_i ie he
        have ut := run_tk (w := w) ht hT
        have us := (hT.ok _ _ he).run_size w
        simp only at ut
        split at h
        · rename_i A n cp
          cases h
          refine ⟨?_, trivial⟩
          obtain ⟨a, rfl⟩ := Option.isSome_iff_exists.1 hc.2.2
          have hcc : 0 ≤ i ∧ i < n := ⟨hc.1, hc.2.1⟩
          simp only [Instr.indexAt, SV.dn, asIntOf, Sem.run_bind, Sem.run_pure, Result.andThen_ok, ut, us, hcc, ↓reduceIte, Option.map_some, and_self, Sem.run_ite]
        · rename_i id n cp
          cases h
          refine ⟨?_, hw⟩
          simp only [Instr.indexAt, SV.dn, asIntOf, Sem.run_bind, Sem.run_pure, Result.andThen_ok, ut, us, hc, ↓reduceIte, and_self, Sem.run_ite, add_none, Nat.zero_add]
        · cases h
      · cases h
    · cases h
  · cases h
theorem indexV_ok {t x ix y c} (h : indexV T t x ix = some (y, c)) (hc : c) : (Instr.index t (SV.dn β x) (SV.dn β ix)).run P w = .ok (SV.dn β y) w ∧ SV.wf β.length y := by
  unfold indexV at h
  split at h
  · rename_i s k i
    split at h
    · rename_i ht
      cases h
      refine ⟨?_, trivial⟩
      have ut := run_tk (w := w) ht hT
      simp only at ut
      have hlt : i.toNat < s.size := by omega
      have e : s[i.toNat]? = some s[i.toNat] := by simp [hlt]
      simp only [Instr.index, SV.dn, asIntOf, Sem.run_bind, Sem.run_pure, Result.andThen_ok, ut, hc.1, ↓reduceIte, e, bAt]
      congr 2
      have hl : i.toNat < s.data.toList.length := by simpa using hlt
      rw [List.getD_eq_getElem?_getD, List.getElem?_eq_getElem hl]
      rfl
    · cases h
  · cases h
theorem extractV_ok {x i y c} (h : extractV x i = some (y, c)) : (Instr.extract (SV.dn β x) i).run P w = .ok (SV.dn β y) w ∧ SV.wf β.length y := by
  unfold extractV at h
  split at h
  · split at h
    · rename_i y' hy
      cases h
      exact ⟨by simp only [Instr.extract, SV.dn, hy]; rfl, trivial⟩
    · cases h
  · cases h
theorem lenV_ok {t x y c} {ty : TypeId} (h : lenV T t x = some (y, c)) (ts : Array TypeId) (h0 : ts[0]? = some t) : (Builtin.len_ ts ty #[SV.dn β x]).run P w = .ok (SV.dn β y) w ∧ SV.wf β.length y := by
  unfold lenV at h
  split at h
  · split at h
    · rename_i ht
      cases h
      have ut := run_tk (w := w) ht hT
      simp only at ut
      refine ⟨?_, trivial⟩
      simp [Builtin.len_, h0, SV.dn, ut, goInt]
    · cases h
  · split at h
    · rename_i ht
      cases h
      have ut := run_tk (w := w) ht hT
      simp only at ut
      refine ⟨?_, trivial⟩
      simp [Builtin.len_, h0, SV.dn, ut, goInt]
    · cases h
  · split at h
    · rename_i ht
      cases h
      have ut := run_tk (w := w) ht hT
      simp only at ut
      refine ⟨?_, trivial⟩
      simp [Builtin.len_, h0, SV.dn, ut, goInt]
    · cases h
  · cases h
omit hT in
theorem complexV_ok {k : FloatKind} {a b : Nat} {ts : Array TypeId} {ty : TypeId} {cs : Array Bool} : (builtin .complex ts ty cs #[.float k a, .float k b]).run P w = .ok (.value (.complex k a b)) w := by cases k <;> rfl
theorem builtinV_ok {b : Builtin} {ts xs y c} {ty : TypeId} {cs : Array Bool} (h : builtinV T b ts xs = some (y, c)) : (builtin b ts ty cs (SV.dns β xs).toArray).run P w = .ok (.value (SV.dn β y)) w ∧ SV.wf β.length y := by
  unfold builtinV at h
  split at h
  · split at h
    · rename_i h0
      have := lenV_ok (w := w) hT (β := β) (ty := ty) h ts h0
      refine ⟨?_, this.2⟩
      simp only [builtin, SV.dns, Sem.run_bind, this.1, Result.andThen_ok, Sem.run_pure]
    · cases h
  · cases h; exact ⟨rfl, trivial⟩
  · cases h; exact ⟨rfl, trivial⟩
  · split at h
    · rename_i hk
      obtain rfl := sameF_eq hk
      cases h
      exact ⟨complexV_ok, trivial⟩
    · cases h
  · cases h; exact ⟨rfl, trivial⟩
  · cases h; exact ⟨rfl, trivial⟩
  · cases h
end
end Go.SX
