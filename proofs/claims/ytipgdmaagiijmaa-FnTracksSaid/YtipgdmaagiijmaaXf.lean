import Derived.Test.YtipgdmaagiijmaaXe
set_option linter.unusedVariables false
set_option linter.unusedSimpArgs false
set_option linter.unusedSectionVars false
namespace Go.SX
section
variable {P : Program} {w : World} {T : TT} (hT : TabOk P T) {β : List Nat} {bx : BL}

theorem foldl_set (v : List Value) : ∀ (off k : Nat) (cells : Array Value), k + off + v.length ≤ cells.size →
    (v.zipIdx k).foldl (fun cs (c : Value × Nat) => cs.setIfInBounds (off + c.2) c.1) cells = (cells.toList.take (k + off) ++ v ++ cells.toList.drop (k + off + v.length)).toArray := by
  induction v with
  | nil => intro off k cells h; simp
  | cons x r ih =>
    intro off k cells h
    simp only [List.length_cons] at h
    have hlt : k + off < cells.size := by omega
    rw [List.zipIdx_cons, List.foldl_cons, ih off (k + 1) _ (by simp; omega)]
    congr 1
    simp only [Array.toList_setIfInBounds, List.length_cons]
    rw [show off + k = k + off by omega, show k + 1 + off = (k + off) + 1 by omega]
    have hl : k + off < cells.toList.length := by simpa using hlt
    rw [List.take_succ_eq_append_getElem (by simpa using hlt)]
    simp only [List.getElem_set_self, List.append_assoc, List.singleton_append]
    rw [List.take_set_of_le (Nat.le_refl _), List.drop_set_of_lt (by omega)]
    rw [show k + off + 1 + r.length = k + off + (r.length + 1) by omega]

def placesOk (place : Nat → Option (Nat × Nat)) : List (Nat × Value) → List (Nat × Nat × List SV) → Prop
  | [], [] => True
  | (f, v) :: r, (off, size, x) :: q => place f = some (off, size) ∧ v.cells = (SV.dns β x).toArray ∧ placesOk place r q
  | _, _ => False
theorem fill_ok (place : Nat → Option (Nat × Nat)) : ∀ (ps : List (Nat × Value)) (qs : List (Nat × Nat × List SV)) (cs ds : List SV), placesOk (β := β) place ps qs → fillS cs qs = some ds →
    Instr.fill place (SV.dns β cs).toArray ps = some (SV.dns β ds).toArray
  | [], [], cs, ds, _, h => by cases h; rfl
  | (f, v) :: r, (off, size, x) :: q, cs, ds, ho, h => by
    obtain ⟨h1, h2, h3⟩ := ho
    simp only [fillS] at h
    split at h
    · rename_i hx
      split at h
      · rename_i hle
        have hx := Nat.eq_of_beq_eq_true hx
        have hle := Nat.le_of_ble_eq_true hle
        have hv : v.cells.size = size := by rw [h2]; simp [dns_eq, hx]
        have hlen : (SV.dns β x).length = size := by rw [dns_eq, List.length_map, hx]
        have hcl : (SV.dns β cs).length = cs.length := by rw [dns_eq, List.length_map]
        simp only [Instr.fill, h1]
        rw [if_neg (by simp [hv, hcl]; omega)]
        have := fill_ok place r q _ ds h3 h
        rw [← this]
        congr 1
        rw [h2]
        have e := foldl_set (SV.dns β x) off 0 (SV.dns β cs).toArray (by simp [hcl, hlen]; omega)
        simp only [Nat.zero_add] at e ⊢
        have hz : ((SV.dns β x).toArray.zipIdx 0).foldl (fun cs (x : Value × Nat) => cs.setIfInBounds (off + x.2) x.1) (SV.dns β cs).toArray = ((SV.dns β x).zipIdx 0).foldl (fun cs (c : Value × Nat) => cs.setIfInBounds (off + c.2) c.1) (SV.dns β cs).toArray := by
          rw [← Array.foldl_toList]; simp
        refine Eq.trans ?_ (Eq.trans e ?_)
        · exact hz
        · simp [dns_eq, hx, List.map_append, List.map_take, List.map_drop]
      · cases h
    · cases h
  | [], _ :: _, _, _, ho, _ => ho.elim
  | _ :: _, [], _, _, ho, _ => ho.elim
theorem fillS_wf {k : Nat} : ∀ (qs : List (Nat × Nat × List SV)) (cs ds : List SV), SV.wfs k cs → (∀ q ∈ qs, SV.wfs k q.2.2) → fillS cs qs = some ds → SV.wfs k ds
  | [], cs, ds, hc, _, h => by cases h; exact hc
  | (off, size, x) :: q, cs, ds, hc, hq, h => by
    simp only [fillS] at h
    split at h
    · split at h
      · refine fillS_wf q _ ds ?_ (fun y hy => hq y (List.mem_cons_of_mem _ hy)) h
        rw [wfs_iff] at *
        have hx := (wfs_iff _ _).1 (hq _ List.mem_cons_self)
        intro y hy
        simp only [List.mem_append] at hy
        rcases hy with (hy | hy) | hy
        · exact hc y (List.mem_of_mem_take hy)
        · exact hx y hy
        · exact hc y (List.mem_of_mem_drop hy)
      · cases h
    · cases h
include hT
theorem partsS_ok {n : Nat} {a : Act} {l : EL} (E : Env β a n l) {t : TypeId} {fs : Array Field} (hu : P.underlying t = some (.struct fs)) :
    ∀ {ps : List (Nat × Operand)} {qs}, partsS T t l ps = some qs → placesOk (β := β) (fun f => (fs[f]?).bind fun fl => some (fl.offset, P.cellsOf fl.type)) (ps.map fun (f, o) => (f, a.eval o)) qs ∧ (∀ q ∈ qs, SV.wfs β.length q.2.2)
  | [], qs, h => by cases h; exact ⟨trivial, by simp⟩
  | (f, o) :: r, qs, h => by
    simp only [partsS] at h
    split at h
    · rename_i off i hf
      split at h
      · rename_i x hx
        split at h
        · rename_i ps' hp
          cases h
          obtain ⟨fs', fl, h1, h2, rfl, h4⟩ := fieldOf_ok (w := default) hT hf
          rw [run_underlying hu] at h1
          cases h1
          obtain ⟨e1, w1⟩ := evo_ok E hx
          have ih := partsS_ok E hu hp
          refine ⟨⟨?_, ?_, ih.1⟩, fun q hq => ?_⟩
          · simp only [h2, Option.bind_some, Program.cellsOf]
            obtain ⟨ti, hti, hy⟩ := Option.map_eq_some_iff.1 h4.info
            simp only [Prod.mk.injEq] at hy
            simp [hti, hy.1]
          · rw [e1]; exact cells_dn β x
          · rcases List.mem_cons.1 hq with rfl | hq
            · exact wf_cells w1
            · exact ih.2 q hq
        · cases h
      · cases h
    · cases h
theorem run_mapM_places (fs : Array Field) (hs : ∀ fl ∈ fs, ∃ i, TyOk P fl.type i) : (fs.mapM (fun f => do pure (f.offset, ← sizeOf f.type) : Field → Sem (Nat × Nat))).run P w = .ok (fs.map fun fl => (fl.offset, P.cellsOf fl.type)) w := by
  have key : ∀ (l : List Field) (h : ∀ fl ∈ l, ∃ i, TyOk P fl.type i), (l.mapM (fun f => do pure (f.offset, ← sizeOf f.type) : Field → Sem (Nat × Nat))).run P w = .ok (l.map fun fl => (fl.offset, P.cellsOf fl.type)) w := by
    intro l
    induction l with
    | nil => intro _; rfl
    | cons x r ih =>
      intro h
      obtain ⟨i, hi⟩ := h x List.mem_cons_self
      have e : P.cellsOf x.type = i.size := by
        obtain ⟨ti, hti, hy⟩ := Option.map_eq_some_iff.1 hi.info
        simp only [Prod.mk.injEq] at hy
        simp [Program.cellsOf, hti, hy.1]
      simp only [List.mapM_cons, Sem.run_bind, hi.run_size, Result.andThen_ok, Sem.run_pure, ih (fun fl hfl => h fl (List.mem_cons_of_mem _ hfl)), List.map_cons, e]
  obtain ⟨l⟩ := fs
  rw [List.mapM_toArray]
  simp only [Sem.run_map, key l (fun fl hfl => hs fl (by simpa using hfl)), Result.andThen_ok, List.map_toArray]
theorem fields_ty {fs : Array Field} (h : (fs.toList.all fun fl => (tk T fl.type).isSome) = true) : ∀ fl ∈ fs, ∃ i, TyOk P fl.type i := by
  intro fl hfl
  have := List.all_eq_true.1 h fl (by simpa using hfl)
  obtain ⟨i, hi⟩ := Option.isSome_iff_exists.1 this
  exact ⟨i, hT.ok _ _ hi⟩
theorem buildV_ok {n : Nat} {a : Act} {l : EL} (E : Env β a n l) {t : TypeId} {s1 s2 : Nat} {z : Value} {fs : Array Field} (ht : tk T t = some ⟨s1, s2, z, .struct fs⟩)
    (hf : (fs.toList.all fun fl => (tk T fl.type).isSome) = true) {ps : Array (Nat × Operand)} {qs} (hp : partsS T t l ps.toList = some qs) {cs} (hc : fillS (SV.cells (.v z)) qs = some cs) :
    (Instr.build t (ps.map fun (i, x) => (i, a.eval x))).run P w = .ok (SV.dn β (.g cs)) w ∧ SV.wf β.length (.g cs) := by
  have hok := hT.ok _ _ ht
  have hu := hok.und
  simp only at hu
  obtain ⟨h1, h2⟩ := partsS_ok hT E hu hp
  have hz : z.cells = (SV.dns β (SV.cells (.v z))).toArray := cells_dn β (.v z)
  have hfill := fill_ok _ _ _ _ _ h1 hc
  refine ⟨?_, fillS_wf _ _ _ (wf_cells (x := .v z) trivial) h2 hc⟩
  simp only [Instr.build, Sem.run_bind, hok.run_zero, Result.andThen_ok, run_underlying hu]
  have hm := run_mapM_places (w := w) hT fs (fields_ty hT hf)
  rw [hm]
  simp only [Result.andThen_ok, hz]
  have e1 : (fun (f : Nat) => (fs[f]?).bind fun (fl : Field) => some (fl.offset, P.cellsOf fl.type)) = (fun f => (fs.map fun (fl : Field) => (fl.offset, P.cellsOf fl.type))[f]?) := by
    funext f
    simp only [Array.getElem?_map]
    cases fs[f]? <;> rfl
  rw [e1] at hfill
  have e2 : (Array.map (fun x => match x with | (i, x) => (i, a.eval x)) ps).toList = ps.toList.map fun (f, o) => (f, a.eval o) := by simp
  rw [e2, hfill]
  rfl

theorem load_ok {HB : ∀ i x, bk bx i = some x → w.heap[β.getD i 0]? = some (bobj β x)} (wb : ∀ e ∈ bx, SV.wfs β.length e.2.2) {t i o ty cs ti y} (hb : bk bx i = some (ty, cs)) (ht : tk T t = some ti) (hy : partV ti cs o = some y) :
    (Instr.loadAt t (SV.dn β (.p i o))).run P w = .ok (SV.dn β y) w ∧ SV.wf β.length y := by
  have hok := hT.ok _ _ ht
  have hw := wb _ (bk_mem hb)
  have hh := HB _ _ hb
  have hp := part_ok (w := w) hT hok hw hy
  refine ⟨?_, hp.2⟩
  simp only [Instr.loadAt, SV.dn, Instr.sureAddr, Sem.run_bind, Sem.run_pure, Result.andThen_ok, loadVar, hok.run_agg]
  have hp1 := hp.1
  simp only [part, Sem.run_bind, hok.run_agg, Result.andThen_ok] at hp1
  unfold partV at hy
  cases hag : ti.agg with
  | true =>
    simp only [hag, ↓reduceIte] at hp1 hy ⊢
    split at hy
    · rename_i hle
      have hle := Nat.le_of_ble_eq_true hle
      cases hy
      simp only [hok.run_size, Result.andThen_ok, Sem.run_bind, Sem.run_pure] at hp1 ⊢
      have hcl : (SV.dns β cs).length = cs.length := by rw [dns_eq, List.length_map]
      have := run_loadCells_list (P := P) w ⟨β.getD i 0, o, none⟩ ((SV.dns β cs).drop o |>.take ti.size) (fun j v hv => by
        rw [add_none]
        refine cell_of_heap hh ?_
        simp only [List.getElem?_take, List.getElem?_drop] at hv
        split at hv
        · simpa using hv
        · cases hv)
      rw [show ((SV.dns β cs).drop o |>.take ti.size).length = ti.size by simp [hcl]; omega] at this
      rw [this]
      simp [dns_eq, SV.dn, List.map_take, List.map_drop]
    · cases hy
  | false =>
    simp only [hag, Bool.false_eq_true, ↓reduceIte] at hy ⊢
    rw [run_load]
    have : w.cell? ⟨β.getD i 0, o, none⟩ = some (SV.dn β y) := cell_of_heap hh (by simp [dns_eq, hy])
    rw [this]
end
end Go.SX
