import Derived.Test.YtipgdmaagiijmaaXg
set_option linter.unusedVariables false
set_option linter.unusedSimpArgs false
set_option linter.unusedSectionVars false
namespace Go.SX

inductive TK where
  | c (x : Code)
  | r (all rest : List Oper)
  | k (id : Nat)
  | j (K : Act → World → Prop)
  | a (C : World → Prop)

def PQ (P : Program) (R : Exit → Act → World → Prop) : List TK → Exit → Act → World → Prop
  | [] => R
  | .c x :: k => Exit.then (fun a w => x.wp P (PQ P R k) a w) (PQ P R k)
  | .r all rest :: k => Exit.then (fun a w => wpList P all.toArray (PQ P R k) rest a w) (PQ P R k)
  | .k id :: k => Exit.inBlock id (PQ P R k)
  | .j K :: k => Exit.then K (PQ P R k)
  | .a C :: k => Exit.then (fun a w => C w ∧ PQ P R k .normal a w) (PQ P R k)

structure St (β : List Nat) (u w : World) (a : Act) (n : Nat) (l : EL) (bx : BL) (tl : List Hp) : Prop where
  env : Env β a n l
  sh : SH u w (bhs β bx ++ tl)
  wb : ∀ e ∈ bx, e.1 < β.length ∧ SV.wfs β.length e.2.2

theorem SH.alloc {u w : World} {L : List Hp} (H : SH u w L) (o : Obj) : SH u (w.alloc o) (Hp.one w.heap.size o :: L) := by
  refine ⟨H.os, H.tape, H.output, Nat.le_trans H.size (by simp), fun m hm b o' hb => ?_, List.pairwise_cons.2 ⟨fun m hm b => ?_, H.apart⟩⟩
  · rcases List.mem_cons.1 hm with rfl | hm
    · simp only [Hp.one] at hb
      split at hb
      · rename_i e; subst e; cases hb; exact heap_alloc_new w o
      · cases hb
    · have := H.has m hm b o' hb
      have hlt := (Array.getElem?_eq_some_iff.1 this).1
      rw [heap_alloc_old (w := w) (o := o) hlt]; exact this
  · simp only [Hp.one]
    by_cases e : b = w.heap.size
    · right
      cases hmb : m b with
      | none => rfl
      | some o' =>
        have := (Array.getElem?_eq_some_iff.1 (H.has m hm b o' hmb)).1
        omega
    · left; simp [e]
theorem SH.upd {u w w' : World} {A B : List Hp} {g : Nat} {o o' : Obj} (H : SH u w (A ++ Hp.one g o :: B)) (h1 : w'.heap[g]? = some o') (h2 : ∀ b, b ≠ g → w'.heap[b]? = w.heap[b]?)
    (h3 : w'.os = w.os) (h4 : w'.tape = w.tape) (h5 : w'.output = w.output) (h6 : w'.heap.size = w.heap.size) : SH u w' (A ++ Hp.one g o' :: B) := by
  have hA := List.pairwise_append.1 H.apart
  have hB := List.pairwise_cons.1 hA.2.1
  have off : ∀ m : Hp, (∀ b, m b = none ∨ Hp.one g o b = none) → m g = none := fun m hm => by
    rcases hm g with h | h
    · exact h
    · simp [Hp.one] at h
  have same : ∀ m : Hp, (∀ b, m b = none ∨ Hp.one g o b = none) → ∀ b, m b = none ∨ Hp.one g o' b = none := fun m hm b => by
    by_cases e : b = g
    · subst e; exact .inl (off m hm)
    · right; simp [Hp.one, e]
  refine ⟨h3.trans H.os, h4.trans H.tape, h5.trans H.output, by rw [h6]; exact H.size, fun m hm b ob hb => ?_, ?_⟩
  · have old : (m ∈ A ∨ m ∈ B) → (∀ b, m b = none ∨ Hp.one g o b = none) → w'.heap[b]? = some ob := fun hm' hd => by
      have hne : b ≠ g := fun e => by subst e; rw [off m hd] at hb; cases hb
      rw [h2 b hne]
      exact H.has m (by rcases hm' with h | h <;> simp [h]) b ob hb
    rcases List.mem_append.1 hm with hm | hm
    · exact old (.inl hm) (fun b => hA.2.2 m hm _ List.mem_cons_self b)
    · rcases List.mem_cons.1 hm with rfl | hm
      · simp only [Hp.one] at hb
        split at hb
        · rename_i e; subst e; cases hb; exact h1
        · cases hb
      · exact old (.inr hm) (fun b => (hB.1 m hm b).symm)
  · refine List.pairwise_append.2 ⟨hA.1, List.pairwise_cons.2 ⟨fun m hm b => ?_, hB.2⟩, fun m hm m' hm' b => ?_⟩
    · exact (same m (fun b => (hB.1 m hm b).symm) b).symm
    · rcases List.mem_cons.1 hm' with rfl | hm'
      · exact same m (fun b => hA.2.2 m hm _ List.mem_cons_self b) b
      · exact hA.2.2 m hm m' (List.mem_cons_of_mem _ hm') b

def bset : BL → Nat → List SV → BL
  | [], _, _ => []
  | (k, t, y) :: r, i, x => bif Nat.beq k i then (k, t, x) :: r else (k, t, y) :: bset r i x
theorem bset_split {β : List Nat} {cs : List SV} : ∀ {bx : BL} {i t ds}, bk bx i = some (t, ds) → ∃ A B, bhs β bx = A ++ Hp.one (β.getD i 0) (bobj β (t, ds)) :: B ∧ bhs β (bset bx i cs) = A ++ Hp.one (β.getD i 0) (bobj β (t, cs)) :: B
  | [], i, t, ds, h => by cases h
  | (k, t', y) :: r, i, t, ds, h => by
    simp only [bk] at h
    cases hb : Nat.beq k i with
    | true =>
      rw [hb] at h
      simp only [cond_true] at h
      cases h
      obtain rfl := Nat.eq_of_beq_eq_true hb
      exact ⟨[], bhs β r, rfl, by simp [bset, hb, bhs]⟩
    | false =>
      rw [hb] at h
      obtain ⟨A, B, h1, h2⟩ := bset_split (β := β) (cs := cs) (bx := r) h
      exact ⟨Hp.one (β.getD k 0) (bobj β (t', y)) :: A, B, by simp [bhs] at h1 ⊢; exact h1, by simp [bset, hb, bhs] at h2 ⊢; exact h2⟩
theorem bset_mem {cs : List SV} : ∀ {bx : BL} {i : Nat} {e}, e ∈ bset bx i cs → e ∈ bx ∨ (∃ e' ∈ bx, e.1 = e'.1 ∧ e.2.2 = cs)
  | [], i, e, h => by cases h
  | (k, t, y) :: r, i, e, h => by
    simp only [bset] at h
    cases hb : Nat.beq k i with
    | true =>
      rw [hb] at h
      rcases List.mem_cons.1 h with rfl | h
      · exact .inr ⟨_, List.mem_cons_self, rfl, rfl⟩
      · exact .inl (List.mem_cons_of_mem _ h)
    | false =>
      rw [hb] at h
      rcases List.mem_cons.1 h with rfl | h
      · exact .inl List.mem_cons_self
      · rcases bset_mem h with h | ⟨e', h1, h2⟩
        · exact .inl (List.mem_cons_of_mem _ h)
        · exact .inr ⟨e', List.mem_cons_of_mem _ h1, h2⟩

theorem bhs_app {β : List Nat} {b : Nat} : ∀ {bx : BL}, (∀ e ∈ bx, e.1 < β.length ∧ SV.wfs β.length e.2.2) → bhs (β ++ [b]) bx = bhs β bx := by
  intro bx h
  simp only [bhs]
  refine List.map_congr_left fun e he => ?_
  obtain ⟨h1, h2⟩ := h e he
  simp only [bobj, getD_app h1, dns_app β b _ h2]
theorem Env.app {β : List Nat} {b : Nat} {a : Act} {n : Nat} {l : EL} (E : Env β a n l) : Env (β ++ [b]) a n l := by
  refine ⟨E.defers, E.size, fun t x h => ?_, fun p hp => ?_⟩
  · rw [dn_app β b x (E.wf _ (lk_mem h))]; exact E.at_ t x h
  · simp only [List.length_append, List.length_singleton]; exact wf_mono _ (E.wf p hp)
/-- a new box -/
theorem St.new {β : List Nat} {u w : World} {a : Act} {n : Nat} {l : EL} {bx : BL} {tl : List Hp} (S : St β u w a n l bx tl) {t : Nat} {cs : List SV} (hw : SV.wfs β.length cs) :
    St (β ++ [w.heap.size]) u (w.alloc (.cells (SV.dns β cs).toArray t (0, 0))) a n l ((β.length, t, cs) :: bx) tl := by
  refine ⟨S.env.app, ?_, fun e he => ?_⟩
  · have := S.sh.alloc (.cells (SV.dns β cs).toArray t (0, 0))
    simp only [bhs, List.map_cons, List.cons_append]
    have e := bhs_app (b := w.heap.size) S.wb
    simp only [bhs] at e this
    rw [e]
    have e1 : (β ++ [w.heap.size]).getD β.length 0 = w.heap.size := by simp [List.getD_eq_getElem?_getD]
    rw [e1]
    simp only [bobj, dns_app β w.heap.size cs hw]
    exact this
  · rcases List.mem_cons.1 he with rfl | he
    · exact ⟨by simp, by simpa using wfs_mono cs hw⟩
    · obtain ⟨h1, h2⟩ := S.wb e he
      exact ⟨by simp; omega, by simpa using wfs_mono _ h2⟩

def putl (l : EL) (d : Option Nat) (x : SV) : EL := match d with
  | some d => (d, x) :: l
  | none => l
def dOk (n : Nat) : Option Nat → Bool
  | some d => Nat.blt d n
  | none => true
theorem putl_ok {β : List Nat} {a : Act} {n : Nat} {l : EL} {d : Option Nat} {x : SV} (E : Env β a n l) (hd : dOk n d = true) (hx : SV.wf β.length x) : Env β (a.put d (SV.dn β x)) n (putl l d x) := by
  cases d with
  | none => exact E
  | some d => exact E.put (by simp [dOk, Nat.blt_eq] at hd; exact hd) hx

def exitK (id : Nat) : List TK → Option (List TK)
  | [] => none
  | .k i :: k => bif Nat.beq id i then some k else exitK id k
  | .j _ :: k => exitK id k
  | .c _ :: k => exitK id k
  | .r _ _ :: k => exitK id k
  | .a _ :: k => exitK id k
theorem exitK_ok {P : Program} {R : Exit → Act → World → Prop} {id : Nat} {a : Act} {w : World} : ∀ {k k' : List TK}, exitK id k = some k' → PQ P R k' .normal a w → PQ P R k (.exit id) a w
  | [], _, h, _ => by cases h
  | .k i :: k, k', h, hq => by
    simp only [exitK] at h
    cases hb : Nat.beq id i with
    | true =>
      rw [hb] at h; cases h
      obtain rfl := Nat.eq_of_beq_eq_true hb
      simp only [PQ, Exit.inBlock, ↓reduceIte]; exact hq
    | false =>
      rw [hb] at h
      simp only [PQ, Exit.inBlock, Nat.ne_of_beq_eq_false hb, ↓reduceIte]
      exact exitK_ok h hq
  | .j _ :: k, k', h, hq => exitK_ok (k := k) h hq
  | .c _ :: k, k', h, hq => exitK_ok (k := k) h hq
  | .r _ _ :: k, k', h, hq => exitK_ok (k := k) h hq
  | .a _ :: k, k', h, hq => exitK_ok (k := k) h hq

/-- the operations that write or make memory of our own -/
inductive MO where
  | new (dst : Option Nat) (t : Nat) (cs : List SV) (y : SV)   -- a new box; y its value
  | set (i : Nat) (cs : List SV)
def partsA (size : Nat) (l : EL) : List (Nat × Operand) → Option (List (Nat × Nat × List SV))
  | [] => some []
  | (f, o) :: r => match evo l o with
    | some x => match partsA size l r with
      | some ps => some ((f * size, size, x.cells) :: ps)
      | none => none
    | none => none
def zeros (z : List SV) (n : Nat) : List SV := (List.range n).map fun j => z.getD (j % z.length) (.v default)
theorem partsA_ok {β : List Nat} {n : Nat} {a : Act} {l : EL} (E : Env β a n l) {size : Nat} :
    ∀ {ps : List (Nat × Operand)} {qs}, partsA size l ps = some qs → placesOk (β := β) (fun i => some (i * size, size)) (ps.map fun (f, o) => (f, a.eval o)) qs ∧ (∀ q ∈ qs, SV.wfs β.length q.2.2)
  | [], qs, h => by cases h; exact ⟨trivial, by simp⟩
  | (f, o) :: r, qs, h => by
    simp only [partsA] at h
    split at h
    · rename_i x hx
      split at h
      · rename_i ps' hp
        cases h
        obtain ⟨e1, w1⟩ := evo_ok E hx
        have ih := partsA_ok E hp
        refine ⟨⟨rfl, by rw [e1]; exact cells_dn β x, ih.1⟩, fun q hq => ?_⟩
        rcases List.mem_cons.1 hq with rfl | hq
        · exact wf_cells w1
        · exact ih.2 q hq
      · cases h
    · cases h
def opM (T : TT) (l : EL) (bx : BL) (nx : Nat) (o : Oper) : Option MO :=
  match o.op with
  | .alloc t => match tk T t with
    | some i => some (.new o.dst t (SV.cells (.v i.zero)) (.p nx 0))
    | none => none
  | .box t x => match evo l x with
    | some y => some (.new o.dst t y.cells (.p nx 0))
    | none => none
  | .buildSlice t len ps => match tk T t with
    | some ⟨_, _, _, .slice e⟩ => match tk T e with
      | some i => match Nat.ble (len * i.size) 16777216 with
        | true => match partsA i.size l ps.toList with
          | some qs => match fillS (zeros (SV.cells (.v i.zero)) (len * i.size)) qs with
            | some cs => some (.new o.dst e cs (.s nx len len))
            | none => none
          | none => none
        | false => none
      | none => none
    | _ => none
  | .store t ad x => match evo l ad with
    | some (.p id off) => match bk bx id with
      | some (_, cs) => match evo l x with
        | some y => match tk T t with
          | some i => match Nat.beq y.cells.length i.size with
            | true => match Nat.ble (off + i.size) cs.length with
              | true => match y.cells.all SV.one with
                | true => some (.set id (cs.take off ++ y.cells ++ cs.drop (off + i.size)))
                | false => none
              | false => none
            | false => none
          | none => none
        | none => none
      | none => none
    | _ => none
  | _ => none

section
variable {P : Program} {T : TT} (hT : TabOk P T) {β : List Nat} {bx : BL} {u w : World} {a : Act} {n : Nat} {l : EL} {tl : List Hp}
include hT
theorem opM_new (S : St β u w a n l bx tl) {o : Oper} {d t cs y} (h : opM T l bx β.length o = some (.new d t cs y)) :
    (execOp a.eval o).run P w = .ok (.value (SV.dn (β ++ [w.heap.size]) y)) (w.alloc (.cells (SV.dns β cs).toArray t (0, 0))) ∧ SV.wfs β.length cs ∧ SV.wf (β.length + 1) y ∧ d = o.dst := by
  have e0 : (β ++ [w.heap.size]).getD β.length 0 = w.heap.size := by simp [List.getD_eq_getElem?_getD]
  unfold opM at h
  split at h
  · rename_i t' ho
    split at h
    · rename_i i hi
      cases h
      have hok := hT.ok _ _ hi
      refine ⟨?_, wf_cells (x := .v i.zero) trivial, Nat.lt_succ_self _, rfl⟩
      have e := cells_dn β (.v i.zero)
      simp only [SV.dn] at e
      simp only [execOp, ho, Instr.alloc, Sem.run_bind, hok.run_zero, Result.andThen_ok, newVar, newRow, run_newObj, Sem.run_pure, World.alloc, e, SV.dn, e0]
    · cases h
  · rename_i t' x ho
    split at h
    · rename_i y' hx
      cases h
      obtain ⟨e, hw⟩ := evo_ok S.env hx
      refine ⟨?_, wf_cells hw, Nat.lt_succ_self _, rfl⟩
      simp only [execOp, ho, Instr.box, Sem.run_bind, Result.andThen_ok, newVar, newRow, run_newObj, Sem.run_pure, World.alloc, e, cells_dn, SV.dn, e0]
    · cases h
  · rename_i t' len ps ho
    split at h
    · rename_i s1 s2 s3 e ht
      split at h
      · rename_i i hi
        split at h
        · rename_i hle
          split at h
          · rename_i qs hq
            split at h
            · rename_i cs' hcs
              cases h
              have hok := hT.ok _ _ hi
              have hle := Nat.le_of_ble_eq_true hle
              obtain ⟨h1, h2⟩ := partsA_ok S.env hq
              have hz0 : SV.wfs β.length (zeros (SV.cells (.v i.zero)) (len * i.size)) := by
                rw [wfs_iff]
                intro x hx
                obtain ⟨j, _, rfl⟩ := List.mem_map.1 hx
                have hw := (wfs_iff _ _).1 (wf_cells (k := β.length) (x := .v i.zero) trivial)
                rw [List.getD_eq_getElem?_getD]
                cases hj : (SV.cells (.v i.zero))[j % (SV.cells (.v i.zero)).length]? with
                | none => exact trivial
                | some x => exact hw x (List.mem_of_getElem? hj)
              refine ⟨?_, fillS_wf _ _ _ hz0 h2 hcs, Nat.lt_succ_self _, rfl⟩
              have hfill := fill_ok (β := β) _ _ _ _ _ h1 hcs
              have hm : (ps.map fun (i, x) => (i, a.eval x)).toList = ps.toList.map fun (f, o) => (f, a.eval o) := by simp
              have hzz : (Array.map (fun x => i.zero.cells[x % i.zero.cells.size]!) (Array.range (len * i.size))) = (SV.dns β (zeros (SV.cells (.v i.zero)) (len * i.size))).toArray := by
                apply Array.ext'
                have e1 := cells_dn β (.v i.zero)
                simp only [SV.dn] at e1
                simp only [Array.toList_map, Array.toList_range, dns_eq, zeros, List.map_map, e1, List.size_toArray, List.length_map]
                refine List.map_congr_left fun j _ => ?_
                simp only [Function.comp, List.getElem!_toArray, List.getD_eq_getElem?_getD, List.getElem!_eq_getElem?_getD, List.getElem?_map]
                cases (SV.cells (.v i.zero))[j % (SV.cells (.v i.zero)).length]? <;> rfl
              have hu := run_tk (P := P) (w := w) ht hT
              simp only at hu
              simp only [execOp, ho, Instr.buildSlice, Sem.run_bind, hu, Result.andThen_ok, hok.run_size]
              rw [if_neg (by omega)]
              by_cases h0 : len * i.size = 0
              · rw [if_pos h0]
                simp only [Sem.run_pure, Result.andThen_ok]
                rw [h0] at hfill
                simp only [zeros, List.range_zero, List.map_nil] at hfill
                have er : ∀ f : Nat → Value, Array.map f (Array.range 0) = #[] := fun f => by simp
                have : (SV.dns β ([] : List SV)).toArray = #[] := rfl
                rw [this] at hfill
                simp only [Sem.run_bind, Sem.run_pure, Result.andThen_ok, h0, hm, er, hfill]
                simp only [Sem.run_bind, newRow, run_newObj, Result.andThen_ok, Sem.run_pure, World.alloc, SV.dn, e0]
              · rw [if_neg h0]
                simp only [Sem.run_bind, hok.run_zero, Sem.run_pure, Result.andThen_ok, hm]
                rw [hzz, hfill]
                simp only [Sem.run_bind, newRow, run_newObj, Result.andThen_ok, Sem.run_pure, World.alloc, SV.dn, e0]
            · cases h
          · cases h
        · cases h
      · cases h
    · cases h
  · split at h
    · split at h
      · split at h
        · split at h
          · split at h
            · split at h
              · split at h <;> cases h
              · cases h
            · cases h
          · cases h
        · cases h
      · cases h
    · cases h
  · cases h
theorem opM_set (S : St β u w a n l bx tl) {o : Oper} {id cs} (h : opM T l bx β.length o = some (.set id cs)) :
    ∃ w', (execOp a.eval o).run P w = .ok .skip w' ∧ St β u w' a n l (bset bx id cs) tl := by
  unfold opM at h
  split at h
  · split at h <;> cases h
  · split at h <;> cases h
  · split at h
    · split at h
      · split at h
        · split at h
          · split at h <;> cases h
          · cases h
        · cases h
      · cases h
    · cases h
  · rename_i t ad x ho
    split at h
    · rename_i id' off hx
      split at h
      · rename_i ty ds hb
        split at h
        · rename_i y hy
          split at h
          · rename_i i hi
            split at h
            · rename_i hlen
              split at h
              · rename_i hle
                split at h
                · rename_i hall
                  cases h
                  have hlen := Nat.eq_of_beq_eq_true hlen
                  have hle := Nat.le_of_ble_eq_true hle
                  obtain ⟨e1, _⟩ := evo_ok S.env hx
                  obtain ⟨e2, w2⟩ := evo_ok S.env hy
                  have hok := hT.ok _ _ hi
                  have hh := S.sh.box hb
                  simp only [bobj] at hh
                  have hcl : ∀ xs : List SV, (SV.dns β xs).length = xs.length := fun xs => by rw [dns_eq, List.length_map]
                  have hst := run_storeCells_at P (β.getD id 0) off ty (SV.dns β y.cells) 0 (SV.dns β ds).toArray w hh (by simp [hcl]; omega) (fun v hv => by
                    rw [dns_eq] at hv
                    obtain ⟨z, hz, rfl⟩ := List.mem_map.1 hv
                    exact one_dn β (List.all_eq_true.1 hall z hz))
                  refine ⟨w.setRow (β.getD id 0) (SV.dns β (ds.take off ++ y.cells ++ ds.drop (off + i.size))).toArray, ?_, ?_⟩
                  · have e3 : (SV.dns β (ds.take off ++ y.cells ++ ds.drop (off + i.size))) = (SV.dns β ds).take (off + 0) ++ SV.dns β y.cells ++ (SV.dns β ds).drop (off + 0 + (SV.dns β y.cells).length) := by
                      simp [dns_eq, List.map_take, List.map_drop, hlen]
                    simp only [execOp, ho, e1, e2, Instr.storeAt, SV.dn, Instr.sureAddr, Sem.run_bind, Sem.run_pure, Result.andThen_ok, storeVar, hok.run_size]
                    have e4 : (SV.dn β y).cells.size = i.size := by rw [cells_dn]; simp [hcl, hlen]
                    rw [if_neg (by simpa using e4)]
                    rw [cells_dn]
                    rw [hst, e3]
                    rfl
                  · obtain ⟨A, B, h1, h2⟩ := bset_split (β := β) (cs := ds.take off ++ y.cells ++ ds.drop (off + i.size)) hb
                    refine ⟨S.env, ?_, fun e he => ?_⟩
                    · have H := S.sh
                      rw [h1, List.append_assoc, List.cons_append] at H
                      rw [h2]
                      have e5 : ∀ (X Z : List Hp) (Y : Hp), (X ++ Y :: Z) ++ tl = X ++ Y :: (Z ++ tl) := fun X Z Y => by simp
                      rw [e5]
                      refine H.upd (setRow_heap w _ _ _ ty (0, 0) hh) (fun b hne => setRow_other w _ b _ hne) rfl rfl rfl (by simp [World.setRow])
                    · rcases bset_mem he with he | ⟨e', he', h3, h4⟩
                      · exact S.wb e he
                      · obtain ⟨h5, h6⟩ := S.wb e' he'
                        rw [h3, h4]
                        refine ⟨h5, ?_⟩
                        have hwd := (wfs_iff _ _).1 (S.wb _ (bk_mem hb)).2
                        have hwy := (wfs_iff _ _).1 (wf_cells w2)
                        rw [wfs_iff]
                        intro z hz
                        simp only [List.mem_append] at hz
                        rcases hz with (hz | hz) | hz
                        · exact hwd z (List.mem_of_mem_take hz)
                        · exact hwy z hz
                        · exact hwd z (List.mem_of_mem_drop hz)
                · cases h
              · cases h
            · cases h
          · cases h
        · cases h
      · cases h
    · cases h
  · cases h
end
end Go.SX
