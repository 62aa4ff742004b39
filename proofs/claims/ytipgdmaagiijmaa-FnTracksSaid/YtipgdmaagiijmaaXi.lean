import Derived.Test.YtipgdmaagiijmaaXh
set_option linter.unusedVariables false
set_option linter.unusedSimpArgs false
set_option linter.unusedSectionVars false
namespace Go.SX

/-! ### forcing (the elaborator's own evaluation is by need; these put values into normal form) -/
def nfE {α : Type} (x : SV) (k : SV → α) : α :=
  match x with
  | .v y => k (.v y)
  | .b y => k (.b y)
  | .p i o => k (.p i o)
  | .s i n c => k (.s i n c)
  | .f fn a c => k (.f fn a c)
  | .g cs => k (.g cs)
theorem nfE_eq {α : Type} (x : SV) (k : SV → α) : nfE x k = k x := by cases x <;> rfl
def nfC {α : Type} : List SV → (List SV → α) → α
  | [], k => k []
  | x :: r, k => nfE x fun x' => nfC r fun r' => k (x' :: r')
theorem nfC_eq {α : Type} : ∀ (l : List SV) (k : List SV → α), nfC l k = k l
  | [], k => rfl
  | x :: r, k => by simp only [nfC, nfE_eq, nfC_eq r]
def nfV {α : Type} (x : SV) (k : SV → α) : α :=
  match x with
  | .g cs => nfC cs fun cs' => k (.g cs')
  | .f fn a c => nfC a fun a' => nfC c fun c' => k (.f fn a' c')
  | .v y => k (.v y)
  | .b y => k (.b y)
  | .p i o => k (.p i o)
  | .s i n c => k (.s i n c)
theorem nfV_eq {α : Type} (x : SV) (k : SV → α) : nfV x k = k x := by cases x <;> simp only [nfV, nfC_eq]
def nfB {α : Type} : BL → (BL → α) → α
  | [], k => k []
  | (i, t, cs) :: r, k => nfB r fun r' => k ((i, t, cs) :: r')
theorem nfB_eq {α : Type} : ∀ (l : BL) (k : BL → α), nfB l k = k l
  | [], k => rfl
  | (i, t, cs) :: r, k => by simp only [nfB, nfB_eq r]

def putK {α : Type} (l : EL) (d : Option Nat) (x : SV) (k : EL → α) : α := match d with
  | some d => k ((d, x) :: l)
  | none => k l
theorem putK_eq {α : Type} (l : EL) (d : Option Nat) (x : SV) (k : EL → α) : putK l d x k = k (putl l d x) := by cases d <;> rfl
/-- what the one who runs it tells: the outcome of a test, the cells that a load of other memory finds -/
inductive Dn where
  | b (x : Bool)
  | v (xs : List Value)
/-- a cell in one of these heaps -/
def Cell (tl : List Hp) (ad : Addr) (v : Value) : Prop := ∃ m ∈ tl, ∃ c t f, m ad.block = some (.cells c t f) ∧ ad.spot = none ∧ c[ad.off]? = some v
def RdV (tl : List Hp) (ad : Addr) (xs : List Value) : Prop := ∀ j v, xs[j]? = some v → Cell tl (ad.add j) v
theorem Cell.run {u w : World} {L : List Hp} {tl : List Hp} {ad : Addr} {v : Value} (h : Cell tl ad v) (H : SH u w (L ++ tl)) : w.cell? ad = some v := by
  obtain ⟨m, hm, c, t, f, h1, h2, h3⟩ := h
  have := H.has m (List.mem_append_right _ hm) _ _ h1
  simp [World.cell?, this, h2, h3]
def xsV (i : TInfo) (xs : List Value) : Option SV :=
  match i.agg with
  | true => some (.g (xs.map .v))
  | false => match xs with
    | [x] => some (.v x)
    | _ => none
/-- one operation that writes nothing -/
def oneV (T : TT) (ch : Bool) (tl : List Hp) (ds : List Dn) (l : EL) (bx : BL) (op : Op) : Option (List Dn × SV × Prop) :=
  match op1 T ch l bx op with
  | some (y, c) => some (ds, y, c)
  | none => match op with
    | .load t a => match evo l a with
      | some (.v (.pointer (some ad))) => match tk T t with
        | some i => match ds with
          | .v xs :: ds' => match Nat.beq xs.length i.size with
            | true => match xsV i xs with
              | some y => some (ds', y, RdV tl ad xs)
              | none => none
            | false => none
          | _ => none
        | none => none
      | _ => none
    | _ => none
def guardV (all : List Oper) (ds : List Dn) (l : EL) (o : Oper) : Option (List Dn × EL × Bool × Prop) :=
  match o.guard with
  | none => some (ds, l, true, True)
  | some (j, want) => match all[j]? with
    | some oj => match oj.dst with
      | some t => match lk l t with
        | some (.b y) => match y, want with
          | true, true => some (ds, l, true, True)
          | false, false => some (ds, l, true, True)
          | _, _ => some (ds, l, false, True)
        | some (.v (.bool y)) => match ds with
          | .b d :: ds' => match d, want with
            | true, true => some (ds', (t, .b true) :: l, true, y = true)
            | true, false => some (ds', (t, .b true) :: l, false, y = true)
            | false, true => some (ds', (t, .b false) :: l, false, y = false)
            | false, false => some (ds', (t, .b false) :: l, true, y = false)
          | _ => none
        | _ => none
      | none => none
    | none => none
structure QO where
  ds : List Dn
  l : EL
  rest : List Oper
  cs : List Prop
/-- in a drawing region: as far as nothing is written, called or made -/
def qrun (T : TT) (ch : Bool) (n : Nat) (tl : List Hp) (all : List Oper) (bx : BL) : List Dn → List Oper → EL → List Prop → QO
  | ds, [], l, cs => ⟨ds, l, [], cs⟩
  | ds, o :: rest, l, cs => match dOk n o.dst with
    | false => ⟨ds, l, o :: rest, cs⟩
    | true => match guardV all ds l o with
      | none => ⟨ds, l, o :: rest, cs⟩
      | some (ds1, l1, true, c1) => match oneV T ch tl ds1 l1 bx o.op with
        | some (ds2, y, c2) => nfV y fun y' => putK l1 o.dst y' fun l' => qrun T ch n tl all bx ds2 rest l' (c2 :: c1 :: cs)
        | none => ⟨ds, l, o :: rest, cs⟩
      | some (ds1, l1, false, c1) => putK l1 o.dst (.v undef) fun l' => qrun T ch n tl all bx ds1 rest l' (c1 :: cs)

abbrev SO := Option (List Dn × List TK × EL × BL × Nat × List Prop)
def stepX (T : TT) (ch : Bool) (tl : List Hp) (ds : List Dn) (all : List Oper) (o : Oper) (rest : List Oper) (k : List TK) (l : EL) (bx : BL) (nx : Nat) (c0 : Prop) : SO :=
  match oneV T ch tl ds l bx o.op with
  | some (ds', y, c) => nfV y fun y' => putK l o.dst y' fun l' => some (ds', .r all rest :: k, l', bx, nx, [c, c0])
  | none => match opM T l bx nx o with
    | some (.new d t cs y) => nfC cs fun cs' => nfE y fun y' => putK l d y' fun l' => some (ds, .r all rest :: k, l', (nx, t, cs') :: bx, nx + 1, [c0])
    | some (.set i cs) => nfC cs fun cs' => nfB (bset bx i cs') fun bx' => putK l o.dst (.v undef) fun l' => some (ds, .r all rest :: k, l', bx', nx, [c0])
    | none => none
def stepR (T : TT) (ch : Bool) (n : Nat) (tl : List Hp) (ds : List Dn) (all : List Oper) (o : Oper) (rest : List Oper) (k : List TK) (l : EL) (bx : BL) (nx : Nat) : SO :=
  match dOk n o.dst with
  | false => none
  | true => match guardV all ds l o with
    | none => none
    | some (ds1, l1, true, c1) => stepX T ch tl ds1 all o rest k l1 bx nx c1
    | some (ds1, l1, false, c1) => putK l1 o.dst (.v undef) fun l' => some (ds1, .r all rest :: k, l', bx, nx, [c1])
def step1 (T : TT) (ch : Bool) (n : Nat) (tl : List Hp) (ds : List Dn) (k : List TK) (l : EL) (bx : BL) (nx : Nat) : SO :=
  match k with
  | [] => none
  | .j _ :: _ => none
  | .a _ :: _ => none
  | .k _ :: k => some (ds, k, l, bx, nx, [])
  | .r _ [] :: k => some (ds, k, l, bx, nx, [])
  | .r all (o :: rest) :: k => stepR T ch n tl ds all o rest k l bx nx
  | .c .skip :: k => some (ds, k, l, bx, nx, [])
  | .c (.seq x y) :: k => some (ds, .c x :: .c y :: k, l, bx, nx, [])
  | .c (.block id x) :: k => some (ds, .c x :: .k id :: k, l, bx, nx, [])
  | .c (.exit id) :: k => match exitK id k with
    | some k' => some (ds, k', l, bx, nx, [])
    | none => none
  | .c (.cond c x y) :: k => match evo l c with
    | some (.b true) => some (ds, .c x :: k, l, bx, nx, [])
    | some (.b false) => some (ds, .c y :: k, l, bx, nx, [])
    | some (.v (.bool b)) => match ds with
      | .b true :: ds' => some (ds', .c x :: k, l, bx, nx, [b = true])
      | .b false :: ds' => some (ds', .c y :: k, l, bx, nx, [b = false])
      | _ => none
    | _ => none
  | .c (.region _ ⟨ops⟩ false) :: k => some (ds, .r ops ops :: k, l, bx, nx, [])
  | .c (.region _ ⟨ops⟩ true) :: k => match qrun T ch n tl ops bx ds ops l [Region.lexB .any ⟨ops⟩ = true] with
    | ⟨ds', l', [], cs⟩ => some (ds', k, l', bx, nx, cs)
    | _ => none
  | .c _ :: _ => none
def allP : List Prop → Prop
  | [] => True
  | p :: r => p ∧ allP r
structure RO where
  k : List TK
  l : EL
  bx : BL
  nx : Nat
  cs : List Prop
def addC : List Prop → List Prop → List Prop
  | [], cs => cs
  | c :: r, cs => addC r (c :: cs)
theorem allP_add : ∀ {a b : List Prop}, allP (addC a b) ↔ allP a ∧ allP b
  | [], b => by simp [addC, allP]
  | x :: r, b => by simp only [addC, allP, allP_add (a := r)]; exact ⟨fun h => ⟨⟨h.2.1, h.1⟩, h.2.2⟩, fun h => ⟨h.1.2, h.1.1, h.2⟩⟩
def addK {α : Type} : List Prop → List Prop → (List Prop → α) → α
  | [], cs, k => k cs
  | c :: r, cs, k => addK r (c :: cs) k
theorem addK_eq {α : Type} : ∀ (a b : List Prop) (k : List Prop → α), addK a b k = k (addC a b)
  | [], _, _ => rfl
  | _ :: r, b, k => addK_eq r _ k
def run (T : TT) (ch : Bool) (n : Nat) (tl : List Hp) : Nat → List Dn → List TK → EL → BL → Nat → List Prop → RO
  | 0, _, k, l, bx, nx, cs => ⟨k, l, bx, nx, cs⟩
  | f + 1, ds, k, l, bx, nx, cs => match step1 T ch n tl ds k l bx nx with
    | none => ⟨k, l, bx, nx, cs⟩
    | some (ds', k', l', bx', nx', c) => addK c cs fun cs' => run T ch n tl f ds' k' l' bx' nx' cs'

section
variable {P : Program} {T : TT} (hT : TabOk P T) {R : Exit → Act → World → Prop}

theorem Env.refine {β : List Nat} {a : Act} {n t : Nat} {l : EL} {x y : SV} (E : Env β a n l) (h : lk l t = some x) (e : SV.dn β y = SV.dn β x) (hy : SV.wf β.length y) : Env β a n ((t, y) :: l) := by
  refine ⟨E.defers, E.size, fun t' z hz => ?_, fun p hp => ?_⟩
  · rcases lk_cons hz with ⟨rfl, rfl⟩ | ⟨_, hz⟩
    · rw [e]; exact E.at_ _ _ h
    · exact E.at_ _ _ hz
  · rcases List.mem_cons.1 hp with rfl | hp
    · exact hy
    · exact E.wf p hp
theorem yielded_of {β : List Nat} {a : Act} {n t j : Nat} {l : EL} {all : List Oper} {oj : Oper} (E : Env β a n l) (hj : all[j]? = some oj) (ht : oj.dst = some t) {x : SV} {b : Bool} (hl : lk l t = some x) (hb : SV.dn β x = .bool b) :
    yielded all.toArray a.tmps j = some b := by
  have := E.at_ t x hl
  simp only [yielded, List.getElem?_toArray, hj, Option.bind_some, ht, this, hb]

theorem guardV_ok {all ds l o ds1 l1 b c1} {β : List Nat} {a : Act} {n : Nat} (E : Env β a n l) (h : guardV all ds l o = some (ds1, l1, b, c1)) (hc : c1) :
    Env β a n l1 ∧ Region.wanted o (yielded all.toArray a.tmps) = b := by
  unfold guardV at h
  split at h
  · rename_i hg
    cases h
    exact ⟨E, by simp [Region.wanted, hg]⟩
  · rename_i j want hg
    split at h
    · rename_i oj hj
      split at h
      · rename_i t ht
        split at h
        · rename_i y hy
          have hyl := yielded_of E hj ht hy (b := y) rfl
          split at h
          · cases h; exact ⟨E, by simp [Region.wanted, hg, hyl]⟩
          · cases h; exact ⟨E, by simp [Region.wanted, hg, hyl]⟩
          · rename_i hne1 hne2
            cases h
            refine ⟨E, ?_⟩
            cases y <;> cases want <;> first | exact absurd rfl (hne1 rfl) | exact absurd rfl (hne2 rfl) | simp [Region.wanted, hg, hyl]
        · rename_i y hy
          have hyl := yielded_of E hj ht hy (b := y) rfl
          split at h
          · split at h <;> (cases h; subst hc; exact ⟨E.refine hy rfl trivial, by simp [Region.wanted, hg, hyl]⟩)
          · cases h
        · cases h
      · cases h
    · cases h
include hT
theorem oneV_ok {u w : World} {tl : List Hp} {β : List Nat} {bx : BL} {n : Nat} {a : Act} {l : EL} (E : Env β a n l) (H : SH u w (bhs β bx ++ tl)) (wb : ∀ e ∈ bx, e.1 < β.length ∧ SV.wfs β.length e.2.2)
    {ch ds} {o : Oper} {ds' y c} (h : oneV T ch tl ds l bx o.op = some (ds', y, c)) (hc : c) : (execOp a.eval o).run P w = .ok (.value (SV.dn β y)) w ∧ SV.wf β.length y := by
  unfold oneV at h
  split at h
  · rename_i y' c' h1
    cases h
    exact op1_ok (w := w) hT E (fun i x hb => H.box hb) (fun e he => (wb e he).2) h1 hc
  · split at h
    · rename_i t ad ho
      split at h
      · rename_i p hp
        split at h
        · rename_i i hi
          split at h
          · rename_i xs ds2
            split at h
            · rename_i hlen
              split at h
              · rename_i y' hy
                cases h
                have hok := hT.ok _ _ hi
                have hlen := Nat.eq_of_beq_eq_true hlen
                obtain ⟨e, _⟩ := evo_ok E hp
                have hcell : ∀ j v, xs[j]? = some v → w.cell? (p.add j) = some v := fun j v hv => (hc j v hv).run H
                unfold xsV at hy
                cases hag : i.agg with
                | true =>
                  rw [hag] at hy
                  cases hy
                  have hl := run_loadCells_list (P := P) w p xs hcell
                  rw [hlen] at hl
                  refine ⟨?_, (wfs_iff _ _).2 (by simp [SV.wf])⟩
                  simp only [execOp, ho, e, Instr.loadAt, SV.dn, Instr.sureAddr, Sem.run_bind, Sem.run_pure, Result.andThen_ok, loadVar, hok.run_agg, hag, ↓reduceIte, hok.run_size, hl]
                  simp [dns_eq, SV.dn, Function.comp_def]
                | false =>
                  rw [hag] at hy
                  simp only at hy
                  split at hy
                  · cases hy
                    have h0 := hcell 0 _ rfl
                    have ea : p.add 0 = p := by simp [Addr.add]
                    rw [ea] at h0
                    refine ⟨?_, trivial⟩
                    simp only [execOp, ho, e, Instr.loadAt, SV.dn, Instr.sureAddr, Sem.run_bind, Sem.run_pure, Result.andThen_ok, loadVar, hok.run_agg, hag, Bool.false_eq_true, ↓reduceIte, run_load, h0]
                  · cases hy
              · cases h
            · cases h
          · cases h
        · cases h
      · cases h
    · cases h
omit hT in
theorem qrun_cs {ch n tl all bx} : ∀ {os : List Oper} {ds : List Dn} {l : EL} {cs : List Prop} {r : QO}, qrun T ch n tl all bx ds os l cs = r → allP r.cs → allP cs
  | [], ds, l, cs, r, h, hc => by subst h; exact hc
  | o :: rest, ds, l, cs, r, h, hc => by
    simp only [qrun] at h
    split at h
    · subst h; exact hc
    · split at h
      · subst h; exact hc
      · split at h
        · rw [nfV_eq, putK_eq] at h
          exact (qrun_cs h hc).2.2
        · subst h; exact hc
      · rw [putK_eq] at h
        exact (qrun_cs h hc).2
theorem qrun_ok {ch n tl all bx} {u w0 : World} {β : List Nat} (H0 : SH u w0 (bhs β bx ++ tl)) (wb : ∀ e ∈ bx, e.1 < β.length ∧ SV.wfs β.length e.2.2) {Q : Act → Prop} :
    ∀ {os : List Oper} {ds : List Dn} {l : EL} {cs : List Prop} {r : QO} {a : Act}, Env β a n l → qrun T ch n tl all bx ds os l cs = r → allP r.cs →
    (∀ a', Env β a' n r.l → wpQuiet P all.toArray (fun w => SH u w (bhs β bx ++ tl)) Q r.rest a') → wpQuiet P all.toArray (fun w => SH u w (bhs β bx ++ tl)) Q os a
  | [], ds, l, cs, r, a, E, h, hc, hk => by subst h; exact hk a E
  | o :: rest, ds, l, cs, r, a, E, h, hc, hk => by
    simp only [qrun] at h
    split at h
    · subst h; exact hk a E
    · rename_i hd
      split at h
      · subst h; exact hk a E
      · rename_i ds1 l1 c1 hg
        split at h
        · rename_i ds2 y c2 h1
          rw [nfV_eq, putK_eq] at h
          have hcs := qrun_cs h hc
          obtain ⟨E1, hw⟩ := guardV_ok E hg hcs.2.1
          unfold wpQuiet
          rw [if_pos hw]
          have hwf := (oneV_ok hT E1 H0 wb h1 hcs.1).2
          refine ⟨SV.dn β y, fun w H => ?_, qrun_ok H0 wb (putl_ok E1 hd hwf) h hc hk⟩
          unfold Oper.quietAt
          rw [(oneV_ok hT E1 H wb h1 hcs.1).1]
          exact ⟨rfl, rfl⟩
        · subst h; exact hk a E
      · rename_i ds1 l1 c1 hg
        rw [putK_eq] at h
        have hcs := qrun_cs h hc
        obtain ⟨E1, hw⟩ := guardV_ok E hg hcs.1
        unfold wpQuiet
        rw [if_neg (by simp [hw])]
        exact qrun_ok H0 wb (putl_ok E1 hd (x := .v undef) trivial) h hc hk
omit hT in
theorem SH.draw {u w : World} {L : List Hp} (H : SH u w L) : SH u { w with drawn := w.drawn + 1 } L := ⟨H.os, H.tape, H.output, H.size, H.has, H.apart⟩
theorem stepX_ok {ch n ds all o rest k l bx nx tl c0 ds' k' l' bx' nx' c} {β : List Nat} {u w : World} {a : Act} (S : St β u w a n l bx tl) (hn : β.length = nx)
    (hd : dOk n o.dst = true) (hwant : Region.wanted o (yielded all.toArray a.tmps) = true)
    (h : stepX T ch tl ds all o rest k l bx nx c0 = some (ds', k', l', bx', nx', c)) (hc : allP c)
    (hk : ∀ β' a' w', β <+: β' → β'.length = nx' → St β' u w' a' n l' bx' tl → PQ P R k' .normal a' w') : PQ P R (.r all (o :: rest) :: k) .normal a w := by
  subst hn
  unfold stepX at h
  simp only [PQ, Exit.then]
  unfold wpList
  rw [if_pos hwant]
  refine .inl ?_
  split at h
  · rename_i ds2 y c' h1
    rw [nfV_eq, putK_eq] at h
    cases h
    obtain ⟨hr, hw⟩ := oneV_ok hT S.env S.sh S.wb h1 hc.1
    unfold Oper.wp
    rw [hr]
    exact hk β _ w (List.prefix_refl _) rfl ⟨putl_ok S.env hd hw, S.sh, S.wb⟩
  · split at h
    · rename_i d t cs y hM
      rw [nfC_eq, nfE_eq, putK_eq] at h
      cases h
      obtain ⟨hr, hw, hwy, rfl⟩ := opM_new hT S hM
      unfold Oper.wp
      rw [hr]
      have S' := S.new (t := t) hw
      refine hk (β ++ [w.heap.size]) _ _ (List.prefix_append _ _) (by simp) ⟨putl_ok S'.env hd (by simpa using hwy), S'.sh, S'.wb⟩
    · rename_i i cs hM
      rw [nfC_eq, nfB_eq, putK_eq] at h
      cases h
      obtain ⟨w', hr, S'⟩ := opM_set hT S hM
      unfold Oper.wp
      rw [hr]
      exact hk β _ _ (List.prefix_refl _) rfl ⟨putl_ok S'.env hd (x := .v undef) trivial, S'.sh, S'.wb⟩
    · cases h
omit hT in
theorem stepX_c0 {ch tl ds all o rest k l bx nx c0 ds' k' l' bx' nx' c} (h : stepX T ch tl ds all o rest k l bx nx c0 = some (ds', k', l', bx', nx', c)) (hc : allP c) : c0 := by
  unfold stepX at h
  split at h
  · rw [nfV_eq, putK_eq] at h
    cases h
    exact hc.2.1
  · split at h
    · rw [nfC_eq, nfE_eq, putK_eq] at h
      cases h
      exact hc.1
    · rw [nfC_eq, nfB_eq, putK_eq] at h
      cases h
      exact hc.1
    · cases h
theorem step1_ok {ch n ds k l bx nx tl ds' k' l' bx' nx' c} {β : List Nat} {u w : World} {a : Act} (S : St β u w a n l bx tl) (hn : β.length = nx)
    (h : step1 T ch n tl ds k l bx nx = some (ds', k', l', bx', nx', c)) (hc : allP c)
    (hk : ∀ β' a' w', β <+: β' → β'.length = nx' → St β' u w' a' n l' bx' tl → PQ P R k' .normal a' w') : PQ P R k .normal a w := by
  unfold step1 at h
  split at h
  · cases h
  · cases h
  · cases h
  · cases h; exact hk β a w (List.prefix_refl _) hn S
  · cases h
    simp only [PQ, Exit.then]
    exact wpList_nil (hk β a w (List.prefix_refl _) hn S)
  · rename_i all o rest k
    unfold stepR at h
    split at h
    · cases h
    · rename_i hd
      split at h
      · cases h
      · rename_i ds1 l1 c1 hg
        obtain ⟨E1, hw⟩ := guardV_ok S.env hg (stepX_c0 h hc)
        exact stepX_ok hT ⟨E1, S.sh, S.wb⟩ hn hd hw h hc hk
      · rename_i ds1 l1 c1 hg
        rw [putK_eq] at h
        cases h
        obtain ⟨E1, hw⟩ := guardV_ok S.env hg hc.1
        simp only [PQ, Exit.then]
        unfold wpList
        rw [if_neg (by simp [hw])]
        exact hk β _ w (List.prefix_refl _) hn ⟨putl_ok E1 hd (x := .v undef) trivial, S.sh, S.wb⟩
  · cases h
    simp only [PQ, Exit.then]
    exact wp_skip (hk β a w (List.prefix_refl _) hn S)
  · cases h
    simp only [PQ, Exit.then]
    exact wp_seq (hk β a w (List.prefix_refl _) hn S)
  · cases h
    simp only [PQ, Exit.then]
    exact wp_block (hk β a w (List.prefix_refl _) hn S)
  · split at h
    · rename_i k'' he
      cases h
      simp only [PQ, Exit.then]
      exact wp_exit (exitK_ok he (hk β a w (List.prefix_refl _) hn S))
    · cases h
  · split at h
    · rename_i he
      cases h
      simp only [PQ, Exit.then]
      exact wp_cond_true (evo_ok S.env he).1 (hk β a w (List.prefix_refl _) hn S)
    · rename_i he
      cases h
      simp only [PQ, Exit.then]
      exact wp_cond_false (evo_ok S.env he).1 (hk β a w (List.prefix_refl _) hn S)
    · rename_i he
      split at h
      · cases h
        obtain ⟨hb, _⟩ := hc
        subst hb
        simp only [PQ, Exit.then]
        exact wp_cond_true (evo_ok S.env he).1 (hk β a w (List.prefix_refl _) hn S)
      · cases h
        obtain ⟨hb, _⟩ := hc
        subst hb
        simp only [PQ, Exit.then]
        exact wp_cond_false (evo_ok S.env he).1 (hk β a w (List.prefix_refl _) hn S)
      · cases h
    · cases h
  · cases h
    simp only [PQ, Exit.then]
    refine wp_region_list ?_
    have := hk β a w (List.prefix_refl _) hn S
    simp only [PQ, Exit.then] at this
    exact this
  · rename_i ops k
    split at h
    · rename_i ds2 l2 cs hq
      cases h
      have hl := qrun_cs hq hc
      simp only [PQ, Exit.then]
      refine wp_region_quiet (C := fun w => SH u w (bhs β bx ++ tl)) hT.mixed hl.1 S.sh.draw ?_
      exact qrun_ok hT S.sh S.wb S.env hq hc fun a' E' => wpQuiet_nil fun w' H' => hk β a' w' (List.prefix_refl _) hn ⟨E', H', S.wb⟩
    · cases h
  · cases h
omit hT in
theorem run_cs {ch n tl} : ∀ {f : Nat} {ds : List Dn} {k : List TK} {l : EL} {bx : BL} {nx : Nat} {cs : List Prop} {r : RO},
    run T ch n tl f ds k l bx nx cs = r → allP r.cs → allP cs
  | 0, ds, k, l, bx, nx, cs, r, h, hc => by subst h; exact hc
  | f + 1, ds, k, l, bx, nx, cs, r, h, hc => by
    simp only [run] at h
    split at h
    · subst h; exact hc
    · rw [addK_eq] at h; exact (allP_add.1 (run_cs h hc)).2
theorem run_ok {ch n tl} {u : World} : ∀ {f : Nat} {ds : List Dn} {k : List TK} {l : EL} {bx : BL} {nx : Nat} {cs : List Prop} {r : RO} {β : List Nat} {w : World} {a : Act}, St β u w a n l bx tl → β.length = nx →
    run T ch n tl f ds k l bx nx cs = r → allP r.cs →
    (∀ β' a' w', β <+: β' → β'.length = r.nx → St β' u w' a' n r.l r.bx tl → PQ P R r.k .normal a' w') → PQ P R k .normal a w
  | 0, ds, k, l, bx, nx, cs, r, β, w, a, S, hn, h, hc, hk => by
    subst h
    exact hk β a w (List.prefix_refl _) hn S
  | f + 1, ds, k, l, bx, nx, cs, r, β, w, a, S, hn, h, hc, hk => by
    simp only [run] at h
    split at h
    · subst h
      exact hk β a w (List.prefix_refl _) hn S
    · rename_i ds2 k2 l2 bx2 nx2 c2 h1
      rw [addK_eq] at h
      have h2 := allP_add.1 (run_cs h hc)
      exact step1_ok hT S hn h1 h2.1 fun β' a' w' hp hn' S' => run_ok S' hn' h hc fun β2 a2 w2 hp2 => hk β2 a2 w2 (hp.trans hp2)
/-- run as far as it goes -/
theorem xr {n : Nat} {tl : List Hp} {u w : World} {β : List Nat} {a : Act} {l : EL} {bx : BL} {nx : Nat} {k : List TK} (S : St β u w a n l bx tl) (hn : β.length = nx) (ch : Bool) (ds : List Dn) (f : Nat)
    {k' l' bx' nx' cs'} (h : run T ch n tl f ds k l bx nx [] = ⟨k', l', bx', nx', cs'⟩) (hc : allP cs')
    (hk : ∀ β' a' w', β <+: β' → β'.length = nx' → St β' u w' a' n l' bx' tl → PQ P R k' .normal a' w') : PQ P R k .normal a w :=
  run_ok hT S hn h hc hk
end
end Go.SX
