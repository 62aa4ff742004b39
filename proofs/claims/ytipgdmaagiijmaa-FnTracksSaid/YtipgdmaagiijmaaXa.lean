import Derived.WalkKit
import Derived.Deep.Quiet
import Derived.StillTail
import Derived.Laws.CopyRow
import Derived.Laws.FloatArith
import Derived.ChangeKeysEq
import Derived.Lib.ConvBytes
set_option linter.unusedVariables false
set_option linter.unusedSimpArgs false
set_option linter.unusedSectionVars false
namespace Go.SX

abbrev Hp := Nat → Option Obj
def Hp.one (b : Nat) (o : Obj) : Hp := fun k => if k = b then some o else none
def Hp.emp : Hp := fun _ => none

inductive SV where
  | v (x : Value)
  | b (x : Bool)
  | p (i o : Nat)
  | s (i n c : Nat)
  | f (fn : Fn) (first cap : List SV)
  | g (cs : List SV)

mutual
def SV.dn (β : List Nat) : SV → Value
  | .v x => x
  | .b x => .bool x
  | .p i o => .pointer (some ⟨β.getD i 0, o, none⟩)
  | .s i n c => .slice (some ⟨β.getD i 0, 0, none⟩) n c
  | .f fn a c => .func fn (SV.dns β a).toArray (SV.dns β c).toArray
  | .g cs => .agg (SV.dns β cs).toArray
def SV.dns (β : List Nat) : List SV → List Value
  | [] => []
  | x :: r => SV.dn β x :: SV.dns β r
end
mutual
def SV.wf (k : Nat) : SV → Prop
  | .v _ => True
  | .b _ => True
  | .p i _ => i < k
  | .s i _ _ => i < k
  | .f _ a c => SV.wfs k a ∧ SV.wfs k c
  | .g cs => SV.wfs k cs
def SV.wfs (k : Nat) : List SV → Prop
  | [] => True
  | x :: r => SV.wf k x ∧ SV.wfs k r
end

theorem dns_eq (β : List Nat) : ∀ l, SV.dns β l = l.map (SV.dn β)
  | [] => rfl
  | x :: r => by simp only [SV.dns, List.map_cons, dns_eq β r]
theorem wfs_iff (k : Nat) : ∀ l, SV.wfs k l ↔ ∀ x ∈ l, SV.wf k x
  | [] => by simp [SV.wfs]
  | x :: r => by simp only [SV.wfs, List.forall_mem_cons, wfs_iff k r]

theorem getD_app {β : List Nat} {i b : Nat} (h : i < β.length) : (β ++ [b]).getD i 0 = β.getD i 0 := by
  simp [List.getD_eq_getElem?_getD, List.getElem?_append_left h]

mutual
theorem dn_app (β : List Nat) (b : Nat) : ∀ x, SV.wf β.length x → SV.dn (β ++ [b]) x = SV.dn β x
  | .v _, _ => rfl
  | .b _, _ => rfl
  | .p i o, h => by simp only [SV.dn, getD_app (show i < β.length from h)]
  | .s i n c, h => by simp only [SV.dn, getD_app (show i < β.length from h)]
  | .f fn a c, h => by simp only [SV.dn, dns_app β b a h.1, dns_app β b c h.2]
  | .g cs, h => by simp only [SV.dn, dns_app β b cs h]
theorem dns_app (β : List Nat) (b : Nat) : ∀ l, SV.wfs β.length l → SV.dns (β ++ [b]) l = SV.dns β l
  | [], _ => rfl
  | x :: r, h => by simp only [SV.dns, dn_app β b x h.1, dns_app β b r h.2]
end
mutual
theorem wf_mono {k : Nat} : ∀ x, SV.wf k x → SV.wf (k + 1) x
  | .v _, _ => trivial
  | .b _, _ => trivial
  | .p i o, h => Nat.lt_succ_of_lt h
  | .s i n c, h => Nat.lt_succ_of_lt h
  | .f fn a c, h => ⟨wfs_mono a h.1, wfs_mono c h.2⟩
  | .g cs, h => wfs_mono cs h
theorem wfs_mono {k : Nat} : ∀ l, SV.wfs k l → SV.wfs (k + 1) l
  | [], _ => trivial
  | x :: r, h => ⟨wf_mono x h.1, wfs_mono r h.2⟩
end

/-- the cells of a value -/
def SV.cells : SV → List SV
  | .g cs => cs
  | .v (.agg a) => a.toList.map .v
  | x => [x]
theorem cells_dn (β : List Nat) (x : SV) : (SV.dn β x).cells = (SV.dns β x.cells).toArray := by
  cases x with
  | v x => cases x <;> simp [SV.cells, SV.dn, Value.cells, dns_eq, SV.dns] ; simp [Function.comp_def, SV.dn]
  | _ => simp [SV.cells, SV.dn, Value.cells, dns_eq, SV.dns]
theorem wf_cells {k : Nat} {x : SV} (h : SV.wf k x) : SV.wfs k x.cells := by
  cases x with
  | v x => cases x <;> simp [SV.cells, wfs_iff, SV.wf, SV.wfs]
  | g cs => exact h
  | _ => exact ⟨h, trivial⟩
/-- one cell's value -/
def SV.one : SV → Bool
  | .g _ => false
  | .v (.agg _) => false
  | .v (.tuple _) => false
  | _ => true
theorem one_dn (β : List Nat) {x : SV} (h : x.one = true) : (SV.dn β x).oneCell' = true := by
  cases x with
  | v x => cases x <;> simp_all [SV.one, SV.dn, Value.oneCell']
  | _ => simp_all [SV.one, SV.dn, Value.oneCell']

/-! ### the table of types -/
structure TInfo where
  size : Nat
  bytes : Nat
  zero : Value
  desc : TypeDesc
def TInfo.agg (i : TInfo) : Bool := match i.desc with | .struct _ => true | .array _ _ => true | _ => false
abbrev TT := List (Nat × TInfo)
def tk : TT → Nat → Option TInfo
  | [], _ => none
  | (k, x) :: r, t => bif Nat.beq k t then some x else tk r t
structure TyOk (P : Program) (t : TypeId) (i : TInfo) : Prop where
  und : P.underlying t = some i.desc
  info : (P.info? t).map (fun x => (x.size, x.bytes, x.zero)) = some (i.size, i.bytes, some i.zero)
structure TabOk (P : Program) (T : TT) : Prop where
  ok : ∀ t i, tk T t = some i → TyOk P t i
  mixed : P.follows .mixedOrders = true

theorem tk_mem : ∀ {T : TT} {t i}, tk T t = some i → (t, i) ∈ T
  | [], t, i, h => by cases h
  | (k, x) :: r, t, i, h => by
    simp only [tk] at h
    cases hb : Nat.beq k t with
    | true =>
      rw [hb] at h
      simp only [cond_true] at h
      cases h
      rw [Nat.eq_of_beq_eq_true hb]
      exact List.mem_cons_self
    | false =>
      rw [hb] at h
      exact List.mem_cons_of_mem _ (tk_mem h)
theorem tab_of {P : Program} {T : TT} (hm : P.follows .mixedOrders = true) (h : ∀ p ∈ T, TyOk P p.1 p.2) : TabOk P T :=
  ⟨fun t i ht => h _ (tk_mem ht), hm⟩

section
variable {P : Program} {t : TypeId} {i : TInfo} (h : TyOk P t i) (w : World)
include h
theorem TyOk.run_und : (underlying t).run P w = .ok i.desc w := run_underlying h.und w
theorem TyOk.run_size : (sizeOf t).run P w = .ok i.size w := by
  obtain ⟨x, hx, hy⟩ := Option.map_eq_some_iff.1 h.info
  simp only [Prod.mk.injEq] at hy
  simp [sizeOf, run_typeInfo w hx, hy.1]
theorem TyOk.run_zero : (zeroValue t).run P w = .ok i.zero w := by
  obtain ⟨x, hx, hy⟩ := Option.map_eq_some_iff.1 h.info
  simp only [Prod.mk.injEq] at hy
  simp [zeroValue, run_typeInfo w hx, hy.2.2]
theorem TyOk.run_agg : (isAgg t).run P w = .ok i.agg w := by
  simp only [isAgg, Sem.run_bind, h.run_und, Result.andThen_ok, TInfo.agg]
  cases i.desc <;> rfl
end

/-! ### frames -/
abbrev EL := List (Nat × SV)
def lk : EL → Nat → Option SV
  | [], _ => none
  | (k, x) :: r, t => bif Nat.beq k t then some x else lk r t
theorem lk_mem : ∀ {l : EL} {t x}, lk l t = some x → (t, x) ∈ l
  | [], t, i, h => by cases h
  | (k, x) :: r, t, i, h => by
    simp only [lk] at h
    cases hb : Nat.beq k t with
    | true =>
      rw [hb] at h
      simp only [cond_true] at h
      cases h
      rw [Nat.eq_of_beq_eq_true hb]
      exact List.mem_cons_self
    | false =>
      rw [hb] at h
      exact List.mem_cons_of_mem _ (lk_mem h)
theorem lk_cons {l : EL} {d t : Nat} {x y : SV} (h : lk ((d, x) :: l) t = some y) : (d = t ∧ x = y) ∨ (d ≠ t ∧ lk l t = some y) := by
  simp only [lk] at h
  cases hb : Nat.beq d t with
  | true => rw [hb] at h; simp only [cond_true] at h; cases h; exact .inl ⟨Nat.eq_of_beq_eq_true hb, rfl⟩
  | false => rw [hb] at h; exact .inr ⟨Nat.ne_of_beq_eq_false hb, h⟩

structure Env (β : List Nat) (a : Act) (n : Nat) (l : EL) : Prop where
  defers : a.defers = []
  size : a.tmps.size = n
  at_ : ∀ t x, lk l t = some x → a.tmps[t]? = some (SV.dn β x)
  wf : ∀ p ∈ l, SV.wf β.length p.2

theorem Env.put {β : List Nat} {a : Act} {n d : Nat} {l : EL} {x : SV} (E : Env β a n l) (hd : d < n) (hx : SV.wf β.length x) : Env β (a.put (some d) (SV.dn β x)) n ((d, x) :: l) := by
  refine ⟨E.defers, by simp [Act.put, E.size], fun t y h => ?_, fun p hp => ?_⟩
  · simp only [Act.put]
    rcases lk_cons h with ⟨rfl, rfl⟩ | ⟨hne, h⟩
    · rw [Array.getElem?_setIfInBounds, if_pos rfl, if_pos (by rw [E.size]; exact hd)]
    · rw [Array.getElem?_setIfInBounds, if_neg hne]; exact E.at_ t y h
  · rcases List.mem_cons.1 hp with rfl | hp
    · exact hx
    · exact E.wf p hp

def evo (l : EL) : Operand → Option SV
  | .tmp t => lk l t
  | .const (.bool b) => some (.b b)
  | .const v => some (.v v)
  | .global g => some (.v (.pointer (some ⟨g, 0, none⟩)))
  | .func f => some (.v (.func (.func f) #[] #[]))
theorem evo_ok {β : List Nat} {a : Act} {n : Nat} {l : EL} {o : Operand} {x : SV} (E : Env β a n l) (h : evo l o = some x) : a.eval o = SV.dn β x ∧ SV.wf β.length x := by
  cases o with
  | tmp t =>
    have := E.at_ t x h
    exact ⟨by simp [Act.eval, Array.getD_eq_getD_getElem?, this], E.wf _ (lk_mem h)⟩
  | const v => cases v <;> cases h <;> exact ⟨rfl, trivial⟩
  | global g => cases h; exact ⟨rfl, trivial⟩
  | func f => cases h; exact ⟨rfl, trivial⟩
def evos (l : EL) : List Operand → Option (List SV)
  | [] => some []
  | o :: r => match evo l o with
    | some x => match evos l r with
      | some xs => some (x :: xs)
      | none => none
    | none => none
theorem evos_ok {β : List Nat} {a : Act} {n : Nat} {l : EL} (E : Env β a n l) : ∀ {os : List Operand} {xs : List SV}, evos l os = some xs → os.map a.eval = SV.dns β xs ∧ SV.wfs β.length xs
  | [], xs, h => by cases h; exact ⟨rfl, trivial⟩
  | o :: r, xs, h => by
    simp only [evos] at h
    cases h1 : evo l o with
    | none => rw [h1] at h; cases h
    | some x =>
      cases h2 : evos l r with
      | none => rw [h1, h2] at h; cases h
      | some ys =>
        rw [h1, h2] at h
        cases h
        obtain ⟨e1, w1⟩ := evo_ok E h1
        obtain ⟨e2, w2⟩ := evos_ok E h2
        exact ⟨by simp only [List.map_cons, SV.dns, e1, e2], w1, w2⟩

/-! ### boxes -/
abbrev BL := List (Nat × Nat × List SV)
def bk : BL → Nat → Option (Nat × List SV)
  | [], _ => none
  | (k, x) :: r, t => bif Nat.beq k t then some x else bk r t
theorem bk_mem : ∀ {l : BL} {t x}, bk l t = some x → (t, x) ∈ l
  | [], t, i, h => by cases h
  | (k, x) :: r, t, i, h => by
    simp only [bk] at h
    cases hb : Nat.beq k t with
    | true =>
      rw [hb] at h
      simp only [cond_true] at h
      cases h
      rw [Nat.eq_of_beq_eq_true hb]
      exact List.mem_cons_self
    | false =>
      rw [hb] at h
      exact List.mem_cons_of_mem _ (bk_mem h)
def bobj (β : List Nat) (x : Nat × List SV) : Obj := .cells (SV.dns β x.2).toArray x.1 (0, 0)
def bhs (β : List Nat) (bx : BL) : List Hp := bx.map fun e => Hp.one (β.getD e.1 0) (bobj β e.2)
structure SH (u w : World) (l : List Hp) : Prop where
  os : w.os = u.os
  tape : w.tape = u.tape
  output : w.output = u.output
  size : u.heap.size ≤ w.heap.size
  has : ∀ m ∈ l, ∀ b o, m b = some o → w.heap[b]? = some o
  apart : l.Pairwise (fun m n => ∀ b, m b = none ∨ n b = none)

theorem SH.box {u w : World} {β : List Nat} {bx : BL} {tl : List Hp} {i : Nat} {x} (H : SH u w (bhs β bx ++ tl)) (h : bk bx i = some x) : w.heap[β.getD i 0]? = some (bobj β x) := by
  refine H.has (Hp.one (β.getD i 0) (bobj β x)) ?_ _ _ (by simp [Hp.one])
  refine List.mem_append_left _ (List.mem_map.2 ⟨(i, x), bk_mem h, rfl⟩)

theorem cell_of_heap {w : World} {g o : Nat} {cs : Array Value} {t fr v} (h : w.heap[g]? = some (.cells cs t fr)) (hv : cs[o]? = some v) : w.cell? ⟨g, o, none⟩ = some v := by
  simp [World.cell?, h, hv]
theorem add_none (g o j : Nat) : (⟨g, o, none⟩ : Addr).add j = ⟨g, o + j, none⟩ := by unfold Addr.add; split <;> simp_all

end Go.SX
