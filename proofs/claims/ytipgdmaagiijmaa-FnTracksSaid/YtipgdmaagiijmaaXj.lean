import Derived.Test.YtipgdmaagiijmaaXi
set_option linter.unusedVariables false
set_option linter.unusedSimpArgs false
set_option linter.unusedSectionVars false
namespace Go.SX

def ins : Nat → List SV → EL
  | _, [] => []
  | k, x :: r => (k, x) :: ins (k + 1) r
theorem ins_at : ∀ {k : Nat} {xs : List SV} {t x}, lk (ins k xs) t = some x → k ≤ t ∧ xs[t - k]? = some x
  | k, [], t, x, h => by cases h
  | k, y :: r, t, x, h => by
    rcases lk_cons h with ⟨rfl, rfl⟩ | ⟨hne, h⟩
    · exact ⟨Nat.le_refl _, by simp⟩
    · obtain ⟨h1, h2⟩ := ins_at h
      refine ⟨by omega, ?_⟩
      rw [show t - k = (t - (k + 1)) + 1 by omega]
      simpa using h2
theorem ins_mem : ∀ {k : Nat} {xs : List SV} {p}, p ∈ ins k xs → p.2 ∈ xs
  | k, [], p, h => by cases h
  | k, y :: r, p, h => by
    rcases List.mem_cons.1 h with rfl | h
    · exact List.mem_cons_self
    · exact List.mem_cons_of_mem _ (ins_mem h)

def resV (T : TT) (l : EL) (bx : BL) : List ResultVar → Option (List SV)
  | [] => some []
  | .tmp t :: r => match lk l t with
    | some x => match resV T l bx r with
      | some xs => nfV x fun x' => some (x' :: xs)
      | none => none
    | none => none
  | .cell ad t :: r => match lk l ad with
    | some (.p id o) => match bk bx id with
      | some (_, cs) => match tk T t with
        | some i => match partV i cs o with
          | some x => match resV T l bx r with
            | some xs => nfV x fun x' => some (x' :: xs)
            | none => none
          | none => none
        | none => none
      | none => none
    | _ => none
def retv : List Value → Value
  | [v] => v
  | vs => .tuple vs.toArray

section
variable {P : Program} {T : TT} (hT : TabOk P T) {R : Exit → Act → World → Prop} {β : List Nat} {bx : BL} {u w : World} {a : Act} {n : Nat} {l : EL} {tl : List Hp} {k : List TK}

theorem enter {f : FuncId} {fn : Func} {c : Code} {vs : List Value} {R : Ending → World → Prop} (hf : P.funcs[f]? = some fn) (hb : fn.body = some c) (H : SH u w tl) (hn : fn.ntmps = n) (hl : Nat.ble vs.length n = true) {l : EL} (hi : ins 0 (vs.map .v) = l)
    (h : ∀ a, St [] u w a n l [] tl → PQ P (bodyPost P fn R) [.c c] .normal a w) : Calls P f vs.toArray w R := by
  subst hn
  subst hi
  have hl := Nat.le_of_ble_eq_true hl
  refine calls_of_wp hf hb ?_
  refine h _ ⟨⟨rfl, by simp; omega, fun t x hx => ?_, fun p hp => ?_⟩, by simpa [bhs] using H, by simp⟩
  · obtain ⟨_, h2⟩ := ins_at hx
    simp only [List.getElem?_map, Nat.sub_zero] at h2
    cases hv : vs[t]? with
    | none => rw [hv] at h2; cases h2
    | some v =>
      rw [hv] at h2
      cases h2
      have : t < vs.length := (List.getElem?_eq_some_iff.1 hv).1
      simp only [SV.dn]
      rw [Array.getElem?_append_left (by simpa using this)]
      simpa using hv
  · obtain ⟨v, _, he⟩ := List.mem_map.1 (ins_mem hp)
    rw [← he]; exact trivial

theorem retK {a : Act} {w : World} (h : R .ret a w) : ∀ k, PQ P R k .ret a w
  | [] => h
  | .c _ :: k => retK h k
  | .r _ _ :: k => retK h k
  | .k _ :: k => retK h k
  | .j _ :: k => retK h k
  | .a _ :: k => retK h k

def resF (tmps : Array Value) : ResultVar → Sem Value
  | .tmp t => pure (tmps.getD t undef)
  | .cell a t => do loadVar t (← asAddr (tmps.getD a undef))
theorem resF_tmp (tmps : Array Value) (t : Tmp) : (resF tmps (.tmp t)).run P w = .ok (tmps.getD t undef) w := rfl
theorem resF_cell (tmps : Array Value) (t : TypeId) (ad : Tmp) (ad' : Addr) (h : tmps.getD ad undef = .pointer (some ad')) : (resF tmps (.cell ad t)).run P w = (loadVar t ad').run P w := by
  simp only [resF, Sem.run_bind, h]; rfl
include hT in
theorem resV_ok (S : St β u w a n l bx tl) : ∀ {rs : List ResultVar} {xs : List SV}, resV T l bx rs = some xs →
    (rs.mapM (resF a.tmps)).run P w = .ok (SV.dns β xs) w
  | [], xs, h => by cases h; rfl
  | .tmp t :: r, xs, h => by
    simp only [resV] at h
    split at h
    · rename_i x hx
      split at h
      · rename_i ys hy
        rw [nfV_eq] at h
        cases h
        have e := (evo_ok (o := .tmp t) S.env hx).1
        simp only [Act.eval] at e
        have ih := resV_ok S hy
        simp only [List.mapM_cons, Sem.run_bind, resF_tmp, e, Sem.run_pure, Result.andThen_ok, ih, SV.dns]
      · cases h
    · cases h
  | .cell ad t :: r, xs, h => by
    simp only [resV] at h
    split at h
    · rename_i id o hx
      split at h
      · rename_i ty cs hb
        split at h
        · rename_i i ht
          split at h
          · rename_i x hp
            split at h
            · rename_i ys hy
              rw [nfV_eq] at h
              cases h
              have e := (evo_ok (o := .tmp ad) S.env hx).1
              simp only [Act.eval] at e
              have ih := resV_ok S hy
              have hl := (load_ok (w := w) hT (HB := fun i x hb => S.sh.box hb) (fun e he => (S.wb e he).2) hb ht hp).1
              simp only [Instr.loadAt, SV.dn, Instr.sureAddr, Sem.run_bind, Sem.run_pure, Result.andThen_ok] at hl
              simp only [List.mapM_cons, Sem.run_bind, resF_cell _ _ _ _ e, Sem.run_pure, Result.andThen_ok, hl, ih, SV.dns]
            · cases h
          · cases h
        · cases h
      · cases h
    · cases h
include hT in
theorem results_ok (S : St β u w a n l bx tl) {fn : Func} {xs : List SV} (h : resV T l bx fn.results.toList = some xs) : (results fn a.tmps).run P w = .ok (retv (SV.dns β xs)) w := by
  have h1 := resV_ok hT S h
  have e : results fn a.tmps = (do let vs ← fn.results.mapM (resF a.tmps); pure (if h : vs.size = 1 then vs[0] else .tuple vs)) := by
    unfold results
    congr 2
  rw [e]
  obtain ⟨rs, hrs⟩ : ∃ rs, fn.results = ⟨rs⟩ := ⟨fn.results.toList, rfl⟩
  rw [hrs] at h1 ⊢
  rw [Sem.run_bind, List.mapM_toArray, Sem.run_map, h1]
  simp only [Result.andThen_ok, Sem.run_pure]
  congr 1
  cases hd : SV.dns β xs with
  | nil => simp [retv]
  | cons x r => cases r <;> simp [retv]
include hT in
/-- the end of a body -/
theorem xret {fn : Func} {Q : Ending → World → Prop} (S : St β u w a n l bx tl) {xs : List SV} (h : resV T l bx fn.results.toList = some xs) (hR : Q (.returned (retv (SV.dns β xs))) w) :
    PQ P (bodyPost P fn Q) (.c .ret :: k) .normal a w := by
  simp only [PQ, Exit.then]
  exact wp_ret (retK ⟨S.env.defers, _, results_ok hT S h, hR⟩ k)
include hT in
theorem xend {fn : Func} {Q : Ending → World → Prop} (S : St β u w a n l bx tl) {xs : List SV} (h : resV T l bx fn.results.toList = some xs) (hR : Q (.returned (retv (SV.dns β xs))) w) :
    PQ P (bodyPost P fn Q) [] .normal a w := ⟨S.env.defers, _, results_ok hT S h, hR⟩

/-! ### calls -/
def Enters (P : Program) (f : FuncId) : Prop := ∃ fn, P.funcs[f]? = some fn ∧ (fn.name == "runtime.NumGoroutine") = false ∧ fn.body.isNone = false
theorem run_callFunc {f : FuncId} (h : Enters P f) (args : Array Value) (w : World) : (callFunc f args).run P w = .ok (.enter f args) w := by
  obtain ⟨fn, h1, h2, h3⟩ := h
  simp only [callFunc, Sem.run_bind, run_program, Result.andThen_ok, h1, h2, h3, Bool.false_eq_true, ↓reduceIte, Sem.run_pure]
/-- what is called, and with what -/
def calleeV (l : EL) (fo : Operand) (xs : List SV) : Option (FuncId × List SV) :=
  match evo l fo with
  | some (.v (.func (.func f) ⟨[]⟩ ⟨cap⟩)) => some (f, xs ++ cap.map .v)
  | some (.f (.func f) [] cap) => some (f, xs ++ cap)
  | _ => none
theorem dns_app' (β : List Nat) (xs ys : List SV) : SV.dns β (xs ++ ys) = SV.dns β xs ++ SV.dns β ys := by simp [dns_eq]
theorem dns_vs (β : List Nat) (vs : List Value) : SV.dns β (vs.map .v) = vs := by simp [dns_eq, SV.dn, Function.comp_def]
theorem xcall {all rest : List Oper} {o : Oper} {fo : Operand} {args : Array Operand} {ts : Array TypeId} {f : FuncId} {xs ys : List SV} (S : St β u w a n l bx tl)
    (ho : o.op = .call ⟨.value fo, args, ts⟩) (hg : guardV all [] l o = some ([], l, true, True)) (hd : dOk n o.dst = true) (hx : evos l args.toList = some xs) (hf : calleeV l fo xs = some (f, ys)) (he : Enters P f)
    {Post : Value → World → Prop} (hc : Calls P f (SV.dns β ys).toArray w fun e w' => ∃ v, e = .returned v ∧ Post v w')
    (hk : ∀ v w', Post v w' → PQ P R (.r all rest :: k) .normal (a.put o.dst v) w') : PQ P R (.r all (o :: rest) :: k) .normal a w := by
  simp only [PQ, Exit.then]
  unfold wpList
  rw [if_pos (guardV_ok S.env hg trivial).2]
  refine .inl ?_
  have hargs : args.map a.eval = (SV.dns β xs).toArray := by apply Array.ext'; simpa using (evos_ok S.env hx).1
  have hrun : (execOp a.eval o).run P w = .ok (.enter f (SV.dns β ys).toArray) w := by
    unfold calleeV at hf
    split at hf
    · rename_i f' cap hfo
      cases hf
      have e := (evo_ok S.env hfo).1
      simp only [execOp, ho, resolve, hargs, e, SV.dn, Deferred.ofValue, Sem.run_bind, Sem.run_pure, Result.andThen_ok, invoke]
      rw [show (([] : List Value).toArray ++ (SV.dns β xs).toArray : Array Value) ++ cap.toArray = (SV.dns β (xs ++ cap.map .v)).toArray by simp [dns_app', dns_vs]]
      exact run_callFunc he _ w
    · rename_i f' cap hfo
      cases hf
      have e := (evo_ok S.env hfo).1
      simp only [execOp, ho, resolve, hargs, e, SV.dn, SV.dns, Deferred.ofValue, Sem.run_bind, Sem.run_pure, Result.andThen_ok, invoke]
      rw [show (([] : List Value).toArray ++ (SV.dns β xs).toArray : Array Value) ++ (SV.dns β cap).toArray = (SV.dns β (xs ++ cap)).toArray by simp [dns_app']]
      exact run_callFunc he _ w
    · cases hf
  unfold Oper.wp
  rw [hrun]
  refine hc.mono fun e w' ⟨v, hv, hp⟩ => ?_
  subst hv
  exact hk v w' hp
theorem St.put {w' : World} {tl' : List Hp} {d : Option Nat} {v : Value} (S : St β u w a n l bx tl) (H : SH u w' (bhs β bx ++ tl')) (hd : dOk n d = true) : St β u w' (a.put d v) n (putl l d (.v v)) bx tl' :=
  ⟨putl_ok (x := .v v) S.env hd trivial, H, S.wb⟩

/-! ### the list of heaps -/
theorem SH.perm {L L' : List Hp} (H : SH u w L) (h : L.Perm L') : SH u w L' :=
  ⟨H.os, H.tape, H.output, H.size, fun m hm => H.has m (h.mem_iff.2 hm), h.pairwise H.apart (fun {a b} hab c => (hab c).symm)⟩
theorem SH.sub {L L' : List Hp} (H : SH u w L) (h : L'.Sublist L) : SH u w L' :=
  ⟨H.os, H.tape, H.output, H.size, fun m hm => H.has m (h.subset hm), H.apart.sublist h⟩
theorem St.tl' (S : St β u w a n l bx tl) : SH u w tl := S.sh.sub (List.sublist_append_right _ _)
theorem St.drop {l' : EL} (S : St β u w a n l bx tl) (h : ∀ t x, lk l' t = some x → lk l t = some x) (h' : ∀ p ∈ l', SV.wf β.length p.2) : St β u w a n l' bx tl :=
  ⟨⟨S.env.defers, S.env.size, fun t x hx => S.env.at_ t x (h t x hx), h'⟩, S.sh, S.wb⟩
/-- keep these slots alone -/
def pick1 (l : EL) : List Nat → Option EL
  | [] => some []
  | t :: r => match lk l t with
    | some x => match pick1 l r with
      | some l' => nfV x fun x' => some ((t, x') :: l')
      | none => none
    | none => none
theorem pick1_ok : ∀ {ts : List Nat} {l' : EL}, pick1 l ts = some l' → (∀ t x, lk l' t = some x → lk l t = some x) ∧ ∀ p ∈ l', p ∈ l
  | [], l', h => by
    cases h
    exact ⟨fun t x h => (by cases h), fun p h => (by cases h)⟩
  | t :: r, l', h => by
    simp only [pick1] at h
    split at h
    · rename_i x hx
      split at h
      · rename_i l2 h2
        rw [nfV_eq] at h
        cases h
        obtain ⟨h3, h4⟩ := pick1_ok h2
        refine ⟨fun t' y hy => ?_, fun p hp => ?_⟩
        · rcases lk_cons hy with ⟨rfl, rfl⟩ | ⟨_, hy⟩
          · exact hx
          · exact h3 t' y hy
        · rcases List.mem_cons.1 hp with rfl | hp
          · exact lk_mem hx
          · exact h4 p hp
      · cases h
    · cases h
theorem St.keep (S : St β u w a n l bx tl) (ts : List Nat) {l' : EL} (h : pick1 l ts = some l') : St β u w a n l' bx tl :=
  S.drop (pick1_ok h).1 fun p hp => S.env.wf p ((pick1_ok h).2 p hp)

/-! ### loops -/
theorem xloop {D : Type} {body : Code} (I : D → Act → World → Prop) (μ : D → Nat) (d : D) (h0 : I d a w)
    (hr : ∀ d a w, I d a w → PQ P R (.c body :: .j (fun a' w' => ∃ d', I d' a' w' ∧ μ d' < μ d) :: k) .normal a w) : PQ P R (.c (.loop body) :: k) .normal a w := by
  simp only [PQ, Exit.then] at hr ⊢
  intro b kk cs
  have key : ∀ m d a w, μ d = m → I d a w → ∃ e a' w', PQ P R k e a' w' ∧ Arrives P (lone (b.at a (.code body :: .inLoop body :: kk)) cs w) b kk cs e a' w' := by
    intro m
    induction m using Nat.strongRecOn with
    | _ m ih =>
      intro d a w hm hI
      obtain ⟨e, a₁, w₁, hq, harr⟩ := hr d a w hI b (.inLoop body :: kk) cs
      cases e with
      | normal =>
        obtain ⟨d', hI', hlt⟩ := hq
        obtain ⟨e₂, a₂, w₂, hq₂, harr₂⟩ := ih (μ d') (hm ▸ hlt) d' a₁ w₁ rfl hI'
        exact ⟨e₂, a₂, w₂, hq₂, .of_steps (Steps.trans harr (.one step_inLoop)) harr₂⟩
      | exit id => exact ⟨_, a₁, w₁, hq, .pass (x := .inLoop body) rfl (fun _ _ => .inl (by simp)) harr⟩
      | goto l => exact ⟨_, a₁, w₁, hq, .pass (x := .inLoop body) rfl (fun _ _ => .inl (by simp)) harr⟩
      | ret => exact ⟨_, a₁, w₁, hq, .pass (x := .inLoop body) rfl (fun _ _ => .inl (by simp)) harr⟩
      | panic ch => exact ⟨_, a₁, w₁, hq, .pass (x := .inLoop body) rfl (fun _ _ => .inl (by simp)) harr⟩
      | outgrown => exact ⟨_, a₁, w₁, hq, .pass (x := .inLoop body) rfl (fun _ _ => .inl (by simp)) harr⟩
  obtain ⟨e, a', w', hq, harr⟩ := key _ d a w rfl h0
  exact ⟨e, a', w', hq, .of_steps (.one step_loop) harr⟩
theorem xj {K : Act → World → Prop} (h : K a w) : PQ P R (.j K :: k) .normal a w := h
end
end Go.SX
