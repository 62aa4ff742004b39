import Derived.Test.YtipgdmaagiijmaaXl
set_option linter.unusedVariables false
set_option linter.unusedSimpArgs false
set_option linter.unusedSectionVars false
namespace Go.SX
/-- the call comes back, with a value and a world of which Q holds -/
def Ret (P : Program) (f : FuncId) (vs : List Value) (w : World) (Q : Value → World → Prop) : Prop :=
  Calls P f vs.toArray w fun e w' => ∃ v, e = .returned v ∧ Q v w'
theorem Ret.mono {P : Program} {f : FuncId} {vs : List Value} {w : World} {Q Q' : Value → World → Prop} (h : Ret P f vs w Q) (hq : ∀ v w', Q v w' → Q' v w') : Ret P f vs w Q' :=
  Calls.mono h fun e w' ⟨v, he, hv⟩ => ⟨v, he, hq v w' hv⟩
section
variable {P : Program} {T : TT} (hT : TabOk P T) {R : Exit → Act → World → Prop} {β : List Nat} {bx : BL} {u w : World} {a : Act} {n : Nat} {l : EL} {tl : List Hp} {k : List TK} {all rest : List Oper} {o : Oper}

theorem ent {f : FuncId} {fn : Func} {c : Code} {vs : List Value} {Q : Value → World → Prop} (hf : P.funcs[f]? = some fn) (hb : fn.body = some c) (H : SH u w tl) (n : Nat) (hn : fn.ntmps = n) (l : EL) (hl : Nat.ble vs.length n = true) (hi : ins 0 (vs.map .v) = l)
    (h : ∀ a, St [] u w a n l [] tl → PQ P (bodyPost P fn fun e w' => ∃ v, e = .returned v ∧ Q v w') [.c c] .normal a w) : Ret P f vs w Q :=
  enter hf hb H hn hl hi h
/-- the same, boxes that came in being taken for one's own -/
theorem entB {f : FuncId} {fn : Func} {c : Code} {xs : List SV} {Q : Value → World → Prop} (hf : P.funcs[f]? = some fn) (hb : fn.body = some c) (β : List Nat) (bx : BL) (H : SH u w (bhs β bx ++ tl)) (n : Nat) (hn : fn.ntmps = n) (l : EL) (hl : Nat.ble xs.length n = true) (hi : ins 0 xs = l)
    (wb : ∀ e ∈ bx, e.1 < β.length ∧ SV.wfs β.length e.2.2) (wx : SV.wfs β.length xs)
    (h : ∀ a, St β u w a n l bx tl → PQ P (bodyPost P fn fun e w' => ∃ v, e = .returned v ∧ Q v w') [.c c] .normal a w) : Ret P f (SV.dns β xs) w Q := by
  subst hn
  subst hi
  have hl := Nat.le_of_ble_eq_true hl
  have hln : (SV.dns β xs).length = xs.length := by rw [dns_eq, List.length_map]
  refine calls_of_wp hf hb ?_
  refine h _ ⟨⟨rfl, by simp [hln]; omega, fun t x hx => ?_, fun p hp => ?_⟩, H, wb⟩
  · obtain ⟨_, h2⟩ := ins_at hx
    simp only [Nat.sub_zero] at h2
    have : t < xs.length := (List.getElem?_eq_some_iff.1 h2).1
    rw [Array.getElem?_append_left (by simpa [hln] using this)]
    simp [dns_eq, h2]
  · exact (wfs_iff _ _).1 wx _ (ins_mem hp)
theorem pre_getD {β β' : List Nat} (h : β <+: β') {i : Nat} (hi : i < β.length) : β'.getD i 0 = β.getD i 0 := by
  obtain ⟨t, rfl⟩ := h
  simp [List.getD_eq_getElem?_getD, List.getElem?_append_left hi]
/-- behind a call that has written our first box -/
theorem St.rebox {w' : World} {i t : Nat} {cs cs' : List SV} {d : Option Nat} {v : Value} (S : St β u w a n l ((i, t, cs) :: bx) tl) (H : SH u w' (Hp.one (β.getD i 0) (.cells (SV.dns β cs').toArray t (0, 0)) :: (bhs β bx ++ tl)))
    (hd : dOk n d = true) (hw : SV.wfs β.length cs') : St β u w' (a.put d v) n (putl l d (.v v)) ((i, t, cs') :: bx) tl :=
  ⟨putl_ok (x := .v v) S.env hd trivial, H, fun e he => by
    rcases List.mem_cons.1 he with rfl | he
    · exact ⟨(S.wb (i, t, cs) List.mem_cons_self).1, hw⟩
    · exact S.wb e (List.mem_cons_of_mem _ he)⟩
theorem xc {fo : Operand} {args : Array Operand} {ts : Array TypeId} {f : FuncId} {xs ys : List SV} (S : St β u w a n l bx tl)
    (ho : o.op = .call ⟨.value fo, args, ts⟩) (hg : guardV all [] l o = some ([], l, true, True)) (hd : dOk n o.dst = true) (hx : evos l args.toList = some xs) (hf : calleeV l fo xs = some (f, ys)) (he : Enters P f)
    {Q : Value → World → Prop} (hc : Ret P f (SV.dns β ys) w Q)
    (hk : ∀ v w', Q v w' → PQ P R (.r all rest :: k) .normal (a.put o.dst v) w') : PQ P R (.r all (o :: rest) :: k) .normal a w :=
  xcall S ho hg hd hx hf he hc hk
/-- behind a call: what it has made stands ahead of the rest -/
theorem St.ret {w' : World} {New : List Hp} {d : Option Nat} {v : Value} (S : St β u w a n l bx tl) (H : SH u w' (New ++ (bhs β bx ++ tl))) (hd : dOk n d = true) : St β u w' (a.put d v) n (putl l d (.v v)) bx (New ++ tl) :=
  S.put (H.perm (by rw [← List.append_assoc, ← List.append_assoc]; exact List.perm_append_comm.append_right _)) hd
include hT
/-- a drawing region: the first n0 operations are quiet, the others stand in one order -/
theorem xdr {id n0 : Nat} {ops : List Oper} (S : St β u w a n l bx tl) (hB : Region.lexTailB .any ⟨ops⟩ n0 = true)
    (h : Env β a n l → wpQuiet P ops.toArray (fun w => SH u w (bhs β bx ++ tl)) (fun a' => ∀ w', SH u w' (bhs β bx ++ tl) → PQ P R (.r ops (ops.drop n0) :: k) .normal a' w') (ops.take n0) a) :
    PQ P R (.c (.region id ⟨ops⟩ true) :: k) .normal a w := by
  simp only [PQ, Exit.then]
  refine wp_region_quiet_tail (C := fun w => SH u w (bhs β bx ++ tl)) n0 hT.mixed hB S.sh.draw ?_
  simpa only [PQ, Exit.then] using h S.env
/-- a drawing region, all quiet -/
theorem xda {id : Nat} {ops : List Oper} (S : St β u w a n l bx tl) (hB : Region.lexB .any ⟨ops⟩ = true)
    (h : Env β a n l → wpQuiet P ops.toArray (fun w => SH u w (bhs β bx ++ tl)) (fun a' => ∀ w', SH u w' (bhs β bx ++ tl) → PQ P R k .normal a' w') ops a) :
    PQ P R (.c (.region id ⟨ops⟩ true) :: k) .normal a w := by
  simp only [PQ, Exit.then]
  exact wp_region_quiet (C := fun w => SH u w (bhs β bx ++ tl)) hT.mixed hB S.sh.draw (h S.env)
theorem xqr {os : List Oper} {Q : Act → Prop} (S : St β u w a n l bx tl) (ch : Bool) (ds : List Dn) {a0 : Act} {l0 : EL} (E : Env β a0 n l0) {ds' l' rest' cs'}
    (h : qrun T ch n tl all bx ds os l0 [] = ⟨ds', l', rest', cs'⟩) (hc : allP cs')
    (hk : ∀ a', Env β a' n l' → wpQuiet P all.toArray (fun w => SH u w (bhs β bx ++ tl)) Q rest' a') : wpQuiet P all.toArray (fun w => SH u w (bhs β bx ++ tl)) Q os a0 :=
  qrun_ok hT S.sh S.wb E h hc hk
omit hT
theorem xqc {fo : Operand} {args : Array Operand} {ts : Array TypeId} {f : FuncId} {xs ys : List SV} {Q : Act → Prop} {C : World → Prop} {v : Value} (E : Env β a n l)
    (ho : o.op = .call ⟨.value fo, args, ts⟩) (hg : guardV all [] l o = some ([], l, true, True)) (hd : dOk n o.dst = true) (hx : evos l args.toList = some xs) (hf : calleeV l fo xs = some (f, ys)) (he : Enters P f)
    (hc : ∀ w, C w → Ret P f (SV.dns β ys) w fun v' w' => v' = v ∧ C w')
    (hk : ∀ a', Env β a' n (putl l o.dst (.v v)) → wpQuiet P all.toArray C Q rest a') : wpQuiet P all.toArray C Q (o :: rest) a := by
  unfold wpQuiet
  rw [if_pos (guardV_ok E hg trivial).2]
  have hargs : args.map a.eval = (SV.dns β xs).toArray := by apply Array.ext'; simpa using (evos_ok E hx).1
  have hrun : ∀ w, (execOp a.eval o).run P w = .ok (.enter f (SV.dns β ys).toArray) w := by
    intro w
    unfold calleeV at hf
    split at hf
    · rename_i f' cap hfo
      cases hf
      have e := (evo_ok E hfo).1
      simp only [execOp, ho, resolve, hargs, e, SV.dn, Deferred.ofValue, Sem.run_bind, Sem.run_pure, Result.andThen_ok, invoke]
      rw [show (([] : List Value).toArray ++ (SV.dns β xs).toArray : Array Value) ++ cap.toArray = (SV.dns β (xs ++ cap.map .v)).toArray by simp [dns_app', dns_vs]]
      exact run_callFunc he _ w
    · rename_i f' cap hfo
      cases hf
      have e := (evo_ok E hfo).1
      simp only [execOp, ho, resolve, hargs, e, SV.dn, SV.dns, Deferred.ofValue, Sem.run_bind, Sem.run_pure, Result.andThen_ok, invoke]
      rw [show (([] : List Value).toArray ++ (SV.dns β xs).toArray : Array Value) ++ (SV.dns β cap).toArray = (SV.dns β (xs ++ cap)).toArray by simp [dns_app']]
      exact run_callFunc he _ w
    · cases hf
  refine ⟨v, fun w hw => ?_, hk _ (putl_ok (x := .v v) E hd trivial)⟩
  unfold Oper.quietAt
  rw [hrun]
  exact ⟨rfl, Calls.mono (hc w hw) fun e w' ⟨v', he', hv', hw'⟩ => ⟨by rw [he', hv'], hw'⟩⟩
end
end Go.SX
