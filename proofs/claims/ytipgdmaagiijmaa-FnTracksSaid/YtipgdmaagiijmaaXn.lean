import Derived.Test.YtipgdmaagiijmaaXm
set_option linter.unusedVariables false
set_option linter.unusedSimpArgs false
set_option linter.unusedSectionVars false
namespace Go.SX
theorem read_nan {f : Ieee.Format} {x : Nat} (hb : f.binade ≤ f.infRung) (h : f.infRung < x % f.signWeight) : (f.read x).isNaN = true := by
  unfold Ieee.Format.read
  simp only
  rw [if_neg (by omega), if_neg (by omega), if_neg (by omega)]
  rfl
theorem cut_nan (k : FloatKind) (x y t : Nat) : (k.decode ((Question.nanBits k x y).cut t)).isNaN = true := by
  cases k
  · refine read_nan (by decide) ?_
    show 2139095040 < ((t % 2) * 2 ^ 31 + 0x7f800000 + 1 + (t / 2) % (2 ^ 23 - 1)) % 2147483648
    rcases Nat.mod_two_eq_zero_or_one t with h | h <;> rw [h] <;> omega
  · refine read_nan (by decide) ?_
    show 9218868437227405312 < ((t % 2) * 2 ^ 63 + 0x7ff0000000000000 + 1 + (t / 2) % (2 ^ 52 - 1)) % 9223372036854775808
    rcases Nat.mod_two_eq_zero_or_one t with h | h <;> rw [h] <;> omega
theorem cut_cnan (k : FloatKind) (x t : Nat) : (k.decode ((Question.nanConv k x).cut t)).isNaN = true := by
  cases k
  · refine read_nan (by decide) ?_
    show 2139095040 < ((t % 2) * 2 ^ 31 + 0x7f800000 + 1 + (t / 2) % (2 ^ 23 - 1)) % 2147483648
    rcases Nat.mod_two_eq_zero_or_one t with h | h <;> rw [h] <;> omega
  · refine read_nan (by decide) ?_
    show 9218868437227405312 < ((t % 2) * 2 ^ 63 + 0x7ff0000000000000 + 1 + (t / 2) % (2 ^ 52 - 1)) % 9223372036854775808
    rcases Nat.mod_two_eq_zero_or_one t with h | h <;> rw [h] <;> omega
theorem cut_nan_lt (k : FloatKind) (x y t : Nat) : (Question.nanBits k x y).cut t < 2 ^ k.format.width := by
  cases k
  · show (t % 2) * 2 ^ 31 + 0x7f800000 + 1 + (t / 2) % (2 ^ 23 - 1) < 2 ^ 32
    omega
  · show (t % 2) * 2 ^ 63 + 0x7ff0000000000000 + 1 + (t / 2) % (2 ^ 52 - 1) < 2 ^ 64
    omega
theorem cut_conv_lt (k : FloatKind) (x t : Nat) : (Question.nanConv k x).cut t < 2 ^ k.format.width := by
  cases k
  · show (t % 2) * 2 ^ 31 + 0x7f800000 + 1 + (t / 2) % (2 ^ 23 - 1) < 2 ^ 32
    omega
  · show (t % 2) * 2 ^ 63 + 0x7ff0000000000000 + 1 + (t / 2) % (2 ^ 52 - 1) < 2 ^ 64
    omega
theorem wf_lt {k : FloatKind} {r : Nat} (h : (Lit.float k r).wf = true) : r < 2 ^ k.format.width := by
  cases k
  · have : r < 2 ^ 32 := by simpa [Lit.wf] using h
    exact this
  · have : r < 2 ^ 64 := by simpa [Lit.wf] using h
    exact this
/-- a world that has drawn, maybe -/
def Drawn (w w' : World) : Prop := w' = w ∨ w' = { w with drawn := w.drawn + 1 }
theorem SH.drawn {u w w' : World} {L : List Hp} (H : SH u w L) (h : Drawn w w') : SH u w' L := by
  rcases h with rfl | rfl
  · exact H
  · exact H.draw
section
variable {P : Program} {w : World}
theorem float_any {op : BinOp} (ha : op = .add ∨ op = .sub ∨ op = .mul ∨ op = .quo) (t : TypeId) (k : FloatKind) (x y : Nat) :
    ∃ r w', (binOp op t (.float k x) (.float k y)).run P w = .ok (.float k r) w' ∧ Drawn w w' ∧ r < 2 ^ k.format.width ∧ (∀ r', floatBits op k x y = some r' → r = r') ∧ (floatBits op k x y = none → (k.decode r).isNaN = true) := by
  cases hf : floatBits op k x y with
  | some r => exact ⟨r, w, run_float_arith w op t k x y r hf, .inl rfl, wf_lt (floatBits_wf hf), (fun r' h => by cases h; rfl), fun h => by cases h⟩
  | none =>
    refine ⟨_, _, ?_, .inr rfl, cut_nan_lt k x y (w.tape w.drawn (.nanBits k x y)), (fun r' h => by cases h), fun _ => cut_nan k x y _⟩
    unfold floatBits at hf
    rcases ha with rfl | rfl | rfl | rfl <;> simp only at hf <;> simp [binOp, Op.floatArith, hf, run_choose, Question.forced]
theorem conv_any (sk k : FloatKind) (b : Nat) (hb : b < 2 ^ sk.format.width) :
    ∃ r w', (Conv.floatToFloat sk b k).run P w = .ok (.float k r) w' ∧ Drawn w w' ∧ r < 2 ^ k.format.width ∧ (∀ r', floatToFloatBits sk b k = some r' → r = r') ∧ (sk ≠ k → (sk.decode b).isNaN = true → (k.decode r).isNaN = true) := by
  unfold Conv.floatToFloat floatToFloatBits
  by_cases he : sk = k
  · subst he
    exact ⟨b, w, by simp, .inl rfl, hb, (fun r' h => by simpa using h), fun h => absurd rfl h⟩
  · simp only [if_neg he]
    cases hd : sk.decode b with
    | nan s f =>
      refine ⟨_, _, ?_, .inr rfl, cut_conv_lt k b (w.tape w.drawn (.nanConv k b)), fun r' h => (by cases h), fun _ _ => cut_cnan k b _⟩
      simp [run_choose, Question.forced]
    | infinity s =>
      exact ⟨_, w, rfl, .inl rfl, k.format.write_lt _, fun r' h => (by cases h; rfl), fun _ h => by cases h⟩
    | number s m e =>
      simp only
      by_cases hi : (k.decode (k.encode (.number s m e))).isInfinity = true
      · simp only [hi, if_true]
        refine ⟨(Question.floatToFloat b).cut (w.tape w.drawn (.floatToFloat b)), _, ?_, .inr rfl, ?_, fun r' h => (by cases h), fun _ h => by cases h⟩
        · simp [run_choose, Question.forced]
        · cases k
          · exact Nat.mod_lt _ (by decide)
          · have h1 : (Question.floatToFloat b).cut (w.tape w.drawn (.floatToFloat b)) < 2 ^ 32 := Nat.mod_lt _ (by decide)
            exact Nat.lt_trans h1 (by decide)
      · simp only [hi]
        exact ⟨_, w, rfl, .inl rfl, k.format.write_lt _, fun r' h => (by cases h; rfl), fun _ h => by cases h⟩
end
section
variable {P : Program} {T : TT} (hT : TabOk P T) {R : Exit → Act → World → Prop} {β : List Nat} {bx : BL} {u w : World} {a : Act} {n : Nat} {l : EL} {tl : List Hp} {k : List TK} {all rest : List Oper} {o : Oper}
theorem xval {d : Nat} {C : Value → Prop} (S : St β u w a n l bx tl) (hg : guardV all [] l o = some ([], l, true, True)) (hdst : o.dst = some d) (hd : dOk n (some d) = true)
    (h : ∃ v w', (execOp a.eval o).run P w = .ok (.value v) w' ∧ SH u w' (bhs β bx ++ tl) ∧ C v)
    (hk : ∀ v a' w', C v → St β u w' a' n ((d, .v v) :: l) bx tl → PQ P R (.r all rest :: k) .normal a' w') : PQ P R (.r all (o :: rest) :: k) .normal a w := by
  simp only [PQ, Exit.then]
  unfold wpList
  rw [if_pos (guardV_ok S.env hg trivial).2]
  refine .inl ?_
  obtain ⟨v, w', hr, H, hC⟩ := h
  unfold Oper.wp
  rw [hr]
  have hd' : dOk n o.dst = true := by rw [hdst]; exact hd
  exact (hk v _ w' hC (by have := S.put (v := v) H hd'; rwa [hdst] at this ⊢))
/-- a float operation, whatever comes of it -/
theorem xfl {d : Nat} {op : BinOp} {t t' : TypeId} {x y : Operand} {fk : FloatKind} {p q : Nat} (S : St β u w a n l bx tl) (ho : o.op = .binOp op t x y t') (hg : guardV all [] l o = some ([], l, true, True)) (hdst : o.dst = some d) (hd : dOk n (some d) = true)
    (hx : evo l x = some (.v (.float fk p))) (hy : evo l y = some (.v (.float fk q))) (ha : op = .add ∨ op = .sub ∨ op = .mul ∨ op = .quo)
    (hk : ∀ r a' w', r < 2 ^ fk.format.width → ((∀ r', floatBits op fk p q = some r' → r = r') ∧ (floatBits op fk p q = none → (fk.decode r).isNaN = true)) → St β u w' a' n ((d, .v (.float fk r)) :: l) bx tl → PQ P R (.r all rest :: k) .normal a' w') : PQ P R (.r all (o :: rest) :: k) .normal a w := by
  refine xval (C := fun v => ∃ r, v = .float fk r ∧ r < 2 ^ fk.format.width ∧ ((∀ r', floatBits op fk p q = some r' → r = r') ∧ (floatBits op fk p q = none → (fk.decode r).isNaN = true))) S hg hdst hd ?_ fun v a w ⟨r, hv, h1, h2⟩ S => by subst hv; exact hk r a w h1 h2 S
  obtain ⟨r, w', h1, h2, h3, h4⟩ := float_any (P := P) (w := w) ha t fk p q
  have e1 := (evo_ok S.env hx).1
  have e2 := (evo_ok S.env hy).1
  refine ⟨.float fk r, w', ?_, S.sh.drawn h2, r, rfl, h3, h4⟩
  simp only [execOp, ho, e1, e2, SV.dn]
  rw [Sem.run_bind, Sem.run_bind, eqGuard_plain _ _ _ _ trivial]
  simp only [Result.andThen_ok, h1, Sem.run_pure]
/-- a call of what has no body -/
theorem xe {fo : Operand} {args : Array Operand} {ts : Array TypeId} {f : FuncId} {xs ys : List SV} {d : Nat} {v : Value} (S : St β u w a n l bx tl)
    (ho : o.op = .call ⟨.value fo, args, ts⟩) (hg : guardV all [] l o = some ([], l, true, True)) (hdst : o.dst = some d) (hd : dOk n (some d) = true) (hx : evos l args.toList = some xs) (hf : calleeV l fo xs = some (f, ys))
    (hr : ∀ w, (callFunc f (SV.dns β ys).toArray).run P w = .ok (.value v) w)
    (hk : ∀ a' w', St β u w' a' n ((d, .v v) :: l) bx tl → PQ P R (.r all rest :: k) .normal a' w') : PQ P R (.r all (o :: rest) :: k) .normal a w := by
  refine xval (C := fun v' => v' = v) S hg hdst hd ?_ fun v' a w hv S => by subst hv; exact hk a w S
  refine ⟨v, w, ?_, S.sh, rfl⟩
  have hargs : args.map a.eval = (SV.dns β xs).toArray := by apply Array.ext'; simpa using (evos_ok S.env hx).1
  unfold calleeV at hf
  split at hf
  · rename_i f' cap hfo
    cases hf
    have e := (evo_ok S.env hfo).1
    simp only [execOp, ho, resolve, hargs, e, SV.dn, Deferred.ofValue, Sem.run_bind, Sem.run_pure, Result.andThen_ok, invoke]
    rw [show (([] : List Value).toArray ++ (SV.dns β xs).toArray : Array Value) ++ cap.toArray = (SV.dns β (xs ++ cap.map .v)).toArray by simp [dns_app', dns_vs]]
    exact hr w
  · rename_i f' cap hfo
    cases hf
    have e := (evo_ok S.env hfo).1
    simp only [execOp, ho, resolve, hargs, e, SV.dn, SV.dns, Deferred.ofValue, Sem.run_bind, Sem.run_pure, Result.andThen_ok, invoke]
    rw [show (([] : List Value).toArray ++ (SV.dns β xs).toArray : Array Value) ++ (SV.dns β cap).toArray = (SV.dns β (xs ++ cap)).toArray by simp [dns_app']]
    exact hr w
  · cases hf
include hT
/-- a conversion of floats, whatever comes of it -/
theorem xcf {d : Nat} {s e : TypeId} {x : Operand} {is ie : TInfo} {sk dk : FloatKind} {p : Nat} (S : St β u w a n l bx tl) (ho : o.op = .convert s e x) (hg : guardV all [] l o = some ([], l, true, True)) (hdst : o.dst = some d) (hd : dOk n (some d) = true)
    (hs : tk T s = some is) (he : tk T e = some ie) (hsd : is.desc = .float sk) (hed : ie.desc = .float dk) (hx : evo l x = some (.v (.float sk p))) (hp : p < 2 ^ sk.format.width)
    (hk : ∀ r a' w', r < 2 ^ dk.format.width → ((∀ r', floatToFloatBits sk p dk = some r' → r = r') ∧ (sk ≠ dk → (sk.decode p).isNaN = true → (dk.decode r).isNaN = true)) → St β u w' a' n ((d, .v (.float dk r)) :: l) bx tl → PQ P R (.r all rest :: k) .normal a' w') : PQ P R (.r all (o :: rest) :: k) .normal a w := by
  refine xval (C := fun v => ∃ r, v = .float dk r ∧ r < 2 ^ dk.format.width ∧ ((∀ r', floatToFloatBits sk p dk = some r' → r = r') ∧ (sk ≠ dk → (sk.decode p).isNaN = true → (dk.decode r).isNaN = true))) S hg hdst hd ?_ fun v a w ⟨r, hv, h1, h2⟩ S => by subst hv; exact hk r a w h1 h2 S
  obtain ⟨r, w', h1, h2, h3, h4⟩ := conv_any (P := P) (w := w) sk dk p hp
  have e1 := (evo_ok S.env hx).1
  have us := run_tk (w := w) hs hT
  have ud := run_tk (w := w) he hT
  refine ⟨.float dk r, w', ?_, S.sh.drawn h2, r, rfl, h3, h4⟩
  simp only [execOp, ho, e1, SV.dn]
  rw [Sem.run_bind]
  simp only [convert, Sem.run_bind, us, ud, Result.andThen_ok, hsd, hed, h1, Sem.run_pure]
/-- a conversion of complex numbers, whatever comes of it -/
theorem xcc {d : Nat} {s e : TypeId} {x : Operand} {is ie : TInfo} {sk dk : FloatKind} {p q : Nat} (S : St β u w a n l bx tl) (ho : o.op = .convert s e x) (hg : guardV all [] l o = some ([], l, true, True)) (hdst : o.dst = some d) (hd : dOk n (some d) = true)
    (hs : tk T s = some is) (he : tk T e = some ie) (hsd : is.desc = .complex sk) (hed : ie.desc = .complex dk) (hx : evo l x = some (.v (.complex sk p q))) (hp : p < 2 ^ sk.format.width) (hq : q < 2 ^ sk.format.width)
    (hk : ∀ r t a' w', r < 2 ^ dk.format.width → t < 2 ^ dk.format.width → ((∀ r', floatToFloatBits sk p dk = some r' → r = r') ∧ (sk ≠ dk → (sk.decode p).isNaN = true → (dk.decode r).isNaN = true)) → ((∀ r', floatToFloatBits sk q dk = some r' → t = r') ∧ (sk ≠ dk → (sk.decode q).isNaN = true → (dk.decode t).isNaN = true)) → St β u w' a' n ((d, .v (.complex dk r t)) :: l) bx tl → PQ P R (.r all rest :: k) .normal a' w') : PQ P R (.r all (o :: rest) :: k) .normal a w := by
  refine xval (C := fun v => ∃ r t, v = .complex dk r t ∧ r < 2 ^ dk.format.width ∧ t < 2 ^ dk.format.width ∧ ((∀ r', floatToFloatBits sk p dk = some r' → r = r') ∧ (sk ≠ dk → (sk.decode p).isNaN = true → (dk.decode r).isNaN = true)) ∧ ((∀ r', floatToFloatBits sk q dk = some r' → t = r') ∧ (sk ≠ dk → (sk.decode q).isNaN = true → (dk.decode t).isNaN = true))) S hg hdst hd ?_ fun v a w ⟨r, t, hv, h1, h2, h3, h4⟩ S => by subst hv; exact hk r t a w h1 h2 h3 h4 S
  obtain ⟨r, w1, h1, h2, h3, h4⟩ := conv_any (P := P) (w := w) sk dk p hp
  obtain ⟨t, w2, g1, g2, g3, g4⟩ := conv_any (P := P) (w := w1) sk dk q hq
  have e1 := (evo_ok S.env hx).1
  have us := run_tk (w := w) hs hT
  have ud := run_tk (w := w) he hT
  refine ⟨.complex dk r t, w2, ?_, (S.sh.drawn h2).drawn g2, r, t, rfl, h3, g3, h4, g4⟩
  simp only [execOp, ho, e1, SV.dn]
  rw [Sem.run_bind]
  simp only [convert, Sem.run_bind, us, ud, Result.andThen_ok, hsd, hed, Conv.complexToComplex, h1, g1, Sem.run_pure]

omit hT in
/-- what stands behind a statement is shown once -/
theorem xcut {c : Code} (J : Act → World → Prop) (h1 : PQ P R (.c c :: .j J :: k) .normal a w) (h2 : ∀ a w, J a w → PQ P R k .normal a w) : PQ P R (.c c :: k) .normal a w := by
  simp only [PQ, Exit.then] at h1 ⊢
  refine Code.wp_mono (fun e a w q => ?_) h1
  cases e <;> first | exact h2 _ _ q | exact q
/-! ### the run, halting ahead of some operations -/
def haltsAt (p : Op → Bool) : List TK → Bool
  | .r _ (o :: _) :: _ => p o.op
  | _ => false
def runS (p : Op → Bool) (T : TT) (ch : Bool) (n : Nat) (tl : List Hp) : Nat → List Dn → List TK → EL → BL → Nat → List Prop → RO
  | 0, _, k, l, bx, nx, cs => ⟨k, l, bx, nx, cs⟩
  | f + 1, ds, k, l, bx, nx, cs => match haltsAt p k with
    | true => ⟨k, l, bx, nx, cs⟩
    | false => match step1 T ch n tl ds k l bx nx with
      | none => ⟨k, l, bx, nx, cs⟩
      | some (ds', k', l', bx', nx', c) => addK c cs fun cs' => runS p T ch n tl f ds' k' l' bx' nx' cs'
omit hT in
theorem runS_cs {p ch n tl} : ∀ {f : Nat} {ds : List Dn} {k : List TK} {l : EL} {bx : BL} {nx : Nat} {cs : List Prop} {r : RO},
    runS p T ch n tl f ds k l bx nx cs = r → allP r.cs → allP cs
  | 0, ds, k, l, bx, nx, cs, r, h, hc => by subst h; exact hc
  | f + 1, ds, k, l, bx, nx, cs, r, h, hc => by
    simp only [runS] at h
    split at h
    · subst h; exact hc
    · split at h
      · subst h; exact hc
      · rw [addK_eq] at h; exact (allP_add.1 (runS_cs h hc)).2
theorem runS_ok {p ch n tl} {u : World} : ∀ {f : Nat} {ds : List Dn} {k : List TK} {l : EL} {bx : BL} {nx : Nat} {cs : List Prop} {r : RO} {β : List Nat} {w : World} {a : Act}, St β u w a n l bx tl → β.length = nx →
    runS p T ch n tl f ds k l bx nx cs = r → allP r.cs →
    (∀ β' a' w', β <+: β' → β'.length = r.nx → St β' u w' a' n r.l r.bx tl → PQ P R r.k .normal a' w') → PQ P R k .normal a w
  | 0, ds, k, l, bx, nx, cs, r, β, w, a, S, hn, h, hc, hk => by
    subst h
    exact hk β a w (List.prefix_refl _) hn S
  | f + 1, ds, k, l, bx, nx, cs, r, β, w, a, S, hn, h, hc, hk => by
    simp only [runS] at h
    split at h
    · subst h
      exact hk β a w (List.prefix_refl _) hn S
    · split at h
      · subst h
        exact hk β a w (List.prefix_refl _) hn S
      · rename_i ds2 k2 l2 bx2 nx2 c2 h1
        rw [addK_eq] at h
        have h2 := allP_add.1 (runS_cs h hc)
        exact step1_ok hT S hn h1 h2.1 fun β' a' w' hp hn' S' => runS_ok S' hn' h hc fun β2 a2 w2 hp2 => hk β2 a2 w2 (hp.trans hp2)
/-- run as far as it goes, or up to an operation that p tells -/
theorem xs {n : Nat} {tl : List Hp} {u w : World} {β : List Nat} {a : Act} {l : EL} {bx : BL} {nx : Nat} {k : List TK} (p : Op → Bool) (S : St β u w a n l bx tl) (hn : β.length = nx) (ch : Bool) (ds : List Dn) (f : Nat)
    {k' l' bx' nx' cs'} (h : runS p T ch n tl f ds k l bx nx [] = ⟨k', l', bx', nx', cs'⟩) (hc : allP cs')
    (hk : ∀ β' a' w', β <+: β' → β'.length = nx' → St β' u w' a' n l' bx' tl → PQ P R k' .normal a' w') : PQ P R k .normal a w :=
  runS_ok hT S hn h hc hk
/-- arithmetic of floats at these types, and conversions from one to the other -/
def pF : Op → Bool
  | .binOp .add 87 _ _ _ | .binOp .sub 87 _ _ _ | .binOp .mul 87 _ _ _ | .binOp .quo 87 _ _ _ => true
  | .binOp .add 23 _ _ _ | .binOp .sub 23 _ _ _ | .binOp .mul 23 _ _ _ | .binOp .quo 23 _ _ _ => true
  | .convert 87 23 _ => true
  | .convert 96 122 _ => true
  | _ => false
end
end Go.SX
