import Derived.Test.YtipgdmaagiijmaaTb
set_option maxRecDepth 100000
set_option linter.unusedVariables false
set_option linter.unusedSectionVars false
namespace Go.SX
open Go.Proofs

theorem RdV.one {L : List Hp} {ad : Addr} {v : Value} (h : Cell L ad v) : RdV L ad [v] := by
  intro j x hx
  cases j with
  | zero => cases hx; simpa [Addr.add] using h
  | succ j => cases hx
theorem RdV.one' {L : List Hp} {ad ad' : Addr} {v : Value} (h : Cell L ad v) (e : ad' = ad) : RdV L ad' [v] := e ▸ RdV.one h
theorem add_mul_one (ad : Addr) (i : Nat) : ad.add (i * 1) = ad.add i := by rw [Nat.mul_one]
theorem wrap_nat (j : Nat) (h : j ≤ 255) : IntKind.i64.wrap (j : Int) = j := wrap_inR (by simp only [inR]; omega)
theorem and255 (x : Int) : 0 ≤ bits2 .and .i64 x 255 ∧ bits2 .and .i64 x 255 ≤ 255 := by
  have h : (BitVec.ofInt 64 x &&& 255#64).toNat ≤ 255 := by
    rw [BitVec.toNat_and]
    exact Nat.and_le_right
  have e : bits2 .and .i64 x 255 = (((BitVec.ofInt 64 x &&& 255#64).toNat : Nat) : Int) := by
    show IntKind.i64.wrap _ = _
    exact wrap_nat _ h
  rw [e]
  omega
theorem inR_wrap (x : Int) : inR .i64 (IntKind.i64.wrap x) := by
  simp only [inR, IntKind.wrap, IntKind.bits, IntKind.signed]
  simp
  split <;> omega
/-! ### the draw's cursor -/
def Byt (L : List Hp) (A : Option Addr) (n : Nat) : Prop := n ≤ 9223372036854775806 ∧ ∀ j < n, ∃ ad y, A = some ad ∧ 0 ≤ y ∧ y ≤ 255 ∧ Cell L (ad.add j) (.int .u8 y)
def Cur (B : List Hp) (b : Nat) (M : Hp) : Prop :=
  ∃ A n c i h, M = Hp.one b (.cells #[.slice A n c, .int .i64 i, .int .i64 h] 73 (0, 0)) ∧ inR .i64 h ∧ 0 ≤ i ∧ i ≤ n ∧ Byt B A n
/-- what a draw from the cursor does -/
def Drw (B : List Hp) (b : Nat) (u : World) (L : List Hp) (Q : Value → Prop) (v : Value) (w' : World) : Prop := ∃ M', Cur B b M' ∧ SH u w' (M' :: L) ∧ Q v
abbrev In (lo hi : Int) (v : Value) : Prop := ∃ x, v = .int .i64 x ∧ lo ≤ x ∧ x ≤ hi
section
variable {P : Program} {T : TT} (hT : TabOk P T) {R : Exit → Act → World → Prop} {β : List Nat} {bx : BL} {u w : World} {a : Act} {n b : Nat} {l : EL} {B L : List Hp} {M : Hp} {k : List TK} {all rest : List Oper} {o : Oper}
/-- a draw is called -/
theorem xD {fo : Operand} {args : Array Operand} {ts : Array TypeId} {f : FuncId} {xs ys : List SV} {Q : Value → Prop} (S : St β u w a n l bx (M :: L))
    (ho : o.op = .call ⟨.value fo, args, ts⟩) (hg : guardV all [] l o = some ([], l, true, True)) {d : Nat} (hdst : o.dst = some d) (hd : dOk n (some d) = true) (hx : evos l args.toList = some xs) (hf : calleeV l fo xs = some (f, ys)) (he : Enters P f) (hs : B ⊆ L)
    (hc : SH u w (M :: (bhs β bx ++ L)) → B ⊆ bhs β bx ++ L → Ret P f (SV.dns β ys) w (Drw B b u (bhs β bx ++ L) Q))
    (hk : ∀ M' v a' w', Cur B b M' → Q v → St β u w' a' n ((d, .v v) :: l) bx (M' :: L) → PQ P R (.r all rest :: k) .normal a' w') : PQ P R (.r all (o :: rest) :: k) .normal a w := by
  rw [← hdst] at hd
  refine xc S ho hg hd hx hf he (hc S.sh.front (List.subset_append_of_subset_right _ hs)) fun v w' ⟨M', hC, H, hQ⟩ => ?_
  exact hk M' v _ w' hC hQ (by have := S.put (v := v) H.back hd; rwa [hdst] at this ⊢)
/-- a call that leaves all as it was -/
def Pl (u : World) (L : List Hp) (Q : Value → Prop) (v : Value) (w' : World) : Prop := Q v ∧ SH u w' L
theorem xP {fo : Operand} {args : Array Operand} {ts : Array TypeId} {f : FuncId} {xs ys : List SV} {Q : Value → Prop} (S : St β u w a n l bx L)
    (ho : o.op = .call ⟨.value fo, args, ts⟩) (hg : guardV all [] l o = some ([], l, true, True)) {d : Nat} (hdst : o.dst = some d) (hd : dOk n (some d) = true) (hx : evos l args.toList = some xs) (hf : calleeV l fo xs = some (f, ys)) (he : Enters P f)
    (hc : SH u w (bhs β bx ++ L) → Ret P f (SV.dns β ys) w (Pl u (bhs β bx ++ L) Q))
    (hk : ∀ v a' w', Q v → St β u w' a' n ((d, .v v) :: l) bx L → PQ P R (.r all rest :: k) .normal a' w') : PQ P R (.r all (o :: rest) :: k) .normal a w := by
  rw [← hdst] at hd
  refine xc S ho hg hd hx hf he (hc S.sh) fun v w' ⟨hQ, H⟩ => ?_
  exact hk v _ w' hQ (by have := S.put (v := v) H hd; rwa [hdst] at this ⊢)
end
variable {u w : World} {L B : List Hp} {b : Nat} {M : Hp}

theorem c55 (H : SH u w (M :: L)) (hC : Cur B b M) (hs : B ⊆ L) : Ret Try.prog 55 [.pointer (some ⟨b, 0, none⟩)] w (Drw B b u L (In 0 255)) := by
  obtain ⟨A, n, c, i, h, rfl, hh, hi0, hin, hB⟩ := hC
  refine entB Try.func55 rfl [b] [(0, 73, [.v (.slice A n c), .v (.int .i64 i), .v (.int .i64 h)])] (xs := [.p 0 0]) (tl := L) H 58 rfl [(0, .p 0 0)] rfl rfl (by simp [SV.wfs, SV.wf]) (by simp [SV.wfs, SV.wf]) fun a S => ?_
  by_cases hlt : i < n
  · obtain ⟨ad, y, rfl, hy0, hy1, hc⟩ := hB.2 i.toNat (by omega)
    have hn := hB.1
    refine xr hT S rfl false [.b true, .v [.int .u8 y]] 200 rfl ?_ fun β a w hβ hn S => ?_
    · (repeat' apply And.intro); all_goals first | exact True.intro | with_reducible assumption | decide +kernel | with_reducible exact Option.isSome_some | omega | with_reducible exact decide_eq_true (by omega) | with_reducible exact decide_eq_false (by omega) | skip
      · exact RdV.one' (hc.mono hs) (add_mul_one _ _)
    have e : IntKind.i64.wrap (i + 1) = i + 1 := wrap_inR (by simp only [inR]; omega)
    have eb : β.getD 0 0 = b := pre_getD hβ (by simp)
    refine xret hT S rfl ⟨_, rfl, _, ⟨_, _, c, i + 1, _, rfl, inR_wrap (IntKind.i64.wrap (h * 6364136223846793005) + 1442695040888963407), by omega, by omega, hB⟩, ?_, _, rfl, (and255 _).1, (and255 _).2⟩
    rw [← e, ← eb]; exact S.sh
  · refine xr hT S rfl false [.b false] 200 rfl ?_ fun β a w hβ hn S => ?_
    · (repeat' apply And.intro); all_goals first | exact True.intro | with_reducible assumption | decide +kernel | with_reducible exact Option.isSome_some | omega | with_reducible exact decide_eq_true (by omega) | with_reducible exact decide_eq_false (by omega) | skip
    have eb : β.getD 0 0 = b := pre_getD hβ (by simp)
    refine xret hT S rfl ⟨_, rfl, _, ⟨_, _, c, _, _, rfl, inR_wrap (IntKind.i64.wrap (h * 6364136223846793005) + 1442695040888963407), hi0, hin, hB⟩, ?_, _, rfl, (and255 _).1, (and255 _).2⟩
    rw [← eb]; exact S.sh

theorem c29 {n : Int} (H : SH u w (M :: L)) (hC : Cur B b M) (hs : B ⊆ L) (hn : 0 < n) (hn' : n ≤ 4294967296) : Ret Try.prog 29 [.pointer (some ⟨b, 0, none⟩), .int .i64 n] w (Drw B b u L (In 0 (n - 1))) := by
  refine ent Try.func29 rfl H 37 rfl [(0, .v (.pointer (some ⟨b, 0, none⟩))), (1, .v (.int .i64 n))] rfl rfl fun a S => ?_
  have em : ∀ x : Int, 0 ≤ x → x % n = x.tmod n := fun x hx => (Int.tmod_eq_emod_of_nonneg hx).symm
  by_cases hlt : n ≤ 256
  · refine xr hT S rfl false [.b false, .b true] 200 rfl ?_ fun β a w hβ hn S => ?_
    · (repeat' apply And.intro); all_goals first | exact True.intro | with_reducible assumption | decide +kernel | with_reducible exact Option.isSome_some | omega | with_reducible exact decide_eq_true (by omega) | with_reducible exact decide_eq_false (by omega) | skip
    refine xD S rfl rfl rfl rfl rfl rfl en55 hs (fun H hs => c55 H hC hs) fun M v a w hC ⟨x, hv, hx0, hx1⟩ S => ?_
    subst hv
    refine xr hT S hn true [] 200 rfl ?_ fun β a w hβ hn S => ?_
    · (repeat' apply And.intro); all_goals first | exact True.intro | with_reducible assumption | decide +kernel | with_reducible exact Option.isSome_some | omega | with_reducible exact decide_eq_true (by omega) | with_reducible exact decide_eq_false (by omega) | skip
      all_goals trace_state
    refine xret hT S rfl ⟨_, rfl, _, hC, S.sh, _, rfl, ?_, ?_⟩
    · exact Int.emod_nonneg _ (by omega)
    · have := Int.emod_lt_of_pos x (show 0 < n by omega)
      omega
  · refine xr hT S rfl false [.b false, .b false] 200 rfl ?_ fun β a w hβ hn S => ?_
    · (repeat' apply And.intro); all_goals first | exact True.intro | with_reducible assumption | decide +kernel | with_reducible exact Option.isSome_some | omega | with_reducible exact decide_eq_true (by omega) | with_reducible exact decide_eq_false (by omega) | skip
    refine xD S rfl rfl rfl rfl rfl rfl en55 hs (fun H hs => c55 H hC hs) fun M v a w hC ⟨x, hv, hx0, hx1⟩ S => ?_
    subst hv
    refine xr hT S hn true [] 200 rfl (by (repeat' apply And.intro); all_goals first | exact True.intro | with_reducible assumption | decide +kernel | with_reducible exact Option.isSome_some | omega | with_reducible exact decide_eq_true (by omega) | with_reducible exact decide_eq_false (by omega) | skip) fun β a w hβ hn S => ?_
    refine xD S rfl rfl rfl rfl rfl rfl en55 hs (fun H hs => c55 H hC hs) fun M v a w hC ⟨y, hv, hy0, hy1⟩ S => ?_
    subst hv
    refine xr hT S hn true [] 200 rfl (by (repeat' apply And.intro); all_goals first | exact True.intro | with_reducible assumption | decide +kernel | with_reducible exact Option.isSome_some | omega | with_reducible exact decide_eq_true (by omega) | with_reducible exact decide_eq_false (by omega) | skip) fun β a w hβ hn S => ?_
    refine xD S rfl rfl rfl rfl rfl rfl en55 hs (fun H hs => c55 H hC hs) fun M v a w hC ⟨z, hv, hz0, hz1⟩ S => ?_
    subst hv
    refine xr hT S hn true [] 200 rfl (by (repeat' apply And.intro); all_goals first | exact True.intro | with_reducible assumption | decide +kernel | with_reducible exact Option.isSome_some | omega | with_reducible exact decide_eq_true (by omega) | with_reducible exact decide_eq_false (by omega) | skip) fun β a w hβ hn S => ?_
    refine xD S rfl rfl rfl rfl rfl rfl en55 hs (fun H hs => c55 H hC hs) fun M v a w hC ⟨t, hv, ht0, ht1⟩ S => ?_
    subst hv
    refine xr hT S hn true [] 200 rfl ?_ fun β a w hβ hn S => ?_
    · (repeat' apply And.intro); all_goals first | exact True.intro | with_reducible assumption | decide +kernel | with_reducible exact Option.isSome_some | omega | with_reducible exact decide_eq_true (by omega) | with_reducible exact decide_eq_false (by omega) | skip
      all_goals trace_state
    refine xret hT S rfl ⟨_, rfl, _, hC, S.sh, _, rfl, ?_, ?_⟩
    · exact Int.emod_nonneg _ (by omega)
    · have := Int.emod_lt_of_pos (x * 16777216 + y * 65536 + z * 256 + t) (show 0 < n by omega)
      omega
end Go.SX
