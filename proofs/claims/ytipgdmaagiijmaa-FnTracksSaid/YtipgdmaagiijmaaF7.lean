import Derived.Test.YtipgdmaagiijmaaF6
set_option maxRecDepth 100000
set_option linter.unusedVariables false
set_option linter.unusedSectionVars false
namespace Go.SX
open Go.Proofs
theorem dn_pre : ∀ (r β : List Nat) (x : SV), SV.wf β.length x → SV.dn (β ++ r) x = SV.dn β x
  | [], β, x, _ => by rw [List.append_nil]
  | b :: r, β, x, h => by
    rw [show β ++ b :: r = (β ++ [b]) ++ r by simp, dn_pre r (β ++ [b]) x (by rw [List.length_append, List.length_singleton]; exact wf_mono _ h), dn_app β b x h]
section
variable {β : List Nat} {u w : World} {a : Act} {n : Nat} {l : EL} {bx : BL} {tl : List Hp}
/-- the boxes that nothing names any more are forgotten -/
theorem St.cut (S : St β u w a n l bx tl) (k : Nat) (hk : k ≤ β.length) (hl : SV.wfs k (l.map (·.2))) (hb : ∀ e ∈ bx, e.1 < k ∧ SV.wfs k e.2.2) : ∃ β', β'.length = k ∧ St β' u w a n l bx tl := by
  have hlen : (β.take k).length = k := by simp; omega
  have hap : β.take k ++ β.drop k = β := List.take_append_drop k β
  refine ⟨β.take k, hlen, ⟨S.env.defers, S.env.size, fun t x hx => ?_, fun p hp => ?_⟩, ?_, ?_⟩
  · rw [← dn_pre (β.drop k) (β.take k) x (by rw [hlen]; exact (wfs_iff _ _).1 hl _ (List.mem_map.2 ⟨(t, x), lk_mem hx, rfl⟩)), hap]
    exact S.env.at_ t x hx
  · rw [hlen]
    exact (wfs_iff _ _).1 hl _ (List.mem_map.2 ⟨p, hp, rfl⟩)
  · have := bhs_pre (bx := bx) (β.drop k) (β.take k) (by rw [hlen]; exact hb)
    rw [hap] at this
    rw [← this]
    exact S.sh
  · rw [hlen]; exact hb
end
variable {u w : World} {L B : List Hp} {b : Nat} {M : Hp}
structure Md where
  pr : Nat
  pi : Nat
  gr : Nat
  gi : Nat
def Md.ok (m : Md) : Prop := ModeOk m.pr m.pi m.gr m.gi
def Md.cells (m : Md) : List Value := [.complex .f32 m.pr m.pi, .complex .f32 m.gr m.gi]
def Bod (Mr : Hp) (A : Option Addr) (n c : Nat) (ms : List Md) : Prop := ms.length = n ∧ (∀ m ∈ ms, m.ok) ∧ Own Mr 98 2 (.slice A n c) n (ms.flatMap Md.cells)
def I31 (u : World) (L B : List Hp) (b : Nat) (most : Int) (d : Nat) (a : Act) (w : World) : Prop := ∃ β M Mr A n c ms, β.length = 2 ∧ Cur B b M ∧ Bod Mr A n c ms ∧ (n : Int) + d ≤ most ∧
  St β u w a 28 [(0, .v (.pointer (some ⟨b, 0, none⟩))), (4, .p 0 0), (5, .p 1 0), (6, .v (.int .i64 d))] [(1, 69, [.v (.slice A n c)]), (0, 69, [.v (.slice none 0 0)])] (M :: Mr :: L)
theorem c31 {most : Int} (H : SH u w (M :: L)) (hC : Cur B b M) (hs : B ⊆ L) (h0 : 0 ≤ most) (h1 : most ≤ 100) : Ret Try.prog 31 [.pointer (some ⟨b, 0, none⟩), .int .i64 most] w
    fun v w' => ∃ M Mr A n c ms, v = .agg #[.slice A n c] ∧ Cur B b M ∧ Bod Mr A n c ms ∧ (n : Int) ≤ most ∧ SH u w' (M :: Mr :: L) := by
  refine ent Try.func31 rfl H 28 rfl [(0, .v (.pointer (some ⟨b, 0, none⟩))), (1, .v (.int .i64 most))] rfl rfl fun a S => ?_
  refine xr hT S rfl true [] 200 rfl (by (repeat' apply And.intro); all_goals first | exact True.intro | with_reducible assumption | decide +kernel | with_reducible exact Option.isSome_some | omega | with_reducible exact decide_eq_true (by omega) | with_reducible exact decide_eq_false (by omega) | with_reducible exact beq_iff_eq.2 (by omega) | with_reducible exact beq_eq_false_iff_ne.2 (by omega) | skip) fun β a w hβ hn S => ?_
  refine xD S rfl rfl rfl rfl rfl rfl en29 hs (fun H hs => c29 (n := most + 1) H hC hs (by omega) (by omega)) fun M v a w hC ⟨x, hv, hx0, hx1⟩ S => ?_
  subst hv
  obtain ⟨x, rfl⟩ := Int.eq_ofNat_of_zero_le hx0
  refine xr hT S hn true [] 200 rfl (by (repeat' apply And.intro); all_goals first | exact True.intro | with_reducible assumption | decide +kernel | with_reducible exact Option.isSome_some | omega | with_reducible exact decide_eq_true (by omega) | with_reducible exact decide_eq_false (by omega) | with_reducible exact beq_iff_eq.2 (by omega) | with_reducible exact beq_eq_false_iff_ne.2 (by omega) | skip) fun β a w hβ hn S => ?_
  refine xloop (I31 u L B b most) id x ⟨β, M, Hp.emp, none, 0, 0, [], hn, hC, ⟨rfl, by simp, Own.nil 98 2⟩, by simp; omega, (S.keep [0, 4, 5, 6] rfl).emp.perm (List.Perm.swap _ _ _)⟩ fun d a w ⟨β, M, Mr, A, n, c, ms, hn, hC, hB, hd, S⟩ => ?_
  have hs2 : B ⊆ Mr :: L := List.subset_cons_of_subset _ hs
  by_cases hd0 : d = 0
  · refine xr hT S hn true [.b false] 200 rfl (by (repeat' apply And.intro); all_goals first | exact True.intro | with_reducible assumption | decide +kernel | with_reducible exact Option.isSome_some | omega | with_reducible exact decide_eq_true (by omega) | with_reducible exact decide_eq_false (by omega) | with_reducible exact beq_iff_eq.2 (by omega) | with_reducible exact beq_eq_false_iff_ne.2 (by omega) | skip) fun β a w hβ hn S => ?_
    exact xret hT S rfl ⟨_, rfl, M, Mr, A, n, c, ms, rfl, hC, hB, by omega, S.tl'⟩
  · refine xr hT S hn true [.b true] 200 rfl (by (repeat' apply And.intro); all_goals first | exact True.intro | with_reducible assumption | decide +kernel | with_reducible exact Option.isSome_some | omega | with_reducible exact decide_eq_true (by omega) | with_reducible exact decide_eq_false (by omega) | with_reducible exact beq_iff_eq.2 (by omega) | with_reducible exact beq_eq_false_iff_ne.2 (by omega) | skip) fun β a w hβ hn S => ?_
    refine xD S rfl rfl rfl rfl rfl rfl en56 hs2 (fun H hs => c56 H hC hs) fun M v a w hC ⟨pr, pi, gr, gi, hv, hl⟩ S => ?_
    subst hv
    refine xr hT S hn true [] 200 rfl (by (repeat' apply And.intro); all_goals first | exact True.intro | with_reducible assumption | decide +kernel | with_reducible exact Option.isSome_some | omega | with_reducible exact decide_eq_true (by omega) | with_reducible exact decide_eq_false (by omega) | with_reducible exact beq_iff_eq.2 (by omega) | with_reducible exact beq_eq_false_iff_ne.2 (by omega) | skip) fun β a w hβ hn S => ?_
    refine xP S rfl rfl rfl rfl rfl rfl en57 (fun H => c57 H hl.1.1 hl.1.2 hl.2.1 hl.2.2) fun v a w ⟨ok, hv, hok⟩ S => ?_
    subst hv
    have ed : ((d : Int) - 1) = ((d - 1 : Nat) : Int) := by omega
    cases ok
    · refine xr hT S hn true [.b false] 200 rfl (by (repeat' apply And.intro); all_goals first | exact True.intro | with_reducible assumption | decide +kernel | with_reducible exact Option.isSome_some | omega | with_reducible exact decide_eq_true (by omega) | with_reducible exact decide_eq_false (by omega) | with_reducible exact beq_iff_eq.2 (by omega) | with_reducible exact beq_eq_false_iff_ne.2 (by omega) | skip) fun β a w hβ hn S => ?_
      rw [ed] at S
      obtain ⟨β, hn, S⟩ := (S.keep [0, 4, 5, 6] rfl).dropb.cut 2 (by rw [hn]; simp) (by simp [SV.wfs, SV.wf]) (by simp [SV.wfs, SV.wf])
      exact xj ⟨d - 1, ⟨β, M, Mr, A, n, c, ms, hn, hC, hB, by omega, S⟩, by simp only [id]; omega⟩
    · refine xr hT S hn true [.b true] 200 rfl (by (repeat' apply And.intro); all_goals first | exact True.intro | with_reducible assumption | decide +kernel | with_reducible exact Option.isSome_some | omega | with_reducible exact decide_eq_true (by omega) | with_reducible exact decide_eq_false (by omega) | with_reducible exact beq_iff_eq.2 (by omega) | with_reducible exact beq_eq_false_iff_ne.2 (by omega) | skip) fun β a w hβ hn S => ?_
      have S := S.perm (List.Perm.swap Mr M L)
      refine xapp hT S rfl rfl rfl rfl rfl rfl rfl rfl hB.2.2 rfl rfl (news := Md.cells ⟨pr, pi, gr, gi⟩) (S.boxCells (i := 3) (t := 98) (cs := [.v (.complex .f32 pr pi), .v (.complex .f32 gr gi)]) rfl) rfl (by simp [Md.cells, Value.oneCell']) (by show (n + 1) * 16 ≤ _; omega) (by simp only [maxLen]; omega) fun v' Mr a w hO S => ?_
      obtain ⟨A, c, rfl, _⟩ := hO.form
      have S := S.perm (List.Perm.swap M Mr L)
      have hB : Bod Mr A (n + 1) c (ms ++ [⟨pr, pi, gr, gi⟩]) := by
        refine ⟨by simp [hB.1], fun m hm => ?_, by simpa using hO⟩
        rcases List.mem_append.1 hm with hm | hm
        · exact hB.2.1 m hm
        · rw [List.mem_singleton.1 hm]; exact hok.1 rfl
      refine xr hT S hn true [] 200 rfl (by (repeat' apply And.intro); all_goals first | exact True.intro | with_reducible assumption | decide +kernel | with_reducible exact Option.isSome_some | omega | with_reducible exact decide_eq_true (by omega) | with_reducible exact decide_eq_false (by omega) | with_reducible exact beq_iff_eq.2 (by omega) | with_reducible exact beq_eq_false_iff_ne.2 (by omega) | skip) fun β a w hβ hn S => ?_
      rw [ed] at S
      obtain ⟨β, hn, S⟩ := (S.keep [0, 4, 5, 6] rfl).dropb.dropb.cut 2 (by rw [hn]; simp) (by simp [SV.wfs, SV.wf]) (by simp [SV.wfs, SV.wf])
      exact xj ⟨d - 1, ⟨β, M, Mr, A, n + 1, c, _, hn, hC, hB, by omega, S⟩, by simp only [id]; omega⟩
end Go.SX
