import Derived.Test.YtipgdmaagiijmaaF13
set_option maxRecDepth 100000
set_option linter.unusedVariables false
set_option linter.unusedSectionVars false
namespace Go.SX
open Go.Proofs
variable {u w : World} {L B : List Hp} {b : Nat} {M : Hp}

theorem c64 {m : Md} (H : SH u w L) (h : m.ok) : Ret Try.prog 64 [.agg m.cells.toArray] w (Pl u L fun v => v = .bool false) := by
  refine ent Try.func64 rfl H 6 rfl [(0, .v (.agg m.cells.toArray))] rfl rfl fun a S => ?_
  refine xr hT S rfl true [] 200 rfl (by (repeat' apply And.intro); all_goals first | exact True.intro | with_reducible assumption | decide +kernel | with_reducible exact Option.isSome_some | omega | with_reducible exact decide_eq_true (by omega) | with_reducible exact decide_eq_false (by omega) | with_reducible exact beq_iff_eq.2 (by omega) | with_reducible exact beq_eq_false_iff_ne.2 (by omega) | skip) fun β a w hβ hn S => ?_
  refine xP S rfl rfl rfl rfl rfl rfl en65 (fun H => c65 H h) fun v a w hv S => ?_
  subst hv
  refine xr hT S hn true [] 200 rfl (by (repeat' apply And.intro); all_goals first | exact True.intro | with_reducible assumption | decide +kernel | with_reducible exact Option.isSome_some | omega | with_reducible exact decide_eq_true (by omega) | with_reducible exact decide_eq_false (by omega) | with_reducible exact beq_iff_eq.2 (by omega) | with_reducible exact beq_eq_false_iff_ne.2 (by omega) | skip) fun β a w hβ hn S => ?_
  exact xret hT S rfl ⟨_, rfl, rfl, S.tl'⟩
theorem c92 {A : Option Addr} {n c f : Nat} {cap : List Value} {ms : List Md} (H : SH u w L) (hn : n ≤ 100) (hR : Rows L A n 2 (ms.flatMap Md.cells)) (hlen : ms.length = n) (he : Enters Try.prog f)
    (hf : ∀ e ∈ ms, ∀ w, SH u w L → Ret Try.prog f (.agg e.cells.toArray :: cap) w (Pl u L fun v => v = .bool false)) : Ret Try.prog 92 [.slice A n c, .func (.func f) #[] cap.toArray] w (Pl u L fun v => v = .int .i64 (-1)) := by
  refine ent Try.func92 rfl H 19 rfl [(0, .v (.slice A n c)), (1, .v (.func (.func f) #[] cap.toArray))] rfl rfl fun a S => ?_
  refine xr hT S rfl true [] 200 rfl (by (repeat' apply And.intro); all_goals first | exact True.intro | with_reducible assumption | decide +kernel | with_reducible exact Option.isSome_some | omega | with_reducible exact decide_eq_true (by omega) | with_reducible exact decide_eq_false (by omega) | with_reducible exact beq_iff_eq.2 (by omega) | with_reducible exact beq_eq_false_iff_ne.2 (by omega) | skip) fun β a w hβ hl S => ?_
  refine xloop (I66 u L A n c (.func (.func f) #[] cap.toArray)) id n ⟨β, hl, Nat.le_refl _, by rw [Nat.sub_self]; exact S.keep [0, 1, 7, 8] rfl⟩ fun d a w ⟨β, hl, hd, S⟩ => ?_
  by_cases hd0 : d = 0
  · subst hd0
    refine xr hT S hl true [.b false] 200 rfl (by (repeat' apply And.intro); all_goals first | exact True.intro | with_reducible assumption | decide +kernel | with_reducible exact Option.isSome_some | omega | with_reducible exact decide_eq_true (by omega) | with_reducible exact decide_eq_false (by omega) | with_reducible exact beq_iff_eq.2 (by omega) | with_reducible exact beq_eq_false_iff_ne.2 (by omega) | skip) fun β a w hβ hl S => ?_
    exact xret hT S rfl ⟨_, rfl, rfl, S.sh⟩
  · have hi : n - d < ms.length := by omega
    obtain ⟨ad, rfl⟩ := hR.2.1 (by omega)
    have hcells := hR.2.2 ad rfl
    refine xr hT S hl true [.b true, .v (ms[n - d]).cells] 200 rfl ?_ fun β a w hβ hl S => ?_
    · (repeat' apply And.intro); all_goals first | exact True.intro | with_reducible assumption | decide +kernel | with_reducible exact Option.isSome_some | omega | with_reducible exact decide_eq_true (by omega) | with_reducible exact decide_eq_false (by omega) | with_reducible exact beq_iff_eq.2 (by omega) | with_reducible exact beq_eq_false_iff_ne.2 (by omega) | skip
      show RdV L (ad.add (Int.toNat ((n - d : Nat) : Int) * 2)) _
      rw [Int.toNat_natCast]
      exact hcells.elem md_len hi
    refine xP S rfl rfl rfl rfl rfl rfl he (fun H => by
      rw [dns_app', dns_vs]
      exact hf _ (List.getElem_mem hi) _ H) fun v a w hv S => ?_
    subst hv
    refine xr hT S hl true [.b false] 200 rfl (by (repeat' apply And.intro); all_goals first | exact True.intro | with_reducible assumption | decide +kernel | with_reducible exact Option.isSome_some | omega | with_reducible exact decide_eq_true (by omega) | with_reducible exact decide_eq_false (by omega) | with_reducible exact beq_iff_eq.2 (by omega) | with_reducible exact beq_eq_false_iff_ne.2 (by omega) | skip) fun β a w hβ hl S => ?_
    have e : ((n - d : Nat) : Int) + 1 = ((n - (d - 1) : Nat) : Int) := by omega
    rw [e] at S
    exact xj ⟨d - 1, ⟨β, hl, by omega, S.keep [0, 1, 7, 8] rfl⟩, by simp only [id]; omega⟩
theorem c63 {A : Option Addr} {n c f : Nat} {cap : List Value} {ms : List Md} (H : SH u w L) (hn : n ≤ 100) (hR : Rows L A n 2 (ms.flatMap Md.cells)) (hlen : ms.length = n) (he : Enters Try.prog f)
    (hf : ∀ e ∈ ms, ∀ w, SH u w L → Ret Try.prog f (.agg e.cells.toArray :: cap) w (Pl u L fun v => v = .bool false)) : Ret Try.prog 63 [.slice A n c, .func (.func f) #[] cap.toArray] w (Pl u L fun v => v = .bool false) := by
  refine ent Try.func63 rfl H 9 rfl [(0, .v (.slice A n c)), (1, .v (.func (.func f) #[] cap.toArray))] rfl rfl fun a S => ?_
  refine xr hT S rfl true [] 200 rfl (by (repeat' apply And.intro); all_goals first | exact True.intro | with_reducible assumption | decide +kernel | with_reducible exact Option.isSome_some | omega | with_reducible exact decide_eq_true (by omega) | with_reducible exact decide_eq_false (by omega) | with_reducible exact beq_iff_eq.2 (by omega) | with_reducible exact beq_eq_false_iff_ne.2 (by omega) | skip) fun β a w hβ hl S => ?_
  refine xP S rfl rfl rfl rfl rfl rfl en92 (fun H => c92 H hn hR hlen he hf) fun v a w hv S => ?_
  subst hv
  refine xr hT S hl true [] 200 rfl (by (repeat' apply And.intro); all_goals first | exact True.intro | with_reducible assumption | decide +kernel | with_reducible exact Option.isSome_some | omega | with_reducible exact decide_eq_true (by omega) | with_reducible exact decide_eq_false (by omega) | with_reducible exact beq_iff_eq.2 (by omega) | with_reducible exact beq_eq_false_iff_ne.2 (by omega) | skip) fun β a w hβ hl S => ?_
  exact xret hT S rfl ⟨_, rfl, rfl, S.sh⟩
theorem c37 {v : Value} {ms : List Md} (H : SH u w L) (hv : RBod L v ms) (h : ms.length ≤ 16) (ho : ∀ m ∈ ms, m.ok) : Ret Try.prog 37 [.agg #[v]] w (Pl u L fun v => v = .bool true) := by
  obtain ⟨A, c, rfl, hR⟩ := hv
  refine ent Try.func37 rfl H 13 rfl [(0, .v (.agg #[.slice A ms.length c]))] rfl rfl fun a S => ?_
  refine xr hT S rfl true [.b true] 200 rfl (by (repeat' apply And.intro); all_goals first | exact True.intro | with_reducible assumption | decide +kernel | with_reducible exact Option.isSome_some | omega | with_reducible exact decide_eq_true (by omega) | with_reducible exact decide_eq_false (by omega) | with_reducible exact beq_iff_eq.2 (by omega) | with_reducible exact beq_eq_false_iff_ne.2 (by omega) | skip) fun β a w hβ hl S => ?_
  refine xP S rfl rfl rfl rfl rfl rfl en63 (fun H => c63 (f := 64) (cap := []) H (by omega) (hR.mono (List.subset_append_right _ _)) rfl en64 (fun m hm w H => c64 H (ho m hm))) fun v a w hv S => ?_
  subst hv
  refine xr hT S hl true [] 200 rfl (by (repeat' apply And.intro); all_goals first | exact True.intro | with_reducible assumption | decide +kernel | with_reducible exact Option.isSome_some | omega | with_reducible exact decide_eq_true (by omega) | with_reducible exact decide_eq_false (by omega) | with_reducible exact beq_iff_eq.2 (by omega) | with_reducible exact beq_eq_false_iff_ne.2 (by omega) | skip) fun β a w hβ hl S => ?_
  exact xret hT S rfl ⟨_, rfl, rfl, S.tl'⟩
theorem c36 {v : Value} {ms : List Md} (H : SH u w L) (hv : RBod L v ms) (h : ms.length ≤ 16) (ho : ∀ m ∈ ms, m.ok) : Ret Try.prog 36 [.agg #[v]] w (Pl u L fun v => v = .bool false) := by
  refine ent Try.func36 rfl H 6 rfl [(0, .v (.agg #[v]))] rfl rfl fun a S => ?_
  refine xr hT S rfl true [] 200 rfl (by (repeat' apply And.intro); all_goals first | exact True.intro | with_reducible assumption | decide +kernel | with_reducible exact Option.isSome_some | omega | with_reducible exact decide_eq_true (by omega) | with_reducible exact decide_eq_false (by omega) | with_reducible exact beq_iff_eq.2 (by omega) | with_reducible exact beq_eq_false_iff_ne.2 (by omega) | skip) fun β a w hβ hl S => ?_
  refine xP S rfl rfl rfl rfl rfl rfl en37 (fun H => c37 H (hv.mono (List.subset_append_right _ _)) h ho) fun v a w hv S => ?_
  subst hv
  refine xr hT S hl true [] 200 rfl (by (repeat' apply And.intro); all_goals first | exact True.intro | with_reducible assumption | decide +kernel | with_reducible exact Option.isSome_some | omega | with_reducible exact decide_eq_true (by omega) | with_reducible exact decide_eq_false (by omega) | with_reducible exact beq_iff_eq.2 (by omega) | with_reducible exact beq_eq_false_iff_ne.2 (by omega) | skip) fun β a w hβ hl S => ?_
  exact xret hT S rfl ⟨_, rfl, rfl, S.tl'⟩
theorem RdV.at1 {L : List Hp} {ad : Addr} {vs : List Value} (h : RdV L ad vs) {j : Nat} {v : Value} (hj : vs[j]? = some v) : RdV L (ad.add (j * 1)) [v] := by
  rw [Nat.mul_one]
  exact RdV.one (h j v hj)
theorem c62 {A : Option Addr} {n c : Nat} {vs : List Value} {bs : List (List Md)} (H : SH u w L) (hn : n ≤ 100) (hR : Rows L A n 1 vs) (hA : All2 (RBod L) vs bs) (hlen : bs.length = n)
    (hb : ∀ b ∈ bs, b.length ≤ 16 ∧ ∀ m ∈ b, Md.ok m) : Ret Try.prog 62 [.slice A n c, .func (.func 36) #[] #[]] w (Pl u L fun v => v = .int .i64 (-1)) := by
  refine ent Try.func62 rfl H 19 rfl [(0, .v (.slice A n c)), (1, .v (.func (.func 36) #[] #[]))] rfl rfl fun a S => ?_
  refine xr hT S rfl true [] 200 rfl (by (repeat' apply And.intro); all_goals first | exact True.intro | with_reducible assumption | decide +kernel | with_reducible exact Option.isSome_some | omega | with_reducible exact decide_eq_true (by omega) | with_reducible exact decide_eq_false (by omega) | with_reducible exact beq_iff_eq.2 (by omega) | with_reducible exact beq_eq_false_iff_ne.2 (by omega) | skip) fun β a w hβ hl S => ?_
  refine xloop (I66 u L A n c (.func (.func 36) #[] #[])) id n ⟨β, hl, Nat.le_refl _, by rw [Nat.sub_self]; exact S.keep [0, 1, 7, 8] rfl⟩ fun d a w ⟨β, hl, hd, S⟩ => ?_
  by_cases hd0 : d = 0
  · subst hd0
    refine xr hT S hl true [.b false] 200 rfl (by (repeat' apply And.intro); all_goals first | exact True.intro | with_reducible assumption | decide +kernel | with_reducible exact Option.isSome_some | omega | with_reducible exact decide_eq_true (by omega) | with_reducible exact decide_eq_false (by omega) | with_reducible exact beq_iff_eq.2 (by omega) | with_reducible exact beq_eq_false_iff_ne.2 (by omega) | skip) fun β a w hβ hl S => ?_
    exact xret hT S rfl ⟨_, rfl, rfl, S.sh⟩
  · have hi : n - d < bs.length := by omega
    obtain ⟨ad, rfl⟩ := hR.2.1 (by omega)
    have hcells := hR.2.2 ad rfl
    obtain ⟨v, hv, hvb⟩ := hA.at_ hi
    refine xr hT S hl true [.b true, .v [v]] 200 rfl ?_ fun β a w hβ hl S => ?_
    · (repeat' apply And.intro); all_goals first | exact True.intro | with_reducible assumption | decide +kernel | with_reducible exact Option.isSome_some | omega | with_reducible exact decide_eq_true (by omega) | with_reducible exact decide_eq_false (by omega) | with_reducible exact beq_iff_eq.2 (by omega) | with_reducible exact beq_eq_false_iff_ne.2 (by omega) | skip
      show RdV L (ad.add (Int.toNat ((n - d : Nat) : Int) * 1)) _
      rw [Int.toNat_natCast]
      exact hcells.at1 hv
    refine xP S rfl rfl rfl rfl rfl rfl en36 (fun H => c36 H hvb (hb _ (List.getElem_mem hi)).1 (hb _ (List.getElem_mem hi)).2) fun v a w hv S => ?_
    subst hv
    refine xr hT S hl true [.b false] 200 rfl (by (repeat' apply And.intro); all_goals first | exact True.intro | with_reducible assumption | decide +kernel | with_reducible exact Option.isSome_some | omega | with_reducible exact decide_eq_true (by omega) | with_reducible exact decide_eq_false (by omega) | with_reducible exact beq_iff_eq.2 (by omega) | with_reducible exact beq_eq_false_iff_ne.2 (by omega) | skip) fun β a w hβ hl S => ?_
    have e : ((n - d : Nat) : Int) + 1 = ((n - (d - 1) : Nat) : Int) := by omega
    rw [e] at S
    exact xj ⟨d - 1, ⟨β, hl, by omega, S.keep [0, 1, 7, 8] rfl⟩, by simp only [id]; omega⟩
theorem c35 {A : Option Addr} {n c : Nat} {vs : List Value} {bs : List (List Md)} (H : SH u w L) (hn : n ≤ 100) (hR : Rows L A n 1 vs) (hA : All2 (RBod L) vs bs) (hlen : bs.length = n)
    (hb : ∀ b ∈ bs, b.length ≤ 16 ∧ ∀ m ∈ b, Md.ok m) : Ret Try.prog 35 [.slice A n c, .func (.func 36) #[] #[]] w (Pl u L fun v => v = .bool false) := by
  refine ent Try.func35 rfl H 9 rfl [(0, .v (.slice A n c)), (1, .v (.func (.func 36) #[] #[]))] rfl rfl fun a S => ?_
  refine xr hT S rfl true [] 200 rfl (by (repeat' apply And.intro); all_goals first | exact True.intro | with_reducible assumption | decide +kernel | with_reducible exact Option.isSome_some | omega | with_reducible exact decide_eq_true (by omega) | with_reducible exact decide_eq_false (by omega) | with_reducible exact beq_iff_eq.2 (by omega) | with_reducible exact beq_eq_false_iff_ne.2 (by omega) | skip) fun β a w hβ hl S => ?_
  refine xP S rfl rfl rfl rfl rfl rfl en62 (fun H => c62 H hn hR hA hlen hb) fun v a w hv S => ?_
  subst hv
  refine xr hT S hl true [] 200 rfl (by (repeat' apply And.intro); all_goals first | exact True.intro | with_reducible assumption | decide +kernel | with_reducible exact Option.isSome_some | omega | with_reducible exact decide_eq_true (by omega) | with_reducible exact decide_eq_false (by omega) | with_reducible exact beq_iff_eq.2 (by omega) | with_reducible exact beq_eq_false_iff_ne.2 (by omega) | skip) fun β a w hβ hl S => ?_
  exact xret hT S rfl ⟨_, rfl, rfl, S.sh⟩
end Go.SX
