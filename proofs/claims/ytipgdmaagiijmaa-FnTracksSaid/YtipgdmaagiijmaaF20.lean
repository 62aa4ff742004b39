import Derived.Test.YtipgdmaagiijmaaF19
import Derived.Test.YtipgdmaagiijmaaN4
set_option maxRecDepth 100000
set_option linter.unusedVariables false
set_option linter.unusedSectionVars false
namespace Go.SX
open Go.Proofs
variable {u w : World} {L B : List Hp} {b : Nat} {M : Hp}
theorem at_cell {L : List Hp} {ad : Addr} {cur : List Ev} (h : RdV L ad (cur.flatMap Ev.cells)) {j : Nat} (hj : j < cur.length) : RdV L ((ad.add (j * 6)).add 0) [.int .i64 cur[j].at_] := by
  have := (h.elem ev_len hj).at_ 0 1
  simpa [Ev.cells] using this
/-- an operation that looks, whatever it be -/
theorem xqv {P : Program} {β : List Nat} {a : Act} {n : Nat} {l : EL} {all rest : List Oper} {o : Oper} {Q : Act → Prop} {C : World → Prop} {d : Nat} {v : Value} (E : Env β a n l) (hg : guardV all [] l o = some ([], l, true, True)) (hdst : o.dst = some d) (hd : dOk n (some d) = true)
    (hr : ∀ w, C w → (execOp a.eval o).run P w = .ok (.value v) w) (hk : ∀ a', Env β a' n ((d, .v v) :: l) → wpQuiet P all.toArray C Q rest a') : wpQuiet P all.toArray C Q (o :: rest) a := by
  unfold wpQuiet
  rw [if_pos (guardV_ok E hg trivial).2]
  have hd' : dOk n o.dst = true := by rw [hdst]; exact hd
  refine ⟨v, fun w hw => ?_, hk _ (by have := putl_ok (x := .v v) E hd' trivial; rwa [hdst] at this ⊢)⟩
  unfold Oper.quietAt
  rw [hr w hw]
  exact ⟨rfl, rfl⟩
theorem exec_neq_ev {β : List Nat} {a : Act} {n : Nat} {l : EL} {o : Oper} {x y : Operand} {t' : TypeId} {X Y : SV} {e : Ev} (E : Env β a n l) (ho : o.op = .binOp .neq 31 x y t') (hx : evo l x = some X) (hy : evo l y = some Y)
    (eX : SV.dn β X = .agg e.cells.toArray) (eY : SV.dn β Y = .agg e.cells.toArray) (h : fcmp .eql .f32 e.force e.force = true) (w : World) : (execOp a.eval o).run Try.prog w = .ok (.value (.bool false)) w := by
  have e1 := (evo_ok E hx).1
  have e2 := (evo_ok E hy).1
  simp only [execOp, ho, e1, e2, eX, eY]
  rw [Sem.run_bind, neq_ev h]
  rfl
abbrev BX3 (s : Sc) (A : Option Addr) (cb : Nat) (E : Option Addr) (ce : Nat) : BL := [(0, 27, [.v (.int .i64 s.len), .v (.int .i64 s.voices), .v (.float .f32 s.ceil), .v (.float .f32 s.rel), .v (.slice A s.bodies.length cb), .v (.slice E s.events.length ce)])]
theorem ev_force {len nb : Int} {e : Ev} (h : EvOk len nb e) : fcmp .eql .f32 e.force e.force = true := by
  have key : ∀ {x : Nat}, Num .f32 x → fcmp .eql .f32 x x = true := by
    intro x ⟨s, m, p, hx⟩
    have hx' : Ieee.single.read x = .number s m p := hx
    show (Ieee.Format.order Ieee.single x x == some .eq) = true
    unfold Ieee.Format.order
    rw [hx']
    simp [Ieee.Datum.order, cmp_self]
  rcases h.2.2 with ⟨_, _, _, h⟩ | ⟨_, _, _, h⟩ | ⟨_, _, _, h⟩
  · exact key h.num
  · exact key (dmp_ok h).2.1
  · rw [h]; decide +kernel
theorem c3 {A : Option Addr} {n c : Nat} (H : SH u w L) (hB : n ≤ 1048576 → Byt B A n) (hs : B ⊆ L) (hn : n ≤ 9223372036854775807) : Ret Try.prog 3 [.slice A n c] w (Pl u L fun v => v = .bool true) := by
  refine ent Try.func3 rfl H 88 rfl [(0, .v (.slice A n c))] rfl rfl fun a S => ?_
  by_cases hbig : n ≤ 1048576
  · refine xr hT S rfl true [.b false] 200 rfl (by (repeat' apply And.intro); all_goals first | exact True.intro | with_reducible assumption | decide +kernel | with_reducible exact Option.isSome_some | omega | with_reducible exact decide_eq_true (by omega) | with_reducible exact decide_eq_false (by omega) | with_reducible exact beq_iff_eq.2 (by omega) | with_reducible exact beq_eq_false_iff_ne.2 (by omega) | with_reducible exact bne_iff_ne.2 (by omega) | with_reducible exact bne_eq_false_iff_eq.2 (by omega) | skip) fun β a w hβ hl S => ?_
    refine xc S rfl rfl rfl rfl rfl en7 (c7 (most := 8) S.sh (hB hbig) (List.subset_append_of_subset_right _ hs) hbig (by decide) (by decide)) fun v w ⟨New, s, H, hR, hO, hne⟩ => ?_
    have S := S.retd (New := New) 14 v H rfl
    have hR' := hR
    obtain ⟨A1, cb, E, ce, vs, rfl, hA1, hRA, hRE⟩ := hR
    refine xr hT S hl true [] 200 rfl (by (repeat' apply And.intro); all_goals first | exact True.intro | with_reducible assumption | decide +kernel | with_reducible exact Option.isSome_some | omega | with_reducible exact decide_eq_true (by omega) | with_reducible exact decide_eq_false (by omega) | with_reducible exact beq_iff_eq.2 (by omega) | with_reducible exact beq_eq_false_iff_ne.2 (by omega) | with_reducible exact bne_iff_ne.2 (by omega) | with_reducible exact bne_eq_false_iff_eq.2 (by omega) | skip) fun β a w hβ hl S => ?_
    refine xc S rfl rfl rfl rfl rfl en8 (c8 S.sh (hR'.mono (List.subset_append_of_subset_right _ (List.subset_append_left _ _))) hO (by decide)) fun v w ⟨A2, c2, hv, M, cur, hlen, hF, hS, hOw, H⟩ => ?_
    have S := S.retd (New := [M]) 16 v H rfl
    subst hv
    refine xr hT S hl true [.b false] 200 rfl (by (repeat' apply And.intro); all_goals first | exact True.intro | with_reducible assumption | decide +kernel | with_reducible exact Option.isSome_some | omega | with_reducible exact decide_eq_true (by omega) | with_reducible exact decide_eq_false (by omega) | with_reducible exact beq_iff_eq.2 (by omega) | with_reducible exact beq_eq_false_iff_ne.2 (by omega) | with_reducible exact bne_iff_ne.2 (by omega) | with_reducible exact bne_eq_false_iff_eq.2 (by omega) | skip) fun β a w hβ hl S => ?_
    have hne16 := hO.events.1
    refine xloop (fun (i : Nat) a w => ∃ β, β.length = 1 ∧ 1 ≤ i ∧ St β u w a 88 [(3, .p 0 0), (4, .v (.slice A2 s.events.length c2)), (5, .v (.int .i64 (i : Int)))] (BX3 s A1 cb E ce) (M :: (New ++ L))) (fun i => 17 - i) 1 ⟨β, hl, Nat.le_refl _, S.keep [3, 4, 5] rfl⟩ fun i a w ⟨β, hl, hi1, S⟩ => ?_
    by_cases hi : i < s.events.length
    · have hi0 : i - 1 < cur.length := by omega
      have hi2 : i < cur.length := by omega
      obtain ⟨g, c', hv⟩ := hOw.pos (by omega)
      have hcells : RdV (M :: (New ++ L)) ⟨g, 0, none⟩ (cur.flatMap Ev.cells) := by
        cases hv
        exact hOw.cells rfl List.mem_cons_self
      obtain ⟨rfl, rfl⟩ : A2 = some ⟨g, 0, none⟩ ∧ c2 = c' := by cases hv; exact ⟨rfl, rfl⟩
      have hle := hS (i - 1) i _ _ (by omega) hi (List.getElem?_eq_getElem hi0) (List.getElem?_eq_getElem hi2)
      refine xr hT S hl true [.b true, .v [.int .i64 cur[i - 1].at_], .v [.int .i64 cur[i].at_], .b false] 200 rfl ?_ fun β a w hβ hl S => ?_
      · (repeat' apply And.intro); all_goals first | exact True.intro | with_reducible assumption | decide +kernel | with_reducible exact Option.isSome_some | omega | with_reducible exact decide_eq_true (by omega) | with_reducible exact decide_eq_false (by omega) | with_reducible exact beq_iff_eq.2 (by omega) | with_reducible exact beq_eq_false_iff_ne.2 (by omega) | with_reducible exact bne_iff_ne.2 (by omega) | with_reducible exact bne_eq_false_iff_eq.2 (by omega) | skip
        · show RdV (M :: (New ++ L)) ((Addr.add ⟨g, 0, none⟩ (Int.toNat ((i : Int) - 1) * 6)).add 0) _
          rw [show Int.toNat ((i : Int) - 1) = i - 1 by omega]
          exact at_cell hcells hi0
        · show RdV (M :: (New ++ L)) ((Addr.add ⟨g, 0, none⟩ (Int.toNat (i : Int) * 6)).add 0) _
          rw [Int.toNat_natCast]
          exact at_cell hcells hi2
      have e : (i : Int) + 1 = ((i + 1 : Nat) : Int) := by omega
      rw [e] at S
      exact xj ⟨i + 1, ⟨β, hl, by omega, S.keep [3, 4, 5] rfl⟩, by omega⟩
    · refine xr hT S hl true [.b false] 200 rfl (by (repeat' apply And.intro); all_goals first | exact True.intro | with_reducible assumption | decide +kernel | with_reducible exact Option.isSome_some | omega | with_reducible exact decide_eq_true (by omega) | with_reducible exact decide_eq_false (by omega) | with_reducible exact beq_iff_eq.2 (by omega) | with_reducible exact beq_eq_false_iff_ne.2 (by omega) | with_reducible exact bne_iff_ne.2 (by omega) | with_reducible exact bne_eq_false_iff_eq.2 (by omega) | skip) fun β a w hβ hl S => ?_
      refine xloop (fun (x : Nat) a w => ∃ β, β.length = 1 ∧ St β u w a 88 [(3, .p 0 0), (4, .v (.slice A2 s.events.length c2)), (6, .v (.int .i64 (x : Int)))] (BX3 s A1 cb E ce) (M :: (New ++ L))) (fun x => 9 - x) 0 ⟨β, hl, S.keep [3, 4, 6] rfl⟩ fun x a w ⟨β, hl, S⟩ => ?_
      have hlen8 := hO.len
      by_cases hx : (x : Int) ≤ s.len
      · refine xr hT S hl true [.b true] 200 rfl (by (repeat' apply And.intro); all_goals first | exact True.intro | with_reducible assumption | decide +kernel | with_reducible exact Option.isSome_some | omega | with_reducible exact decide_eq_true (by omega) | with_reducible exact decide_eq_false (by omega) | with_reducible exact beq_iff_eq.2 (by omega) | with_reducible exact beq_eq_false_iff_ne.2 (by omega) | with_reducible exact bne_iff_ne.2 (by omega) | with_reducible exact bne_eq_false_iff_eq.2 (by omega) | skip) fun β a w hβ hl S => ?_
        refine xloop (fun (q : Nat) a w => ∃ β k, β.length = 1 ∧ q ≤ s.events.length ∧ k ≤ s.events.length ∧ Mid cur s.events x k q ∧ St β u w a 88 [(3, .p 0 0), (4, .v (.slice A2 s.events.length c2)), (6, .v (.int .i64 (x : Int))), (7, .v (.int .i64 ((k : Nat) : Int))), (48, .v (.slice E s.events.length ce)), (49, .v (.int .i64 s.events.length)), (50, .v (.int .i64 (q : Int)))] (BX3 s A1 cb E ce) (M :: (New ++ L))) (fun q => 17 - q) 0
          ⟨β, 0, hl, Nat.zero_le _, Nat.zero_le _, Mid.zero, S.keep [3, 4, 6, 7, 48, 49, 50] rfl⟩ fun q a w ⟨β, k, hl, hq, hk, hM, S⟩ => ?_
        by_cases hq1 : q < s.events.length
        · obtain ⟨ad, rfl⟩ := hRE.2.1 (by omega)
          have hevc := ((hRE.2.2 ad rfl).mono (L' := M :: (New ++ L)) (List.subset_cons_of_subset _ (List.subset_append_left _ _))).elem ev_len hq1
          have eq1 : (q : Int) + 1 = ((q + 1 : Nat) : Int) := by omega
          have hnum : fcmp .eql .f32 s.events[q].force s.events[q].force = true := ev_force (hO.events.2 _ (List.getElem_mem hq1))
          by_cases hx2 : s.events[q].at_ = x
          · refine xr hT S hl true [.b true, .v (s.events[q]).cells, .b false] 200 rfl ?_ fun β a w hβ hl S => ?_
            · (repeat' apply And.intro); all_goals first | exact True.intro | with_reducible assumption | decide +kernel | with_reducible exact Option.isSome_some | omega | with_reducible exact decide_eq_true (by omega) | with_reducible exact decide_eq_false (by omega) | with_reducible exact beq_iff_eq.2 (by omega) | with_reducible exact beq_eq_false_iff_ne.2 (by omega) | with_reducible exact bne_iff_ne.2 (by omega) | with_reducible exact bne_eq_false_iff_eq.2 (by omega) | skip
              show RdV (M :: (New ++ L)) (Addr.add ad (Int.toNat (q : Int) * 6)) _
              rw [Int.toNat_natCast]
              exact hevc
            refine xloop (fun (k : Nat) a w => ∃ β, β.length = 2 ∧ k ≤ s.events.length ∧ Mid cur s.events x k q ∧ St β u w a 88 [(3, .p 0 0), (4, .v (.slice A2 s.events.length c2)), (6, .v (.int .i64 (x : Int))), (7, .v (.int .i64 ((k : Nat) : Int))), (9, .p 1 0), (48, .v (.slice (some ad) s.events.length ce)), (49, .v (.int .i64 s.events.length)), (50, .v (.int .i64 (q : Int)))] ((1, 31, s.events[q].cells.map .v) :: BX3 s A1 cb (some ad) ce) (M :: (New ++ L))) (fun k => 17 - k) k
              ⟨β, hl, hk, hM, S.keep [3, 4, 6, 7, 9, 48, 49, 50] rfl⟩ fun k a w ⟨β, hl, hk, hM, S⟩ => ?_
            by_cases hk1 : k < s.events.length
            · have hkc : k < cur.length := by omega
              obtain ⟨g, c', hv⟩ := hOw.pos (by omega)
              obtain ⟨rfl, rfl⟩ : A2 = some ⟨g, 0, none⟩ ∧ c2 = c' := by cases hv; exact ⟨rfl, rfl⟩
              have hcells : RdV (M :: (New ++ L)) ⟨g, 0, none⟩ (cur.flatMap Ev.cells) := hOw.cells rfl List.mem_cons_self
              have ek : (k : Int) + 1 = ((k + 1 : Nat) : Int) := by omega
              by_cases hx3 : cur[k].at_ = x
              · refine xr hT S hl true [.b true, .v [.int .i64 cur[k].at_], .b false] 21 rfl ?_ fun β a w hβ hl S => ?_
                · (repeat' apply And.intro); all_goals first | exact True.intro | with_reducible assumption | decide +kernel | with_reducible exact Option.isSome_some | omega | with_reducible exact decide_eq_true (by omega) | with_reducible exact decide_eq_false (by omega) | with_reducible exact beq_iff_eq.2 (by omega) | with_reducible exact beq_eq_false_iff_ne.2 (by omega) | with_reducible exact bne_iff_ne.2 (by omega) | with_reducible exact bne_eq_false_iff_eq.2 (by omega) | skip
                  show RdV (M :: (New ++ L)) ((Addr.add ⟨g, 0, none⟩ (Int.toNat (k : Int) * 6)).add 0) _
                  rw [Int.toNat_natCast]
                  exact at_cell hcells hkc
                obtain ⟨hsame, hM2⟩ := hM.same hF hkc hq1 hx3 hx2
                refine xda hT S (by decide +kernel) fun E => ?_
                refine xqr hT S true [.b false, .v (cur[k]).cells] E rfl ?_ fun a E => ?_
                · (repeat' apply And.intro); all_goals first | exact True.intro | with_reducible assumption | decide +kernel | with_reducible exact Option.isSome_some | omega | with_reducible exact decide_eq_true (by omega) | with_reducible exact decide_eq_false (by omega) | with_reducible exact beq_iff_eq.2 (by omega) | with_reducible exact beq_eq_false_iff_ne.2 (by omega) | with_reducible exact bne_iff_ne.2 (by omega) | with_reducible exact bne_eq_false_iff_eq.2 (by omega) | skip
                  show RdV (M :: (New ++ L)) (Addr.add ⟨g, 0, none⟩ (Int.toNat (k : Int) * 6)) _
                  rw [Int.toNat_natCast]
                  exact hcells.elem ev_len hkc
                refine xqv E rfl rfl rfl (fun w _ => exec_neq_ev (e := s.events[q]) E rfl rfl rfl (by rw [hsame]; rfl) rfl hnum w) fun a E => ?_
                refine xqr hT S true [] E rfl (by (repeat' apply And.intro); all_goals first | exact True.intro | with_reducible assumption | decide +kernel | with_reducible exact Option.isSome_some | omega | with_reducible exact decide_eq_true (by omega) | with_reducible exact decide_eq_false (by omega) | with_reducible exact beq_iff_eq.2 (by omega) | with_reducible exact beq_eq_false_iff_ne.2 (by omega) | with_reducible exact bne_iff_ne.2 (by omega) | with_reducible exact bne_eq_false_iff_eq.2 (by omega) | skip) fun a E => ?_
                refine wpQuiet_nil fun w H => ?_
                have S : St _ _ _ _ _ _ _ _ := ⟨E, H, S.wb⟩
                refine xr hT S hl true [.b false] 200 rfl (by (repeat' apply And.intro); all_goals first | exact True.intro | with_reducible assumption | decide +kernel | with_reducible exact Option.isSome_some | omega | with_reducible exact decide_eq_true (by omega) | with_reducible exact decide_eq_false (by omega) | with_reducible exact beq_iff_eq.2 (by omega) | with_reducible exact beq_eq_false_iff_ne.2 (by omega) | with_reducible exact bne_iff_ne.2 (by omega) | with_reducible exact bne_eq_false_iff_eq.2 (by omega) | skip) fun β a w hβ hl S => ?_
                rw [ek, eq1] at S
                obtain ⟨β, hl, S⟩ := (S.keep [3, 4, 6, 7, 48, 49, 50] rfl).dropb.cut 1 (by rw [hl]; simp) (by simp [SV.wfs, SV.wf]) (by simp [SV.wfs, SV.wf])
                exact xj ⟨q + 1, ⟨β, k + 1, hl, by omega, by omega, hM2, S⟩, by omega⟩
              · refine xr hT S hl true [.b true, .v [.int .i64 cur[k].at_], .b true] 200 rfl ?_ fun β a w hβ hl S => ?_
                · (repeat' apply And.intro); all_goals first | exact True.intro | with_reducible assumption | decide +kernel | with_reducible exact Option.isSome_some | omega | with_reducible exact decide_eq_true (by omega) | with_reducible exact decide_eq_false (by omega) | with_reducible exact beq_iff_eq.2 (by omega) | with_reducible exact beq_eq_false_iff_ne.2 (by omega) | with_reducible exact bne_iff_ne.2 (by omega) | with_reducible exact bne_eq_false_iff_eq.2 (by omega) | skip
                  show RdV (M :: (New ++ L)) ((Addr.add ⟨g, 0, none⟩ (Int.toNat (k : Int) * 6)).add 0) _
                  rw [Int.toNat_natCast]
                  exact at_cell hcells hkc
                rw [ek] at S
                exact xj ⟨k + 1, ⟨β, hl, by omega, hM.skipC hkc hx3, S.keep [3, 4, 6, 7, 9, 48, 49, 50] rfl⟩, by omega⟩
            · exact (hM.not_end hF (by omega) hq1 hx2).elim
          · refine xr hT S hl true [.b true, .v (s.events[q]).cells, .b true] 200 rfl ?_ fun β a w hβ hl S => ?_
            · (repeat' apply And.intro); all_goals first | exact True.intro | with_reducible assumption | decide +kernel | with_reducible exact Option.isSome_some | omega | with_reducible exact decide_eq_true (by omega) | with_reducible exact decide_eq_false (by omega) | with_reducible exact beq_iff_eq.2 (by omega) | with_reducible exact beq_eq_false_iff_ne.2 (by omega) | with_reducible exact bne_iff_ne.2 (by omega) | with_reducible exact bne_eq_false_iff_eq.2 (by omega) | skip
              show RdV (M :: (New ++ L)) (Addr.add ad (Int.toNat (q : Int) * 6)) _
              rw [Int.toNat_natCast]
              exact hevc
            rw [eq1] at S
            obtain ⟨β, hl, S⟩ := (S.keep [3, 4, 6, 7, 48, 49, 50] rfl).dropb.cut 1 (by rw [hl]; simp) (by simp [SV.wfs, SV.wf]) (by simp [SV.wfs, SV.wf])
            exact xj ⟨q + 1, ⟨β, k, hl, by omega, hk, hM.skipE hq1 hx2, S⟩, by omega⟩
        · refine xr hT S hl true [.b false] 200 rfl (by (repeat' apply And.intro); all_goals first | exact True.intro | with_reducible assumption | decide +kernel | with_reducible exact Option.isSome_some | omega | with_reducible exact decide_eq_true (by omega) | with_reducible exact decide_eq_false (by omega) | with_reducible exact beq_iff_eq.2 (by omega) | with_reducible exact beq_eq_false_iff_ne.2 (by omega) | with_reducible exact bne_iff_ne.2 (by omega) | with_reducible exact bne_eq_false_iff_eq.2 (by omega) | skip) fun β a w hβ hl S => ?_
          have e : (x : Int) + 1 = ((x + 1 : Nat) : Int) := by omega
          rw [e] at S
          exact xj ⟨x + 1, ⟨β, hl, S.keep [3, 4, 6] rfl⟩, by omega⟩
      · refine xr hT S hl true [.b false] 200 rfl (by (repeat' apply And.intro); all_goals first | exact True.intro | with_reducible assumption | decide +kernel | with_reducible exact Option.isSome_some | omega | with_reducible exact decide_eq_true (by omega) | with_reducible exact decide_eq_false (by omega) | with_reducible exact beq_iff_eq.2 (by omega) | with_reducible exact beq_eq_false_iff_ne.2 (by omega) | with_reducible exact bne_iff_ne.2 (by omega) | with_reducible exact bne_eq_false_iff_eq.2 (by omega) | skip) fun β a w hβ hl S => ?_
        exact xret hT S rfl ⟨_, rfl, rfl, (S.tl'.sub (List.sublist_cons_self _ _)).sub (List.sublist_append_right _ _)⟩
  · refine xr hT S rfl true [.b true] 200 rfl (by (repeat' apply And.intro); all_goals first | exact True.intro | with_reducible assumption | decide +kernel | with_reducible exact Option.isSome_some | omega | with_reducible exact decide_eq_true (by omega) | with_reducible exact decide_eq_false (by omega) | with_reducible exact beq_iff_eq.2 (by omega) | with_reducible exact beq_eq_false_iff_ne.2 (by omega) | with_reducible exact bne_iff_ne.2 (by omega) | with_reducible exact bne_eq_false_iff_eq.2 (by omega) | skip) fun β a w hβ hl S => ?_
    exact xret hT S rfl ⟨_, rfl, rfl, S.sh⟩
end Go.SX
