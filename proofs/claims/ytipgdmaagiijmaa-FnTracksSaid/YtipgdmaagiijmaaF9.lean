import Derived.Test.YtipgdmaagiijmaaF8
set_option maxRecDepth 100000
set_option linter.unusedVariables false
set_option linter.unusedSectionVars false
namespace Go.SX
open Go.Proofs
/-! ### scores in memory -/
def All2 {α β : Type} (R : α → β → Prop) : List α → List β → Prop
  | [], [] => True
  | a :: r, b :: s => R a b ∧ All2 R r s
  | _, _ => False
theorem All2.mono {α β : Type} {R R' : α → β → Prop} (h : ∀ a b, R a b → R' a b) : ∀ {r : List α} {s : List β}, All2 R r s → All2 R' r s
  | [], [], _ => trivial
  | _ :: _, _ :: _, ⟨h1, h2⟩ => ⟨h _ _ h1, h2.mono h⟩
  | [], _ :: _, h' => h'.elim
  | _ :: _, [], h' => h'.elim
theorem All2.len {α β : Type} {R : α → β → Prop} : ∀ {r : List α} {s : List β}, All2 R r s → r.length = s.length
  | [], [], _ => rfl
  | _ :: _, _ :: _, ⟨_, h2⟩ => by simp [h2.len]
  | [], _ :: _, h' => h'.elim
  | _ :: _, [], h' => h'.elim
theorem All2.snoc {α β : Type} {R : α → β → Prop} {a : α} {b : β} (h : R a b) : ∀ {r : List α} {s : List β}, All2 R r s → All2 R (r ++ [a]) (s ++ [b])
  | [], [], _ => ⟨h, trivial⟩
  | _ :: _, _ :: _, ⟨h1, h2⟩ => ⟨h1, h2.snoc h⟩
  | [], _ :: _, h' => h'.elim
  | _ :: _, [], h' => h'.elim
theorem All2.at_ {α β : Type} {R : α → β → Prop} : ∀ {r : List α} {s : List β} (h : All2 R r s) {j : Nat} (hj : j < s.length), ∃ a, r[j]? = some a ∧ R a s[j]
  | x :: _, _ :: _, ⟨h1, _⟩, 0, _ => ⟨x, rfl, h1⟩
  | _ :: _, _ :: _, ⟨_, h2⟩, j + 1, hj => by
    obtain ⟨a, h3, h4⟩ := h2.at_ (j := j) (by simpa using hj)
    exact ⟨a, by simpa using h3, by simpa using h4⟩
  | [], _ :: _, h', _, _ => h'.elim
  | _, [], _, _, hj => by simp at hj
def Rows (L : List Hp) (A : Option Addr) (n sz : Nat) (xs : List Value) : Prop := xs.length = n * sz ∧ (0 < n → ∃ ad, A = some ad) ∧ ∀ ad, A = some ad → RdV L ad xs
theorem Rows.mono {L L' : List Hp} {A n sz xs} (h : Rows L A n sz xs) (hs : L ⊆ L') : Rows L' A n sz xs := ⟨h.1, h.2.1, fun ad e => (h.2.2 ad e).mono hs⟩
theorem Own.rows {M : Hp} {e sz n c : Nat} {A : Option Addr} {xs : List Value} {L : List Hp} (h : Own M e sz (.slice A n c) n xs) (hM : M ∈ L) : Rows L A n sz xs :=
  ⟨h.1, fun hn => by
    obtain ⟨A', c', hv, hs⟩ := h.form
    cases hv
    exact Option.isSome_iff_exists.1 (hs hn), fun ad ha => h.cells ha hM⟩
structure Sc where
  len : Int
  voices : Int
  ceil : Nat
  rel : Nat
  bodies : List (List Md)
  events : List Ev
def RBod (L : List Hp) (v : Value) (ms : List Md) : Prop := ∃ A c, v = .slice A ms.length c ∧ Rows L A ms.length 2 (ms.flatMap Md.cells)
theorem RBod.mono {L L' : List Hp} {v ms} (h : RBod L v ms) (hs : L ⊆ L') : RBod L' v ms :=
  let ⟨A, c, h1, h2⟩ := h
  ⟨A, c, h1, h2.mono hs⟩
def RSc (L : List Hp) (v : Value) (s : Sc) : Prop := ∃ A cb E ce vs, v = .agg #[.int .i64 s.len, .int .i64 s.voices, .float .f32 s.ceil, .float .f32 s.rel, .slice A s.bodies.length cb, .slice E s.events.length ce] ∧
  All2 (RBod L) vs s.bodies ∧ Rows L A s.bodies.length 1 vs ∧ Rows L E s.events.length 6 (s.events.flatMap Ev.cells)
theorem RSc.mono {L L' : List Hp} {v s} (h : RSc L v s) (hs : L ⊆ L') : RSc L' v s :=
  let ⟨A, cb, E, ce, vs, h1, h2, h3, h4⟩ := h
  ⟨A, cb, E, ce, vs, h1, h2.mono fun _ _ h => h.mono hs, h3.mono hs, h4.mono hs⟩
def Ceil (f : Nat) : Prop := f = 1040187392 ∨ f = 1065353216 ∨ f = 1095237632
def Rel (f : Nat) : Prop := f = 0 ∨ f = 1056964608 ∨ f = 1065185444 ∨ f = 1065353216
structure ScOk (most : Int) (s : Sc) : Prop where
  len : 0 ≤ s.len ∧ s.len ≤ most
  voices : 1 ≤ s.voices ∧ s.voices ≤ 4
  ceil : Ceil s.ceil
  rel : Rel s.rel
  bodies : s.bodies.length ≤ 3 ∧ ∀ b ∈ s.bodies, b.length ≤ 4 ∧ ∀ m ∈ b, m.ok
  events : s.events.length ≤ 16 ∧ ∀ e ∈ s.events, EvOk s.len s.bodies.length e

section
variable {β : List Nat} {u w w' : World} {a : Act} {n : Nat} {l : EL} {bx bx' : BL} {tl : List Hp} {o : Oper}
theorem St.subb (S : St β u w a n l bx tl) (h : bx'.Sublist bx) : St β u w a n l bx' tl :=
  ⟨S.env, S.sh.sub (List.Sublist.append (h.map _) (List.Sublist.refl _)), fun e he => S.wb e (h.subset he)⟩
/-- behind a call that has been given a heap, and gives others -/
theorem St.ret1 {M0 : Hp} {New : List Hp} (S : St β u w a n l bx (M0 :: tl)) (d : Nat) (v : Value) (H : SH u w' (New ++ (bhs β bx ++ tl))) (hd : dOk n (some d) = true) : St β u w' (a.put (some d) v) n ((d, .v v) :: l) bx (New ++ tl) :=
  S.put (tl' := New ++ tl) (v := v) (H.perm (by rw [← List.append_assoc, ← List.append_assoc]; exact List.perm_append_comm.append_right _)) hd
end
variable {u w : World} {L B : List Hp} {b : Nat} {M : Hp}
theorem ceil0 : fop .quo .f32 (FloatKind.f32.nearest 1) 1090519040 = 1040187392 := by decide +kernel
theorem ceil1 : fop .quo .f32 (FloatKind.f32.nearest 8) 1090519040 = 1065353216 := by decide +kernel
theorem ceil2 : fop .quo .f32 (FloatKind.f32.nearest 100) 1090519040 = 1095237632 := by decide +kernel
theorem rel2 : fop .quo .f32 (FloatKind.f32.nearest 990) 1148846080 = 1065185444 := by decide +kernel
/-- events that are nil have no room -/
def EvNz (v : Value) : Prop := ∀ x0 x1 x2 x3 x4 E n c, v = .agg #[x0, x1, x2, x3, x4, .slice E n c] → E = none → c = 0
theorem Own.nz {M : Hp} {e sz n m c : Nat} {E : Option Addr} {xs : List Value} (h : Own M e sz (.slice E n c) m xs) (hE : E = none) : c = 0 := by
  subst hE
  rcases h.2 with ⟨h1, _⟩ | ⟨g, cap, cur, h1, _⟩
  · cases h1; rfl
  · cases h1
abbrev Z17 : Nat × Nat × List SV := (0, 27, [.v (.int .i64 0), .v (.int .i64 0), .v (.float .f32 0), .v (.float .f32 0), .v (.slice none 0 0), .v (.slice none 0 0)])
def I17 (u : World) (L B : List Hp) (b : Nat) (len vo : Int) (ce re : Nat) (d : Nat) (a : Act) (w : World) : Prop := ∃ β M Mb A c vs bs Ms, β.length = 4 ∧ Cur B b M ∧ Own Mb 69 1 (.slice A bs.length c) bs.length vs ∧ All2 (RBod Ms) vs bs ∧
  (∀ b ∈ bs, b.length ≤ 4 ∧ ∀ m ∈ b, Md.ok m) ∧ bs.length + d ≤ 3 ∧
  St β u w a 63 [(0, .v (.pointer (some ⟨b, 0, none⟩))), (4, .p 0 0), (5, .p 3 0), (6, .v (.int .i64 d))] [(3, 27, [.v (.int .i64 len), .v (.int .i64 vo), .v (.float .f32 ce), .v (.float .f32 re), .v (.slice A bs.length c), .v (.slice none 0 0)]), Z17] (M :: Mb :: (Ms ++ L))
def I17b (u : World) (L B : List Hp) (b : Nat) (len vo : Int) (ce re : Nat) (A : Option Addr) (c : Nat) (nb : Nat) (d : Nat) (a : Act) (w : World) : Prop := ∃ β M Me E cE evs, β.length = 4 ∧ Cur B b M ∧ Own Me 31 6 (.slice E (List.length evs) cE) (List.length evs) (List.flatMap Ev.cells evs) ∧
  (∀ e ∈ evs, EvOk len nb e) ∧ List.length evs + d ≤ 13 ∧
  St β u w a 63 [(0, .v (.pointer (some ⟨b, 0, none⟩))), (4, .p 0 0), (5, .p 3 0), (7, .v (.int .i64 d))] [(3, 27, [.v (.int .i64 len), .v (.int .i64 vo), .v (.float .f32 ce), .v (.float .f32 re), .v (.slice A nb c), .v (.slice E (List.length evs) cE)]), Z17] (M :: Me :: L)
theorem c17 {most : Int} (H : SH u w (M :: L)) (hC : Cur B b M) (hs : B ⊆ L) (h0 : 0 ≤ most) (h1 : most ≤ 500) : Ret Try.prog 17 [.pointer (some ⟨b, 0, none⟩), .int .i64 most] w
    fun v w' => ∃ M New s, Cur B b M ∧ SH u w' (M :: (New ++ L)) ∧ RSc New v s ∧ ScOk most s ∧ s.events.length ≤ 13 ∧ EvNz v := by
  refine ent Try.func17 rfl H 63 rfl [(0, .v (.pointer (some ⟨b, 0, none⟩))), (1, .v (.int .i64 most))] rfl rfl fun a S => ?_
  refine xr hT S rfl true [] 200 rfl (by (repeat' apply And.intro); all_goals first | exact True.intro | with_reducible assumption | decide +kernel | with_reducible exact Option.isSome_some | omega | with_reducible exact decide_eq_true (by omega) | with_reducible exact decide_eq_false (by omega) | with_reducible exact beq_iff_eq.2 (by omega) | with_reducible exact beq_eq_false_iff_ne.2 (by omega) | with_reducible exact bne_iff_ne.2 (by omega) | with_reducible exact bne_eq_false_iff_eq.2 (by omega) | skip) fun β a w hβ hn S => ?_
  refine xD S rfl rfl rfl rfl rfl rfl en29 hs (fun H hs => c29 (n := most + 1) H hC hs (by omega) (by omega)) fun M v a w hC ⟨len, hv, hl0, hl1⟩ S => ?_
  subst hv
  refine xr hT S hn true [] 200 rfl (by (repeat' apply And.intro); all_goals first | exact True.intro | with_reducible assumption | decide +kernel | with_reducible exact Option.isSome_some | omega | with_reducible exact decide_eq_true (by omega) | with_reducible exact decide_eq_false (by omega) | with_reducible exact beq_iff_eq.2 (by omega) | with_reducible exact beq_eq_false_iff_ne.2 (by omega) | with_reducible exact bne_iff_ne.2 (by omega) | with_reducible exact bne_eq_false_iff_eq.2 (by omega) | skip) fun β a w hβ hn S => ?_
  refine xD S rfl rfl rfl rfl rfl rfl en29 hs (fun H hs => c29 (n := 4) H hC hs (by omega) (by omega)) fun M v a w hC ⟨vo, hv, hv0, hv1⟩ S => ?_
  subst hv
  refine xr hT S hn true [] 200 rfl (by (repeat' apply And.intro); all_goals first | exact True.intro | with_reducible assumption | decide +kernel | with_reducible exact Option.isSome_some | omega | with_reducible exact decide_eq_true (by omega) | with_reducible exact decide_eq_false (by omega) | with_reducible exact beq_iff_eq.2 (by omega) | with_reducible exact beq_eq_false_iff_ne.2 (by omega) | with_reducible exact bne_iff_ne.2 (by omega) | with_reducible exact bne_eq_false_iff_eq.2 (by omega) | skip) fun β a w hβ hn S => ?_
  refine xD S rfl rfl rfl rfl rfl rfl en30 hs (fun H hs => c30 (xs := [1, 8, 100]) H hC hs rfl (by decide) (by decide) (by exact RdV.boxL rfl rfl)) fun M v a w hC ⟨q, hq, hv⟩ S => ?_
  subst hv
  have hq' : 0 ≤ q ∧ q ≤ 1000 := by simp at hq; omega
  obtain ⟨r1, hr1, hm1⟩ := Mf.quo (Mf.ofInt .f32 (n := q) (e := 10) (by omega) (by decide)) ge_8s (by decide)
  refine xr hT S hn true [] 200 rfl ?_ fun β a w hβ hn S => ?_
  · (repeat' apply And.intro); all_goals first | exact True.intro | with_reducible assumption | decide +kernel | with_reducible exact Option.isSome_some | omega | with_reducible exact decide_eq_true (by omega) | with_reducible exact decide_eq_false (by omega) | with_reducible exact beq_iff_eq.2 (by omega) | with_reducible exact beq_eq_false_iff_ne.2 (by omega) | with_reducible exact bne_iff_ne.2 (by omega) | with_reducible exact bne_eq_false_iff_eq.2 (by omega) | skip
    exact Option.isSome_iff_exists.2 ⟨r1, hr1⟩
  refine xD S rfl rfl rfl rfl rfl rfl en30 hs (fun H hs => c30 (xs := [0, 500, 990, 1000]) H hC hs rfl (by decide) (by decide) (by exact RdV.boxL rfl rfl)) fun M v a w hC ⟨q2, hq2, hv⟩ S => ?_
  subst hv
  have hq2' : 0 ≤ q2 ∧ q2 ≤ 1000 := by simp at hq2; omega
  obtain ⟨r2, hr2, hm2⟩ := Mf.quo (Mf.ofInt .f32 (n := q2) (e := 10) (by omega) (by decide)) ge_1000s (by decide)
  refine xr hT S hn true [] 200 rfl ?_ fun β a w hβ hn S => ?_
  · (repeat' apply And.intro); all_goals first | exact True.intro | with_reducible assumption | decide +kernel | with_reducible exact Option.isSome_some | omega | with_reducible exact decide_eq_true (by omega) | with_reducible exact decide_eq_false (by omega) | with_reducible exact beq_iff_eq.2 (by omega) | with_reducible exact beq_eq_false_iff_ne.2 (by omega) | with_reducible exact bne_iff_ne.2 (by omega) | with_reducible exact bne_eq_false_iff_eq.2 (by omega) | skip
    exact Option.isSome_iff_exists.2 ⟨r2, hr2⟩
  have hce : Ceil (fop .quo .f32 (FloatKind.f32.nearest q) 1090519040) := by
    simp only [List.mem_cons, List.not_mem_nil, or_false] at hq
    rcases hq with rfl | rfl | rfl
    · exact .inl ceil0
    · exact .inr (.inl ceil1)
    · exact .inr (.inr ceil2)
  have hre : Rel (fop .quo .f32 (FloatKind.f32.nearest q2) 1148846080) := by
    simp only [List.mem_cons, List.not_mem_nil, or_false] at hq2
    rcases hq2 with rfl | rfl | rfl | rfl
    · exact .inl dmp0
    · exact .inr (.inl dmp1)
    · exact .inr (.inr (.inl rel2))
    · exact .inr (.inr (.inr dmp3))
  generalize fop .quo .f32 (FloatKind.f32.nearest q) 1090519040 = ce at hce S
  generalize fop .quo .f32 (FloatKind.f32.nearest q2) 1148846080 = re at hre S
  refine xD S rfl rfl rfl rfl rfl rfl en29 hs (fun H hs => c29 (n := 4) H hC hs (by omega) (by omega)) fun M v a w hC ⟨x, hv, hx0, hx1⟩ S => ?_
  subst hv
  obtain ⟨x, rfl⟩ := Int.eq_ofNat_of_zero_le hx0
  refine xr hT S hn true [] 200 rfl (by (repeat' apply And.intro); all_goals first | exact True.intro | with_reducible assumption | decide +kernel | with_reducible exact Option.isSome_some | omega | with_reducible exact decide_eq_true (by omega) | with_reducible exact decide_eq_false (by omega) | with_reducible exact beq_iff_eq.2 (by omega) | with_reducible exact beq_eq_false_iff_ne.2 (by omega) | with_reducible exact bne_iff_ne.2 (by omega) | with_reducible exact bne_eq_false_iff_eq.2 (by omega) | skip) fun β a w hβ hn S => ?_
  have hs0 : ∀ (Mb : Hp) (Ms : List Hp), B ⊆ Mb :: (Ms ++ L) := fun Mb Ms => List.subset_cons_of_subset _ (List.subset_append_of_subset_right _ hs)
  refine xloop (I17 u L B b len (1 + vo) ce re) id x ⟨β, M, Hp.emp, none, 0, [], [], [], hn, hC, Own.nil 69 1, trivial, by simp, by simp; omega, ((S.keep [0, 4, 5, 6] rfl).subb (.cons_cons _ (.cons _ (.cons _ (.cons_cons _ .slnil))))).emp.perm (List.Perm.swap _ _ _)⟩ fun d a w ⟨β, M, Mb, A, c, vs, bs, Ms, hn, hC, hO, hA, hb, hd, S⟩ => ?_
  by_cases hd0 : d = 0
  · by_cases hb0 : bs.length = 0
    · refine xr hT S hn true [.b false, .b true] 200 rfl (by (repeat' apply And.intro); all_goals first | exact True.intro | with_reducible assumption | decide +kernel | with_reducible exact Option.isSome_some | omega | with_reducible exact decide_eq_true (by omega) | with_reducible exact decide_eq_false (by omega) | with_reducible exact beq_iff_eq.2 (by omega) | with_reducible exact beq_eq_false_iff_ne.2 (by omega) | with_reducible exact bne_iff_ne.2 (by omega) | with_reducible exact bne_eq_false_iff_eq.2 (by omega) | skip) fun β a w hβ hn S => ?_
      have hb1 : bs = [] := List.eq_nil_of_length_eq_zero hb0
      subst hb1
      refine xret hT S rfl ⟨_, rfl, M, Mb :: Ms, ⟨len, 1 + vo, ce, re, [], []⟩, hC, S.tl', ⟨A, c, none, 0, vs, rfl, hA.mono fun _ _ h => h.mono (List.subset_cons_self _ _), hO.rows List.mem_cons_self, by simp, fun h => absurd h (by simp), fun ad h => by cases h⟩,
        ⟨by simp only; omega, by simp only; omega, hce, hre, by simp, by simp⟩, by simp, fun x0 x1 x2 x3 x4 E n c hv _ => by cases hv; rfl⟩
    · refine xr hT S hn true [.b false, .b false] 200 rfl (by (repeat' apply And.intro); all_goals first | exact True.intro | with_reducible assumption | decide +kernel | with_reducible exact Option.isSome_some | omega | with_reducible exact decide_eq_true (by omega) | with_reducible exact decide_eq_false (by omega) | with_reducible exact beq_iff_eq.2 (by omega) | with_reducible exact beq_eq_false_iff_ne.2 (by omega) | with_reducible exact bne_iff_ne.2 (by omega) | with_reducible exact bne_eq_false_iff_eq.2 (by omega) | skip) fun β a w hβ hn S => ?_
      refine xD S rfl rfl rfl rfl rfl rfl en29 (hs0 _ _) (fun H hs => c29 (n := 14) H hC hs (by omega) (by omega)) fun M v a w hC ⟨y, hv, hy0, hy1⟩ S => ?_
      subst hv
      obtain ⟨y, rfl⟩ := Int.eq_ofNat_of_zero_le hy0
      refine xr hT S hn true [] 200 rfl (by (repeat' apply And.intro); all_goals first | exact True.intro | with_reducible assumption | decide +kernel | with_reducible exact Option.isSome_some | omega | with_reducible exact decide_eq_true (by omega) | with_reducible exact decide_eq_false (by omega) | with_reducible exact beq_iff_eq.2 (by omega) | with_reducible exact beq_eq_false_iff_ne.2 (by omega) | with_reducible exact bne_iff_ne.2 (by omega) | with_reducible exact bne_eq_false_iff_eq.2 (by omega) | skip) fun β a w hβ hn S => ?_
      refine xloop (I17b u (Mb :: (Ms ++ L)) B b len (1 + vo) ce re A c bs.length) id y ⟨β, M, Hp.emp, none, 0, [], hn, hC, Own.nil 31 6, by simp, by simp; omega, (S.keep [0, 4, 5, 7] rfl).emp.perm (List.Perm.swap _ _ _)⟩ fun d a w ⟨β, M, Me, E, cE, evs, hn, hC, hE, he, hd, S⟩ => ?_
      have hs1 : B ⊆ Me :: Mb :: (Ms ++ L) := List.subset_cons_of_subset _ (hs0 _ _)
      by_cases hd0 : d = 0
      · refine xr hT S hn true [.b false] 200 rfl (by (repeat' apply And.intro); all_goals first | exact True.intro | with_reducible assumption | decide +kernel | with_reducible exact Option.isSome_some | omega | with_reducible exact decide_eq_true (by omega) | with_reducible exact decide_eq_false (by omega) | with_reducible exact beq_iff_eq.2 (by omega) | with_reducible exact beq_eq_false_iff_ne.2 (by omega) | with_reducible exact bne_iff_ne.2 (by omega) | with_reducible exact bne_eq_false_iff_eq.2 (by omega) | skip) fun β a w hβ hn S => ?_
        refine xret hT S rfl ⟨_, rfl, M, Me :: Mb :: Ms, ⟨len, 1 + vo, ce, re, bs, evs⟩, hC, S.tl', ⟨A, c, E, cE, vs, rfl, hA.mono fun _ _ h => h.mono (List.subset_cons_of_subset _ (List.subset_cons_self _ _)), hO.rows (List.mem_cons_of_mem _ List.mem_cons_self), hE.rows List.mem_cons_self⟩,
          ⟨by simp only; omega, by simp only; omega, hce, hre, ⟨by simp only; omega, hb⟩, ⟨by simp only; omega, he⟩⟩, by simp only; omega, fun x0 x1 x2 x3 x4 E' n c' hv hn => by cases hv; exact hE.nz hn⟩
      · refine xr hT S hn true [.b true] 200 rfl (by (repeat' apply And.intro); all_goals first | exact True.intro | with_reducible assumption | decide +kernel | with_reducible exact Option.isSome_some | omega | with_reducible exact decide_eq_true (by omega) | with_reducible exact decide_eq_false (by omega) | with_reducible exact beq_iff_eq.2 (by omega) | with_reducible exact beq_eq_false_iff_ne.2 (by omega) | with_reducible exact bne_iff_ne.2 (by omega) | with_reducible exact bne_eq_false_iff_eq.2 (by omega) | skip) fun β1 a w hβ hn S => ?_
        have wb := S.wb
        refine xmix hT 8 11 11 [] _ [] (pre := []) rfl (List.append_nil _).symm S (by decide +kernel) false [] rfl (by (repeat' apply And.intro); all_goals first | exact True.intro | with_reducible assumption | decide +kernel | with_reducible exact Option.isSome_some | omega | with_reducible exact decide_eq_true (by omega) | with_reducible exact decide_eq_false (by omega) | with_reducible exact beq_iff_eq.2 (by omega) | with_reducible exact beq_eq_false_iff_ne.2 (by omega) | with_reducible exact bne_iff_ne.2 (by omega) | with_reducible exact bne_eq_false_iff_eq.2 (by omega) | skip) fun a w S => ?_
        refine xD S rfl rfl rfl rfl rfl rfl en32 hs1 (fun H hs => c32 H hC hs (by omega) (by omega) (by omega) (by omega)) fun M v a w hC ⟨ev, hv, hev⟩ S => ?_
        subst hv
        refine xr hT S hn true [] 1 rfl (by (repeat' apply And.intro); all_goals first | exact True.intro | with_reducible assumption | decide +kernel | with_reducible exact Option.isSome_some | omega | with_reducible exact decide_eq_true (by omega) | with_reducible exact decide_eq_false (by omega) | with_reducible exact beq_iff_eq.2 (by omega) | with_reducible exact beq_eq_false_iff_ne.2 (by omega) | with_reducible exact bne_iff_ne.2 (by omega) | with_reducible exact bne_eq_false_iff_eq.2 (by omega) | skip) fun β2 a w hβ2 hn S => ?_
        refine xas S hβ2 wb (pre := []) rfl (List.append_nil _).symm ?_
        refine xr hT S hn true [] 200 rfl (by (repeat' apply And.intro); all_goals first | exact True.intro | with_reducible assumption | decide +kernel | with_reducible exact Option.isSome_some | omega | with_reducible exact decide_eq_true (by omega) | with_reducible exact decide_eq_false (by omega) | with_reducible exact beq_iff_eq.2 (by omega) | with_reducible exact beq_eq_false_iff_ne.2 (by omega) | with_reducible exact bne_iff_ne.2 (by omega) | with_reducible exact bne_eq_false_iff_eq.2 (by omega) | skip) fun β3 a w hβ3 hn S => ?_
        refine xas S (hβ2.trans hβ3) wb (pre := [_]) rfl (List.append_nil _).symm ?_
        have S := S.perm (List.Perm.swap _ _ _)
        refine xapp hT S rfl rfl rfl rfl rfl rfl rfl rfl hE rfl rfl (news := ev.cells) (S.boxCells (i := 4) (t := 31) (cs := ev.cells.map .v) rfl) rfl (by simp [Ev.cells, Value.oneCell']) (by show (evs.length + 1) * 48 ≤ _; omega) (by simp only [maxLen]; omega) fun v' Me a w hE S => ?_
        obtain ⟨E2, c2, rfl, _⟩ := hE.form
        refine xr hT S hn true [] 1 rfl (by (repeat' apply And.intro); all_goals first | exact True.intro | with_reducible assumption | decide +kernel | with_reducible exact Option.isSome_some | omega | with_reducible exact decide_eq_true (by omega) | with_reducible exact decide_eq_false (by omega) | with_reducible exact beq_iff_eq.2 (by omega) | with_reducible exact beq_eq_false_iff_ne.2 (by omega) | with_reducible exact bne_iff_ne.2 (by omega) | with_reducible exact bne_eq_false_iff_eq.2 (by omega) | skip) fun β4 a w hβ4 hn S => ?_
        refine xas S ((hβ2.trans hβ3).trans hβ4) wb (pre := [_]) rfl (List.append_nil _).symm ?_
        refine xr hT S hn true [] 200 rfl (by (repeat' apply And.intro); all_goals first | exact True.intro | with_reducible assumption | decide +kernel | with_reducible exact Option.isSome_some | omega | with_reducible exact decide_eq_true (by omega) | with_reducible exact decide_eq_false (by omega) | with_reducible exact beq_iff_eq.2 (by omega) | with_reducible exact beq_eq_false_iff_ne.2 (by omega) | with_reducible exact bne_iff_ne.2 (by omega) | with_reducible exact bne_eq_false_iff_eq.2 (by omega) | skip) fun β a w hβ hn S => ?_
        have ed : ((d : Int) - 1) = ((d - 1 : Nat) : Int) := by omega
        rw [ed] at S
        obtain ⟨β, hn, S⟩ := (S.keep [0, 4, 5, 7] rfl).dropb.cut 4 (by rw [hn]; simp) (by simp [SV.wfs, SV.wf]) (by simp [SV.wfs, SV.wf])
        have S := S.perm (List.Perm.swap _ _ _)
        have e : (evs ++ [ev]).length = evs.length + 1 := by simp
        have e2 : (evs ++ [ev]).flatMap Ev.cells = evs.flatMap Ev.cells ++ ev.cells := by simp
        exact xj ⟨d - 1, ⟨β, M, Me, E2, c2, evs ++ [ev], hn, hC, by rw [e, e2]; exact hE,
          fun e' h' => by
            rcases List.mem_append.1 h' with h | h
            · exact he e' h
            · rw [List.mem_singleton.1 h]; exact hev,
          by rw [e]; omega, by rw [e]; exact S⟩, by simp only [id]; omega⟩
  · have wb := S.wb
    refine xr hT S hn true [.b true] 200 rfl (by (repeat' apply And.intro); all_goals first | exact True.intro | with_reducible assumption | decide +kernel | with_reducible exact Option.isSome_some | omega | with_reducible exact decide_eq_true (by omega) | with_reducible exact decide_eq_false (by omega) | with_reducible exact beq_iff_eq.2 (by omega) | with_reducible exact beq_eq_false_iff_ne.2 (by omega) | with_reducible exact bne_iff_ne.2 (by omega) | with_reducible exact bne_eq_false_iff_eq.2 (by omega) | skip) fun β1 a w hβ hn S => ?_
    have wb := S.wb
    refine xmix hT 3 6 6 [] _ [] (pre := []) rfl (List.append_nil _).symm S (by decide +kernel) false [] rfl (by (repeat' apply And.intro); all_goals first | exact True.intro | with_reducible assumption | decide +kernel | with_reducible exact Option.isSome_some | omega | with_reducible exact decide_eq_true (by omega) | with_reducible exact decide_eq_false (by omega) | with_reducible exact beq_iff_eq.2 (by omega) | with_reducible exact beq_eq_false_iff_ne.2 (by omega) | with_reducible exact bne_iff_ne.2 (by omega) | with_reducible exact bne_eq_false_iff_eq.2 (by omega) | skip) fun a w S => ?_
    refine xc S rfl rfl rfl rfl rfl en31 (c31 (most := 4) S.sh.front hC (List.subset_append_of_subset_right _ (hs0 _ _)) (by decide) (by decide)) fun v w ⟨M, Mr, A', n', c', ms, hv, hC, hBo, hle, H⟩ => ?_
    have S := S.ret1 (New := [M, Mr]) 35 v H rfl
    subst hv
    refine xr hT S hn true [] 1 rfl (by (repeat' apply And.intro); all_goals first | exact True.intro | with_reducible assumption | decide +kernel | with_reducible exact Option.isSome_some | omega | with_reducible exact decide_eq_true (by omega) | with_reducible exact decide_eq_false (by omega) | with_reducible exact beq_iff_eq.2 (by omega) | with_reducible exact beq_eq_false_iff_ne.2 (by omega) | with_reducible exact bne_iff_ne.2 (by omega) | with_reducible exact bne_eq_false_iff_eq.2 (by omega) | skip) fun β2 a w hβ2 hn S => ?_
    refine xas S hβ2 wb (pre := []) rfl (List.append_nil _).symm ?_
    refine xr hT S hn true [] 200 rfl (by (repeat' apply And.intro); all_goals first | exact True.intro | with_reducible assumption | decide +kernel | with_reducible exact Option.isSome_some | omega | with_reducible exact decide_eq_true (by omega) | with_reducible exact decide_eq_false (by omega) | with_reducible exact beq_iff_eq.2 (by omega) | with_reducible exact beq_eq_false_iff_ne.2 (by omega) | with_reducible exact bne_iff_ne.2 (by omega) | with_reducible exact bne_eq_false_iff_eq.2 (by omega) | skip) fun β3 a w hβ3 hn S => ?_
    refine xas S (hβ2.trans hβ3) wb (pre := [_]) rfl (List.append_nil _).symm ?_
    have S := S.perm List.perm_middle
    obtain ⟨hlen, hok, hOr⟩ := hBo
    subst hlen
    refine xapp hT S rfl rfl rfl rfl rfl rfl rfl rfl hO rfl rfl (news := [.slice A' ms.length c']) (S.boxCells (i := 4) (t := 69) (cs := [.v (.slice A' ms.length c')]) rfl) rfl (by simp [Value.oneCell']) (by show (bs.length + 1) * 24 ≤ _; omega) (by simp only [maxLen]; omega) fun v' Mb a w hO S => ?_
    obtain ⟨A2, c2, rfl, _⟩ := hO.form
    refine xr hT S hn true [] 1 rfl (by (repeat' apply And.intro); all_goals first | exact True.intro | with_reducible assumption | decide +kernel | with_reducible exact Option.isSome_some | omega | with_reducible exact decide_eq_true (by omega) | with_reducible exact decide_eq_false (by omega) | with_reducible exact beq_iff_eq.2 (by omega) | with_reducible exact beq_eq_false_iff_ne.2 (by omega) | with_reducible exact bne_iff_ne.2 (by omega) | with_reducible exact bne_eq_false_iff_eq.2 (by omega) | skip) fun β4 a w hβ4 hn S => ?_
    refine xas S ((hβ2.trans hβ3).trans hβ4) wb (pre := [_]) rfl (List.append_nil _).symm ?_
    refine xr hT S hn true [] 200 rfl (by (repeat' apply And.intro); all_goals first | exact True.intro | with_reducible assumption | decide +kernel | with_reducible exact Option.isSome_some | omega | with_reducible exact decide_eq_true (by omega) | with_reducible exact decide_eq_false (by omega) | with_reducible exact beq_iff_eq.2 (by omega) | with_reducible exact beq_eq_false_iff_ne.2 (by omega) | with_reducible exact bne_iff_ne.2 (by omega) | with_reducible exact bne_eq_false_iff_eq.2 (by omega) | skip) fun β a w hβ hn S => ?_
    have ed : ((d : Int) - 1) = ((d - 1 : Nat) : Int) := by omega
    rw [ed] at S
    obtain ⟨β, hn, S⟩ := (S.keep [0, 4, 5, 6] rfl).dropb.cut 4 (by rw [hn]; simp) (by simp [SV.wfs, SV.wf]) (by simp [SV.wfs, SV.wf])
    have S := S.perm (List.Perm.swap M Mb _)
    have e : (bs ++ [ms]).length = bs.length + 1 := by simp
    exact xj ⟨d - 1, ⟨β, M, Mb, A2, c2, vs ++ [.slice A' ms.length c'], bs ++ [ms], Mr :: Ms, hn, hC, by rw [e]; exact hO,
      (hA.mono fun _ _ h => h.mono (List.subset_cons_self _ _)).snoc ⟨A', c', rfl, hOr.rows List.mem_cons_self⟩,
      fun b' hb' => by
        rcases List.mem_append.1 hb' with h | h
        · exact hb b' h
        · rw [List.mem_singleton.1 h]; exact ⟨by omega, hok⟩,
      by rw [e]; omega, by rw [e]; exact S⟩, by simp only [id]; omega⟩
end Go.SX
