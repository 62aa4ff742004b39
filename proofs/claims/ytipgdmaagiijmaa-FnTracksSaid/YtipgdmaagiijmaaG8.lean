import Derived.Test.YtipgdmaagiijmaaG7
set_option linter.unusedVariables false
set_option linter.unusedSimpArgs false
namespace Go.SX
/-! ### which events happen when -/
def hap (s : Sc) (q : Pz) (e : Ev) : Pz := { happen s e q with done := q.done + 1 }
theorem hap_now (s : Sc) (q : Pz) (e : Ev) : (hap s q e).now = q.now := happen_now
theorem arrL_fold (s : Sc) : ∀ (l : List Ev) (q : Pz), arrL s l q = (l.takeWhile (fun e => e.at_ == (q.now : Int))).foldl (hap s) q
  | [], q => rfl
  | e :: r, q => by
    rw [arrL, List.takeWhile_cons]
    by_cases h : e.at_ = q.now
    · rw [if_pos h, arrL_fold s r, if_pos (by simpa using h), List.foldl_cons]
      have : (({ happen s e q with done := q.done + 1 } : Pz).now : Int) = q.now := by rw [show ({ happen s e q with done := q.done + 1 } : Pz).now = q.now from hap_now s q e]
      rw [this]
      rfl
    · rw [if_neg h, if_neg (by simpa using h)]
      rfl
theorem fold_done (s : Sc) : ∀ (l : List Ev) (q : Pz), (l.foldl (hap s) q).done = q.done + l.length
  | [], q => rfl
  | e :: r, q => by
    rw [List.foldl_cons, fold_done s r, List.length_cons]
    show q.done + 1 + r.length = _
    omega
theorem fold_now (s : Sc) : ∀ (l : List Ev) (q : Pz), (l.foldl (hap s) q).now = q.now
  | [], q => rfl
  | e :: r, q => by rw [List.foldl_cons, fold_now s r, hap_now]
theorem sorted_parts {t : Int} : ∀ {l : List Ev}, (l.Pairwise fun a b => a.at_ ≤ b.at_) → (∀ e ∈ l, t ≤ e.at_) → l.takeWhile (fun e => e.at_ == t) = l.filter (fun e => e.at_ == t) ∧ l.dropWhile (fun e => e.at_ == t) = l.filter (fun e => decide (t + 1 ≤ e.at_))
  | [], _, _ => ⟨rfl, rfl⟩
  | e :: r, hp, ha => by
    have h1 := List.pairwise_cons.1 hp
    have he := ha e List.mem_cons_self
    rw [List.takeWhile_cons, List.dropWhile_cons, List.filter_cons, List.filter_cons]
    by_cases h : e.at_ = t
    · obtain ⟨i1, i2⟩ := sorted_parts h1.2 (fun x hx => ha x (List.mem_cons_of_mem _ hx))
      rw [if_pos (by simpa using h), if_pos (by simpa using h), if_pos (by simpa using h), if_neg (by simp; omega), i1, i2]
      exact ⟨rfl, rfl⟩
    · have hgt : ∀ x ∈ r, t + 1 ≤ x.at_ := fun x hx => by have := h1.1 x hx; omega
      rw [if_neg (by simpa using h), if_neg (by simpa using h), if_neg (by simpa using h), if_pos (by simp; omega)]
      refine ⟨?_, ?_⟩
      · symm
        rw [List.filter_eq_nil_iff]
        intro x hx
        have := hgt x hx
        simp
        omega
      · congr 1
        symm
        rw [List.filter_eq_self]
        intro x hx
        simpa using hgt x hx
section
variable {s : Sc} {cur : List Ev}
theorem run_rest (hp : cur.Pairwise fun a b => a.at_ ≤ b.at_) (h0 : ∀ e ∈ cur, (0 : Int) ≤ e.at_) : ∀ t, cur.drop (runP s cur t).done = cur.filter (fun e => decide ((t : Int) ≤ e.at_))
  | 0 => by
    symm
    show _ = cur.drop 0
    rw [List.drop_zero, List.filter_eq_self]
    intro e he
    simpa using h0 e he
  | t + 1 => by
    have ih := run_rest hp h0 t
    show cur.drop (arr s cur (runP s cur t)).done = _
    unfold arr
    rw [arrL_fold, fold_done, runP_now, ih]
    have hp2 : (cur.filter (fun e => decide ((t : Int) ≤ e.at_))).Pairwise fun a b => a.at_ ≤ b.at_ := hp.filter _
    have ha2 : ∀ e ∈ cur.filter (fun e => decide ((t : Int) ≤ e.at_)), (t : Int) ≤ e.at_ := fun e he => by simpa using (List.mem_filter.1 he).2
    obtain ⟨i1, i2⟩ := sorted_parts hp2 ha2
    rw [← List.drop_drop, ih]
    generalize hl : cur.filter (fun e => decide ((t : Int) ≤ e.at_)) = l at i1 i2
    have h3 : l.drop (l.takeWhile (fun e => e.at_ == (t : Int))).length = l.dropWhile (fun e => e.at_ == (t : Int)) := by
      have h4 := List.takeWhile_append_dropWhile (p := fun e : Ev => e.at_ == (t : Int)) (l := l)
      conv => lhs; rw [← h4]
      rw [List.drop_left']
      congr 1
      rw [h4]
    rw [h3, i2, ← hl, List.filter_filter]
    refine List.filter_congr fun e he => ?_
    rw [Bool.eq_iff_iff]
    simp
    omega
/-- at t just the events of this time happen -/
theorem arr_at (hc : Sorted s cur) (h0 : ∀ e ∈ cur, (0 : Int) ≤ e.at_) (t : Nat) : arr s cur (runP s cur t) = (s.events.filter (fun e => e.at_ == (t : Int))).foldl (hap s) (runP s cur t) := by
  have hp := srt_pw hc.srt (by rw [hc.len]; exact Nat.le_refl _)
  unfold arr
  rw [arrL_fold, run_rest hp h0, runP_now, ← hc.fil (t : Int)]
  obtain ⟨i1, _⟩ := sorted_parts (t := (t : Int)) (hp.filter (fun e => decide ((t : Int) ≤ e.at_))) (fun e he => by simpa using (List.mem_filter.1 he).2)
  rw [i1, List.filter_filter]
  congr 1
  refine List.filter_congr fun e he => ?_
  rw [Bool.eq_iff_iff]
  simp
  omega
theorem run_succ (t : Nat) : (runP s cur (t + 1)).voices = (VA s cur t).map Vc.next := rfl
/-! ### no strikes, no voices -/
theorem fold_quiet {l : List Ev} (hk : ∀ e ∈ l, e.kind ≠ 1) : ∀ {q : Pz}, q.voices = [] → (l.foldl (hap s) q).voices = [] := by
  induction l with
  | nil => intro q h; exact h
  | cons e r ih =>
    intro q h
    rw [List.foldl_cons]
    refine ih (fun x hx => hk x (List.mem_cons_of_mem _ hx)) ?_
    show (happen s e q).voices = []
    unfold happen
    rw [if_neg (hk e List.mem_cons_self)]
    split
    · show q.voices.map _ = []
      rw [h]; rfl
    · show q.voices.filter _ = []
      rw [h]; rfl
theorem quiet_va (hc : Sorted s cur) (h0 : ∀ e ∈ cur, (0 : Int) ≤ e.at_) (hk : ∀ e ∈ s.events, e.kind ≠ 1) : ∀ t, (runP s cur t).voices = [] ∧ VA s cur t = []
  | 0 => ⟨rfl, by unfold VA; rw [arr_at hc h0]; exact fold_quiet (fun e he => hk e (List.mem_filter.1 he).1) rfl⟩
  | t + 1 => by
    have h1 : (runP s cur (t + 1)).voices = [] := by rw [run_succ, (quiet_va hc h0 hk t).2]; rfl
    exact ⟨h1, by unfold VA; rw [arr_at hc h0]; exact fold_quiet (fun e he => hk e (List.mem_filter.1 he).1) h1⟩
theorem quiet_smp (hcl : Ceil s.ceil) (hr : Rel s.rel) (hc : Sorted s cur) (h0 : ∀ e ∈ cur, (0 : Int) ≤ e.at_) (hk : ∀ e ∈ s.events, e.kind ≠ 1) (t : Nat) : smpP s cur t = 0 := by
  have ho : ∀ t, outsP s cur (runP s cur t) = [] := fun t => by
    have := (quiet_va hc h0 hk t).2
    unfold VA at this
    unfold outsP
    rw [this]
    rfl
  have hz := zero_lim hcl hr
  have he : ∀ t, envP s cur t = 0 := by
    intro t
    induction t with
    | zero => rfl
    | succ t ih =>
      show limE (envP s cur t) (sum32 0 (outsP s cur (runP s cur t))) s.rel = 0
      rw [ih, ho]
      exact hz.1
  show limX (envP s cur t) (sum32 0 (outsP s cur (runP s cur t))) s.ceil s.rel = 0
  rw [he, ho]
  exact hz.2.1
/-! ### all is stopped -/
def stopE (h : Int) (b : Nat) : Ev := ⟨h, 3, b, 0, 0, 0⟩
def stS (s : Sc) (h : Int) : Sc := { s with events := s.events ++ (List.range s.bodies.length).map (stopE h) }
theorem fold_stop {h : Int} : ∀ (m : Nat) (q : Pz) (v : Vc), v ∈ (((List.range m).map (stopE h)).foldl (hap s) q).voices → v ∈ q.voices ∧ ∀ b, b < m → v.body ≠ (b : Int)
  | 0, q, v, hv => ⟨hv, fun b hb => absurd hb (by omega)⟩
  | m + 1, q, v, hv => by
    rw [List.range_succ, List.map_append, List.foldl_append] at hv
    have hv : v ∈ (happen s (stopE h m) (((List.range m).map (stopE h)).foldl (hap s) q)).voices := hv
    unfold happen at hv
    rw [if_neg (show ¬ (stopE h m).kind = 1 by show ¬ (3 : Int) = 1; omega), if_neg (show ¬ (stopE h m).kind = 2 by show ¬ (3 : Int) = 2; omega)] at hv
    obtain ⟨h1, h2⟩ := List.mem_filter.1 hv
    obtain ⟨h3, h4⟩ := fold_stop m q v h1
    refine ⟨h3, fun b hb => ?_⟩
    by_cases hbm : b = m
    · subst hbm
      have : v.body ≠ (b : Int) := by simpa [stopE] using h2
      exact this
    · exact h4 b (by omega)
def Bdy (n : Nat) (q : Pz) : Prop := ∀ v ∈ q.voices, 0 ≤ v.body ∧ v.body < n
theorem fold_bdy {n : Nat} : ∀ {l : List Ev} {q : Pz}, (∀ e ∈ l, 0 ≤ e.body ∧ e.body < n) → Bdy n q → Bdy n (l.foldl (hap s) q)
  | [], q, _, h => h
  | e :: r, q, hl, h => by
    rw [List.foldl_cons]
    refine fold_bdy (fun x hx => hl x (List.mem_cons_of_mem _ hx)) fun v hv => ?_
    have hv : v ∈ (happen s e q).voices := hv
    unfold happen at hv
    split at hv
    · rcases List.mem_append.1 hv with hv | hv
      · refine h v ?_
        split at hv
        · exact List.mem_of_mem_drop hv
        · exact hv
      · rw [List.mem_singleton.1 hv]
        exact hl e List.mem_cons_self
    · split at hv
      · obtain ⟨v0, hv0, rfl⟩ := List.mem_map.1 hv
        have := h v0 hv0
        split <;> exact this
      · exact h v (List.mem_filter.1 hv).1
theorem run_bdy {n : Nat} (hc : Sorted s cur) (h0 : ∀ e ∈ cur, (0 : Int) ≤ e.at_) (hb : ∀ e ∈ s.events, 0 ≤ e.body ∧ e.body < n) : ∀ t, Bdy n (runP s cur t)
  | 0 => fun v hv => by cases hv
  | t + 1 => fun v hv => by
    rw [run_succ] at hv
    obtain ⟨v0, hv0, rfl⟩ := List.mem_map.1 hv
    unfold VA at hv0
    rw [arr_at hc h0] at hv0
    exact fold_bdy (fun e he => hb e (List.mem_filter.1 he).1) (run_bdy hc h0 hb t) v0 hv0
end
theorem stop_va {s : Sc} {cur : List Ev} {h : Nat} (hc : Sorted (stS s h) cur) (h0 : ∀ e ∈ cur, (0 : Int) ≤ e.at_) (hb : ∀ e ∈ s.events, 0 ≤ e.body ∧ e.body < s.bodies.length) (hl : ∀ e ∈ s.events, e.at_ ≤ h) : ∀ j, VA (stS s h) cur (h + j) = []
  | 0 => by
    have hb2 : ∀ e ∈ (stS s h).events, 0 ≤ e.body ∧ e.body < s.bodies.length := by
      intro e he
      rcases List.mem_append.1 he with he | he
      · exact hb e he
      · obtain ⟨b, hb, rfl⟩ := List.mem_map.1 he
        have := List.mem_range.1 hb
        exact ⟨by show (0 : Int) ≤ (b : Int); omega, by show (b : Int) < _; omega⟩
    have he : (stS s h).events.filter (fun e => e.at_ == ((h : Nat) : Int)) = s.events.filter (fun e => e.at_ == ((h : Nat) : Int)) ++ (List.range s.bodies.length).map (stopE h) := by
      show (s.events ++ _).filter _ = _
      rw [List.filter_append]
      congr 1
      rw [List.filter_eq_self]
      intro e he
      obtain ⟨b, _, rfl⟩ := List.mem_map.1 he
      simp [stopE]
    unfold VA
    rw [Nat.add_zero, arr_at hc h0, he, List.foldl_append]
    refine List.eq_nil_iff_forall_not_mem.2 fun v hv => ?_
    obtain ⟨h1, h2⟩ := fold_stop _ _ v hv
    have h3 := fold_bdy (s := stS s h) (n := s.bodies.length) (l := s.events.filter (fun e => e.at_ == ((h : Nat) : Int))) (fun e he => hb e (List.mem_filter.1 he).1) (run_bdy hc h0 hb2 h) v h1
    exact h2 v.body.toNat (by omega) (by omega)
  | j + 1 => by
    have ih := stop_va hc h0 hb hl j
    unfold VA
    rw [arr_at hc h0]
    have he : (stS s h).events.filter (fun e => e.at_ == ((h + (j + 1) : Nat) : Int)) = [] := by
      rw [List.filter_eq_nil_iff]
      intro e he
      have : e.at_ ≤ h := by
        rcases List.mem_append.1 he with he | he
        · exact hl e he
        · obtain ⟨b, _, rfl⟩ := List.mem_map.1 he
          exact Int.le_refl _
      simp
      omega
    rw [he, List.foldl_nil, show h + (j + 1) = (h + j) + 1 by omega, run_succ, ih]
    rfl
end Go.SX
set_option maxRecDepth 100000
set_option linter.unusedVariables false
set_option linter.unusedSectionVars false
namespace Go.SX
open Go.Proofs
section
variable {P : Program} {T : TT} (hT : TabOk P T) {R : Exit → Act → World → Prop} {β : List Nat} {bx : BL} {u w : World} {a : Act} {n : Nat} {l : EL} {tl : List Hp} {k : List TK} {all rest : List Oper} {o : Oper}
theorem St.refine (S : St β u w a n l bx tl) (t : Nat) {x y : SV} (h : lk l t = some x) (e : SV.dn β y = SV.dn β x) (hy : SV.wf β.length y) : St β u w a n ((t, y) :: l) bx tl := ⟨S.env.refine h e hy, S.sh, S.wb⟩
include hT
/-- make, behind a guard that is met -/
theorem xmakeG {x y : Operand} {t e : Nat} {s1 s2 : Nat} {z1 : Value} {ie : TInfo} {kx ky : IntKind} {n0 m : Nat} {ix iy : Int} (S : St β u w a n l bx tl)
    (ho : o.op = .makeSlice t x y) (hg : guardV all [] l o = some ([], l, true, True)) (hd : dOk n o.dst = true)
    (ht : tk T t = some ⟨s1, s2, z1, .slice e⟩) (he : tk T e = some ie) (hz : ie.zero.cells.size = ie.size)
    (hx : evo l x = some (.v (.int kx ix))) (hy : evo l y = some (.v (.int ky iy))) (hix : ix = n0) (hiy : iy = m)
    (hnm : n0 ≤ m) (hb : m * ie.bytes ≤ 281474976710656) (hb0 : 0 < ie.bytes)
    (hk : ∀ v' M' a' w', Own M' e ie.size v' n0 (((List.replicate m ie.zero.cells.toList).flatten).take (n0 * ie.size)) → St β u w' a' n (putl l o.dst (.v v')) bx (M' :: tl) → PQ P R (.r all rest :: k) .normal a' w') :
    PQ P R (.r all (o :: rest) :: k) .normal a w := by
  have h := xmake hT (P := P) (all := all) (rest := rest) (k := k) (R := R) (o := { o with guard := none }) S ho rfl hd ht he hz hx hy hix hiy hnm hb hb0 hk
  simp only [PQ, Exit.then] at h ⊢
  unfold wpList at h ⊢
  rw [if_pos (guardV_ok S.env hg trivial).2]
  rw [if_pos (by simp [Region.wanted])] at h
  exact h
/-- append of a row that is there, or of nothing -/
theorem xappR {s x : Operand} {t e : Nat} {s1 s2 : Nat} {z1 : Value} {ie : TInfo} {M : Hp} {v : Value} {m c n0 : Nat} {E : Option Addr} {xs news : List Value} (S : St β u w a n l bx (M :: tl))
    (ho : o.op = .call ⟨.builtin .append, #[s, x], #[t, t]⟩) (hg : o.guard = none) (hd : dOk n o.dst = true)
    (ht : tk T t = some ⟨s1, s2, z1, .slice e⟩) (he : tk T e = some ie) (hz : ie.zero.cells.size = ie.size) (hsz : Nat.ble 1 ie.size = true)
    (hs : evo l s = some (.v v)) (hO : Own M e ie.size v n0 xs) (hx : evo l x = some (.v (.slice E m c))) (hR : Rows (M :: tl) E m ie.size news) (hE : E = none → c = 0)
    (hone : ∀ u ∈ news, u.oneCell' = true)
    (hbytes : (n0 + m) * ie.bytes ≤ 140737488355328) (h63 : n0 + m ≤ maxLen)
    (hk : ∀ v' M' a' w', Own M' e ie.size v' (n0 + m) (xs ++ news) → St β u w' a' n (putl l o.dst (.v v')) bx (M' :: tl) → PQ P R (.r all rest :: k) .normal a' w') :
    PQ P R (.r all (o :: rest) :: k) .normal a w := by
  cases E with
  | some ad => exact xapp hT S ho hg hd ht he hz hsz hs hO hx rfl (fun j u hu => (hR.2.2 ad rfl j u hu).run S.sh) hR.1 hone hbytes h63 hk
  | none =>
    have hm : m = 0 := by
      rcases Nat.eq_zero_or_pos m with h | h
      · exact h
      · obtain ⟨ad, h⟩ := hR.2.1 h
        cases h
    subst hm
    cases hE rfl
    have hn : news = [] := List.eq_nil_of_length_eq_zero (by rw [hR.1, Nat.zero_mul])
    subst hn
    refine xapp0 hT S ho hg hd ht he hs hO hx fun a' S' => hk v M a' w ?_ S'
    rw [List.append_nil]
    exact hO
end
variable {u w : World} {L B : List Hp} {b : Nat} {M : Hp}
theorem ScOk.mono {m m' : Int} {s : Sc} (h : ScOk m s) (hm : m ≤ m') : ScOk m' s := ⟨⟨h.len.1, by have := h.len.2; omega⟩, h.voices, h.ceil, h.rel, h.bodies, h.events⟩
def qS (s : Sc) : Sc := { s with events := s.events.filter fun e => e.kind != 1 }
theorem qS_ok {m : Int} {s : Sc} (h : ScOk m s) : ScOk m (qS s) := ⟨h.len, h.voices, h.ceil, h.rel, h.bodies, by
  show (s.events.filter _).length ≤ 16
  have := List.length_filter_le (fun e : Ev => e.kind != 1) s.events
  have := h.events.1
  omega, fun e he => h.events.2 e (List.mem_filter.1 he).1⟩
theorem stS_ok {m : Int} {s : Sc} {d : Nat} (h : ScOk m s) (hd : (d : Int) ≤ s.len) (hn : s.events.length ≤ 13) : ScOk m (stS s d) := ⟨h.len, h.voices, h.ceil, h.rel, h.bodies, by
  show (s.events ++ (List.range s.bodies.length).map (stopE d)).length ≤ 16
  have := h.bodies.1
  simp
  omega, fun e he => by
  rcases List.mem_append.1 he with he | he
  · exact h.events.2 e he
  · obtain ⟨b, hb, rfl⟩ := List.mem_map.1 he
    have := List.mem_range.1 hb
    exact ⟨⟨by show (0 : Int) ≤ (d : Int); omega, hd⟩, ⟨by show (0 : Int) ≤ (b : Int); omega, by show (b : Int) < _; simpa [stS] using this⟩, .inr (.inr ⟨rfl, rfl, rfl, rfl⟩)⟩⟩
def flt (s : Sc) (i : Nat) : List Ev := (s.events.take i).filter fun e => e.kind != 1
abbrev BQ (s : Sc) (A : Option Addr) (cb : Nat) (E : Option Addr) (k ce : Nat) (i : Nat) : Nat × Nat × List SV := (i, 27, [.v (.int .i64 s.len), .v (.int .i64 s.voices), .v (.float .f32 s.ceil), .v (.float .f32 s.rel), .v (.slice A s.bodies.length cb), .v (.slice E k ce)])
def I4a (u : World) (L : List Hp) (s : Sc) (A : Option Addr) (cb : Nat) (E : Option Addr) (ce : Nat) (i : Nat) (a : Act) (w : World) : Prop := ∃ β Mq Eq cq, β.length = 2 ∧ i ≤ s.events.length ∧ Own Mq 31 6 (.slice Eq (List.length (flt s i)) cq) (List.length (flt s i)) (List.flatMap Ev.cells (flt s i)) ∧
  St β u w a 171 [(3, .p 0 0), (4, .p 1 0), (30, .v (.slice E s.events.length ce)), (31, .v (.int .i64 s.events.length)), (32, .v (.int .i64 (i : Int)))] [BQ s A cb Eq (List.length (flt s i)) cq 1, BXs 0 s A cb E ce] (Mq :: L)
theorem ev_one (evs : List Ev) : ∀ v ∈ evs.flatMap Ev.cells, v.oneCell' = true := by
  intro v hv
  obtain ⟨e, _, he⟩ := List.mem_flatMap.1 hv
  simp only [Ev.cells, List.mem_cons, List.not_mem_nil, or_false] at he
  rcases he with rfl | rfl | rfl | rfl | rfl | rfl <;> rfl
def I4b (u : World) (L : List Hp) (s : Sc) (A : Option Addr) (cb : Nat) (E : Option Addr) (ce : Nat) (d : Nat) (i : Nat) (a : Act) (w : World) : Prop := ∃ β Mx Es cs, β.length = 3 ∧ i ≤ s.bodies.length ∧ Own Mx 31 6 (.slice Es (s.events.length + i) cs) (s.events.length + i) (List.flatMap Ev.cells (s.events ++ List.map (stopE d) (List.range i))) ∧
  St β u w a 171 [(3, .p 0 0), (9, .p 2 0), (69, .v (.int .i64 s.bodies.length)), (70, .v (.int .i64 (i : Int)))] [BQ s A cb Es (s.events.length + i) cs 2, BXs 0 s A cb E ce] (Mx :: L)
def lateB (s : Sc) (d : Nat) (i : Nat) : Bool := (s.events.take i).any fun e => decide ((d : Int) < e.at_)
def I4c (u : World) (L : List Hp) (s : Sc) (A : Option Addr) (cb : Nat) (E : Option Addr) (ce : Nat) (d : Nat) (b2 : Nat × Nat × List SV) (i : Nat) (a : Act) (w : World) : Prop := ∃ β, β.length = 3 ∧ i ≤ s.events.length ∧
  St β u w a 171 [(3, .p 0 0), (9, .p 2 0), (11, .v (.bool (lateB s d i))), (89, .v (.slice E s.events.length ce)), (90, .v (.int .i64 s.events.length)), (91, .v (.int .i64 (i : Int)))] [b2, BXs 0 s A cb E ce] L
theorem lateB_succ {s : Sc} {d i : Nat} (h : i < s.events.length) : lateB s d (i + 1) = (lateB s d i || decide ((d : Int) < s.events[i].at_)) := by
  unfold lateB
  rw [List.take_add_one, List.getElem?_eq_getElem h, List.any_append]
  simp
theorem c4 {A : Option Addr} {n c : Nat} (H : SH u w L) (hB : n ≤ 1048576 → Byt B A n) (hs : B ⊆ L) (hn : n ≤ 9223372036854775807) : Ret Try.prog 4 [.slice A n c] w (Pl u L fun v => v = .bool true) := by
  refine ent Try.func4 rfl H 171 rfl [(0, .v (.slice A n c))] rfl rfl fun a S => ?_
  by_cases hbig : n ≤ 1048576
  · refine xr hT S rfl true [.b false] 200 rfl (by (repeat' apply And.intro); all_goals first | exact True.intro | with_reducible assumption | decide +kernel | with_reducible exact Option.isSome_some | omega | with_reducible exact decide_eq_true (by omega) | with_reducible exact decide_eq_false (by omega) | with_reducible exact beq_iff_eq.2 (by omega) | with_reducible exact beq_eq_false_iff_ne.2 (by omega) | with_reducible exact bne_iff_ne.2 (by omega) | with_reducible exact bne_eq_false_iff_eq.2 (by omega) | skip) fun β a w hβ hl S => ?_
    refine xc S rfl rfl rfl rfl rfl en7 (c7 (most := 30) S.sh (hB hbig) (List.subset_append_of_subset_right _ hs) hbig (by decide) (by decide)) fun v w ⟨New, s, H, hR, hO, hn13, hnz⟩ => ?_
    have S := S.retd (New := New) 26 v H rfl
    obtain ⟨A1, cb, E, ce, vs, rfl, hA1, hRA, hRE⟩ := hR
    have hO40 : ScOk 40 s := hO.mono (by decide)
    have hce : E = none → ce = 0 := hnz _ _ _ _ _ _ _ _ rfl
    have hlen := hO.len
    have hNi : ((s.len.toNat : Nat) : Int) = s.len := Int.toNat_of_nonneg hlen.1
    generalize hN : s.len.toNat = N at hNi
    refine xr hT S hl true [] 200 rfl (by (repeat' apply And.intro); all_goals first | exact True.intro | with_reducible assumption | decide +kernel | with_reducible exact Option.isSome_some | omega | with_reducible exact decide_eq_true (by omega) | with_reducible exact decide_eq_false (by omega) | with_reducible exact beq_iff_eq.2 (by omega) | with_reducible exact beq_eq_false_iff_ne.2 (by omega) | with_reducible exact bne_iff_ne.2 (by omega) | with_reducible exact bne_eq_false_iff_eq.2 (by omega) | skip) fun β1 a w hβ1 hl S => ?_
    refine xloop (I4a u (New ++ L) s A1 cb E ce) (fun i => s.events.length - i) 0 ⟨β1, Hp.emp, none, 0, hl, Nat.zero_le _, Own.nil 31 6, (S.keep [3, 4, 30, 31, 32] rfl).emp⟩ fun i a w ⟨β, Mq, Eq, cq, hl, hi, hOq, S⟩ => ?_
    by_cases hin : i < s.events.length
    · obtain ⟨ad, rfl⟩ := hRE.2.1 (by omega)
      have hc := ((hRE.2.2 ad rfl).mono (L' := Mq :: (New ++ L)) (fun m hm => by simp [hm])).elem ev_len hin
      have ei : (i : Int) + 1 = ((i + 1 : Nat) : Int) := by omega
      have htk : s.events.take (i + 1) = s.events.take i ++ [s.events[i]] := by rw [List.take_add_one, List.getElem?_eq_getElem hin]; rfl
      have hfl : (flt s i).length ≤ 13 := by
        have := List.length_filter_le (fun e : Ev => e.kind != 1) (s.events.take i)
        rw [List.length_take] at this
        unfold flt
        omega
      by_cases hk : s.events[i].kind = 1
      · refine xr hT S hl true [.b true, .v (s.events[i]).cells, .b false] 200 rfl ?_ fun β2 a w hβ2 hl S => ?_
        · (repeat' apply And.intro); all_goals first | exact True.intro | with_reducible assumption | decide +kernel | with_reducible exact Option.isSome_some | omega | with_reducible exact decide_eq_true (by omega) | with_reducible exact decide_eq_false (by omega) | with_reducible exact beq_iff_eq.2 (by omega) | with_reducible exact beq_eq_false_iff_ne.2 (by omega) | with_reducible exact bne_iff_ne.2 (by omega) | with_reducible exact bne_eq_false_iff_eq.2 (by omega) | skip
          all_goals first | exact bne_eq_false_iff_eq.2 hk | (show RdV _ (ad.add (Int.toNat (i : Int) * 6)) _; rw [Int.toNat_natCast]; exact hc)
        rw [ei] at S
        obtain ⟨βz, hlz, S⟩ := ((S.keep [3, 4, 30, 31, 32] rfl).dropb).cut 2 (by rw [hl]; simp) (by simp [SV.wfs, SV.wf]) (by simp [SV.wfs, SV.wf])
        have ef : flt s (i + 1) = flt s i := by unfold flt; rw [htk, List.filter_append]; simp [hk]
        exact xj ⟨i + 1, ⟨βz, Mq, Eq, cq, hlz, by omega, by rw [ef]; exact hOq, by rw [ef]; exact S⟩, by omega⟩
      · refine xr hT S hl true [.b true, .v (s.events[i]).cells, .b true] 200 rfl ?_ fun β2 a w hβ2 hl S => ?_
        · (repeat' apply And.intro); all_goals first | exact True.intro | with_reducible assumption | decide +kernel | with_reducible exact Option.isSome_some | omega | with_reducible exact decide_eq_true (by omega) | with_reducible exact decide_eq_false (by omega) | with_reducible exact beq_iff_eq.2 (by omega) | with_reducible exact beq_eq_false_iff_ne.2 (by omega) | with_reducible exact bne_iff_ne.2 (by omega) | with_reducible exact bne_eq_false_iff_eq.2 (by omega) | skip
          all_goals first | exact bne_iff_ne.2 hk | (show RdV _ (ad.add (Int.toNat (i : Int) * 6)) _; rw [Int.toNat_natCast]; exact hc)
        refine xapp hT S rfl rfl rfl rfl rfl rfl rfl rfl hOq rfl rfl (news := (s.events[i]).cells) (S.boxCells (i := 3) (t := 31) (cs := (s.events[i]).cells.map .v) rfl) rfl (by simp [Ev.cells, Value.oneCell']) (by show ((flt s i).length + 1) * 48 ≤ _; omega) (by simp only [maxLen]; omega) fun v' Mq a w hOq S => ?_
        obtain ⟨Eq, cq, rfl, _⟩ := hOq.form
        refine xr hT S hl true [] 200 rfl (by (repeat' apply And.intro); all_goals first | exact True.intro | with_reducible assumption | decide +kernel | with_reducible exact Option.isSome_some | omega | with_reducible exact decide_eq_true (by omega) | with_reducible exact decide_eq_false (by omega) | with_reducible exact beq_iff_eq.2 (by omega) | with_reducible exact beq_eq_false_iff_ne.2 (by omega) | with_reducible exact bne_iff_ne.2 (by omega) | with_reducible exact bne_eq_false_iff_eq.2 (by omega) | skip) fun β3 a w hβ3 hl S => ?_
        rw [ei] at S
        obtain ⟨βz, hlz, S⟩ := ((S.keep [3, 4, 30, 31, 32] rfl).dropb.dropb).cut 2 (by rw [hl]; simp) (by simp [SV.wfs, SV.wf]) (by simp [SV.wfs, SV.wf])
        have ef : flt s (i + 1) = flt s i ++ [s.events[i]] := by unfold flt; rw [htk, List.filter_append]; simp [hk]
        have el : (flt s (i + 1)).length = (flt s i).length + 1 := by rw [ef]; simp
        exact xj ⟨i + 1, ⟨βz, Mq, Eq, cq, hlz, by omega, by rw [el, ef, List.flatMap_append]; simpa using hOq, by rw [el]; exact S⟩, by omega⟩
    · have e1 : i = s.events.length := by omega
      subst e1
      have eq1 : flt s s.events.length = (qS s).events := by unfold flt; rw [List.take_of_length_le (Nat.le_refl _)]; rfl
      rw [eq1] at hOq S
      refine xr hT S hl true [.b false] 200 rfl (by (repeat' apply And.intro); all_goals first | exact True.intro | with_reducible assumption | decide +kernel | with_reducible exact Option.isSome_some | omega | with_reducible exact decide_eq_true (by omega) | with_reducible exact decide_eq_false (by omega) | with_reducible exact beq_iff_eq.2 (by omega) | with_reducible exact beq_eq_false_iff_ne.2 (by omega) | with_reducible exact bne_iff_ne.2 (by omega) | with_reducible exact bne_eq_false_iff_eq.2 (by omega) | skip) fun β2 a w hβ2 hl S => ?_
      have hcall := c9 (s := qS s) (A := A1) (E := Eq) (cb := cb) (ce := cq) (vs := vs) (most := 40) S.sh (hA1.mono fun _ _ h => h.mono (fun m hm => by simp [hm])) (hRA.mono (fun m hm => by simp [hm])) (hOq.rows (by simp)) (qS_ok hO40) (by decide) (fun cur hc t ht => (good_all (qS_ok hO40) hc t (by have h1 : (qS s).len.toNat = s.len.toNat := rfl; omega)).1)
      have hqn : (qS s).len.toNat = N := hN
      rw [hqn] at hcall
      refine xc S rfl rfl rfl rfl rfl en9 hcall fun v w ⟨cur, O, Ao, co, hcur, hv, hOo, H⟩ => ?_
      have S := S.retd (New := [O]) 48 v H rfl
      subst hv
      have hz : (List.range N).map (smpP (qS s) cur) = List.replicate N 0 := by
        refine List.ext_getElem (by simp) fun i h1 h2 => ?_
        simp only [List.getElem_map, List.getElem_range, List.getElem_replicate]
        exact quiet_smp (s := qS s) hO.ceil hO.rel hcur (fun e he => (hcur.ev (qS_ok hO40) e he).1.1) (fun e he => by simpa using (List.mem_filter.1 he).2) i
      rw [hz] at hOo
      refine xr hT S hl true [.b false] 200 rfl (by (repeat' apply And.intro); all_goals first | exact True.intro | with_reducible assumption | decide +kernel | with_reducible exact Option.isSome_some | omega | with_reducible exact decide_eq_true (by omega) | with_reducible exact decide_eq_false (by omega) | with_reducible exact beq_iff_eq.2 (by omega) | with_reducible exact beq_eq_false_iff_ne.2 (by omega) | with_reducible exact bne_iff_ne.2 (by omega) | with_reducible exact bne_eq_false_iff_eq.2 (by omega) | skip) fun β3 a w hβ3 hl S => ?_
      refine xmakeG hT S rfl rfl rfl rfl rfl rfl rfl rfl (n0 := N) (m := N) hNi.symm hNi.symm (Nat.le_refl _) (by show N * 4 ≤ _; omega) (by decide) fun v' Mz a w hOz S => ?_
      obtain ⟨Az, cz, rfl, _⟩ := hOz.form
      have hOz : Own Mz 23 1 (.slice Az N cz) N ((List.replicate N 0).map fV) := by
        rw [← rep_f0 N N (Nat.le_refl _)]
        exact hOz
      refine xr hT S hl true [] 200 rfl (by (repeat' apply And.intro); all_goals first | exact True.intro | with_reducible assumption | decide +kernel | with_reducible exact Option.isSome_some | omega | with_reducible exact decide_eq_true (by omega) | with_reducible exact decide_eq_false (by omega) | with_reducible exact beq_iff_eq.2 (by omega) | with_reducible exact beq_eq_false_iff_ne.2 (by omega) | with_reducible exact bne_iff_ne.2 (by omega) | with_reducible exact bne_eq_false_iff_eq.2 (by omega) | skip) fun β4 a w hβ4 hl S => ?_
      refine xP S rfl rfl rfl rfl rfl rfl en10 (fun H => c10 (n := N) (xs := List.replicate N 0) H (hOo.rows (by simp)) (hOz.rows (by simp)) (by omega) (fun y hy => by rw [(List.mem_replicate.1 hy).2]; exact num0)) fun v a w hv S => ?_
      subst hv
      have S := S.sub (tl' := New ++ L) (((List.sublist_cons_self Mq _).trans (List.sublist_append_right [O] _)).cons Mz)
      have hdv : s.len / 2 = ((N / 2 : Nat) : Int) := by omega
      have hbl := hO.bodies.1
      refine xr hT S hl true [.b false] 200 rfl (by (repeat' apply And.intro); all_goals first | exact True.intro | with_reducible assumption | decide +kernel | with_reducible exact Option.isSome_some | omega | with_reducible exact decide_eq_true (by omega) | with_reducible exact decide_eq_false (by omega) | with_reducible exact beq_iff_eq.2 (by omega) | with_reducible exact beq_eq_false_iff_ne.2 (by omega) | with_reducible exact bne_iff_ne.2 (by omega) | with_reducible exact bne_eq_false_iff_eq.2 (by omega) | skip) fun β5 a w hβ5 hl S => ?_
      have S := S.unbox (d := 62) rfl
      refine xappR hT S rfl rfl rfl rfl rfl rfl rfl rfl (Own.empty _ 31 6) rfl (hRE.mono (fun m hm => by simp [hm])) hce (ev_one _) (by show (0 + s.events.length) * 48 ≤ _; omega) (by simp only [maxLen]; omega) fun v' Mx a w hOx S => ?_
      obtain ⟨Es, cs, rfl, _⟩ := hOx.form
      refine xr hT S hl true [] 200 rfl (by (repeat' apply And.intro); all_goals first | exact True.intro | with_reducible assumption | decide +kernel | with_reducible exact Option.isSome_some | omega | with_reducible exact decide_eq_true (by omega) | with_reducible exact decide_eq_false (by omega) | with_reducible exact beq_iff_eq.2 (by omega) | with_reducible exact beq_eq_false_iff_ne.2 (by omega) | with_reducible exact bne_iff_ne.2 (by omega) | with_reducible exact bne_eq_false_iff_eq.2 (by omega) | skip) fun β6 a w hβ6 hl S => ?_
      obtain ⟨βz, hlz, S⟩ := ((S.keep [3, 9, 69, 70] rfl).subb (bx' := [BQ s A1 cb Es (0 + s.events.length) cs 2, BXs 0 s A1 cb E ce]) (.cons_cons _ (.cons _ (.cons_cons _ .slnil)))).cut 3 (by rw [hl]; simp) (by simp [SV.wfs, SV.wf]) (by simp [SV.wfs, SV.wf])
      rw [Nat.zero_add] at S hOx
      refine xloop (I4b u (New ++ L) s A1 cb E ce (N / 2)) (fun i => s.bodies.length - i) 0 ⟨βz, Mx, Es, cs, hlz, Nat.zero_le _, by simpa using hOx, S⟩ fun i a w ⟨β, Mx, Es, cs, hl, hi, hOx, S⟩ => ?_
      by_cases hin : i < s.bodies.length
      · have ei : (i : Int) + 1 = ((i + 1 : Nat) : Int) := by omega
        refine xr hT S hl true [.b true, .b true] 200 rfl (by (repeat' apply And.intro); all_goals first | exact True.intro | with_reducible assumption | decide +kernel | with_reducible exact Option.isSome_some | omega | with_reducible exact decide_eq_true (by omega) | with_reducible exact decide_eq_false (by omega) | with_reducible exact beq_iff_eq.2 (by omega) | with_reducible exact beq_eq_false_iff_ne.2 (by omega) | with_reducible exact bne_iff_ne.2 (by omega) | with_reducible exact bne_eq_false_iff_eq.2 (by omega) | skip) fun β7 a w hβ7 hl S => ?_
        rw [hdv] at S
        refine xapp hT S rfl rfl rfl rfl rfl rfl rfl rfl hOx rfl rfl (news := (stopE ((N / 2 : Nat) : Int) i).cells) (S.boxCells (i := 3) (t := 31) (cs := (stopE ((N / 2 : Nat) : Int) i).cells.map .v) rfl) rfl (by simp [Ev.cells, Value.oneCell']) (by show (s.events.length + i + 1) * 48 ≤ _; omega) (by simp only [maxLen]; omega) fun v' Mx a w hOx S => ?_
        obtain ⟨Es, cs, rfl, _⟩ := hOx.form
        refine xr hT S hl true [] 200 rfl (by (repeat' apply And.intro); all_goals first | exact True.intro | with_reducible assumption | decide +kernel | with_reducible exact Option.isSome_some | omega | with_reducible exact decide_eq_true (by omega) | with_reducible exact decide_eq_false (by omega) | with_reducible exact beq_iff_eq.2 (by omega) | with_reducible exact beq_eq_false_iff_ne.2 (by omega) | with_reducible exact bne_iff_ne.2 (by omega) | with_reducible exact bne_eq_false_iff_eq.2 (by omega) | skip) fun β8 a w hβ8 hl S => ?_
        rw [ei] at S
        obtain ⟨βz, hlz, S⟩ := ((S.keep [3, 9, 69, 70] rfl).dropb).cut 3 (by rw [hl]; simp) (by simp [SV.wfs, SV.wf]) (by simp [SV.wfs, SV.wf])
        refine xj ⟨i + 1, ⟨βz, Mx, Es, cs, hlz, by omega, ?_, S⟩, by omega⟩
        rw [List.range_succ, List.map_append, ← List.append_assoc, List.flatMap_append]
        simp only [List.map_cons, List.map_nil, List.flatMap_cons, List.flatMap_nil, List.append_nil]
        exact hOx
      · have e1 : i = s.bodies.length := by omega
        subst e1
        refine xr hT S hl true [.b false] 200 rfl (by (repeat' apply And.intro); all_goals first | exact True.intro | with_reducible assumption | decide +kernel | with_reducible exact Option.isSome_some | omega | with_reducible exact decide_eq_true (by omega) | with_reducible exact decide_eq_false (by omega) | with_reducible exact beq_iff_eq.2 (by omega) | with_reducible exact beq_eq_false_iff_ne.2 (by omega) | with_reducible exact bne_iff_ne.2 (by omega) | with_reducible exact bne_eq_false_iff_eq.2 (by omega) | skip) fun β7 a w hβ7 hl S => ?_
        have S := S.refine (β := β7) 11 (y := .v (.bool (lateB s (N / 2) 0))) rfl rfl trivial
        obtain ⟨βz, hlz, S⟩ := (S.keep [3, 9, 11, 89, 90, 91] rfl).cut 3 (by rw [hl]; simp) (by simp [SV.wfs, SV.wf]) (by simp [SV.wfs, SV.wf])
        refine xloop (I4c u (Mx :: (New ++ L)) s A1 cb E ce (N / 2) (BQ s A1 cb Es (s.events.length + s.bodies.length) cs 2)) (fun i => s.events.length - i) 0 ⟨βz, hlz, Nat.zero_le _, S⟩ fun i a w ⟨β, hl, hi, S⟩ => ?_
        by_cases hin : i < s.events.length
        · obtain ⟨ad, rfl⟩ := hRE.2.1 (by omega)
          have hc := ((hRE.2.2 ad rfl).mono (L' := Mx :: (New ++ L)) (fun m hm => by simp [hm])).elem ev_len hin
          have ei : (i : Int) + 1 = ((i + 1 : Nat) : Int) := by omega
          have hls := lateB_succ (s := s) (d := N / 2) hin
          cases hlb : lateB s (N / 2) i with
          | true =>
            rw [hlb] at S hls
            refine xr hT S hl true [.b true, .v (s.events[i]).cells, .b true] 200 rfl ?_ fun β8 a w hβ8 hl S => ?_
            · (repeat' apply And.intro); all_goals first | exact True.intro | with_reducible assumption | decide +kernel | with_reducible exact Option.isSome_some | omega | with_reducible exact decide_eq_true (by omega) | with_reducible exact decide_eq_false (by omega) | with_reducible exact beq_iff_eq.2 (by omega) | with_reducible exact beq_eq_false_iff_ne.2 (by omega) | with_reducible exact bne_iff_ne.2 (by omega) | with_reducible exact bne_eq_false_iff_eq.2 (by omega) | skip
              all_goals (show RdV _ (ad.add (Int.toNat (i : Int) * 6)) _; rw [Int.toNat_natCast]; exact hc)
            have S := S.refine (β := β8) 11 (y := .v (.bool (lateB s (N / 2) (i + 1)))) rfl (by rw [hls]; rfl) trivial
            rw [ei] at S
            obtain ⟨βz, hlz, S⟩ := ((S.keep [3, 9, 11, 89, 90, 91] rfl).dropb).cut 3 (by rw [hl]; simp) (by simp [SV.wfs, SV.wf]) (by simp [SV.wfs, SV.wf])
            exact xj ⟨i + 1, ⟨βz, hlz, by omega, S⟩, by omega⟩
          | false =>
            rw [hlb] at S hls
            refine xr hT S hl true [.b true, .v (s.events[i]).cells, .b false] 200 rfl ?_ fun β8 a w hβ8 hl S => ?_
            · (repeat' apply And.intro); all_goals first | exact True.intro | with_reducible assumption | decide +kernel | with_reducible exact Option.isSome_some | omega | with_reducible exact decide_eq_true (by omega) | with_reducible exact decide_eq_false (by omega) | with_reducible exact beq_iff_eq.2 (by omega) | with_reducible exact beq_eq_false_iff_ne.2 (by omega) | with_reducible exact bne_iff_ne.2 (by omega) | with_reducible exact bne_eq_false_iff_eq.2 (by omega) | skip
              all_goals (show RdV _ (ad.add (Int.toNat (i : Int) * 6)) _; rw [Int.toNat_natCast]; exact hc)
            have S := S.refine (β := β8) 11 (y := .v (.bool (lateB s (N / 2) (i + 1)))) rfl (by rw [hls, Bool.false_or, ← hdv]) trivial
            rw [ei] at S
            obtain ⟨βz, hlz, S⟩ := ((S.keep [3, 9, 11, 89, 90, 91] rfl).dropb).cut 3 (by rw [hl]; simp) (by simp [SV.wfs, SV.wf]) (by simp [SV.wfs, SV.wf])
            exact xj ⟨i + 1, ⟨βz, hlz, by omega, S⟩, by omega⟩
        · have e1 : i = s.events.length := by omega
          subst e1
          by_cases hz0 : s.len = 0
          · refine xr hT S hl true [.b false, .b true] 200 rfl (by (repeat' apply And.intro); all_goals first | exact True.intro | with_reducible assumption | decide +kernel | with_reducible exact Option.isSome_some | omega | with_reducible exact decide_eq_true (by omega) | with_reducible exact decide_eq_false (by omega) | with_reducible exact beq_iff_eq.2 (by omega) | with_reducible exact beq_eq_false_iff_ne.2 (by omega) | with_reducible exact bne_iff_ne.2 (by omega) | with_reducible exact bne_eq_false_iff_eq.2 (by omega) | skip) fun β8 a w hβ8 hl S => ?_
            exact xret hT S rfl ⟨_, rfl, rfl, (S.tl'.sub (List.sublist_cons_self _ _)).sub (List.sublist_append_right _ _)⟩
          · cases hlb : lateB s (N / 2) s.events.length with
            | true =>
              rw [hlb] at S
              refine xr hT S hl true [.b false, .b false, .b true] 200 rfl (by (repeat' apply And.intro); all_goals first | exact True.intro | with_reducible assumption | decide +kernel | with_reducible exact Option.isSome_some | omega | with_reducible exact decide_eq_true (by omega) | with_reducible exact decide_eq_false (by omega) | with_reducible exact beq_iff_eq.2 (by omega) | with_reducible exact beq_eq_false_iff_ne.2 (by omega) | with_reducible exact bne_iff_ne.2 (by omega) | with_reducible exact bne_eq_false_iff_eq.2 (by omega) | skip) fun β8 a w hβ8 hl S => ?_
              exact xret hT S rfl ⟨_, rfl, rfl, (S.tl'.sub (List.sublist_cons_self _ _)).sub (List.sublist_append_right _ _)⟩
            | false =>
              rw [hlb] at S
              refine xr hT S hl true [.b false, .b false, .b false, .b false] 200 rfl (by (repeat' apply And.intro); all_goals first | exact True.intro | with_reducible assumption | decide +kernel | with_reducible exact Option.isSome_some | omega | with_reducible exact decide_eq_true (by omega) | with_reducible exact decide_eq_false (by omega) | with_reducible exact beq_iff_eq.2 (by omega) | with_reducible exact beq_eq_false_iff_ne.2 (by omega) | with_reducible exact bne_iff_ne.2 (by omega) | with_reducible exact bne_eq_false_iff_eq.2 (by omega) | skip) fun β8 a w hβ8 hl S => ?_
              have hd0 : ((N / 2 : Nat) : Int) ≤ s.len := by omega
              have hsO := stS_ok (d := N / 2) hO40 hd0 hn13
              have hsl : (stS s ((N / 2 : Nat) : Int)).events.length = s.events.length + s.bodies.length := by show (s.events ++ _).length = _; simp
              have hlate : ∀ e ∈ s.events, e.at_ ≤ ((N / 2 : Nat) : Int) := by
                intro e he
                unfold lateB at hlb
                rw [List.take_of_length_le (Nat.le_refl _), List.any_eq_false] at hlb
                have := hlb e he
                simp only [decide_eq_true_eq] at this
                omega
              have hva : ∀ {cur : List Ev}, Sorted (stS s ((N / 2 : Nat) : Int)) cur → ∀ j, VA (stS s ((N / 2 : Nat) : Int)) cur (N / 2 + j) = [] := fun hc j =>
                stop_va hc (fun e he => (hc.ev hsO e he).1.1) (fun e he => (hO.events.2 e he).2.1) hlate j
              have hRs : ∀ {L' : List Hp}, Mx :: (New ++ L) ⊆ L' → Rows L' Es (stS s ((N / 2 : Nat) : Int)).events.length 6 ((stS s ((N / 2 : Nat) : Int)).events.flatMap Ev.cells) := fun hs => by
                rw [hsl]
                exact hOx.rows (hs List.mem_cons_self)
              rw [hdv] at S
              have hcall := c11 (s := stS s ((N / 2 : Nat) : Int)) (A := A1) (E := Es) (cb := cb) (ce := cs) (vs := vs) (n := N / 2) S.sh (hA1.mono fun _ _ h => h.mono (fun m hm => by simp [hm])) (hRA.mono (fun m hm => by simp [hm])) (hRs (fun m hm => List.mem_append_right _ hm)) hsO (by show ((N / 2 : Nat) : Int) < s.len; omega)
              unfold SVal at hcall
              rw [hsl] at hcall
              refine xc S rfl rfl rfl rfl rfl en11 hcall fun v w ⟨cur, O, Ao, co, hcur, hv, H⟩ => ?_
              have S := S.retd (New := [O]) 129 v H rfl
              subst hv
              have hva0 := hva hcur 0
              rw [Nat.add_zero] at hva0
              rw [hva0] at S ⊢
              refine xr hT S hl true [] 200 rfl (by (repeat' apply And.intro); all_goals first | exact True.intro | with_reducible assumption | decide +kernel | with_reducible exact Option.isSome_some | omega | with_reducible exact decide_eq_true (by omega) | with_reducible exact decide_eq_false (by omega) | with_reducible exact beq_iff_eq.2 (by omega) | with_reducible exact beq_eq_false_iff_ne.2 (by omega) | with_reducible exact bne_iff_ne.2 (by omega) | with_reducible exact bne_eq_false_iff_eq.2 (by omega) | skip) fun β9 a w hβ9 hl S => ?_
              have hcall := c12 (s := stS s ((N / 2 : Nat) : Int)) (A := A1) (E := Es) (cb := cb) (ce := cs) (vs := vs) S.sh (hA1.mono fun _ _ h => h.mono (fun m hm => by simp [hm])) (hRA.mono (fun m hm => by simp [hm])) (hRs (fun m hm => by
                rcases List.mem_cons.1 hm with rfl | hm
                · simp
                · exact List.mem_append_right _ (List.mem_append_right _ (List.mem_cons_of_mem _ hm)))) hsO
              have hsn : (stS s ((N / 2 : Nat) : Int)).len.toNat = N := hN
              unfold SVal at hcall
              rw [hsl, hsn] at hcall
              refine xc S rfl rfl rfl rfl rfl en12 hcall fun v w ⟨cur2, O2, Ao2, co2, rws, hcur2, hv, hrl, hrk, hRZ, hO2, H⟩ => ?_
              have S := S.retd (New := O2 :: rws.map RW.h) 134 v H rfl
              subst hv
              have hrl100 : rws.length ≤ 100 := by
                rw [hrl]
                have hg := runP_gok (evs := cur2) hsO.sok (hcur2.ev hsO) (by rw [hcur2.len]; have := hsO.events.1; omega) N (by omega)
                have := hg.begun
                have := hg.done
                omega
              refine xr hT S hl true [] 200 rfl (by (repeat' apply And.intro); all_goals first | exact True.intro | with_reducible assumption | decide +kernel | with_reducible exact Option.isSome_some | omega | with_reducible exact decide_eq_true (by omega) | with_reducible exact decide_eq_false (by omega) | with_reducible exact beq_iff_eq.2 (by omega) | with_reducible exact beq_eq_false_iff_ne.2 (by omega) | with_reducible exact bne_iff_ne.2 (by omega) | with_reducible exact bne_eq_false_iff_eq.2 (by omega) | skip) fun β10 a w hβ10 hl S => ?_
              refine xloop (fun (k : Nat) a w => ∃ β, β.length = 3 ∧ k ≤ rws.length ∧ St β u w a 171 [(3, .p 0 0), (14, .v (.slice Ao 0 co)), (15, .v (.bool true)), (17, .v (.bool true)), (137, .v (.slice Ao2 rws.length co2)), (138, .v (.int .i64 rws.length)), (139, .v (.int .i64 (k : Int)))] [BXs 0 s A1 cb E ce] ((O2 :: rws.map RW.h) ++ (New ++ L))) (fun k => rws.length - k) 0
                ⟨β10, hl, Nat.zero_le _, ((S.keep [3, 14, 15, 17, 137, 138, 139] rfl).subb (.cons _ (.cons_cons _ .slnil))).sub ((List.Sublist.refl _).append ((List.sublist_cons_self Mx _).trans (List.sublist_append_right [O] _)))⟩ fun k a w ⟨β, hl, hk, S⟩ => ?_
              by_cases hkn : k < rws.length
              · have ek : (k : Int) + 1 = ((k + 1 : Nat) : Int) := by omega
                obtain ⟨r, hr⟩ : ∃ r, r = rws[k] := ⟨_, rfl⟩
                have hmem : r ∈ rws := by rw [hr]; exact List.getElem_mem hkn
                have hrok := hrk r hmem
                have hRo : Rows ((O2 :: rws.map RW.h) ++ (New ++ L)) Ao2 rws.length 1 (rws.map (RW.val N)) := hO2.rows (by simp)
                obtain ⟨ado, rfl⟩ := hRo.2.1 (by omega)
                have q4 := hRo.cell (j := k) (v := .slice (some ⟨r.g, 0, none⟩) N r.c) (n := rws.length) (c := 0) (by rw [List.getElem?_map, List.getElem?_eq_getElem hkn, hr]; rfl)
                have hrr : Rows ((O2 :: rws.map RW.h) ++ (New ++ L)) (some ⟨r.g, 0, none⟩) N 1 (r.xs.map fV) := hrok.rows (by
                  refine List.mem_append_left _ (List.mem_cons_of_mem _ (List.mem_map_of_mem hmem)))
                have hrt := hrr.tail_ (c := r.c) (m := N / 2) (by omega) hrok.cap
                refine xr hT S hl true [.b true, .v [.slice (some ⟨r.g, 0, none⟩) N r.c], .b false] 200 rfl ?_ fun β11 a w hβ11 hl S => ?_
                · (repeat' apply And.intro); all_goals first | exact True.intro | with_reducible assumption | decide +kernel | with_reducible exact Option.isSome_some | omega | with_reducible exact decide_eq_true (by omega) | with_reducible exact decide_eq_false (by omega) | with_reducible exact beq_iff_eq.2 (by omega) | with_reducible exact beq_eq_false_iff_ne.2 (by omega) | with_reducible exact bne_iff_ne.2 (by omega) | with_reducible exact bne_eq_false_iff_eq.2 (by omega) | skip
                  all_goals first | exact q4 | exact bne_eq_false_iff_eq.2 hNi | skip
                rw [hdv, Int.toNat_natCast] at S
                refine xloop (fun (j : Nat) a w => ∃ β, β.length = 3 ∧ j ≤ N - N / 2 ∧ St β u w a 171 [(3, .p 0 0), (14, .v (.slice Ao 0 co)), (15, .v (.bool true)), (17, .v (.bool true)), (137, .v (.slice (some ado) rws.length co2)), (138, .v (.int .i64 rws.length)), (139, .v (.int .i64 (k : Int))), (152, .v (.slice (slA r.c (N / 2) 1 (some ⟨r.g, 0, none⟩)) (N - N / 2) (r.c - N / 2))), (153, .v (.int .i64 ((N - N / 2 : Nat) : Int))), (154, .v (.int .i64 (j : Int)))] [BXs 0 s A1 cb E ce] ((O2 :: rws.map RW.h) ++ (New ++ L))) (fun j => N - N / 2 - j) 0
                  ⟨β11, hl, Nat.zero_le _, S.keep [3, 14, 15, 17, 137, 138, 139, 152, 153, 154] rfl⟩ fun j a w ⟨β, hl, hj, S⟩ => ?_
                by_cases hjn : j < N - N / 2
                · have ej : (j : Int) + 1 = ((j + 1 : Nat) : Int) := by omega
                  obtain ⟨adt, hadt⟩ := hrt.2.1 (by omega)
                  rw [hadt] at S hrt
                  have hx0 : ((r.xs.map fV).drop (N / 2))[j]? = some (fV 0) := by
                    have hz := hRZ k r (by rw [List.getElem?_eq_getElem hkn, hr]) (N / 2 + j) (.inr (fun v hv => by rw [hva hcur2 j] at hv; cases hv))
                    have hlt : N / 2 + j < r.xs.length := by rw [hrok.len]; omega
                    rw [List.getElem?_drop, List.getElem?_map, List.getElem?_eq_getElem hlt]
                    rw [List.getD_eq_getElem?_getD, List.getElem?_eq_getElem hlt] at hz
                    simp only [Option.getD_some] at hz
                    rw [hz]
                    rfl
                  have q5 := hrt.cell (j := j) (v := fV 0) (n := N - N / 2) (c := 0) hx0
                  refine xr hT S hl true [.b true, .v [fV 0], .b false] 200 rfl ?_ fun β12 a w hβ12 hl S => ?_
                  · (repeat' apply And.intro); all_goals first | exact True.intro | with_reducible assumption | decide +kernel | with_reducible exact Option.isSome_some | omega | with_reducible exact decide_eq_true (by omega) | with_reducible exact decide_eq_false (by omega) | with_reducible exact beq_iff_eq.2 (by omega) | with_reducible exact beq_eq_false_iff_ne.2 (by omega) | with_reducible exact bne_iff_ne.2 (by omega) | with_reducible exact bne_eq_false_iff_eq.2 (by omega) | skip
                    all_goals first | exact q5 | skip
                  rw [ej] at S
                  rw [← hadt] at S
                  exact xj ⟨j + 1, ⟨β12, hl, by omega, S.keep [3, 14, 15, 17, 137, 138, 139, 152, 153, 154] rfl⟩, by omega⟩
                · have e2 : j = N - N / 2 := by omega
                  subst e2
                  refine xr hT S hl true [.b false] 200 rfl (by (repeat' apply And.intro); all_goals first | exact True.intro | with_reducible assumption | decide +kernel | with_reducible exact Option.isSome_some | omega | with_reducible exact decide_eq_true (by omega) | with_reducible exact decide_eq_false (by omega) | with_reducible exact beq_iff_eq.2 (by omega) | with_reducible exact beq_eq_false_iff_ne.2 (by omega) | with_reducible exact bne_iff_ne.2 (by omega) | with_reducible exact bne_eq_false_iff_eq.2 (by omega) | skip) fun β12 a w hβ12 hl S => ?_
                  rw [ek] at S
                  exact xj ⟨k + 1, ⟨β12, hl, by omega, S.keep [3, 14, 15, 17, 137, 138, 139] rfl⟩, by omega⟩
              · have e2 : k = rws.length := by omega
                subst e2
                refine xr hT S hl true [.b false, .b true, .b true] 200 rfl (by (repeat' apply And.intro); all_goals first | exact True.intro | with_reducible assumption | decide +kernel | with_reducible exact Option.isSome_some | omega | with_reducible exact decide_eq_true (by omega) | with_reducible exact decide_eq_false (by omega) | with_reducible exact beq_iff_eq.2 (by omega) | with_reducible exact beq_eq_false_iff_ne.2 (by omega) | with_reducible exact bne_iff_ne.2 (by omega) | with_reducible exact bne_eq_false_iff_eq.2 (by omega) | skip) fun β11 a w hβ11 hl S => ?_
                exact xret hT S rfl ⟨_, rfl, rfl, (S.tl'.sub (List.sublist_append_right _ _)).sub (List.sublist_append_right _ _)⟩
  · refine xr hT S rfl true [.b true] 200 rfl (by (repeat' apply And.intro); all_goals first | exact True.intro | with_reducible assumption | decide +kernel | with_reducible exact Option.isSome_some | omega | with_reducible exact decide_eq_true (by omega) | with_reducible exact decide_eq_false (by omega) | with_reducible exact beq_iff_eq.2 (by omega) | with_reducible exact beq_eq_false_iff_ne.2 (by omega) | with_reducible exact bne_iff_ne.2 (by omega) | with_reducible exact bne_eq_false_iff_eq.2 (by omega) | skip) fun β a w hβ hl S => ?_
    exact xret hT S rfl ⟨_, rfl, rfl, S.sh⟩
end Go.SX
