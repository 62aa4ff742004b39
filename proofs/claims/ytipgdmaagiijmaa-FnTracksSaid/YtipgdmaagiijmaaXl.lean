import Derived.Test.YtipgdmaagiijmaaXk
import Derived.Maps.AppendAt
import Derived.Laws.AppendOwnNone
set_option linter.unusedVariables false
set_option linter.unusedSimpArgs false
set_option linter.unusedSectionVars false
namespace Go.SX

/-- a row of our own: the slice value v of n elements of sz cells, in the heap M alone; its cells -/
def Own (M : Hp) (e : TypeId) (sz : Nat) (v : Value) (n : Nat) (xs : List Value) : Prop :=
  xs.length = n * sz ∧ ((v = .slice none 0 0 ∧ n = 0 ∧ M = Hp.emp) ∨
    ∃ g cap cur, v = .slice (some ⟨g, 0, none⟩) n cap ∧ M = Hp.one g (.cells cur e (0, 0)) ∧ n ≤ cap ∧ cap ≤ maxLen ∧ cur.size = cap * sz ∧ cur.toList.take (n * sz) = xs)
theorem Own.nil (e : TypeId) (sz : Nat) : Own Hp.emp e sz (.slice none 0 0) 0 [] := ⟨by simp, .inl ⟨rfl, rfl, rfl⟩⟩
theorem SH.emp {u w : World} {L : List Hp} (H : SH u w L) : SH u w (Hp.emp :: L) :=
  ⟨H.os, H.tape, H.output, H.size, fun m hm b o hb => by
    rcases List.mem_cons.1 hm with rfl | hm
    · cases hb
    · exact H.has m hm b o hb, List.pairwise_cons.2 ⟨fun m _ b => .inl rfl, H.apart⟩⟩
theorem Own.row {u w : World} {L : List Hp} {M : Hp} {e sz v n xs} (h : Own M e sz v n xs) (H : SH u w L) (hM : M ∈ L) : w.ownsRow 0 e sz v n xs := by
  refine ⟨h.1, ?_⟩
  rcases h.2 with ⟨h1, h2, _⟩ | ⟨g, cap, cur, h1, h2, h3, h4, h5, h6⟩
  · exact .inl ⟨h1, h2⟩
  · exact .inr ⟨g, cap, cur, h1, Nat.zero_le _, H.has M hM g _ (by simp [h2, Hp.one]), h3, h4, h5, h6⟩
theorem Own.form {M : Hp} {e sz v n xs} (h : Own M e sz v n xs) : ∃ A c, v = .slice A n c ∧ (0 < n → A.isSome = true) := by
  rcases h.2 with ⟨rfl, rfl, _⟩ | ⟨g, cap, cur, rfl, _⟩
  · exact ⟨none, 0, rfl, fun h => absurd h (by omega)⟩
  · exact ⟨_, cap, rfl, fun _ => rfl⟩
theorem Own.cells {L : List Hp} {M : Hp} {e sz n c xs} {A : Option Addr} {ad : Addr} (h : Own M e sz (.slice A n c) n xs) (hA : A = some ad) (hM : M ∈ L) : RdV L ad xs := by
  intro j v hv
  rcases h.2 with ⟨h1, h2, _⟩ | ⟨g, cap, cur, h1, h2, h3, h4, h5, h6⟩
  · subst h2
    have := h.1
    simp at this
    subst this
    cases hv
  · cases h1
    cases hA
    rw [add_none]
    refine ⟨M, hM, cur, e, (0, 0), by simp [h2, Hp.one], rfl, ?_⟩
    rw [← h6, List.getElem?_take] at hv
    split at hv
    · simpa using hv
    · cases hv
theorem RdV.at_ {L : List Hp} {ad : Addr} {xs : List Value} (h : RdV L ad xs) (i k : Nat) : RdV L (ad.add i) ((xs.drop i).take k) := by
  intro j v hv
  rw [List.getElem?_take] at hv
  split at hv
  · rw [List.getElem?_drop] at hv
    have := h (i + j) v hv
    have e : (ad.add i).add j = ad.add (i + j) := by
      unfold Addr.add
      by_cases h1 : i = 0 <;> by_cases h2 : j = 0 <;> simp [h1, h2, Nat.add_assoc]
    rwa [e]
  · cases hv
theorem Cell.mono {L L' : List Hp} {ad v} (h : Cell L ad v) (hs : ∀ m ∈ L, m ∈ L') : Cell L' ad v :=
  let ⟨m, hm, r⟩ := h; ⟨m, hs m hm, r⟩
theorem RdV.mono {L L' : List Hp} {ad xs} (h : RdV L ad xs) (hs : ∀ m ∈ L, m ∈ L') : RdV L' ad xs := fun j v hv => (h j v hv).mono hs

theorem SH.grow {u w w' : World} {L : List Hp} {M : Hp} {e sz v n xs v' n' xs'} (H : SH u w (M :: L)) (h : Own M e sz v n xs) (hg : w.grownBy w' v.ownBlock)
    (h' : w'.ownsRow 0 e sz v' n' xs') (hat : v'.ownBlock = v.ownBlock ∨ v'.ownBlock = some w.heap.size) : ∃ M', SH u w' (M' :: L) ∧ Own M' e sz v' n' xs' := by
  have hM := List.pairwise_cons.1 H.apart
  have keep : ∀ m ∈ L, ∀ b o, m b = some o → w'.heap[b]? = some o := by
    intro m hm b o hb
    have hw := H.has m (List.mem_cons_of_mem _ hm) b o hb
    rw [hg.block b (Array.getElem?_eq_some_iff.1 hw).1 ?_]
    · exact hw
    · intro he
      rcases h.2 with ⟨rfl, _⟩ | ⟨g, cap, cur, rfl, hMe, _⟩
      · cases he
      · cases he
        rcases hM.1 m hm g with h1 | h1
        · simp [hMe, Hp.one] at h1
        · rw [h1] at hb; cases hb
  rcases h'.2 with ⟨h1, h2⟩ | ⟨g, cap, cur, h1, h2, h3, h4, h5, h6, h7⟩
  · refine ⟨Hp.emp, ?_, h'.1, .inl ⟨h1, h2, rfl⟩⟩
    exact (SH.emp ⟨hg.os.trans H.os, hg.tape.trans H.tape, hg.output.trans H.output, Nat.le_trans H.size hg.size, keep, hM.2⟩)
  · refine ⟨Hp.one g (.cells cur e (0, 0)), ⟨hg.os.trans H.os, hg.tape.trans H.tape, hg.output.trans H.output, Nat.le_trans H.size hg.size, fun m hm b o hb => ?_, List.pairwise_cons.2 ⟨fun m hm b => ?_, hM.2⟩⟩, h'.1, .inr ⟨g, cap, cur, h1, rfl, h4, h5, h6, h7⟩⟩
    · rcases List.mem_cons.1 hm with rfl | hm
      · simp only [Hp.one] at hb
        split at hb
        · rename_i hbg; subst hbg; cases hb; exact h3
        · cases hb
      · exact keep m hm b o hb
    · by_cases hbg : b = g
      · right
        subst hbg
        rw [h1] at hat
        rcases hat with hat | hat
        · rcases h.2 with ⟨rfl, _⟩ | ⟨g0, cap0, cur0, rfl, hMe, _⟩
          · cases hat
          · cases hat
            rcases hM.1 m hm b with h8 | h8
            · simp [hMe, Hp.one] at h8
            · exact h8
        · cases hat
          cases hmb : m w.heap.size with
          | none => rfl
          | some o =>
            have := (Array.getElem?_eq_some_iff.1 (H.has m (List.mem_cons_of_mem _ hm) _ o hmb)).1
            omega
      · left; simp [Hp.one, hbg]

section
variable {P : Program} {T : TT} (hT : TabOk P T) {R : Exit → Act → World → Prop} {β : List Nat} {bx : BL} {u w : World} {a : Act} {n : Nat} {l : EL} {tl : List Hp} {k : List TK} {all rest : List Oper} {o : Oper}

theorem SH.front {A B : List Hp} {M : Hp} (H : SH u w (A ++ M :: B)) : SH u w (M :: (A ++ B)) := H.perm List.perm_middle
theorem SH.back {A B : List Hp} {M : Hp} (H : SH u w (M :: (A ++ B))) : SH u w (A ++ M :: B) := H.perm (List.perm_middle).symm
theorem St.perm {tl' : List Hp} (S : St β u w a n l bx tl) (h : tl.Perm tl') : St β u w a n l bx tl' := ⟨S.env, S.sh.perm (h.append_left _), S.wb⟩
theorem St.sub {tl' : List Hp} (S : St β u w a n l bx tl) (h : tl'.Sublist tl) : St β u w a n l bx tl' := ⟨S.env, S.sh.sub (h.append_left _), S.wb⟩
theorem St.emp (S : St β u w a n l bx tl) : St β u w a n l bx (Hp.emp :: tl) := ⟨S.env, S.sh.emp.back, S.wb⟩
/-- an own box's cells -/
theorem St.boxCells (S : St β u w a n l bx tl) {i t cs} (h : bk bx i = some (t, cs)) : ∀ j v, (SV.dns β cs)[j]? = some v → w.cell? ((⟨β.getD i 0, 0, none⟩ : Addr).add j) = some v := by
  intro j v hv
  rw [add_none]
  exact cell_of_heap (S.sh.box h) (by simpa [bobj] using hv)
include hT
/-- append to a row of our own -/
theorem xapp {s x : Operand} {t e : Nat} {s1 s2 : Nat} {z1 : Value} {ie : TInfo} {M : Hp} {v : Value} {m c n0 : Nat} {ad : Addr} {xs news : List Value} {y : SV} (S : St β u w a n l bx (M :: tl))
    (ho : o.op = .call ⟨.builtin .append, #[s, x], #[t, t]⟩) (hg : o.guard = none) (hd : dOk n o.dst = true)
    (ht : tk T t = some ⟨s1, s2, z1, .slice e⟩) (he : tk T e = some ie) (hz : ie.zero.cells.size = ie.size) (hsz : Nat.ble 1 ie.size = true)
    (hs : evo l s = some (.v v)) (hO : Own M e ie.size v n0 xs) (hx : evo l x = some y) (hy : SV.dn β y = .slice (some ad) m c)
    (hcells : ∀ j u, news[j]? = some u → w.cell? (ad.add j) = some u) (hlen : news.length = m * ie.size) (hone : ∀ u ∈ news, u.oneCell' = true)
    (hbytes : (n0 + m) * ie.bytes ≤ 140737488355328) (h63 : n0 + m ≤ maxLen)
    (hk : ∀ v' M' a' w', Own M' e ie.size v' (n0 + m) (xs ++ news) → St β u w' a' n (putl l o.dst (.v v')) bx (M' :: tl) → PQ P R (.r all rest :: k) .normal a' w') :
    PQ P R (.r all (o :: rest) :: k) .normal a w := by
  simp only [PQ, Exit.then]
  refine wpList_plain hg fun K hK => ?_
  have hok := hT.ok _ _ he
  obtain ⟨ti, hti, hyy⟩ := Option.map_eq_some_iff.1 hok.info
  simp only [Prod.mk.injEq] at hyy
  have e1 := (evo_ok S.env hs).1
  have e2 := (evo_ok S.env hx).1
  rw [hy] at e2
  have H := S.sh.front
  obtain ⟨v', w', hr, h2, h3, h4, h5⟩ := run_append_own_at (P := P) w 0 t o.type e ti ie.zero ie.size ie.bytes (hT.ok _ _ ht).und hti hyy.2.2 hyy.1 hyy.2.1 hz (Nat.le_of_ble_eq_true hsz) v n0 xs
    (hO.row H List.mem_cons_self) ad m c news hlen hcells hone h63 hbytes (Nat.zero_le _)
  obtain ⟨M', H', hO'⟩ := H.grow hO h3 h2 h5
  unfold Oper.wp execOp
  simp only [ho, resolve, invoke, builtin, Sem.run_bind, Sem.run_pure, Result.andThen_ok, List.map_toArray, List.map_cons, List.map_nil, e1, e2, SV.dn, hr]
  exact hK _ _ (hk v' M' _ w' hO' (S.put H'.back hd))
/-- append of nothing -/
theorem xapp0 {s x : Operand} {t e : Nat} {s1 s2 : Nat} {z1 : Value} {ie : TInfo} {M : Hp} {v : Value} {n0 : Nat} {xs : List Value} (S : St β u w a n l bx (M :: tl))
    (ho : o.op = .call ⟨.builtin .append, #[s, x], #[t, t]⟩) (hg : o.guard = none) (hd : dOk n o.dst = true)
    (ht : tk T t = some ⟨s1, s2, z1, .slice e⟩) (he : tk T e = some ie)
    (hs : evo l s = some (.v v)) (hO : Own M e ie.size v n0 xs) (hx : evo l x = some (.v (.slice none 0 0)))
    (hk : ∀ a', St β u w a' n (putl l o.dst (.v v)) bx (M :: tl) → PQ P R (.r all rest :: k) .normal a' w) :
    PQ P R (.r all (o :: rest) :: k) .normal a w := by
  simp only [PQ, Exit.then]
  have hok := hT.ok _ _ he
  obtain ⟨ti, hti, hyy⟩ := Option.map_eq_some_iff.1 hok.info
  have e1 := (evo_ok S.env hs).1
  have e2 := (evo_ok S.env hx).1
  simp only [SV.dn] at e1 e2
  exact wpList_append_own_none hg s x t ho 0 e ti ie.size (hT.ok _ _ ht).und hti v n0 xs e1 (hO.row S.sh.front List.mem_cons_self) e2 (hk _ (S.put S.sh hd))

/-! ### make -/
omit hT in
theorem rep_cells (z : List Value) : ∀ m : Nat, (List.range (m * z.length)).map (fun x => z[x % z.length]!) = (List.replicate m z).flatten
  | 0 => by simp
  | m + 1 => by
    rw [Nat.succ_mul, List.range_add, List.map_append, rep_cells z m, List.replicate_succ', List.flatten_append]
    congr 1
    simp only [List.flatten_singleton, List.map_map]
    apply List.ext_getElem
    · simp
    · intro i h1 h2
      simp only [List.getElem_map, List.getElem_range, Function.comp, Nat.mul_add_mod_self_right, Nat.mod_eq_of_lt h2]
      simp [h2]
omit hT in
theorem SH.newRow {L : List Hp} (H : SH u w L) (cur : Array Value) (e sz m n0 : Nat) (hs : cur.size = m * sz) (hm : m ≤ maxLen) (hn : n0 ≤ m) :
    Own (Hp.one w.heap.size (.cells cur e (0, 0))) e sz (.slice (some ⟨w.heap.size, 0, none⟩) n0 m) n0 (cur.toList.take (n0 * sz)) ∧ SH u (w.alloc (.cells cur e)) (Hp.one w.heap.size (.cells cur e (0, 0)) :: L) := by
  refine ⟨⟨?_, .inr ⟨_, m, cur, rfl, rfl, hn, hm, hs, rfl⟩⟩, H.alloc _⟩
  rw [List.length_take, Array.length_toList, hs]
  exact Nat.min_eq_left (Nat.mul_le_mul_right _ hn)
/-- make([]T, n0, m) -/
theorem xmake {x y : Operand} {t e : Nat} {s1 s2 : Nat} {z1 : Value} {ie : TInfo} {kx ky : IntKind} {n0 m : Nat} {ix iy : Int} (S : St β u w a n l bx tl)
    (ho : o.op = .makeSlice t x y) (hg : o.guard = none) (hd : dOk n o.dst = true)
    (ht : tk T t = some ⟨s1, s2, z1, .slice e⟩) (he : tk T e = some ie) (hz : ie.zero.cells.size = ie.size)
    (hx : evo l x = some (.v (.int kx ix))) (hy : evo l y = some (.v (.int ky iy))) (hix : ix = n0) (hiy : iy = m)
    (hnm : n0 ≤ m) (hb : m * ie.bytes ≤ 281474976710656) (hb0 : 0 < ie.bytes)
    (hk : ∀ v' M' a' w', Own M' e ie.size v' n0 (((List.replicate m ie.zero.cells.toList).flatten).take (n0 * ie.size)) → St β u w' a' n (putl l o.dst (.v v')) bx (M' :: tl) → PQ P R (.r all rest :: k) .normal a' w') :
    PQ P R (.r all (o :: rest) :: k) .normal a w := by
  subst hix
  subst hiy
  simp only [PQ, Exit.then]
  refine wpList_plain hg fun K hK => ?_
  have hok := hT.ok _ _ he
  have e1 := (evo_ok S.env hx).1
  have e2 := (evo_ok S.env hy).1
  have hm : m ≤ 281474976710656 := Nat.le_trans (Nat.le_mul_of_pos_right _ hb0) hb
  have w1 : IntKind.i64.wrap (n0 : Int) = n0 := wrap_inR (by simp only [inR]; omega)
  have w2 : IntKind.i64.wrap (m : Int) = m := wrap_inR (by simp only [inR]; omega)
  have hbi : ((ie.bytes : Nat) : Int) * (m : Int) ≤ 281474976710656 := by
    have : ((m * ie.bytes : Nat) : Int) ≤ 281474976710656 := by omega
    rw [Nat.mul_comm] at this
    simpa using this
  have hbn : ((ie.bytes : Nat) : Int) * (n0 : Int) ≤ 281474976710656 := by
    refine Int.le_trans ?_ hbi
    exact Int.mul_le_mul_of_nonneg_left (by omega) (by omega)
  obtain ⟨ti, hti, hyy⟩ := Option.map_eq_some_iff.1 hok.info
  simp only [Prod.mk.injEq] at hyy
  have hbt : (typeInfo e).run P w = .ok ti w := run_typeInfo w hti
  have hcells : (Array.map (fun x => ie.zero.cells[x % ie.zero.cells.size]!) (Array.range (m * ie.size))) = ((List.replicate m ie.zero.cells.toList).flatten).toArray := by
    apply Array.ext'
    rw [← rep_cells, ← hz]
    simp only [Array.toList_map, Array.toList_range, Array.length_toList, List.map_inj_left]
    intro i _
    simp [Array.getElem!_eq_getD, Array.getD_eq_getD_getElem?]
  have hrun : (Instr.makeSlice t (.int kx n0) (.int ky m)).run P w = .ok (.slice (some ⟨w.heap.size, 0, none⟩) n0 m) (w.alloc (.cells ((List.replicate m ie.zero.cells.toList).flatten).toArray e)) := by
    simp only [Instr.makeSlice, Sem.run_bind, run_tk ht hT, Result.andThen_ok, asInt, asIntOf, Sem.run_pure, hbt, hyy.2.1, w1, w2]
    have c1 : ¬ ((decide ((m : Int) < 0) || decide (((ie.bytes : Nat) : Int) * (m : Int) > 2 ^ 48)) = true ∨ (n0 : Int) < 0 ∨ (n0 : Int) > m) := by
      simp only [Bool.or_eq_true, decide_eq_true_eq]
      omega
    have c2 : ((decide ((m : Int) < 0) || decide (((ie.bytes : Nat) : Int) * (m : Int) > 2 ^ 48)) || decide ((n0 : Int) < 0) || decide ((n0 : Int) > m)) = false := by
      simp only [Bool.or_eq_false_iff, decide_eq_false_iff_not]
      omega
    rw [if_neg (by rw [c2]; exact Bool.false_ne_true)]
    simp only [Sem.run_bind, run_askRoom, Result.andThen_ok, hok.run_size, Int.toNat_natCast, Sem.run_ite]
    by_cases h0 : m * ie.size = 0
    · rw [if_pos h0]
      rw [h0] at hcells
      have er : ∀ f : Nat → Value, Array.map f (Array.range 0) = #[] := fun f => by simp
      rw [er] at hcells
      rw [← hcells]
      simp only [Sem.run_bind, Sem.run_pure, Result.andThen_ok, h0, er, newRow, run_newObj, World.alloc]
    · rw [if_neg h0]
      simp only [Sem.run_bind, hok.run_zero, Sem.run_pure, Result.andThen_ok, hcells, newRow, run_newObj, World.alloc]
  unfold Oper.wp
  have hr2 : (execOp a.eval o).run P w = .ok (.value (.slice (some ⟨w.heap.size, 0, none⟩) n0 m)) (w.alloc (.cells ((List.replicate m ie.zero.cells.toList).flatten).toArray e)) := by
    simp only [execOp, ho, e1, e2, SV.dn]
    rw [Sem.run_bind, hrun]
    rfl
  rw [hr2]
  have hsz : ((List.replicate m ie.zero.cells.toList).flatten).toArray.size = m * ie.size := by
    simp [hz]
  obtain ⟨hO, H'⟩ := S.sh.newRow (((List.replicate m ie.zero.cells.toList).flatten).toArray) e ie.size m n0 hsz (by simp only [maxLen]; omega) hnm
  exact hK _ _ (hk _ _ _ _ hO (S.put H'.back hd))

/-! ### a store into a row of our own -/
omit hT in
theorem SH.set {L : List Hp} {M : Hp} {e sz n0 cap g off : Nat} {xs vs : List Value} (H : SH u w (M :: L)) (hO : Own M e sz (.slice (some ⟨g, 0, none⟩) n0 cap) n0 xs) (hoff : off + vs.length ≤ xs.length)
    (hone : ∀ v ∈ vs, v.oneCell' = true) : ∃ w' M', (∀ P, (storeCells ⟨g, off, none⟩ vs).run P w = .ok () w') ∧ SH u w' (M' :: L) ∧ Own M' e sz (.slice (some ⟨g, 0, none⟩) n0 cap) n0 (xs.take off ++ vs ++ xs.drop (off + vs.length)) := by
  obtain ⟨hl, h⟩ := hO
  rcases h with ⟨h1, _⟩ | ⟨g', cap', cur, h1, h2, h3, h4, h5, h6⟩
  · cases h1
  cases h1
  subst h2
  have hh : w.heap[g]? = some (.cells cur e (0, 0)) := H.has _ List.mem_cons_self g _ (by simp [Hp.one])
  have hle : n0 * sz ≤ cap * sz := Nat.mul_le_mul_right _ h3
  have hlt : off + 0 + vs.length ≤ cur.size := by rw [h5]; omega
  refine ⟨_, Hp.one g (.cells (cur.toList.take (off + 0) ++ vs ++ cur.toList.drop (off + 0 + vs.length)).toArray e (0, 0)), fun P => run_storeCells_at P g off e vs 0 cur w hh hlt hone, ?_, ?_, .inr ⟨g, cap, _, rfl, rfl, h3, h4, ?_, ?_⟩⟩
  · exact SH.upd (A := []) H (setRow_heap w _ _ _ e (0, 0) hh) (fun b hne => setRow_other w _ b _ hne) rfl rfl rfl (by simp [World.setRow])
  · simp only [List.length_append, List.length_take, List.length_drop]
    omega
  · simp only [List.size_toArray, List.length_append, List.length_take, List.length_drop, Array.length_toList]
    omega
  · subst h6
    simp only [List.length_take, Array.length_toList] at hoff hl
    simp only [Nat.add_zero]
    apply List.ext_getElem?
    intro i
    simp only [List.getElem?_take, List.getElem?_append, List.length_append, List.length_take, Array.length_toList, List.getElem?_drop]
    have : off ≤ cur.size := by omega
    simp only [Nat.min_eq_left this, Nat.min_eq_left (show n0 * sz ≤ cur.size by omega), Nat.min_eq_left (show off ≤ n0 * sz by omega)]
    by_cases h1 : i < off
    · have h2 : i < n0 * sz := by omega
      have h3 : i < off + vs.length := by omega
      simp [h1, h2, h3]
    · by_cases h2 : i < off + vs.length
      · have h3 : i < n0 * sz := by omega
        simp [h1, h2, h3]
      · by_cases h3 : i < n0 * sz
        · have h4 : off + vs.length + (i - (off + vs.length)) < n0 * sz := by omega
          simp [h1, h2, h3, h4]
        · have h4 : ¬ off + vs.length + (i - (off + vs.length)) < n0 * sz := by omega
          simp [h1, h2, h3, h4]
theorem xset {t : Nat} {ad x : Operand} {ti : TInfo} {M : Hp} {e sz n0 cap g off : Nat} {xs : List Value} {y : SV} {A : Addr} (S : St β u w a n l bx (M :: tl))
    (ho : o.op = .store t ad x) (hg : o.guard = none) (hd : dOk n o.dst = true) (ht : tk T t = some ti)
    (ha : evo l ad = some (.v (.pointer (some A)))) (hA : A = ⟨g, off, none⟩) (hO : Own M e sz (.slice (some ⟨g, 0, none⟩) n0 cap) n0 xs)
    (hx : evo l x = some y) (hlen : y.cells.length = ti.size) (hone : y.cells.all SV.one = true) (hoff : off + ti.size ≤ xs.length)
    (hk : ∀ M' a' w', Own M' e sz (.slice (some ⟨g, 0, none⟩) n0 cap) n0 (xs.take off ++ SV.dns β y.cells ++ xs.drop (off + ti.size)) → St β u w' a' n (putl l o.dst (.v undef)) bx (M' :: tl) → PQ P R (.r all rest :: k) .normal a' w') :
    PQ P R (.r all (o :: rest) :: k) .normal a w := by
  subst hA
  simp only [PQ, Exit.then]
  refine wpList_plain hg fun K hK => ?_
  have hok := hT.ok _ _ ht
  have e1 := (evo_ok S.env ha).1
  have e2 := (evo_ok S.env hx).1
  have hcl : ∀ xs : List SV, (SV.dns β xs).length = xs.length := fun xs => by rw [dns_eq, List.length_map]
  obtain ⟨w', M', hr, H', hO'⟩ := SH.set (vs := SV.dns β y.cells) (off := off) S.sh.front hO (by rw [hcl, hlen]; exact hoff) (fun v hv => by
    rw [dns_eq] at hv
    obtain ⟨z, hz, rfl⟩ := List.mem_map.1 hv
    exact one_dn β (List.all_eq_true.1 hone z hz))
  rw [hcl, hlen] at hO'
  have e4 : (SV.dn β y).cells.size = ti.size := by rw [cells_dn]; simp [hcl, hlen]
  unfold Oper.wp
  have hr2 : (execOp a.eval o).run P w = .ok .skip w' := by
    simp only [execOp, ho, e1, e2, SV.dn, Instr.storeAt, Instr.sureAddr, Sem.run_bind, Sem.run_pure, Result.andThen_ok, storeVar, hok.run_size]
    rw [if_neg (by simpa using e4)]
    rw [cells_dn]
    simp only [hr P, Result.andThen_ok]
  rw [hr2]
  exact hK _ _ (hk M' _ w' hO' ⟨putl_ok S.env hd (x := .v undef) trivial, H'.back, S.wb⟩)
end
end Go.SX
