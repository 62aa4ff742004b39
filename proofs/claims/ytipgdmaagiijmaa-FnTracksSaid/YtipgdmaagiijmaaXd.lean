import Derived.Test.YtipgdmaagiijmaaXc
import Derived.Laws.BytesArg
set_option linter.unusedVariables false
set_option linter.unusedSimpArgs false
set_option linter.unusedSectionVars false
namespace Go.SX
section
variable {P : Program} {w : World} {T : TT} (hT : TabOk P T) {β : List Nat} {bx : BL}

theorem unV_ok {ch op x y c} (h : unV ch op x = some (y, c)) (hc : c) : (Op.unary op (SV.dn β x)).run P w = .ok (SV.dn β y) w ∧ SV.wf β.length y := by
  unfold unV at h
  split at h
  · cases h; exact ⟨rfl, trivial⟩
  · cases h; exact ⟨rfl, trivial⟩
  · obtain ⟨m, rfl, rfl⟩ := num_ok h hc; exact ⟨rfl, trivial⟩
  · cases h; exact ⟨rfl, trivial⟩
  · cases h

theorem run_tk {t i} (ht : tk T t = some i) (hT : TabOk P T) : (underlying t).run P w = .ok i.desc w := (hT.ok _ _ ht).run_und w

theorem byteVals_ok : ∀ {cs : List SV} {l : List UInt8}, byteVals cs = some l → ∃ ns : List Int, SV.dns β cs = ns.map (.int .u8) ∧ l = ns.map fun n => UInt8.ofNat n.toNat
  | [], l, h => by cases h; exact ⟨[], rfl, rfl⟩
  | x :: r, l, h => by
    unfold byteVals at h
    split at h
    · rename_i h'; cases h'
    · rename_i n r' h'
      cases h'
      split at h
      · rename_i l' hl
        cases h
        obtain ⟨ns, h1, h2⟩ := byteVals_ok hl
        exact ⟨n :: ns, by simp [SV.dns, SV.dn, h1], by simp [h2]⟩
      · cases h
    · cases h
include hT
theorem conv_ok (HB : ∀ i x, bk bx i = some x → w.heap[β.getD i 0]? = some (bobj β x)) {ch s d x y c} (h : conv T ch bx s d x = some (y, c)) (hc : c) : (convert s d (SV.dn β x)).run P w = .ok (SV.dn β y) w ∧ SV.wf β.length y := by
  unfold conv at h
  split at h
  · cases h
  rename_i is hs
  split at h
  · cases h
  rename_i _ _ _ dd hd
  have us := run_tk (w := w) hs hT
  have ud := run_tk (w := w) hd hT
  simp only at ud
  split at h
  · obtain ⟨m, rfl, rfl⟩ := num_ok h hc
    refine ⟨?_, trivial⟩
    simp only [convert, Sem.run_bind, us, ud, Result.andThen_ok, SV.dn]
    cases is.desc <;> rfl
  · cases h
    refine ⟨?_, trivial⟩
    simp only [convert, Sem.run_bind, us, ud, Result.andThen_ok, SV.dn]
    cases is.desc <;> rfl
  · rename_i k sk b
    cases h
    refine ⟨?_, trivial⟩
    obtain ⟨r, hr⟩ := Option.isSome_iff_exists.1 hc
    simp only [hr, Option.getD_some, SV.dn]
    exact run_convert_float_int w s d sk k b r (by rw [(hT.ok _ _ hs).und]; rfl) (hT.ok _ _ hd).und hr
  · rename_i k sk b
    cases h
    refine ⟨?_, trivial⟩
    obtain ⟨r, hr⟩ := Option.isSome_iff_exists.1 hc
    simp only [hr, Option.getD_some, SV.dn]
    exact run_convert_float_float w s d sk k b r (by rw [(hT.ok _ _ hs).und]; rfl) (hT.ok _ _ hd).und hr
  · rename_i k sk a b
    cases h
    refine ⟨?_, trivial⟩
    obtain ⟨r, hr⟩ := Option.isSome_iff_exists.1 hc.1
    obtain ⟨q, hq⟩ := Option.isSome_iff_exists.1 hc.2
    have ff : ∀ {b r : Nat}, floatToFloatBits sk b k = some r → (Conv.floatToFloat sk b k).run P w = .ok (.float k r) w := by
      intro b r hb
      unfold floatToFloatBits at hb
      unfold Conv.floatToFloat
      split at hb
      · rename_i e; cases hb; subst e; simp
      · rename_i e
        rw [if_neg e]
        split at hb
        · cases hb
        · rename_i hdd; cases hb; simp [hdd]
        · rename_i s' m' e' hdd
          split at hb
          · cases hb
          · rename_i hinf; cases hb; simp [hdd, hinf]
    simp only [hr, hq, Option.getD_some, SV.dn, convert, Sem.run_bind, us, ud, Result.andThen_ok]
    have e1 := ff hr
    have e2 := ff hq
    cases is.desc <;> simp [Conv.complexToComplex, e1, e2]
  · cases h
    refine ⟨?_, trivial⟩
    simp only [convert, Sem.run_bind, us, ud, Result.andThen_ok, SV.dn]
    cases is.desc <;> rfl
  · rename_i id n cp
    split at h
    · rename_i e
      split at h
      · rename_i he
        split at h
        · rename_i ty cs hb
          split at h
          · rename_i hl
            split at h
            · rename_i l hbv
              cases h
              refine ⟨?_, trivial⟩
              obtain ⟨ns, h1, h2⟩ := byteVals_ok (β := β) hbv
              have ue := run_tk (w := w) he hT
              simp only at us ue
              have hln : cs.length = n := Nat.eq_of_beq_eq_true hl
              have hh := HB _ _ hb
              have hl2 : ns.length = n := by
                have := congrArg List.length h1
                rw [dns_eq] at this
                simpa [hln] using this.symm
              have := run_convert_bytes_arg (P := P) w s e (hT.ok _ _ hs).und (hT.ok _ _ he).und (β.getD id 0) 0 n cp ns hl2 (fun i hi => by
                refine cell_of_heap hh ?_
                simp only [h1]
                simp [List.getElem?_eq_getElem (show i < ns.length by omega), List.getD_eq_getElem?_getD]) d (hT.ok _ _ hd).und
              rw [h2]
              simpa [SV.dn, strOfNums] using this
            · cases h
          · cases h
        · cases h
      · cases h
    · cases h
  · cases h
end
end Go.SX
