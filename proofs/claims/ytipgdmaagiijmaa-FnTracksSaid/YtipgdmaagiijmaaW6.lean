/- For every code the law FnTracks of the given program returns true, and the code reads behind the call as it read before. No condition. -/
import Derived.Test.YtipgdmaagiijmaaG9
import Derived.Test.YtipgdmaagiijmaaRows
import Derived.ProofKit
set_option linter.unusedVariables false
namespace Go.SX
open Go.ChangeShapes Go.WideShapes Go.ChangeAt Go.RowKit
theorem cell_inv {w : World} {ad : Addr} {v : Value} (h : w.cell? ad = some v) : ∃ c t f, w.heap[ad.block]? = some (.cells c t f) ∧ ad.spot = none ∧ c[ad.off]? = some v := by
  have hs := World.cell?_spot h
  unfold World.cell? at h
  split at h <;> first | (rename_i c t f hc; exact ⟨c, t, f, hc, hs, by simpa [hs] using h⟩) | cases h
def whole (w : World) : Hp := fun b => w.heap[b]?
theorem SH.start (w : World) : SH w w [whole w] := ⟨rfl, rfl, rfl, Nat.le_refl _, fun m hm b o h => by rw [List.mem_singleton.1 hm] at h; exact h, List.pairwise_singleton _ _⟩
theorem SH.below {w w' : World} (H : SH w w' [whole w]) : Below w.heap.size w w' := ⟨H.os, H.tape, H.output, H.size, fun k hk => by
  have h1 : w.heap[k]? = some w.heap[k] := Array.getElem?_eq_getElem hk
  rw [h1]
  exact H.has (whole w) List.mem_cons_self k _ h1⟩
theorem byt_start {w : World} {a : Addr} {n : Nat} {zs : List Int} (hn : n ≤ zs.length) (hm : n ≤ 9223372036854775806) (hcell : ∀ i, i < zs.length → w.cell? (a.add i) = some (.int .u8 (zs.getD i 0))) (hwz : ∀ z ∈ zs, (Lit.int .u8 z).wf = true) : Byt [whole w] (some a) n := by
  refine ⟨hm, fun j hj => ⟨a, zs.getD j 0, rfl, ?_⟩⟩
  have hjl : j < zs.length := by omega
  have hmem : zs.getD j 0 ∈ zs := by
    rw [List.getD_eq_getElem?_getD, List.getElem?_eq_getElem hjl]
    exact List.getElem_mem hjl
  have h5 := hwz _ hmem
  have e1 : IntKind.u8.min = 0 := rfl
  have e2 : IntKind.u8.max = 255 := rfl
  have h6 : 0 ≤ zs.getD j 0 ∧ zs.getD j 0 ≤ 255 := by simpa [Lit.wf, e1, e2] using h5
  obtain ⟨c, t, f, h1, h2, h3⟩ := cell_inv (hcell j hjl)
  exact ⟨h6.1, h6.2, whole w, List.mem_cons_self, c, t, f, h1, h2, h3⟩
end Go.SX
namespace Go.Proofs.Ytipgdmaagiijmaa
open Go.ChangeShapes Go.WideShapes Go.ChangeAt Go.RowKit
theorem Try.own : ownKnob Try.prog.godebug = none := by kernel_rfl
theorem Try.laidOut : laidOutB Try.prog = true := by kernel_rfl
theorem Try.cells5 : Try.prog.cellsOf 5 = 1 := by kernel_rfl
theorem und22 : Try.prog.underlying 22 = some (.slice 5) := (Go.SX.hT.ok 22 _ rfl).und
theorem und5 : Try.prog.underlying 5 = some (.int .u8) := (Go.SX.hT.ok 5 _ rfl).und
theorem und4 : Try.prog.underlying 4 = some .bool := (Go.SX.hT.ok 4 _ rfl).und
set_option maxRecDepth 100000 in
theorem fnTracks_lifted (os : Os) (started : os.Started) (H : Type) (enc : TypeId × Value → H) :
    ReturnsInHanded {} Try.checked os 6 .any (Rows.fnTracksSpec.pre6 enc Try.prog Try.f6 Rows.fnTracksRow.domain false) (Rows.fnTracksSpec.post enc Try.prog Try.f6 false true false false) := by
  refine returnsInHanded_of_change (C := Try.checked) Try.own started (by kernel_rfl) Try.func6
    (ChangeSpec.witness6 (enc := enc) (C := Try.checked) false ⟨#[], #[.slice none 0 0], []⟩ 8 (by kernel_rfl) (by kernel_rfl) (by kernel_rfl) (by kernel_rfl)) ?_
  intro W base args ds gs before hval0 hW _ _
  have hval : ∀ (j : Nat) t v, Try.f6.params[j]? = some t → args[j]? = some v → Value.okWide Try.prog W .any base t v := hval0
  have hW' := hW
  obtain ⟨p, q, hA0, hV, rfl, _, _⟩ := hW
  have hA : DataW.TrodAll enc Try.prog W 0 (fun _ => true) true Try.f6.params.toList args.toList ds p := hA0
  rw [Try.params6] at hA hval
  obtain ⟨v0, d0, rfl, rfl, h0⟩ := trodAll_one hA
  obtain ⟨rfl, rfl⟩ := trodVars_none hV
  obtain ⟨a0, len, cap, rfl⟩ := okWide_slice und22 (hval 0 22 v0 rfl rfl)
  have h0k := h0
  obtain ⟨fuel, hf⟩ := h0
  clear hA0 hval0
  simp only [List.append_nil] at hW'
  have hlt : ∀ x ∈ p, x.block < W.heap.size := fun x hx => by simpa using hW'.lt x hx
  have hargs : ∀ (W' : World), Below W.heap.size W W' → DataW.Trod enc Try.prog W' 0 (fun b => decide (b < W.heap.size)) true 22 (.slice a0 len cap) d0 p :=
    fun W' hn => Below.trod Try.laidOut (by kernel_rfl) (of_decide_eq_true (by kernel_rfl)) h0k hn hlt
  have key : (len ≤ 1048576 → Go.SX.Byt [Go.SX.whole W] a0 len) ∧ len ≤ 9223372036854775807 := by
    rcases open_ints und22 und5 Try.cells5 hf with ⟨hcs, hx⟩ | ⟨a, len', cap', zs, hcs, _, hl, hm, hz, hx, hcell, hwz⟩
    · simp [Value.cells] at hcs
      obtain ⟨rfl, rfl, rfl⟩ := hcs
      exact ⟨fun _ => ⟨by omega, fun j hj => absurd hj (by omega)⟩, by omega⟩
    · simp [Value.cells] at hcs
      obtain ⟨rfl, rfl, rfl⟩ := hcs
      simp only [if_true] at hz
      have : maxLen ≤ 9223372036854775807 := by decide
      exact ⟨fun h => Go.SX.byt_start (by omega) (by omega) hcell hwz, by omega⟩
  refine Calls.mono (Go.SX.c6 (Go.SX.SH.start W) key.1 (List.Subset.refl _) key.2) fun e W' ⟨v, he, hv, hS⟩ => ?_
  subst he
  subst hv
  have hnx := hS.below
  refine ⟨_, rfl, _, _, _, [], _, [], hW', ?_, trodAll_mk1 (hargs _ hnx), rfl, hnx.frame _, fun h => by cases h⟩
  exact trodAll_mk1 (shut_bool und4 true)
theorem fnTracks_holds : Rows.FnTracksSaid :=
  OpenClaim.holds_of_wide 6 Try.f6 rfl rfl rfl rfl rfl rfl rfl ⟨rfl, rfl, rfl, rfl, rfl⟩ rfl rfl rfl rfl rfl (by kernel_rfl) Try.func6 (by kernel_rfl)
    (of_decide_eq_true (by kernel_rfl)) (by unfold Func.isWrapper; first | (rw [if_pos (by decide +kernel)]; kernel_rfl) | (rw [if_neg (by decide +kernel)]; exact ⟨rfl, rfl⟩))
    (fun os started H enc _ => fnTracks_lifted os started H enc)
#print axioms fnTracks_holds
end Go.Proofs.Ytipgdmaagiijmaa
