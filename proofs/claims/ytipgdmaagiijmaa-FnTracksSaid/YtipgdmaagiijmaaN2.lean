import Derived.Test.YtipgdmaagiijmaaN1
import Derived.Test.YtipgdmaagiijmaaXn
set_option linter.unusedVariables false
set_option linter.unusedSimpArgs false
namespace Go.SX
open Ieee

/-- a number: neither an infinity nor a NaN -/
def Num (k : FloatKind) (x : Nat) : Prop := ∃ s m p, k.decode x = .number s m p
theorem num_zero : Num .f64 0 := ⟨_, _, _, rfl⟩
theorem read_num_bd {f : Format} {x : Nat} {s m p} (h : f.read x = .number s m p) : f.leastPlace ≤ p ∧ m * 2 ^ (p - f.leastPlace).toNat ≤ 2 ^ (f.fractionBits + (2 ^ f.exponentBits - 2)) := by
  have hb : 0 < f.binade := Nat.two_pow_pos _
  have hbd : f.binade = 2 ^ f.fractionBits := rfl
  unfold Format.read at h
  simp only at h
  split at h
  · rename_i h1
    cases h
    refine ⟨Int.le_refl _, ?_⟩
    simp only [Int.sub_self, Int.toNat_zero, Nat.pow_zero, Nat.mul_one]
    refine Nat.le_trans (Nat.le_of_lt h1) ?_
    rw [hbd]
    exact Nat.pow_le_pow_right (by decide) (by omega)
  · split at h
    · rename_i h1 h2
      cases h
      refine ⟨by omega, ?_⟩
      generalize x % f.signWeight = r at h1 h2
      rw [show (f.leastPlace + ((r / f.binade - 1 : Nat) : Int) - f.leastPlace).toNat = r / f.binade - 1 by omega]
      have hq : 1 ≤ r / f.binade := Nat.div_pos (by omega) hb
      have hq2 : r / f.binade < 2 ^ f.exponentBits - 1 := (Nat.div_lt_iff_lt_mul hb).2 h2
      have hm : r % f.binade < f.binade := Nat.mod_lt _ hb
      have e1 : (f.binade + r % f.binade) * 2 ^ (r / f.binade - 1) ≤ (2 * f.binade) * 2 ^ (r / f.binade - 1) := Nat.mul_le_mul_right _ (by omega)
      have e2 : (2 * f.binade) * 2 ^ (r / f.binade - 1) = 2 ^ (f.fractionBits + r / f.binade) := by
        rw [hbd, ← Nat.pow_succ', ← Nat.pow_add]
        congr 1
        rw [hbd] at hq
        omega
      rw [e2] at e1
      exact Nat.le_trans e1 (Nat.pow_le_pow_right (by decide) (by omega))
    · split at h <;> cases h
theorem bd_of_read {f : Format} {x : Nat} {s m p} (h : f.read x = .number s m p) : Bd f (f.fractionBits + (2 ^ f.exponentBits - 2)) x := ⟨s, m, p, h, (read_num_bd h).1, (read_num_bd h).2⟩
theorem Num.mf32 {x : Nat} (h : Num .f32 x) (hx : x < 2 ^ 32) : Mf .f32 128 x := by
  obtain ⟨s, m, p, h⟩ := h
  exact ⟨(bd_of_read (f := single) h).mono (by decide), hx⟩
theorem Mf.num {k : FloatKind} {e x : Nat} (h : Mf k e x) : Num k x := by
  cases k
  · obtain ⟨⟨s, m, p, h, _⟩, _⟩ := h
    exact ⟨s, m, p, h⟩
  · obtain ⟨⟨s, m, p, h, _⟩, _⟩ := h
    exact ⟨s, m, p, h⟩
theorem Mf.lt32 {e x : Nat} (h : Mf .f32 e x) : x < 2 ^ 32 := h.2
theorem Mf.lt64 {e x : Nat} (h : Mf .f64 e x) : x < 2 ^ 64 := h.2

theorem signed_f (m up : Nat) : signed false m up = ((m * 2 ^ up : Nat) : Int) := by
  unfold signed
  rw [Nat.shiftLeft_eq]
  rfl
theorem signed_t (m up : Nat) : signed true m up = -((m * 2 ^ up : Nat) : Int) := by
  unfold signed
  rw [Nat.shiftLeft_eq]
  rfl
/-! ### x - x -/
theorem signed_opp (s : Bool) (m : Nat) : signed s m 0 + signed (!s) m 0 = 0 := by
  unfold signed
  cases s <;> simp <;> omega
theorem sub_self_num {x : Nat} (h : Num .f64 x) : floatBits .sub .f64 x x = some 0 := by
  obtain ⟨s, m, p, h⟩ := h
  have h' : double.read x = .number s m p := h
  show Format.sub double x x = some 0
  unfold Format.sub
  rw [h']
  simp only [Datum.opposite, Datum.sum, Int.min_self, Int.sub_self, Int.toNat_zero, signed_opp, if_true, Option.map_some, Int.natAbs_zero]
  have : (s && !s) = false := by cases s <;> rfl
  rw [this]
  rfl
theorem sub_self_not {x : Nat} (h : ¬ Num .f64 x) : floatBits .sub .f64 x x = none := by
  show Format.sub double x x = none
  unfold Format.sub
  cases hr : double.read x with
  | number s m p => exact absurd ⟨s, m, p, hr⟩ h
  | infinity s => cases s <;> rfl
  | nan s f => rfl
theorem fcmp_nan {op : BinOp} (ho : op ≠ .neq) {k : FloatKind} {x y : Nat} (h : (k.decode x).isNaN = true) : fcmp op k x y = false := by
  have e : k.format.order x y = none := by
    unfold Format.order
    have : k.format.read x = k.decode x := rfl
    rw [this]
    cases hd : k.decode x with
    | nan s f => rfl
    | number s m p => rw [hd] at h; cases h
    | infinity s => rw [hd] at h; cases h
  cases op <;> first | exact absurd rfl ho | simp [fcmp, e]

/-! ### widening -/
theorem num_of_widen {p r : Nat} (h : (∀ r', floatToFloatBits .f32 p .f64 = some r' → r = r') ∧ (FloatKind.f32 ≠ .f64 → (FloatKind.f32.decode p).isNaN = true → (FloatKind.f64.decode r).isNaN = true)) (hp : p < 2 ^ 32) : Num .f64 r ↔ Num .f32 p := by
  constructor
  · intro hn
    obtain ⟨s, m, q, hr⟩ := hn
    cases hd : FloatKind.f32.decode p with
    | number s m q => exact ⟨_, _, _, hd⟩
    | infinity s =>
      have := h.1 (FloatKind.f64.encode (.infinity s)) (by unfold floatToFloatBits; rw [if_neg (by decide), hd])
      subst this
      cases s <;> cases hr
    | nan s f =>
      have := h.2 (by decide) (by rw [hd]; rfl)
      rw [hr] at this
      cases this
  · intro hn
    obtain ⟨r', h1, h2⟩ := (hn.mf32 hp).widen (by decide)
    cases h.1 _ h1
    exact h2.num

/-! ### the absolute value: the sign bit away -/
def fabs (x : Nat) : Nat := x % 2 ^ 63
theorem read_abs {x : Nat} {s m p} (h : FloatKind.f64.decode x = .number s m p) : FloatKind.f64.decode (fabs x) = .number false m p := by
  have h1 : double.read x = .number s m p := h
  show double.read (fabs x) = _
  unfold Format.read at h1 ⊢
  have e : double.signWeight = 2 ^ 63 := by decide
  simp only [e] at h1 ⊢
  unfold fabs
  have e1 : x % 2 ^ 63 % 2 ^ 63 = x % 2 ^ 63 := Nat.mod_mod _ _
  have e2 : (x % 2 ^ 63 / 2 ^ 63 % 2 == 1) = false := by
    have : x % 2 ^ 63 / 2 ^ 63 = 0 := Nat.div_eq_of_lt (Nat.mod_lt _ (by decide))
    rw [this]
    rfl
  rw [e1, e2]
  split at h1
  · cases h1; rw [if_pos ‹_›]
  · rw [if_neg ‹_›]
    split at h1
    · cases h1; rw [if_pos ‹_›]
    · rw [if_neg ‹_›]
      split at h1 <;> cases h1
theorem Num.abs {x : Nat} (h : Num .f64 x) : Num .f64 (fabs x) := by
  obtain ⟨s, m, p, h⟩ := h
  exact ⟨_, _, _, read_abs h⟩

theorem order_num {x y : Nat} {s m p t n q} (hx : double.read x = .number s m p) (hy : double.read y = .number t n q) :
    FloatKind.f64.format.order x y = some (compare (signed s m (p - min p q).toNat) (signed t n (q - min p q).toNat)) := by
  show Format.order double x y = _
  unfold Format.order
  rw [hx, hy]
  rfl
theorem cmp_self (a : Int) : compare a a = .eq := by simp [compare, compareOfLessAndEq]
theorem neq_self {x : Nat} (h : Num .f64 x) : fcmp .neq .f64 x x = false := by
  obtain ⟨s, m, p, h⟩ := h
  simp only [fcmp, order_num h h, cmp_self]
  rfl
theorem eql_zero : fcmp .eql .f64 0 0 = true := by decide +kernel
theorem order_zero {x : Nat} {s m p} (hx : double.read x = .number s m p) : FloatKind.f64.format.order x 0 = some (compare (signed s m (p - double.leastPlace).toNat) 0) := by
  have h0 : double.read 0 = .number false 0 double.leastPlace := rfl
  have hp := (read_num_bd hx).1
  rw [order_num hx h0, Int.min_eq_right hp]
  rfl
theorem cmp_lt {a b : Int} : (compare a b == .lt) = decide (a < b) := by
  simp only [compare, compareOfLessAndEq]
  split
  · simp [*]
  · split <;> simp [*]
theorem cmp_eq {a b : Int} : (compare a b == .eq) = decide (a = b) := by
  simp only [compare, compareOfLessAndEq]
  split
  · rename_i h; simp; omega
  · split <;> simp [*]
theorem cmp_gt {a b : Int} : (compare a b == .gt) = decide (b < a) := by
  simp only [compare, compareOfLessAndEq]
  split
  · rename_i h; simp; omega
  · split
    · rename_i h; simp; omega
    · simp; omega
theorem read_sign {x : Nat} (hx : x < 2 ^ 64) {s m p} (h : double.read x = .number s m p) : (s = true ↔ 2 ^ 63 ≤ x) := by
  have hs : s = (x / 2 ^ 63 % 2 == 1) := by
    have e : double.signWeight = 2 ^ 63 := by decide
    unfold Format.read at h
    simp only [e] at h
    split at h
    · cases h; rfl
    · split at h
      · cases h; rfl
      · split at h <;> cases h
  subst hs
  simp only [beq_iff_eq]
  omega
theorem read_mag0 {x : Nat} {s p} (h : double.read x = .number s 0 p) : fabs x = 0 := by
  have e : double.signWeight = 2 ^ 63 := by decide
  unfold Format.read at h
  simp only [e] at h
  split at h
  · rename_i h1
    unfold fabs
    injection h
  · split at h
    · injection h with h1 h2 h3
      have : 0 < double.binade := Nat.two_pow_pos _
      omega
    · split at h <;> cases h
theorem xor_top {x : Nat} (h1 : 2 ^ 63 ≤ x) (h2 : x < 2 ^ 64) : x ^^^ 2 ^ 63 = x % 2 ^ 63 := by
  refine Nat.eq_of_testBit_eq fun i => ?_
  rw [Nat.testBit_xor, Nat.testBit_mod_two_pow, Nat.testBit_two_pow]
  rcases Nat.lt_trichotomy i 63 with h | h | h
  · have : decide (63 = i) = false := decide_eq_false (by omega)
    rw [this]
    simp [h]
  · subst h
    have : x.testBit 63 = true := by
      rw [Nat.testBit_eq_decide_div_mod_eq]
      simp only [decide_eq_true_eq]
      omega
    rw [this]
    rfl
  · have : x.testBit i = false := Nat.testBit_lt_two_pow (Nat.lt_of_lt_of_le h2 (Nat.pow_le_pow_right (by decide) (by omega)))
    rw [this]
    have : decide (63 = i) = false := decide_eq_false (by omega)
    rw [this]
    simp [show ¬ i < 63 by omega]
theorem neg_f64 (x : Nat) : Op.negFloat .f64 x = x ^^^ 2 ^ 63 := rfl
/-- the spec's absolute value -/
theorem abs_neg {x : Nat} (h : Num .f64 x) (hx : x < 2 ^ 64) (hl : fcmp .lss .f64 x 0 = true) : Op.negFloat .f64 x = fabs x := by
  obtain ⟨s, m, p, h⟩ := h
  have h : double.read x = .number s m p := h
  simp only [fcmp, order_zero h] at hl
  have : (some (compare (signed s m (p - double.leastPlace).toNat) 0) == some Ordering.lt) = (compare (signed s m (p - double.leastPlace).toNat) 0 == .lt) := rfl
  rw [this, cmp_lt, decide_eq_true_eq] at hl
  have hs : s = true := by
    cases s
    · rw [signed_f] at hl
      omega
    · rfl
  rw [neg_f64]
  exact xor_top ((read_sign hx h).1 hs) hx
theorem abs_zero {x : Nat} (h : Num .f64 x) (hl : fcmp .eql .f64 x 0 = true) : fabs x = 0 := by
  obtain ⟨s, m, p, h⟩ := h
  have h : double.read x = .number s m p := h
  simp only [fcmp, order_zero h] at hl
  have : (some (compare (signed s m (p - double.leastPlace).toNat) 0) == some Ordering.eq) = (compare (signed s m (p - double.leastPlace).toNat) 0 == .eq) := rfl
  rw [this, cmp_eq, decide_eq_true_eq] at hl
  have hm : m = 0 := by
    have e := signed_abs s m (p - double.leastPlace).toNat
    rw [hl] at e
    have := Nat.two_pow_pos (p - double.leastPlace).toNat
    rcases Nat.eq_zero_or_pos m with h0 | h0
    · exact h0
    · have := Nat.mul_pos h0 this
      simp at e
      omega
  subst hm
  exact read_mag0 h
theorem abs_pos {x : Nat} (h : Num .f64 x) (hx : x < 2 ^ 64) (h1 : fcmp .lss .f64 x 0 = false) (h2 : fcmp .eql .f64 x 0 = false) : fabs x = x := by
  obtain ⟨s, m, p, h⟩ := h
  have h : double.read x = .number s m p := h
  simp only [fcmp, order_zero h] at h1 h2
  have e1 : (some (compare (signed s m (p - double.leastPlace).toNat) 0) == some Ordering.lt) = (compare (signed s m (p - double.leastPlace).toNat) 0 == .lt) := rfl
  have e2 : (some (compare (signed s m (p - double.leastPlace).toNat) 0) == some Ordering.eq) = (compare (signed s m (p - double.leastPlace).toNat) 0 == .eq) := rfl
  rw [e1, cmp_lt, decide_eq_false_iff_not] at h1
  rw [e2, cmp_eq, decide_eq_false_iff_not] at h2
  have hs : ¬ s = true := by
    intro hs
    subst hs
    rw [signed_t] at h1 h2
    omega
  have := mt (read_sign hx h).2 hs
  exact Nat.mod_eq_of_lt (by omega)
theorem leq_gtr {x y : Nat} (h : fcmp .leq .f64 x y = true) : fcmp .gtr .f64 x y = false := by
  simp only [fcmp] at h ⊢
  generalize FloatKind.f64.format.order x y = o at h ⊢
  cases o with
  | none => rfl
  | some o => cases o <;> first | rfl | cases h
theorem read_max {x : Nat} {s m p} (h : double.read x = .number s m p) : m ≤ 2 ^ 53 - 1 ∧ p ≤ 971 := by
  have hb : double.binade = 2 ^ 52 := by decide
  have hl : double.leastPlace = -1074 := by decide
  have hi : double.infRung = 2047 * 2 ^ 52 := by decide
  unfold Format.read at h
  simp only [hb, hl, hi] at h
  split at h
  · cases h
    omega
  · split at h
    · cases h
      omega
    · split at h <;> cases h
theorem abs_max {x : Nat} (h : Num .f64 x) : fcmp .gtr .f64 (fabs x) 9218868437227405311 = false := by
  obtain ⟨s, m, p, h⟩ := h
  have h1 := read_abs h
  have hM : double.read 9218868437227405311 = .number false (2 ^ 53 - 1) 971 := by decide +kernel
  obtain ⟨b1, b2⟩ := read_max h1
  simp only [fcmp, order_num h1 hM]
  rw [Int.min_eq_left b2, Int.sub_self, signed_f, signed_f]
  have e : ∀ o : Ordering, (some o == some Ordering.gt) = (o == .gt) := fun _ => rfl
  rw [e, cmp_gt, decide_eq_false_iff_not]
  have : m * 2 ^ (0 : Int).toNat ≤ (2 ^ 53 - 1) * 2 ^ (971 - p).toNat := by
    simp only [Int.toNat_zero, Nat.pow_zero, Nat.mul_one]
    exact Nat.le_trans b1 (Nat.le_mul_of_pos_right _ (Nat.two_pow_pos _))
  omega
/-- the bits without the uppermost one -/
theorem andNot_top {x : Nat} (hx : x < 2 ^ 64) : bits2 .andNot .u64 x 9223372036854775808 = (fabs x : Nat) := by
  have e1 : ~~~(BitVec.ofInt 64 9223372036854775808) = BitVec.ofNat 64 (2 ^ 63 - 1) := by decide
  have e2 : (BitVec.ofInt 64 (x : Int)).toNat = x := by simp; omega
  show IntKind.u64.wrap ((BitVec.ofInt 64 x &&& ~~~BitVec.ofInt 64 9223372036854775808).toNat : Nat) = _
  rw [e1, BitVec.toNat_and, e2, BitVec.toNat_ofNat, Nat.mod_eq_of_lt (by decide), Nat.and_two_pow_sub_one_eq_mod]
  refine wrap_inR ?_
  simp only [inR, fabs]
  omega
end Go.SX
