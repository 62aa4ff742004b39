import Derived.Test.YtipgdmaagiijmaaXa
set_option linter.unusedVariables false
set_option linter.unusedSimpArgs false
set_option linter.unusedSectionVars false
namespace Go.SX

/-! ### integers -/
def inR : IntKind → Int → Prop
  | .i8, n => -128 ≤ n ∧ n ≤ 127
  | .i16, n => -32768 ≤ n ∧ n ≤ 32767
  | .i32, n => -2147483648 ≤ n ∧ n ≤ 2147483647
  | .i64, n => -9223372036854775808 ≤ n ∧ n ≤ 9223372036854775807
  | .u8, n => 0 ≤ n ∧ n ≤ 255
  | .u16, n => 0 ≤ n ∧ n ≤ 65535
  | .u32, n => 0 ≤ n ∧ n ≤ 4294967295
  | .u64, n => 0 ≤ n ∧ n ≤ 18446744073709551615
theorem wrap_inR {k : IntKind} {n : Int} (h : inR k n) : k.wrap n = n := by
  cases k <;> simp only [inR] at h <;> simp [IntKind.wrap, IntKind.bits, IntKind.signed] <;> omega
/-- a number of its kind: under check its value, with a condition; else wrapped -/
def num (ch : Bool) (k : IntKind) (n : Int) : Option (SV × Prop) := match ch with
  | true => some (.v (.int k n), inR k n)
  | false => some (.v (.int k (k.wrap n)), True)
theorem num_ok {ch k n x c} (h : num ch k n = some (x, c)) (hc : c) : ∃ m, x = .v (.int k m) ∧ m = k.wrap n := by
  cases ch <;> cases h
  · exact ⟨_, rfl, rfl⟩
  · exact ⟨_, rfl, (wrap_inR hc).symm⟩
def bits2 (op : BinOp) (k : IntKind) (x y : Int) : Int :=
  match op with
  | .and => k.wrap (BitVec.ofInt k.bits x &&& BitVec.ofInt k.bits y).toNat
  | .or => k.wrap (BitVec.ofInt k.bits x ||| BitVec.ofInt k.bits y).toNat
  | .xor => k.wrap (BitVec.ofInt k.bits x ^^^ BitVec.ofInt k.bits y).toNat
  | _ => k.wrap (BitVec.ofInt k.bits x &&& ~~~BitVec.ofInt k.bits y).toNat

def isEq (o : Option Ordering) : Bool := o == some .eq
def fcmp (op : BinOp) (k : FloatKind) (a b : Nat) : Bool :=
  match op with
  | .eql => k.format.order a b == some .eq
  | .neq => k.format.order a b != some .eq
  | .lss => k.format.order a b == some .lt
  | .leq => k.format.order a b == some .lt || k.format.order a b == some .eq
  | .gtr => k.format.order a b == some .gt
  | _ => k.format.order a b == some .gt || k.format.order a b == some .eq
/-- the bits of a float operation whose result is a number or an infinity -/
def fop (op : BinOp) (k : FloatKind) (a b : Nat) : Nat := (floatBits op k a b).getD 0

def binI (ch : Bool) (op : BinOp) (k : IntKind) (a b : Int) : Option (SV × Prop) :=
  match op with
  | .add => num ch k (a + b)
  | .sub => num ch k (a - b)
  | .mul => num ch k (a * b)
  | .quo => some (.v (.int k (a / b)), 0 ≤ a ∧ 0 < b ∧ inR k (a / b))
  | .rem => some (.v (.int k (a % b)), 0 ≤ a ∧ 0 < b)
  | .and => some (.v (.int k (bits2 .and k a b)), True)
  | .or => some (.v (.int k (bits2 .or k a b)), True)
  | .xor => some (.v (.int k (bits2 .xor k a b)), True)
  | .andNot => some (.v (.int k (bits2 .andNot k a b)), True)
  | .eql => some (.v (.bool (a == b)), True)
  | .neq => some (.v (.bool (a != b)), True)
  | .lss => some (.v (.bool (decide (a < b))), True)
  | .leq => some (.v (.bool (decide (a ≤ b))), True)
  | .gtr => some (.v (.bool (decide (b < a))), True)
  | .geq => some (.v (.bool (decide (b ≤ a))), True)
  | _ => none
def binF (op : BinOp) (k : FloatKind) (a b : Nat) : Option (SV × Prop) :=
  match op with
  | .add => some (.v (.float k (fop .add k a b)), (floatBits .add k a b).isSome = true)
  | .sub => some (.v (.float k (fop .sub k a b)), (floatBits .sub k a b).isSome = true)
  | .mul => some (.v (.float k (fop .mul k a b)), (floatBits .mul k a b).isSome = true)
  | .quo => some (.v (.float k (fop .quo k a b)), (floatBits .quo k a b).isSome = true)
  | .eql => some (.v (.bool (fcmp .eql k a b)), True)
  | .neq => some (.v (.bool (fcmp .neq k a b)), True)
  | .lss => some (.v (.bool (fcmp .lss k a b)), True)
  | .leq => some (.v (.bool (fcmp .leq k a b)), True)
  | .gtr => some (.v (.bool (fcmp .gtr k a b)), True)
  | .geq => some (.v (.bool (fcmp .geq k a b)), True)
  | _ => none
def binC (op : BinOp) (k : FloatKind) (a b c d : Nat) : Option (SV × Prop) :=
  match op with
  | .eql => some (.v (.bool (fcmp .eql k a c && fcmp .eql k b d)), True)
  | .neq => some (.v (.bool !(fcmp .eql k a c && fcmp .eql k b d)), True)
  | _ => none
def binS (op : BinOp) (a b : ByteArray) : Option (SV × Prop) :=
  match op with
  | .add => some (.v (.string (a ++ b)), a.size + b.size ≤ 9223372036854775807)
  | .eql => some (.v (.bool (a.toList == b.toList)), True)
  | .neq => some (.v (.bool !(a.toList == b.toList)), True)
  | _ => none
def sameI : IntKind → IntKind → Bool
  | .i8, .i8 => true | .i16, .i16 => true | .i32, .i32 => true | .i64, .i64 => true
  | .u8, .u8 => true | .u16, .u16 => true | .u32, .u32 => true | .u64, .u64 => true
  | _, _ => false
theorem sameI_eq {k j : IntKind} (h : sameI k j = true) : k = j := by cases k <;> cases j <;> first | rfl | cases h
def sameF : FloatKind → FloatKind → Bool
  | .f32, .f32 => true | .f64, .f64 => true | _, _ => false
theorem sameF_eq {k j : FloatKind} (h : sameF k j = true) : k = j := by cases k <;> cases j <;> first | rfl | cases h
def boolOf : SV → Option Bool
  | .b x => some x
  | .v (.bool x) => some x
  | _ => none
def shft (ch : Bool) (op : BinOp) (k : IntKind) (a b : Int) : Option (SV × Prop) :=
  match op with
  | .shl => some (.v (.int k (k.wrap (a * 2 ^ (min b.toNat k.bits)))), 0 ≤ b)
  | .shr => some (.v (.int k (a.fdiv (2 ^ (min b.toNat k.bits)))), 0 ≤ b)
  | _ => none
def isShift : BinOp → Bool
  | .shl => true | .shr => true | _ => false
def bin (T : TT) (ch : Bool) (op : BinOp) (t : TypeId) (x y : SV) : Option (SV × Prop) :=
  match x, y with
  | .v (.int k a), .v (.int k' b) => match isShift op with
    | true => shft ch op k a b
    | false => match sameI k k' with
      | true => binI ch op k a b
      | false => none
  | .v (.float k a), .v (.float k' b) => match sameF k k' with
    | true => binF op k a b
    | false => none
  | .v (.complex k a b), .v (.complex k' c d) => match sameF k k' with
    | true => binC op k a b c d
    | false => none
  | .v (.string a), .v (.string b) => binS op a b
  | x, y => match boolOf x, boolOf y with
    | some a, some b => match tk T t with
      | some ⟨_, _, _, .bool⟩ => match op with
        | .eql => some (.v (.bool (a == b)), True)
        | .neq => some (.v (.bool !(a == b)), True)
        | _ => none
      | _ => none
    | _, _ => none

section
variable {P : Program} {w : World}
theorem binI_ok {ch op k a b x c} {t : TypeId} (hs : isShift op = false) (h : binI ch op k a b = some (x, c)) (hc : c) (β) : (binOp op t (.int k a) (.int k b)).run P w = .ok (SV.dn β x) w := by
  cases op
  case add => obtain ⟨m, rfl, rfl⟩ := num_ok h hc; simp [binOp, Op.intArith, SV.dn]
  case sub => obtain ⟨m, rfl, rfl⟩ := num_ok h hc; simp [binOp, Op.intArith, SV.dn]
  case mul => obtain ⟨m, rfl, rfl⟩ := num_ok h hc; simp [binOp, Op.intArith, SV.dn]
  case quo =>
    cases h
    obtain ⟨h1, h2, h3⟩ := hc
    have hb : b ≠ 0 := by omega
    have : a.tdiv b = a / b := by rw [Int.tdiv_eq_ediv_of_nonneg h1]
    simp [binOp, Op.intDiv, SV.dn, hb, this, wrap_inR h3]
  case rem =>
    cases h
    obtain ⟨h1, h2⟩ := hc
    have hb : b ≠ 0 := by omega
    have : a.tmod b = a % b := by rw [Int.tmod_eq_emod_of_nonneg h1]
    simp [binOp, Op.intDiv, SV.dn, hb, this]
  case shl => cases hs
  case shr => cases hs
  all_goals (cases h; simp [binOp, Op.intBits, Op.intCmp, SV.dn, bits2])
theorem floatBits_some {op k a b} (h : (floatBits op k a b).isSome = true) : floatBits op k a b = some (fop op k a b) := by
  unfold fop
  cases hh : floatBits op k a b with
  | none => rw [hh] at h; cases h
  | some r => rfl
theorem binF_ok {op k a b x c} {t : TypeId} (h : binF op k a b = some (x, c)) (hc : c) (β) : (binOp op t (.float k a) (.float k b)).run P w = .ok (SV.dn β x) w := by
  cases op
  case add => cases h; exact run_float_arith w .add t k a b _ (floatBits_some hc)
  case sub => cases h; exact run_float_arith w .sub t k a b _ (floatBits_some hc)
  case mul => cases h; exact run_float_arith w .mul t k a b _ (floatBits_some hc)
  case quo => cases h; exact run_float_arith w .quo t k a b _ (floatBits_some hc)
  all_goals (cases h <;> simp [binOp, Op.floatCmp, SV.dn, fcmp])
theorem binC_ok {op k a b d e x c} {t : TypeId} (h : binC op k a b d e = some (x, c)) (hc : c) (β) : (binOp op t (.complex k a b) (.complex k d e)).run P w = .ok (SV.dn β x) w := by
  cases op <;> cases h <;> simp [binOp, Op.complexOp, Op.Complex.cmp, Op.floatCmp, asBool, SV.dn, fcmp]
theorem binS_ok {op a b x c} {t : TypeId} (h : binS op a b = some (x, c)) (hc : c) (β) : (binOp op t (.string a) (.string b)).run P w = .ok (SV.dn β x) w := by
  cases op <;> cases h
  · have : ¬ ((a.size + b.size : Nat) : Int) > IntKind.i64.max := by
      simp only [IntKind.max, IntKind.signed, IntKind.bits]; simp; omega
    simp only [binOp, Op.stringOp]
    rw [if_neg this]; rfl
  all_goals simp [binOp, Op.stringOp, SV.dn]
theorem boolOf_dn {x : SV} {a : Bool} (h : boolOf x = some a) (β) : SV.dn β x = .bool a := by
  cases x with
  | b y => cases h; rfl
  | v y => cases y <;> cases h; rfl
  | _ => cases h
theorem eqGuard_plain (op : BinOp) (t : TypeId) (x y : Operand) {a b : Value} (h : match a, b with | .nilIface, .nilIface => False | .agg _, .agg _ => False | _, _ => True) : (eqGuard op t x y a b).run P w = .ok () w := by
  unfold eqGuard
  cases op <;> (try rfl) <;> (cases a <;> (try rfl) <;> cases b <;> first | rfl | exact h.elim)
theorem equalIn_bool {d : Nat} {t : TypeId} (hu : P.underlying t = some .bool) (a b : Bool) : (Op.equalIn (d + 1) t (.bool a) (.bool b)).run P w = .ok (a == b) w := by
  simp only [Op.equalIn, Sem.run_bind, run_underlying hu, Result.andThen_ok]
  rfl
theorem equal_bool {t : TypeId} (hu : P.underlying t = some .bool) (a b : Bool) : (Op.equal t (.bool a) (.bool b)).run P w = .ok (a == b) w := by
  have := @equalIn_bool P w 9999 t hu a b
  exact this
theorem bin_ok {T : TT} (hT : TabOk P T) {ch op t x y z c} (h : bin T ch op t x y = some (z, c)) (hc : c) (β) (ox oy : Operand) :
    (do eqGuard op t ox oy (SV.dn β x) (SV.dn β y); binOp op t (SV.dn β x) (SV.dn β y)).run P w = .ok (SV.dn β z) w ∧ SV.wf β.length z := by
  unfold bin at h
  split at h
  · split at h
    · rename_i hsh
      cases op <;> first | (cases hsh; done) | skip
      all_goals
        cases h
        refine ⟨?_, trivial⟩
        simp only [SV.dn, Sem.run_bind]
        rw [eqGuard_plain _ _ _ _ trivial]
        simp [binOp, Op.shift, Int.not_lt.2 hc, SV.dn]
    · rename_i hsh
      split at h
      · rename_i hk
        obtain rfl := sameI_eq hk
        refine ⟨?_, ?_⟩
        · simp only [SV.dn, Sem.run_bind]
          rw [eqGuard_plain _ _ _ _ trivial]
          exact binI_ok hsh h hc β
        · cases op <;> (try cases h) <;> (try exact trivial) <;> (obtain ⟨m, rfl, _⟩ := num_ok h hc; exact trivial)
      · cases h
  · split at h
    · rename_i hk
      obtain rfl := sameF_eq hk
      refine ⟨?_, ?_⟩
      · simp only [SV.dn, Sem.run_bind]
        rw [eqGuard_plain _ _ _ _ trivial]
        exact binF_ok h hc β
      · cases op <;> cases h <;> exact trivial
    · cases h
  · split at h
    · rename_i hk
      obtain rfl := sameF_eq hk
      refine ⟨?_, ?_⟩
      · simp only [SV.dn, Sem.run_bind]
        rw [eqGuard_plain _ _ _ _ trivial]
        exact binC_ok h hc β
      · cases op <;> cases h <;> exact trivial
    · cases h
  · refine ⟨?_, ?_⟩
    · simp only [SV.dn, Sem.run_bind]
      rw [eqGuard_plain _ _ _ _ trivial]
      exact binS_ok h hc β
    · cases op <;> cases h <;> exact trivial
  · split at h
    · rename_i a b ha hb
      rw [boolOf_dn ha, boolOf_dn hb]
      split at h
      · rename_i s1 s2 s3 ht
        have hu := (hT.ok _ _ ht).und
        refine ⟨?_, ?_⟩
        · simp only [Sem.run_bind]
          rw [eqGuard_plain _ _ _ _ trivial]
          cases op <;> cases h <;> simp [binOp, equal_bool hu, SV.dn]
        · cases op <;> cases h <;> exact trivial
      · cases h
    · cases h
end
end Go.SX
