import Derived.Test.YtipgdmaagiijmaaXb
set_option linter.unusedVariables false
set_option linter.unusedSimpArgs false
set_option linter.unusedSectionVars false
namespace Go.SX

def unV (ch : Bool) (op : UnOp) (x : SV) : Option (SV × Prop) :=
  match op, x with
  | .not, .b a => some (.b (!a), True)
  | .not, .v (.bool a) => some (.v (.bool !a), True)
  | .neg, .v (.int k n) => num ch k (0 - n)
  | .neg, .v (.float k b) => some (.v (.float k (Op.negFloat k b)), True)
  | _, _ => none

def byteVals : List SV → Option (List UInt8)
  | [] => some []
  | .v (.int .u8 n) :: r => match byteVals r with
    | some l => some (UInt8.ofNat n.toNat :: l)
    | none => none
  | _ => none

def conv (T : TT) (ch : Bool) (bx : BL) (s d : TypeId) (x : SV) : Option (SV × Prop) :=
  match tk T s with
  | none => none
  | some is =>
  match tk T d with
  | none => none
  | some ⟨_, _, _, dd⟩ =>
    match dd, x with
    | .int k, .v (.int _ n) => num ch k n
    | .float k, .v (.int _ n) => some (.v (.float k (k.nearest n)), True)
    | .int k, .v (.float s b) => some (.v (.int k ((floatToIntVal s b k).getD 0)), (floatToIntVal s b k).isSome = true)
    | .float k, .v (.float s b) => some (.v (.float k ((floatToFloatBits s b k).getD 0)), (floatToFloatBits s b k).isSome = true)
    | .complex k, .v (.complex s a b) => some (.v (.complex k ((floatToFloatBits s a k).getD 0) ((floatToFloatBits s b k).getD 0)), (floatToFloatBits s a k).isSome = true ∧ (floatToFloatBits s b k).isSome = true)
    | .string, .v (.string a) => some (.v (.string a), True)
    | .string, .s i n c => match is with
      | ⟨_, _, _, .slice e⟩ => match tk T e with
        | some ⟨_, _, _, .int .u8⟩ => match bk bx i with
          | some (_, cs) => match Nat.beq cs.length n with
            | true => match byteVals cs with
              | some l => some (.v (.string ⟨l.toArray⟩), True)
              | none => none
            | false => none
          | none => none
        | _ => none
      | _ => none
    | _, _ => none

/-- a bound's value, as an Int -/
def bnd (l : EL) : Option Operand → Option (Option Int)
  | none => some none
  | some o => match evo l o with
    | some (.v (.int _ n)) => some (some n)
    | _ => none
def slA (c l sz : Nat) (A : Option Addr) : Option Addr := if c = l then A else A.map (·.add (l * sz))
def sliceV (T : TT) (t : TypeId) (x : SV) (lo hi : Option Int) : Option (SV × Prop) :=
  match x with
  | .v (.string s) => match tk T t with
    | some ⟨_, _, _, .string⟩ => match lo, hi with
      | none, none => some (.v (.string (s.extract 0 s.size)), True)
      | some a, none => some (.v (.string (s.extract a.toNat s.size)), 0 ≤ a ∧ a ≤ s.size)
      | none, some b => some (.v (.string (s.extract 0 b.toNat)), 0 ≤ b ∧ b ≤ s.size)
      | some a, some b => some (.v (.string (s.extract a.toNat b.toNat)), 0 ≤ a ∧ a ≤ b ∧ b ≤ s.size)
    | _ => none
  | .v (.slice A n c) => match tk T t with
    | some ⟨_, _, _, .slice e⟩ => match tk T e with
      | some ie => match lo, hi with
        | none, none => some (.v (.slice (slA c 0 ie.size A) (n - 0) (c - 0)), True)
        | some a, none => some (.v (.slice (slA c a.toNat ie.size A) (n - a.toNat) (c - a.toNat)), 0 ≤ a ∧ a ≤ n)
        | none, some b => some (.v (.slice (slA c 0 ie.size A) (b.toNat - 0) (c - 0)), 0 ≤ b ∧ b ≤ c)
        | some a, some b => some (.v (.slice (slA c a.toNat ie.size A) (b.toNat - a.toNat) (c - a.toNat)), 0 ≤ a ∧ a ≤ b ∧ b ≤ c)
      | none => none
    | _ => none
  | _ => none

def fieldOf (T : TT) (s : TypeId) (f : Nat) : Option (Nat × TInfo) :=
  match tk T s with
  | some ⟨_, _, _, .struct fs⟩ => match fs[f]? with
    | some fl => match tk T fl.type with
      | some i => some (fl.offset, i)
      | none => none
    | none => none
  | _ => none
/-- a part of a row of cells -/
def partV (i : TInfo) (cs : List SV) (off : Nat) : Option SV :=
  match i.agg with
  | true => match Nat.ble (off + i.size) cs.length with
    | true => some (.g ((cs.drop off).take i.size))
    | false => none
  | false => cs[off]?
def fieldV (T : TT) (t : TypeId) (x : SV) (f : Nat) : Option (SV × Prop) :=
  match fieldOf T t f with
  | some (off, i) => match x with
    | .g cs => match partV i cs off with
      | some y => some (y, True)
      | none => none
    | .v (.agg a) => match partV i (a.toList.map .v) off with
      | some y => some (y, True)
      | none => none
    | _ => none
  | none => none
def faddrV (T : TT) (t : TypeId) (x : SV) (f : Nat) : Option (SV × Prop) :=
  match fieldOf T t f with
  | some (off, i) => match i.size with
    | 0 => none
    | _ + 1 => match x with
      | .p id o => some (.p id (o + off), True)
      | .v (.pointer (some ad)) => some (.v (.pointer (some (ad.add off))), True)
      | _ => none
  | none => none
def iaddrV (T : TT) (t : TypeId) (x ix : SV) : Option (SV × Prop) :=
  match ix with
  | .v (.int _ i) => match tk T t with
    | some ⟨_, _, _, .slice e⟩ => match tk T e with
      | some ie => match x with
        | .v (.slice A n c) => some (.v (.pointer (A.map fun a => a.add (i.toNat * ie.size))), 0 ≤ i ∧ i < n ∧ A.isSome = true)
        | .s id n c => some (.p id (i.toNat * ie.size), 0 ≤ i ∧ i < n)
        | _ => none
      | none => none
    | _ => none
  | _ => none
def bAt (s : ByteArray) (i : Nat) : Int := ((s.data.toList.getD i 0).toNat : Int)
def indexV (T : TT) (t : TypeId) (x ix : SV) : Option (SV × Prop) :=
  match x, ix with
  | .v (.string s), .v (.int _ i) => match tk T t with
    | some ⟨_, _, _, .string⟩ => some (.v (.int .u8 (bAt s i.toNat)), 0 ≤ i ∧ i < s.size)
    | _ => none
  | _, _ => none
def extractV (x : SV) (i : Nat) : Option (SV × Prop) :=
  match x with
  | .v (.tuple vs) => match vs[i]? with
    | some y => some (.v y, True)
    | none => none
  | _ => none
def fillS : List SV → List (Nat × Nat × List SV) → Option (List SV)
  | cs, [] => some cs
  | cs, (off, size, x) :: r => match Nat.beq x.length size with
    | true => match Nat.ble (off + size) cs.length with
      | true => fillS (cs.take off ++ x ++ cs.drop (off + size)) r
      | false => none
    | false => none
def partsS (T : TT) (t : TypeId) (l : EL) : List (Nat × Operand) → Option (List (Nat × Nat × List SV))
  | [] => some []
  | (f, o) :: r => match fieldOf T t f with
    | some (off, i) => match evo l o with
      | some x => match partsS T t l r with
        | some ps => some ((off, i.size, x.cells) :: ps)
        | none => none
      | none => none
    | none => none
def lenV (T : TT) (t : TypeId) (x : SV) : Option (SV × Prop) :=
  match x with
  | .v (.slice A n c) => match tk T t with
    | some ⟨_, _, _, .slice _⟩ => some (.v (.int .i64 n), True)
    | _ => none
  | .s id n c => match tk T t with
    | some ⟨_, _, _, .slice _⟩ => some (.v (.int .i64 n), True)
    | _ => none
  | .v (.string s) => match tk T t with
    | some ⟨_, _, _, .string⟩ => some (.v (.int .i64 s.size), True)
    | _ => none
  | _ => none
def builtinV (T : TT) (b : Builtin) (ts : Array TypeId) (xs : List SV) : Option (SV × Prop) :=
  match b, xs with
  | .len, [x] => match ts[0]? with
    | some t => lenV T t x
    | none => none
  | .real, [.v (.complex k a b)] => some (.v (.float k a), True)
  | .imag, [.v (.complex k a b)] => some (.v (.float k b), True)
  | .complex, [.v (.float k a), .v (.float k' b)] => match sameF k k' with
    | true => some (.v (.complex k a b), True)
    | false => none
  | .min, [.v (.int k a), .v (.int _ b)] => some (.v (.int k (if b < a then b else a)), True)
  | .max, [.v (.int k a), .v (.int _ b)] => some (.v (.int k (if b > a then b else a)), True)
  | _, _ => none

def nilOk : SV → Bool
  | .p _ _ => true
  | .v (.pointer (some _)) => true
  | .f (.func _) _ _ => true
  | _ => false

def op1 (T : TT) (ch : Bool) (l : EL) (bx : BL) (op : Op) : Option (SV × Prop) :=
  match op with
  | .move x | .assign x => match evo l x with
    | some y => some (y, True)
    | none => none
  | .pick c a b => match evo l c with
    | some (.b true) => match evo l a with
      | some y => some (y, True)
      | none => none
    | some (.b false) => match evo l b with
      | some y => some (y, True)
      | none => none
    | _ => none
  | .load t a => match evo l a with
    | some (.p id o) => match bk bx id with
      | some (_, cs) => match tk T t with
        | some i => match partV i cs o with
          | some y => some (y, True)
          | none => none
        | none => none
      | none => none
    | _ => none
  | .nilCheck x => match evo l x with
    | some y => match nilOk y with
      | true => some (y, True)
      | false => none
    | none => none
  | .binOp op t x y _ => match evo l x with
    | some a => match evo l y with
      | some b => bin T ch op t a b
      | none => none
    | none => none
  | .unOp op _ x => match evo l x with
    | some a => unV ch op a
    | none => none
  | .convert s d x => match evo l x with
    | some a => conv T ch bx s d a
    | none => none
  | .makeFunc fn a c => match evos l a.toList with
    | some xs => match evos l c.toList with
      | some ys => some (.f fn xs ys, True)
      | none => none
    | none => none
  | .slice t x lo hi none => match evo l x with
    | some a => match bnd l lo with
      | some lo' => match bnd l hi with
        | some hi' => sliceV T t a lo' hi'
        | none => none
      | none => none
    | none => none
  | .fieldAddr t x f => match evo l x with
    | some a => faddrV T t a f
    | none => none
  | .field t x f => match evo l x with
    | some a => fieldV T t a f
    | none => none
  | .indexAddr t x i => match evo l x with
    | some a => match evo l i with
      | some b => iaddrV T t a b
      | none => none
    | none => none
  | .index t x i => match evo l x with
    | some a => match evo l i with
      | some b => indexV T t a b
      | none => none
    | none => none
  | .extract x i => match evo l x with
    | some a => extractV a i
    | none => none
  | .build t ps => match tk T t with
    | some ⟨_, _, z, .struct fs⟩ => match fs.toList.all fun fl => (tk T fl.type).isSome with
      | true => match partsS T t l ps.toList with
        | some qs => match fillS (SV.cells (.v z)) qs with
          | some cs => some (.g cs, True)
          | none => none
        | none => none
      | false => none
    | _ => none
  | .call ⟨.builtin b, args, ts⟩ => match evos l args.toList with
    | some xs => builtinV T b ts xs
    | none => none
  | _ => none
end Go.SX
