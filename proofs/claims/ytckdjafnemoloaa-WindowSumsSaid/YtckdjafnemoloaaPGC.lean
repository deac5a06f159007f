/- A part of the proofs over this seat (own work; the framework that reads a Go function as a pure one, or a use of it). No condition of its own. -/
import Derived.Test.YtckdjafnemoloaaPGB
set_option linter.unusedVariables false
set_option linter.unusedSimpArgs false
namespace Go.PG
/-! The abstract operations: what an operation makes of abstract values and abstract memory. -/

structure TyD where
  desc : TypeDesc
  size : Nat
  bytes : Nat
  kd : Option Kd

abbrev Tab := List (Nat × TyD)
def tlook : Tab → TypeId → Option TyD
  | [], _ => none
  | (i, d) :: l, t => match Nat.beq i t with | true => some d | false => tlook l t
def tkd (T : Tab) (t : TypeId) : Option Kd := match tlook T t with | some d => d.kd | none => none
def tdesc (T : Tab) (t : TypeId) : Option TypeDesc := match tlook T t with | some d => some d.desc | none => none

def tget : List (Nat × SV) → Nat → SV
  | [], _ => .dead
  | (i, s) :: l, t => match Nat.beq i t with | true => s | false => tget l t
def mget : List (Nat × Blk) → Nat → Option Blk
  | [], _ => none
  | (i, b) :: l, t => match Nat.beq i t with | true => some b | false => mget l t

structure St where
  tm : List (Nat × SV)
  me : List (Nat × Blk)
  nx : Nat

def cSV : Value → SV
  | .int k n => .val (.int k) n
  | .bool b => .val .bool b
  | .string s => .val .str s
  | .slice none 0 0 => .nil
  | _ => .dead
def opv (tm : List (Nat × SV)) : Operand → SV
  | .tmp t => tget tm t
  | .const v => cSV v
  | .func f => .fn f
  | .global _ => .dead

/-- What an operation makes: under the condition 'ok' the value sv and the entries wr; it looks at the entries acc. -/
structure ARes where
  ok : Bool
  sv : SV
  wr : List (Nat × Blk)
  acc : List Nat
  nx : Nat

/-- An abstract value as a pure value of kind k; entries that are shut by that. -/
def toVal (np : Nat) (rd : Nat → Option Blk) : SV → (k : Kd) → Option (k.T × List (Nat × Blk) × List Nat)
  | .val k' x, k => match TV.as ⟨k', x⟩ k with | some y => some (y, [], []) | none => none
  | .nil, .sl _ => some ([], [], [])
  | .own j ver, k => match Nat.blt j np, rd j with
    | false, some (.row e l ver' _) => match Nat.beq ver ver', TV.as ⟨.sl e, l⟩ k with
      | true, some y => some (y, [(j, .row e l ver' true)], [j])
      | _, _ => none
    | _, _ => none
  | .win j ver lo n, k => match Nat.blt j np, rd j with
    | false, some (.row e l ver' _) => match Nat.beq ver ver', TV.as ⟨.sl e, (l.drop lo).take n⟩ k with
      | true, some y => some (y, [(j, .row e l ver' true)], [j])
      | _, _ => none
    | _, _ => none
  | .asl b p lo n, k => match Nat.blt b np, rd b with
    | false, some (.var kb x _) => match getP kb x p with
      | some ⟨.arr _ e, l⟩ => match TV.as ⟨.sl e, (List.take n (List.drop lo l))⟩ k with
        | some y => some (y, [(b, .var kb x true)], [b])
        | none => none
      | _ => none
    | _, _ => none
  | _, _ => none

/-- A slice's elements, to be read now. -/
def rdSl (rd : Nat → Option Blk) : SV → Option ((e : Kd) × List e.T × List Nat)
  | .val (.sl e) l => some ⟨e, l, []⟩
  | .own j ver => match rd j with
    | some (.row e l ver' _) => match Nat.beq ver ver' with | true => some ⟨e, l, [j]⟩ | false => none
    | _ => none
  | .win j ver lo n => match rd j with
    | some (.row e l ver' _) => match Nat.beq ver ver' with | true => some ⟨e, (l.drop lo).take n, [j]⟩ | false => none
    | _ => none
  | .asl b p lo n => match rd b with
    | some (.var kb x _) => match getP kb x p with
      | some ⟨.arr _ e, l⟩ => some ⟨e, List.take n (List.drop lo l), [b]⟩
      | _ => none
    | _ => none
  | _ => none

def ok1 (sv : SV) (nx : Nat) : Option ARes := some ⟨true, sv, [], [], nx⟩

def iand (k : IntKind) (a b : Int) : Int := k.wrap ((BitVec.ofInt k.bits a &&& BitVec.ofInt k.bits b).toNat : Int)
def ior (k : IntKind) (a b : Int) : Int := k.wrap ((BitVec.ofInt k.bits a ||| BitVec.ofInt k.bits b).toNat : Int)
def ixor (k : IntKind) (a b : Int) : Int := k.wrap ((BitVec.ofInt k.bits a ^^^ BitVec.ofInt k.bits b).toNat : Int)
def iandn (k : IntKind) (a b : Int) : Int := k.wrap ((BitVec.ofInt k.bits a &&& ~~~ BitVec.ofInt k.bits b).toNat : Int)
def ishl (k : IntKind) (a b : Int) : Int := k.wrap (a * 2 ^ (min b.toNat k.bits))
def ishr (k : IntKind) (a b : Int) : Int := a.fdiv (2 ^ (min b.toNat k.bits))

def aBinInt (op : BinOp) (k : IntKind) (a b : Int) : Bool × TV :=
  match op with
  | .add => (true, ⟨.int k, k.wrap (a + b)⟩)
  | .sub => (true, ⟨.int k, k.wrap (a - b)⟩)
  | .mul => (true, ⟨.int k, k.wrap (a * b)⟩)
  | .quo => (!(b == 0), ⟨.int k, k.wrap (a.tdiv b)⟩)
  | .rem => (!(b == 0), ⟨.int k, a.tmod b⟩)
  | .and => (true, ⟨.int k, iand k a b⟩)
  | .or => (true, ⟨.int k, ior k a b⟩)
  | .xor => (true, ⟨.int k, ixor k a b⟩)
  | .andNot => (true, ⟨.int k, iandn k a b⟩)
  | .shl => (decide (0 ≤ b), ⟨.int k, ishl k a b⟩)
  | .shr => (decide (0 ≤ b), ⟨.int k, ishr k a b⟩)
  | .eql => (true, ⟨.bool, a == b⟩)
  | .neq => (true, ⟨.bool, a != b⟩)
  | .lss => (true, ⟨.bool, decide (a < b)⟩)
  | .leq => (true, ⟨.bool, decide (a ≤ b)⟩)
  | .gtr => (true, ⟨.bool, decide (a > b)⟩)
  | .geq => (true, ⟨.bool, decide (a ≥ b)⟩)

def eqvL {α : Type} (f : α → α → Bool) : List α → List α → Bool
  | x :: xs, y :: ys => f x y && eqvL f xs ys
  | _, _ => true
/-- Go's == at a kind. -/
def Kd.eqv : (k : Kd) → k.T → k.T → Bool
  | .int _, a, b => (show Int from a) == (show Int from b)
  | .bool, a, b => (show Bool from a) == (show Bool from b)
  | .str, a, b => (show ByteArray from a).toList == (show ByteArray from b).toList
  | .unit, _, _ => true
  | .pair k l, a, b => k.eqv a.1 b.1 && l.eqv a.2 b.2
  | .arr _ e, a, b => eqvL e.eqv a b
  | .sl _, _, _ => true

def isShift : BinOp → Bool | .shl | .shr => true | _ => false

/-- eqt: the types at which == may be asked of structs and arrays. -/
def aBin (T : Tab) (eqt : List Nat) (op : BinOp) (xt : TypeId) (x y : SV) (nx : Nat) : Option ARes :=
  match x, y with
  | .val (.int k) a, .val (.int k') b => match isShift op, Kd.ikb k k' with
    | false, false => none
    | _, _ => match aBinInt op k a b with | (c, v) => some ⟨c, .val v.1 v.2, [], [], nx⟩
  | .val .bool a, .val .bool b => match op, tkd T xt with
    | .eql, some .bool => ok1 (.val .bool (a == b)) nx
    | .neq, some .bool => ok1 (.val .bool (!(a == b))) nx
    | _, _ => none
  | .val .str a, .val .str b => match op with
    | .eql => ok1 (.val .bool (a.toList == b.toList)) nx
    | .neq => ok1 (.val .bool (!(a.toList == b.toList))) nx
    | _ => none
  | .val k a, .val k' b => match op, tkd T xt, TV.as ⟨k', b⟩ k, eqt.elem xt, k.agg with
    | .eql, some kt, some b', true, true => match kt.same k with | true => ok1 (.val .bool (k.eqv a b')) nx | false => none
    | .neq, some kt, some b', true, true => match kt.same k with | true => ok1 (.val .bool (!(k.eqv a b'))) nx | false => none
    | _, _, _, _, _ => none
  | _, _ => none

def aUn (op : UnOp) (x : SV) (nx : Nat) : Option ARes :=
  match op, x with
  | .neg, .val (.int k) a => ok1 (.val (.int k) (k.wrap (0 - a))) nx
  | .xor, .val (.int k) a => ok1 (.val (.int k) (ixor k (if k.signed then -1 else k.max) a)) nx
  | .not, .val .bool a => ok1 (.val .bool (!a)) nx
  | _, _ => none

/-- The text of bytes. -/
def strOf (l : List Int) : ByteArray := ⟨(l.map fun n => UInt8.ofNat n.toNat).toArray⟩

def aConv (T : Tab) (rd : Nat → Option Blk) (src dst : TypeId) (x : SV) (nx : Nat) : Option ARes :=
  match tdesc T src, tdesc T dst, x with
  | some (.int _), some (.int k), .val (.int _) a => ok1 (.val (.int k) (k.wrap a)) nx
  | some .string, some .string, .val .str a => ok1 (.val .str a) nx
  | some (.slice _), some .string, x => match tkd T src, rdSl rd x with
    | some (.sl (.int .u8)), some ⟨.int .u8, l, acc⟩ => some ⟨true, .val .str (strOf l), [], acc, nx⟩
    | _, _ => none
  | _, _, _ => none

def aLoad (T : Tab) (rd : Nat → Option Blk) (t : TypeId) (x : SV) (nx : Nat) : Option ARes :=
  match tkd T t with
  | none => none
  | some kt =>
    match x with
    | .ptr b p k => match kt.same k, rd b with
      | true, some (.var kb y _) => match getP kb y p with
        | some ⟨k', z⟩ => match k'.same k with | true => some ⟨true, .val k' z, [], [b], nx⟩ | false => none
        | none => none
      | _, _ => none
    | .pval k z => match kt.same k with | true => ok1 (.val k z) nx | false => none
    | .rptr j ver i p k => match kt.same k, rd j with
      | true, some (.row e l ver' _) => match Nat.beq ver ver', getP e (l.getD i e.zero) p with
        | true, some ⟨k', z⟩ => match k'.same k with | true => some ⟨true, .val k' z, [], [j], nx⟩ | false => none
        | _, _ => none
      | _, _ => none
    | .pwin b p lo n => match rd b with
      | some (.var kb y _) => match getP kb y p with
        | some ⟨.arr _ e, l⟩ => match kt.same (.arr n e) with
          | true => some ⟨true, .val (.arr n e) (List.take n (List.drop lo l)), [], [b], nx⟩
          | false => none
        | _ => none
      | _ => none
    | _ => none

def aStore (T : Tab) (np : Nat) (rd : Nat → Option Blk) (t : TypeId) (x v : SV) (nx : Nat) : Option ARes :=
  match tkd T t with
  | none => none
  | some kt =>
    match toVal np rd v kt with
    | none => none
    | some (y, wr, acc) =>
      match x with
      | .ptr b p k => match kt.same k, rd b, acc with
        | true, some (.var kb z false), [] => match setP kb z p ⟨kt, y⟩ with
          | some z' => some ⟨true, .dead, [(b, .var kb z' false)], [b], nx⟩
          | none => none
        | true, some (.var kb z false), [i] => match Nat.beq i b, setP kb z p ⟨kt, y⟩ with
          | false, some z' => some ⟨true, .dead, (b, .var kb z' false) :: wr, [b, i], nx⟩
          | _, _ => none
        | _, _, _ => none
      | .rptr j ver i p k => match kt.same k, rd j, acc with
        | true, some (.row e l ver' false), [] => match Nat.beq ver ver', setP e (l.getD i e.zero) p ⟨kt, y⟩ with
          | true, some z' => some ⟨true, .dead, [(j, .row e (l.set i z') ver' false)], [j], nx⟩
          | _, _ => none
        | _, _, _ => none
      | _ => none

def fresh (rd : Nat → Option Blk) (nx np : Nat) : Bool := match rd nx with | none => Nat.ble np nx | some _ => false

def aAlloc (T : Tab) (np : Nat) (rd : Nat → Option Blk) (t : TypeId) (nx : Nat) : Option ARes :=
  match tkd T t, fresh rd nx np with
  | some k, true => some ⟨true, .ptr nx [] k, [(nx, .var k k.zero false)], [nx], nx + 1⟩
  | _, _ => none
def aBox (T : Tab) (np : Nat) (rd : Nat → Option Blk) (t : TypeId) (v : SV) (nx : Nat) : Option ARes :=
  match tkd T t, fresh rd nx np with
  | some k, true => match toVal np rd v k with
    | some (y, wr, acc) => some ⟨true, .ptr nx [] k, (nx, .var k y false) :: wr, nx :: acc, nx + 1⟩
    | none => none
  | _, _ => none

/-- Parts put into a value (a struct's fields, an array's elements). -/
def putParts (np : Nat) (rd : Nat → Option Blk) (st : Bool) (k : Kd) (x : k.T) : List (Nat × SV) → Option k.T
  | [] => some x
  | (i, v) :: l =>
    match k.off1 (if st then .fld i else .idx i) with
    | some (_, k') => match toVal np rd v k' with
      | some (y, [], []) => match set1 k x (if st then .fld i else .idx i) ⟨k', y⟩ with
        | some x' => putParts np rd st k x' l
        | none => none
      | _ => none
    | none => none
def aBuild (T : Tab) (np : Nat) (rd : Nat → Option Blk) (t : TypeId) (parts : List (Nat × SV)) (nx : Nat) : Option ARes :=
  match tlook T t with
  | some d => match d.kd, d.desc with
    | some k, .struct _ => match putParts np rd true k k.zero parts with | some x => ok1 (.val k x) nx | none => none
    | some k, .array n _ => match parts.all fun p => Nat.blt p.1 n, putParts np rd false k k.zero parts with | true, some x => ok1 (.val k x) nx | _, _ => none
    | _, _ => none
  | none => none

/-- Elements put into a list; entries that are shut by that. -/
def putElems (np : Nat) (rd : Nat → Option Blk) (e : Kd) (l : List e.T) : List (Nat × SV) → Option (List e.T × List (Nat × Blk) × List Nat)
  | [] => some (l, [], [])
  | (i, v) :: r =>
    match toVal np rd v e with
    | some (y, wr, acc) => match putElems np (fun j => match mget wr j with | some b => some b | none => rd j) e (l.set i y) r with
      | some (l', wr', acc') => some (l', wr' ++ wr, acc ++ acc')
      | none => none
    | none => none
def aBuildSlice (T : Tab) (np : Nat) (own : Bool) (rd : Nat → Option Blk) (t : TypeId) (len : Nat) (parts : List (Nat × SV)) (nx : Nat) : Option ARes :=
  match tkd T t, fresh rd nx np, parts.all (fun p => Nat.blt p.1 len) with
  | some (.sl e), true, true => match Nat.ble (len * (e.size + 1)) 16777216, putElems np rd e (List.replicate len e.zero) parts with
    | true, some (l, wr, acc) => match own with
      | true => some ⟨true, .own nx 0, (nx, .row e l 0 false) :: wr, nx :: acc, nx + 1⟩
      | false => some ⟨true, .val (.sl e) l, (nx, .row e l 0 true) :: wr, nx :: acc, nx + 1⟩
    | _, _ => none
  | _, _, _ => none

def LIMB : Nat := 140737488355328
def aMakeSlice (T : Tab) (np : Nat) (rd : Nat → Option Blk) (t : TypeId) (len cap : SV) (nx : Nat) : Option ARes :=
  match tkd T t, tdesc T t, len, cap, fresh rd nx np with
  | some (.sl e), some (.slice et), .val (.int .i64) l, .val (.int .i64) c, true => match tlook T et with
    | some d => some ⟨decide (0 ≤ l ∧ l ≤ c ∧ c ≤ ((LIMB / d.bytes : Nat) : Int)), .own nx 0, [(nx, .row e (List.replicate l.toNat e.zero) 0 false)], [nx], nx + 1⟩
    | none => none
  | _, _, _, _, _ => none

/-- Is this the row's present version? -/
def live (rd : Nat → Option Blk) (j ver : Nat) : Bool := match rd j with
  | some (.row _ _ ver' _) => Nat.beq ver ver'
  | _ => false

def aFieldAddr (T : Tab) (rd : Nat → Option Blk) (t : TypeId) (x : SV) (j : Nat) (nx : Nat) : Option ARes :=
  match tkd T t, tdesc T t with
  | some kt, some (.struct _) => match kt.offF j, x with
    | some (_, kf), .ptr b p k => match kt.same k with | true => ok1 (.ptr b (p ++ [.fld j]) kf) nx | false => none
    | some (_, kf), .rptr b ver i p k => match kt.same k, live rd b ver with | true, true => some ⟨true, .rptr b ver i (p ++ [.fld j]) kf, [], [b], nx⟩ | _, _ => none
    | some _, .pval k z => match kt.same k, getF k z j with | true, some ⟨k', y⟩ => ok1 (.pval k' y) nx | _, _ => none
    | _, _ => none
  | _, _ => none

def aField (T : Tab) (t : TypeId) (x : SV) (j : Nat) (nx : Nat) : Option ARes :=
  match tkd T t, tdesc T t, x with
  | some kt, some (.struct _), .val k z => match kt.same k, getF k z j with | true, some ⟨k', y⟩ => ok1 (.val k' y) nx | _, _ => none
  | _, _, _ => none

def bnd (i : Int) (n : Int) : Bool := decide (0 ≤ i) && decide (i < n)

def aIndexAddr (T : Tab) (rd : Nat → Option Blk) (t : TypeId) (x ix : SV) (nx : Nat) : Option ARes :=
  match ix with
  | .val (.int _) i =>
    match tkd T t, tdesc T t, x with
    | some kt, some (.array n _), .ptr b p k => match kt.same k, k with
      | true, .arr _ e => some ⟨bnd i n, .ptr b (p ++ [.idx i.toNat]) e, [], [], nx⟩
      | _, _ => none
    | some kt, some (.array n _), .rptr j ver r p k => match kt.same k, live rd j ver, k with
      | true, true, .arr _ e => some ⟨bnd i n, .rptr j ver r (p ++ [.idx i.toNat]) e, [], [j], nx⟩
      | _, _, _ => none
    | some kt, some (.array n _), .pval k z => match kt.same k, (⟨k, z⟩ : TV) with
      | true, ⟨.arr _ e, l⟩ => some ⟨bnd i n, .pval e (List.getD l i.toNat e.zero), [], [], nx⟩
      | _, _ => none
    | some kt, some (.slice _), .val k z => match kt.same k, (⟨k, z⟩ : TV) with
      | true, ⟨.sl e, l⟩ => some ⟨bnd i (List.length l), .pval e (List.getD l i.toNat e.zero), [], [], nx⟩
      | _, _ => none
    | some kt, some (.slice _), .own j ver => match rd j with
      | some (.row e l ver' _) => match Nat.beq ver ver', kt.same (.sl e) with
        | true, true => some ⟨bnd i l.length, .rptr j ver i.toNat [] e, [], [j], nx⟩
        | _, _ => none
      | _ => none
    | some kt, some (.slice _), .win j ver lo n => match rd j with
      | some (.row e _ ver' _) => match Nat.beq ver ver', kt.same (.sl e) with
        | true, true => some ⟨bnd i n, .rptr j ver (lo + i.toNat) [] e, [], [j], nx⟩
        | _, _ => none
      | _ => none
    | some kt, some (.slice _), .asl b p lo n => match rd b with
      | some (.var kb _ _) => match kb.offP p with
        | some (_, .arr _ e) => match kt.same (.sl e) with
          | true => some ⟨bnd i n, .ptr b (p ++ [.idx (lo + i.toNat)]) e, [], [b], nx⟩
          | false => none
        | _ => none
      | _ => none
    | _, _, _ => none
  | _ => none

def aIndex (T : Tab) (t : TypeId) (x ix : SV) (nx : Nat) : Option ARes :=
  match ix with
  | .val (.int _) i =>
    match tkd T t, tdesc T t, x with
    | some kt, some (.array n _), .val k z => match kt.same k, (⟨k, z⟩ : TV) with
      | true, ⟨.arr _ e, l⟩ => some ⟨bnd i n, .val e (List.getD l i.toNat e.zero), [], [], nx⟩
      | _, _ => none
    | some .str, some .string, .val .str s => some ⟨bnd i s.size, .val (.int .u8) ((s.data.toList.getD i.toNat 0).toNat : Int), [], [], nx⟩
    | _, _, _ => none
  | _ => none

/-- A bound of a slice expression: absent, or an int. -/
def bndOf (d : Int) : Option SV → Option Int
  | none => some d
  | some (.val (.int _) i) => some i
  | _ => none
def mxok (hi mx : Option SV) : Bool := match mx, hi with | some _, none => false | _, _ => true
def aSlice (T : Tab) (rd : Nat → Option Blk) (t : TypeId) (x : SV) (lo hi mx : Option SV) (nx : Nat) : Option ARes :=
  match tdesc T t, x with
  | some .string, .val .str s => match bndOf 0 lo, bndOf s.size hi, mx with
    | some l, some h, none => some ⟨decide (0 ≤ l ∧ l ≤ h ∧ h ≤ s.size), .val .str (s.extract l.toNat h.toNat), [], [], nx⟩
    | _, _, _ => none
  | some (.array n _), .ptr b p k => match tkd T t with
    | some kt => match kt.same k, bndOf 0 lo, bndOf n hi, mx with
      | true, some l, some h, none => some ⟨decide (0 ≤ l ∧ l ≤ h ∧ h ≤ n), .asl b p l.toNat (h - l).toNat, [], [], nx⟩
      | _, _, _, _ => none
    | none => none
  | some (.slice _), .val (.sl e) z => match bndOf 0 lo, bndOf (List.length z) hi, tkd T t with
    | some l, some h, some kt => match bndOf h mx, mxok hi mx, kt.same (.sl e) with
      | some m, true, true => some ⟨decide (0 ≤ l ∧ l ≤ h ∧ h ≤ m ∧ m ≤ List.length z), .val (.sl e) (List.take (h - l).toNat (List.drop l.toNat z)), [], [], nx⟩
      | _, _, _ => none
    | _, _, _ => none
  | some (.slice _), .own j ver => match rd j with
    | some (.row e z ver' _) => match Nat.beq ver ver', bndOf 0 lo, bndOf (List.length z) hi, tkd T t with
      | true, some l, some h, some kt => match bndOf h mx, mxok hi mx, kt.same (.sl e) with
        | some m, true, true => some ⟨decide (0 ≤ l ∧ l ≤ h ∧ h ≤ m ∧ m ≤ List.length z), .win j ver l.toNat (h - l).toNat, [], [j], nx⟩
        | _, _, _ => none
      | _, _, _, _ => none
    | _ => none
  | some (.slice _), .win j ver lo' n => match rd j with
    | some (.row e _ ver' _) => match Nat.beq ver ver', bndOf 0 lo, bndOf n hi, mx with
      | true, some l, some h, none => match tkd T t with
        | some kt => match kt.same (.sl e) with
          | true => some ⟨decide (0 ≤ l ∧ l ≤ h ∧ h ≤ n), .win j ver (lo' + l.toNat) (h - l).toNat, [], [j], nx⟩
          | false => none
        | none => none
      | _, _, _, _ => none
    | _ => none
  | some (.slice _), .asl b p lo' n => match bndOf 0 lo, bndOf n hi, mx with
    | some l, some h, none => match rd b, tkd T t with
      | some (.var kb _ _), some kt => match kb.offP p with
        | some (_, .arr _ e) => match kt.same (.sl e) with
          | true => some ⟨decide (0 ≤ l ∧ l ≤ h ∧ h ≤ n), .asl b p (lo' + l.toNat) (h - l).toNat, [], [b], nx⟩
          | false => none
        | _ => none
      | _, _ => none
    | _, _, _ => none
  | _, _ => none

def aArrPtr (T : Tab) (rd : Nat → Option Blk) (t : TypeId) (x : SV) (nx : Nat) : Option ARes :=
  match tkd T t, x with
  | some (.arr n e), .val (.sl e') l => match e.same e' && Nat.blt 0 n with
    | true => some ⟨decide ((n : Int) ≤ List.length l), .pval (.arr n e') (List.take n l), [], [], nx⟩
    | false => none
  | some (.arr n e), .asl b p lo m => match rd b with
    | some (.var kb _ _) => match kb.offP p with
      | some (_, .arr _ e') => match e.same e' && Nat.blt 0 n with
        | true => some ⟨decide ((n : Int) ≤ m), .pwin b p lo n, [], [b], nx⟩
        | false => none
      | _ => none
    | _ => none
  | _, _ => none

def aLen (T : Tab) (rd : Nat → Option Blk) (t : TypeId) (x : SV) (nx : Nat) : Option ARes :=
  match tdesc T t, x with
  | some .string, .val .str s => ok1 (.val (.int .i64) (s.size : Int)) nx
  | some (.array n _), _ => ok1 (.val (.int .i64) (n : Int)) nx
  | some (.slice _), .nil => ok1 (.val (.int .i64) (0 : Int)) nx
  | some (.slice _), .val (.sl _) l => ok1 (.val (.int .i64) (List.length l : Int)) nx
  | some (.slice _), .own j ver => match rd j with
    | some (.row _ l ver' _) => match Nat.beq ver ver' with | true => some ⟨true, .val (.int .i64) (l.length : Int), [], [j], nx⟩ | false => none
    | _ => none
  | some (.slice _), .win j ver _ n => match rd j with
    | some (.row _ _ ver' _) => match Nat.beq ver ver' with | true => some ⟨true, .val (.int .i64) (n : Int), [], [j], nx⟩ | false => none
    | _ => none
  | some (.slice _), .asl _ _ _ n => ok1 (.val (.int .i64) (n : Int)) nx
  | _, _ => none

/-- The list with xs laid over it from lo on. -/
def lay {α : Type} (l : List α) (lo : Nat) (xs : List α) : List α := l.take lo ++ xs ++ l.drop (lo + xs.length)

def aCopy (T : Tab) (rd : Nat → Option Blk) (t : TypeId) (d s : SV) (nx : Nat) : Option ARes :=
  match tkd T t, rdSl rd s with
  | some (.sl ke), some ⟨e, xs, acc⟩ =>
    match ke.same e with
    | false => none
    | true =>
      match d with
      | .own j ver => match rd j with
        | some (.row e' l ver' false) => match Nat.beq ver ver', TV.as ⟨.sl e, xs⟩ (.sl e') with
          | true, some ys => some ⟨true, .val (.int .i64) (min (List.length ys) l.length : Nat), [(j, .row e' (lay l 0 (List.take l.length ys)) ver' false)], j :: acc, nx⟩
          | _, _ => none
        | _ => none
      | .win j ver lo n => match rd j with
        | some (.row e' l ver' false) => match Nat.beq ver ver', TV.as ⟨.sl e, xs⟩ (.sl e') with
          | true, some ys => some ⟨true, .val (.int .i64) (min (List.length ys) n : Nat), [(j, .row e' (lay l lo (List.take n ys)) ver' false)], j :: acc, nx⟩
          | _, _ => none
        | _ => none
      | .asl b p lo n => match rd b with
        | some (.var kb x false) => match getP kb x p with
          | some ⟨.arr m e', l⟩ => match TV.as ⟨.sl e, xs⟩ (.sl e') with
            | some ys => match setP kb x p ⟨.arr m e', lay l lo (List.take n ys)⟩ with
              | some x' => some ⟨true, .val (.int .i64) (min (List.length ys) n : Nat), [(b, .var kb x' false)], b :: acc, nx⟩
              | none => none
            | none => none
          | _ => none
        | _ => none
      | _ => none
  | _, _ => none

def aAppend (T : Tab) (np : Nat) (rd : Nat → Option Blk) (t : TypeId) (s x : SV) (nx : Nat) : Option ARes :=
  match tkd T t, tdesc T t with
  | some (.sl ke), some (.slice et) => match tlook T et with
    | none => none
    | some d =>
      match (match x with | .nil => some ⟨ke, [], []⟩ | x => rdSl rd x : Option ((e : Kd) × List e.T × List Nat)) with
      | none => none
      | some ⟨e, xs, acc⟩ =>
        match TV.as ⟨.sl e, xs⟩ (.sl ke) with
        | none => none
        | some ys =>
          match s with
          | .own j ver => match rd j, Nat.blt j np with
            | some (.row e' l ver' false), false => match Nat.beq ver ver', TV.as ⟨.sl ke, ys⟩ (.sl e') with
              | true, some zs => some ⟨decide (l.length + List.length zs ≤ LIMB / d.bytes), .own j (ver' + 1), [(j, .row e' (l ++ zs) (ver' + 1) false)], j :: acc, nx⟩
              | _, _ => none
            | _, _ => none
          | .nil => match fresh rd nx np with
            | true => some ⟨decide (List.length ys ≤ LIMB / d.bytes), .own nx 0, [(nx, .row ke ys 0 false)], nx :: acc, nx + 1⟩
            | false => none
          | _ => none
  | _, _ => none

def aMinMax (mx : Bool) (x y : SV) (nx : Nat) : Option ARes :=
  match x, y with
  | .val (.int k) a, .val (.int _) b => ok1 (.val (.int k) (if mx then (if b > a then b else a) else (if b < a then b else a))) nx
  | _, _ => none

def aExtract (x : SV) (i : Nat) (nx : Nat) : Option ARes :=
  match x with
  | .tup l => match l[i]? with
    | some (.val k x) => ok1 (.val k x) nx
    | some (.own j v) => ok1 (.own j v) nx
    | _ => none
  | _ => none

def aPick (c a b : SV) (nx : Nat) : Option ARes :=
  match c with
  | .val .bool c => match c with | true => ok1 a nx | false => ok1 b nx
  | _ => none

/-- own: is this operation's slice one of the call's own (a nil that begins a row; a literal that is written)? -/
def absOp (T : Tab) (eqt : List Nat) (np : Nat) (own : Bool) (rd : Nat → Option Blk) (ρ : Operand → SV) (o : Oper) (nx : Nat) : Option ARes :=
  match o.op with
  | .move x | .assign x => match own, ρ x with
    | true, .nil => match tkd T o.type, fresh rd nx np with
      | some (.sl e), true => some ⟨true, .own nx 0, [(nx, .row e [] 0 false)], [nx], nx + 1⟩
      | _, _ => none
    | _, sv => ok1 sv nx
  | .pick c a b => aPick (ρ c) (ρ a) (ρ b) nx
  | .alloc t => aAlloc T np rd t nx
  | .box t x => aBox T np rd t (ρ x) nx
  | .build t parts => aBuild T np rd t (parts.toList.map fun p => (p.1, ρ p.2)) nx
  | .buildSlice t len parts => aBuildSlice T np own rd t len (parts.toList.map fun p => (p.1, ρ p.2)) nx
  | .load t x => aLoad T rd t (ρ x) nx
  | .store t x v => aStore T np rd t (ρ x) (ρ v) nx
  | .nilCheck x => match ρ x with
    | .ptr b p k => ok1 (.ptr b p k) nx
    | .pval k z => ok1 (.pval k z) nx
    | .rptr j v i p k => match live rd j v with | true => some ⟨true, .rptr j v i p k, [], [j], nx⟩ | false => none
    | _ => none
  | .binOp op xt x y _ => aBin T eqt op xt (ρ x) (ρ y) nx
  | .unOp op _ x => aUn op (ρ x) nx
  | .convert src dst x => aConv T rd src dst (ρ x) nx
  | .sliceToArrayPointer t x => aArrPtr T rd t (ρ x) nx
  | .slice t x lo hi mx => aSlice T rd t (ρ x) (lo.map ρ) (hi.map ρ) (mx.map ρ) nx
  | .fieldAddr t x j => aFieldAddr T rd t (ρ x) j nx
  | .field t x j => aField T t (ρ x) j nx
  | .indexAddr t x i => aIndexAddr T rd t (ρ x) (ρ i) nx
  | .index t x i => aIndex T t (ρ x) (ρ i) nx
  | .makeSlice t l c => aMakeSlice T np rd t (ρ l) (ρ c) nx
  | .extract x i => aExtract (ρ x) i nx
  | .call c => match c.callee with
    | .builtin .len => match c.args.toList, c.argTypes.toList with
      | [x], [t] => aLen T rd t (ρ x) nx
      | _, _ => none
    | .builtin .copy => match c.args.toList, c.argTypes.toList with
      | [d, s], [t, _] => aCopy T rd t (ρ d) (ρ s) nx
      | _, _ => none
    | .builtin .append => match c.args.toList, c.argTypes.toList with
      | [s, x], [t, t'] => match Nat.beq t t' with
        | true => aAppend T np rd t (ρ s) (ρ x) nx
        | false => none
      | _, _ => none
    | .builtin .max => match c.args.toList with
      | [x, y] => aMinMax true (ρ x) (ρ y) nx
      | _ => none
    | .builtin .min => match c.args.toList with
      | [x, y] => aMinMax false (ρ x) (ρ y) nx
      | _ => none
    | _ => none
  | _ => none
end Go.PG
