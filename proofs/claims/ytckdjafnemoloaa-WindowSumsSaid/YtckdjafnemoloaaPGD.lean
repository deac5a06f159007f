/- A part of the proofs over this seat (own work; the framework that reads a Go function as a pure one, or a use of it). No condition of its own. -/
import Derived.Test.YtckdjafnemoloaaPGC
set_option linter.unusedVariables false
set_option linter.unusedSimpArgs false
namespace Go.PG
/-! The interpreter: regions, code, calls (by an oracle), loops (by an oracle). -/

inductive AV where
  | val (k : Kd) (x : k.T)
  | ptr (k : Kd) (x : k.T)
inductive RV where
  | val (k : Kd) (x : k.T)
  | own (e : Kd) (l : List e.T)

abbrev Orc (R : Type) := FuncId → List AV → (List RV → List TV → Option R) → Option R

inductive XX where
  | normal
  | exit (id : Nat)
  | ret

structure Env (R : Type) where
  T : Tab
  eqt : List Nat
  np : Nat
  nt : Nat
  own : Nat → Nat → Bool
  call : Orc R
  loop : Nat → St → (XX → St → Option R) → Option R

def stput (nt : Nat) (σ : St) (dst : Option Tmp) (sv : SV) (wr : List (Nat × Blk)) (nx : Nat) : Option St :=
  match dst with
  | none => some ⟨σ.tm, wr ++ σ.me, nx⟩
  | some d => match Nat.blt d nt with
    | true => some ⟨(d, sv) :: σ.tm, wr ++ σ.me, nx⟩
    | false => none

def laid (wr : List (Nat × Blk)) (rd : Nat → Option Blk) : Nat → Option Blk := fun j => match mget wr j with | some b => some b | none => rd j

/-- A call's arguments; what is shut by that; which entries; the pointers among them. -/
def mkArgs (T : Tab) (np : Nat) (rd : Nat → Option Blk) : List (SV × TypeId) → Option (List AV × List (Nat × Blk) × List Nat × List (Nat × List Step))
  | [] => some ([], [], [], [])
  | (sv, t) :: l =>
    match tkd T t with
    | some k => match toVal np rd sv k with
      | some (y, wr, acc) => match mkArgs T np (laid wr rd) l with
        | some (as, wr', acc', ps) => some (.val k y :: as, wr' ++ wr, acc ++ acc', ps)
        | none => none
      | none => none
    | none => match sv with
      | .ptr b p k => match rd b with
        | some (.var kb x _) => match getP kb x p with
          | some ⟨k', z⟩ => match k'.same k, mkArgs T np rd l with
            | true, some (as, wr', acc', ps) => some (.ptr k' z :: as, wr', b :: acc', (b, p) :: ps)
            | _, _ => none
          | none => none
        | _ => none
      | _ => none

/-- A call's results as components; the rows among them are the call's own from now on. -/
def mkRes (rd : Nat → Option Blk) (np : Nat) : List RV → Nat → Option (List Cmp × List (Nat × Blk) × Nat)
  | [], nx => some ([], [], nx)
  | .val k x :: l, nx => match mkRes rd np l nx with
    | some (cs, wr, nx') => some (.val k x :: cs, wr, nx')
    | none => none
  | .own e xs :: l, nx => match fresh rd nx np, mkRes (laid [(nx, .row e xs 0 false)] rd) np l (nx + 1) with
    | true, some (cs, wr, nx') => some (.own nx 0 :: cs, wr ++ [(nx, .row e xs 0 false)], nx')
    | _, _ => none
def resSV : List Cmp → SV
  | [.val k x] => .val k x
  | [.own j v] => .own j v
  | [.junk] => .dead
  | l => .tup l

def hasN : List Nat → Nat → Bool
  | [], _ => false
  | x :: l, y => match Nat.beq x y with | true => true | false => hasN l y

section
variable {R : Type} (E : Env R)

def xfin (σ : St) (o : Oper) (wr : List (Nat × Blk)) (acc : List Nat) (accs : List (List Nat × List Nat)) (K : St → List (List Nat × List Nat) → Option R) (rs : List RV) (wo : List (Nat × Blk)) : Option R :=
  match mkRes (laid (wo ++ wr) (mget σ.me)) E.np rs σ.nx with
  | none => none
  | some (cs, wn, nx') => match stput E.nt σ o.dst (resSV cs) (wn ++ (wo ++ wr)) nx' with
    | some σ' => K σ' (((wn ++ (wo ++ wr)).map (·.1), (wn ++ (wo ++ wr)).map (·.1) ++ acc) :: accs)
    | none => none

def xcall (σ : St) (o : Oper) (f : FuncId) (c : Call) (accs : List (List Nat × List Nat)) (K : St → List (List Nat × List Nat) → Option R) : Option R :=
  match mkArgs E.T E.np (mget σ.me) ((c.args.toList.map (opv σ.tm)).zip c.argTypes.toList), Nat.beq c.args.size c.argTypes.size with
  | some (as, wr, acc, ps), true => match ps with
    | [] => E.call f as fun rs outs => match outs with
      | [] => xfin E σ o wr acc accs K rs []
      | _ => none
    | [(b, p)] => match laid wr (mget σ.me) b with
      | some (.var kb x false) => E.call f as fun rs outs => match outs with
        | [v] => match setP kb x p v with
          | some x' => xfin E σ o wr acc accs K rs [(b, .var kb x' false)]
          | none => none
        | _ => none
      | _ => none
    | _ => none
  | _, _ => none

def calleeF (o : Oper) : Option (FuncId × Call) :=
  match o.op with
  | .call c => match c.callee with
    | .value (.func f) => some (f, c)
    | _ => none
  | _ => none

def xop (rid : Nat) (σ : St) (o : Oper) (i : Nat) (accs : List (List Nat × List Nat)) (K : St → List (List Nat × List Nat) → Option R) : Option R :=
  match calleeF o with
  | some (f, c) => xcall E σ o f c accs K
  | none =>
    match absOp E.T E.eqt E.np (E.own rid i) (mget σ.me) (opv σ.tm) o σ.nx with
    | none => none
    | some r => match r.ok with
      | true => match stput E.nt σ o.dst r.sv r.wr r.nx with
        | some σ' => K σ' ((r.wr.map (·.1), r.wr.map (·.1) ++ r.acc) :: accs)
        | none => none
      | false => none

def xskip (σ : St) (o : Oper) (accs : List (List Nat × List Nat)) (K : St → List (List Nat × List Nat) → Option R) : Option R :=
  match stput E.nt σ o.dst (.tup []) [] σ.nx with
  | some σ' => K σ' (([], []) :: accs)
  | none => none

def xops (rid : Nat) (all : Array Oper) : List Oper → Nat → St → List (List Nat × List Nat) → (St → List (List Nat × List Nat) → Option R) → Option R
  | [], _, σ, accs, K => K σ accs
  | o :: rest, i, σ, accs, K =>
    match o.guard with
    | none => xop E rid σ o i accs fun σ' accs' => xops rid all rest (i + 1) σ' accs' K
    | some (j, want) =>
      match (all[j]?).bind (·.dst) with
      | none => none
      | some d => match tget σ.tm d with
        | .val .bool c => match c with
          | true => match want with
            | true => xop E rid ⟨(d, .val .bool true) :: σ.tm, σ.me, σ.nx⟩ o i accs fun σ' accs' => xops rid all rest (i + 1) σ' accs' K
            | false => xskip E ⟨(d, .val .bool true) :: σ.tm, σ.me, σ.nx⟩ o accs fun σ' accs' => xops rid all rest (i + 1) σ' accs' K
          | false => match want with
            | false => xop E rid ⟨(d, .val .bool false) :: σ.tm, σ.me, σ.nx⟩ o i accs fun σ' accs' => xops rid all rest (i + 1) σ' accs' K
            | true => xskip E ⟨(d, .val .bool false) :: σ.tm, σ.me, σ.nx⟩ o accs fun σ' accs' => xops rid all rest (i + 1) σ' accs' K
        | .tup [] => xskip E σ o accs fun σ' accs' => xops rid all rest (i + 1) σ' accs' K
        | _ => none

/-- Which operations come ahead of which, as bits. -/
def before1 (acc : List Nat) (es : List Edge) : Nat :=
  es.foldl (fun s e => match Region.binds .any e with | true => s ||| (2 ^ e.on ||| acc.getD e.on 0) | false => s) 0
def befores : List Oper → List Nat → List Nat
  | [], acc => acc
  | o :: l, acc => befores l (acc ++ [before1 acc o.after.toList])
def looks (all : Array Oper) (o : Oper) : List Tmp :=
  (o.op.operands.toList.filterMap fun | .tmp t => some t | _ => none) ++ (match o.guard with | some (j, _) => ((all[j]?).bind (·.dst)).toList | none => [])
def meets (a b : List Nat) : Bool := a.any fun x => b.elem x
/-- May two operations be carried out in either order? -/
def indep (all : Array Oper) (x : Oper) (ax : List Nat × List Nat) (y : Oper) (ay : List Nat × List Nat) : Bool :=
  (match x.dst with | some d => !((looks all y).elem d) && !(y.dst == some d) | none => true) &&
  (match y.dst with | some d => !((looks all x).elem d) | none => true) &&
  !(meets ax.1 ay.2) && !(meets ay.1 ax.2)
def ordFrom (all : Array Oper) (x : Oper) (ax : List Nat × List Nat) (i : Nat) : List Oper → List (List Nat × List Nat) → List Nat → Bool
  | y :: ys, ay :: ays, b :: bs => (Nat.testBit b i || indep all x ax y ay) && ordFrom all x ax i ys ays bs
  | [], _, _ => true
  | _, _, _ => false
def ordAll (all : Array Oper) : Nat → List Oper → List (List Nat × List Nat) → List Nat → Bool
  | i, x :: xs, ax :: axs, _ :: bs => ordFrom all x ax i xs axs bs && ordAll all (i + 1) xs axs bs
  | _, [], _, _ => true
  | _, _, _, _ => false
def backs : Nat → List Oper → Bool
  | _, [] => true
  | i, o :: l => (o.after.toList.all fun e => !(Region.binds .any e) || Nat.blt e.on i) && backs (i + 1) l

def ordOK (ops : Array Oper) (accs : List (List Nat × List Nat)) : Bool :=
  backs 0 ops.toList && ordAll ops 0 ops.toList accs (befores ops.toList [])

def xreg (rid : Nat) (ops : Array Oper) (draw : Bool) (σ : St) (K : St → Option R) : Option R :=
  xops E rid ops ops.toList 0 σ [] fun σ' accs => match draw with
    | false => K σ'
    | true => match ordOK ops accs.reverse with
      | true => K σ'
      | false => none

def firstReg : Code → Nat
  | .region id _ _ => id
  | .seq a _ => firstReg a
  | .block _ c => firstReg c
  | .loop c => firstReg c
  | .cond _ a _ => firstReg a
  | _ => 0

def exec : Code → St → (XX → St → Option R) → Option R
  | .skip, σ, K => K .normal σ
  | .region id ops d, σ, K => xreg E id ops d σ (K .normal)
  | .seq a b, σ, K => exec a σ fun e σ' => match e with
    | .normal => exec b σ' K
    | e => K e σ'
  | .cond c t e, σ, K => match opv σ.tm c with
    | .val .bool b => match b with
      | true => exec t σ K
      | false => exec e σ K
    | _ => none
  | .block id c, σ, K => exec c σ fun e σ' => match e with
    | .exit i => match Nat.beq i id with | true => K .normal σ' | false => K (.exit i) σ'
    | e => K e σ'
  | .loop c, σ, K => E.loop (firstReg c) σ K
  | .exit id, σ, K => K (.exit id) σ
  | .ret, σ, K => K .ret σ
  | _, _, _ => none

/-- A call's results. -/
def xres (rd : Nat → Option Blk) (tm : List (Nat × SV)) : List Nat → List (ResultVar × TypeId × Bool) → Option (List RV × List (Nat × Blk))
  | _, [] => some ([], [])
  | used, (.tmp t, ty, own) :: l => match own with
    | true => match tget tm t with
      | .own j ver => match hasN used j, rd j with
        | false, some (.row e xs ver' false) => match Nat.beq ver ver', xres rd tm (j :: used) l with
          | true, some (rs, wr) => some (.own e xs :: rs, wr)
          | _, _ => none
        | _, _ => none
      | _ => none
    | false => match tkd E.T ty with
      | some k => match toVal E.np rd (tget tm t) k with
        | some (y, wr, acc) => match acc.any (hasN used), xres (laid wr rd) tm used l with
          | false, some (rs, wr') => some (.val k y :: rs, wr' ++ wr)
          | _, _ => none
        | none => none
      | none => none
  | used, (.cell t ty, _, own) :: l => match own, aLoad E.T rd ty (tget tm t) 0 with
    | false, some r => match r.ok, r.sv, xres rd tm used l with
      | true, .val k y, some (rs, wr) => some (.val k y :: rs, wr)
      | _, _, _ => none
    | _, _ => none

def xouts (rd : Nat → Option Blk) : Nat → Nat → Option (List TV)
  | _, 0 => some []
  | i, n + 1 => match rd i with
    | some (.var k x false) => match xouts rd (i + 1) n with
      | some l => some (⟨k, x⟩ :: l)
      | none => none
    | _ => none

/-- The first state: parameters. -/
def start : List AV → Nat → Nat → List (Nat × SV) → List (Nat × Blk) → List (Nat × SV) × List (Nat × Blk)
  | [], _, _, tm, me => (tm, me)
  | .val k x :: l, t, b, tm, me => start l (t + 1) b ((t, .val k x) :: tm) me
  | .ptr k x :: l, t, b, tm, me => start l (t + 1) (b + 1) ((t, .ptr b [] k) :: tm) ((b, .var k x false) :: me)

def xfun (body : Code) (res : List (ResultVar × TypeId × Bool)) (as : List AV) (K : List RV → List TV → Option R) : Option R :=
  match start as 0 0 [] [] with
  | (tm, me) => exec E body ⟨tm, me, E.np⟩ fun e σ => match e with
    | .exit _ => none
    | _ => match xres E (mget σ.me) σ.tm [] res with
      | none => none
      | some (rs, wr) => match xouts (laid wr (mget σ.me)) 0 E.np with
        | some outs => K rs outs
        | none => none
end
end Go.PG
