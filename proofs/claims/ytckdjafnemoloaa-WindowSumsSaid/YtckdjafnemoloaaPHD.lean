/- A part of the proofs over this seat (own work; the framework that reads a Go function as a pure one, or a use of it). No condition of its own. -/
import Derived.Test.YtckdjafnemoloaaPHC
set_option linter.unusedVariables false
set_option linter.unusedSimpArgs false
namespace Go.PG
/-! Contracts of pure functions; loops. -/

/-- A function's parameters: (by pointer?, kind). -/
abbrev Ins := List (Bool × Kd)
def AT : Ins → Type
  | [] => Unit
  | (_, k) :: l => k.T × AT l
def avs : (l : Ins) → AT l → List AV
  | [], _ => []
  | (b, k) :: l, x => (match b with | true => .ptr k x.1 | false => .val k x.1) :: avs l x.2
def asA : (l : Ins) → List AV → Option (AT l)
  | [], [] => some ()
  | (b, k) :: l, a :: as => match b, a with
    | true, .ptr k' x => match TV.as ⟨k', x⟩ k, asA l as with
      | some y, some z => some (y, z)
      | _, _ => none
    | false, .val k' x => match TV.as ⟨k', x⟩ k, asA l as with
      | some y, some z => some (y, z)
      | _, _ => none
    | _, _ => none
  | _, _ => none
/-- Results: (a row of the callee's own?, kind of the row's elements or of the value). -/
def RT1 : Bool → Kd → Type
  | true, e => List e.T
  | false, k => k.T
def RT : Ins → Type
  | [] => Unit
  | (b, k) :: l => RT1 b k × RT l
def rv1 : (b : Bool) → (k : Kd) → RT1 b k → RV
  | true, e, x => .own e x
  | false, k, x => .val k x
def rvs : (l : Ins) → RT l → List RV
  | [], _ => []
  | (b, k) :: l, x => rv1 b k x.1 :: rvs l x.2
def as1 : (b : Bool) → (k : Kd) → RV → Option (RT1 b k)
  | true, e, .own e' l => TV.as ⟨.sl e', l⟩ (.sl e)
  | false, k, .val k' x => TV.as ⟨k', x⟩ k
  | _, _, _ => none
def asR : (l : Ins) → List RV → Option (RT l)
  | [], [] => some ()
  | (b, k) :: l, a :: as => match as1 b k a, asR l as with
    | some y, some z => some (y, z)
    | _, _ => none
  | _, _ => none
/-- What lies behind the pointers afterwards. -/
def PT1 : Bool → Kd → Type → Type
  | true, k, α => k.T × α
  | false, _, α => α
def PT : Ins → Type
  | [] => Unit
  | (b, k) :: l => PT1 b k (PT l)
def tvs : (l : Ins) → PT l → List TV
  | [], _ => []
  | (true, k) :: l, x => ⟨k, x.1⟩ :: tvs l x.2
  | (false, _) :: l, x => tvs l x
def asP1 {α : Type} (b : Bool) (k : Kd) (as : List TV) (rest : List TV → Option α) : Option (PT1 b k α) :=
  match b, as with
  | false, as => rest as
  | true, [] => none
  | true, a :: as => match TV.as a k, rest as with
    | some y, some z => some (y, z)
    | _, _ => none
def asP : (l : Ins) → List TV → Option (PT l)
  | [] => fun as => match as with | [] => some () | _ :: _ => none
  | (b, k) :: l => fun as => asP1 b k as (asP l)

theorem asA_spec : ∀ {l : Ins} {as : List AV} {x : AT l}, asA l as = some x → as = avs l x
  | [], [], x, _ => rfl
  | [], _ :: _, x, h => by simp [asA] at h
  | (b, k) :: l, [], x, h => by simp [asA] at h
  | (true, k) :: l, .ptr k' y :: as, x, h => by
    simp only [asA] at h
    split at h <;> try (cases h; done)
    rename_i u v hu hv
    cases h
    have := TV.as_some hu
    cases this
    simp only [avs]; rw [← asA_spec hv]
  | (false, k) :: l, .val k' y :: as, x, h => by
    simp only [asA] at h
    split at h <;> try (cases h; done)
    rename_i u v hu hv
    cases h
    have := TV.as_some hu
    cases this
    simp only [avs]; rw [← asA_spec hv]
  | (true, k) :: l, .val k' y :: as, x, h => by simp [asA] at h
  | (false, k) :: l, .ptr k' y :: as, x, h => by simp [asA] at h
theorem as1_spec {b : Bool} {k : Kd} {a : RV} {x : RT1 b k} (h : as1 b k a = some x) : a = rv1 b k x := by
  cases b with
  | true =>
    cases a with
    | val k' y => cases h
    | own e' l =>
      have h1 : (⟨.sl e', l⟩ : TV) = ⟨.sl k, x⟩ := TV.as_some (k := .sl k) (x := x) h
      have h2 : e' = k := by have := congrArg Sigma.fst h1; exact Kd.sl.inj this
      subst h2
      have h3 := eq_of_heq (Sigma.mk.inj h1).2
      exact congrArg (RV.own e') h3
  | false =>
    cases a with
    | own e' l => cases h
    | val k' y =>
      have h1 : (⟨k', y⟩ : TV) = ⟨k, x⟩ := TV.as_some (k := k) (x := x) h
      have h2 : k' = k := congrArg Sigma.fst h1
      subst h2
      have h3 := eq_of_heq (Sigma.mk.inj h1).2
      exact congrArg (RV.val k') h3
theorem asR_spec : ∀ {l : Ins} {as : List RV} {x : RT l}, asR l as = some x → as = rvs l x
  | [], [], x, _ => rfl
  | [], _ :: _, x, h => by simp [asR] at h
  | (b, k) :: l, [], x, h => by simp [asR] at h
  | (b, k) :: l, a :: as, x, h => by
    simp only [asR] at h
    split at h <;> try (cases h; done)
    rename_i u v hu hv
    cases h
    simp only [rvs]; rw [← asR_spec hv, ← as1_spec hu]
theorem asP1_true {α : Type} {k : Kd} {a : TV} {as : List TV} {rest : List TV → Option α} {x : k.T × α} (h : asP1 true k (a :: as) rest = some x) : TV.as a k = some x.1 ∧ rest as = some x.2 := by
  have h' : (match TV.as a k, rest as with | some y, some z => some ((y, z) : k.T × α) | _, _ => none) = some x := h
  split at h' <;> try (cases h'; done)
  rename_i u v hu hv
  cases h'
  exact ⟨hu, hv⟩
theorem asP_spec : ∀ {l : Ins} {as : List TV} {x : PT l}, asP l as = some x → as = tvs l x := by
  intro l
  induction l with
  | nil => intro as x h; cases as with
    | nil => rfl
    | cons a as => cases h
  | cons bk l ih =>
    obtain ⟨b, k⟩ := bk
    intro as x h
    change asP1 b k as (asP l) = some x at h
    cases b with
    | false => exact ih h
    | true =>
      cases as with
      | nil => cases h
      | cons a as =>
        obtain ⟨h1, h2⟩ := asP1_true (x := x) h
        rw [ih h2, TV.as_some h1]
        rfl

/-- A function of the program with its pure reading. -/
structure Ent where
  f : FuncId
  ins : Ins
  outs : Ins
  F : (R : Type) → AT ins → (RT outs → PT ins → Option R) → Option R

def Ent.OK (P : Program) (e : Ent) : Prop := ∀ (R : Type) (x : AT e.ins) (k : RT e.outs → PT e.ins → Option R) (r : R), e.F R x k = some r → ∃ y p, Holds P e.f (avs e.ins x) (rvs e.outs y) (tvs e.ins p) ∧ k y p = some r

def callOf : List Ent → (R : Type) → Orc R
  | [], _ => fun _ _ _ => none
  | e :: l, R => fun f as K => match Nat.beq f e.f with
    | true => match asA e.ins as with
      | some x => e.F R x fun y p => K (rvs e.outs y) (tvs e.ins p)
      | none => none
    | false => callOf l R f as K

theorem callOf_ok {P : Program} {R : Type} : ∀ {l : List Ent}, (∀ e ∈ l, e.OK P) → OrcOK P (callOf l R)
  | [], _ => fun f as K r h => by simp [callOf] at h
  | e :: l, hl => fun f as K r h => by
    simp only [callOf] at h
    split at h
    · rename_i hf
      have := Nat.eq_of_beq_eq_true hf
      subst this
      split at h <;> try (cases h; done)
      rename_i x hx
      obtain ⟨y, p, h1, h2⟩ := hl e (by simp) R x _ r h
      rw [asA_spec hx]
      exact ⟨_, _, h1, h2⟩
    · exact callOf_ok (fun e he => hl e (by simp [he])) f as K r h

/-! Loops: what is read at a round's beginning. -/
inductive HI where
  | val (t : Nat) (k : Kd)
  | fix (t : Nat) (s : SV)
  | var (i : Nat) (k : Kd) (sh : Bool)
  | row (i : Nat) (e : Kd) (sh : Bool)

def HT : List HI → Type
  | [] => Unit
  | .val _ k :: l => k.T × HT l
  | .fix _ _ :: l => HT l
  | .var _ k _ :: l => k.T × HT l
  | .row _ e _ :: l => List e.T × HT l

def preT : (H : List HI) → HT H → List (Nat × SV)
  | [], _ => []
  | .val t k :: l, x => (t, .val k x.1) :: preT l x.2
  | .fix t s :: l, x => (t, s) :: preT l x
  | .var _ _ _ :: l, x => preT l x.2
  | .row _ _ _ :: l, x => preT l x.2
def preM : (H : List HI) → HT H → List (Nat × Blk)
  | [], _ => []
  | .val _ _ :: l, x => preM l x.2
  | .fix _ _ :: l, x => preM l x
  | .var i k sh :: l, x => (i, .var k x.1 sh) :: preM l x.2
  | .row i e sh :: l, x => (i, .row e x.1 0 sh) :: preM l x.2
def hasI : List HI → Nat → Bool
  | [], _ => false
  | .var i _ _ :: l, j => match Nat.beq i j with | true => true | false => hasI l j
  | .row i _ _ :: l, j => match Nat.beq i j with | true => true | false => hasI l j
  | _ :: l, j => hasI l j
def stepsEq : List Step → List Step → Bool
  | [], [] => true
  | .fld i :: l, .fld j :: m => Nat.beq i j && stepsEq l m
  | .idx i :: l, .idx j :: m => Nat.beq i j && stepsEq l m
  | _, _ => false
def curV (rd : Nat → Option Blk) (j v : Nat) : Bool :=
  match rd j with
  | some (.row _ _ v' _) => Nat.beq v v'
  | _ => false
def fixOK (H : List HI) (rd : Nat → Option Blk) : SV → SV → Bool
  | .nil, .nil => true
  | .ptr b p k, .ptr b' p' k' => Nat.beq b b' && stepsEq p p' && k.same k' && hasI H b
  | .own j v, .own j' v' => Nat.beq j j' && Nat.beq v' 0 && curV rd j v && hasI H j
  | .win j v lo n, .win j' v' lo' n' => Nat.beq j j' && Nat.beq v' 0 && curV rd j v && hasI H j && Nat.beq lo lo' && Nat.beq n n'
  | .asl b p lo n, .asl b' p' lo' n' => Nat.beq b b' && stepsEq p p' && hasI H b && Nat.beq lo lo' && Nat.beq n n'
  | .pwin b p lo n, .pwin b' p' lo' n' => Nat.beq b b' && stepsEq p p' && hasI H b && Nat.beq lo lo' && Nat.beq n n'
  | .fn f, .fn f' => Nat.beq f f'
  | _, _ => false

/-- Reads a state. -/
def find1 (H0 : List HI) (σ : St) : (H : List HI) → Option (HT H)
  | [] => some ()
  | .val t k :: l => match tget σ.tm t with
    | .val k' x => match TV.as ⟨k', x⟩ k with
      | some y => match find1 H0 σ l with
        | some z => some (y, z)
        | none => none
      | none => none
    | _ => none
  | .fix t s :: l => match fixOK H0 (mget σ.me) (tget σ.tm t) s with
    | true => find1 H0 σ l
    | false => none
  | .var i k sh :: l => match mget σ.me i with
    | some (.var k' x sh') => match Bool.and (Bool.or sh (Bool.not sh')) (Bool.or (Bool.not sh) sh') with
      | true => match TV.as ⟨k', x⟩ k with
        | some y => match find1 H0 σ l with
          | some z => some (y, z)
          | none => none
        | none => none
      | false => none
    | _ => none
  | .row i e sh :: l => match mget σ.me i with
    | some (.row e' x _ sh') => match Bool.and (Bool.or sh (Bool.not sh')) (Bool.or (Bool.not sh) sh') with
      | true => match TV.as ⟨.sl e', x⟩ (.sl e) with
        | some y => match find1 H0 σ l with
          | some z => some (y, z)
          | none => none
        | none => none
      | false => none
    | _ => none
def find (H : List HI) (σ : St) : Option (HT H) := find1 H σ H

/-- Where a loop is left: how, and what is read then. -/
abbrev Exs := List (XX × List HI)
def XX.same : XX → XX → Bool
  | .normal, .normal => true
  | .ret, .ret => true
  | .exit i, .exit j => Nat.beq i j
  | _, _ => false
def KT (R : Type) : Exs → Type
  | [] => Unit
  | (_, h) :: l => (HT h → Option R) × KT R l
def adapt {R : Type} (nx : Nat) (K : XX → St → Option R) : (l : Exs) → KT R l
  | [] => ()
  | (e, h) :: l => (fun y => K e ⟨preT h y, preM h y, nx⟩, adapt nx K l)
def disp {R : Type} (e : XX) (σ : St) : (l : Exs) → KT R l → Option R
  | [], _ => none
  | (e', h) :: l, k => match XX.same e e' with
    | true => match find h σ with
      | some y => k.1 y
      | none => none
    | false => disp e σ l k.2

structure LEnt where
  id : Nat
  H : List HI
  nx : Nat
  exs : Exs
  L : (R : Type) → HT H → KT R exs → Option R

def loopOf : List LEnt → (R : Type) → Nat → St → (XX → St → Option R) → Option R
  | [], _ => fun _ _ _ => none
  | e :: l, R => fun id σ K => match Nat.beq id e.id with
    | true => match find e.H σ with
      | some x => e.L R x (adapt e.nx K e.exs)
      | none => none
    | false => loopOf l R id σ K

/-- One round. -/
def roundK {R : Type} (H : List HI) (exs : Exs) (kc : HT H → Option R) (ke : KT R exs) : XX → St → Option R := fun e σ =>
  match e with
  | .normal => match find H σ with
    | some x => kc x
    | none => none
  | e => disp e σ exs ke

def iter {H : List HI} {exs : Exs} (T : (R : Type) → HT H → (HT H → Option R) → KT R exs → Option R) : Nat → (R : Type) → HT H → KT R exs → Option R
  | 0, _, _, _ => none
  | n + 1, R, x, ke => T R x (fun x' => iter T n R x' ke) ke
end Go.PG
