/- A part of the proofs over this seat (own work; the framework that reads a Go function as a pure one, or a use of it). No condition of its own. -/
import Derived.Test.YtkpfnehfdiopgaaC4
import Derived.Test.YtkpfnehfdiopgaaProg
import Derived.KernelRfl
set_option linter.unusedVariables false
set_option linter.unusedSimpArgs false
set_option maxRecDepth 100000
namespace Go.PG
open Go.Proofs
/-! drawlot/sha.Sum -/
abbrev FT120 : Type 1 := (R : Type) → (List (List Int)) → ((List Int) → Option R) → Option R
def en120 (F : FT120) : Ent := ⟨120, [(false, (.sl (.sl (.int .u8))))], [(false, (.arr 32 (.int .u8)))], fun R x k => F R x.1 (fun y1 => k (y1, ()) ())⟩
def res120 : List (ResultVar × TypeId × Bool) := [(.cell 2 26, 26, false)]
def e120 (F141 : FT141) (F142 : FT142) (F143 : FT143) (R : Type) : Env R := ⟨TT, EQT, 0, 19, ownOf [], callOf [en141 F141, en142 F142, en143 F143] R, loopOf [] R, []⟩
def p120 (F141 : FT141) (F142 : FT142) (F143 : FT143) : FT120 := fun R a0 k =>
F142 R  fun y1 =>
F141 R y1 a0 fun y2 y3 =>
F143 R y2 fun y4 y5 =>
k y4
theorem q120 (F141 : FT141) (F142 : FT142) (F143 : FT143) (F : FT120) (R : Type) (x : AT (en120 F).ins) (k : RT (en120 F).outs → PT (en120 F).ins → Option R) :
  xfun (e120 F141 F142 F143 R) (codeOf Try.f120) res120 (avs (en120 F).ins x) (finK (en120 F).outs (en120 F).ins k) = p120 F141 F142 F143 R x.1 (fun y1 => k (y1, ()) ()) := by kernel_rfl
noncomputable def F120 : FT120 := p120 F141 F142 F143
theorem env120 (R : Type) : EnvOK Try.prog (e120 F141 F142 F143 R) := ⟨tabOK, eqOK, callOf_ok (allE_cons ok141 (allE_cons ok142 (allE_cons ok143 allE_nil))), noIns⟩
theorem ok120 : (en120 F120).OK Try.prog :=
  ent_ok (Ef := fun R => e120 F141 F142 F143 R) (fun R => env120 R) mixed Try.func120 (body := codeOf Try.f120) (by kernel_rfl) (by kernel_rfl) (np := 0) (nt := 19) (fun _ => rfl) (fun _ => rfl) (by kernel_rfl) (res := res120) (by kernel_rfl) (fun _ => rfl) (fun _ => Nat.le_of_ble_eq_true rfl) (by
    intro R
    rw [show loopsOf (codeOf Try.f120) = [] from by kernel_rfl]
    exact allM_nil) (fun R x k => q120 F141 F142 F143 F120 R x k)
/-! drawlot/mix.Commitment -/
abbrev FT87 : Type 1 := (R : Type) → (List Int) → ((List Int) → Option R) → Option R
def en87 (F : FT87) : Ent := ⟨87, [(false, (.arr 32 (.int .u8)))], [(false, (.arr 32 (.int .u8)))], fun R x k => F R x.1 (fun y1 => k (y1, ()) ())⟩
def res87 : List (ResultVar × TypeId × Bool) := [(.cell 2 26, 26, false)]
def e87 (F120 : FT120) (R : Type) : Env R := ⟨TT, EQT, 0, 6, ownOf [], callOf [en120 F120] R, loopOf [] R, []⟩
def p87 (F120 : FT120) : FT87 := fun R a0 k =>
let v1 : (List (List Int)) := ([(List.take 32 (List.drop 0 a0))] : (List (List Int)));
F120 R v1 fun y2 =>
k y2
theorem q87 (F120 : FT120) (F : FT87) (R : Type) (x : AT (en87 F).ins) (k : RT (en87 F).outs → PT (en87 F).ins → Option R) :
  xfun (e87 F120 R) (codeOf Try.f87) res87 (avs (en87 F).ins x) (finK (en87 F).outs (en87 F).ins k) = p87 F120 R x.1 (fun y1 => k (y1, ()) ()) := by kernel_rfl
noncomputable def F87 : FT87 := p87 F120
theorem env87 (R : Type) : EnvOK Try.prog (e87 F120 R) := ⟨tabOK, eqOK, callOf_ok (allE_cons ok120 allE_nil), noIns⟩
theorem ok87 : (en87 F87).OK Try.prog :=
  ent_ok (Ef := fun R => e87 F120 R) (fun R => env87 R) mixed Try.func87 (body := codeOf Try.f87) (by kernel_rfl) (by kernel_rfl) (np := 0) (nt := 6) (fun _ => rfl) (fun _ => rfl) (by kernel_rfl) (res := res87) (by kernel_rfl) (fun _ => rfl) (fun _ => Nat.le_of_ble_eq_true rfl) (by
    intro R
    rw [show loopsOf (codeOf Try.f87) = [] from by kernel_rfl]
    exact allM_nil) (fun R x k => q87 F120 F87 R x k)
/-! drawlot/commit.right -/
abbrev FT88 : Type 1 := (R : Type) → (Int × ((List Int) × (Bool × ((List Int) × Unit)))) → (Bool → Option R) → Option R
def en88 (F : FT88) : Ent := ⟨88, [(false, (.pair (.int .i64) (.pair (.arr 32 (.int .u8)) (.pair .bool (.pair (.arr 32 (.int .u8)) .unit)))))], [(false, .bool)], fun R x k => F R x.1 (fun y1 => k (y1, ()) ())⟩
def res88 : List (ResultVar × TypeId × Bool) := [(.tmp 2, 4, false)]
def e88 (F87 : FT87) (R : Type) : Env R := ⟨TT, EQT, 0, 25, ownOf [], callOf [en87 F87] R, loopOf [] R, []⟩
def p88 (F87 : FT87) : FT88 := fun R a0 k =>
(match a0.2.2.1 with
| true => let v1 : Bool := (decide (a0.1 ≥ (0 : Int)));
(match v1 with
| true => F87 R a0.2.2.2.1 fun y2 =>
let v3 : Bool := (Kd.eqv (.arr 32 (.int .u8)) y2 a0.2.1);
k v3
| false => k false)
| false => let v4 : Bool := (decide (a0.1 ≥ (0 : Int)));
(match v4 with
| true => let v5 : (List Int) := (List.replicate 32 (0 : Int));
let v6 : Bool := (Kd.eqv (.arr 32 (.int .u8)) a0.2.2.2.1 v5);
k v6
| false => k false))
theorem q88 (F87 : FT87) (F : FT88) (R : Type) (x : AT (en88 F).ins) (k : RT (en88 F).outs → PT (en88 F).ins → Option R) :
  xfun (e88 F87 R) (codeOf Try.f88) res88 (avs (en88 F).ins x) (finK (en88 F).outs (en88 F).ins k) = p88 F87 R x.1 (fun y1 => k (y1, ()) ()) := by kernel_rfl
noncomputable def F88 : FT88 := p88 F87
theorem env88 (R : Type) : EnvOK Try.prog (e88 F87 R) := ⟨tabOK, eqOK, callOf_ok (allE_cons ok87 allE_nil), noIns⟩
theorem ok88 : (en88 F88).OK Try.prog :=
  ent_ok (Ef := fun R => e88 F87 R) (fun R => env88 R) mixed Try.func88 (body := codeOf Try.f88) (by kernel_rfl) (by kernel_rfl) (np := 0) (nt := 25) (fun _ => rfl) (fun _ => rfl) (by kernel_rfl) (res := res88) (by kernel_rfl) (fun _ => rfl) (fun _ => Nat.le_of_ble_eq_true rfl) (by
    intro R
    rw [show loopsOf (codeOf Try.f88) = [] from by kernel_rfl]
    exact allM_nil) (fun R x k => q88 F87 F88 R x k)
/-! drawlot/commit.Right -/
abbrev FT42 : Type 1 := (R : Type) → (List (Int × ((List Int) × (Bool × ((List Int) × Unit))))) → (Bool → Option R) → Option R
def en42 (F : FT42) : Ent := ⟨42, [(false, (.sl (.pair (.int .i64) (.pair (.arr 32 (.int .u8)) (.pair .bool (.pair (.arr 32 (.int .u8)) .unit))))))], [(false, .bool)], fun R x k => F R x.1 (fun y1 => k (y1, ()) ())⟩
def res42 : List (ResultVar × TypeId × Bool) := [(.tmp 2, 4, false)]
abbrev LT42_2 : Type 1 := (R : Type) → (List (Int × ((List Int) × (Bool × ((List Int) × Unit))))) → (List (Int × ((List Int) × (Bool × ((List Int) × Unit))))) → Int → Int → (Bool → Option R) → (Option R) → Option R
def le42_2 (L : LT42_2) : LEnt := ⟨2, [.val 0 (.sl (.pair (.int .i64) (.pair (.arr 32 (.int .u8)) (.pair .bool (.pair (.arr 32 (.int .u8)) .unit))))), .val 5 (.sl (.pair (.int .i64) (.pair (.arr 32 (.int .u8)) (.pair .bool (.pair (.arr 32 (.int .u8)) .unit))))), .val 6 (.int .i64), .val 7 (.int .i64)], 0, [(.ret, [.val 2 .bool]), (.exit 0, [])], fun R x ke => L R x.1 x.2.1 x.2.2.1 x.2.2.2.1 (fun y1 => ke.1 (y1, ())) (ke.2.1 ())⟩
def e42 (F88 : FT88) (L2 : LT42_2) (R : Type) : Env R := ⟨TT, EQT, 0, 31, ownOf [], callOf [en88 F88] R, loopOf [le42_2 L2] R, []⟩
def p42_2 (F88 : FT88) : (R : Type) → (List (Int × ((List Int) × (Bool × ((List Int) × Unit))))) → (List (Int × ((List Int) × (Bool × ((List Int) × Unit))))) → Int → Int → ((List (Int × ((List Int) × (Bool × ((List Int) × Unit))))) → (List (Int × ((List Int) × (Bool × ((List Int) × Unit))))) → Int → Int → Option R) → (Bool → Option R) → (Option R) → Option R := fun R x1 x2 x3 x4 kc k0 k1 =>
let v5 : Bool := (decide (x4 < x3));
(match v5 with
| true => (match (bnd x4 (List.length x2 : Int)) with
| true => let v6 : (Int × ((List Int) × (Bool × ((List Int) × Unit)))) := (List.getD x2 (Int.toNat x4) ((0 : Int), (List.replicate 32 (0 : Int)), false, (List.replicate 32 (0 : Int)), ()));
F88 R v6 fun y7 =>
(match (!y7) with
| true => k0 false
| false => let v8 : Bool := (decide (x4 > (0 : Int)));
(match v8 with
| true => let v9 : Int := (IntKind.i64.wrap (x4 - (1 : Int)));
(match (bnd v9 (List.length x1 : Int)) with
| true => let v10 : Int := (List.getD x1 (Int.toNat v9) ((0 : Int), (List.replicate 32 (0 : Int)), false, (List.replicate 32 (0 : Int)), ())).1;
let v11 : Bool := (decide (v10 ≥ v6.1));
(match v11 with
| true => k0 false
| false => let v12 : Int := (IntKind.i64.wrap (x4 + (1 : Int)));
kc x1 x2 x3 v12)
| false => none)
| false => let v13 : Int := (IntKind.i64.wrap (x4 + (1 : Int)));
kc x1 x2 x3 v13))
| false => none)
| false => k1)
theorem q42_2 (F88 : FT88) (L2 : LT42_2) (R : Type) (x : HT (le42_2 L2).H) (kc : HT (le42_2 L2).H → Option R) (ke : KT R (le42_2 L2).exs) :
  exec (e42 F88 L2 R) (lcode 2 (codeOf Try.f42)) (stOf (le42_2 L2).H x 0) (roundK (le42_2 L2).H (le42_2 L2).exs kc ke) =
    p42_2 F88 R x.1 x.2.1 x.2.2.1 x.2.2.2.1 (fun x1 x2 x3 x4 => kc (x1, x2, x3, x4, ())) (fun y1 => ke.1 (y1, ())) (ke.2.1 ()) := by kernel_rfl
noncomputable def G42_2 : Nat → LT42_2
  | 0 => fun _ _ _ _ _ _ _ => none
  | n + 1 => fun R x1 x2 x3 x4 k0 k1 => p42_2 F88 R x1 x2 x3 x4 (fun x1 x2 x3 x4 => G42_2 n R x1 x2 x3 x4 k0 k1) k0 k1
def p42 (L2 : LT42_2) : FT42 := fun R a0 k =>
let v1 : Int := (List.length a0 : Int);
L2 R a0 a0 v1 (0 : Int) (fun x2 =>
k x2) (k true)
theorem q42 (F88 : FT88) (L2 : LT42_2) (F : FT42) (R : Type) (x : AT (en42 F).ins) (k : RT (en42 F).outs → PT (en42 F).ins → Option R) :
  xfun (e42 F88 L2 R) (codeOf Try.f42) res42 (avs (en42 F).ins x) (finK (en42 F).outs (en42 F).ins k) = p42 L2 R x.1 (fun y1 => k (y1, ()) ()) := by kernel_rfl
noncomputable def F42 : FT42 := p42 (G42_2 FUEL)
theorem env42 (R : Type) : EnvOK Try.prog (e42 F88 (G42_2 FUEL) R) := ⟨tabOK, eqOK, callOf_ok (allE_cons ok88 allE_nil), noIns⟩
noncomputable def T42_2 : (R : Type) → HT (le42_2 (G42_2 FUEL)).H → (HT (le42_2 (G42_2 FUEL)).H → Option R) → KT R (le42_2 (G42_2 FUEL)).exs → Option R := fun R x kc ke => p42_2 F88 R x.1 x.2.1 x.2.2.1 x.2.2.2.1 (fun x1 x2 x3 x4 => kc (x1, x2, x3, x4, ())) (fun y1 => ke.1 (y1, ())) (ke.2.1 ())
theorem it42_2 : ∀ (n : Nat) (R : Type) (x : HT (le42_2 (G42_2 FUEL)).H) (ke : KT R (le42_2 (G42_2 FUEL)).exs), iter T42_2 n R x ke = G42_2 n R x.1 x.2.1 x.2.2.1 x.2.2.2.1 (fun y1 => ke.1 (y1, ())) (ke.2.1 ()) := by
  intro n
  induction n with
  | zero => intro R x ke; rfl
  | succ n ih =>
    intro R x ke
    show T42_2 R x (fun x' => iter T42_2 n R x' ke) ke = _
    rw [show (fun x' => iter T42_2 n R x' ke) = fun x => G42_2 n R x.1 x.2.1 x.2.2.1 x.2.2.2.1 (fun y1 => ke.1 (y1, ())) (ke.2.1 ()) from funext fun x' => ih R x' ke]
    rfl
theorem lok42_2 : (le42_2 (G42_2 FUEL)).OK Try.prog 0 31 (lcode 2 (codeOf Try.f42)) := fun R x ke r h =>
  iter_sound (fun R => e42 F88 (G42_2 FUEL) R) 0 31 (fun _ => rfl) (fun _ => rfl) (fun R => env42 R) mixed (by
    intro R
    rw [show loopsOf (lcode 2 (codeOf Try.f42)) = [] from by kernel_rfl]
    exact allM_nil) (T := T42_2) (fun R x kc ke => q42_2 F88 (G42_2 FUEL) R x kc ke) FUEL R x ke r ((it42_2 FUEL R x ke).trans h)
theorem ok42 : (en42 F42).OK Try.prog :=
  ent_ok (Ef := fun R => e42 F88 (G42_2 FUEL) R) (fun R => env42 R) mixed Try.func42 (body := codeOf Try.f42) (by kernel_rfl) (by kernel_rfl) (np := 0) (nt := 31) (fun _ => rfl) (fun _ => rfl) (by kernel_rfl) (res := res42) (by kernel_rfl) (fun _ => rfl) (fun _ => Nat.le_of_ble_eq_true rfl) (by
    intro R
    rw [show loopsOf (codeOf Try.f42) = [lcode 2 (codeOf Try.f42)] from by kernel_rfl]
    exact (allM_cons (loop_ok2 (e := le42_2 (G42_2 FUEL)) rfl rfl lok42_2) allM_nil)) (fun R x k => q42 F88 (G42_2 FUEL) F42 R x k)
/-! cmp.isNaN[int] -/
abbrev FT139 : Type 1 := (R : Type) → Int → (Bool → Option R) → Option R
def en139 (F : FT139) : Ent := ⟨139, [(false, (.int .i64))], [(false, .bool)], fun R x k => F R x.1 (fun y1 => k (y1, ()) ())⟩
def res139 : List (ResultVar × TypeId × Bool) := [(.tmp 2, 4, false)]
def e139 (R : Type) : Env R := ⟨TT, EQT, 0, 6, ownOf [], callOf [] R, loopOf [] R, []⟩
def p139 : FT139 := fun R a0 k =>
let v1 : Bool := (a0 != a0);
k v1
theorem q139 (F : FT139) (R : Type) (x : AT (en139 F).ins) (k : RT (en139 F).outs → PT (en139 F).ins → Option R) :
  xfun (e139 R) (codeOf Try.f139) res139 (avs (en139 F).ins x) (finK (en139 F).outs (en139 F).ins k) = p139 R x.1 (fun y1 => k (y1, ()) ()) := by kernel_rfl
noncomputable def F139 : FT139 := p139
theorem env139 (R : Type) : EnvOK Try.prog (e139 R) := ⟨tabOK, eqOK, callOf_ok allE_nil, noIns⟩
theorem ok139 : (en139 F139).OK Try.prog :=
  ent_ok (Ef := fun R => e139 R) (fun R => env139 R) mixed Try.func139 (body := codeOf Try.f139) (by kernel_rfl) (by kernel_rfl) (np := 0) (nt := 6) (fun _ => rfl) (fun _ => rfl) (by kernel_rfl) (res := res139) (by kernel_rfl) (fun _ => rfl) (fun _ => Nat.le_of_ble_eq_true rfl) (by
    intro R
    rw [show loopsOf (codeOf Try.f139) = [] from by kernel_rfl]
    exact allM_nil) (fun R x k => q139 F139 R x k)
/-! cmp.Compare[int] -/
abbrev FT117 : Type 1 := (R : Type) → Int → Int → (Int → Option R) → Option R
def en117 (F : FT117) : Ent := ⟨117, [(false, (.int .i64)), (false, (.int .i64))], [(false, (.int .i64))], fun R x k => F R x.1 x.2.1 (fun y1 => k (y1, ()) ())⟩
def res117 : List (ResultVar × TypeId × Bool) := [(.tmp 4, 3, false)]
def e117 (F139 : FT139) (R : Type) : Env R := ⟨TT, EQT, 0, 20, ownOf [], callOf [en139 F139] R, loopOf [] R, []⟩
def p117 (F139 : FT139) : FT117 := fun R a0 a1 k =>
F139 R a0 fun y1 =>
F139 R a1 fun y2 =>
(match y1 with
| true => (match y2 with
| true => k (0 : Int)
| false => k (-1 : Int))
| false => (match y2 with
| true => k (1 : Int)
| false => let v3 : Bool := (decide (a0 < a1));
(match v3 with
| true => k (-1 : Int)
| false => let v4 : Bool := (decide (a0 > a1));
(match v4 with
| true => k (1 : Int)
| false => k (0 : Int)))))
theorem q117 (F139 : FT139) (F : FT117) (R : Type) (x : AT (en117 F).ins) (k : RT (en117 F).outs → PT (en117 F).ins → Option R) :
  xfun (e117 F139 R) (codeOf Try.f117) res117 (avs (en117 F).ins x) (finK (en117 F).outs (en117 F).ins k) = p117 F139 R x.1 x.2.1 (fun y1 => k (y1, ()) ()) := by kernel_rfl
noncomputable def F117 : FT117 := p117 F139
theorem env117 (R : Type) : EnvOK Try.prog (e117 F139 R) := ⟨tabOK, eqOK, callOf_ok (allE_cons ok139 allE_nil), noIns⟩
theorem ok117 : (en117 F117).OK Try.prog :=
  ent_ok (Ef := fun R => e117 F139 R) (fun R => env117 R) mixed Try.func117 (body := codeOf Try.f117) (by kernel_rfl) (by kernel_rfl) (np := 0) (nt := 20) (fun _ => rfl) (fun _ => rfl) (by kernel_rfl) (res := res117) (by kernel_rfl) (fun _ => rfl) (fun _ => Nat.le_of_ble_eq_true rfl) (by
    intro R
    rw [show loopsOf (codeOf Try.f117) = [] from by kernel_rfl]
    exact allM_nil) (fun R x k => q117 F139 F117 R x k)
/-! drawlot/commit.place$1 -/
abbrev FT116 : Type 1 := (R : Type) → (Int × ((List Int) × (Bool × ((List Int) × Unit)))) → Int → (Int → Option R) → Option R
def en116 (F : FT116) : Ent := ⟨116, [(false, (.pair (.int .i64) (.pair (.arr 32 (.int .u8)) (.pair .bool (.pair (.arr 32 (.int .u8)) .unit))))), (false, (.int .i64))], [(false, (.int .i64))], fun R x k => F R x.1 x.2.1 (fun y1 => k (y1, ()) ())⟩
def res116 : List (ResultVar × TypeId × Bool) := [(.tmp 4, 3, false)]
def e116 (F117 : FT117) (R : Type) : Env R := ⟨TT, EQT, 0, 9, ownOf [], callOf [en117 F117] R, loopOf [] R, []⟩
def p116 (F117 : FT117) : FT116 := fun R a0 a1 k =>
F117 R a0.1 a1 fun y1 =>
k y1
theorem q116 (F117 : FT117) (F : FT116) (R : Type) (x : AT (en116 F).ins) (k : RT (en116 F).outs → PT (en116 F).ins → Option R) :
  xfun (e116 F117 R) (codeOf Try.f116) res116 (avs (en116 F).ins x) (finK (en116 F).outs (en116 F).ins k) = p116 F117 R x.1 x.2.1 (fun y1 => k (y1, ()) ()) := by kernel_rfl
noncomputable def F116 : FT116 := p116 F117
theorem env116 (R : Type) : EnvOK Try.prog (e116 F117 R) := ⟨tabOK, eqOK, callOf_ok (allE_cons ok117 allE_nil), noIns⟩
theorem ok116 : (en116 F116).OK Try.prog :=
  ent_ok (Ef := fun R => e116 F117 R) (fun R => env116 R) mixed Try.func116 (body := codeOf Try.f116) (by kernel_rfl) (by kernel_rfl) (np := 0) (nt := 9) (fun _ => rfl) (fun _ => rfl) (by kernel_rfl) (res := res116) (by kernel_rfl) (fun _ => rfl) (fun _ => Nat.le_of_ble_eq_true rfl) (by
    intro R
    rw [show loopsOf (codeOf Try.f116) = [] from by kernel_rfl]
    exact allM_nil) (fun R x k => q116 F117 F116 R x k)
/-! slices.BinarySearchFunc[[]drawlot/api.Commit,drawlot/api.Commit,int] -/
abbrev FT116116 : Type 1 := (R : Type) → (List (Int × ((List Int) × (Bool × ((List Int) × Unit))))) → Int → (Int → Bool → Option R) → Option R
def en116116 (F : FT116116) : EntF := ⟨115, 116, [(false, (.sl (.pair (.int .i64) (.pair (.arr 32 (.int .u8)) (.pair .bool (.pair (.arr 32 (.int .u8)) .unit)))))), (false, (.int .i64))], [(false, (.int .i64)), (false, .bool)], fun R x k => F R x.1 x.2.1 (fun y1 y2 => k (y1, y2, ()) ())⟩
def res116116 : List (ResultVar × TypeId × Bool) := [(.tmp 6, 3, false), (.tmp 7, 4, false)]
abbrev LT116116_3 : Type 1 := (R : Type) → (List (Int × ((List Int) × (Bool × ((List Int) × Unit))))) → Int → Int → Int → Int → ((List (Int × ((List Int) × (Bool × ((List Int) × Unit))))) → Int → Int → Int → Option R) → Option R
def le116116_3 (L : LT116116_3) : LEnt := ⟨3, [.val 0 (.sl (.pair (.int .i64) (.pair (.arr 32 (.int .u8)) (.pair .bool (.pair (.arr 32 (.int .u8)) .unit))))), .val 1 (.int .i64), .fix 2 (.fn 116), .val 8 (.int .i64), .val 9 (.int .i64), .val 10 (.int .i64)], 0, [(.exit 0, [.val 0 (.sl (.pair (.int .i64) (.pair (.arr 32 (.int .u8)) (.pair .bool (.pair (.arr 32 (.int .u8)) .unit))))), .val 1 (.int .i64), .fix 2 (.fn 116), .val 8 (.int .i64), .val 9 (.int .i64)])], fun R x ke => L R x.1 x.2.1 x.2.2.1 x.2.2.2.1 x.2.2.2.2.1 (fun y1 y2 y3 y4 => ke.1 (y1, y2, y3, y4, ()))⟩
def e116116 (F116 : FT116) (L3 : LT116116_3) (R : Type) : Env R := ⟨TT, EQT, 0, 49, ownOf [], callOf [en116 F116] R, loopOf [le116116_3 L3] R, []⟩
def p116116_3 (F116 : FT116) : (R : Type) → (List (Int × ((List Int) × (Bool × ((List Int) × Unit))))) → Int → Int → Int → Int → ((List (Int × ((List Int) × (Bool × ((List Int) × Unit))))) → Int → Int → Int → Int → Option R) → ((List (Int × ((List Int) × (Bool × ((List Int) × Unit))))) → Int → Int → Int → Option R) → Option R := fun R x1 x2 x3 x4 x5 kc k0 =>
let v6 : Bool := (decide (x4 < x5));
(match v6 with
| true => let v7 : Int := (IntKind.i64.wrap (x4 + x5));
let v8 : Int := (IntKind.u64.wrap v7);
let v9 : Int := (ishr .u64 v8 (1 : Int));
let v10 : Int := (IntKind.i64.wrap v9);
(match (bnd v10 (List.length x1 : Int)) with
| true => let v11 : (Int × ((List Int) × (Bool × ((List Int) × Unit)))) := (List.getD x1 (Int.toNat v10) ((0 : Int), (List.replicate 32 (0 : Int)), false, (List.replicate 32 (0 : Int)), ()));
F116 R v11 x2 fun y12 =>
let v13 : Bool := (decide (y12 < (0 : Int)));
(match v13 with
| true => let v14 : Int := (IntKind.i64.wrap (v10 + (1 : Int)));
kc x1 x2 x3 v14 x5
| false => kc x1 x2 x3 x4 v10)
| false => none)
| false => k0 x1 x2 x3 x4)
theorem q116116_3 (F116 : FT116) (L3 : LT116116_3) (R : Type) (x : HT (le116116_3 L3).H) (kc : HT (le116116_3 L3).H → Option R) (ke : KT R (le116116_3 L3).exs) :
  exec (e116116 F116 L3 R) (lcode 3 (codeOf Try.f115)) (stOf (le116116_3 L3).H x 0) (roundK (le116116_3 L3).H (le116116_3 L3).exs kc ke) =
    p116116_3 F116 R x.1 x.2.1 x.2.2.1 x.2.2.2.1 x.2.2.2.2.1 (fun x1 x2 x3 x4 x5 => kc (x1, x2, x3, x4, x5, ())) (fun y1 y2 y3 y4 => ke.1 (y1, y2, y3, y4, ())) := by kernel_rfl
noncomputable def G116116_3 : Nat → LT116116_3
  | 0 => fun _ _ _ _ _ _ _ => none
  | n + 1 => fun R x1 x2 x3 x4 x5 k0 => p116116_3 F116 R x1 x2 x3 x4 x5 (fun x1 x2 x3 x4 x5 => G116116_3 n R x1 x2 x3 x4 x5 k0) k0
def p116116 (F116 : FT116) (L3 : LT116116_3) : FT116116 := fun R a0 a1 k =>
let v1 : Int := (List.length a0 : Int);
L3 R a0 a1 v1 (0 : Int) v1 (fun x2 x3 x4 x5 =>
let v6 : Bool := (decide (x5 < x4));
(match v6 with
| true => (match (bnd x5 (List.length x2 : Int)) with
| true => let v7 : (Int × ((List Int) × (Bool × ((List Int) × Unit)))) := (List.getD x2 (Int.toNat x5) ((0 : Int), (List.replicate 32 (0 : Int)), false, (List.replicate 32 (0 : Int)), ()));
F116 R v7 x3 fun y8 =>
let v9 : Bool := (y8 == (0 : Int));
k x5 v9
| false => none)
| false => k x5 false))
theorem q116116 (F116 : FT116) (L3 : LT116116_3) (F : FT116116) (R : Type) (x : AT (en116116 F).ins) (k : RT (en116116 F).outs → PT (en116116 F).ins → Option R) :
  xfun (e116116 F116 L3 R) (codeOf Try.f115) res116116 (avs (en116116 F).ins x ++ [AV.fn 116]) (finK (en116116 F).outs (en116116 F).ins k) = p116116 F116 L3 R x.1 x.2.1 (fun y1 y2 => k (y1, y2, ()) ()) := by kernel_rfl
noncomputable def F116116 : FT116116 := p116116 F116 (G116116_3 FUEL)
theorem env116116 (R : Type) : EnvOK Try.prog (e116116 F116 (G116116_3 FUEL) R) := ⟨tabOK, eqOK, callOf_ok (allE_cons ok116 allE_nil), noIns⟩
noncomputable def T116116_3 : (R : Type) → HT (le116116_3 (G116116_3 FUEL)).H → (HT (le116116_3 (G116116_3 FUEL)).H → Option R) → KT R (le116116_3 (G116116_3 FUEL)).exs → Option R := fun R x kc ke => p116116_3 F116 R x.1 x.2.1 x.2.2.1 x.2.2.2.1 x.2.2.2.2.1 (fun x1 x2 x3 x4 x5 => kc (x1, x2, x3, x4, x5, ())) (fun y1 y2 y3 y4 => ke.1 (y1, y2, y3, y4, ()))
theorem it116116_3 : ∀ (n : Nat) (R : Type) (x : HT (le116116_3 (G116116_3 FUEL)).H) (ke : KT R (le116116_3 (G116116_3 FUEL)).exs), iter T116116_3 n R x ke = G116116_3 n R x.1 x.2.1 x.2.2.1 x.2.2.2.1 x.2.2.2.2.1 (fun y1 y2 y3 y4 => ke.1 (y1, y2, y3, y4, ())) := by
  intro n
  induction n with
  | zero => intro R x ke; rfl
  | succ n ih =>
    intro R x ke
    show T116116_3 R x (fun x' => iter T116116_3 n R x' ke) ke = _
    rw [show (fun x' => iter T116116_3 n R x' ke) = fun x => G116116_3 n R x.1 x.2.1 x.2.2.1 x.2.2.2.1 x.2.2.2.2.1 (fun y1 y2 y3 y4 => ke.1 (y1, y2, y3, y4, ())) from funext fun x' => ih R x' ke]
    rfl
theorem lok116116_3 : (le116116_3 (G116116_3 FUEL)).OK Try.prog 0 49 (lcode 3 (codeOf Try.f115)) := fun R x ke r h =>
  iter_sound (fun R => e116116 F116 (G116116_3 FUEL) R) 0 49 (fun _ => rfl) (fun _ => rfl) (fun R => env116116 R) mixed (by
    intro R
    rw [show loopsOf (lcode 3 (codeOf Try.f115)) = [] from by kernel_rfl]
    exact allM_nil) (T := T116116_3) (fun R x kc ke => q116116_3 F116 (G116116_3 FUEL) R x kc ke) FUEL R x ke r ((it116116_3 FUEL R x ke).trans h)
theorem ok116116 : (en116116 F116116).OK Try.prog :=
  ent_okF (Ef := fun R => e116116 F116 (G116116_3 FUEL) R) (fun R => env116116 R) mixed Try.func115 (body := codeOf Try.f115) (by kernel_rfl) (by kernel_rfl) (np := 0) (nt := 49) (fun _ => rfl) (fun _ => rfl) (by kernel_rfl) (res := res116116) (by kernel_rfl) (fun _ => rfl) (fun _ => Nat.le_of_ble_eq_true rfl) (by
    intro R
    rw [show loopsOf (codeOf Try.f115) = [lcode 3 (codeOf Try.f115)] from by kernel_rfl]
    exact (allM_cons (loop_ok2 (e := le116116_3 (G116116_3 FUEL)) rfl rfl lok116116_3) allM_nil)) (fun R x k => q116116 F116 (G116116_3 FUEL) F116116 R x k)
/-! drawlot/commit.place -/
abbrev FT83 : Type 1 := (R : Type) → (List (Int × ((List Int) × (Bool × ((List Int) × Unit))))) → Int → (Int → Bool → Option R) → Option R
def en83 (F : FT83) : Ent := ⟨83, [(false, (.sl (.pair (.int .i64) (.pair (.arr 32 (.int .u8)) (.pair .bool (.pair (.arr 32 (.int .u8)) .unit)))))), (false, (.int .i64))], [(false, (.int .i64)), (false, .bool)], fun R x k => F R x.1 x.2.1 (fun y1 y2 => k (y1, y2, ()) ())⟩
def res83 : List (ResultVar × TypeId × Bool) := [(.tmp 4, 3, false), (.tmp 5, 4, false)]
def e83 (F116116 : FT116116) (R : Type) : Env R := ⟨TT, EQT, 0, 11, ownOf [], callOfF [en116116 F116116] [] R, loopOf [] R, []⟩
def p83 (F116116 : FT116116) : FT83 := fun R a0 a1 k =>
F116116 R a0 a1 fun y1 y2 =>
k y1 y2
theorem q83 (F116116 : FT116116) (F : FT83) (R : Type) (x : AT (en83 F).ins) (k : RT (en83 F).outs → PT (en83 F).ins → Option R) :
  xfun (e83 F116116 R) (codeOf Try.f83) res83 (avs (en83 F).ins x) (finK (en83 F).outs (en83 F).ins k) = p83 F116116 R x.1 x.2.1 (fun y1 y2 => k (y1, y2, ()) ()) := by kernel_rfl
noncomputable def F83 : FT83 := p83 F116116
theorem env83 (R : Type) : EnvOK Try.prog (e83 F116116 R) := ⟨tabOK, eqOK, callOfF_ok (allF_cons ok116116 allF_nil) allE_nil, noIns⟩
theorem ok83 : (en83 F83).OK Try.prog :=
  ent_ok (Ef := fun R => e83 F116116 R) (fun R => env83 R) mixed Try.func83 (body := codeOf Try.f83) (by kernel_rfl) (by kernel_rfl) (np := 0) (nt := 11) (fun _ => rfl) (fun _ => rfl) (by kernel_rfl) (res := res83) (by kernel_rfl) (fun _ => rfl) (fun _ => Nat.le_of_ble_eq_true rfl) (by
    intro R
    rw [show loopsOf (codeOf Try.f83) = [] from by kernel_rfl]
    exact allM_nil) (fun R x k => q83 F116116 F83 R x k)
/-! slices.Clone[[]drawlot/api.Commit,drawlot/api.Commit] -/
abbrev FT85 : Type 1 := (R : Type) → (List (Int × ((List Int) × (Bool × ((List Int) × Unit))))) → ((List (Int × ((List Int) × (Bool × ((List Int) × Unit))))) → Option R) → Option R
def en85 (F : FT85) : Ent := ⟨85, [(false, (.sl (.pair (.int .i64) (.pair (.arr 32 (.int .u8)) (.pair .bool (.pair (.arr 32 (.int .u8)) .unit))))))], [(true, (.pair (.int .i64) (.pair (.arr 32 (.int .u8)) (.pair .bool (.pair (.arr 32 (.int .u8)) .unit)))))], fun R x k => F R x.1 (fun y1 => k (y1, ()) ())⟩
def e85 : Env (RT [(true, (.pair (.int .i64) (.pair (.arr 32 (.int .u8)) (.pair .bool (.pair (.arr 32 (.int .u8)) .unit)))))]) := ⟨TT, EQT, 0, 8, ownOf [(2, 0), (3, 0)], fun _ _ _ => none, fun _ _ _ => none, []⟩
def F85 : FT85 := fun R a0 k => match decide (List.length ([] : (List (Int × ((List Int) × (Bool × ((List Int) × Unit)))))) + List.length a0 ≤ 1759218604441) with | true => k a0 | false => none
theorem ok85 : (en85 F85).OK Try.prog :=
  clone_ok (e := (.pair (.int .i64) (.pair (.arr 32 (.int .u8)) (.pair .bool (.pair (.arr 32 (.int .u8)) .unit))))) e85 ⟨tabOK, eqOK, (fun f b K r h => by cases h), noIns⟩ mixed Try.func85 (body := codeOf Try.f85) (by kernel_rfl) (by kernel_rfl) (by kernel_rfl) (res := [(.tmp 2, 57, true)]) (by kernel_rfl) rfl (by decide) (by kernel_rfl) (lim := 1759218604441) (by kernel_rfl) (fun l => by kernel_rfl)
/-! slices.Insert[[]drawlot/api.Commit,drawlot/api.Commit] -/
def rho84 : Go.Shelf.Ren := ⟨fun n => match n with | 22 => 84 | 29 => 118 | _ => 119, fun n => match n with | 3 => 3 | 4 => 4 | 9 => 63 | 24 => 57 | _ => 0, fun n => n⟩
theorem insL84 : InsL Try.prog rho84 Try.f84 := ⟨mixed, Try.func84, ⟨Try.f84.name, Try.f84.targs, Try.f84.params, Try.f84.resultTypes, Try.f84.file, Try.f84.tmpNames, by kernel_rfl⟩, Try.underlying3, Try.underlying4, Try.underlying57⟩
theorem ok84 : InsOK Try.prog 84 (.pair (.int .i64) (.pair (.arr 32 (.int .u8)) (.pair .bool (.pair (.arr 32 (.int .u8)) .unit)))) 1759218604441 :=
  ins_ok (ρ := rho84) tabOK insL84 (by kernel_rfl) (by decide) (by kernel_rfl) (by kernel_rfl) (dd := (tlook TT 63).get (by kernel_rfl)) (by kernel_rfl) (fo := Try.f118) Try.func118 (by kernel_rfl) (by kernel_rfl) (by kernel_rfl) (by kernel_rfl) (by kernel_rfl)
/-! drawlot/commit.Put -/
abbrev FT35 : Type 1 := (R : Type) → (List (Int × ((List Int) × (Bool × ((List Int) × Unit))))) → Int → (List Int) → ((List (Int × ((List Int) × (Bool × ((List Int) × Unit))))) → Int → Option R) → Option R
def en35 (F : FT35) : Ent := ⟨35, [(false, (.sl (.pair (.int .i64) (.pair (.arr 32 (.int .u8)) (.pair .bool (.pair (.arr 32 (.int .u8)) .unit)))))), (false, (.int .i64)), (false, (.arr 32 (.int .u8)))], [(false, (.sl (.pair (.int .i64) (.pair (.arr 32 (.int .u8)) (.pair .bool (.pair (.arr 32 (.int .u8)) .unit)))))), (false, (.int .i64))], fun R x k => F R x.1 x.2.1 x.2.2.1 (fun y1 y2 => k (y1, y2, ()) ())⟩
def res35 : List (ResultVar × TypeId × Bool) := [(.tmp 6, 57, false), (.tmp 7, 31, false)]
def e35 (F42 : FT42) (F83 : FT83) (F85 : FT85) (R : Type) : Env R := ⟨TT, EQT, 0, 32, ownOf [(6, 7)], callOf [en42 F42, en83 F83, en85 F85] R, loopOf [] R, [(84, (.pair (.int .i64) (.pair (.arr 32 (.int .u8)) (.pair .bool (.pair (.arr 32 (.int .u8)) .unit)))), 1759218604441)]⟩
def p35 (F42 : FT42) (F83 : FT83) (F85 : FT85) : FT35 := fun R a0 a1 a2 k =>
let v1 : Bool := (decide (a1 < (0 : Int)));
(match v1 with
| true => k ([] : (List (Int × ((List Int) × (Bool × ((List Int) × Unit)))))) (1 : Int)
| false => F42 R a0 fun y2 =>
(match (!y2) with
| true => k ([] : (List (Int × ((List Int) × (Bool × ((List Int) × Unit)))))) (1 : Int)
| false => F83 R a0 a1 fun y3 y4 =>
(match y4 with
| true => k ([] : (List (Int × ((List Int) × (Bool × ((List Int) × Unit)))))) (6 : Int)
| false => F85 R a0 fun y5 =>
let v6 : (List (Int × ((List Int) × (Bool × ((List Int) × Unit))))) := ([(a1, a2, false, (List.replicate 32 (0 : Int)), ())] : (List (Int × ((List Int) × (Bool × ((List Int) × Unit))))));
(match (decide (0 ≤ y3 ∧ y3 ≤ (List.length y5 : Int) ∧ List.length y5 + List.length v6 ≤ 1759218604441)) with
| true => let v7 : (List (Int × ((List Int) × (Bool × ((List Int) × Unit))))) := (List.take (Int.toNat y3) y5 ++ v6 ++ List.drop (Int.toNat y3) y5);
k v7 (0 : Int)
| false => none))))
theorem q35 (F42 : FT42) (F83 : FT83) (F85 : FT85) (F : FT35) (R : Type) (x : AT (en35 F).ins) (k : RT (en35 F).outs → PT (en35 F).ins → Option R) :
  xfun (e35 F42 F83 F85 R) (codeOf Try.f35) res35 (avs (en35 F).ins x) (finK (en35 F).outs (en35 F).ins k) = p35 F42 F83 F85 R x.1 x.2.1 x.2.2.1 (fun y1 y2 => k (y1, y2, ()) ()) := by kernel_rfl
noncomputable def F35 : FT35 := p35 F42 F83 F85
theorem env35 (R : Type) : EnvOK Try.prog (e35 F42 F83 F85 R) := ⟨tabOK, eqOK, callOf_ok (allE_cons ok42 (allE_cons ok83 (allE_cons ok85 allE_nil))), insOne ok84⟩
theorem ok35 : (en35 F35).OK Try.prog :=
  ent_ok (Ef := fun R => e35 F42 F83 F85 R) (fun R => env35 R) mixed Try.func35 (body := codeOf Try.f35) (by kernel_rfl) (by kernel_rfl) (np := 0) (nt := 32) (fun _ => rfl) (fun _ => rfl) (by kernel_rfl) (res := res35) (by kernel_rfl) (fun _ => rfl) (fun _ => Nat.le_of_ble_eq_true rfl) (by
    intro R
    rw [show loopsOf (codeOf Try.f35) = [] from by kernel_rfl]
    exact allM_nil) (fun R x k => q35 F42 F83 F85 F35 R x k)
/-! drawlot/commit.Reveal -/
abbrev FT37 : Type 1 := (R : Type) → (List (Int × ((List Int) × (Bool × ((List Int) × Unit))))) → Int → (List Int) → ((List (Int × ((List Int) × (Bool × ((List Int) × Unit))))) → Int → Option R) → Option R
def en37 (F : FT37) : Ent := ⟨37, [(false, (.sl (.pair (.int .i64) (.pair (.arr 32 (.int .u8)) (.pair .bool (.pair (.arr 32 (.int .u8)) .unit)))))), (false, (.int .i64)), (false, (.arr 32 (.int .u8)))], [(false, (.sl (.pair (.int .i64) (.pair (.arr 32 (.int .u8)) (.pair .bool (.pair (.arr 32 (.int .u8)) .unit)))))), (false, (.int .i64))], fun R x k => F R x.1 x.2.1 x.2.2.1 (fun y1 y2 => k (y1, y2, ()) ())⟩
def res37 : List (ResultVar × TypeId × Bool) := [(.tmp 6, 57, false), (.tmp 7, 31, false)]
def e37 (F42 : FT42) (F83 : FT83) (F85 : FT85) (F87 : FT87) (R : Type) : Env R := ⟨TT, EQT, 0, 50, ownOf [], callOf [en42 F42, en83 F83, en85 F85, en87 F87] R, loopOf [] R, []⟩
def p37 (F42 : FT42) (F83 : FT83) (F85 : FT85) (F87 : FT87) : FT37 := fun R a0 a1 a2 k =>
F42 R a0 fun y1 =>
(match (!y1) with
| true => k ([] : (List (Int × ((List Int) × (Bool × ((List Int) × Unit)))))) (1 : Int)
| false => F83 R a0 a1 fun y2 y3 =>
(match (!y3) with
| true => k ([] : (List (Int × ((List Int) × (Bool × ((List Int) × Unit)))))) (5 : Int)
| false => (match (bnd y2 (List.length a0 : Int)) with
| true => let v4 : Bool := (List.getD a0 (Int.toNat y2) ((0 : Int), (List.replicate 32 (0 : Int)), false, (List.replicate 32 (0 : Int)), ())).2.2.1;
(match v4 with
| true => k ([] : (List (Int × ((List Int) × (Bool × ((List Int) × Unit)))))) (6 : Int)
| false => F87 R a2 fun y5 =>
(match (bnd y2 (List.length a0 : Int)) with
| true => let v6 : (List Int) := (List.getD a0 (Int.toNat y2) ((0 : Int), (List.replicate 32 (0 : Int)), false, (List.replicate 32 (0 : Int)), ())).2.1;
let v7 : Bool := (!(Kd.eqv (.arr 32 (.int .u8)) y5 v6));
(match v7 with
| true => k ([] : (List (Int × ((List Int) × (Bool × ((List Int) × Unit)))))) (13 : Int)
| false => F85 R a0 fun y8 =>
(match (bnd y2 (List.length y8 : Int)) with
| true => let v9 : (List (Int × ((List Int) × (Bool × ((List Int) × Unit))))) := (List.set y8 (Int.toNat y2) ((List.getD y8 (Int.toNat y2) ((0 : Int), (List.replicate 32 (0 : Int)), false, (List.replicate 32 (0 : Int)), ())).1, (List.getD y8 (Int.toNat y2) ((0 : Int), (List.replicate 32 (0 : Int)), false, (List.replicate 32 (0 : Int)), ())).2.1, true, (List.getD y8 (Int.toNat y2) ((0 : Int), (List.replicate 32 (0 : Int)), false, (List.replicate 32 (0 : Int)), ())).2.2.2));
(match (bnd y2 (List.length v9 : Int)) with
| true => let v10 : (List (Int × ((List Int) × (Bool × ((List Int) × Unit))))) := (List.set v9 (Int.toNat y2) ((List.getD v9 (Int.toNat y2) ((0 : Int), (List.replicate 32 (0 : Int)), false, (List.replicate 32 (0 : Int)), ())).1, (List.getD v9 (Int.toNat y2) ((0 : Int), (List.replicate 32 (0 : Int)), false, (List.replicate 32 (0 : Int)), ())).2.1, (List.getD v9 (Int.toNat y2) ((0 : Int), (List.replicate 32 (0 : Int)), false, (List.replicate 32 (0 : Int)), ())).2.2.1, a2, (List.getD v9 (Int.toNat y2) ((0 : Int), (List.replicate 32 (0 : Int)), false, (List.replicate 32 (0 : Int)), ())).2.2.2.2));
k v10 (0 : Int)
| false => none)
| false => none))
| false => none))
| false => none)))
theorem q37 (F42 : FT42) (F83 : FT83) (F85 : FT85) (F87 : FT87) (F : FT37) (R : Type) (x : AT (en37 F).ins) (k : RT (en37 F).outs → PT (en37 F).ins → Option R) :
  xfun (e37 F42 F83 F85 F87 R) (codeOf Try.f37) res37 (avs (en37 F).ins x) (finK (en37 F).outs (en37 F).ins k) = p37 F42 F83 F85 F87 R x.1 x.2.1 x.2.2.1 (fun y1 y2 => k (y1, y2, ()) ()) := by kernel_rfl
noncomputable def F37 : FT37 := p37 F42 F83 F85 F87
theorem env37 (R : Type) : EnvOK Try.prog (e37 F42 F83 F85 F87 R) := ⟨tabOK, eqOK, callOf_ok (allE_cons ok42 (allE_cons ok83 (allE_cons ok85 (allE_cons ok87 allE_nil)))), noIns⟩
theorem ok37 : (en37 F37).OK Try.prog :=
  ent_ok (Ef := fun R => e37 F42 F83 F85 F87 R) (fun R => env37 R) mixed Try.func37 (body := codeOf Try.f37) (by kernel_rfl) (by kernel_rfl) (np := 0) (nt := 50) (fun _ => rfl) (fun _ => rfl) (by kernel_rfl) (res := res37) (by kernel_rfl) (fun _ => rfl) (fun _ => Nat.le_of_ble_eq_true rfl) (by
    intro R
    rw [show loopsOf (codeOf Try.f37) = [] from by kernel_rfl]
    exact allM_nil) (fun R x k => q37 F42 F83 F85 F87 F37 R x k)
/-! drawlot/commit.Find -/
abbrev FT40 : Type 1 := (R : Type) → (List (Int × ((List Int) × (Bool × ((List Int) × Unit))))) → Int → ((Int × ((List Int) × (Bool × ((List Int) × Unit)))) → Bool → Option R) → Option R
def en40 (F : FT40) : Ent := ⟨40, [(false, (.sl (.pair (.int .i64) (.pair (.arr 32 (.int .u8)) (.pair .bool (.pair (.arr 32 (.int .u8)) .unit)))))), (false, (.int .i64))], [(false, (.pair (.int .i64) (.pair (.arr 32 (.int .u8)) (.pair .bool (.pair (.arr 32 (.int .u8)) .unit))))), (false, .bool)], fun R x k => F R x.1 x.2.1 (fun y1 y2 => k (y1, y2, ()) ())⟩
def res40 : List (ResultVar × TypeId × Bool) := [(.cell 4 63, 63, false), (.tmp 5, 4, false)]
abbrev LT40_2 : Type 1 := (R : Type) → Int → (List (Int × ((List Int) × (Bool × ((List Int) × Unit))))) → Int → Int → (Int × ((List Int) × (Bool × ((List Int) × Unit)))) → (Bool → (Int × ((List Int) × (Bool × ((List Int) × Unit)))) → Option R) → ((Int × ((List Int) × (Bool × ((List Int) × Unit)))) → Option R) → Option R
def le40_2 (L : LT40_2) : LEnt := ⟨2, [.val 1 (.int .i64), .fix 4 (.ptr 0 [] (.pair (.int .i64) (.pair (.arr 32 (.int .u8)) (.pair .bool (.pair (.arr 32 (.int .u8)) .unit))))), .val 8 (.sl (.pair (.int .i64) (.pair (.arr 32 (.int .u8)) (.pair .bool (.pair (.arr 32 (.int .u8)) .unit))))), .val 9 (.int .i64), .val 10 (.int .i64), .var 0 (.pair (.int .i64) (.pair (.arr 32 (.int .u8)) (.pair .bool (.pair (.arr 32 (.int .u8)) .unit)))) false], 1, [(.ret, [.fix 4 (.ptr 0 [] (.pair (.int .i64) (.pair (.arr 32 (.int .u8)) (.pair .bool (.pair (.arr 32 (.int .u8)) .unit))))), .val 5 .bool, .var 0 (.pair (.int .i64) (.pair (.arr 32 (.int .u8)) (.pair .bool (.pair (.arr 32 (.int .u8)) .unit)))) false]), (.exit 0, [.fix 4 (.ptr 0 [] (.pair (.int .i64) (.pair (.arr 32 (.int .u8)) (.pair .bool (.pair (.arr 32 (.int .u8)) .unit))))), .var 0 (.pair (.int .i64) (.pair (.arr 32 (.int .u8)) (.pair .bool (.pair (.arr 32 (.int .u8)) .unit)))) false])], fun R x ke => L R x.1 x.2.1 x.2.2.1 x.2.2.2.1 x.2.2.2.2.1 (fun y1 y2 => ke.1 (y1, y2, ())) (fun y1 => ke.2.1 (y1, ()))⟩
def e40 (L2 : LT40_2) (R : Type) : Env R := ⟨TT, EQT, 0, 21, ownOf [], callOf [] R, loopOf [le40_2 L2] R, []⟩
def p40_2 : (R : Type) → Int → (List (Int × ((List Int) × (Bool × ((List Int) × Unit))))) → Int → Int → (Int × ((List Int) × (Bool × ((List Int) × Unit)))) → (Int → (List (Int × ((List Int) × (Bool × ((List Int) × Unit))))) → Int → Int → (Int × ((List Int) × (Bool × ((List Int) × Unit)))) → Option R) → (Bool → (Int × ((List Int) × (Bool × ((List Int) × Unit)))) → Option R) → ((Int × ((List Int) × (Bool × ((List Int) × Unit)))) → Option R) → Option R := fun R x1 x2 x3 x4 x5 kc k0 k1 =>
let v6 : Bool := (decide (x4 < x3));
(match v6 with
| true => (match (bnd x4 (List.length x2 : Int)) with
| true => let v7 : (Int × ((List Int) × (Bool × ((List Int) × Unit)))) := (List.getD x2 (Int.toNat x4) ((0 : Int), (List.replicate 32 (0 : Int)), false, (List.replicate 32 (0 : Int)), ()));
let v8 : Bool := (v7.1 == x1);
(match v8 with
| true => k0 true v7
| false => let v9 : Int := (IntKind.i64.wrap (x4 + (1 : Int)));
kc x1 x2 x3 v9 x5)
| false => none)
| false => k1 x5)
theorem q40_2 (L2 : LT40_2) (R : Type) (x : HT (le40_2 L2).H) (kc : HT (le40_2 L2).H → Option R) (ke : KT R (le40_2 L2).exs) :
  exec (e40 L2 R) (lcode 2 (codeOf Try.f40)) (stOf (le40_2 L2).H x 1) (roundK (le40_2 L2).H (le40_2 L2).exs kc ke) =
    p40_2 R x.1 x.2.1 x.2.2.1 x.2.2.2.1 x.2.2.2.2.1 (fun x1 x2 x3 x4 x5 => kc (x1, x2, x3, x4, x5, ())) (fun y1 y2 => ke.1 (y1, y2, ())) (fun y1 => ke.2.1 (y1, ())) := by kernel_rfl
noncomputable def G40_2 : Nat → LT40_2
  | 0 => fun _ _ _ _ _ _ _ _ => none
  | n + 1 => fun R x1 x2 x3 x4 x5 k0 k1 => p40_2 R x1 x2 x3 x4 x5 (fun x1 x2 x3 x4 x5 => G40_2 n R x1 x2 x3 x4 x5 k0 k1) k0 k1
def p40 (L2 : LT40_2) : FT40 := fun R a0 a1 k =>
let v1 : Int := (List.length a0 : Int);
L2 R a1 a0 v1 (0 : Int) ((0 : Int), (List.replicate 32 (0 : Int)), false, (List.replicate 32 (0 : Int)), ()) (fun x2 x3 =>
k x3 x2) (fun x4 =>
k ((0 : Int), (List.replicate 32 (0 : Int)), false, (List.replicate 32 (0 : Int)), ()) false)
theorem q40 (L2 : LT40_2) (F : FT40) (R : Type) (x : AT (en40 F).ins) (k : RT (en40 F).outs → PT (en40 F).ins → Option R) :
  xfun (e40 L2 R) (codeOf Try.f40) res40 (avs (en40 F).ins x) (finK (en40 F).outs (en40 F).ins k) = p40 L2 R x.1 x.2.1 (fun y1 y2 => k (y1, y2, ()) ()) := by kernel_rfl
noncomputable def F40 : FT40 := p40 (G40_2 FUEL)
theorem env40 (R : Type) : EnvOK Try.prog (e40 (G40_2 FUEL) R) := ⟨tabOK, eqOK, callOf_ok allE_nil, noIns⟩
noncomputable def T40_2 : (R : Type) → HT (le40_2 (G40_2 FUEL)).H → (HT (le40_2 (G40_2 FUEL)).H → Option R) → KT R (le40_2 (G40_2 FUEL)).exs → Option R := fun R x kc ke => p40_2 R x.1 x.2.1 x.2.2.1 x.2.2.2.1 x.2.2.2.2.1 (fun x1 x2 x3 x4 x5 => kc (x1, x2, x3, x4, x5, ())) (fun y1 y2 => ke.1 (y1, y2, ())) (fun y1 => ke.2.1 (y1, ()))
theorem it40_2 : ∀ (n : Nat) (R : Type) (x : HT (le40_2 (G40_2 FUEL)).H) (ke : KT R (le40_2 (G40_2 FUEL)).exs), iter T40_2 n R x ke = G40_2 n R x.1 x.2.1 x.2.2.1 x.2.2.2.1 x.2.2.2.2.1 (fun y1 y2 => ke.1 (y1, y2, ())) (fun y1 => ke.2.1 (y1, ())) := by
  intro n
  induction n with
  | zero => intro R x ke; rfl
  | succ n ih =>
    intro R x ke
    show T40_2 R x (fun x' => iter T40_2 n R x' ke) ke = _
    rw [show (fun x' => iter T40_2 n R x' ke) = fun x => G40_2 n R x.1 x.2.1 x.2.2.1 x.2.2.2.1 x.2.2.2.2.1 (fun y1 y2 => ke.1 (y1, y2, ())) (fun y1 => ke.2.1 (y1, ())) from funext fun x' => ih R x' ke]
    rfl
theorem lok40_2 : (le40_2 (G40_2 FUEL)).OK Try.prog 0 21 (lcode 2 (codeOf Try.f40)) := fun R x ke r h =>
  iter_sound (fun R => e40 (G40_2 FUEL) R) 0 21 (fun _ => rfl) (fun _ => rfl) (fun R => env40 R) mixed (by
    intro R
    rw [show loopsOf (lcode 2 (codeOf Try.f40)) = [] from by kernel_rfl]
    exact allM_nil) (T := T40_2) (fun R x kc ke => q40_2 (G40_2 FUEL) R x kc ke) FUEL R x ke r ((it40_2 FUEL R x ke).trans h)
theorem ok40 : (en40 F40).OK Try.prog :=
  ent_ok (Ef := fun R => e40 (G40_2 FUEL) R) (fun R => env40 R) mixed Try.func40 (body := codeOf Try.f40) (by kernel_rfl) (by kernel_rfl) (np := 0) (nt := 21) (fun _ => rfl) (fun _ => rfl) (by kernel_rfl) (res := res40) (by kernel_rfl) (fun _ => rfl) (fun _ => Nat.le_of_ble_eq_true rfl) (by
    intro R
    rw [show loopsOf (codeOf Try.f40) = [lcode 2 (codeOf Try.f40)] from by kernel_rfl]
    exact (allM_cons (loop_ok2 (e := le40_2 (G40_2 FUEL)) rfl rfl lok40_2) allM_nil)) (fun R x k => q40 (G40_2 FUEL) F40 R x k)
/-! drawlot/mix.Xor -/
abbrev FT89 : Type 1 := (R : Type) → (List (List Int)) → ((List Int) → Option R) → Option R
def en89 (F : FT89) : Ent := ⟨89, [(false, (.sl (.arr 32 (.int .u8))))], [(false, (.arr 32 (.int .u8)))], fun R x k => F R x.1 (fun y1 => k (y1, ()) ())⟩
def res89 : List (ResultVar × TypeId × Bool) := [(.cell 2 26, 26, false)]
abbrev LT89_2 : Type 1 := (R : Type) → (List (List Int)) → Int → Int → (List Int) → ((List Int) → Option R) → Option R
def le89_2 (L : LT89_2) : LEnt := ⟨2, [.fix 2 (.ptr 0 [] (.arr 32 (.int .u8))), .val 7 (.sl (.arr 32 (.int .u8))), .val 8 (.int .i64), .val 9 (.int .i64), .var 0 (.arr 32 (.int .u8)) false], 1, [(.exit 0, [.fix 2 (.ptr 0 [] (.arr 32 (.int .u8))), .var 0 (.arr 32 (.int .u8)) false])], fun R x ke => L R x.1 x.2.1 x.2.2.1 x.2.2.2.1 (fun y1 => ke.1 (y1, ()))⟩
abbrev LT89_5 : Type 1 := (R : Type) → (List (List Int)) → Int → Int → (List Int) → Int → (List Int) → ((List (List Int)) → Int → Int → (List Int) → Option R) → Option R
def le89_5 (L : LT89_5) : LEnt := ⟨5, [.fix 2 (.ptr 0 [] (.arr 32 (.int .u8))), .val 7 (.sl (.arr 32 (.int .u8))), .val 8 (.int .i64), .val 9 (.int .i64), .val 13 (.arr 32 (.int .u8)), .val 14 (.int .i64), .var 0 (.arr 32 (.int .u8)) false], 1, [(.exit 2, [.fix 2 (.ptr 0 [] (.arr 32 (.int .u8))), .val 7 (.sl (.arr 32 (.int .u8))), .val 8 (.int .i64), .val 9 (.int .i64), .var 0 (.arr 32 (.int .u8)) false])], fun R x ke => L R x.1 x.2.1 x.2.2.1 x.2.2.2.1 x.2.2.2.2.1 x.2.2.2.2.2.1 (fun y1 y2 y3 y4 => ke.1 (y1, y2, y3, y4, ()))⟩
def e89 (L2 : LT89_2) (L5 : LT89_5) (R : Type) : Env R := ⟨TT, EQT, 0, 27, ownOf [], callOf [] R, loopOf [le89_2 L2, le89_5 L5] R, []⟩
def p89_5 : (R : Type) → (List (List Int)) → Int → Int → (List Int) → Int → (List Int) → ((List (List Int)) → Int → Int → (List Int) → Int → (List Int) → Option R) → ((List (List Int)) → Int → Int → (List Int) → Option R) → Option R := fun R x1 x2 x3 x4 x5 x6 kc k0 =>
let v7 : Bool := (decide (x5 < (32 : Int)));
(match v7 with
| true => (match (bnd x5 (32 : Int)) with
| true => let v8 : Int := (List.getD x4 (Int.toNat x5) (0 : Int));
(match (bnd x5 (32 : Int)) with
| true => let v9 : Int := (List.getD x6 (Int.toNat x5) (0 : Int));
let v10 : Int := (ixor .u8 v9 v8);
(match (bnd x5 (32 : Int)) with
| true => let v11 : (List Int) := (List.set x6 (Int.toNat x5) v10);
let v12 : Int := (IntKind.i64.wrap (x5 + (1 : Int)));
kc x1 x2 x3 x4 v12 v11
| false => none)
| false => none)
| false => none)
| false => k0 x1 x2 x3 x6)
theorem q89_5 (L2 : LT89_2) (L5 : LT89_5) (R : Type) (x : HT (le89_5 L5).H) (kc : HT (le89_5 L5).H → Option R) (ke : KT R (le89_5 L5).exs) :
  exec (e89 L2 L5 R) (lcode 5 (codeOf Try.f89)) (stOf (le89_5 L5).H x 1) (roundK (le89_5 L5).H (le89_5 L5).exs kc ke) =
    p89_5 R x.1 x.2.1 x.2.2.1 x.2.2.2.1 x.2.2.2.2.1 x.2.2.2.2.2.1 (fun x1 x2 x3 x4 x5 x6 => kc (x1, x2, x3, x4, x5, x6, ())) (fun y1 y2 y3 y4 => ke.1 (y1, y2, y3, y4, ())) := by kernel_rfl
noncomputable def G89_5 : Nat → LT89_5
  | 0 => fun _ _ _ _ _ _ _ _ => none
  | n + 1 => fun R x1 x2 x3 x4 x5 x6 k0 => p89_5 R x1 x2 x3 x4 x5 x6 (fun x1 x2 x3 x4 x5 x6 => G89_5 n R x1 x2 x3 x4 x5 x6 k0) k0
def p89_2 (L5 : LT89_5) : (R : Type) → (List (List Int)) → Int → Int → (List Int) → ((List (List Int)) → Int → Int → (List Int) → Option R) → ((List Int) → Option R) → Option R := fun R x1 x2 x3 x4 kc k0 =>
let v5 : Bool := (decide (x3 < x2));
(match v5 with
| true => (match (bnd x3 (List.length x1 : Int)) with
| true => let v6 : (List Int) := (List.getD x1 (Int.toNat x3) (List.replicate 32 (0 : Int)));
L5 R x1 x2 x3 v6 (0 : Int) x4 (fun x7 x8 x9 x10 =>
let v11 : Int := (IntKind.i64.wrap (x9 + (1 : Int)));
kc x7 x8 v11 x10)
| false => none)
| false => k0 x4)
theorem q89_2 (L2 : LT89_2) (L5 : LT89_5) (R : Type) (x : HT (le89_2 L2).H) (kc : HT (le89_2 L2).H → Option R) (ke : KT R (le89_2 L2).exs) :
  exec (e89 L2 L5 R) (lcode 2 (codeOf Try.f89)) (stOf (le89_2 L2).H x 1) (roundK (le89_2 L2).H (le89_2 L2).exs kc ke) =
    p89_2 L5 R x.1 x.2.1 x.2.2.1 x.2.2.2.1 (fun x1 x2 x3 x4 => kc (x1, x2, x3, x4, ())) (fun y1 => ke.1 (y1, ())) := by kernel_rfl
noncomputable def G89_2 : Nat → LT89_2
  | 0 => fun _ _ _ _ _ _ => none
  | n + 1 => fun R x1 x2 x3 x4 k0 => p89_2 (G89_5 FUEL) R x1 x2 x3 x4 (fun x1 x2 x3 x4 => G89_2 n R x1 x2 x3 x4 k0) k0
def p89 (L2 : LT89_2) : FT89 := fun R a0 k =>
let v1 : Int := (List.length a0 : Int);
L2 R a0 v1 (0 : Int) (List.replicate 32 (0 : Int)) (fun x2 =>
k x2)
theorem q89 (L2 : LT89_2) (L5 : LT89_5) (F : FT89) (R : Type) (x : AT (en89 F).ins) (k : RT (en89 F).outs → PT (en89 F).ins → Option R) :
  xfun (e89 L2 L5 R) (codeOf Try.f89) res89 (avs (en89 F).ins x) (finK (en89 F).outs (en89 F).ins k) = p89 L2 R x.1 (fun y1 => k (y1, ()) ()) := by kernel_rfl
noncomputable def F89 : FT89 := p89 (G89_2 FUEL)
theorem env89 (R : Type) : EnvOK Try.prog (e89 (G89_2 FUEL) (G89_5 FUEL) R) := ⟨tabOK, eqOK, callOf_ok allE_nil, noIns⟩
noncomputable def T89_5 : (R : Type) → HT (le89_5 (G89_5 FUEL)).H → (HT (le89_5 (G89_5 FUEL)).H → Option R) → KT R (le89_5 (G89_5 FUEL)).exs → Option R := fun R x kc ke => p89_5 R x.1 x.2.1 x.2.2.1 x.2.2.2.1 x.2.2.2.2.1 x.2.2.2.2.2.1 (fun x1 x2 x3 x4 x5 x6 => kc (x1, x2, x3, x4, x5, x6, ())) (fun y1 y2 y3 y4 => ke.1 (y1, y2, y3, y4, ()))
theorem it89_5 : ∀ (n : Nat) (R : Type) (x : HT (le89_5 (G89_5 FUEL)).H) (ke : KT R (le89_5 (G89_5 FUEL)).exs), iter T89_5 n R x ke = G89_5 n R x.1 x.2.1 x.2.2.1 x.2.2.2.1 x.2.2.2.2.1 x.2.2.2.2.2.1 (fun y1 y2 y3 y4 => ke.1 (y1, y2, y3, y4, ())) := by
  intro n
  induction n with
  | zero => intro R x ke; rfl
  | succ n ih =>
    intro R x ke
    show T89_5 R x (fun x' => iter T89_5 n R x' ke) ke = _
    rw [show (fun x' => iter T89_5 n R x' ke) = fun x => G89_5 n R x.1 x.2.1 x.2.2.1 x.2.2.2.1 x.2.2.2.2.1 x.2.2.2.2.2.1 (fun y1 y2 y3 y4 => ke.1 (y1, y2, y3, y4, ())) from funext fun x' => ih R x' ke]
    rfl
theorem lok89_5 : (le89_5 (G89_5 FUEL)).OK Try.prog 0 27 (lcode 5 (codeOf Try.f89)) := fun R x ke r h =>
  iter_sound (fun R => e89 (G89_2 FUEL) (G89_5 FUEL) R) 0 27 (fun _ => rfl) (fun _ => rfl) (fun R => env89 R) mixed (by
    intro R
    rw [show loopsOf (lcode 5 (codeOf Try.f89)) = [] from by kernel_rfl]
    exact allM_nil) (T := T89_5) (fun R x kc ke => q89_5 (G89_2 FUEL) (G89_5 FUEL) R x kc ke) FUEL R x ke r ((it89_5 FUEL R x ke).trans h)
noncomputable def T89_2 : (R : Type) → HT (le89_2 (G89_2 FUEL)).H → (HT (le89_2 (G89_2 FUEL)).H → Option R) → KT R (le89_2 (G89_2 FUEL)).exs → Option R := fun R x kc ke => p89_2 (G89_5 FUEL) R x.1 x.2.1 x.2.2.1 x.2.2.2.1 (fun x1 x2 x3 x4 => kc (x1, x2, x3, x4, ())) (fun y1 => ke.1 (y1, ()))
theorem it89_2 : ∀ (n : Nat) (R : Type) (x : HT (le89_2 (G89_2 FUEL)).H) (ke : KT R (le89_2 (G89_2 FUEL)).exs), iter T89_2 n R x ke = G89_2 n R x.1 x.2.1 x.2.2.1 x.2.2.2.1 (fun y1 => ke.1 (y1, ())) := by
  intro n
  induction n with
  | zero => intro R x ke; rfl
  | succ n ih =>
    intro R x ke
    show T89_2 R x (fun x' => iter T89_2 n R x' ke) ke = _
    rw [show (fun x' => iter T89_2 n R x' ke) = fun x => G89_2 n R x.1 x.2.1 x.2.2.1 x.2.2.2.1 (fun y1 => ke.1 (y1, ())) from funext fun x' => ih R x' ke]
    rfl
theorem lok89_2 : (le89_2 (G89_2 FUEL)).OK Try.prog 0 27 (lcode 2 (codeOf Try.f89)) := fun R x ke r h =>
  iter_sound (fun R => e89 (G89_2 FUEL) (G89_5 FUEL) R) 0 27 (fun _ => rfl) (fun _ => rfl) (fun R => env89 R) mixed (by
    intro R
    rw [show loopsOf (lcode 2 (codeOf Try.f89)) = [lcode 5 (codeOf Try.f89)] from by kernel_rfl]
    exact (allM_cons (loop_ok2 (e := le89_5 (G89_5 FUEL)) rfl rfl lok89_5) allM_nil)) (T := T89_2) (fun R x kc ke => q89_2 (G89_2 FUEL) (G89_5 FUEL) R x kc ke) FUEL R x ke r ((it89_2 FUEL R x ke).trans h)
theorem ok89 : (en89 F89).OK Try.prog :=
  ent_ok (Ef := fun R => e89 (G89_2 FUEL) (G89_5 FUEL) R) (fun R => env89 R) mixed Try.func89 (body := codeOf Try.f89) (by kernel_rfl) (by kernel_rfl) (np := 0) (nt := 27) (fun _ => rfl) (fun _ => rfl) (by kernel_rfl) (res := res89) (by kernel_rfl) (fun _ => rfl) (fun _ => Nat.le_of_ble_eq_true rfl) (by
    intro R
    rw [show loopsOf (codeOf Try.f89) = [lcode 2 (codeOf Try.f89)] from by kernel_rfl]
    exact (allM_cons (loop_ok2 (e := le89_2 (G89_2 FUEL)) rfl rfl lok89_2) allM_nil)) (fun R x k => q89 (G89_2 FUEL) (G89_5 FUEL) F89 R x k)
/-! drawlot/commit.Mix -/
abbrev FT44 : Type 1 := (R : Type) → (List (Int × ((List Int) × (Bool × ((List Int) × Unit))))) → ((List Int) → Option R) → Option R
def en44 (F : FT44) : Ent := ⟨44, [(false, (.sl (.pair (.int .i64) (.pair (.arr 32 (.int .u8)) (.pair .bool (.pair (.arr 32 (.int .u8)) .unit))))))], [(false, (.arr 32 (.int .u8)))], fun R x k => F R x.1 (fun y1 => k (y1, ()) ())⟩
def res44 : List (ResultVar × TypeId × Bool) := [(.cell 2 26, 26, false)]
abbrev LT44_2 : Type 1 := (R : Type) → (List (Int × ((List Int) × (Bool × ((List Int) × Unit))))) → Int → Int → (List Int) → ((List Int) → Option R) → Option R
def le44_2 (L : LT44_2) : LEnt := ⟨2, [.fix 2 (.ptr 0 [] (.arr 32 (.int .u8))), .val 5 (.sl (.pair (.int .i64) (.pair (.arr 32 (.int .u8)) (.pair .bool (.pair (.arr 32 (.int .u8)) .unit))))), .val 6 (.int .i64), .val 7 (.int .i64), .var 0 (.arr 32 (.int .u8)) false], 1, [(.exit 0, [.fix 2 (.ptr 0 [] (.arr 32 (.int .u8))), .var 0 (.arr 32 (.int .u8)) false])], fun R x ke => L R x.1 x.2.1 x.2.2.1 x.2.2.2.1 (fun y1 => ke.1 (y1, ()))⟩
def e44 (F89 : FT89) (L2 : LT44_2) (R : Type) : Env R := ⟨TT, EQT, 0, 20, ownOf [], callOf [en89 F89] R, loopOf [le44_2 L2] R, []⟩
def p44_2 (F89 : FT89) : (R : Type) → (List (Int × ((List Int) × (Bool × ((List Int) × Unit))))) → Int → Int → (List Int) → ((List (Int × ((List Int) × (Bool × ((List Int) × Unit))))) → Int → Int → (List Int) → Option R) → ((List Int) → Option R) → Option R := fun R x1 x2 x3 x4 kc k0 =>
let v5 : Bool := (decide (x3 < x2));
(match v5 with
| true => (match (bnd x3 (List.length x1 : Int)) with
| true => let v6 : (Int × ((List Int) × (Bool × ((List Int) × Unit)))) := (List.getD x1 (Int.toNat x3) ((0 : Int), (List.replicate 32 (0 : Int)), false, (List.replicate 32 (0 : Int)), ()));
(match v6.2.2.1 with
| true => let v7 : (List (List Int)) := ([x4, v6.2.2.2.1] : (List (List Int)));
F89 R v7 fun y8 =>
let v9 : Int := (IntKind.i64.wrap (x3 + (1 : Int)));
kc x1 x2 v9 y8
| false => let v10 : Int := (IntKind.i64.wrap (x3 + (1 : Int)));
kc x1 x2 v10 x4)
| false => none)
| false => k0 x4)
theorem q44_2 (F89 : FT89) (L2 : LT44_2) (R : Type) (x : HT (le44_2 L2).H) (kc : HT (le44_2 L2).H → Option R) (ke : KT R (le44_2 L2).exs) :
  exec (e44 F89 L2 R) (lcode 2 (codeOf Try.f44)) (stOf (le44_2 L2).H x 1) (roundK (le44_2 L2).H (le44_2 L2).exs kc ke) =
    p44_2 F89 R x.1 x.2.1 x.2.2.1 x.2.2.2.1 (fun x1 x2 x3 x4 => kc (x1, x2, x3, x4, ())) (fun y1 => ke.1 (y1, ())) := by kernel_rfl
noncomputable def G44_2 : Nat → LT44_2
  | 0 => fun _ _ _ _ _ _ => none
  | n + 1 => fun R x1 x2 x3 x4 k0 => p44_2 F89 R x1 x2 x3 x4 (fun x1 x2 x3 x4 => G44_2 n R x1 x2 x3 x4 k0) k0
def p44 (L2 : LT44_2) : FT44 := fun R a0 k =>
let v1 : Int := (List.length a0 : Int);
L2 R a0 v1 (0 : Int) (List.replicate 32 (0 : Int)) (fun x2 =>
k x2)
theorem q44 (F89 : FT89) (L2 : LT44_2) (F : FT44) (R : Type) (x : AT (en44 F).ins) (k : RT (en44 F).outs → PT (en44 F).ins → Option R) :
  xfun (e44 F89 L2 R) (codeOf Try.f44) res44 (avs (en44 F).ins x) (finK (en44 F).outs (en44 F).ins k) = p44 L2 R x.1 (fun y1 => k (y1, ()) ()) := by kernel_rfl
noncomputable def F44 : FT44 := p44 (G44_2 FUEL)
theorem env44 (R : Type) : EnvOK Try.prog (e44 F89 (G44_2 FUEL) R) := ⟨tabOK, eqOK, callOf_ok (allE_cons ok89 allE_nil), noIns⟩
noncomputable def T44_2 : (R : Type) → HT (le44_2 (G44_2 FUEL)).H → (HT (le44_2 (G44_2 FUEL)).H → Option R) → KT R (le44_2 (G44_2 FUEL)).exs → Option R := fun R x kc ke => p44_2 F89 R x.1 x.2.1 x.2.2.1 x.2.2.2.1 (fun x1 x2 x3 x4 => kc (x1, x2, x3, x4, ())) (fun y1 => ke.1 (y1, ()))
theorem it44_2 : ∀ (n : Nat) (R : Type) (x : HT (le44_2 (G44_2 FUEL)).H) (ke : KT R (le44_2 (G44_2 FUEL)).exs), iter T44_2 n R x ke = G44_2 n R x.1 x.2.1 x.2.2.1 x.2.2.2.1 (fun y1 => ke.1 (y1, ())) := by
  intro n
  induction n with
  | zero => intro R x ke; rfl
  | succ n ih =>
    intro R x ke
    show T44_2 R x (fun x' => iter T44_2 n R x' ke) ke = _
    rw [show (fun x' => iter T44_2 n R x' ke) = fun x => G44_2 n R x.1 x.2.1 x.2.2.1 x.2.2.2.1 (fun y1 => ke.1 (y1, ())) from funext fun x' => ih R x' ke]
    rfl
theorem lok44_2 : (le44_2 (G44_2 FUEL)).OK Try.prog 0 20 (lcode 2 (codeOf Try.f44)) := fun R x ke r h =>
  iter_sound (fun R => e44 F89 (G44_2 FUEL) R) 0 20 (fun _ => rfl) (fun _ => rfl) (fun R => env44 R) mixed (by
    intro R
    rw [show loopsOf (lcode 2 (codeOf Try.f44)) = [] from by kernel_rfl]
    exact allM_nil) (T := T44_2) (fun R x kc ke => q44_2 F89 (G44_2 FUEL) R x kc ke) FUEL R x ke r ((it44_2 FUEL R x ke).trans h)
theorem ok44 : (en44 F44).OK Try.prog :=
  ent_ok (Ef := fun R => e44 F89 (G44_2 FUEL) R) (fun R => env44 R) mixed Try.func44 (body := codeOf Try.f44) (by kernel_rfl) (by kernel_rfl) (np := 0) (nt := 20) (fun _ => rfl) (fun _ => rfl) (by kernel_rfl) (res := res44) (by kernel_rfl) (fun _ => rfl) (fun _ => Nat.le_of_ble_eq_true rfl) (by
    intro R
    rw [show loopsOf (codeOf Try.f44) = [lcode 2 (codeOf Try.f44)] from by kernel_rfl]
    exact (allM_cons (loop_ok2 (e := le44_2 (G44_2 FUEL)) rfl rfl lok44_2) allM_nil)) (fun R x k => q44 F89 (G44_2 FUEL) F44 R x k)
/-! drawlot/commit.Missed -/
abbrev FT47 : Type 1 := (R : Type) → (List (Int × ((List Int) × (Bool × ((List Int) × Unit))))) → ((List Int) → Option R) → Option R
def en47 (F : FT47) : Ent := ⟨47, [(false, (.sl (.pair (.int .i64) (.pair (.arr 32 (.int .u8)) (.pair .bool (.pair (.arr 32 (.int .u8)) .unit))))))], [(false, (.sl (.int .i64)))], fun R x k => F R x.1 (fun y1 => k (y1, ()) ())⟩
def res47 : List (ResultVar × TypeId × Bool) := [(.tmp 2, 69, false)]
abbrev LT47_2 : Type 1 := (R : Type) → (List (Int × ((List Int) × (Bool × ((List Int) × Unit))))) → Int → Int → (List Int) → ((List Int) → Option R) → Option R
def le47_2 (L : LT47_2) : LEnt := ⟨2, [.fix 2 (.own 0 0), .val 5 (.sl (.pair (.int .i64) (.pair (.arr 32 (.int .u8)) (.pair .bool (.pair (.arr 32 (.int .u8)) .unit))))), .val 6 (.int .i64), .val 7 (.int .i64), .row 0 (.int .i64) false], 1, [(.exit 0, [.fix 2 (.own 0 0), .row 0 (.int .i64) false])], fun R x ke => L R x.1 x.2.1 x.2.2.1 x.2.2.2.1 (fun y1 => ke.1 (y1, ()))⟩
def e47 (L2 : LT47_2) (R : Type) : Env R := ⟨TT, EQT, 0, 21, ownOf [(0, 0)], callOf [] R, loopOf [le47_2 L2] R, []⟩
def p47_2 : (R : Type) → (List (Int × ((List Int) × (Bool × ((List Int) × Unit))))) → Int → Int → (List Int) → ((List (Int × ((List Int) × (Bool × ((List Int) × Unit))))) → Int → Int → (List Int) → Option R) → ((List Int) → Option R) → Option R := fun R x1 x2 x3 x4 kc k0 =>
let v5 : Bool := (decide (x3 < x2));
(match v5 with
| true => (match (bnd x3 (List.length x1 : Int)) with
| true => let v6 : (Int × ((List Int) × (Bool × ((List Int) × Unit)))) := (List.getD x1 (Int.toNat x3) ((0 : Int), (List.replicate 32 (0 : Int)), false, (List.replicate 32 (0 : Int)), ()));
let v7 : Bool := (!v6.2.2.1);
(match v7 with
| true => let v8 : (List Int) := ([v6.1] : (List Int));
(match (decide (List.length x4 + List.length v8 ≤ 17592186044416)) with
| true => let v9 : (List Int) := (x4 ++ v8);
let v10 : Int := (IntKind.i64.wrap (x3 + (1 : Int)));
kc x1 x2 v10 v9
| false => none)
| false => let v11 : Int := (IntKind.i64.wrap (x3 + (1 : Int)));
kc x1 x2 v11 x4)
| false => none)
| false => k0 x4)
theorem q47_2 (L2 : LT47_2) (R : Type) (x : HT (le47_2 L2).H) (kc : HT (le47_2 L2).H → Option R) (ke : KT R (le47_2 L2).exs) :
  exec (e47 L2 R) (lcode 2 (codeOf Try.f47)) (stOf (le47_2 L2).H x 1) (roundK (le47_2 L2).H (le47_2 L2).exs kc ke) =
    p47_2 R x.1 x.2.1 x.2.2.1 x.2.2.2.1 (fun x1 x2 x3 x4 => kc (x1, x2, x3, x4, ())) (fun y1 => ke.1 (y1, ())) := by kernel_rfl
noncomputable def G47_2 : Nat → LT47_2
  | 0 => fun _ _ _ _ _ _ => none
  | n + 1 => fun R x1 x2 x3 x4 k0 => p47_2 R x1 x2 x3 x4 (fun x1 x2 x3 x4 => G47_2 n R x1 x2 x3 x4 k0) k0
def p47 (L2 : LT47_2) : FT47 := fun R a0 k =>
let v1 : Int := (List.length a0 : Int);
L2 R a0 v1 (0 : Int) ([] : (List Int)) (fun x2 =>
k x2)
theorem q47 (L2 : LT47_2) (F : FT47) (R : Type) (x : AT (en47 F).ins) (k : RT (en47 F).outs → PT (en47 F).ins → Option R) :
  xfun (e47 L2 R) (codeOf Try.f47) res47 (avs (en47 F).ins x) (finK (en47 F).outs (en47 F).ins k) = p47 L2 R x.1 (fun y1 => k (y1, ()) ()) := by kernel_rfl
noncomputable def F47 : FT47 := p47 (G47_2 FUEL)
theorem env47 (R : Type) : EnvOK Try.prog (e47 (G47_2 FUEL) R) := ⟨tabOK, eqOK, callOf_ok allE_nil, noIns⟩
noncomputable def T47_2 : (R : Type) → HT (le47_2 (G47_2 FUEL)).H → (HT (le47_2 (G47_2 FUEL)).H → Option R) → KT R (le47_2 (G47_2 FUEL)).exs → Option R := fun R x kc ke => p47_2 R x.1 x.2.1 x.2.2.1 x.2.2.2.1 (fun x1 x2 x3 x4 => kc (x1, x2, x3, x4, ())) (fun y1 => ke.1 (y1, ()))
theorem it47_2 : ∀ (n : Nat) (R : Type) (x : HT (le47_2 (G47_2 FUEL)).H) (ke : KT R (le47_2 (G47_2 FUEL)).exs), iter T47_2 n R x ke = G47_2 n R x.1 x.2.1 x.2.2.1 x.2.2.2.1 (fun y1 => ke.1 (y1, ())) := by
  intro n
  induction n with
  | zero => intro R x ke; rfl
  | succ n ih =>
    intro R x ke
    show T47_2 R x (fun x' => iter T47_2 n R x' ke) ke = _
    rw [show (fun x' => iter T47_2 n R x' ke) = fun x => G47_2 n R x.1 x.2.1 x.2.2.1 x.2.2.2.1 (fun y1 => ke.1 (y1, ())) from funext fun x' => ih R x' ke]
    rfl
theorem lok47_2 : (le47_2 (G47_2 FUEL)).OK Try.prog 0 21 (lcode 2 (codeOf Try.f47)) := fun R x ke r h =>
  iter_sound (fun R => e47 (G47_2 FUEL) R) 0 21 (fun _ => rfl) (fun _ => rfl) (fun R => env47 R) mixed (by
    intro R
    rw [show loopsOf (lcode 2 (codeOf Try.f47)) = [] from by kernel_rfl]
    exact allM_nil) (T := T47_2) (fun R x kc ke => q47_2 (G47_2 FUEL) R x kc ke) FUEL R x ke r ((it47_2 FUEL R x ke).trans h)
theorem ok47 : (en47 F47).OK Try.prog :=
  ent_ok (Ef := fun R => e47 (G47_2 FUEL) R) (fun R => env47 R) mixed Try.func47 (body := codeOf Try.f47) (by kernel_rfl) (by kernel_rfl) (np := 0) (nt := 21) (fun _ => rfl) (fun _ => rfl) (by kernel_rfl) (res := res47) (by kernel_rfl) (fun _ => rfl) (fun _ => Nat.le_of_ble_eq_true rfl) (by
    intro R
    rw [show loopsOf (codeOf Try.f47) = [lcode 2 (codeOf Try.f47)] from by kernel_rfl]
    exact (allM_cons (loop_ok2 (e := le47_2 (G47_2 FUEL)) rfl rfl lok47_2) allM_nil)) (fun R x k => q47 (G47_2 FUEL) F47 R x k)
/-! drawlot/drawlotref17.Same -/
abbrev FT46 : Type 1 := (R : Type) → (List Int) → (List Int) → (Bool → Option R) → Option R
def en46 (F : FT46) : Ent := ⟨46, [(false, (.sl (.int .i64))), (false, (.sl (.int .i64)))], [(false, .bool)], fun R x k => F R x.1 x.2.1 (fun y1 => k (y1, ()) ())⟩
def res46 : List (ResultVar × TypeId × Bool) := [(.tmp 4, 4, false)]
abbrev LT46_4 : Type 1 := (R : Type) → (List Int) → (List Int) → Int → (Bool → Option R) → (Option R) → Option R
def le46_4 (L : LT46_4) : LEnt := ⟨4, [.val 0 (.sl (.int .i64)), .val 1 (.sl (.int .i64)), .val 5 (.int .i64)], 0, [(.ret, [.val 4 .bool]), (.exit 0, [])], fun R x ke => L R x.1 x.2.1 x.2.2.1 (fun y1 => ke.1 (y1, ())) (ke.2.1 ())⟩
def e46 (L4 : LT46_4) (R : Type) : Env R := ⟨TT, EQT, 0, 26, ownOf [], callOf [] R, loopOf [le46_4 L4] R, []⟩
def p46_4 : (R : Type) → (List Int) → (List Int) → Int → ((List Int) → (List Int) → Int → Option R) → (Bool → Option R) → (Option R) → Option R := fun R x1 x2 x3 kc k0 k1 =>
let v4 : Int := (List.length x1 : Int);
let v5 : Bool := (decide (x3 < v4));
(match v5 with
| true => (match (bnd x3 (List.length x1 : Int)) with
| true => let v6 : Int := (List.getD x1 (Int.toNat x3) (0 : Int));
(match (bnd x3 (List.length x2 : Int)) with
| true => let v7 : Int := (List.getD x2 (Int.toNat x3) (0 : Int));
let v8 : Bool := (v6 != v7);
(match v8 with
| true => k0 false
| false => let v9 : Int := (IntKind.i64.wrap (x3 + (1 : Int)));
kc x1 x2 v9)
| false => none)
| false => none)
| false => k1)
theorem q46_4 (L4 : LT46_4) (R : Type) (x : HT (le46_4 L4).H) (kc : HT (le46_4 L4).H → Option R) (ke : KT R (le46_4 L4).exs) :
  exec (e46 L4 R) (lcode 4 (codeOf Try.f46)) (stOf (le46_4 L4).H x 0) (roundK (le46_4 L4).H (le46_4 L4).exs kc ke) =
    p46_4 R x.1 x.2.1 x.2.2.1 (fun x1 x2 x3 => kc (x1, x2, x3, ())) (fun y1 => ke.1 (y1, ())) (ke.2.1 ()) := by kernel_rfl
noncomputable def G46_4 : Nat → LT46_4
  | 0 => fun _ _ _ _ _ _ => none
  | n + 1 => fun R x1 x2 x3 k0 k1 => p46_4 R x1 x2 x3 (fun x1 x2 x3 => G46_4 n R x1 x2 x3 k0 k1) k0 k1
def p46 (L4 : LT46_4) : FT46 := fun R a0 a1 k =>
let v1 : Int := (List.length a0 : Int);
let v2 : Int := (List.length a1 : Int);
let v3 : Bool := (v1 != v2);
(match v3 with
| true => k false
| false => L4 R a0 a1 (0 : Int) (fun x4 =>
k x4) (k true))
theorem q46 (L4 : LT46_4) (F : FT46) (R : Type) (x : AT (en46 F).ins) (k : RT (en46 F).outs → PT (en46 F).ins → Option R) :
  xfun (e46 L4 R) (codeOf Try.f46) res46 (avs (en46 F).ins x) (finK (en46 F).outs (en46 F).ins k) = p46 L4 R x.1 x.2.1 (fun y1 => k (y1, ()) ()) := by kernel_rfl
noncomputable def F46 : FT46 := p46 (G46_4 FUEL)
theorem env46 (R : Type) : EnvOK Try.prog (e46 (G46_4 FUEL) R) := ⟨tabOK, eqOK, callOf_ok allE_nil, noIns⟩
noncomputable def T46_4 : (R : Type) → HT (le46_4 (G46_4 FUEL)).H → (HT (le46_4 (G46_4 FUEL)).H → Option R) → KT R (le46_4 (G46_4 FUEL)).exs → Option R := fun R x kc ke => p46_4 R x.1 x.2.1 x.2.2.1 (fun x1 x2 x3 => kc (x1, x2, x3, ())) (fun y1 => ke.1 (y1, ())) (ke.2.1 ())
theorem it46_4 : ∀ (n : Nat) (R : Type) (x : HT (le46_4 (G46_4 FUEL)).H) (ke : KT R (le46_4 (G46_4 FUEL)).exs), iter T46_4 n R x ke = G46_4 n R x.1 x.2.1 x.2.2.1 (fun y1 => ke.1 (y1, ())) (ke.2.1 ()) := by
  intro n
  induction n with
  | zero => intro R x ke; rfl
  | succ n ih =>
    intro R x ke
    show T46_4 R x (fun x' => iter T46_4 n R x' ke) ke = _
    rw [show (fun x' => iter T46_4 n R x' ke) = fun x => G46_4 n R x.1 x.2.1 x.2.2.1 (fun y1 => ke.1 (y1, ())) (ke.2.1 ()) from funext fun x' => ih R x' ke]
    rfl
theorem lok46_4 : (le46_4 (G46_4 FUEL)).OK Try.prog 0 26 (lcode 4 (codeOf Try.f46)) := fun R x ke r h =>
  iter_sound (fun R => e46 (G46_4 FUEL) R) 0 26 (fun _ => rfl) (fun _ => rfl) (fun R => env46 R) mixed (by
    intro R
    rw [show loopsOf (lcode 4 (codeOf Try.f46)) = [] from by kernel_rfl]
    exact allM_nil) (T := T46_4) (fun R x kc ke => q46_4 (G46_4 FUEL) R x kc ke) FUEL R x ke r ((it46_4 FUEL R x ke).trans h)
theorem ok46 : (en46 F46).OK Try.prog :=
  ent_ok (Ef := fun R => e46 (G46_4 FUEL) R) (fun R => env46 R) mixed Try.func46 (body := codeOf Try.f46) (by kernel_rfl) (by kernel_rfl) (np := 0) (nt := 26) (fun _ => rfl) (fun _ => rfl) (by kernel_rfl) (res := res46) (by kernel_rfl) (fun _ => rfl) (fun _ => Nat.le_of_ble_eq_true rfl) (by
    intro R
    rw [show loopsOf (codeOf Try.f46) = [lcode 4 (codeOf Try.f46)] from by kernel_rfl]
    exact (allM_cons (loop_ok2 (e := le46_4 (G46_4 FUEL)) rfl rfl lok46_4) allM_nil)) (fun R x k => q46 (G46_4 FUEL) F46 R x k)
/-! slices.Equal[[]drawlot/api.Commit,drawlot/api.Commit] -/
abbrev FT90 : Type 1 := (R : Type) → (List (Int × ((List Int) × (Bool × ((List Int) × Unit))))) → (List (Int × ((List Int) × (Bool × ((List Int) × Unit))))) → (Bool → Option R) → Option R
def en90 (F : FT90) : Ent := ⟨90, [(false, (.sl (.pair (.int .i64) (.pair (.arr 32 (.int .u8)) (.pair .bool (.pair (.arr 32 (.int .u8)) .unit)))))), (false, (.sl (.pair (.int .i64) (.pair (.arr 32 (.int .u8)) (.pair .bool (.pair (.arr 32 (.int .u8)) .unit))))))], [(false, .bool)], fun R x k => F R x.1 x.2.1 (fun y1 => k (y1, ()) ())⟩
def res90 : List (ResultVar × TypeId × Bool) := [(.tmp 4, 4, false)]
abbrev LT90_4 : Type 1 := (R : Type) → (List (Int × ((List Int) × (Bool × ((List Int) × Unit))))) → (List (Int × ((List Int) × (Bool × ((List Int) × Unit))))) → Int → Int → (Bool → Option R) → (Option R) → Option R
def le90_4 (L : LT90_4) : LEnt := ⟨4, [.val 0 (.sl (.pair (.int .i64) (.pair (.arr 32 (.int .u8)) (.pair .bool (.pair (.arr 32 (.int .u8)) .unit))))), .val 1 (.sl (.pair (.int .i64) (.pair (.arr 32 (.int .u8)) (.pair .bool (.pair (.arr 32 (.int .u8)) .unit))))), .val 12 (.int .i64), .val 13 (.int .i64)], 0, [(.ret, [.val 4 .bool]), (.exit 0, [])], fun R x ke => L R x.1 x.2.1 x.2.2.1 x.2.2.2.1 (fun y1 => ke.1 (y1, ())) (ke.2.1 ())⟩
def e90 (L4 : LT90_4) (R : Type) : Env R := ⟨TT, EQT, 0, 26, ownOf [], callOf [] R, loopOf [le90_4 L4] R, []⟩
def p90_4 : (R : Type) → (List (Int × ((List Int) × (Bool × ((List Int) × Unit))))) → (List (Int × ((List Int) × (Bool × ((List Int) × Unit))))) → Int → Int → ((List (Int × ((List Int) × (Bool × ((List Int) × Unit))))) → (List (Int × ((List Int) × (Bool × ((List Int) × Unit))))) → Int → Int → Option R) → (Bool → Option R) → (Option R) → Option R := fun R x1 x2 x3 x4 kc k0 k1 =>
let v5 : Bool := (decide (x4 < x3));
(match v5 with
| true => (match (bnd x4 (List.length x1 : Int)) with
| true => let v6 : (Int × ((List Int) × (Bool × ((List Int) × Unit)))) := (List.getD x1 (Int.toNat x4) ((0 : Int), (List.replicate 32 (0 : Int)), false, (List.replicate 32 (0 : Int)), ()));
(match (bnd x4 (List.length x2 : Int)) with
| true => let v7 : (Int × ((List Int) × (Bool × ((List Int) × Unit)))) := (List.getD x2 (Int.toNat x4) ((0 : Int), (List.replicate 32 (0 : Int)), false, (List.replicate 32 (0 : Int)), ()));
let v8 : Bool := (!(Kd.eqv (.pair (.int .i64) (.pair (.arr 32 (.int .u8)) (.pair .bool (.pair (.arr 32 (.int .u8)) .unit)))) v6 v7));
(match v8 with
| true => k0 false
| false => let v9 : Int := (IntKind.i64.wrap (x4 + (1 : Int)));
kc x1 x2 x3 v9)
| false => none)
| false => none)
| false => k1)
theorem q90_4 (L4 : LT90_4) (R : Type) (x : HT (le90_4 L4).H) (kc : HT (le90_4 L4).H → Option R) (ke : KT R (le90_4 L4).exs) :
  exec (e90 L4 R) (lcode 4 (codeOf Try.f90)) (stOf (le90_4 L4).H x 0) (roundK (le90_4 L4).H (le90_4 L4).exs kc ke) =
    p90_4 R x.1 x.2.1 x.2.2.1 x.2.2.2.1 (fun x1 x2 x3 x4 => kc (x1, x2, x3, x4, ())) (fun y1 => ke.1 (y1, ())) (ke.2.1 ()) := by kernel_rfl
noncomputable def G90_4 : Nat → LT90_4
  | 0 => fun _ _ _ _ _ _ _ => none
  | n + 1 => fun R x1 x2 x3 x4 k0 k1 => p90_4 R x1 x2 x3 x4 (fun x1 x2 x3 x4 => G90_4 n R x1 x2 x3 x4 k0 k1) k0 k1
def p90 (L4 : LT90_4) : FT90 := fun R a0 a1 k =>
let v1 : Int := (List.length a0 : Int);
let v2 : Int := (List.length a1 : Int);
let v3 : Bool := (v1 != v2);
(match v3 with
| true => k false
| false => let v4 : Int := (List.length a0 : Int);
L4 R a0 a1 v4 (0 : Int) (fun x5 =>
k x5) (k true))
theorem q90 (L4 : LT90_4) (F : FT90) (R : Type) (x : AT (en90 F).ins) (k : RT (en90 F).outs → PT (en90 F).ins → Option R) :
  xfun (e90 L4 R) (codeOf Try.f90) res90 (avs (en90 F).ins x) (finK (en90 F).outs (en90 F).ins k) = p90 L4 R x.1 x.2.1 (fun y1 => k (y1, ()) ()) := by kernel_rfl
noncomputable def F90 : FT90 := p90 (G90_4 FUEL)
theorem env90 (R : Type) : EnvOK Try.prog (e90 (G90_4 FUEL) R) := ⟨tabOK, eqOK, callOf_ok allE_nil, noIns⟩
noncomputable def T90_4 : (R : Type) → HT (le90_4 (G90_4 FUEL)).H → (HT (le90_4 (G90_4 FUEL)).H → Option R) → KT R (le90_4 (G90_4 FUEL)).exs → Option R := fun R x kc ke => p90_4 R x.1 x.2.1 x.2.2.1 x.2.2.2.1 (fun x1 x2 x3 x4 => kc (x1, x2, x3, x4, ())) (fun y1 => ke.1 (y1, ())) (ke.2.1 ())
theorem it90_4 : ∀ (n : Nat) (R : Type) (x : HT (le90_4 (G90_4 FUEL)).H) (ke : KT R (le90_4 (G90_4 FUEL)).exs), iter T90_4 n R x ke = G90_4 n R x.1 x.2.1 x.2.2.1 x.2.2.2.1 (fun y1 => ke.1 (y1, ())) (ke.2.1 ()) := by
  intro n
  induction n with
  | zero => intro R x ke; rfl
  | succ n ih =>
    intro R x ke
    show T90_4 R x (fun x' => iter T90_4 n R x' ke) ke = _
    rw [show (fun x' => iter T90_4 n R x' ke) = fun x => G90_4 n R x.1 x.2.1 x.2.2.1 x.2.2.2.1 (fun y1 => ke.1 (y1, ())) (ke.2.1 ()) from funext fun x' => ih R x' ke]
    rfl
theorem lok90_4 : (le90_4 (G90_4 FUEL)).OK Try.prog 0 26 (lcode 4 (codeOf Try.f90)) := fun R x ke r h =>
  iter_sound (fun R => e90 (G90_4 FUEL) R) 0 26 (fun _ => rfl) (fun _ => rfl) (fun R => env90 R) mixed (by
    intro R
    rw [show loopsOf (lcode 4 (codeOf Try.f90)) = [] from by kernel_rfl]
    exact allM_nil) (T := T90_4) (fun R x kc ke => q90_4 (G90_4 FUEL) R x kc ke) FUEL R x ke r ((it90_4 FUEL R x ke).trans h)
theorem ok90 : (en90 F90).OK Try.prog :=
  ent_ok (Ef := fun R => e90 (G90_4 FUEL) R) (fun R => env90 R) mixed Try.func90 (body := codeOf Try.f90) (by kernel_rfl) (by kernel_rfl) (np := 0) (nt := 26) (fun _ => rfl) (fun _ => rfl) (by kernel_rfl) (res := res90) (by kernel_rfl) (fun _ => rfl) (fun _ => Nat.le_of_ble_eq_true rfl) (by
    intro R
    rw [show loopsOf (codeOf Try.f90) = [lcode 4 (codeOf Try.f90)] from by kernel_rfl]
    exact (allM_cons (loop_ok2 (e := le90_4 (G90_4 FUEL)) rfl rfl lok90_4) allM_nil)) (fun R x k => q90 (G90_4 FUEL) F90 R x k)
/-! drawlot/commit.Same -/
abbrev FT49 : Type 1 := (R : Type) → (List (Int × ((List Int) × (Bool × ((List Int) × Unit))))) → (List (Int × ((List Int) × (Bool × ((List Int) × Unit))))) → (Bool → Option R) → Option R
def en49 (F : FT49) : Ent := ⟨49, [(false, (.sl (.pair (.int .i64) (.pair (.arr 32 (.int .u8)) (.pair .bool (.pair (.arr 32 (.int .u8)) .unit)))))), (false, (.sl (.pair (.int .i64) (.pair (.arr 32 (.int .u8)) (.pair .bool (.pair (.arr 32 (.int .u8)) .unit))))))], [(false, .bool)], fun R x k => F R x.1 x.2.1 (fun y1 => k (y1, ()) ())⟩
def res49 : List (ResultVar × TypeId × Bool) := [(.tmp 4, 4, false)]
def e49 (F90 : FT90) (R : Type) : Env R := ⟨TT, EQT, 0, 8, ownOf [], callOf [en90 F90] R, loopOf [] R, []⟩
def p49 (F90 : FT90) : FT49 := fun R a0 a1 k =>
F90 R a0 a1 fun y1 =>
k y1
theorem q49 (F90 : FT90) (F : FT49) (R : Type) (x : AT (en49 F).ins) (k : RT (en49 F).outs → PT (en49 F).ins → Option R) :
  xfun (e49 F90 R) (codeOf Try.f49) res49 (avs (en49 F).ins x) (finK (en49 F).outs (en49 F).ins k) = p49 F90 R x.1 x.2.1 (fun y1 => k (y1, ()) ()) := by kernel_rfl
noncomputable def F49 : FT49 := p49 F90
theorem env49 (R : Type) : EnvOK Try.prog (e49 F90 R) := ⟨tabOK, eqOK, callOf_ok (allE_cons ok90 allE_nil), noIns⟩
theorem ok49 : (en49 F49).OK Try.prog :=
  ent_ok (Ef := fun R => e49 F90 R) (fun R => env49 R) mixed Try.func49 (body := codeOf Try.f49) (by kernel_rfl) (by kernel_rfl) (np := 0) (nt := 8) (fun _ => rfl) (fun _ => rfl) (by kernel_rfl) (res := res49) (by kernel_rfl) (fun _ => rfl) (fun _ => Nat.le_of_ble_eq_true rfl) (by
    intro R
    rw [show loopsOf (codeOf Try.f49) = [] from by kernel_rfl]
    exact allM_nil) (fun R x k => q49 F90 F49 R x k)
/-! drawlot/drawlotlaw20.alive -/
abbrev FT34 : Type 1 := (R : Type) → (Bool → Option R) → Option R
def en34 (F : FT34) : Ent := ⟨34, [], [(false, .bool)], fun R x k => F R  (fun y1 => k (y1, ()) ())⟩
def res34 : List (ResultVar × TypeId × Bool) := [(.tmp 0, 4, false)]
def e34 (F35 : FT35) (F37 : FT37) (F40 : FT40) (F42 : FT42) (F44 : FT44) (F46 : FT46) (F47 : FT47) (F49 : FT49) (F50 : FT50) (R : Type) : Env R := ⟨TT, EQT, 0, 154, ownOf [], callOf [en35 F35, en37 F37, en40 F40, en42 F42, en44 F44, en46 F46, en47 F47, en49 F49, en50 F50] R, loopOf [] R, []⟩
def p34 (F35 : FT35) (F37 : FT37) (F40 : FT40) (F42 : FT42) (F44 : FT44) (F46 : FT46) (F47 : FT47) (F49 : FT49) (F50 : FT50) : FT34 := fun R k =>
let v1 : (List Int) := (List.set (List.replicate 32 (0 : Int)) 0 (5 : Int));
F50 R v1 fun y2 =>
F35 R ([] : (List (Int × ((List Int) × (Bool × ((List Int) × Unit)))))) (3 : Int) y2 fun y3 y4 =>
let v5 : (List Int) := (List.replicate 32 (0 : Int));
F35 R y3 (1 : Int) v5 fun y6 y7 =>
F35 R y6 (3 : Int) v1 fun y8 y9 =>
F37 R y6 (3 : Int) v1 fun y10 y11 =>
F37 R y10 (3 : Int) v1 fun y12 y13 =>
let v14 : (List Int) := (List.replicate 32 (0 : Int));
F37 R y6 (3 : Int) v14 fun y15 y16 =>
F37 R y6 (2 : Int) v1 fun y17 y18 =>
F35 R ([] : (List (Int × ((List Int) × (Bool × ((List Int) × Unit)))))) (-1 : Int) v1 fun y19 y20 =>
F40 R y10 (3 : Int) fun y21 y22 =>
let v23 : Bool := (y4 != (0 : Int));
(match v23 with
| true => k false
| false => let v24 : Bool := (y7 != (0 : Int));
(match v24 with
| true => k false
| false => let v25 : Bool := (y9 != (6 : Int));
(match v25 with
| true => k false
| false => let v26 : Bool := (y11 != (0 : Int));
(match v26 with
| true => k false
| false => let v27 : Bool := (y13 != (6 : Int));
(match v27 with
| true => k false
| false => let v28 : Bool := (y16 != (13 : Int));
(match v28 with
| true => k false
| false => let v29 : Bool := (y18 != (5 : Int));
(match v29 with
| true => k false
| false => let v30 : Bool := (y20 != (1 : Int));
(match v30 with
| true => k false
| false => let v31 : Int := (List.length y6 : Int);
let v32 : Bool := (v31 != (2 : Int));
(match v32 with
| true => k false
| false => (match y22 with
| true => let v33 : Bool := (Kd.eqv (.arr 32 (.int .u8)) y21.2.2.2.1 v1);
(match v33 with
| true => F44 R y10 fun y34 =>
let v35 : Bool := (Kd.eqv (.arr 32 (.int .u8)) y34 v1);
(match v35 with
| true => F44 R y6 fun y36 =>
let v37 : (List Int) := (List.replicate 32 (0 : Int));
let v38 : Bool := (Kd.eqv (.arr 32 (.int .u8)) y36 v37);
(match v38 with
| true => F47 R y10 fun y39 =>
let v40 : (List Int) := ([(1 : Int)] : (List Int));
F46 R y39 v40 fun y41 =>
(match y41 with
| true => (match (bnd (0 : Int) (List.length y6 : Int)) with
| true => let v42 : Int := (List.getD y6 0 ((0 : Int), (List.replicate 32 (0 : Int)), false, (List.replicate 32 (0 : Int)), ())).1;
let v43 : Bool := (v42 == (1 : Int));
(match v43 with
| true => F42 R y10 fun y44 =>
(match y44 with
| true => F49 R y6 y6 fun y45 =>
(match y45 with
| true => F49 R y6 y10 fun y46 =>
k (!y46)
| false => k false)
| false => k false)
| false => k false)
| false => none)
| false => k false)
| false => k false)
| false => k false)
| false => k false)
| false => k false))))))))))
theorem q34 (F35 : FT35) (F37 : FT37) (F40 : FT40) (F42 : FT42) (F44 : FT44) (F46 : FT46) (F47 : FT47) (F49 : FT49) (F50 : FT50) (F : FT34) (R : Type) (x : AT (en34 F).ins) (k : RT (en34 F).outs → PT (en34 F).ins → Option R) :
  xfun (e34 F35 F37 F40 F42 F44 F46 F47 F49 F50 R) (codeOf Try.f34) res34 (avs (en34 F).ins x) (finK (en34 F).outs (en34 F).ins k) = p34 F35 F37 F40 F42 F44 F46 F47 F49 F50 R  (fun y1 => k (y1, ()) ()) := by kernel_rfl
noncomputable def F34 : FT34 := p34 F35 F37 F40 F42 F44 F46 F47 F49 F50
theorem env34 (R : Type) : EnvOK Try.prog (e34 F35 F37 F40 F42 F44 F46 F47 F49 F50 R) := ⟨tabOK, eqOK, callOf_ok (allE_cons ok35 (allE_cons ok37 (allE_cons ok40 (allE_cons ok42 (allE_cons ok44 (allE_cons ok46 (allE_cons ok47 (allE_cons ok49 (allE_cons ok50 allE_nil))))))))), noIns⟩
theorem ok34 : (en34 F34).OK Try.prog :=
  ent_ok (Ef := fun R => e34 F35 F37 F40 F42 F44 F46 F47 F49 F50 R) (fun R => env34 R) mixed Try.func34 (body := codeOf Try.f34) (by kernel_rfl) (by kernel_rfl) (np := 0) (nt := 154) (fun _ => rfl) (fun _ => rfl) (by kernel_rfl) (res := res34) (by kernel_rfl) (fun _ => rfl) (fun _ => Nat.le_of_ble_eq_true rfl) (by
    intro R
    rw [show loopsOf (codeOf Try.f34) = [] from by kernel_rfl]
    exact allM_nil) (fun R x k => q34 F35 F37 F40 F42 F44 F46 F47 F49 F50 F34 R x k)
/-! drawlot/drawlotref20.Right -/
abbrev FT43 : Type 1 := (R : Type) → (List (Int × ((List Int) × (Bool × ((List Int) × Unit))))) → (Bool → Option R) → Option R
def en43 (F : FT43) : Ent := ⟨43, [(false, (.sl (.pair (.int .i64) (.pair (.arr 32 (.int .u8)) (.pair .bool (.pair (.arr 32 (.int .u8)) .unit))))))], [(false, .bool)], fun R x k => F R x.1 (fun y1 => k (y1, ()) ())⟩
def res43 : List (ResultVar × TypeId × Bool) := [(.tmp 2, 4, false)]
abbrev LT43_2 : Type 1 := (R : Type) → (List (Int × ((List Int) × (Bool × ((List Int) × Unit))))) → Int → (Bool → Option R) → (Option R) → Option R
def le43_2 (L : LT43_2) : LEnt := ⟨2, [.val 0 (.sl (.pair (.int .i64) (.pair (.arr 32 (.int .u8)) (.pair .bool (.pair (.arr 32 (.int .u8)) .unit))))), .val 3 (.int .i64)], 0, [(.ret, [.val 2 .bool]), (.exit 0, [])], fun R x ke => L R x.1 x.2.1 (fun y1 => ke.1 (y1, ())) (ke.2.1 ())⟩
def e43 (F50 : FT50) (L2 : LT43_2) (R : Type) : Env R := ⟨TT, EQT, 0, 56, ownOf [], callOf [en50 F50] R, loopOf [le43_2 L2] R, []⟩
def p43_2 (F50 : FT50) : (R : Type) → (List (Int × ((List Int) × (Bool × ((List Int) × Unit))))) → Int → ((List (Int × ((List Int) × (Bool × ((List Int) × Unit))))) → Int → Option R) → (Bool → Option R) → (Option R) → Option R := fun R x1 x2 kc k0 k1 =>
let v3 : Int := (List.length x1 : Int);
let v4 : Bool := (decide (x2 < v3));
(match v4 with
| true => (match (bnd x2 (List.length x1 : Int)) with
| true => let v5 : (Int × ((List Int) × (Bool × ((List Int) × Unit)))) := (List.getD x1 (Int.toNat x2) ((0 : Int), (List.replicate 32 (0 : Int)), false, (List.replicate 32 (0 : Int)), ()));
let v6 : Bool := (decide (v5.1 < (0 : Int)));
(match v6 with
| true => k0 false
| false => let v7 : Bool := (decide (x2 > (0 : Int)));
(match v7 with
| true => let v8 : Int := (IntKind.i64.wrap (x2 - (1 : Int)));
(match (bnd v8 (List.length x1 : Int)) with
| true => let v9 : Int := (List.getD x1 (Int.toNat v8) ((0 : Int), (List.replicate 32 (0 : Int)), false, (List.replicate 32 (0 : Int)), ())).1;
let v10 : Bool := (decide (v9 ≥ v5.1));
(match v10 with
| true => k0 false
| false => (match v5.2.2.1 with
| true => F50 R v5.2.2.2.1 fun y11 =>
let v12 : Bool := (!(Kd.eqv (.arr 32 (.int .u8)) y11 v5.2.1));
(match v12 with
| true => k0 false
| false => let v13 : Bool := (!v5.2.2.1);
(match v13 with
| true => let v14 : (List Int) := (List.replicate 32 (0 : Int));
let v15 : Bool := (!(Kd.eqv (.arr 32 (.int .u8)) v5.2.2.2.1 v14));
(match v15 with
| true => k0 false
| false => let v16 : Int := (IntKind.i64.wrap (x2 + (1 : Int)));
kc x1 v16)
| false => let v17 : Int := (IntKind.i64.wrap (x2 + (1 : Int)));
kc x1 v17))
| false => let v18 : Bool := (!v5.2.2.1);
(match v18 with
| true => let v19 : (List Int) := (List.replicate 32 (0 : Int));
let v20 : Bool := (!(Kd.eqv (.arr 32 (.int .u8)) v5.2.2.2.1 v19));
(match v20 with
| true => k0 false
| false => let v21 : Int := (IntKind.i64.wrap (x2 + (1 : Int)));
kc x1 v21)
| false => let v22 : Int := (IntKind.i64.wrap (x2 + (1 : Int)));
kc x1 v22)))
| false => none)
| false => (match v5.2.2.1 with
| true => F50 R v5.2.2.2.1 fun y23 =>
let v24 : Bool := (!(Kd.eqv (.arr 32 (.int .u8)) y23 v5.2.1));
(match v24 with
| true => k0 false
| false => let v25 : Bool := (!v5.2.2.1);
(match v25 with
| true => let v26 : (List Int) := (List.replicate 32 (0 : Int));
let v27 : Bool := (!(Kd.eqv (.arr 32 (.int .u8)) v5.2.2.2.1 v26));
(match v27 with
| true => k0 false
| false => let v28 : Int := (IntKind.i64.wrap (x2 + (1 : Int)));
kc x1 v28)
| false => let v29 : Int := (IntKind.i64.wrap (x2 + (1 : Int)));
kc x1 v29))
| false => let v30 : Bool := (!v5.2.2.1);
(match v30 with
| true => let v31 : (List Int) := (List.replicate 32 (0 : Int));
let v32 : Bool := (!(Kd.eqv (.arr 32 (.int .u8)) v5.2.2.2.1 v31));
(match v32 with
| true => k0 false
| false => let v33 : Int := (IntKind.i64.wrap (x2 + (1 : Int)));
kc x1 v33)
| false => let v34 : Int := (IntKind.i64.wrap (x2 + (1 : Int)));
kc x1 v34))))
| false => none)
| false => k1)
theorem q43_2 (F50 : FT50) (L2 : LT43_2) (R : Type) (x : HT (le43_2 L2).H) (kc : HT (le43_2 L2).H → Option R) (ke : KT R (le43_2 L2).exs) :
  exec (e43 F50 L2 R) (lcode 2 (codeOf Try.f43)) (stOf (le43_2 L2).H x 0) (roundK (le43_2 L2).H (le43_2 L2).exs kc ke) =
    p43_2 F50 R x.1 x.2.1 (fun x1 x2 => kc (x1, x2, ())) (fun y1 => ke.1 (y1, ())) (ke.2.1 ()) := by kernel_rfl
noncomputable def G43_2 : Nat → LT43_2
  | 0 => fun _ _ _ _ _ => none
  | n + 1 => fun R x1 x2 k0 k1 => p43_2 F50 R x1 x2 (fun x1 x2 => G43_2 n R x1 x2 k0 k1) k0 k1
def p43 (L2 : LT43_2) : FT43 := fun R a0 k =>
L2 R a0 (0 : Int) (fun x1 =>
k x1) (k true)
theorem q43 (F50 : FT50) (L2 : LT43_2) (F : FT43) (R : Type) (x : AT (en43 F).ins) (k : RT (en43 F).outs → PT (en43 F).ins → Option R) :
  xfun (e43 F50 L2 R) (codeOf Try.f43) res43 (avs (en43 F).ins x) (finK (en43 F).outs (en43 F).ins k) = p43 L2 R x.1 (fun y1 => k (y1, ()) ()) := by kernel_rfl
noncomputable def F43 : FT43 := p43 (G43_2 FUEL)
theorem env43 (R : Type) : EnvOK Try.prog (e43 F50 (G43_2 FUEL) R) := ⟨tabOK, eqOK, callOf_ok (allE_cons ok50 allE_nil), noIns⟩
noncomputable def T43_2 : (R : Type) → HT (le43_2 (G43_2 FUEL)).H → (HT (le43_2 (G43_2 FUEL)).H → Option R) → KT R (le43_2 (G43_2 FUEL)).exs → Option R := fun R x kc ke => p43_2 F50 R x.1 x.2.1 (fun x1 x2 => kc (x1, x2, ())) (fun y1 => ke.1 (y1, ())) (ke.2.1 ())
theorem it43_2 : ∀ (n : Nat) (R : Type) (x : HT (le43_2 (G43_2 FUEL)).H) (ke : KT R (le43_2 (G43_2 FUEL)).exs), iter T43_2 n R x ke = G43_2 n R x.1 x.2.1 (fun y1 => ke.1 (y1, ())) (ke.2.1 ()) := by
  intro n
  induction n with
  | zero => intro R x ke; rfl
  | succ n ih =>
    intro R x ke
    show T43_2 R x (fun x' => iter T43_2 n R x' ke) ke = _
    rw [show (fun x' => iter T43_2 n R x' ke) = fun x => G43_2 n R x.1 x.2.1 (fun y1 => ke.1 (y1, ())) (ke.2.1 ()) from funext fun x' => ih R x' ke]
    rfl
theorem lok43_2 : (le43_2 (G43_2 FUEL)).OK Try.prog 0 56 (lcode 2 (codeOf Try.f43)) := fun R x ke r h =>
  iter_sound (fun R => e43 F50 (G43_2 FUEL) R) 0 56 (fun _ => rfl) (fun _ => rfl) (fun R => env43 R) mixed (by
    intro R
    rw [show loopsOf (lcode 2 (codeOf Try.f43)) = [] from by kernel_rfl]
    exact allM_nil) (T := T43_2) (fun R x kc ke => q43_2 F50 (G43_2 FUEL) R x kc ke) FUEL R x ke r ((it43_2 FUEL R x ke).trans h)
theorem ok43 : (en43 F43).OK Try.prog :=
  ent_ok (Ef := fun R => e43 F50 (G43_2 FUEL) R) (fun R => env43 R) mixed Try.func43 (body := codeOf Try.f43) (by kernel_rfl) (by kernel_rfl) (np := 0) (nt := 56) (fun _ => rfl) (fun _ => rfl) (by kernel_rfl) (res := res43) (by kernel_rfl) (fun _ => rfl) (fun _ => Nat.le_of_ble_eq_true rfl) (by
    intro R
    rw [show loopsOf (codeOf Try.f43) = [lcode 2 (codeOf Try.f43)] from by kernel_rfl]
    exact (allM_cons (loop_ok2 (e := le43_2 (G43_2 FUEL)) rfl rfl lok43_2) allM_nil)) (fun R x k => q43 F50 (G43_2 FUEL) F43 R x k)
/-! drawlot/drawlotref20.find -/
abbrev FT86 : Type 1 := (R : Type) → (List (Int × ((List Int) × (Bool × ((List Int) × Unit))))) → Int → (Int → Option R) → Option R
def en86 (F : FT86) : Ent := ⟨86, [(false, (.sl (.pair (.int .i64) (.pair (.arr 32 (.int .u8)) (.pair .bool (.pair (.arr 32 (.int .u8)) .unit)))))), (false, (.int .i64))], [(false, (.int .i64))], fun R x k => F R x.1 x.2.1 (fun y1 => k (y1, ()) ())⟩
def res86 : List (ResultVar × TypeId × Bool) := [(.tmp 4, 3, false)]
abbrev LT86_2 : Type 1 := (R : Type) → (List (Int × ((List Int) × (Bool × ((List Int) × Unit))))) → Int → Int → (Int → Option R) → (Option R) → Option R
def le86_2 (L : LT86_2) : LEnt := ⟨2, [.val 0 (.sl (.pair (.int .i64) (.pair (.arr 32 (.int .u8)) (.pair .bool (.pair (.arr 32 (.int .u8)) .unit))))), .val 1 (.int .i64), .val 5 (.int .i64)], 0, [(.ret, [.val 4 (.int .i64)]), (.exit 0, [])], fun R x ke => L R x.1 x.2.1 x.2.2.1 (fun y1 => ke.1 (y1, ())) (ke.2.1 ())⟩
def e86 (L2 : LT86_2) (R : Type) : Env R := ⟨TT, EQT, 0, 20, ownOf [], callOf [] R, loopOf [le86_2 L2] R, []⟩
def p86_2 : (R : Type) → (List (Int × ((List Int) × (Bool × ((List Int) × Unit))))) → Int → Int → ((List (Int × ((List Int) × (Bool × ((List Int) × Unit))))) → Int → Int → Option R) → (Int → Option R) → (Option R) → Option R := fun R x1 x2 x3 kc k0 k1 =>
let v4 : Int := (List.length x1 : Int);
let v5 : Bool := (decide (x3 < v4));
(match v5 with
| true => (match (bnd x3 (List.length x1 : Int)) with
| true => let v6 : Int := (List.getD x1 (Int.toNat x3) ((0 : Int), (List.replicate 32 (0 : Int)), false, (List.replicate 32 (0 : Int)), ())).1;
let v7 : Bool := (v6 == x2);
(match v7 with
| true => k0 x3
| false => let v8 : Int := (IntKind.i64.wrap (x3 + (1 : Int)));
kc x1 x2 v8)
| false => none)
| false => k1)
theorem q86_2 (L2 : LT86_2) (R : Type) (x : HT (le86_2 L2).H) (kc : HT (le86_2 L2).H → Option R) (ke : KT R (le86_2 L2).exs) :
  exec (e86 L2 R) (lcode 2 (codeOf Try.f86)) (stOf (le86_2 L2).H x 0) (roundK (le86_2 L2).H (le86_2 L2).exs kc ke) =
    p86_2 R x.1 x.2.1 x.2.2.1 (fun x1 x2 x3 => kc (x1, x2, x3, ())) (fun y1 => ke.1 (y1, ())) (ke.2.1 ()) := by kernel_rfl
noncomputable def G86_2 : Nat → LT86_2
  | 0 => fun _ _ _ _ _ _ => none
  | n + 1 => fun R x1 x2 x3 k0 k1 => p86_2 R x1 x2 x3 (fun x1 x2 x3 => G86_2 n R x1 x2 x3 k0 k1) k0 k1
def p86 (L2 : LT86_2) : FT86 := fun R a0 a1 k =>
L2 R a0 a1 (0 : Int) (fun x1 =>
k x1) (k (-1 : Int))
theorem q86 (L2 : LT86_2) (F : FT86) (R : Type) (x : AT (en86 F).ins) (k : RT (en86 F).outs → PT (en86 F).ins → Option R) :
  xfun (e86 L2 R) (codeOf Try.f86) res86 (avs (en86 F).ins x) (finK (en86 F).outs (en86 F).ins k) = p86 L2 R x.1 x.2.1 (fun y1 => k (y1, ()) ()) := by kernel_rfl
noncomputable def F86 : FT86 := p86 (G86_2 FUEL)
theorem env86 (R : Type) : EnvOK Try.prog (e86 (G86_2 FUEL) R) := ⟨tabOK, eqOK, callOf_ok allE_nil, noIns⟩
noncomputable def T86_2 : (R : Type) → HT (le86_2 (G86_2 FUEL)).H → (HT (le86_2 (G86_2 FUEL)).H → Option R) → KT R (le86_2 (G86_2 FUEL)).exs → Option R := fun R x kc ke => p86_2 R x.1 x.2.1 x.2.2.1 (fun x1 x2 x3 => kc (x1, x2, x3, ())) (fun y1 => ke.1 (y1, ())) (ke.2.1 ())
theorem it86_2 : ∀ (n : Nat) (R : Type) (x : HT (le86_2 (G86_2 FUEL)).H) (ke : KT R (le86_2 (G86_2 FUEL)).exs), iter T86_2 n R x ke = G86_2 n R x.1 x.2.1 x.2.2.1 (fun y1 => ke.1 (y1, ())) (ke.2.1 ()) := by
  intro n
  induction n with
  | zero => intro R x ke; rfl
  | succ n ih =>
    intro R x ke
    show T86_2 R x (fun x' => iter T86_2 n R x' ke) ke = _
    rw [show (fun x' => iter T86_2 n R x' ke) = fun x => G86_2 n R x.1 x.2.1 x.2.2.1 (fun y1 => ke.1 (y1, ())) (ke.2.1 ()) from funext fun x' => ih R x' ke]
    rfl
theorem lok86_2 : (le86_2 (G86_2 FUEL)).OK Try.prog 0 20 (lcode 2 (codeOf Try.f86)) := fun R x ke r h =>
  iter_sound (fun R => e86 (G86_2 FUEL) R) 0 20 (fun _ => rfl) (fun _ => rfl) (fun R => env86 R) mixed (by
    intro R
    rw [show loopsOf (lcode 2 (codeOf Try.f86)) = [] from by kernel_rfl]
    exact allM_nil) (T := T86_2) (fun R x kc ke => q86_2 (G86_2 FUEL) R x kc ke) FUEL R x ke r ((it86_2 FUEL R x ke).trans h)
theorem ok86 : (en86 F86).OK Try.prog :=
  ent_ok (Ef := fun R => e86 (G86_2 FUEL) R) (fun R => env86 R) mixed Try.func86 (body := codeOf Try.f86) (by kernel_rfl) (by kernel_rfl) (np := 0) (nt := 20) (fun _ => rfl) (fun _ => rfl) (by kernel_rfl) (res := res86) (by kernel_rfl) (fun _ => rfl) (fun _ => Nat.le_of_ble_eq_true rfl) (by
    intro R
    rw [show loopsOf (codeOf Try.f86) = [lcode 2 (codeOf Try.f86)] from by kernel_rfl]
    exact (allM_cons (loop_ok2 (e := le86_2 (G86_2 FUEL)) rfl rfl lok86_2) allM_nil)) (fun R x k => q86 (G86_2 FUEL) F86 R x k)
/-! drawlot/drawlotref20.Put -/
abbrev FT36 : Type 1 := (R : Type) → (List (Int × ((List Int) × (Bool × ((List Int) × Unit))))) → Int → (List Int) → ((List (Int × ((List Int) × (Bool × ((List Int) × Unit))))) → Int → Option R) → Option R
def en36 (F : FT36) : Ent := ⟨36, [(false, (.sl (.pair (.int .i64) (.pair (.arr 32 (.int .u8)) (.pair .bool (.pair (.arr 32 (.int .u8)) .unit)))))), (false, (.int .i64)), (false, (.arr 32 (.int .u8)))], [(false, (.sl (.pair (.int .i64) (.pair (.arr 32 (.int .u8)) (.pair .bool (.pair (.arr 32 (.int .u8)) .unit)))))), (false, (.int .i64))], fun R x k => F R x.1 x.2.1 x.2.2.1 (fun y1 y2 => k (y1, y2, ()) ())⟩
def res36 : List (ResultVar × TypeId × Bool) := [(.tmp 6, 57, false), (.tmp 7, 31, false)]
abbrev LT36_7 : Type 1 := (R : Type) → (List (Int × ((List Int) × (Bool × ((List Int) × Unit))))) → Int → Int → (List Int) → (List (Int × ((List Int) × (Bool × ((List Int) × Unit))))) → ((List (Int × ((List Int) × (Bool × ((List Int) × Unit))))) → Int → Int → (List Int) → (List (Int × ((List Int) × (Bool × ((List Int) × Unit))))) → Option R) → Option R
def le36_7 (L : LT36_7) : LEnt := ⟨7, [.val 0 (.sl (.pair (.int .i64) (.pair (.arr 32 (.int .u8)) (.pair .bool (.pair (.arr 32 (.int .u8)) .unit))))), .val 1 (.int .i64), .fix 5 (.ptr 0 [] (.arr 32 (.int .u8))), .fix 8 (.own 1 0), .val 9 (.int .i64), .var 0 (.arr 32 (.int .u8)) false, .row 1 (.pair (.int .i64) (.pair (.arr 32 (.int .u8)) (.pair .bool (.pair (.arr 32 (.int .u8)) .unit)))) false], 2, [(.exit 0, [.val 0 (.sl (.pair (.int .i64) (.pair (.arr 32 (.int .u8)) (.pair .bool (.pair (.arr 32 (.int .u8)) .unit))))), .val 1 (.int .i64), .fix 5 (.ptr 0 [] (.arr 32 (.int .u8))), .fix 8 (.own 1 0), .val 9 (.int .i64), .var 0 (.arr 32 (.int .u8)) false, .row 1 (.pair (.int .i64) (.pair (.arr 32 (.int .u8)) (.pair .bool (.pair (.arr 32 (.int .u8)) .unit)))) false])], fun R x ke => L R x.1 x.2.1 x.2.2.1 x.2.2.2.1 x.2.2.2.2.1 (fun y1 y2 y3 y4 y5 => ke.1 (y1, y2, y3, y4, y5, ()))⟩
def e36 (F43 : FT43) (F86 : FT86) (L7 : LT36_7) (R : Type) : Env R := ⟨TT, EQT, 0, 53, ownOf [(5, 0)], callOf [en43 F43, en86 F86] R, loopOf [le36_7 L7] R, []⟩
def p36_7 : (R : Type) → (List (Int × ((List Int) × (Bool × ((List Int) × Unit))))) → Int → Int → (List Int) → (List (Int × ((List Int) × (Bool × ((List Int) × Unit))))) → ((List (Int × ((List Int) × (Bool × ((List Int) × Unit))))) → Int → Int → (List Int) → (List (Int × ((List Int) × (Bool × ((List Int) × Unit))))) → Option R) → ((List (Int × ((List Int) × (Bool × ((List Int) × Unit))))) → Int → Int → (List Int) → (List (Int × ((List Int) × (Bool × ((List Int) × Unit))))) → Option R) → Option R := fun R x1 x2 x3 x4 x5 kc k0 =>
let v6 : Int := (List.length x1 : Int);
let v7 : Bool := (decide (x3 < v6));
(match v7 with
| true => (match (bnd x3 (List.length x1 : Int)) with
| true => let v8 : Int := (List.getD x1 (Int.toNat x3) ((0 : Int), (List.replicate 32 (0 : Int)), false, (List.replicate 32 (0 : Int)), ())).1;
let v9 : Bool := (decide (v8 < x2));
(match v9 with
| true => (match (bnd x3 (List.length x1 : Int)) with
| true => let v10 : (Int × ((List Int) × (Bool × ((List Int) × Unit)))) := (List.getD x1 (Int.toNat x3) ((0 : Int), (List.replicate 32 (0 : Int)), false, (List.replicate 32 (0 : Int)), ()));
let v11 : (List (Int × ((List Int) × (Bool × ((List Int) × Unit))))) := ([v10] : (List (Int × ((List Int) × (Bool × ((List Int) × Unit))))));
(match (decide (List.length x5 + List.length v11 ≤ 1759218604441)) with
| true => let v12 : (List (Int × ((List Int) × (Bool × ((List Int) × Unit))))) := (x5 ++ v11);
let v13 : Int := (IntKind.i64.wrap (x3 + (1 : Int)));
kc x1 x2 v13 x4 v12
| false => none)
| false => none)
| false => k0 x1 x2 x3 x4 x5)
| false => none)
| false => k0 x1 x2 x3 x4 x5)
theorem q36_7 (F43 : FT43) (F86 : FT86) (L7 : LT36_7) (R : Type) (x : HT (le36_7 L7).H) (kc : HT (le36_7 L7).H → Option R) (ke : KT R (le36_7 L7).exs) :
  exec (e36 F43 F86 L7 R) (lcode 7 (codeOf Try.f36)) (stOf (le36_7 L7).H x 2) (roundK (le36_7 L7).H (le36_7 L7).exs kc ke) =
    p36_7 R x.1 x.2.1 x.2.2.1 x.2.2.2.1 x.2.2.2.2.1 (fun x1 x2 x3 x4 x5 => kc (x1, x2, x3, x4, x5, ())) (fun y1 y2 y3 y4 y5 => ke.1 (y1, y2, y3, y4, y5, ())) := by kernel_rfl
noncomputable def G36_7 : Nat → LT36_7
  | 0 => fun _ _ _ _ _ _ _ => none
  | n + 1 => fun R x1 x2 x3 x4 x5 k0 => p36_7 R x1 x2 x3 x4 x5 (fun x1 x2 x3 x4 x5 => G36_7 n R x1 x2 x3 x4 x5 k0) k0
def p36 (F43 : FT43) (F86 : FT86) (L7 : LT36_7) : FT36 := fun R a0 a1 a2 k =>
F43 R a0 fun y1 =>
(match (!y1) with
| true => k ([] : (List (Int × ((List Int) × (Bool × ((List Int) × Unit)))))) (1 : Int)
| false => let v2 : Bool := (decide (a1 < (0 : Int)));
(match v2 with
| true => k ([] : (List (Int × ((List Int) × (Bool × ((List Int) × Unit)))))) (1 : Int)
| false => F86 R a0 a1 fun y3 =>
let v4 : Bool := (decide (y3 ≥ (0 : Int)));
(match v4 with
| true => k ([] : (List (Int × ((List Int) × (Bool × ((List Int) × Unit)))))) (6 : Int)
| false => L7 R a0 a1 (0 : Int) a2 ([] : (List (Int × ((List Int) × (Bool × ((List Int) × Unit)))))) (fun x5 x6 x7 x8 x9 =>
let v10 : (List (Int × ((List Int) × (Bool × ((List Int) × Unit))))) := ([(x6, x8, false, (List.replicate 32 (0 : Int)), ())] : (List (Int × ((List Int) × (Bool × ((List Int) × Unit))))));
(match (decide (List.length x9 + List.length v10 ≤ 1759218604441)) with
| true => let v11 : (List (Int × ((List Int) × (Bool × ((List Int) × Unit))))) := (x9 ++ v10);
(match (decide (0 ≤ x7 ∧ x7 ≤ (List.length x5 : Int) ∧ (List.length x5 : Int) ≤ (List.length x5 : Int) ∧ (List.length x5 : Int) ≤ (List.length x5 : Int))) with
| true => let v12 : (List (Int × ((List Int) × (Bool × ((List Int) × Unit))))) := (List.take (Int.toNat ((List.length x5 : Int) - x7)) (List.drop (Int.toNat x7) x5));
(match (decide (List.length v11 + List.length v12 ≤ 1759218604441)) with
| true => let v13 : (List (Int × ((List Int) × (Bool × ((List Int) × Unit))))) := (v11 ++ v12);
k v13 (0 : Int)
| false => none)
| false => none)
| false => none)))))
theorem q36 (F43 : FT43) (F86 : FT86) (L7 : LT36_7) (F : FT36) (R : Type) (x : AT (en36 F).ins) (k : RT (en36 F).outs → PT (en36 F).ins → Option R) :
  xfun (e36 F43 F86 L7 R) (codeOf Try.f36) res36 (avs (en36 F).ins x) (finK (en36 F).outs (en36 F).ins k) = p36 F43 F86 L7 R x.1 x.2.1 x.2.2.1 (fun y1 y2 => k (y1, y2, ()) ()) := by kernel_rfl
noncomputable def F36 : FT36 := p36 F43 F86 (G36_7 FUEL)
theorem env36 (R : Type) : EnvOK Try.prog (e36 F43 F86 (G36_7 FUEL) R) := ⟨tabOK, eqOK, callOf_ok (allE_cons ok43 (allE_cons ok86 allE_nil)), noIns⟩
noncomputable def T36_7 : (R : Type) → HT (le36_7 (G36_7 FUEL)).H → (HT (le36_7 (G36_7 FUEL)).H → Option R) → KT R (le36_7 (G36_7 FUEL)).exs → Option R := fun R x kc ke => p36_7 R x.1 x.2.1 x.2.2.1 x.2.2.2.1 x.2.2.2.2.1 (fun x1 x2 x3 x4 x5 => kc (x1, x2, x3, x4, x5, ())) (fun y1 y2 y3 y4 y5 => ke.1 (y1, y2, y3, y4, y5, ()))
theorem it36_7 : ∀ (n : Nat) (R : Type) (x : HT (le36_7 (G36_7 FUEL)).H) (ke : KT R (le36_7 (G36_7 FUEL)).exs), iter T36_7 n R x ke = G36_7 n R x.1 x.2.1 x.2.2.1 x.2.2.2.1 x.2.2.2.2.1 (fun y1 y2 y3 y4 y5 => ke.1 (y1, y2, y3, y4, y5, ())) := by
  intro n
  induction n with
  | zero => intro R x ke; rfl
  | succ n ih =>
    intro R x ke
    show T36_7 R x (fun x' => iter T36_7 n R x' ke) ke = _
    rw [show (fun x' => iter T36_7 n R x' ke) = fun x => G36_7 n R x.1 x.2.1 x.2.2.1 x.2.2.2.1 x.2.2.2.2.1 (fun y1 y2 y3 y4 y5 => ke.1 (y1, y2, y3, y4, y5, ())) from funext fun x' => ih R x' ke]
    rfl
theorem lok36_7 : (le36_7 (G36_7 FUEL)).OK Try.prog 0 53 (lcode 7 (codeOf Try.f36)) := fun R x ke r h =>
  iter_sound (fun R => e36 F43 F86 (G36_7 FUEL) R) 0 53 (fun _ => rfl) (fun _ => rfl) (fun R => env36 R) mixed (by
    intro R
    rw [show loopsOf (lcode 7 (codeOf Try.f36)) = [] from by kernel_rfl]
    exact allM_nil) (T := T36_7) (fun R x kc ke => q36_7 F43 F86 (G36_7 FUEL) R x kc ke) FUEL R x ke r ((it36_7 FUEL R x ke).trans h)
theorem ok36 : (en36 F36).OK Try.prog :=
  ent_ok (Ef := fun R => e36 F43 F86 (G36_7 FUEL) R) (fun R => env36 R) mixed Try.func36 (body := codeOf Try.f36) (by kernel_rfl) (by kernel_rfl) (np := 0) (nt := 53) (fun _ => rfl) (fun _ => rfl) (by kernel_rfl) (res := res36) (by kernel_rfl) (fun _ => rfl) (fun _ => Nat.le_of_ble_eq_true rfl) (by
    intro R
    rw [show loopsOf (codeOf Try.f36) = [lcode 7 (codeOf Try.f36)] from by kernel_rfl]
    exact (allM_cons (loop_ok2 (e := le36_7 (G36_7 FUEL)) rfl rfl lok36_7) allM_nil)) (fun R x k => q36 F43 F86 (G36_7 FUEL) F36 R x k)
/-! drawlot/drawlotref20.Reveal -/
abbrev FT38 : Type 1 := (R : Type) → (List (Int × ((List Int) × (Bool × ((List Int) × Unit))))) → Int → (List Int) → ((List (Int × ((List Int) × (Bool × ((List Int) × Unit))))) → Int → Option R) → Option R
def en38 (F : FT38) : Ent := ⟨38, [(false, (.sl (.pair (.int .i64) (.pair (.arr 32 (.int .u8)) (.pair .bool (.pair (.arr 32 (.int .u8)) .unit)))))), (false, (.int .i64)), (false, (.arr 32 (.int .u8)))], [(false, (.sl (.pair (.int .i64) (.pair (.arr 32 (.int .u8)) (.pair .bool (.pair (.arr 32 (.int .u8)) .unit)))))), (false, (.int .i64))], fun R x k => F R x.1 x.2.1 x.2.2.1 (fun y1 y2 => k (y1, y2, ()) ())⟩
def res38 : List (ResultVar × TypeId × Bool) := [(.tmp 6, 57, false), (.tmp 7, 31, false)]
def e38 (F43 : FT43) (F50 : FT50) (F86 : FT86) (R : Type) : Env R := ⟨TT, EQT, 0, 47, ownOf [(10, 0)], callOf [en43 F43, en50 F50, en86 F86] R, loopOf [] R, []⟩
def p38 (F43 : FT43) (F50 : FT50) (F86 : FT86) : FT38 := fun R a0 a1 a2 k =>
F43 R a0 fun y1 =>
(match (!y1) with
| true => k ([] : (List (Int × ((List Int) × (Bool × ((List Int) × Unit)))))) (1 : Int)
| false => F86 R a0 a1 fun y2 =>
let v3 : Bool := (decide (y2 < (0 : Int)));
(match v3 with
| true => k ([] : (List (Int × ((List Int) × (Bool × ((List Int) × Unit)))))) (5 : Int)
| false => (match (bnd y2 (List.length a0 : Int)) with
| true => let v4 : Bool := (List.getD a0 (Int.toNat y2) ((0 : Int), (List.replicate 32 (0 : Int)), false, (List.replicate 32 (0 : Int)), ())).2.2.1;
(match v4 with
| true => k ([] : (List (Int × ((List Int) × (Bool × ((List Int) × Unit)))))) (6 : Int)
| false => F50 R a2 fun y5 =>
(match (bnd y2 (List.length a0 : Int)) with
| true => let v6 : (List Int) := (List.getD a0 (Int.toNat y2) ((0 : Int), (List.replicate 32 (0 : Int)), false, (List.replicate 32 (0 : Int)), ())).2.1;
let v7 : Bool := (!(Kd.eqv (.arr 32 (.int .u8)) y5 v6));
(match v7 with
| true => k ([] : (List (Int × ((List Int) × (Bool × ((List Int) × Unit)))))) (13 : Int)
| false => let v8 : (List (Int × ((List Int) × (Bool × ((List Int) × Unit))))) := ([] : (List (Int × ((List Int) × (Bool × ((List Int) × Unit))))));
(match (decide (List.length v8 + List.length a0 ≤ 1759218604441)) with
| true => let v9 : (List (Int × ((List Int) × (Bool × ((List Int) × Unit))))) := (v8 ++ a0);
(match (bnd y2 (List.length v9 : Int)) with
| true => let v10 : (List (Int × ((List Int) × (Bool × ((List Int) × Unit))))) := (List.set v9 (Int.toNat y2) ((List.getD v9 (Int.toNat y2) ((0 : Int), (List.replicate 32 (0 : Int)), false, (List.replicate 32 (0 : Int)), ())).1, (List.getD v9 (Int.toNat y2) ((0 : Int), (List.replicate 32 (0 : Int)), false, (List.replicate 32 (0 : Int)), ())).2.1, true, (List.getD v9 (Int.toNat y2) ((0 : Int), (List.replicate 32 (0 : Int)), false, (List.replicate 32 (0 : Int)), ())).2.2.2));
(match (bnd y2 (List.length v10 : Int)) with
| true => let v11 : (List (Int × ((List Int) × (Bool × ((List Int) × Unit))))) := (List.set v10 (Int.toNat y2) ((List.getD v10 (Int.toNat y2) ((0 : Int), (List.replicate 32 (0 : Int)), false, (List.replicate 32 (0 : Int)), ())).1, (List.getD v10 (Int.toNat y2) ((0 : Int), (List.replicate 32 (0 : Int)), false, (List.replicate 32 (0 : Int)), ())).2.1, (List.getD v10 (Int.toNat y2) ((0 : Int), (List.replicate 32 (0 : Int)), false, (List.replicate 32 (0 : Int)), ())).2.2.1, a2, (List.getD v10 (Int.toNat y2) ((0 : Int), (List.replicate 32 (0 : Int)), false, (List.replicate 32 (0 : Int)), ())).2.2.2.2));
k v11 (0 : Int)
| false => none)
| false => none)
| false => none))
| false => none))
| false => none)))
theorem q38 (F43 : FT43) (F50 : FT50) (F86 : FT86) (F : FT38) (R : Type) (x : AT (en38 F).ins) (k : RT (en38 F).outs → PT (en38 F).ins → Option R) :
  xfun (e38 F43 F50 F86 R) (codeOf Try.f38) res38 (avs (en38 F).ins x) (finK (en38 F).outs (en38 F).ins k) = p38 F43 F50 F86 R x.1 x.2.1 x.2.2.1 (fun y1 y2 => k (y1, y2, ()) ()) := by kernel_rfl
noncomputable def F38 : FT38 := p38 F43 F50 F86
theorem env38 (R : Type) : EnvOK Try.prog (e38 F43 F50 F86 R) := ⟨tabOK, eqOK, callOf_ok (allE_cons ok43 (allE_cons ok50 (allE_cons ok86 allE_nil))), noIns⟩
theorem ok38 : (en38 F38).OK Try.prog :=
  ent_ok (Ef := fun R => e38 F43 F50 F86 R) (fun R => env38 R) mixed Try.func38 (body := codeOf Try.f38) (by kernel_rfl) (by kernel_rfl) (np := 0) (nt := 47) (fun _ => rfl) (fun _ => rfl) (by kernel_rfl) (res := res38) (by kernel_rfl) (fun _ => rfl) (fun _ => Nat.le_of_ble_eq_true rfl) (by
    intro R
    rw [show loopsOf (codeOf Try.f38) = [] from by kernel_rfl]
    exact allM_nil) (fun R x k => q38 F43 F50 F86 F38 R x k)
/-! drawlot/drawlotref20.Same -/
abbrev FT39 : Type 1 := (R : Type) → (List (Int × ((List Int) × (Bool × ((List Int) × Unit))))) → (List (Int × ((List Int) × (Bool × ((List Int) × Unit))))) → (Bool → Option R) → Option R
def en39 (F : FT39) : Ent := ⟨39, [(false, (.sl (.pair (.int .i64) (.pair (.arr 32 (.int .u8)) (.pair .bool (.pair (.arr 32 (.int .u8)) .unit)))))), (false, (.sl (.pair (.int .i64) (.pair (.arr 32 (.int .u8)) (.pair .bool (.pair (.arr 32 (.int .u8)) .unit))))))], [(false, .bool)], fun R x k => F R x.1 x.2.1 (fun y1 => k (y1, ()) ())⟩
def res39 : List (ResultVar × TypeId × Bool) := [(.tmp 4, 4, false)]
abbrev LT39_4 : Type 1 := (R : Type) → (List (Int × ((List Int) × (Bool × ((List Int) × Unit))))) → (List (Int × ((List Int) × (Bool × ((List Int) × Unit))))) → Int → (Bool → Option R) → (Option R) → Option R
def le39_4 (L : LT39_4) : LEnt := ⟨4, [.val 0 (.sl (.pair (.int .i64) (.pair (.arr 32 (.int .u8)) (.pair .bool (.pair (.arr 32 (.int .u8)) .unit))))), .val 1 (.sl (.pair (.int .i64) (.pair (.arr 32 (.int .u8)) (.pair .bool (.pair (.arr 32 (.int .u8)) .unit))))), .val 5 (.int .i64)], 0, [(.ret, [.val 4 .bool]), (.exit 0, [])], fun R x ke => L R x.1 x.2.1 x.2.2.1 (fun y1 => ke.1 (y1, ())) (ke.2.1 ())⟩
def e39 (L4 : LT39_4) (R : Type) : Env R := ⟨TT, EQT, 0, 26, ownOf [], callOf [] R, loopOf [le39_4 L4] R, []⟩
def p39_4 : (R : Type) → (List (Int × ((List Int) × (Bool × ((List Int) × Unit))))) → (List (Int × ((List Int) × (Bool × ((List Int) × Unit))))) → Int → ((List (Int × ((List Int) × (Bool × ((List Int) × Unit))))) → (List (Int × ((List Int) × (Bool × ((List Int) × Unit))))) → Int → Option R) → (Bool → Option R) → (Option R) → Option R := fun R x1 x2 x3 kc k0 k1 =>
let v4 : Int := (List.length x1 : Int);
let v5 : Bool := (decide (x3 < v4));
(match v5 with
| true => (match (bnd x3 (List.length x1 : Int)) with
| true => let v6 : (Int × ((List Int) × (Bool × ((List Int) × Unit)))) := (List.getD x1 (Int.toNat x3) ((0 : Int), (List.replicate 32 (0 : Int)), false, (List.replicate 32 (0 : Int)), ()));
(match (bnd x3 (List.length x2 : Int)) with
| true => let v7 : (Int × ((List Int) × (Bool × ((List Int) × Unit)))) := (List.getD x2 (Int.toNat x3) ((0 : Int), (List.replicate 32 (0 : Int)), false, (List.replicate 32 (0 : Int)), ()));
let v8 : Bool := (!(Kd.eqv (.pair (.int .i64) (.pair (.arr 32 (.int .u8)) (.pair .bool (.pair (.arr 32 (.int .u8)) .unit)))) v6 v7));
(match v8 with
| true => k0 false
| false => let v9 : Int := (IntKind.i64.wrap (x3 + (1 : Int)));
kc x1 x2 v9)
| false => none)
| false => none)
| false => k1)
theorem q39_4 (L4 : LT39_4) (R : Type) (x : HT (le39_4 L4).H) (kc : HT (le39_4 L4).H → Option R) (ke : KT R (le39_4 L4).exs) :
  exec (e39 L4 R) (lcode 4 (codeOf Try.f39)) (stOf (le39_4 L4).H x 0) (roundK (le39_4 L4).H (le39_4 L4).exs kc ke) =
    p39_4 R x.1 x.2.1 x.2.2.1 (fun x1 x2 x3 => kc (x1, x2, x3, ())) (fun y1 => ke.1 (y1, ())) (ke.2.1 ()) := by kernel_rfl
noncomputable def G39_4 : Nat → LT39_4
  | 0 => fun _ _ _ _ _ _ => none
  | n + 1 => fun R x1 x2 x3 k0 k1 => p39_4 R x1 x2 x3 (fun x1 x2 x3 => G39_4 n R x1 x2 x3 k0 k1) k0 k1
def p39 (L4 : LT39_4) : FT39 := fun R a0 a1 k =>
let v1 : Int := (List.length a0 : Int);
let v2 : Int := (List.length a1 : Int);
let v3 : Bool := (v1 != v2);
(match v3 with
| true => k false
| false => L4 R a0 a1 (0 : Int) (fun x4 =>
k x4) (k true))
theorem q39 (L4 : LT39_4) (F : FT39) (R : Type) (x : AT (en39 F).ins) (k : RT (en39 F).outs → PT (en39 F).ins → Option R) :
  xfun (e39 L4 R) (codeOf Try.f39) res39 (avs (en39 F).ins x) (finK (en39 F).outs (en39 F).ins k) = p39 L4 R x.1 x.2.1 (fun y1 => k (y1, ()) ()) := by kernel_rfl
noncomputable def F39 : FT39 := p39 (G39_4 FUEL)
theorem env39 (R : Type) : EnvOK Try.prog (e39 (G39_4 FUEL) R) := ⟨tabOK, eqOK, callOf_ok allE_nil, noIns⟩
noncomputable def T39_4 : (R : Type) → HT (le39_4 (G39_4 FUEL)).H → (HT (le39_4 (G39_4 FUEL)).H → Option R) → KT R (le39_4 (G39_4 FUEL)).exs → Option R := fun R x kc ke => p39_4 R x.1 x.2.1 x.2.2.1 (fun x1 x2 x3 => kc (x1, x2, x3, ())) (fun y1 => ke.1 (y1, ())) (ke.2.1 ())
theorem it39_4 : ∀ (n : Nat) (R : Type) (x : HT (le39_4 (G39_4 FUEL)).H) (ke : KT R (le39_4 (G39_4 FUEL)).exs), iter T39_4 n R x ke = G39_4 n R x.1 x.2.1 x.2.2.1 (fun y1 => ke.1 (y1, ())) (ke.2.1 ()) := by
  intro n
  induction n with
  | zero => intro R x ke; rfl
  | succ n ih =>
    intro R x ke
    show T39_4 R x (fun x' => iter T39_4 n R x' ke) ke = _
    rw [show (fun x' => iter T39_4 n R x' ke) = fun x => G39_4 n R x.1 x.2.1 x.2.2.1 (fun y1 => ke.1 (y1, ())) (ke.2.1 ()) from funext fun x' => ih R x' ke]
    rfl
theorem lok39_4 : (le39_4 (G39_4 FUEL)).OK Try.prog 0 26 (lcode 4 (codeOf Try.f39)) := fun R x ke r h =>
  iter_sound (fun R => e39 (G39_4 FUEL) R) 0 26 (fun _ => rfl) (fun _ => rfl) (fun R => env39 R) mixed (by
    intro R
    rw [show loopsOf (lcode 4 (codeOf Try.f39)) = [] from by kernel_rfl]
    exact allM_nil) (T := T39_4) (fun R x kc ke => q39_4 (G39_4 FUEL) R x kc ke) FUEL R x ke r ((it39_4 FUEL R x ke).trans h)
theorem ok39 : (en39 F39).OK Try.prog :=
  ent_ok (Ef := fun R => e39 (G39_4 FUEL) R) (fun R => env39 R) mixed Try.func39 (body := codeOf Try.f39) (by kernel_rfl) (by kernel_rfl) (np := 0) (nt := 26) (fun _ => rfl) (fun _ => rfl) (by kernel_rfl) (res := res39) (by kernel_rfl) (fun _ => rfl) (fun _ => Nat.le_of_ble_eq_true rfl) (by
    intro R
    rw [show loopsOf (codeOf Try.f39) = [lcode 4 (codeOf Try.f39)] from by kernel_rfl]
    exact (allM_cons (loop_ok2 (e := le39_4 (G39_4 FUEL)) rfl rfl lok39_4) allM_nil)) (fun R x k => q39 (G39_4 FUEL) F39 R x k)
/-! drawlot/drawlotlaw20.CommitPuts -/
abbrev FT9 : Type 1 := (R : Type) → (List (Int × ((List Int) × (Bool × ((List Int) × Unit))))) → Int → (List Int) → (Bool → Option R) → Option R
def en9 (F : FT9) : Ent := ⟨9, [(false, (.sl (.pair (.int .i64) (.pair (.arr 32 (.int .u8)) (.pair .bool (.pair (.arr 32 (.int .u8)) .unit)))))), (false, (.int .i64)), (false, (.arr 32 (.int .u8)))], [(false, .bool)], fun R x k => F R x.1 x.2.1 x.2.2.1 (fun y1 => k (y1, ()) ())⟩
def res9 : List (ResultVar × TypeId × Bool) := [(.tmp 6, 4, false)]
def e9 (F34 : FT34) (F35 : FT35) (F36 : FT36) (F37 : FT37) (F38 : FT38) (F39 : FT39) (R : Type) : Env R := ⟨TT, EQT, 0, 75, ownOf [(5, 0)], callOf [en34 F34, en35 F35, en36 F36, en37 F37, en38 F38, en39 F39] R, loopOf [] R, []⟩
def p9 (F34 : FT34) (F35 : FT35) (F36 : FT36) (F37 : FT37) (F38 : FT38) (F39 : FT39) : FT9 := fun R a0 a1 a2 k =>
F34 R  fun y1 =>
(match (!y1) with
| true => k false
| false => let v2 : Int := (List.length a0 : Int);
let v3 : Bool := (decide (v2 > (100 : Int)));
(match v3 with
| true => k true
| false => let v4 : (List (Int × ((List Int) × (Bool × ((List Int) × Unit))))) := ([] : (List (Int × ((List Int) × (Bool × ((List Int) × Unit))))));
(match (decide (List.length v4 + List.length a0 ≤ 1759218604441)) with
| true => let v5 : (List (Int × ((List Int) × (Bool × ((List Int) × Unit))))) := (v4 ++ a0);
F35 R v5 a1 a2 fun y6 y7 =>
F36 R a0 a1 a2 fun y8 y9 =>
F37 R v5 a1 a2 fun y10 y11 =>
F38 R a0 a1 a2 fun y12 y13 =>
F39 R y6 y8 fun y14 =>
(match y14 with
| true => let v15 : Bool := (y7 == y9);
(match v15 with
| true => F39 R y10 y12 fun y16 =>
(match y16 with
| true => let v17 : Bool := (y11 == y13);
(match v17 with
| true => F39 R v5 a0 fun y18 =>
k y18
| false => k false)
| false => k false)
| false => k false)
| false => k false)
| false => none)))
theorem q9 (F34 : FT34) (F35 : FT35) (F36 : FT36) (F37 : FT37) (F38 : FT38) (F39 : FT39) (F : FT9) (R : Type) (x : AT (en9 F).ins) (k : RT (en9 F).outs → PT (en9 F).ins → Option R) :
  xfun (e9 F34 F35 F36 F37 F38 F39 R) (codeOf Try.f9) res9 (avs (en9 F).ins x) (finK (en9 F).outs (en9 F).ins k) = p9 F34 F35 F36 F37 F38 F39 R x.1 x.2.1 x.2.2.1 (fun y1 => k (y1, ()) ()) := by kernel_rfl
noncomputable def F9 : FT9 := p9 F34 F35 F36 F37 F38 F39
theorem env9 (R : Type) : EnvOK Try.prog (e9 F34 F35 F36 F37 F38 F39 R) := ⟨tabOK, eqOK, callOf_ok (allE_cons ok34 (allE_cons ok35 (allE_cons ok36 (allE_cons ok37 (allE_cons ok38 (allE_cons ok39 allE_nil)))))), noIns⟩
theorem ok9 : (en9 F9).OK Try.prog :=
  ent_ok (Ef := fun R => e9 F34 F35 F36 F37 F38 F39 R) (fun R => env9 R) mixed Try.func9 (body := codeOf Try.f9) (by kernel_rfl) (by kernel_rfl) (np := 0) (nt := 75) (fun _ => rfl) (fun _ => rfl) (by kernel_rfl) (res := res9) (by kernel_rfl) (fun _ => rfl) (fun _ => Nat.le_of_ble_eq_true rfl) (by
    intro R
    rw [show loopsOf (codeOf Try.f9) = [] from by kernel_rfl]
    exact allM_nil) (fun R x k => q9 F34 F35 F36 F37 F38 F39 F9 R x k)
/-! drawlot/drawlotref20.Find -/
abbrev FT41 : Type 1 := (R : Type) → (List (Int × ((List Int) × (Bool × ((List Int) × Unit))))) → Int → ((Int × ((List Int) × (Bool × ((List Int) × Unit)))) → Bool → Option R) → Option R
def en41 (F : FT41) : Ent := ⟨41, [(false, (.sl (.pair (.int .i64) (.pair (.arr 32 (.int .u8)) (.pair .bool (.pair (.arr 32 (.int .u8)) .unit)))))), (false, (.int .i64))], [(false, (.pair (.int .i64) (.pair (.arr 32 (.int .u8)) (.pair .bool (.pair (.arr 32 (.int .u8)) .unit))))), (false, .bool)], fun R x k => F R x.1 x.2.1 (fun y1 y2 => k (y1, y2, ()) ())⟩
def res41 : List (ResultVar × TypeId × Bool) := [(.cell 4 63, 63, false), (.tmp 5, 4, false)]
def e41 (F86 : FT86) (R : Type) : Env R := ⟨TT, EQT, 0, 17, ownOf [], callOf [en86 F86] R, loopOf [] R, []⟩
def p41 (F86 : FT86) : FT41 := fun R a0 a1 k =>
F86 R a0 a1 fun y1 =>
let v2 : Bool := (decide (y1 < (0 : Int)));
(match v2 with
| true => k ((0 : Int), (List.replicate 32 (0 : Int)), false, (List.replicate 32 (0 : Int)), ()) false
| false => (match (bnd y1 (List.length a0 : Int)) with
| true => let v3 : (Int × ((List Int) × (Bool × ((List Int) × Unit)))) := (List.getD a0 (Int.toNat y1) ((0 : Int), (List.replicate 32 (0 : Int)), false, (List.replicate 32 (0 : Int)), ()));
k v3 true
| false => none))
theorem q41 (F86 : FT86) (F : FT41) (R : Type) (x : AT (en41 F).ins) (k : RT (en41 F).outs → PT (en41 F).ins → Option R) :
  xfun (e41 F86 R) (codeOf Try.f41) res41 (avs (en41 F).ins x) (finK (en41 F).outs (en41 F).ins k) = p41 F86 R x.1 x.2.1 (fun y1 y2 => k (y1, y2, ()) ()) := by kernel_rfl
noncomputable def F41 : FT41 := p41 F86
theorem env41 (R : Type) : EnvOK Try.prog (e41 F86 R) := ⟨tabOK, eqOK, callOf_ok (allE_cons ok86 allE_nil), noIns⟩
theorem ok41 : (en41 F41).OK Try.prog :=
  ent_ok (Ef := fun R => e41 F86 R) (fun R => env41 R) mixed Try.func41 (body := codeOf Try.f41) (by kernel_rfl) (by kernel_rfl) (np := 0) (nt := 17) (fun _ => rfl) (fun _ => rfl) (by kernel_rfl) (res := res41) (by kernel_rfl) (fun _ => rfl) (fun _ => Nat.le_of_ble_eq_true rfl) (by
    intro R
    rw [show loopsOf (codeOf Try.f41) = [] from by kernel_rfl]
    exact allM_nil) (fun R x k => q41 F86 F41 R x k)
/-! drawlot/drawlotref18.Xor -/
abbrev FT51 : Type 1 := (R : Type) → (List (List Int)) → ((List Int) → Option R) → Option R
def en51 (F : FT51) : Ent := ⟨51, [(false, (.sl (.arr 32 (.int .u8))))], [(false, (.arr 32 (.int .u8)))], fun R x k => F R x.1 (fun y1 => k (y1, ()) ())⟩
def res51 : List (ResultVar × TypeId × Bool) := [(.cell 2 26, 26, false)]
abbrev LT51_3 : Type 1 := (R : Type) → (List (List Int)) → Int → (List Int) → (List Int) → ((List Int) → (List Int) → Option R) → Option R
def le51_3 (L : LT51_3) : LEnt := ⟨3, [.val 0 (.sl (.arr 32 (.int .u8))), .fix 2 (.ptr 0 [] (.arr 32 (.int .u8))), .fix 3 (.ptr 1 [] (.arr 32 (.int .u8))), .val 4 (.int .i64), .var 0 (.arr 32 (.int .u8)) false, .var 1 (.arr 32 (.int .u8)) false], 2, [(.exit 0, [.fix 2 (.ptr 0 [] (.arr 32 (.int .u8))), .fix 3 (.ptr 1 [] (.arr 32 (.int .u8))), .var 0 (.arr 32 (.int .u8)) false, .var 1 (.arr 32 (.int .u8)) false])], fun R x ke => L R x.1 x.2.1 x.2.2.1 x.2.2.2.1 (fun y1 y2 => ke.1 (y1, y2, ()))⟩
abbrev LT51_6 : Type 1 := (R : Type) → (List (List Int)) → Int → Int → (List Int) → (List Int) → ((List (List Int)) → Int → (List Int) → (List Int) → Option R) → Option R
def le51_6 (L : LT51_6) : LEnt := ⟨6, [.val 0 (.sl (.arr 32 (.int .u8))), .fix 2 (.ptr 0 [] (.arr 32 (.int .u8))), .fix 3 (.ptr 1 [] (.arr 32 (.int .u8))), .val 4 (.int .i64), .val 5 (.int .i64), .var 0 (.arr 32 (.int .u8)) false, .var 1 (.arr 32 (.int .u8)) false], 2, [(.exit 2, [.val 0 (.sl (.arr 32 (.int .u8))), .fix 2 (.ptr 0 [] (.arr 32 (.int .u8))), .fix 3 (.ptr 1 [] (.arr 32 (.int .u8))), .val 4 (.int .i64), .var 0 (.arr 32 (.int .u8)) false, .var 1 (.arr 32 (.int .u8)) false])], fun R x ke => L R x.1 x.2.1 x.2.2.1 x.2.2.2.1 x.2.2.2.2.1 (fun y1 y2 y3 y4 => ke.1 (y1, y2, y3, y4, ()))⟩
def e51 (L3 : LT51_3) (L6 : LT51_6) (R : Type) : Env R := ⟨TT, EQT, 0, 29, ownOf [], callOf [] R, loopOf [le51_3 L3, le51_6 L6] R, []⟩
def p51_6 : (R : Type) → (List (List Int)) → Int → Int → (List Int) → (List Int) → ((List (List Int)) → Int → Int → (List Int) → (List Int) → Option R) → ((List (List Int)) → Int → (List Int) → (List Int) → Option R) → Option R := fun R x1 x2 x3 x4 x5 kc k0 =>
let v6 : Bool := (decide (x3 < (32 : Int)));
(match v6 with
| true => (match (bnd x3 (32 : Int)) with
| true => let v7 : Int := (List.getD x5 (Int.toNat x3) (0 : Int));
(match (bnd x2 (List.length x1 : Int)) with
| true => (match (bnd x3 (32 : Int)) with
| true => let v8 : Int := (List.getD (List.getD x1 (Int.toNat x2) (List.replicate 32 (0 : Int))) (Int.toNat x3) (0 : Int));
let v9 : Int := (ixor .u8 v7 v8);
(match (bnd x3 (32 : Int)) with
| true => let v10 : (List Int) := (List.set x5 (Int.toNat x3) v9);
let v11 : Int := (IntKind.i64.wrap (x3 + (1 : Int)));
kc x1 x2 v11 x4 v10
| false => none)
| false => none)
| false => none)
| false => none)
| false => k0 x1 x2 x4 x5)
theorem q51_6 (L3 : LT51_3) (L6 : LT51_6) (R : Type) (x : HT (le51_6 L6).H) (kc : HT (le51_6 L6).H → Option R) (ke : KT R (le51_6 L6).exs) :
  exec (e51 L3 L6 R) (lcode 6 (codeOf Try.f51)) (stOf (le51_6 L6).H x 2) (roundK (le51_6 L6).H (le51_6 L6).exs kc ke) =
    p51_6 R x.1 x.2.1 x.2.2.1 x.2.2.2.1 x.2.2.2.2.1 (fun x1 x2 x3 x4 x5 => kc (x1, x2, x3, x4, x5, ())) (fun y1 y2 y3 y4 => ke.1 (y1, y2, y3, y4, ())) := by kernel_rfl
noncomputable def G51_6 : Nat → LT51_6
  | 0 => fun _ _ _ _ _ _ _ => none
  | n + 1 => fun R x1 x2 x3 x4 x5 k0 => p51_6 R x1 x2 x3 x4 x5 (fun x1 x2 x3 x4 x5 => G51_6 n R x1 x2 x3 x4 x5 k0) k0
def p51_3 (L6 : LT51_6) : (R : Type) → (List (List Int)) → Int → (List Int) → (List Int) → ((List (List Int)) → Int → (List Int) → (List Int) → Option R) → ((List Int) → (List Int) → Option R) → Option R := fun R x1 x2 x3 x4 kc k0 =>
let v5 : Int := (List.length x1 : Int);
let v6 : Bool := (decide (x2 < v5));
(match v6 with
| true => L6 R x1 x2 (0 : Int) x3 x4 (fun x7 x8 x9 x10 =>
let v11 : Int := (IntKind.i64.wrap (x8 + (1 : Int)));
kc x7 v11 x9 x10)
| false => k0 x3 x4)
theorem q51_3 (L3 : LT51_3) (L6 : LT51_6) (R : Type) (x : HT (le51_3 L3).H) (kc : HT (le51_3 L3).H → Option R) (ke : KT R (le51_3 L3).exs) :
  exec (e51 L3 L6 R) (lcode 3 (codeOf Try.f51)) (stOf (le51_3 L3).H x 2) (roundK (le51_3 L3).H (le51_3 L3).exs kc ke) =
    p51_3 L6 R x.1 x.2.1 x.2.2.1 x.2.2.2.1 (fun x1 x2 x3 x4 => kc (x1, x2, x3, x4, ())) (fun y1 y2 => ke.1 (y1, y2, ())) := by kernel_rfl
noncomputable def G51_3 : Nat → LT51_3
  | 0 => fun _ _ _ _ _ _ => none
  | n + 1 => fun R x1 x2 x3 x4 k0 => p51_3 (G51_6 FUEL) R x1 x2 x3 x4 (fun x1 x2 x3 x4 => G51_3 n R x1 x2 x3 x4 k0) k0
def p51 (L3 : LT51_3) : FT51 := fun R a0 k =>
L3 R a0 (0 : Int) (List.replicate 32 (0 : Int)) (List.replicate 32 (0 : Int)) (fun x1 x2 =>
k x2)
theorem q51 (L3 : LT51_3) (L6 : LT51_6) (F : FT51) (R : Type) (x : AT (en51 F).ins) (k : RT (en51 F).outs → PT (en51 F).ins → Option R) :
  xfun (e51 L3 L6 R) (codeOf Try.f51) res51 (avs (en51 F).ins x) (finK (en51 F).outs (en51 F).ins k) = p51 L3 R x.1 (fun y1 => k (y1, ()) ()) := by kernel_rfl
noncomputable def F51 : FT51 := p51 (G51_3 FUEL)
theorem env51 (R : Type) : EnvOK Try.prog (e51 (G51_3 FUEL) (G51_6 FUEL) R) := ⟨tabOK, eqOK, callOf_ok allE_nil, noIns⟩
noncomputable def T51_6 : (R : Type) → HT (le51_6 (G51_6 FUEL)).H → (HT (le51_6 (G51_6 FUEL)).H → Option R) → KT R (le51_6 (G51_6 FUEL)).exs → Option R := fun R x kc ke => p51_6 R x.1 x.2.1 x.2.2.1 x.2.2.2.1 x.2.2.2.2.1 (fun x1 x2 x3 x4 x5 => kc (x1, x2, x3, x4, x5, ())) (fun y1 y2 y3 y4 => ke.1 (y1, y2, y3, y4, ()))
theorem it51_6 : ∀ (n : Nat) (R : Type) (x : HT (le51_6 (G51_6 FUEL)).H) (ke : KT R (le51_6 (G51_6 FUEL)).exs), iter T51_6 n R x ke = G51_6 n R x.1 x.2.1 x.2.2.1 x.2.2.2.1 x.2.2.2.2.1 (fun y1 y2 y3 y4 => ke.1 (y1, y2, y3, y4, ())) := by
  intro n
  induction n with
  | zero => intro R x ke; rfl
  | succ n ih =>
    intro R x ke
    show T51_6 R x (fun x' => iter T51_6 n R x' ke) ke = _
    rw [show (fun x' => iter T51_6 n R x' ke) = fun x => G51_6 n R x.1 x.2.1 x.2.2.1 x.2.2.2.1 x.2.2.2.2.1 (fun y1 y2 y3 y4 => ke.1 (y1, y2, y3, y4, ())) from funext fun x' => ih R x' ke]
    rfl
theorem lok51_6 : (le51_6 (G51_6 FUEL)).OK Try.prog 0 29 (lcode 6 (codeOf Try.f51)) := fun R x ke r h =>
  iter_sound (fun R => e51 (G51_3 FUEL) (G51_6 FUEL) R) 0 29 (fun _ => rfl) (fun _ => rfl) (fun R => env51 R) mixed (by
    intro R
    rw [show loopsOf (lcode 6 (codeOf Try.f51)) = [] from by kernel_rfl]
    exact allM_nil) (T := T51_6) (fun R x kc ke => q51_6 (G51_3 FUEL) (G51_6 FUEL) R x kc ke) FUEL R x ke r ((it51_6 FUEL R x ke).trans h)
noncomputable def T51_3 : (R : Type) → HT (le51_3 (G51_3 FUEL)).H → (HT (le51_3 (G51_3 FUEL)).H → Option R) → KT R (le51_3 (G51_3 FUEL)).exs → Option R := fun R x kc ke => p51_3 (G51_6 FUEL) R x.1 x.2.1 x.2.2.1 x.2.2.2.1 (fun x1 x2 x3 x4 => kc (x1, x2, x3, x4, ())) (fun y1 y2 => ke.1 (y1, y2, ()))
theorem it51_3 : ∀ (n : Nat) (R : Type) (x : HT (le51_3 (G51_3 FUEL)).H) (ke : KT R (le51_3 (G51_3 FUEL)).exs), iter T51_3 n R x ke = G51_3 n R x.1 x.2.1 x.2.2.1 x.2.2.2.1 (fun y1 y2 => ke.1 (y1, y2, ())) := by
  intro n
  induction n with
  | zero => intro R x ke; rfl
  | succ n ih =>
    intro R x ke
    show T51_3 R x (fun x' => iter T51_3 n R x' ke) ke = _
    rw [show (fun x' => iter T51_3 n R x' ke) = fun x => G51_3 n R x.1 x.2.1 x.2.2.1 x.2.2.2.1 (fun y1 y2 => ke.1 (y1, y2, ())) from funext fun x' => ih R x' ke]
    rfl
theorem lok51_3 : (le51_3 (G51_3 FUEL)).OK Try.prog 0 29 (lcode 3 (codeOf Try.f51)) := fun R x ke r h =>
  iter_sound (fun R => e51 (G51_3 FUEL) (G51_6 FUEL) R) 0 29 (fun _ => rfl) (fun _ => rfl) (fun R => env51 R) mixed (by
    intro R
    rw [show loopsOf (lcode 3 (codeOf Try.f51)) = [lcode 6 (codeOf Try.f51)] from by kernel_rfl]
    exact (allM_cons (loop_ok2 (e := le51_6 (G51_6 FUEL)) rfl rfl lok51_6) allM_nil)) (T := T51_3) (fun R x kc ke => q51_3 (G51_3 FUEL) (G51_6 FUEL) R x kc ke) FUEL R x ke r ((it51_3 FUEL R x ke).trans h)
theorem ok51 : (en51 F51).OK Try.prog :=
  ent_ok (Ef := fun R => e51 (G51_3 FUEL) (G51_6 FUEL) R) (fun R => env51 R) mixed Try.func51 (body := codeOf Try.f51) (by kernel_rfl) (by kernel_rfl) (np := 0) (nt := 29) (fun _ => rfl) (fun _ => rfl) (by kernel_rfl) (res := res51) (by kernel_rfl) (fun _ => rfl) (fun _ => Nat.le_of_ble_eq_true rfl) (by
    intro R
    rw [show loopsOf (codeOf Try.f51) = [lcode 3 (codeOf Try.f51)] from by kernel_rfl]
    exact (allM_cons (loop_ok2 (e := le51_3 (G51_3 FUEL)) rfl rfl lok51_3) allM_nil)) (fun R x k => q51 (G51_3 FUEL) (G51_6 FUEL) F51 R x k)
/-! drawlot/drawlotref20.Mix -/
abbrev FT45 : Type 1 := (R : Type) → (List (Int × ((List Int) × (Bool × ((List Int) × Unit))))) → ((List Int) → Option R) → Option R
def en45 (F : FT45) : Ent := ⟨45, [(false, (.sl (.pair (.int .i64) (.pair (.arr 32 (.int .u8)) (.pair .bool (.pair (.arr 32 (.int .u8)) .unit))))))], [(false, (.arr 32 (.int .u8)))], fun R x k => F R x.1 (fun y1 => k (y1, ()) ())⟩
def res45 : List (ResultVar × TypeId × Bool) := [(.cell 2 26, 26, false)]
abbrev LT45_3 : Type 1 := (R : Type) → (List (Int × ((List Int) × (Bool × ((List Int) × Unit))))) → Int → (List Int) → (List (List Int)) → ((List Int) → (List (List Int)) → Option R) → Option R
def le45_3 (L : LT45_3) : LEnt := ⟨3, [.val 0 (.sl (.pair (.int .i64) (.pair (.arr 32 (.int .u8)) (.pair .bool (.pair (.arr 32 (.int .u8)) .unit))))), .fix 2 (.ptr 0 [] (.arr 32 (.int .u8))), .fix 3 (.own 1 0), .val 4 (.int .i64), .var 0 (.arr 32 (.int .u8)) false, .row 1 (.arr 32 (.int .u8)) false], 2, [(.exit 0, [.fix 2 (.ptr 0 [] (.arr 32 (.int .u8))), .fix 3 (.own 1 0), .var 0 (.arr 32 (.int .u8)) false, .row 1 (.arr 32 (.int .u8)) false])], fun R x ke => L R x.1 x.2.1 x.2.2.1 x.2.2.2.1 (fun y1 y2 => ke.1 (y1, y2, ()))⟩
def e45 (F51 : FT51) (L3 : LT45_3) (R : Type) : Env R := ⟨TT, EQT, 0, 26, ownOf [(1, 0)], callOf [en51 F51] R, loopOf [le45_3 L3] R, []⟩
def p45_3 : (R : Type) → (List (Int × ((List Int) × (Bool × ((List Int) × Unit))))) → Int → (List Int) → (List (List Int)) → ((List (Int × ((List Int) × (Bool × ((List Int) × Unit))))) → Int → (List Int) → (List (List Int)) → Option R) → ((List Int) → (List (List Int)) → Option R) → Option R := fun R x1 x2 x3 x4 kc k0 =>
let v5 : Int := (List.length x1 : Int);
let v6 : Bool := (decide (x2 < v5));
(match v6 with
| true => (match (bnd x2 (List.length x1 : Int)) with
| true => let v7 : Bool := (List.getD x1 (Int.toNat x2) ((0 : Int), (List.replicate 32 (0 : Int)), false, (List.replicate 32 (0 : Int)), ())).2.2.1;
(match v7 with
| true => (match (bnd x2 (List.length x1 : Int)) with
| true => let v8 : (List Int) := (List.getD x1 (Int.toNat x2) ((0 : Int), (List.replicate 32 (0 : Int)), false, (List.replicate 32 (0 : Int)), ())).2.2.2.1;
let v9 : (List (List Int)) := ([v8] : (List (List Int)));
(match (decide (List.length x4 + List.length v9 ≤ 4398046511104)) with
| true => let v10 : (List (List Int)) := (x4 ++ v9);
let v11 : Int := (IntKind.i64.wrap (x2 + (1 : Int)));
kc x1 v11 x3 v10
| false => none)
| false => none)
| false => let v12 : Int := (IntKind.i64.wrap (x2 + (1 : Int)));
kc x1 v12 x3 x4)
| false => none)
| false => k0 x3 x4)
theorem q45_3 (F51 : FT51) (L3 : LT45_3) (R : Type) (x : HT (le45_3 L3).H) (kc : HT (le45_3 L3).H → Option R) (ke : KT R (le45_3 L3).exs) :
  exec (e45 F51 L3 R) (lcode 3 (codeOf Try.f45)) (stOf (le45_3 L3).H x 2) (roundK (le45_3 L3).H (le45_3 L3).exs kc ke) =
    p45_3 R x.1 x.2.1 x.2.2.1 x.2.2.2.1 (fun x1 x2 x3 x4 => kc (x1, x2, x3, x4, ())) (fun y1 y2 => ke.1 (y1, y2, ())) := by kernel_rfl
noncomputable def G45_3 : Nat → LT45_3
  | 0 => fun _ _ _ _ _ _ => none
  | n + 1 => fun R x1 x2 x3 x4 k0 => p45_3 R x1 x2 x3 x4 (fun x1 x2 x3 x4 => G45_3 n R x1 x2 x3 x4 k0) k0
def p45 (F51 : FT51) (L3 : LT45_3) : FT45 := fun R a0 k =>
L3 R a0 (0 : Int) (List.replicate 32 (0 : Int)) ([] : (List (List Int))) (fun x1 x2 =>
F51 R x2 fun y3 =>
k y3)
theorem q45 (F51 : FT51) (L3 : LT45_3) (F : FT45) (R : Type) (x : AT (en45 F).ins) (k : RT (en45 F).outs → PT (en45 F).ins → Option R) :
  xfun (e45 F51 L3 R) (codeOf Try.f45) res45 (avs (en45 F).ins x) (finK (en45 F).outs (en45 F).ins k) = p45 F51 L3 R x.1 (fun y1 => k (y1, ()) ()) := by kernel_rfl
noncomputable def F45 : FT45 := p45 F51 (G45_3 FUEL)
theorem env45 (R : Type) : EnvOK Try.prog (e45 F51 (G45_3 FUEL) R) := ⟨tabOK, eqOK, callOf_ok (allE_cons ok51 allE_nil), noIns⟩
noncomputable def T45_3 : (R : Type) → HT (le45_3 (G45_3 FUEL)).H → (HT (le45_3 (G45_3 FUEL)).H → Option R) → KT R (le45_3 (G45_3 FUEL)).exs → Option R := fun R x kc ke => p45_3 R x.1 x.2.1 x.2.2.1 x.2.2.2.1 (fun x1 x2 x3 x4 => kc (x1, x2, x3, x4, ())) (fun y1 y2 => ke.1 (y1, y2, ()))
theorem it45_3 : ∀ (n : Nat) (R : Type) (x : HT (le45_3 (G45_3 FUEL)).H) (ke : KT R (le45_3 (G45_3 FUEL)).exs), iter T45_3 n R x ke = G45_3 n R x.1 x.2.1 x.2.2.1 x.2.2.2.1 (fun y1 y2 => ke.1 (y1, y2, ())) := by
  intro n
  induction n with
  | zero => intro R x ke; rfl
  | succ n ih =>
    intro R x ke
    show T45_3 R x (fun x' => iter T45_3 n R x' ke) ke = _
    rw [show (fun x' => iter T45_3 n R x' ke) = fun x => G45_3 n R x.1 x.2.1 x.2.2.1 x.2.2.2.1 (fun y1 y2 => ke.1 (y1, y2, ())) from funext fun x' => ih R x' ke]
    rfl
theorem lok45_3 : (le45_3 (G45_3 FUEL)).OK Try.prog 0 26 (lcode 3 (codeOf Try.f45)) := fun R x ke r h =>
  iter_sound (fun R => e45 F51 (G45_3 FUEL) R) 0 26 (fun _ => rfl) (fun _ => rfl) (fun R => env45 R) mixed (by
    intro R
    rw [show loopsOf (lcode 3 (codeOf Try.f45)) = [] from by kernel_rfl]
    exact allM_nil) (T := T45_3) (fun R x kc ke => q45_3 F51 (G45_3 FUEL) R x kc ke) FUEL R x ke r ((it45_3 FUEL R x ke).trans h)
theorem ok45 : (en45 F45).OK Try.prog :=
  ent_ok (Ef := fun R => e45 F51 (G45_3 FUEL) R) (fun R => env45 R) mixed Try.func45 (body := codeOf Try.f45) (by kernel_rfl) (by kernel_rfl) (np := 0) (nt := 26) (fun _ => rfl) (fun _ => rfl) (by kernel_rfl) (res := res45) (by kernel_rfl) (fun _ => rfl) (fun _ => Nat.le_of_ble_eq_true rfl) (by
    intro R
    rw [show loopsOf (codeOf Try.f45) = [lcode 3 (codeOf Try.f45)] from by kernel_rfl]
    exact (allM_cons (loop_ok2 (e := le45_3 (G45_3 FUEL)) rfl rfl lok45_3) allM_nil)) (fun R x k => q45 F51 (G45_3 FUEL) F45 R x k)
/-! drawlot/drawlotref20.Missed -/
abbrev FT48 : Type 1 := (R : Type) → (List (Int × ((List Int) × (Bool × ((List Int) × Unit))))) → ((List Int) → Option R) → Option R
def en48 (F : FT48) : Ent := ⟨48, [(false, (.sl (.pair (.int .i64) (.pair (.arr 32 (.int .u8)) (.pair .bool (.pair (.arr 32 (.int .u8)) .unit))))))], [(false, (.sl (.int .i64)))], fun R x k => F R x.1 (fun y1 => k (y1, ()) ())⟩
def res48 : List (ResultVar × TypeId × Bool) := [(.tmp 2, 69, false)]
abbrev LT48_3 : Type 1 := (R : Type) → (List (Int × ((List Int) × (Bool × ((List Int) × Unit))))) → Int → (List Int) → ((List Int) → Option R) → Option R
def le48_3 (L : LT48_3) : LEnt := ⟨3, [.val 0 (.sl (.pair (.int .i64) (.pair (.arr 32 (.int .u8)) (.pair .bool (.pair (.arr 32 (.int .u8)) .unit))))), .fix 3 (.own 0 0), .val 4 (.int .i64), .row 0 (.int .i64) false], 1, [(.exit 0, [.fix 3 (.own 0 0), .row 0 (.int .i64) false])], fun R x ke => L R x.1 x.2.1 x.2.2.1 (fun y1 => ke.1 (y1, ()))⟩
def e48 (L3 : LT48_3) (R : Type) : Env R := ⟨TT, EQT, 0, 26, ownOf [(1, 0)], callOf [] R, loopOf [le48_3 L3] R, []⟩
def p48_3 : (R : Type) → (List (Int × ((List Int) × (Bool × ((List Int) × Unit))))) → Int → (List Int) → ((List (Int × ((List Int) × (Bool × ((List Int) × Unit))))) → Int → (List Int) → Option R) → ((List Int) → Option R) → Option R := fun R x1 x2 x3 kc k0 =>
let v4 : Int := (List.length x1 : Int);
let v5 : Bool := (decide (x2 < v4));
(match v5 with
| true => (match (bnd x2 (List.length x1 : Int)) with
| true => let v6 : Bool := (List.getD x1 (Int.toNat x2) ((0 : Int), (List.replicate 32 (0 : Int)), false, (List.replicate 32 (0 : Int)), ())).2.2.1;
(match (!v6) with
| true => (match (bnd x2 (List.length x1 : Int)) with
| true => let v7 : Int := (List.getD x1 (Int.toNat x2) ((0 : Int), (List.replicate 32 (0 : Int)), false, (List.replicate 32 (0 : Int)), ())).1;
let v8 : (List Int) := ([v7] : (List Int));
(match (decide (List.length x3 + List.length v8 ≤ 17592186044416)) with
| true => let v9 : (List Int) := (x3 ++ v8);
let v10 : Int := (IntKind.i64.wrap (x2 + (1 : Int)));
kc x1 v10 v9
| false => none)
| false => none)
| false => let v11 : Int := (IntKind.i64.wrap (x2 + (1 : Int)));
kc x1 v11 x3)
| false => none)
| false => k0 x3)
theorem q48_3 (L3 : LT48_3) (R : Type) (x : HT (le48_3 L3).H) (kc : HT (le48_3 L3).H → Option R) (ke : KT R (le48_3 L3).exs) :
  exec (e48 L3 R) (lcode 3 (codeOf Try.f48)) (stOf (le48_3 L3).H x 1) (roundK (le48_3 L3).H (le48_3 L3).exs kc ke) =
    p48_3 R x.1 x.2.1 x.2.2.1 (fun x1 x2 x3 => kc (x1, x2, x3, ())) (fun y1 => ke.1 (y1, ())) := by kernel_rfl
noncomputable def G48_3 : Nat → LT48_3
  | 0 => fun _ _ _ _ _ => none
  | n + 1 => fun R x1 x2 x3 k0 => p48_3 R x1 x2 x3 (fun x1 x2 x3 => G48_3 n R x1 x2 x3 k0) k0
def p48 (L3 : LT48_3) : FT48 := fun R a0 k =>
L3 R a0 (0 : Int) ([] : (List Int)) (fun x1 =>
k x1)
theorem q48 (L3 : LT48_3) (F : FT48) (R : Type) (x : AT (en48 F).ins) (k : RT (en48 F).outs → PT (en48 F).ins → Option R) :
  xfun (e48 L3 R) (codeOf Try.f48) res48 (avs (en48 F).ins x) (finK (en48 F).outs (en48 F).ins k) = p48 L3 R x.1 (fun y1 => k (y1, ()) ()) := by kernel_rfl
noncomputable def F48 : FT48 := p48 (G48_3 FUEL)
theorem env48 (R : Type) : EnvOK Try.prog (e48 (G48_3 FUEL) R) := ⟨tabOK, eqOK, callOf_ok allE_nil, noIns⟩
noncomputable def T48_3 : (R : Type) → HT (le48_3 (G48_3 FUEL)).H → (HT (le48_3 (G48_3 FUEL)).H → Option R) → KT R (le48_3 (G48_3 FUEL)).exs → Option R := fun R x kc ke => p48_3 R x.1 x.2.1 x.2.2.1 (fun x1 x2 x3 => kc (x1, x2, x3, ())) (fun y1 => ke.1 (y1, ()))
theorem it48_3 : ∀ (n : Nat) (R : Type) (x : HT (le48_3 (G48_3 FUEL)).H) (ke : KT R (le48_3 (G48_3 FUEL)).exs), iter T48_3 n R x ke = G48_3 n R x.1 x.2.1 x.2.2.1 (fun y1 => ke.1 (y1, ())) := by
  intro n
  induction n with
  | zero => intro R x ke; rfl
  | succ n ih =>
    intro R x ke
    show T48_3 R x (fun x' => iter T48_3 n R x' ke) ke = _
    rw [show (fun x' => iter T48_3 n R x' ke) = fun x => G48_3 n R x.1 x.2.1 x.2.2.1 (fun y1 => ke.1 (y1, ())) from funext fun x' => ih R x' ke]
    rfl
theorem lok48_3 : (le48_3 (G48_3 FUEL)).OK Try.prog 0 26 (lcode 3 (codeOf Try.f48)) := fun R x ke r h =>
  iter_sound (fun R => e48 (G48_3 FUEL) R) 0 26 (fun _ => rfl) (fun _ => rfl) (fun R => env48 R) mixed (by
    intro R
    rw [show loopsOf (lcode 3 (codeOf Try.f48)) = [] from by kernel_rfl]
    exact allM_nil) (T := T48_3) (fun R x kc ke => q48_3 (G48_3 FUEL) R x kc ke) FUEL R x ke r ((it48_3 FUEL R x ke).trans h)
theorem ok48 : (en48 F48).OK Try.prog :=
  ent_ok (Ef := fun R => e48 (G48_3 FUEL) R) (fun R => env48 R) mixed Try.func48 (body := codeOf Try.f48) (by kernel_rfl) (by kernel_rfl) (np := 0) (nt := 26) (fun _ => rfl) (fun _ => rfl) (by kernel_rfl) (res := res48) (by kernel_rfl) (fun _ => rfl) (fun _ => Nat.le_of_ble_eq_true rfl) (by
    intro R
    rw [show loopsOf (codeOf Try.f48) = [lcode 3 (codeOf Try.f48)] from by kernel_rfl]
    exact (allM_cons (loop_ok2 (e := le48_3 (G48_3 FUEL)) rfl rfl lok48_3) allM_nil)) (fun R x k => q48 (G48_3 FUEL) F48 R x k)
/-! drawlot/drawlotlaw20.CommitTells -/
abbrev FT10 : Type 1 := (R : Type) → (List (Int × ((List Int) × (Bool × ((List Int) × Unit))))) → (List (Int × ((List Int) × (Bool × ((List Int) × Unit))))) → Int → (Bool → Option R) → Option R
def en10 (F : FT10) : Ent := ⟨10, [(false, (.sl (.pair (.int .i64) (.pair (.arr 32 (.int .u8)) (.pair .bool (.pair (.arr 32 (.int .u8)) .unit)))))), (false, (.sl (.pair (.int .i64) (.pair (.arr 32 (.int .u8)) (.pair .bool (.pair (.arr 32 (.int .u8)) .unit)))))), (false, (.int .i64))], [(false, .bool)], fun R x k => F R x.1 x.2.1 x.2.2.1 (fun y1 => k (y1, ()) ())⟩
def res10 : List (ResultVar × TypeId × Bool) := [(.tmp 6, 4, false)]
def e10 (F34 : FT34) (F39 : FT39) (F40 : FT40) (F41 : FT41) (F42 : FT42) (F43 : FT43) (F44 : FT44) (F45 : FT45) (F46 : FT46) (F47 : FT47) (F48 : FT48) (F49 : FT49) (R : Type) : Env R := ⟨TT, EQT, 0, 71, ownOf [], callOf [en34 F34, en39 F39, en40 F40, en41 F41, en42 F42, en43 F43, en44 F44, en45 F45, en46 F46, en47 F47, en48 F48, en49 F49] R, loopOf [] R, []⟩
def p10 (F34 : FT34) (F39 : FT39) (F40 : FT40) (F41 : FT41) (F42 : FT42) (F43 : FT43) (F44 : FT44) (F45 : FT45) (F46 : FT46) (F47 : FT47) (F48 : FT48) (F49 : FT49) : FT10 := fun R a0 a1 a2 k =>
F34 R  fun y1 =>
(match (!y1) with
| true => k false
| false => let v2 : Int := (List.length a0 : Int);
let v3 : Bool := (decide (v2 > (100 : Int)));
(match v3 with
| true => k true
| false => let v4 : Int := (List.length a1 : Int);
let v5 : Bool := (decide (v4 > (100 : Int)));
(match v5 with
| true => k true
| false => F40 R a0 a2 fun y6 y7 =>
F41 R a0 a2 fun y8 y9 =>
let v10 : Bool := (Kd.eqv (.pair (.int .i64) (.pair (.arr 32 (.int .u8)) (.pair .bool (.pair (.arr 32 (.int .u8)) .unit)))) y6 y8);
(match v10 with
| true => let v11 : Bool := (y7 == y9);
(match v11 with
| true => F42 R a0 fun y12 =>
F43 R a0 fun y13 =>
let v14 : Bool := (y12 == y13);
(match v14 with
| true => F44 R a0 fun y15 =>
F45 R a0 fun y16 =>
let v17 : Bool := (Kd.eqv (.arr 32 (.int .u8)) y15 y16);
(match v17 with
| true => F47 R a0 fun y18 =>
F48 R a0 fun y19 =>
F46 R y18 y19 fun y20 =>
(match y20 with
| true => F49 R a0 a1 fun y21 =>
F39 R a0 a1 fun y22 =>
let v23 : Bool := (y21 == y22);
k v23
| false => k false)
| false => k false)
| false => k false)
| false => k false)
| false => k false))))
theorem q10 (F34 : FT34) (F39 : FT39) (F40 : FT40) (F41 : FT41) (F42 : FT42) (F43 : FT43) (F44 : FT44) (F45 : FT45) (F46 : FT46) (F47 : FT47) (F48 : FT48) (F49 : FT49) (F : FT10) (R : Type) (x : AT (en10 F).ins) (k : RT (en10 F).outs → PT (en10 F).ins → Option R) :
  xfun (e10 F34 F39 F40 F41 F42 F43 F44 F45 F46 F47 F48 F49 R) (codeOf Try.f10) res10 (avs (en10 F).ins x) (finK (en10 F).outs (en10 F).ins k) = p10 F34 F39 F40 F41 F42 F43 F44 F45 F46 F47 F48 F49 R x.1 x.2.1 x.2.2.1 (fun y1 => k (y1, ()) ()) := by kernel_rfl
noncomputable def F10 : FT10 := p10 F34 F39 F40 F41 F42 F43 F44 F45 F46 F47 F48 F49
theorem env10 (R : Type) : EnvOK Try.prog (e10 F34 F39 F40 F41 F42 F43 F44 F45 F46 F47 F48 F49 R) := ⟨tabOK, eqOK, callOf_ok (allE_cons ok34 (allE_cons ok39 (allE_cons ok40 (allE_cons ok41 (allE_cons ok42 (allE_cons ok43 (allE_cons ok44 (allE_cons ok45 (allE_cons ok46 (allE_cons ok47 (allE_cons ok48 (allE_cons ok49 allE_nil)))))))))))), noIns⟩
theorem ok10 : (en10 F10).OK Try.prog :=
  ent_ok (Ef := fun R => e10 F34 F39 F40 F41 F42 F43 F44 F45 F46 F47 F48 F49 R) (fun R => env10 R) mixed Try.func10 (body := codeOf Try.f10) (by kernel_rfl) (by kernel_rfl) (np := 0) (nt := 71) (fun _ => rfl) (fun _ => rfl) (by kernel_rfl) (res := res10) (by kernel_rfl) (fun _ => rfl) (fun _ => Nat.le_of_ble_eq_true rfl) (by
    intro R
    rw [show loopsOf (codeOf Try.f10) = [] from by kernel_rfl]
    exact allM_nil) (fun R x k => q10 F34 F39 F40 F41 F42 F43 F44 F45 F46 F47 F48 F49 F10 R x k)
/-! drawlot/drawlotlaw20.CommitOnce -/
abbrev FT11 : Type 1 := (R : Type) → (List (Int × ((List Int) × (Bool × ((List Int) × Unit))))) → Int → (List Int) → (Bool → Option R) → Option R
def en11 (F : FT11) : Ent := ⟨11, [(false, (.sl (.pair (.int .i64) (.pair (.arr 32 (.int .u8)) (.pair .bool (.pair (.arr 32 (.int .u8)) .unit)))))), (false, (.int .i64)), (false, (.arr 32 (.int .u8)))], [(false, .bool)], fun R x k => F R x.1 x.2.1 x.2.2.1 (fun y1 => k (y1, ()) ())⟩
def res11 : List (ResultVar × TypeId × Bool) := [(.tmp 6, 4, false)]
def e11 (F34 : FT34) (F37 : FT37) (F41 : FT41) (F43 : FT43) (F44 : FT44) (F47 : FT47) (F50 : FT50) (F51 : FT51) (R : Type) : Env R := ⟨TT, EQT, 0, 90, ownOf [], callOf [en34 F34, en37 F37, en41 F41, en43 F43, en44 F44, en47 F47, en50 F50, en51 F51] R, loopOf [] R, []⟩
def p11 (F34 : FT34) (F37 : FT37) (F41 : FT41) (F43 : FT43) (F44 : FT44) (F47 : FT47) (F50 : FT50) (F51 : FT51) : FT11 := fun R a0 a1 a2 k =>
F34 R  fun y1 =>
(match (!y1) with
| true => k false
| false => let v2 : Int := (List.length a0 : Int);
let v3 : Bool := (decide (v2 > (100 : Int)));
(match v3 with
| true => k true
| false => F43 R a0 fun y4 =>
(match (!y4) with
| true => k true
| false => F41 R a0 a1 fun y5 y6 =>
F37 R a0 a1 a2 fun y7 y8 =>
let v9 : Bool := (y8 == (0 : Int));
(match y6 with
| true => let v10 : Bool := (!y5.2.2.1);
(match v10 with
| true => F50 R a2 fun y11 =>
let v12 : Bool := (Kd.eqv (.arr 32 (.int .u8)) y11 y5.2.1);
let v13 : Bool := (!(v9 == v12));
(match v13 with
| true => k false
| false => let v14 : Bool := (y8 != (0 : Int));
(match v14 with
| true => let v15 : Int := (List.length y7 : Int);
let v16 : Bool := (v15 == (0 : Int));
k v16
| false => F37 R y7 a1 a2 fun y17 y18 =>
let v19 : Bool := (y18 == (6 : Int));
(match v19 with
| true => F44 R y7 fun y20 =>
F44 R a0 fun y21 =>
let v22 : (List (List Int)) := ([y21, a2] : (List (List Int)));
F51 R v22 fun y23 =>
let v24 : Bool := (Kd.eqv (.arr 32 (.int .u8)) y20 y23);
(match v24 with
| true => F47 R y7 fun y25 =>
let v26 : Int := (List.length y25 : Int);
F47 R a0 fun y27 =>
let v28 : Int := (List.length y27 : Int);
let v29 : Int := (IntKind.i64.wrap (v28 - (1 : Int)));
let v30 : Bool := (v26 == v29);
(match v30 with
| true => F43 R y7 fun y31 =>
k y31
| false => k false)
| false => k false)
| false => k false)))
| false => let v32 : Bool := (!(v9 == false));
(match v32 with
| true => k false
| false => let v33 : Bool := (y8 != (0 : Int));
(match v33 with
| true => let v34 : Int := (List.length y7 : Int);
let v35 : Bool := (v34 == (0 : Int));
k v35
| false => F37 R y7 a1 a2 fun y36 y37 =>
let v38 : Bool := (y37 == (6 : Int));
(match v38 with
| true => F44 R y7 fun y39 =>
F44 R a0 fun y40 =>
let v41 : (List (List Int)) := ([y40, a2] : (List (List Int)));
F51 R v41 fun y42 =>
let v43 : Bool := (Kd.eqv (.arr 32 (.int .u8)) y39 y42);
(match v43 with
| true => F47 R y7 fun y44 =>
let v45 : Int := (List.length y44 : Int);
F47 R a0 fun y46 =>
let v47 : Int := (List.length y46 : Int);
let v48 : Int := (IntKind.i64.wrap (v47 - (1 : Int)));
let v49 : Bool := (v45 == v48);
(match v49 with
| true => F43 R y7 fun y50 =>
k y50
| false => k false)
| false => k false)
| false => k false))))
| false => let v51 : Bool := (!(v9 == false));
(match v51 with
| true => k false
| false => let v52 : Bool := (y8 != (0 : Int));
(match v52 with
| true => let v53 : Int := (List.length y7 : Int);
let v54 : Bool := (v53 == (0 : Int));
k v54
| false => F37 R y7 a1 a2 fun y55 y56 =>
let v57 : Bool := (y56 == (6 : Int));
(match v57 with
| true => F44 R y7 fun y58 =>
F44 R a0 fun y59 =>
let v60 : (List (List Int)) := ([y59, a2] : (List (List Int)));
F51 R v60 fun y61 =>
let v62 : Bool := (Kd.eqv (.arr 32 (.int .u8)) y58 y61);
(match v62 with
| true => F47 R y7 fun y63 =>
let v64 : Int := (List.length y63 : Int);
F47 R a0 fun y65 =>
let v66 : Int := (List.length y65 : Int);
let v67 : Int := (IntKind.i64.wrap (v66 - (1 : Int)));
let v68 : Bool := (v64 == v67);
(match v68 with
| true => F43 R y7 fun y69 =>
k y69
| false => k false)
| false => k false)
| false => k false)))))))
theorem q11 (F34 : FT34) (F37 : FT37) (F41 : FT41) (F43 : FT43) (F44 : FT44) (F47 : FT47) (F50 : FT50) (F51 : FT51) (F : FT11) (R : Type) (x : AT (en11 F).ins) (k : RT (en11 F).outs → PT (en11 F).ins → Option R) :
  xfun (e11 F34 F37 F41 F43 F44 F47 F50 F51 R) (codeOf Try.f11) res11 (avs (en11 F).ins x) (finK (en11 F).outs (en11 F).ins k) = p11 F34 F37 F41 F43 F44 F47 F50 F51 R x.1 x.2.1 x.2.2.1 (fun y1 => k (y1, ()) ()) := by kernel_rfl
noncomputable def F11 : FT11 := p11 F34 F37 F41 F43 F44 F47 F50 F51
theorem env11 (R : Type) : EnvOK Try.prog (e11 F34 F37 F41 F43 F44 F47 F50 F51 R) := ⟨tabOK, eqOK, callOf_ok (allE_cons ok34 (allE_cons ok37 (allE_cons ok41 (allE_cons ok43 (allE_cons ok44 (allE_cons ok47 (allE_cons ok50 (allE_cons ok51 allE_nil)))))))), noIns⟩
theorem ok11 : (en11 F11).OK Try.prog :=
  ent_ok (Ef := fun R => e11 F34 F37 F41 F43 F44 F47 F50 F51 R) (fun R => env11 R) mixed Try.func11 (body := codeOf Try.f11) (by kernel_rfl) (by kernel_rfl) (np := 0) (nt := 90) (fun _ => rfl) (fun _ => rfl) (by kernel_rfl) (res := res11) (by kernel_rfl) (fun _ => rfl) (fun _ => Nat.le_of_ble_eq_true rfl) (by
    intro R
    rw [show loopsOf (codeOf Try.f11) = [] from by kernel_rfl]
    exact allM_nil) (fun R x k => q11 F34 F37 F41 F43 F44 F47 F50 F51 F11 R x k)
/-! drawlot/drawlotlaw20.CommitOrder -/
abbrev FT12 : Type 1 := (R : Type) → (List (List Int)) → Int → (Bool → Option R) → Option R
def en12 (F : FT12) : Ent := ⟨12, [(false, (.sl (.arr 32 (.int .u8)))), (false, (.int .u8))], [(false, .bool)], fun R x k => F R x.1 x.2.1 (fun y1 => k (y1, ()) ())⟩
def res12 : List (ResultVar × TypeId × Bool) := [(.tmp 4, 4, false)]
abbrev LT12_7 : Type 1 := (R : Type) → (List (List Int)) → Int → (List (Int × ((List Int) × (Bool × ((List Int) × Unit))))) → Int → (Bool → Option R) → ((List (List Int)) → Int → (List (Int × ((List Int) × (Bool × ((List Int) × Unit))))) → Option R) → Option R
def le12_7 (L : LT12_7) : LEnt := ⟨7, [.val 0 (.sl (.arr 32 (.int .u8))), .val 1 (.int .u8), .val 5 (.sl (.pair (.int .i64) (.pair (.arr 32 (.int .u8)) (.pair .bool (.pair (.arr 32 (.int .u8)) .unit))))), .val 6 (.int .i64)], 0, [(.ret, [.val 4 .bool]), (.exit 0, [.val 0 (.sl (.arr 32 (.int .u8))), .val 1 (.int .u8), .val 5 (.sl (.pair (.int .i64) (.pair (.arr 32 (.int .u8)) (.pair .bool (.pair (.arr 32 (.int .u8)) .unit)))))])], fun R x ke => L R x.1 x.2.1 x.2.2.1 x.2.2.2.1 (fun y1 => ke.1 (y1, ())) (fun y1 y2 y3 => ke.2.1 (y1, y2, y3, ()))⟩
abbrev LT12_16 : Type 1 := (R : Type) → (List (List Int)) → (List (Int × ((List Int) × (Bool × ((List Int) × Unit))))) → (List (Int × ((List Int) × (Bool × ((List Int) × Unit))))) → Int → Int → (Bool → Option R) → ((List (List Int)) → (List (Int × ((List Int) × (Bool × ((List Int) × Unit))))) → (List (Int × ((List Int) × (Bool × ((List Int) × Unit))))) → Option R) → Option R
def le12_16 (L : LT12_16) : LEnt := ⟨16, [.val 0 (.sl (.arr 32 (.int .u8))), .val 9 (.sl (.pair (.int .i64) (.pair (.arr 32 (.int .u8)) (.pair .bool (.pair (.arr 32 (.int .u8)) .unit))))), .val 10 (.sl (.pair (.int .i64) (.pair (.arr 32 (.int .u8)) (.pair .bool (.pair (.arr 32 (.int .u8)) .unit))))), .val 11 (.int .i64), .val 12 (.int .i64)], 0, [(.ret, [.val 4 .bool]), (.exit 2, [.val 0 (.sl (.arr 32 (.int .u8))), .val 9 (.sl (.pair (.int .i64) (.pair (.arr 32 (.int .u8)) (.pair .bool (.pair (.arr 32 (.int .u8)) .unit))))), .val 10 (.sl (.pair (.int .i64) (.pair (.arr 32 (.int .u8)) (.pair .bool (.pair (.arr 32 (.int .u8)) .unit)))))])], fun R x ke => L R x.1 x.2.1 x.2.2.1 x.2.2.2.1 x.2.2.2.2.1 (fun y1 => ke.1 (y1, ())) (fun y1 y2 y3 => ke.2.1 (y1, y2, y3, ()))⟩
def e12 (F34 : FT34) (F35 : FT35) (F37 : FT37) (F39 : FT39) (F44 : FT44) (F47 : FT47) (F50 : FT50) (F51 : FT51) (L7 : LT12_7) (L16 : LT12_16) (R : Type) : Env R := ⟨TT, EQT, 0, 111, ownOf [], callOf [en34 F34, en35 F35, en37 F37, en39 F39, en44 F44, en47 F47, en50 F50, en51 F51] R, loopOf [le12_7 L7, le12_16 L16] R, []⟩
def p12_7 (F35 : FT35) (F50 : FT50) : (R : Type) → (List (List Int)) → Int → (List (Int × ((List Int) × (Bool × ((List Int) × Unit))))) → Int → ((List (List Int)) → Int → (List (Int × ((List Int) × (Bool × ((List Int) × Unit))))) → Int → Option R) → (Bool → Option R) → ((List (List Int)) → Int → (List (Int × ((List Int) × (Bool × ((List Int) × Unit))))) → Option R) → Option R := fun R x1 x2 x3 x4 kc k0 k1 =>
let v5 : Int := (List.length x1 : Int);
let v6 : Bool := (decide (x4 < v5));
(match v6 with
| true => (match (bnd x4 (List.length x1 : Int)) with
| true => let v7 : (List Int) := (List.getD x1 (Int.toNat x4) (List.replicate 32 (0 : Int)));
F50 R v7 fun y8 =>
F35 R x3 x4 y8 fun y9 y10 =>
let v11 : Bool := (y10 != (0 : Int));
(match v11 with
| true => k0 false
| false => let v12 : Int := (IntKind.i64.wrap (x4 + (1 : Int)));
kc x1 x2 y9 v12)
| false => none)
| false => k1 x1 x2 x3)
theorem q12_7 (F34 : FT34) (F35 : FT35) (F37 : FT37) (F39 : FT39) (F44 : FT44) (F47 : FT47) (F50 : FT50) (F51 : FT51) (L7 : LT12_7) (L16 : LT12_16) (R : Type) (x : HT (le12_7 L7).H) (kc : HT (le12_7 L7).H → Option R) (ke : KT R (le12_7 L7).exs) :
  exec (e12 F34 F35 F37 F39 F44 F47 F50 F51 L7 L16 R) (lcode 7 (codeOf Try.f12)) (stOf (le12_7 L7).H x 0) (roundK (le12_7 L7).H (le12_7 L7).exs kc ke) =
    p12_7 F35 F50 R x.1 x.2.1 x.2.2.1 x.2.2.2.1 (fun x1 x2 x3 x4 => kc (x1, x2, x3, x4, ())) (fun y1 => ke.1 (y1, ())) (fun y1 y2 y3 => ke.2.1 (y1, y2, y3, ())) := by kernel_rfl
noncomputable def G12_7 : Nat → LT12_7
  | 0 => fun _ _ _ _ _ _ _ => none
  | n + 1 => fun R x1 x2 x3 x4 k0 k1 => p12_7 F35 F50 R x1 x2 x3 x4 (fun x1 x2 x3 x4 => G12_7 n R x1 x2 x3 x4 k0 k1) k0 k1
def p12_16 (F37 : FT37) : (R : Type) → (List (List Int)) → (List (Int × ((List Int) × (Bool × ((List Int) × Unit))))) → (List (Int × ((List Int) × (Bool × ((List Int) × Unit))))) → Int → Int → ((List (List Int)) → (List (Int × ((List Int) × (Bool × ((List Int) × Unit))))) → (List (Int × ((List Int) × (Bool × ((List Int) × Unit))))) → Int → Int → Option R) → (Bool → Option R) → ((List (List Int)) → (List (Int × ((List Int) × (Bool × ((List Int) × Unit))))) → (List (Int × ((List Int) × (Bool × ((List Int) × Unit))))) → Option R) → Option R := fun R x1 x2 x3 x4 x5 kc k0 k1 =>
let v6 : Int := (List.length x1 : Int);
let v7 : Bool := (decide (x5 < v6));
(match v7 with
| true => let v8 : Int := (IntKind.i64.wrap (x5 + x4));
let v9 : Int := (List.length x1 : Int);
(match (!(v9 == 0)) with
| true => let v10 : Int := (Int.tmod v8 v9);
(match (bnd x5 (List.length x1 : Int)) with
| true => let v11 : (List Int) := (List.getD x1 (Int.toNat x5) (List.replicate 32 (0 : Int)));
F37 R x2 x5 v11 fun y12 y13 =>
(match (bnd v10 (List.length x1 : Int)) with
| true => let v14 : (List Int) := (List.getD x1 (Int.toNat v10) (List.replicate 32 (0 : Int)));
F37 R x3 v10 v14 fun y15 y16 =>
let v17 : Bool := (y13 != (0 : Int));
(match v17 with
| true => k0 false
| false => let v18 : Bool := (y16 != (0 : Int));
(match v18 with
| true => k0 false
| false => let v19 : Int := (IntKind.i64.wrap (x5 + (1 : Int)));
kc x1 y12 y15 x4 v19))
| false => none)
| false => none)
| false => none)
| false => k1 x1 x2 x3)
theorem q12_16 (F34 : FT34) (F35 : FT35) (F37 : FT37) (F39 : FT39) (F44 : FT44) (F47 : FT47) (F50 : FT50) (F51 : FT51) (L7 : LT12_7) (L16 : LT12_16) (R : Type) (x : HT (le12_16 L16).H) (kc : HT (le12_16 L16).H → Option R) (ke : KT R (le12_16 L16).exs) :
  exec (e12 F34 F35 F37 F39 F44 F47 F50 F51 L7 L16 R) (lcode 16 (codeOf Try.f12)) (stOf (le12_16 L16).H x 0) (roundK (le12_16 L16).H (le12_16 L16).exs kc ke) =
    p12_16 F37 R x.1 x.2.1 x.2.2.1 x.2.2.2.1 x.2.2.2.2.1 (fun x1 x2 x3 x4 x5 => kc (x1, x2, x3, x4, x5, ())) (fun y1 => ke.1 (y1, ())) (fun y1 y2 y3 => ke.2.1 (y1, y2, y3, ())) := by kernel_rfl
noncomputable def G12_16 : Nat → LT12_16
  | 0 => fun _ _ _ _ _ _ _ _ => none
  | n + 1 => fun R x1 x2 x3 x4 x5 k0 k1 => p12_16 F37 R x1 x2 x3 x4 x5 (fun x1 x2 x3 x4 x5 => G12_16 n R x1 x2 x3 x4 x5 k0 k1) k0 k1
def p12 (F34 : FT34) (F39 : FT39) (F44 : FT44) (F47 : FT47) (F51 : FT51) (L7 : LT12_7) (L16 : LT12_16) : FT12 := fun R a0 a1 k =>
F34 R  fun y1 =>
(match (!y1) with
| true => k false
| false => let v2 : Int := (List.length a0 : Int);
let v3 : Bool := (decide (v2 > (20 : Int)));
(match v3 with
| true => k true
| false => let v4 : Int := (List.length a0 : Int);
let v5 : Bool := (v4 == (0 : Int));
(match v5 with
| true => k true
| false => L7 R a0 a1 ([] : (List (Int × ((List Int) × (Bool × ((List Int) × Unit)))))) (0 : Int) (fun x6 =>
k x6) (fun x7 x8 x9 =>
let v10 : Int := (IntKind.i64.wrap x8);
let v11 : Int := (List.length x7 : Int);
(match (!(v11 == 0)) with
| true => let v12 : Int := (Int.tmod v10 v11);
L16 R x7 x9 x9 v12 (0 : Int) (fun x13 =>
k x13) (fun x14 x15 x16 =>
F39 R x15 x16 fun y17 =>
(match y17 with
| true => F44 R x15 fun y18 =>
F51 R x14 fun y19 =>
let v20 : Bool := (Kd.eqv (.arr 32 (.int .u8)) y18 y19);
(match v20 with
| true => F47 R x15 fun y21 =>
let v22 : Int := (List.length y21 : Int);
let v23 : Bool := (v22 == (0 : Int));
k v23
| false => k false)
| false => k false))
| false => none)))))
theorem q12 (F34 : FT34) (F35 : FT35) (F37 : FT37) (F39 : FT39) (F44 : FT44) (F47 : FT47) (F50 : FT50) (F51 : FT51) (L7 : LT12_7) (L16 : LT12_16) (F : FT12) (R : Type) (x : AT (en12 F).ins) (k : RT (en12 F).outs → PT (en12 F).ins → Option R) :
  xfun (e12 F34 F35 F37 F39 F44 F47 F50 F51 L7 L16 R) (codeOf Try.f12) res12 (avs (en12 F).ins x) (finK (en12 F).outs (en12 F).ins k) = p12 F34 F39 F44 F47 F51 L7 L16 R x.1 x.2.1 (fun y1 => k (y1, ()) ()) := by kernel_rfl
noncomputable def F12 : FT12 := p12 F34 F39 F44 F47 F51 (G12_7 FUEL) (G12_16 FUEL)
theorem env12 (R : Type) : EnvOK Try.prog (e12 F34 F35 F37 F39 F44 F47 F50 F51 (G12_7 FUEL) (G12_16 FUEL) R) := ⟨tabOK, eqOK, callOf_ok (allE_cons ok34 (allE_cons ok35 (allE_cons ok37 (allE_cons ok39 (allE_cons ok44 (allE_cons ok47 (allE_cons ok50 (allE_cons ok51 allE_nil)))))))), noIns⟩
noncomputable def T12_7 : (R : Type) → HT (le12_7 (G12_7 FUEL)).H → (HT (le12_7 (G12_7 FUEL)).H → Option R) → KT R (le12_7 (G12_7 FUEL)).exs → Option R := fun R x kc ke => p12_7 F35 F50 R x.1 x.2.1 x.2.2.1 x.2.2.2.1 (fun x1 x2 x3 x4 => kc (x1, x2, x3, x4, ())) (fun y1 => ke.1 (y1, ())) (fun y1 y2 y3 => ke.2.1 (y1, y2, y3, ()))
theorem it12_7 : ∀ (n : Nat) (R : Type) (x : HT (le12_7 (G12_7 FUEL)).H) (ke : KT R (le12_7 (G12_7 FUEL)).exs), iter T12_7 n R x ke = G12_7 n R x.1 x.2.1 x.2.2.1 x.2.2.2.1 (fun y1 => ke.1 (y1, ())) (fun y1 y2 y3 => ke.2.1 (y1, y2, y3, ())) := by
  intro n
  induction n with
  | zero => intro R x ke; rfl
  | succ n ih =>
    intro R x ke
    show T12_7 R x (fun x' => iter T12_7 n R x' ke) ke = _
    rw [show (fun x' => iter T12_7 n R x' ke) = fun x => G12_7 n R x.1 x.2.1 x.2.2.1 x.2.2.2.1 (fun y1 => ke.1 (y1, ())) (fun y1 y2 y3 => ke.2.1 (y1, y2, y3, ())) from funext fun x' => ih R x' ke]
    rfl
theorem lok12_7 : (le12_7 (G12_7 FUEL)).OK Try.prog 0 111 (lcode 7 (codeOf Try.f12)) := fun R x ke r h =>
  iter_sound (fun R => e12 F34 F35 F37 F39 F44 F47 F50 F51 (G12_7 FUEL) (G12_16 FUEL) R) 0 111 (fun _ => rfl) (fun _ => rfl) (fun R => env12 R) mixed (by
    intro R
    rw [show loopsOf (lcode 7 (codeOf Try.f12)) = [] from by kernel_rfl]
    exact allM_nil) (T := T12_7) (fun R x kc ke => q12_7 F34 F35 F37 F39 F44 F47 F50 F51 (G12_7 FUEL) (G12_16 FUEL) R x kc ke) FUEL R x ke r ((it12_7 FUEL R x ke).trans h)
noncomputable def T12_16 : (R : Type) → HT (le12_16 (G12_16 FUEL)).H → (HT (le12_16 (G12_16 FUEL)).H → Option R) → KT R (le12_16 (G12_16 FUEL)).exs → Option R := fun R x kc ke => p12_16 F37 R x.1 x.2.1 x.2.2.1 x.2.2.2.1 x.2.2.2.2.1 (fun x1 x2 x3 x4 x5 => kc (x1, x2, x3, x4, x5, ())) (fun y1 => ke.1 (y1, ())) (fun y1 y2 y3 => ke.2.1 (y1, y2, y3, ()))
theorem it12_16 : ∀ (n : Nat) (R : Type) (x : HT (le12_16 (G12_16 FUEL)).H) (ke : KT R (le12_16 (G12_16 FUEL)).exs), iter T12_16 n R x ke = G12_16 n R x.1 x.2.1 x.2.2.1 x.2.2.2.1 x.2.2.2.2.1 (fun y1 => ke.1 (y1, ())) (fun y1 y2 y3 => ke.2.1 (y1, y2, y3, ())) := by
  intro n
  induction n with
  | zero => intro R x ke; rfl
  | succ n ih =>
    intro R x ke
    show T12_16 R x (fun x' => iter T12_16 n R x' ke) ke = _
    rw [show (fun x' => iter T12_16 n R x' ke) = fun x => G12_16 n R x.1 x.2.1 x.2.2.1 x.2.2.2.1 x.2.2.2.2.1 (fun y1 => ke.1 (y1, ())) (fun y1 y2 y3 => ke.2.1 (y1, y2, y3, ())) from funext fun x' => ih R x' ke]
    rfl
theorem lok12_16 : (le12_16 (G12_16 FUEL)).OK Try.prog 0 111 (lcode 16 (codeOf Try.f12)) := fun R x ke r h =>
  iter_sound (fun R => e12 F34 F35 F37 F39 F44 F47 F50 F51 (G12_7 FUEL) (G12_16 FUEL) R) 0 111 (fun _ => rfl) (fun _ => rfl) (fun R => env12 R) mixed (by
    intro R
    rw [show loopsOf (lcode 16 (codeOf Try.f12)) = [] from by kernel_rfl]
    exact allM_nil) (T := T12_16) (fun R x kc ke => q12_16 F34 F35 F37 F39 F44 F47 F50 F51 (G12_7 FUEL) (G12_16 FUEL) R x kc ke) FUEL R x ke r ((it12_16 FUEL R x ke).trans h)
theorem ok12 : (en12 F12).OK Try.prog :=
  ent_ok (Ef := fun R => e12 F34 F35 F37 F39 F44 F47 F50 F51 (G12_7 FUEL) (G12_16 FUEL) R) (fun R => env12 R) mixed Try.func12 (body := codeOf Try.f12) (by kernel_rfl) (by kernel_rfl) (np := 0) (nt := 111) (fun _ => rfl) (fun _ => rfl) (by kernel_rfl) (res := res12) (by kernel_rfl) (fun _ => rfl) (fun _ => Nat.le_of_ble_eq_true rfl) (by
    intro R
    rw [show loopsOf (codeOf Try.f12) = [lcode 7 (codeOf Try.f12), lcode 16 (codeOf Try.f12)] from by kernel_rfl]
    exact (allM_cons (loop_ok2 (e := le12_7 (G12_7 FUEL)) rfl rfl lok12_7) (allM_cons (loop_ok2 (e := le12_16 (G12_16 FUEL)) rfl rfl lok12_16) allM_nil))) (fun R x k => q12 F34 F35 F37 F39 F44 F47 F50 F51 (G12_7 FUEL) (G12_16 FUEL) F12 R x k)
/-! drawlot/drawlotlaw20.CommitCounts -/
abbrev FT13 : Type 1 := (R : Type) → (List (Int × ((List Int) × (Bool × ((List Int) × Unit))))) → (Bool → Option R) → Option R
def en13 (F : FT13) : Ent := ⟨13, [(false, (.sl (.pair (.int .i64) (.pair (.arr 32 (.int .u8)) (.pair .bool (.pair (.arr 32 (.int .u8)) .unit))))))], [(false, .bool)], fun R x k => F R x.1 (fun y1 => k (y1, ()) ())⟩
def res13 : List (ResultVar × TypeId × Bool) := [(.tmp 2, 4, false)]
abbrev LT13_7 : Type 1 := (R : Type) → (List (Int × ((List Int) × (Bool × ((List Int) × Unit))))) → Int → (List (Int × ((List Int) × (Bool × ((List Int) × Unit))))) → ((List (Int × ((List Int) × (Bool × ((List Int) × Unit))))) → (List (Int × ((List Int) × (Bool × ((List Int) × Unit))))) → Option R) → Option R
def le13_7 (L : LT13_7) : LEnt := ⟨7, [.val 0 (.sl (.pair (.int .i64) (.pair (.arr 32 (.int .u8)) (.pair .bool (.pair (.arr 32 (.int .u8)) .unit))))), .fix 3 (.own 0 0), .val 4 (.int .i64), .row 0 (.pair (.int .i64) (.pair (.arr 32 (.int .u8)) (.pair .bool (.pair (.arr 32 (.int .u8)) .unit)))) false], 1, [(.exit 0, [.val 0 (.sl (.pair (.int .i64) (.pair (.arr 32 (.int .u8)) (.pair .bool (.pair (.arr 32 (.int .u8)) .unit))))), .fix 3 (.own 0 0), .row 0 (.pair (.int .i64) (.pair (.arr 32 (.int .u8)) (.pair .bool (.pair (.arr 32 (.int .u8)) .unit)))) false])], fun R x ke => L R x.1 x.2.1 x.2.2.1 (fun y1 y2 => ke.1 (y1, y2, ()))⟩
def e13 (F34 : FT34) (F44 : FT44) (F47 : FT47) (L7 : LT13_7) (R : Type) : Env R := ⟨TT, EQT, 0, 52, ownOf [(5, 0)], callOf [en34 F34, en44 F44, en47 F47] R, loopOf [le13_7 L7] R, []⟩
def p13_7 : (R : Type) → (List (Int × ((List Int) × (Bool × ((List Int) × Unit))))) → Int → (List (Int × ((List Int) × (Bool × ((List Int) × Unit))))) → ((List (Int × ((List Int) × (Bool × ((List Int) × Unit))))) → Int → (List (Int × ((List Int) × (Bool × ((List Int) × Unit))))) → Option R) → ((List (Int × ((List Int) × (Bool × ((List Int) × Unit))))) → (List (Int × ((List Int) × (Bool × ((List Int) × Unit))))) → Option R) → Option R := fun R x1 x2 x3 kc k0 =>
let v4 : Int := (List.length x1 : Int);
let v5 : Bool := (decide (x2 < v4));
(match v5 with
| true => (match (bnd x2 (List.length x1 : Int)) with
| true => let v6 : Bool := (List.getD x1 (Int.toNat x2) ((0 : Int), (List.replicate 32 (0 : Int)), false, (List.replicate 32 (0 : Int)), ())).2.2.1;
(match v6 with
| true => (match (bnd x2 (List.length x1 : Int)) with
| true => let v7 : (Int × ((List Int) × (Bool × ((List Int) × Unit)))) := (List.getD x1 (Int.toNat x2) ((0 : Int), (List.replicate 32 (0 : Int)), false, (List.replicate 32 (0 : Int)), ()));
let v8 : (List (Int × ((List Int) × (Bool × ((List Int) × Unit))))) := ([v7] : (List (Int × ((List Int) × (Bool × ((List Int) × Unit))))));
(match (decide (List.length x3 + List.length v8 ≤ 1759218604441)) with
| true => let v9 : (List (Int × ((List Int) × (Bool × ((List Int) × Unit))))) := (x3 ++ v8);
let v10 : Int := (IntKind.i64.wrap (x2 + (1 : Int)));
kc x1 v10 v9
| false => none)
| false => none)
| false => let v11 : Int := (IntKind.i64.wrap (x2 + (1 : Int)));
kc x1 v11 x3)
| false => none)
| false => k0 x1 x3)
theorem q13_7 (F34 : FT34) (F44 : FT44) (F47 : FT47) (L7 : LT13_7) (R : Type) (x : HT (le13_7 L7).H) (kc : HT (le13_7 L7).H → Option R) (ke : KT R (le13_7 L7).exs) :
  exec (e13 F34 F44 F47 L7 R) (lcode 7 (codeOf Try.f13)) (stOf (le13_7 L7).H x 1) (roundK (le13_7 L7).H (le13_7 L7).exs kc ke) =
    p13_7 R x.1 x.2.1 x.2.2.1 (fun x1 x2 x3 => kc (x1, x2, x3, ())) (fun y1 y2 => ke.1 (y1, y2, ())) := by kernel_rfl
noncomputable def G13_7 : Nat → LT13_7
  | 0 => fun _ _ _ _ _ => none
  | n + 1 => fun R x1 x2 x3 k0 => p13_7 R x1 x2 x3 (fun x1 x2 x3 => G13_7 n R x1 x2 x3 k0) k0
def p13 (F34 : FT34) (F44 : FT44) (F47 : FT47) (L7 : LT13_7) : FT13 := fun R a0 k =>
F34 R  fun y1 =>
(match (!y1) with
| true => k false
| false => let v2 : Int := (List.length a0 : Int);
let v3 : Bool := (decide (v2 > (100 : Int)));
(match v3 with
| true => k true
| false => L7 R a0 (0 : Int) ([] : (List (Int × ((List Int) × (Bool × ((List Int) × Unit)))))) (fun x4 x5 =>
F47 R x4 fun y6 =>
let v7 : Int := (List.length y6 : Int);
let v8 : Int := (List.length x5 : Int);
let v9 : Int := (IntKind.i64.wrap (v7 + v8));
let v10 : Int := (List.length x4 : Int);
let v11 : Bool := (v9 == v10);
(match v11 with
| true => F44 R x5 fun y12 =>
F44 R x4 fun y13 =>
let v14 : Bool := (Kd.eqv (.arr 32 (.int .u8)) y12 y13);
(match v14 with
| true => F47 R x5 fun y15 =>
let v16 : Int := (List.length y15 : Int);
let v17 : Bool := (v16 == (0 : Int));
k v17
| false => k false)
| false => k false))))
theorem q13 (F34 : FT34) (F44 : FT44) (F47 : FT47) (L7 : LT13_7) (F : FT13) (R : Type) (x : AT (en13 F).ins) (k : RT (en13 F).outs → PT (en13 F).ins → Option R) :
  xfun (e13 F34 F44 F47 L7 R) (codeOf Try.f13) res13 (avs (en13 F).ins x) (finK (en13 F).outs (en13 F).ins k) = p13 F34 F44 F47 L7 R x.1 (fun y1 => k (y1, ()) ()) := by kernel_rfl
noncomputable def F13 : FT13 := p13 F34 F44 F47 (G13_7 FUEL)
theorem env13 (R : Type) : EnvOK Try.prog (e13 F34 F44 F47 (G13_7 FUEL) R) := ⟨tabOK, eqOK, callOf_ok (allE_cons ok34 (allE_cons ok44 (allE_cons ok47 allE_nil))), noIns⟩
noncomputable def T13_7 : (R : Type) → HT (le13_7 (G13_7 FUEL)).H → (HT (le13_7 (G13_7 FUEL)).H → Option R) → KT R (le13_7 (G13_7 FUEL)).exs → Option R := fun R x kc ke => p13_7 R x.1 x.2.1 x.2.2.1 (fun x1 x2 x3 => kc (x1, x2, x3, ())) (fun y1 y2 => ke.1 (y1, y2, ()))
theorem it13_7 : ∀ (n : Nat) (R : Type) (x : HT (le13_7 (G13_7 FUEL)).H) (ke : KT R (le13_7 (G13_7 FUEL)).exs), iter T13_7 n R x ke = G13_7 n R x.1 x.2.1 x.2.2.1 (fun y1 y2 => ke.1 (y1, y2, ())) := by
  intro n
  induction n with
  | zero => intro R x ke; rfl
  | succ n ih =>
    intro R x ke
    show T13_7 R x (fun x' => iter T13_7 n R x' ke) ke = _
    rw [show (fun x' => iter T13_7 n R x' ke) = fun x => G13_7 n R x.1 x.2.1 x.2.2.1 (fun y1 y2 => ke.1 (y1, y2, ())) from funext fun x' => ih R x' ke]
    rfl
theorem lok13_7 : (le13_7 (G13_7 FUEL)).OK Try.prog 0 52 (lcode 7 (codeOf Try.f13)) := fun R x ke r h =>
  iter_sound (fun R => e13 F34 F44 F47 (G13_7 FUEL) R) 0 52 (fun _ => rfl) (fun _ => rfl) (fun R => env13 R) mixed (by
    intro R
    rw [show loopsOf (lcode 7 (codeOf Try.f13)) = [] from by kernel_rfl]
    exact allM_nil) (T := T13_7) (fun R x kc ke => q13_7 F34 F44 F47 (G13_7 FUEL) R x kc ke) FUEL R x ke r ((it13_7 FUEL R x ke).trans h)
theorem ok13 : (en13 F13).OK Try.prog :=
  ent_ok (Ef := fun R => e13 F34 F44 F47 (G13_7 FUEL) R) (fun R => env13 R) mixed Try.func13 (body := codeOf Try.f13) (by kernel_rfl) (by kernel_rfl) (np := 0) (nt := 52) (fun _ => rfl) (fun _ => rfl) (by kernel_rfl) (res := res13) (by kernel_rfl) (fun _ => rfl) (fun _ => Nat.le_of_ble_eq_true rfl) (by
    intro R
    rw [show loopsOf (codeOf Try.f13) = [lcode 7 (codeOf Try.f13)] from by kernel_rfl]
    exact (allM_cons (loop_ok2 (e := le13_7 (G13_7 FUEL)) rfl rfl lok13_7) allM_nil)) (fun R x k => q13 F34 F44 F47 (G13_7 FUEL) F13 R x k)
/-! drawlot/beacon.New -/
abbrev FT63 : Type 1 := (R : Type) → (List Int) → ((Int × ((List Int) × ((List Int) × ((List (Int × ((List Int) × (Bool × ((List Int) × Unit))))) × Unit)))) → Option R) → Option R
def en63 (F : FT63) : Ent := ⟨63, [(false, (.arr 32 (.int .u8)))], [(false, (.pair (.int .u64) (.pair (.arr 32 (.int .u8)) (.pair (.arr 32 (.int .u8)) (.pair (.sl (.pair (.int .i64) (.pair (.arr 32 (.int .u8)) (.pair .bool (.pair (.arr 32 (.int .u8)) .unit))))) .unit)))))], fun R x k => F R x.1 (fun y1 => k (y1, ()) ())⟩
def res63 : List (ResultVar × TypeId × Bool) := [(.cell 2 77, 77, false)]
def e63 (R : Type) : Env R := ⟨TT, EQT, 0, 5, ownOf [], callOf [] R, loopOf [] R, []⟩
def p63 : FT63 := fun R a0 k =>
k ((0 : Int), a0, (List.replicate 32 (0 : Int)), ([] : (List (Int × ((List Int) × (Bool × ((List Int) × Unit)))))), ())
theorem q63 (F : FT63) (R : Type) (x : AT (en63 F).ins) (k : RT (en63 F).outs → PT (en63 F).ins → Option R) :
  xfun (e63 R) (codeOf Try.f63) res63 (avs (en63 F).ins x) (finK (en63 F).outs (en63 F).ins k) = p63 R x.1 (fun y1 => k (y1, ()) ()) := by kernel_rfl
noncomputable def F63 : FT63 := p63
theorem env63 (R : Type) : EnvOK Try.prog (e63 R) := ⟨tabOK, eqOK, callOf_ok allE_nil, noIns⟩
theorem ok63 : (en63 F63).OK Try.prog :=
  ent_ok (Ef := fun R => e63 R) (fun R => env63 R) mixed Try.func63 (body := codeOf Try.f63) (by kernel_rfl) (by kernel_rfl) (np := 0) (nt := 5) (fun _ => rfl) (fun _ => rfl) (by kernel_rfl) (res := res63) (by kernel_rfl) (fun _ => rfl) (fun _ => Nat.le_of_ble_eq_true rfl) (by
    intro R
    rw [show loopsOf (codeOf Try.f63) = [] from by kernel_rfl]
    exact allM_nil) (fun R x k => q63 F63 R x k)
/-! drawlot/beacon.Right -/
abbrev FT60 : Type 1 := (R : Type) → (Int × ((List Int) × ((List Int) × ((List (Int × ((List Int) × (Bool × ((List Int) × Unit))))) × Unit)))) → (Bool → Option R) → Option R
def en60 (F : FT60) : Ent := ⟨60, [(false, (.pair (.int .u64) (.pair (.arr 32 (.int .u8)) (.pair (.arr 32 (.int .u8)) (.pair (.sl (.pair (.int .i64) (.pair (.arr 32 (.int .u8)) (.pair .bool (.pair (.arr 32 (.int .u8)) .unit))))) .unit)))))], [(false, .bool)], fun R x k => F R x.1 (fun y1 => k (y1, ()) ())⟩
def res60 : List (ResultVar × TypeId × Bool) := [(.tmp 2, 4, false)]
def e60 (F42 : FT42) (F44 : FT44) (R : Type) : Env R := ⟨TT, EQT, 0, 14, ownOf [], callOf [en42 F42, en44 F44] R, loopOf [] R, []⟩
def p60 (F42 : FT42) (F44 : FT44) : FT60 := fun R a0 k =>
F42 R a0.2.2.2.1 fun y1 =>
(match y1 with
| true => F44 R a0.2.2.2.1 fun y2 =>
let v3 : Bool := (Kd.eqv (.arr 32 (.int .u8)) y2 a0.2.2.1);
k v3
| false => k false)
theorem q60 (F42 : FT42) (F44 : FT44) (F : FT60) (R : Type) (x : AT (en60 F).ins) (k : RT (en60 F).outs → PT (en60 F).ins → Option R) :
  xfun (e60 F42 F44 R) (codeOf Try.f60) res60 (avs (en60 F).ins x) (finK (en60 F).outs (en60 F).ins k) = p60 F42 F44 R x.1 (fun y1 => k (y1, ()) ()) := by kernel_rfl
noncomputable def F60 : FT60 := p60 F42 F44
theorem env60 (R : Type) : EnvOK Try.prog (e60 F42 F44 R) := ⟨tabOK, eqOK, callOf_ok (allE_cons ok42 (allE_cons ok44 allE_nil)), noIns⟩
theorem ok60 : (en60 F60).OK Try.prog :=
  ent_ok (Ef := fun R => e60 F42 F44 R) (fun R => env60 R) mixed Try.func60 (body := codeOf Try.f60) (by kernel_rfl) (by kernel_rfl) (np := 0) (nt := 14) (fun _ => rfl) (fun _ => rfl) (by kernel_rfl) (res := res60) (by kernel_rfl) (fun _ => rfl) (fun _ => Nat.le_of_ble_eq_true rfl) (by
    intro R
    rw [show loopsOf (codeOf Try.f60) = [] from by kernel_rfl]
    exact allM_nil) (fun R x k => q60 F42 F44 F60 R x k)
/-! drawlot/mix.Seed -/
abbrev FT95 : Type 1 := (R : Type) → (List Int) → Int → (List Int) → ((List Int) → Option R) → Option R
def en95 (F : FT95) : Ent := ⟨95, [(false, (.arr 32 (.int .u8))), (false, (.int .u64)), (false, (.arr 32 (.int .u8)))], [(false, (.arr 32 (.int .u8)))], fun R x k => F R x.1 x.2.1 x.2.2.1 (fun y1 => k (y1, ()) ())⟩
def res95 : List (ResultVar × TypeId × Bool) := [(.cell 6 26, 26, false)]
def e95 (F120 : FT120) (F126 : FT126) (R : Type) : Env R := ⟨TT, EQT, 0, 15, ownOf [], callOf [en120 F120, en126 F126] R, loopOf [] R, []⟩
def p95 (F120 : FT120) (F126 : FT126) : FT95 := fun R a0 a1 a2 k =>
F126 R a1 fun y1 =>
let v2 : (List (List Int)) := ([(List.take 32 (List.drop 0 a0)), (List.take 8 (List.drop 0 y1)), (List.take 32 (List.drop 0 a2))] : (List (List Int)));
F120 R v2 fun y3 =>
k y3
theorem q95 (F120 : FT120) (F126 : FT126) (F : FT95) (R : Type) (x : AT (en95 F).ins) (k : RT (en95 F).outs → PT (en95 F).ins → Option R) :
  xfun (e95 F120 F126 R) (codeOf Try.f95) res95 (avs (en95 F).ins x) (finK (en95 F).outs (en95 F).ins k) = p95 F120 F126 R x.1 x.2.1 x.2.2.1 (fun y1 => k (y1, ()) ()) := by kernel_rfl
noncomputable def F95 : FT95 := p95 F120 F126
theorem env95 (R : Type) : EnvOK Try.prog (e95 F120 F126 R) := ⟨tabOK, eqOK, callOf_ok (allE_cons ok120 (allE_cons ok126 allE_nil)), noIns⟩
theorem ok95 : (en95 F95).OK Try.prog :=
  ent_ok (Ef := fun R => e95 F120 F126 R) (fun R => env95 R) mixed Try.func95 (body := codeOf Try.f95) (by kernel_rfl) (by kernel_rfl) (np := 0) (nt := 15) (fun _ => rfl) (fun _ => rfl) (by kernel_rfl) (res := res95) (by kernel_rfl) (fun _ => rfl) (fun _ => Nat.le_of_ble_eq_true rfl) (by
    intro R
    rw [show loopsOf (codeOf Try.f95) = [] from by kernel_rfl]
    exact allM_nil) (fun R x k => q95 F120 F126 F95 R x k)
/-! drawlot/beacon.End -/
abbrev FT58 : Type 1 := (R : Type) → (Int × ((List Int) × ((List Int) × ((List (Int × ((List Int) × (Bool × ((List Int) × Unit))))) × Unit)))) → ((Int × ((List Int) × ((List Int) × ((List (Int × ((List Int) × (Bool × ((List Int) × Unit))))) × Unit)))) → (Int × ((List Int) × ((List Int) × ((List Int) × Unit)))) → (List Int) → Int → Option R) → Option R
def en58 (F : FT58) : Ent := ⟨58, [(false, (.pair (.int .u64) (.pair (.arr 32 (.int .u8)) (.pair (.arr 32 (.int .u8)) (.pair (.sl (.pair (.int .i64) (.pair (.arr 32 (.int .u8)) (.pair .bool (.pair (.arr 32 (.int .u8)) .unit))))) .unit)))))], [(false, (.pair (.int .u64) (.pair (.arr 32 (.int .u8)) (.pair (.arr 32 (.int .u8)) (.pair (.sl (.pair (.int .i64) (.pair (.arr 32 (.int .u8)) (.pair .bool (.pair (.arr 32 (.int .u8)) .unit))))) .unit))))), (false, (.pair (.int .u64) (.pair (.arr 32 (.int .u8)) (.pair (.arr 32 (.int .u8)) (.pair (.arr 32 (.int .u8)) .unit))))), (false, (.sl (.int .i64))), (false, (.int .i64))], fun R x k => F R x.1 (fun y1 y2 y3 y4 => k (y1, y2, y3, y4, ()) ())⟩
def res58 : List (ResultVar × TypeId × Bool) := [(.cell 2 77, 77, false), (.cell 3 84, 84, false), (.tmp 4, 69, false), (.tmp 5, 31, false)]
def e58 (F47 : FT47) (F60 : FT60) (F95 : FT95) (R : Type) : Env R := ⟨TT, EQT, 0, 43, ownOf [], callOf [en47 F47, en60 F60, en95 F95] R, loopOf [] R, []⟩
def p58 (F47 : FT47) (F60 : FT60) (F95 : FT95) : FT58 := fun R a0 k =>
F60 R a0 fun y1 =>
(match (!y1) with
| true => k ((0 : Int), (List.replicate 32 (0 : Int)), (List.replicate 32 (0 : Int)), ([] : (List (Int × ((List Int) × (Bool × ((List Int) × Unit)))))), ()) ((0 : Int), (List.replicate 32 (0 : Int)), (List.replicate 32 (0 : Int)), (List.replicate 32 (0 : Int)), ()) ([] : (List Int)) (1 : Int)
| false => let v2 : Bool := (a0.1 == (18446744073709551615 : Int));
(match v2 with
| true => k ((0 : Int), (List.replicate 32 (0 : Int)), (List.replicate 32 (0 : Int)), ([] : (List (Int × ((List Int) × (Bool × ((List Int) × Unit)))))), ()) ((0 : Int), (List.replicate 32 (0 : Int)), (List.replicate 32 (0 : Int)), (List.replicate 32 (0 : Int)), ()) ([] : (List Int)) (3 : Int)
| false => F95 R a0.2.1 a0.1 a0.2.2.1 fun y3 =>
let v4 : Int := (IntKind.u64.wrap (a0.1 + (1 : Int)));
F47 R a0.2.2.2.1 fun y5 =>
k (v4, y3, (List.replicate 32 (0 : Int)), ([] : (List (Int × ((List Int) × (Bool × ((List Int) × Unit)))))), ()) (a0.1, a0.2.1, a0.2.2.1, y3, ()) y5 (0 : Int)))
theorem q58 (F47 : FT47) (F60 : FT60) (F95 : FT95) (F : FT58) (R : Type) (x : AT (en58 F).ins) (k : RT (en58 F).outs → PT (en58 F).ins → Option R) :
  xfun (e58 F47 F60 F95 R) (codeOf Try.f58) res58 (avs (en58 F).ins x) (finK (en58 F).outs (en58 F).ins k) = p58 F47 F60 F95 R x.1 (fun y1 y2 y3 y4 => k (y1, y2, y3, y4, ()) ()) := by kernel_rfl
noncomputable def F58 : FT58 := p58 F47 F60 F95
theorem env58 (R : Type) : EnvOK Try.prog (e58 F47 F60 F95 R) := ⟨tabOK, eqOK, callOf_ok (allE_cons ok47 (allE_cons ok60 (allE_cons ok95 allE_nil))), noIns⟩
theorem ok58 : (en58 F58).OK Try.prog :=
  ent_ok (Ef := fun R => e58 F47 F60 F95 R) (fun R => env58 R) mixed Try.func58 (body := codeOf Try.f58) (by kernel_rfl) (by kernel_rfl) (np := 0) (nt := 43) (fun _ => rfl) (fun _ => rfl) (by kernel_rfl) (res := res58) (by kernel_rfl) (fun _ => rfl) (fun _ => Nat.le_of_ble_eq_true rfl) (by
    intro R
    rw [show loopsOf (codeOf Try.f58) = [] from by kernel_rfl]
    exact allM_nil) (fun R x k => q58 F47 F60 F95 F58 R x k)
/-! drawlot/beacon.may -/
abbrev FT93 : Type 1 := (R : Type) → (Int × ((List Int) × ((List Int) × ((List (Int × ((List Int) × (Bool × ((List Int) × Unit))))) × Unit)))) → Int → Int → (Int → Option R) → Option R
def en93 (F : FT93) : Ent := ⟨93, [(false, (.pair (.int .u64) (.pair (.arr 32 (.int .u8)) (.pair (.arr 32 (.int .u8)) (.pair (.sl (.pair (.int .i64) (.pair (.arr 32 (.int .u8)) (.pair .bool (.pair (.arr 32 (.int .u8)) .unit))))) .unit))))), (false, (.int .i64)), (false, (.int .i64))], [(false, (.int .i64))], fun R x k => F R x.1 x.2.1 x.2.2.1 (fun y1 => k (y1, ()) ())⟩
def res93 : List (ResultVar × TypeId × Bool) := [(.tmp 6, 31, false)]
def e93 (F60 : FT60) (R : Type) : Env R := ⟨TT, EQT, 0, 15, ownOf [], callOf [en60 F60] R, loopOf [] R, []⟩
def p93 (F60 : FT60) : FT93 := fun R a0 a1 a2 k =>
F60 R a0 fun y1 =>
(match (!y1) with
| true => k (1 : Int)
| false => let v2 : Bool := (a1 != a2);
(match v2 with
| true => k (7 : Int)
| false => k (0 : Int)))
theorem q93 (F60 : FT60) (F : FT93) (R : Type) (x : AT (en93 F).ins) (k : RT (en93 F).outs → PT (en93 F).ins → Option R) :
  xfun (e93 F60 R) (codeOf Try.f93) res93 (avs (en93 F).ins x) (finK (en93 F).outs (en93 F).ins k) = p93 F60 R x.1 x.2.1 x.2.2.1 (fun y1 => k (y1, ()) ()) := by kernel_rfl
noncomputable def F93 : FT93 := p93 F60
theorem env93 (R : Type) : EnvOK Try.prog (e93 F60 R) := ⟨tabOK, eqOK, callOf_ok (allE_cons ok60 allE_nil), noIns⟩
theorem ok93 : (en93 F93).OK Try.prog :=
  ent_ok (Ef := fun R => e93 F60 R) (fun R => env93 R) mixed Try.func93 (body := codeOf Try.f93) (by kernel_rfl) (by kernel_rfl) (np := 0) (nt := 15) (fun _ => rfl) (fun _ => rfl) (by kernel_rfl) (res := res93) (by kernel_rfl) (fun _ => rfl) (fun _ => Nat.le_of_ble_eq_true rfl) (by
    intro R
    rw [show loopsOf (codeOf Try.f93) = [] from by kernel_rfl]
    exact allM_nil) (fun R x k => q93 F60 F93 R x k)
/-! drawlot/beacon.with -/
abbrev FT94 : Type 1 := (R : Type) → (Int × ((List Int) × ((List Int) × ((List (Int × ((List Int) × (Bool × ((List Int) × Unit))))) × Unit)))) → (List (Int × ((List Int) × (Bool × ((List Int) × Unit))))) → Int → ((Int × ((List Int) × ((List Int) × ((List (Int × ((List Int) × (Bool × ((List Int) × Unit))))) × Unit)))) → Int → Option R) → Option R
def en94 (F : FT94) : Ent := ⟨94, [(false, (.pair (.int .u64) (.pair (.arr 32 (.int .u8)) (.pair (.arr 32 (.int .u8)) (.pair (.sl (.pair (.int .i64) (.pair (.arr 32 (.int .u8)) (.pair .bool (.pair (.arr 32 (.int .u8)) .unit))))) .unit))))), (false, (.sl (.pair (.int .i64) (.pair (.arr 32 (.int .u8)) (.pair .bool (.pair (.arr 32 (.int .u8)) .unit)))))), (false, (.int .i64))], [(false, (.pair (.int .u64) (.pair (.arr 32 (.int .u8)) (.pair (.arr 32 (.int .u8)) (.pair (.sl (.pair (.int .i64) (.pair (.arr 32 (.int .u8)) (.pair .bool (.pair (.arr 32 (.int .u8)) .unit))))) .unit))))), (false, (.int .i64))], fun R x k => F R x.1 x.2.1 x.2.2.1 (fun y1 y2 => k (y1, y2, ()) ())⟩
def res94 : List (ResultVar × TypeId × Bool) := [(.cell 6 77, 77, false), (.tmp 7, 31, false)]
def e94 (F44 : FT44) (R : Type) : Env R := ⟨TT, EQT, 0, 18, ownOf [], callOf [en44 F44] R, loopOf [] R, []⟩
def p94 (F44 : FT44) : FT94 := fun R a0 a1 a2 k =>
let v1 : Bool := (a2 != (0 : Int));
(match v1 with
| true => k ((0 : Int), (List.replicate 32 (0 : Int)), (List.replicate 32 (0 : Int)), ([] : (List (Int × ((List Int) × (Bool × ((List Int) × Unit)))))), ()) a2
| false => F44 R a1 fun y2 =>
k (a0.1, a0.2.1, y2, a1, a0.2.2.2.2) (0 : Int))
theorem q94 (F44 : FT44) (F : FT94) (R : Type) (x : AT (en94 F).ins) (k : RT (en94 F).outs → PT (en94 F).ins → Option R) :
  xfun (e94 F44 R) (codeOf Try.f94) res94 (avs (en94 F).ins x) (finK (en94 F).outs (en94 F).ins k) = p94 F44 R x.1 x.2.1 x.2.2.1 (fun y1 y2 => k (y1, y2, ()) ()) := by kernel_rfl
noncomputable def F94 : FT94 := p94 F44
theorem env94 (R : Type) : EnvOK Try.prog (e94 F44 R) := ⟨tabOK, eqOK, callOf_ok (allE_cons ok44 allE_nil), noIns⟩
theorem ok94 : (en94 F94).OK Try.prog :=
  ent_ok (Ef := fun R => e94 F44 R) (fun R => env94 R) mixed Try.func94 (body := codeOf Try.f94) (by kernel_rfl) (by kernel_rfl) (np := 0) (nt := 18) (fun _ => rfl) (fun _ => rfl) (by kernel_rfl) (res := res94) (by kernel_rfl) (fun _ => rfl) (fun _ => Nat.le_of_ble_eq_true rfl) (by
    intro R
    rw [show loopsOf (codeOf Try.f94) = [] from by kernel_rfl]
    exact allM_nil) (fun R x k => q94 F44 F94 R x k)
/-! drawlot/beacon.Commit -/
abbrev FT53 : Type 1 := (R : Type) → (Int × ((List Int) × ((List Int) × ((List (Int × ((List Int) × (Bool × ((List Int) × Unit))))) × Unit)))) → Int → Int → (List Int) → ((Int × ((List Int) × ((List Int) × ((List (Int × ((List Int) × (Bool × ((List Int) × Unit))))) × Unit)))) → Int → Option R) → Option R
def en53 (F : FT53) : Ent := ⟨53, [(false, (.pair (.int .u64) (.pair (.arr 32 (.int .u8)) (.pair (.arr 32 (.int .u8)) (.pair (.sl (.pair (.int .i64) (.pair (.arr 32 (.int .u8)) (.pair .bool (.pair (.arr 32 (.int .u8)) .unit))))) .unit))))), (false, (.int .i64)), (false, (.int .i64)), (false, (.arr 32 (.int .u8)))], [(false, (.pair (.int .u64) (.pair (.arr 32 (.int .u8)) (.pair (.arr 32 (.int .u8)) (.pair (.sl (.pair (.int .i64) (.pair (.arr 32 (.int .u8)) (.pair .bool (.pair (.arr 32 (.int .u8)) .unit))))) .unit))))), (false, (.int .i64))], fun R x k => F R x.1 x.2.1 x.2.2.1 x.2.2.2.1 (fun y1 y2 => k (y1, y2, ()) ())⟩
def res53 : List (ResultVar × TypeId × Bool) := [(.cell 8 77, 77, false), (.tmp 9, 31, false)]
def e53 (F35 : FT35) (F93 : FT93) (F94 : FT94) (R : Type) : Env R := ⟨TT, EQT, 0, 34, ownOf [], callOf [en35 F35, en93 F93, en94 F94] R, loopOf [] R, []⟩
def p53 (F35 : FT35) (F93 : FT93) (F94 : FT94) : FT53 := fun R a0 a1 a2 a3 k =>
F93 R a0 a1 (1 : Int) fun y1 =>
let v2 : Bool := (y1 != (0 : Int));
(match v2 with
| true => k ((0 : Int), (List.replicate 32 (0 : Int)), (List.replicate 32 (0 : Int)), ([] : (List (Int × ((List Int) × (Bool × ((List Int) × Unit)))))), ()) y1
| false => F35 R a0.2.2.2.1 a2 a3 fun y3 y4 =>
F94 R a0 y3 y4 fun y5 y6 =>
k y5 y6)
theorem q53 (F35 : FT35) (F93 : FT93) (F94 : FT94) (F : FT53) (R : Type) (x : AT (en53 F).ins) (k : RT (en53 F).outs → PT (en53 F).ins → Option R) :
  xfun (e53 F35 F93 F94 R) (codeOf Try.f53) res53 (avs (en53 F).ins x) (finK (en53 F).outs (en53 F).ins k) = p53 F35 F93 F94 R x.1 x.2.1 x.2.2.1 x.2.2.2.1 (fun y1 y2 => k (y1, y2, ()) ()) := by kernel_rfl
noncomputable def F53 : FT53 := p53 F35 F93 F94
theorem env53 (R : Type) : EnvOK Try.prog (e53 F35 F93 F94 R) := ⟨tabOK, eqOK, callOf_ok (allE_cons ok35 (allE_cons ok93 (allE_cons ok94 allE_nil))), noIns⟩
theorem ok53 : (en53 F53).OK Try.prog :=
  ent_ok (Ef := fun R => e53 F35 F93 F94 R) (fun R => env53 R) mixed Try.func53 (body := codeOf Try.f53) (by kernel_rfl) (by kernel_rfl) (np := 0) (nt := 34) (fun _ => rfl) (fun _ => rfl) (by kernel_rfl) (res := res53) (by kernel_rfl) (fun _ => rfl) (fun _ => Nat.le_of_ble_eq_true rfl) (by
    intro R
    rw [show loopsOf (codeOf Try.f53) = [] from by kernel_rfl]
    exact allM_nil) (fun R x k => q53 F35 F93 F94 F53 R x k)
/-! drawlot/beacon.Reveal -/
abbrev FT55 : Type 1 := (R : Type) → (Int × ((List Int) × ((List Int) × ((List (Int × ((List Int) × (Bool × ((List Int) × Unit))))) × Unit)))) → Int → Int → (List Int) → ((Int × ((List Int) × ((List Int) × ((List (Int × ((List Int) × (Bool × ((List Int) × Unit))))) × Unit)))) → Int → Option R) → Option R
def en55 (F : FT55) : Ent := ⟨55, [(false, (.pair (.int .u64) (.pair (.arr 32 (.int .u8)) (.pair (.arr 32 (.int .u8)) (.pair (.sl (.pair (.int .i64) (.pair (.arr 32 (.int .u8)) (.pair .bool (.pair (.arr 32 (.int .u8)) .unit))))) .unit))))), (false, (.int .i64)), (false, (.int .i64)), (false, (.arr 32 (.int .u8)))], [(false, (.pair (.int .u64) (.pair (.arr 32 (.int .u8)) (.pair (.arr 32 (.int .u8)) (.pair (.sl (.pair (.int .i64) (.pair (.arr 32 (.int .u8)) (.pair .bool (.pair (.arr 32 (.int .u8)) .unit))))) .unit))))), (false, (.int .i64))], fun R x k => F R x.1 x.2.1 x.2.2.1 x.2.2.2.1 (fun y1 y2 => k (y1, y2, ()) ())⟩
def res55 : List (ResultVar × TypeId × Bool) := [(.cell 8 77, 77, false), (.tmp 9, 31, false)]
def e55 (F37 : FT37) (F93 : FT93) (F94 : FT94) (R : Type) : Env R := ⟨TT, EQT, 0, 34, ownOf [], callOf [en37 F37, en93 F93, en94 F94] R, loopOf [] R, []⟩
def p55 (F37 : FT37) (F93 : FT93) (F94 : FT94) : FT55 := fun R a0 a1 a2 a3 k =>
F93 R a0 a1 (2 : Int) fun y1 =>
let v2 : Bool := (y1 != (0 : Int));
(match v2 with
| true => k ((0 : Int), (List.replicate 32 (0 : Int)), (List.replicate 32 (0 : Int)), ([] : (List (Int × ((List Int) × (Bool × ((List Int) × Unit)))))), ()) y1
| false => F37 R a0.2.2.2.1 a2 a3 fun y3 y4 =>
F94 R a0 y3 y4 fun y5 y6 =>
k y5 y6)
theorem q55 (F37 : FT37) (F93 : FT93) (F94 : FT94) (F : FT55) (R : Type) (x : AT (en55 F).ins) (k : RT (en55 F).outs → PT (en55 F).ins → Option R) :
  xfun (e55 F37 F93 F94 R) (codeOf Try.f55) res55 (avs (en55 F).ins x) (finK (en55 F).outs (en55 F).ins k) = p55 F37 F93 F94 R x.1 x.2.1 x.2.2.1 x.2.2.2.1 (fun y1 y2 => k (y1, y2, ()) ()) := by kernel_rfl
noncomputable def F55 : FT55 := p55 F37 F93 F94
theorem env55 (R : Type) : EnvOK Try.prog (e55 F37 F93 F94 R) := ⟨tabOK, eqOK, callOf_ok (allE_cons ok37 (allE_cons ok93 (allE_cons ok94 allE_nil))), noIns⟩
theorem ok55 : (en55 F55).OK Try.prog :=
  ent_ok (Ef := fun R => e55 F37 F93 F94 R) (fun R => env55 R) mixed Try.func55 (body := codeOf Try.f55) (by kernel_rfl) (by kernel_rfl) (np := 0) (nt := 34) (fun _ => rfl) (fun _ => rfl) (by kernel_rfl) (res := res55) (by kernel_rfl) (fun _ => rfl) (fun _ => Nat.le_of_ble_eq_true rfl) (by
    intro R
    rw [show loopsOf (codeOf Try.f55) = [] from by kernel_rfl]
    exact allM_nil) (fun R x k => q55 F37 F93 F94 F55 R x k)
/-! drawlot/beacon.Same -/
abbrev FT62 : Type 1 := (R : Type) → (Int × ((List Int) × ((List Int) × ((List (Int × ((List Int) × (Bool × ((List Int) × Unit))))) × Unit)))) → (Int × ((List Int) × ((List Int) × ((List (Int × ((List Int) × (Bool × ((List Int) × Unit))))) × Unit)))) → (Bool → Option R) → Option R
def en62 (F : FT62) : Ent := ⟨62, [(false, (.pair (.int .u64) (.pair (.arr 32 (.int .u8)) (.pair (.arr 32 (.int .u8)) (.pair (.sl (.pair (.int .i64) (.pair (.arr 32 (.int .u8)) (.pair .bool (.pair (.arr 32 (.int .u8)) .unit))))) .unit))))), (false, (.pair (.int .u64) (.pair (.arr 32 (.int .u8)) (.pair (.arr 32 (.int .u8)) (.pair (.sl (.pair (.int .i64) (.pair (.arr 32 (.int .u8)) (.pair .bool (.pair (.arr 32 (.int .u8)) .unit))))) .unit)))))], [(false, .bool)], fun R x k => F R x.1 x.2.1 (fun y1 => k (y1, ()) ())⟩
def res62 : List (ResultVar × TypeId × Bool) := [(.tmp 4, 4, false)]
def e62 (F49 : FT49) (R : Type) : Env R := ⟨TT, EQT, 0, 31, ownOf [], callOf [en49 F49] R, loopOf [] R, []⟩
def p62 (F49 : FT49) : FT62 := fun R a0 a1 k =>
let v1 : Bool := (a0.1 == a1.1);
(match v1 with
| true => let v2 : Bool := (Kd.eqv (.arr 32 (.int .u8)) a0.2.1 a1.2.1);
(match v2 with
| true => let v3 : Bool := (Kd.eqv (.arr 32 (.int .u8)) a0.2.2.1 a1.2.2.1);
(match v3 with
| true => F49 R a0.2.2.2.1 a1.2.2.2.1 fun y4 =>
k y4
| false => k false)
| false => k false)
| false => k false)
theorem q62 (F49 : FT49) (F : FT62) (R : Type) (x : AT (en62 F).ins) (k : RT (en62 F).outs → PT (en62 F).ins → Option R) :
  xfun (e62 F49 R) (codeOf Try.f62) res62 (avs (en62 F).ins x) (finK (en62 F).outs (en62 F).ins k) = p62 F49 R x.1 x.2.1 (fun y1 => k (y1, ()) ()) := by kernel_rfl
noncomputable def F62 : FT62 := p62 F49
theorem env62 (R : Type) : EnvOK Try.prog (e62 F49 R) := ⟨tabOK, eqOK, callOf_ok (allE_cons ok49 allE_nil), noIns⟩
theorem ok62 : (en62 F62).OK Try.prog :=
  ent_ok (Ef := fun R => e62 F49 R) (fun R => env62 R) mixed Try.func62 (body := codeOf Try.f62) (by kernel_rfl) (by kernel_rfl) (np := 0) (nt := 31) (fun _ => rfl) (fun _ => rfl) (by kernel_rfl) (res := res62) (by kernel_rfl) (fun _ => rfl) (fun _ => Nat.le_of_ble_eq_true rfl) (by
    intro R
    rw [show loopsOf (codeOf Try.f62) = [] from by kernel_rfl]
    exact allM_nil) (fun R x k => q62 F49 F62 R x k)
/-! drawlot/drawlotlaw21.alive -/
abbrev FT52 : Type 1 := (R : Type) → (Bool → Option R) → Option R
def en52 (F : FT52) : Ent := ⟨52, [], [(false, .bool)], fun R x k => F R  (fun y1 => k (y1, ()) ())⟩
def res52 : List (ResultVar × TypeId × Bool) := [(.tmp 0, 4, false)]
def e52 (F46 : FT46) (F50 : FT50) (F53 : FT53) (F55 : FT55) (F58 : FT58) (F60 : FT60) (F62 : FT62) (F63 : FT63) (F91 : FT91) (R : Type) : Env R := ⟨TT, EQT, 0, 146, ownOf [], callOf [en46 F46, en50 F50, en53 F53, en55 F55, en58 F58, en60 F60, en62 F62, en63 F63, en91 F91] R, loopOf [] R, []⟩
def p52 (F46 : FT46) (F50 : FT50) (F53 : FT53) (F55 : FT55) (F58 : FT58) (F60 : FT60) (F62 : FT62) (F63 : FT63) (F91 : FT91) : FT52 := fun R k =>
let v1 : (List Int) := (List.replicate 32 (0 : Int));
F63 R v1 fun y2 =>
F58 R y2 fun y3 y4 y5 y6 =>
let v7 : (List Int) := (List.set (List.replicate 32 (0 : Int)) 0 (7 : Int));
F50 R v7 fun y8 =>
F53 R y2 (1 : Int) (2 : Int) y8 fun y9 y10 =>
F53 R y2 (2 : Int) (2 : Int) v7 fun y11 y12 =>
F55 R y9 (2 : Int) (2 : Int) v7 fun y13 y14 =>
F58 R y9 fun y15 y16 y17 y18 =>
F55 R y9 (3 : Int) (2 : Int) v7 fun y19 y20 =>
F55 R ((0 : Int), (List.replicate 32 (0 : Int)), v7, ([] : (List (Int × ((List Int) × (Bool × ((List Int) × Unit)))))), ()) (2 : Int) (2 : Int) v7 fun y21 y22 =>
let v23 : Bool := (y6 == (0 : Int));
(match v23 with
| true => let v24 : Bool := (y10 == (0 : Int));
(match v24 with
| true => let v25 : Bool := (y12 == (7 : Int));
(match v25 with
| true => let v26 : Bool := (y14 == (0 : Int));
(match v26 with
| true => let v27 : Bool := (y18 == (0 : Int));
(match v27 with
| true => let v28 : Bool := (y20 == (7 : Int));
(match v28 with
| true => let v29 : Bool := (y22 == (1 : Int));
(match v29 with
| true => let v30 : Bool := (y3.1 == (1 : Int));
(match v30 with
| true => let v31 : (List Int) := (List.replicate 72 (0 : Int));
F91 R v31 fun y32 =>
let v33 : Bool := (Kd.eqv (.arr 32 (.int .u8)) y3.2.1 y32);
(match v33 with
| true => let v34 : Bool := (Kd.eqv (.arr 32 (.int .u8)) y4.2.2.2.1 y3.2.1);
(match v34 with
| true => let v35 : Int := (List.length y5 : Int);
let v36 : Bool := (v35 == (0 : Int));
(match v36 with
| true => let v37 : Bool := (Kd.eqv (.arr 32 (.int .u8)) y13.2.2.1 v7);
(match v37 with
| true => let v38 : (List Int) := ([(2 : Int)] : (List Int));
F46 R y17 v38 fun y39 =>
(match y39 with
| true => F60 R y13 fun y40 =>
(match y40 with
| true => F62 R y2 y2 fun y41 =>
(match y41 with
| true => F62 R y9 y13 fun y42 =>
k (!y42)
| false => k false)
| false => k false)
| false => k false)
| false => k false)
| false => k false)
| false => k false)
| false => k false)
| false => k false)
| false => k false)
| false => k false)
| false => k false)
| false => k false)
| false => k false)
| false => k false)
| false => k false)
theorem q52 (F46 : FT46) (F50 : FT50) (F53 : FT53) (F55 : FT55) (F58 : FT58) (F60 : FT60) (F62 : FT62) (F63 : FT63) (F91 : FT91) (F : FT52) (R : Type) (x : AT (en52 F).ins) (k : RT (en52 F).outs → PT (en52 F).ins → Option R) :
  xfun (e52 F46 F50 F53 F55 F58 F60 F62 F63 F91 R) (codeOf Try.f52) res52 (avs (en52 F).ins x) (finK (en52 F).outs (en52 F).ins k) = p52 F46 F50 F53 F55 F58 F60 F62 F63 F91 R  (fun y1 => k (y1, ()) ()) := by kernel_rfl
noncomputable def F52 : FT52 := p52 F46 F50 F53 F55 F58 F60 F62 F63 F91
theorem env52 (R : Type) : EnvOK Try.prog (e52 F46 F50 F53 F55 F58 F60 F62 F63 F91 R) := ⟨tabOK, eqOK, callOf_ok (allE_cons ok46 (allE_cons ok50 (allE_cons ok53 (allE_cons ok55 (allE_cons ok58 (allE_cons ok60 (allE_cons ok62 (allE_cons ok63 (allE_cons ok91 allE_nil))))))))), noIns⟩
theorem ok52 : (en52 F52).OK Try.prog :=
  ent_ok (Ef := fun R => e52 F46 F50 F53 F55 F58 F60 F62 F63 F91 R) (fun R => env52 R) mixed Try.func52 (body := codeOf Try.f52) (by kernel_rfl) (by kernel_rfl) (np := 0) (nt := 146) (fun _ => rfl) (fun _ => rfl) (by kernel_rfl) (res := res52) (by kernel_rfl) (fun _ => rfl) (fun _ => Nat.le_of_ble_eq_true rfl) (by
    intro R
    rw [show loopsOf (codeOf Try.f52) = [] from by kernel_rfl]
    exact allM_nil) (fun R x k => q52 F46 F50 F53 F55 F58 F60 F62 F63 F91 F52 R x k)
/-! drawlot/drawlotref21.Right -/
abbrev FT61 : Type 1 := (R : Type) → (Int × ((List Int) × ((List Int) × ((List (Int × ((List Int) × (Bool × ((List Int) × Unit))))) × Unit)))) → (Bool → Option R) → Option R
def en61 (F : FT61) : Ent := ⟨61, [(false, (.pair (.int .u64) (.pair (.arr 32 (.int .u8)) (.pair (.arr 32 (.int .u8)) (.pair (.sl (.pair (.int .i64) (.pair (.arr 32 (.int .u8)) (.pair .bool (.pair (.arr 32 (.int .u8)) .unit))))) .unit)))))], [(false, .bool)], fun R x k => F R x.1 (fun y1 => k (y1, ()) ())⟩
def res61 : List (ResultVar × TypeId × Bool) := [(.tmp 2, 4, false)]
def e61 (F43 : FT43) (F45 : FT45) (R : Type) : Env R := ⟨TT, EQT, 0, 14, ownOf [], callOf [en43 F43, en45 F45] R, loopOf [] R, []⟩
def p61 (F43 : FT43) (F45 : FT45) : FT61 := fun R a0 k =>
F43 R a0.2.2.2.1 fun y1 =>
(match y1 with
| true => F45 R a0.2.2.2.1 fun y2 =>
let v3 : Bool := (Kd.eqv (.arr 32 (.int .u8)) a0.2.2.1 y2);
k v3
| false => k false)
theorem q61 (F43 : FT43) (F45 : FT45) (F : FT61) (R : Type) (x : AT (en61 F).ins) (k : RT (en61 F).outs → PT (en61 F).ins → Option R) :
  xfun (e61 F43 F45 R) (codeOf Try.f61) res61 (avs (en61 F).ins x) (finK (en61 F).outs (en61 F).ins k) = p61 F43 F45 R x.1 (fun y1 => k (y1, ()) ()) := by kernel_rfl
noncomputable def F61 : FT61 := p61 F43 F45
theorem env61 (R : Type) : EnvOK Try.prog (e61 F43 F45 R) := ⟨tabOK, eqOK, callOf_ok (allE_cons ok43 (allE_cons ok45 allE_nil)), noIns⟩
theorem ok61 : (en61 F61).OK Try.prog :=
  ent_ok (Ef := fun R => e61 F43 F45 R) (fun R => env61 R) mixed Try.func61 (body := codeOf Try.f61) (by kernel_rfl) (by kernel_rfl) (np := 0) (nt := 14) (fun _ => rfl) (fun _ => rfl) (by kernel_rfl) (res := res61) (by kernel_rfl) (fun _ => rfl) (fun _ => Nat.le_of_ble_eq_true rfl) (by
    intro R
    rw [show loopsOf (codeOf Try.f61) = [] from by kernel_rfl]
    exact allM_nil) (fun R x k => q61 F43 F45 F61 R x k)
/-! drawlot/drawlotref21.Commit -/
abbrev FT54 : Type 1 := (R : Type) → (Int × ((List Int) × ((List Int) × ((List (Int × ((List Int) × (Bool × ((List Int) × Unit))))) × Unit)))) → Int → Int → (List Int) → ((Int × ((List Int) × ((List Int) × ((List (Int × ((List Int) × (Bool × ((List Int) × Unit))))) × Unit)))) → Int → Option R) → Option R
def en54 (F : FT54) : Ent := ⟨54, [(false, (.pair (.int .u64) (.pair (.arr 32 (.int .u8)) (.pair (.arr 32 (.int .u8)) (.pair (.sl (.pair (.int .i64) (.pair (.arr 32 (.int .u8)) (.pair .bool (.pair (.arr 32 (.int .u8)) .unit))))) .unit))))), (false, (.int .i64)), (false, (.int .i64)), (false, (.arr 32 (.int .u8)))], [(false, (.pair (.int .u64) (.pair (.arr 32 (.int .u8)) (.pair (.arr 32 (.int .u8)) (.pair (.sl (.pair (.int .i64) (.pair (.arr 32 (.int .u8)) (.pair .bool (.pair (.arr 32 (.int .u8)) .unit))))) .unit))))), (false, (.int .i64))], fun R x k => F R x.1 x.2.1 x.2.2.1 x.2.2.2.1 (fun y1 y2 => k (y1, y2, ()) ())⟩
def res54 : List (ResultVar × TypeId × Bool) := [(.cell 8 77, 77, false), (.tmp 9, 31, false)]
def e54 (F36 : FT36) (F61 : FT61) (R : Type) : Env R := ⟨TT, EQT, 0, 34, ownOf [], callOf [en36 F36, en61 F61] R, loopOf [] R, []⟩
def p54 (F36 : FT36) (F61 : FT61) : FT54 := fun R a0 a1 a2 a3 k =>
F61 R a0 fun y1 =>
(match (!y1) with
| true => k ((0 : Int), (List.replicate 32 (0 : Int)), (List.replicate 32 (0 : Int)), ([] : (List (Int × ((List Int) × (Bool × ((List Int) × Unit)))))), ()) (1 : Int)
| false => let v2 : Bool := (a1 != (1 : Int));
(match v2 with
| true => k ((0 : Int), (List.replicate 32 (0 : Int)), (List.replicate 32 (0 : Int)), ([] : (List (Int × ((List Int) × (Bool × ((List Int) × Unit)))))), ()) (7 : Int)
| false => F36 R a0.2.2.2.1 a2 a3 fun y3 y4 =>
let v5 : Bool := (y4 != (0 : Int));
(match v5 with
| true => k ((0 : Int), (List.replicate 32 (0 : Int)), (List.replicate 32 (0 : Int)), ([] : (List (Int × ((List Int) × (Bool × ((List Int) × Unit)))))), ()) y4
| false => k (a0.1, a0.2.1, a0.2.2.1, y3, a0.2.2.2.2) (0 : Int))))
theorem q54 (F36 : FT36) (F61 : FT61) (F : FT54) (R : Type) (x : AT (en54 F).ins) (k : RT (en54 F).outs → PT (en54 F).ins → Option R) :
  xfun (e54 F36 F61 R) (codeOf Try.f54) res54 (avs (en54 F).ins x) (finK (en54 F).outs (en54 F).ins k) = p54 F36 F61 R x.1 x.2.1 x.2.2.1 x.2.2.2.1 (fun y1 y2 => k (y1, y2, ()) ()) := by kernel_rfl
noncomputable def F54 : FT54 := p54 F36 F61
theorem env54 (R : Type) : EnvOK Try.prog (e54 F36 F61 R) := ⟨tabOK, eqOK, callOf_ok (allE_cons ok36 (allE_cons ok61 allE_nil)), noIns⟩
theorem ok54 : (en54 F54).OK Try.prog :=
  ent_ok (Ef := fun R => e54 F36 F61 R) (fun R => env54 R) mixed Try.func54 (body := codeOf Try.f54) (by kernel_rfl) (by kernel_rfl) (np := 0) (nt := 34) (fun _ => rfl) (fun _ => rfl) (by kernel_rfl) (res := res54) (by kernel_rfl) (fun _ => rfl) (fun _ => Nat.le_of_ble_eq_true rfl) (by
    intro R
    rw [show loopsOf (codeOf Try.f54) = [] from by kernel_rfl]
    exact allM_nil) (fun R x k => q54 F36 F61 F54 R x k)
/-! drawlot/drawlotref21.Reveal -/
abbrev FT56 : Type 1 := (R : Type) → (Int × ((List Int) × ((List Int) × ((List (Int × ((List Int) × (Bool × ((List Int) × Unit))))) × Unit)))) → Int → Int → (List Int) → ((Int × ((List Int) × ((List Int) × ((List (Int × ((List Int) × (Bool × ((List Int) × Unit))))) × Unit)))) → Int → Option R) → Option R
def en56 (F : FT56) : Ent := ⟨56, [(false, (.pair (.int .u64) (.pair (.arr 32 (.int .u8)) (.pair (.arr 32 (.int .u8)) (.pair (.sl (.pair (.int .i64) (.pair (.arr 32 (.int .u8)) (.pair .bool (.pair (.arr 32 (.int .u8)) .unit))))) .unit))))), (false, (.int .i64)), (false, (.int .i64)), (false, (.arr 32 (.int .u8)))], [(false, (.pair (.int .u64) (.pair (.arr 32 (.int .u8)) (.pair (.arr 32 (.int .u8)) (.pair (.sl (.pair (.int .i64) (.pair (.arr 32 (.int .u8)) (.pair .bool (.pair (.arr 32 (.int .u8)) .unit))))) .unit))))), (false, (.int .i64))], fun R x k => F R x.1 x.2.1 x.2.2.1 x.2.2.2.1 (fun y1 y2 => k (y1, y2, ()) ())⟩
def res56 : List (ResultVar × TypeId × Bool) := [(.cell 8 77, 77, false), (.tmp 9, 31, false)]
def e56 (F38 : FT38) (F45 : FT45) (F61 : FT61) (R : Type) : Env R := ⟨TT, EQT, 0, 37, ownOf [], callOf [en38 F38, en45 F45, en61 F61] R, loopOf [] R, []⟩
def p56 (F38 : FT38) (F45 : FT45) (F61 : FT61) : FT56 := fun R a0 a1 a2 a3 k =>
F61 R a0 fun y1 =>
(match (!y1) with
| true => k ((0 : Int), (List.replicate 32 (0 : Int)), (List.replicate 32 (0 : Int)), ([] : (List (Int × ((List Int) × (Bool × ((List Int) × Unit)))))), ()) (1 : Int)
| false => let v2 : Bool := (a1 != (2 : Int));
(match v2 with
| true => k ((0 : Int), (List.replicate 32 (0 : Int)), (List.replicate 32 (0 : Int)), ([] : (List (Int × ((List Int) × (Bool × ((List Int) × Unit)))))), ()) (7 : Int)
| false => F38 R a0.2.2.2.1 a2 a3 fun y3 y4 =>
let v5 : Bool := (y4 != (0 : Int));
(match v5 with
| true => k ((0 : Int), (List.replicate 32 (0 : Int)), (List.replicate 32 (0 : Int)), ([] : (List (Int × ((List Int) × (Bool × ((List Int) × Unit)))))), ()) y4
| false => F45 R y3 fun y6 =>
k (a0.1, a0.2.1, y6, y3, a0.2.2.2.2) (0 : Int))))
theorem q56 (F38 : FT38) (F45 : FT45) (F61 : FT61) (F : FT56) (R : Type) (x : AT (en56 F).ins) (k : RT (en56 F).outs → PT (en56 F).ins → Option R) :
  xfun (e56 F38 F45 F61 R) (codeOf Try.f56) res56 (avs (en56 F).ins x) (finK (en56 F).outs (en56 F).ins k) = p56 F38 F45 F61 R x.1 x.2.1 x.2.2.1 x.2.2.2.1 (fun y1 y2 => k (y1, y2, ()) ()) := by kernel_rfl
noncomputable def F56 : FT56 := p56 F38 F45 F61
theorem env56 (R : Type) : EnvOK Try.prog (e56 F38 F45 F61 R) := ⟨tabOK, eqOK, callOf_ok (allE_cons ok38 (allE_cons ok45 (allE_cons ok61 allE_nil))), noIns⟩
theorem ok56 : (en56 F56).OK Try.prog :=
  ent_ok (Ef := fun R => e56 F38 F45 F61 R) (fun R => env56 R) mixed Try.func56 (body := codeOf Try.f56) (by kernel_rfl) (by kernel_rfl) (np := 0) (nt := 37) (fun _ => rfl) (fun _ => rfl) (by kernel_rfl) (res := res56) (by kernel_rfl) (fun _ => rfl) (fun _ => Nat.le_of_ble_eq_true rfl) (by
    intro R
    rw [show loopsOf (codeOf Try.f56) = [] from by kernel_rfl]
    exact allM_nil) (fun R x k => q56 F38 F45 F61 F56 R x k)
/-! drawlot/drawlotref21.Same -/
abbrev FT57 : Type 1 := (R : Type) → (Int × ((List Int) × ((List Int) × ((List (Int × ((List Int) × (Bool × ((List Int) × Unit))))) × Unit)))) → (Int × ((List Int) × ((List Int) × ((List (Int × ((List Int) × (Bool × ((List Int) × Unit))))) × Unit)))) → (Bool → Option R) → Option R
def en57 (F : FT57) : Ent := ⟨57, [(false, (.pair (.int .u64) (.pair (.arr 32 (.int .u8)) (.pair (.arr 32 (.int .u8)) (.pair (.sl (.pair (.int .i64) (.pair (.arr 32 (.int .u8)) (.pair .bool (.pair (.arr 32 (.int .u8)) .unit))))) .unit))))), (false, (.pair (.int .u64) (.pair (.arr 32 (.int .u8)) (.pair (.arr 32 (.int .u8)) (.pair (.sl (.pair (.int .i64) (.pair (.arr 32 (.int .u8)) (.pair .bool (.pair (.arr 32 (.int .u8)) .unit))))) .unit)))))], [(false, .bool)], fun R x k => F R x.1 x.2.1 (fun y1 => k (y1, ()) ())⟩
def res57 : List (ResultVar × TypeId × Bool) := [(.tmp 4, 4, false)]
def e57 (F39 : FT39) (R : Type) : Env R := ⟨TT, EQT, 0, 31, ownOf [], callOf [en39 F39] R, loopOf [] R, []⟩
def p57 (F39 : FT39) : FT57 := fun R a0 a1 k =>
let v1 : Bool := (a0.1 == a1.1);
(match v1 with
| true => let v2 : Bool := (Kd.eqv (.arr 32 (.int .u8)) a0.2.1 a1.2.1);
(match v2 with
| true => let v3 : Bool := (Kd.eqv (.arr 32 (.int .u8)) a0.2.2.1 a1.2.2.1);
(match v3 with
| true => F39 R a0.2.2.2.1 a1.2.2.2.1 fun y4 =>
k y4
| false => k false)
| false => k false)
| false => k false)
theorem q57 (F39 : FT39) (F : FT57) (R : Type) (x : AT (en57 F).ins) (k : RT (en57 F).outs → PT (en57 F).ins → Option R) :
  xfun (e57 F39 R) (codeOf Try.f57) res57 (avs (en57 F).ins x) (finK (en57 F).outs (en57 F).ins k) = p57 F39 R x.1 x.2.1 (fun y1 => k (y1, ()) ()) := by kernel_rfl
noncomputable def F57 : FT57 := p57 F39
theorem env57 (R : Type) : EnvOK Try.prog (e57 F39 R) := ⟨tabOK, eqOK, callOf_ok (allE_cons ok39 allE_nil), noIns⟩
theorem ok57 : (en57 F57).OK Try.prog :=
  ent_ok (Ef := fun R => e57 F39 R) (fun R => env57 R) mixed Try.func57 (body := codeOf Try.f57) (by kernel_rfl) (by kernel_rfl) (np := 0) (nt := 31) (fun _ => rfl) (fun _ => rfl) (by kernel_rfl) (res := res57) (by kernel_rfl) (fun _ => rfl) (fun _ => Nat.le_of_ble_eq_true rfl) (by
    intro R
    rw [show loopsOf (codeOf Try.f57) = [] from by kernel_rfl]
    exact allM_nil) (fun R x k => q57 F39 F57 R x k)
/-! drawlot/drawlotlaw21.BeaconTakes -/
abbrev FT14 : Type 1 := (R : Type) → (Int × ((List Int) × ((List Int) × ((List (Int × ((List Int) × (Bool × ((List Int) × Unit))))) × Unit)))) → (List Int) → (List Int) → (Bool → Option R) → Option R
def en14 (F : FT14) : Ent := ⟨14, [(false, (.pair (.int .u64) (.pair (.arr 32 (.int .u8)) (.pair (.arr 32 (.int .u8)) (.pair (.sl (.pair (.int .i64) (.pair (.arr 32 (.int .u8)) (.pair .bool (.pair (.arr 32 (.int .u8)) .unit))))) .unit))))), (false, (.arr 2 (.int .i64))), (false, (.arr 32 (.int .u8)))], [(false, .bool)], fun R x k => F R x.1 x.2.1 x.2.2.1 (fun y1 => k (y1, ()) ())⟩
def res14 : List (ResultVar × TypeId × Bool) := [(.tmp 6, 4, false)]
def e14 (F52 : FT52) (F53 : FT53) (F54 : FT54) (F55 : FT55) (F56 : FT56) (F57 : FT57) (R : Type) : Env R := ⟨TT, EQT, 0, 96, ownOf [(5, 0)], callOf [en52 F52, en53 F53, en54 F54, en55 F55, en56 F56, en57 F57] R, loopOf [] R, []⟩
def p14 (F52 : FT52) (F53 : FT53) (F54 : FT54) (F55 : FT55) (F56 : FT56) (F57 : FT57) : FT14 := fun R a0 a1 a2 k =>
F52 R  fun y1 =>
(match (!y1) with
| true => k false
| false => let v2 : Int := (List.length a0.2.2.2.1 : Int);
let v3 : Bool := (decide (v2 > (100 : Int)));
(match v3 with
| true => k true
| false => let v4 : (List (Int × ((List Int) × (Bool × ((List Int) × Unit))))) := ([] : (List (Int × ((List Int) × (Bool × ((List Int) × Unit))))));
(match (decide (List.length v4 + List.length a0.2.2.2.1 ≤ 1759218604441)) with
| true => let v5 : (List (Int × ((List Int) × (Bool × ((List Int) × Unit))))) := (v4 ++ a0.2.2.2.1);
let v6 : Int := (List.getD a1 0 (0 : Int));
let v7 : Int := (List.getD a1 1 (0 : Int));
F53 R a0 v6 v7 a2 fun y8 y9 =>
let v10 : Int := (List.getD a1 0 (0 : Int));
let v11 : Int := (List.getD a1 1 (0 : Int));
F54 R a0 v10 v11 a2 fun y12 y13 =>
let v14 : Int := (List.getD a1 0 (0 : Int));
let v15 : Int := (List.getD a1 1 (0 : Int));
F55 R a0 v14 v15 a2 fun y16 y17 =>
let v18 : Int := (List.getD a1 0 (0 : Int));
let v19 : Int := (List.getD a1 1 (0 : Int));
F56 R a0 v18 v19 a2 fun y20 y21 =>
F57 R y8 y12 fun y22 =>
(match y22 with
| true => let v23 : Bool := (y9 == y13);
(match v23 with
| true => F57 R y16 y20 fun y24 =>
(match y24 with
| true => let v25 : Bool := (y17 == y21);
(match v25 with
| true => F57 R a0 (a0.1, a0.2.1, a0.2.2.1, v5, ()) fun y26 =>
k y26
| false => k false)
| false => k false)
| false => k false)
| false => k false)
| false => none)))
theorem q14 (F52 : FT52) (F53 : FT53) (F54 : FT54) (F55 : FT55) (F56 : FT56) (F57 : FT57) (F : FT14) (R : Type) (x : AT (en14 F).ins) (k : RT (en14 F).outs → PT (en14 F).ins → Option R) :
  xfun (e14 F52 F53 F54 F55 F56 F57 R) (codeOf Try.f14) res14 (avs (en14 F).ins x) (finK (en14 F).outs (en14 F).ins k) = p14 F52 F53 F54 F55 F56 F57 R x.1 x.2.1 x.2.2.1 (fun y1 => k (y1, ()) ()) := by kernel_rfl
noncomputable def F14 : FT14 := p14 F52 F53 F54 F55 F56 F57
theorem env14 (R : Type) : EnvOK Try.prog (e14 F52 F53 F54 F55 F56 F57 R) := ⟨tabOK, eqOK, callOf_ok (allE_cons ok52 (allE_cons ok53 (allE_cons ok54 (allE_cons ok55 (allE_cons ok56 (allE_cons ok57 allE_nil)))))), noIns⟩
theorem ok14 : (en14 F14).OK Try.prog :=
  ent_ok (Ef := fun R => e14 F52 F53 F54 F55 F56 F57 R) (fun R => env14 R) mixed Try.func14 (body := codeOf Try.f14) (by kernel_rfl) (by kernel_rfl) (np := 0) (nt := 96) (fun _ => rfl) (fun _ => rfl) (by kernel_rfl) (res := res14) (by kernel_rfl) (fun _ => rfl) (fun _ => Nat.le_of_ble_eq_true rfl) (by
    intro R
    rw [show loopsOf (codeOf Try.f14) = [] from by kernel_rfl]
    exact allM_nil) (fun R x k => q14 F52 F53 F54 F55 F56 F57 F14 R x k)
/-! drawlot/drawlotref18.Seed -/
abbrev FT64 : Type 1 := (R : Type) → (List Int) → Int → (List Int) → ((List Int) → Option R) → Option R
def en64 (F : FT64) : Ent := ⟨64, [(false, (.arr 32 (.int .u8))), (false, (.int .u64)), (false, (.arr 32 (.int .u8)))], [(false, (.arr 32 (.int .u8)))], fun R x k => F R x.1 x.2.1 x.2.2.1 (fun y1 => k (y1, ()) ())⟩
def res64 : List (ResultVar × TypeId × Bool) := [(.cell 6 26, 26, false)]
abbrev LT64_4 : Type 1 := (R : Type) → Int → (List Int) → (List Int) → (List Int) → (List Int) → ((List Int) → (List Int) → (List Int) → Option R) → Option R
def le64_4 (L : LT64_4) : LEnt := ⟨4, [.fix 5 (.ptr 1 [] (.arr 32 (.int .u8))), .fix 6 (.ptr 2 [] (.arr 32 (.int .u8))), .fix 7 (.own 3 0), .fix 8 (.ptr 4 [] (.arr 8 (.int .u8))), .val 9 (.int .i64), .var 1 (.arr 32 (.int .u8)) false, .var 2 (.arr 32 (.int .u8)) false, .row 3 (.int .u8) false, .var 4 (.arr 8 (.int .u8)) false], 5, [(.exit 0, [.fix 5 (.ptr 1 [] (.arr 32 (.int .u8))), .fix 6 (.ptr 2 [] (.arr 32 (.int .u8))), .fix 7 (.own 3 0), .var 1 (.arr 32 (.int .u8)) false, .var 2 (.arr 32 (.int .u8)) false, .row 3 (.int .u8) false])], fun R x ke => L R x.1 x.2.1 x.2.2.1 x.2.2.2.1 x.2.2.2.2.1 (fun y1 y2 y3 => ke.1 (y1, y2, y3, ()))⟩
def e64 (F91 : FT91) (F92 : FT92) (F96 : FT96) (L4 : LT64_4) (R : Type) : Env R := ⟨TT, EQT, 0, 29, ownOf [], callOf [en91 F91, en92 F92, en96 F96] R, loopOf [le64_4 L4] R, []⟩
def p64_4 : (R : Type) → Int → (List Int) → (List Int) → (List Int) → (List Int) → (Int → (List Int) → (List Int) → (List Int) → (List Int) → Option R) → ((List Int) → (List Int) → (List Int) → Option R) → Option R := fun R x1 x2 x3 x4 x5 kc k0 =>
let v6 : Bool := (decide (x1 < (8 : Int)));
(match v6 with
| true => (match (bnd x1 (8 : Int)) with
| true => let v7 : Int := (List.getD x5 (Int.toNat x1) (0 : Int));
let v8 : (List Int) := ([v7] : (List Int));
(match (decide (List.length x4 + List.length v8 ≤ 140737488355328)) with
| true => let v9 : (List Int) := (x4 ++ v8);
let v10 : Int := (IntKind.i64.wrap (x1 + (1 : Int)));
kc v10 x2 x3 v9 x5
| false => none)
| false => none)
| false => k0 x2 x3 x4)
theorem q64_4 (F91 : FT91) (F92 : FT92) (F96 : FT96) (L4 : LT64_4) (R : Type) (x : HT (le64_4 L4).H) (kc : HT (le64_4 L4).H → Option R) (ke : KT R (le64_4 L4).exs) :
  exec (e64 F91 F92 F96 L4 R) (lcode 4 (codeOf Try.f64)) (stOf (le64_4 L4).H x 5) (roundK (le64_4 L4).H (le64_4 L4).exs kc ke) =
    p64_4 R x.1 x.2.1 x.2.2.1 x.2.2.2.1 x.2.2.2.2.1 (fun x1 x2 x3 x4 x5 => kc (x1, x2, x3, x4, x5, ())) (fun y1 y2 y3 => ke.1 (y1, y2, y3, ())) := by kernel_rfl
noncomputable def G64_4 : Nat → LT64_4
  | 0 => fun _ _ _ _ _ _ _ => none
  | n + 1 => fun R x1 x2 x3 x4 x5 k0 => p64_4 R x1 x2 x3 x4 x5 (fun x1 x2 x3 x4 x5 => G64_4 n R x1 x2 x3 x4 x5 k0) k0
def p64 (F91 : FT91) (F92 : FT92) (F96 : FT96) (L4 : LT64_4) : FT64 := fun R a0 a1 a2 k =>
F92 R a0 fun y1 =>
F96 R a1 fun y2 =>
L4 R (0 : Int) a2 (List.replicate 32 (0 : Int)) y1 y2 (fun x3 x4 x5 =>
F92 R x3 fun y6 =>
(match (decide (List.length x5 + List.length y6 ≤ 140737488355328)) with
| true => let v7 : (List Int) := (x5 ++ y6);
F91 R v7 fun y8 =>
k y8
| false => none))
theorem q64 (F91 : FT91) (F92 : FT92) (F96 : FT96) (L4 : LT64_4) (F : FT64) (R : Type) (x : AT (en64 F).ins) (k : RT (en64 F).outs → PT (en64 F).ins → Option R) :
  xfun (e64 F91 F92 F96 L4 R) (codeOf Try.f64) res64 (avs (en64 F).ins x) (finK (en64 F).outs (en64 F).ins k) = p64 F91 F92 F96 L4 R x.1 x.2.1 x.2.2.1 (fun y1 => k (y1, ()) ()) := by kernel_rfl
noncomputable def F64 : FT64 := p64 F91 F92 F96 (G64_4 FUEL)
theorem env64 (R : Type) : EnvOK Try.prog (e64 F91 F92 F96 (G64_4 FUEL) R) := ⟨tabOK, eqOK, callOf_ok (allE_cons ok91 (allE_cons ok92 (allE_cons ok96 allE_nil))), noIns⟩
noncomputable def T64_4 : (R : Type) → HT (le64_4 (G64_4 FUEL)).H → (HT (le64_4 (G64_4 FUEL)).H → Option R) → KT R (le64_4 (G64_4 FUEL)).exs → Option R := fun R x kc ke => p64_4 R x.1 x.2.1 x.2.2.1 x.2.2.2.1 x.2.2.2.2.1 (fun x1 x2 x3 x4 x5 => kc (x1, x2, x3, x4, x5, ())) (fun y1 y2 y3 => ke.1 (y1, y2, y3, ()))
theorem it64_4 : ∀ (n : Nat) (R : Type) (x : HT (le64_4 (G64_4 FUEL)).H) (ke : KT R (le64_4 (G64_4 FUEL)).exs), iter T64_4 n R x ke = G64_4 n R x.1 x.2.1 x.2.2.1 x.2.2.2.1 x.2.2.2.2.1 (fun y1 y2 y3 => ke.1 (y1, y2, y3, ())) := by
  intro n
  induction n with
  | zero => intro R x ke; rfl
  | succ n ih =>
    intro R x ke
    show T64_4 R x (fun x' => iter T64_4 n R x' ke) ke = _
    rw [show (fun x' => iter T64_4 n R x' ke) = fun x => G64_4 n R x.1 x.2.1 x.2.2.1 x.2.2.2.1 x.2.2.2.2.1 (fun y1 y2 y3 => ke.1 (y1, y2, y3, ())) from funext fun x' => ih R x' ke]
    rfl
theorem lok64_4 : (le64_4 (G64_4 FUEL)).OK Try.prog 0 29 (lcode 4 (codeOf Try.f64)) := fun R x ke r h =>
  iter_sound (fun R => e64 F91 F92 F96 (G64_4 FUEL) R) 0 29 (fun _ => rfl) (fun _ => rfl) (fun R => env64 R) mixed (by
    intro R
    rw [show loopsOf (lcode 4 (codeOf Try.f64)) = [] from by kernel_rfl]
    exact allM_nil) (T := T64_4) (fun R x kc ke => q64_4 F91 F92 F96 (G64_4 FUEL) R x kc ke) FUEL R x ke r ((it64_4 FUEL R x ke).trans h)
theorem ok64 : (en64 F64).OK Try.prog :=
  ent_ok (Ef := fun R => e64 F91 F92 F96 (G64_4 FUEL) R) (fun R => env64 R) mixed Try.func64 (body := codeOf Try.f64) (by kernel_rfl) (by kernel_rfl) (np := 0) (nt := 29) (fun _ => rfl) (fun _ => rfl) (by kernel_rfl) (res := res64) (by kernel_rfl) (fun _ => rfl) (fun _ => Nat.le_of_ble_eq_true rfl) (by
    intro R
    rw [show loopsOf (codeOf Try.f64) = [lcode 4 (codeOf Try.f64)] from by kernel_rfl]
    exact (allM_cons (loop_ok2 (e := le64_4 (G64_4 FUEL)) rfl rfl lok64_4) allM_nil)) (fun R x k => q64 F91 F92 F96 (G64_4 FUEL) F64 R x k)
/-! drawlot/drawlotref21.End -/
abbrev FT59 : Type 1 := (R : Type) → (Int × ((List Int) × ((List Int) × ((List (Int × ((List Int) × (Bool × ((List Int) × Unit))))) × Unit)))) → ((Int × ((List Int) × ((List Int) × ((List (Int × ((List Int) × (Bool × ((List Int) × Unit))))) × Unit)))) → (Int × ((List Int) × ((List Int) × ((List Int) × Unit)))) → (List Int) → Int → Option R) → Option R
def en59 (F : FT59) : Ent := ⟨59, [(false, (.pair (.int .u64) (.pair (.arr 32 (.int .u8)) (.pair (.arr 32 (.int .u8)) (.pair (.sl (.pair (.int .i64) (.pair (.arr 32 (.int .u8)) (.pair .bool (.pair (.arr 32 (.int .u8)) .unit))))) .unit)))))], [(false, (.pair (.int .u64) (.pair (.arr 32 (.int .u8)) (.pair (.arr 32 (.int .u8)) (.pair (.sl (.pair (.int .i64) (.pair (.arr 32 (.int .u8)) (.pair .bool (.pair (.arr 32 (.int .u8)) .unit))))) .unit))))), (false, (.pair (.int .u64) (.pair (.arr 32 (.int .u8)) (.pair (.arr 32 (.int .u8)) (.pair (.arr 32 (.int .u8)) .unit))))), (false, (.sl (.int .i64))), (false, (.int .i64))], fun R x k => F R x.1 (fun y1 y2 y3 y4 => k (y1, y2, y3, y4, ()) ())⟩
def res59 : List (ResultVar × TypeId × Bool) := [(.cell 2 77, 77, false), (.cell 3 84, 84, false), (.tmp 4, 69, false), (.tmp 5, 31, false)]
def e59 (F48 : FT48) (F61 : FT61) (F64 : FT64) (R : Type) : Env R := ⟨TT, EQT, 0, 40, ownOf [], callOf [en48 F48, en61 F61, en64 F64] R, loopOf [] R, []⟩
def p59 (F48 : FT48) (F61 : FT61) (F64 : FT64) : FT59 := fun R a0 k =>
F61 R a0 fun y1 =>
(match (!y1) with
| true => k ((0 : Int), (List.replicate 32 (0 : Int)), (List.replicate 32 (0 : Int)), ([] : (List (Int × ((List Int) × (Bool × ((List Int) × Unit)))))), ()) ((0 : Int), (List.replicate 32 (0 : Int)), (List.replicate 32 (0 : Int)), (List.replicate 32 (0 : Int)), ()) ([] : (List Int)) (1 : Int)
| false => let v2 : Bool := (a0.1 == (18446744073709551615 : Int));
(match v2 with
| true => k ((0 : Int), (List.replicate 32 (0 : Int)), (List.replicate 32 (0 : Int)), ([] : (List (Int × ((List Int) × (Bool × ((List Int) × Unit)))))), ()) ((0 : Int), (List.replicate 32 (0 : Int)), (List.replicate 32 (0 : Int)), (List.replicate 32 (0 : Int)), ()) ([] : (List Int)) (3 : Int)
| false => F64 R a0.2.1 a0.1 a0.2.2.1 fun y3 =>
let v4 : Int := (IntKind.u64.wrap (a0.1 + (1 : Int)));
F48 R a0.2.2.2.1 fun y5 =>
k (v4, y3, (List.replicate 32 (0 : Int)), ([] : (List (Int × ((List Int) × (Bool × ((List Int) × Unit)))))), ()) (a0.1, a0.2.1, a0.2.2.1, y3, ()) y5 (0 : Int)))
theorem q59 (F48 : FT48) (F61 : FT61) (F64 : FT64) (F : FT59) (R : Type) (x : AT (en59 F).ins) (k : RT (en59 F).outs → PT (en59 F).ins → Option R) :
  xfun (e59 F48 F61 F64 R) (codeOf Try.f59) res59 (avs (en59 F).ins x) (finK (en59 F).outs (en59 F).ins k) = p59 F48 F61 F64 R x.1 (fun y1 y2 y3 y4 => k (y1, y2, y3, y4, ()) ()) := by kernel_rfl
noncomputable def F59 : FT59 := p59 F48 F61 F64
theorem env59 (R : Type) : EnvOK Try.prog (e59 F48 F61 F64 R) := ⟨tabOK, eqOK, callOf_ok (allE_cons ok48 (allE_cons ok61 (allE_cons ok64 allE_nil))), noIns⟩
theorem ok59 : (en59 F59).OK Try.prog :=
  ent_ok (Ef := fun R => e59 F48 F61 F64 R) (fun R => env59 R) mixed Try.func59 (body := codeOf Try.f59) (by kernel_rfl) (by kernel_rfl) (np := 0) (nt := 40) (fun _ => rfl) (fun _ => rfl) (by kernel_rfl) (res := res59) (by kernel_rfl) (fun _ => rfl) (fun _ => Nat.le_of_ble_eq_true rfl) (by
    intro R
    rw [show loopsOf (codeOf Try.f59) = [] from by kernel_rfl]
    exact allM_nil) (fun R x k => q59 F48 F61 F64 F59 R x k)
/-! drawlot/drawlotlaw21.BeaconEnds -/
abbrev FT15 : Type 1 := (R : Type) → (Int × ((List Int) × ((List Int) × ((List (Int × ((List Int) × (Bool × ((List Int) × Unit))))) × Unit)))) → (Int × ((List Int) × ((List Int) × ((List (Int × ((List Int) × (Bool × ((List Int) × Unit))))) × Unit)))) → (List Int) → (Bool → Option R) → Option R
def en15 (F : FT15) : Ent := ⟨15, [(false, (.pair (.int .u64) (.pair (.arr 32 (.int .u8)) (.pair (.arr 32 (.int .u8)) (.pair (.sl (.pair (.int .i64) (.pair (.arr 32 (.int .u8)) (.pair .bool (.pair (.arr 32 (.int .u8)) .unit))))) .unit))))), (false, (.pair (.int .u64) (.pair (.arr 32 (.int .u8)) (.pair (.arr 32 (.int .u8)) (.pair (.sl (.pair (.int .i64) (.pair (.arr 32 (.int .u8)) (.pair .bool (.pair (.arr 32 (.int .u8)) .unit))))) .unit))))), (false, (.arr 32 (.int .u8)))], [(false, .bool)], fun R x k => F R x.1 x.2.1 x.2.2.1 (fun y1 => k (y1, ()) ())⟩
def res15 : List (ResultVar × TypeId × Bool) := [(.tmp 6, 4, false)]
def e15 (F46 : FT46) (F52 : FT52) (F57 : FT57) (F58 : FT58) (F59 : FT59) (F60 : FT60) (F61 : FT61) (F62 : FT62) (F63 : FT63) (R : Type) : Env R := ⟨TT, EQT, 0, 82, ownOf [], callOf [en46 F46, en52 F52, en57 F57, en58 F58, en59 F59, en60 F60, en61 F61, en62 F62, en63 F63] R, loopOf [] R, []⟩
def p15 (F46 : FT46) (F52 : FT52) (F57 : FT57) (F58 : FT58) (F59 : FT59) (F60 : FT60) (F61 : FT61) (F62 : FT62) (F63 : FT63) : FT15 := fun R a0 a1 a2 k =>
F52 R  fun y1 =>
(match (!y1) with
| true => k false
| false => let v2 : Int := (List.length a0.2.2.2.1 : Int);
let v3 : Bool := (decide (v2 > (100 : Int)));
(match v3 with
| true => k true
| false => let v4 : Int := (List.length a1.2.2.2.1 : Int);
let v5 : Bool := (decide (v4 > (100 : Int)));
(match v5 with
| true => k true
| false => F58 R a0 fun y6 y7 y8 y9 =>
F59 R a0 fun y10 y11 y12 y13 =>
F57 R y6 y10 fun y14 =>
(match y14 with
| true => let v15 : Bool := (Kd.eqv (.pair (.int .u64) (.pair (.arr 32 (.int .u8)) (.pair (.arr 32 (.int .u8)) (.pair (.arr 32 (.int .u8)) .unit)))) y7 y11);
(match v15 with
| true => F46 R y8 y12 fun y16 =>
(match y16 with
| true => let v17 : Bool := (y9 == y13);
(match v17 with
| true => F60 R a0 fun y18 =>
F61 R a0 fun y19 =>
let v20 : Bool := (y18 == y19);
(match v20 with
| true => F62 R a0 a1 fun y21 =>
F57 R a0 a1 fun y22 =>
let v23 : Bool := (y21 == y22);
(match v23 with
| true => F63 R a2 fun y24 =>
F57 R y24 ((0 : Int), a2, (List.replicate 32 (0 : Int)), ([] : (List (Int × ((List Int) × (Bool × ((List Int) × Unit)))))), ()) fun y25 =>
k y25
| false => k false)
| false => k false)
| false => k false)
| false => k false)
| false => k false)
| false => k false))))
theorem q15 (F46 : FT46) (F52 : FT52) (F57 : FT57) (F58 : FT58) (F59 : FT59) (F60 : FT60) (F61 : FT61) (F62 : FT62) (F63 : FT63) (F : FT15) (R : Type) (x : AT (en15 F).ins) (k : RT (en15 F).outs → PT (en15 F).ins → Option R) :
  xfun (e15 F46 F52 F57 F58 F59 F60 F61 F62 F63 R) (codeOf Try.f15) res15 (avs (en15 F).ins x) (finK (en15 F).outs (en15 F).ins k) = p15 F46 F52 F57 F58 F59 F60 F61 F62 F63 R x.1 x.2.1 x.2.2.1 (fun y1 => k (y1, ()) ()) := by kernel_rfl
noncomputable def F15 : FT15 := p15 F46 F52 F57 F58 F59 F60 F61 F62 F63
theorem env15 (R : Type) : EnvOK Try.prog (e15 F46 F52 F57 F58 F59 F60 F61 F62 F63 R) := ⟨tabOK, eqOK, callOf_ok (allE_cons ok46 (allE_cons ok52 (allE_cons ok57 (allE_cons ok58 (allE_cons ok59 (allE_cons ok60 (allE_cons ok61 (allE_cons ok62 (allE_cons ok63 allE_nil))))))))), noIns⟩
theorem ok15 : (en15 F15).OK Try.prog :=
  ent_ok (Ef := fun R => e15 F46 F52 F57 F58 F59 F60 F61 F62 F63 R) (fun R => env15 R) mixed Try.func15 (body := codeOf Try.f15) (by kernel_rfl) (by kernel_rfl) (np := 0) (nt := 82) (fun _ => rfl) (fun _ => rfl) (by kernel_rfl) (res := res15) (by kernel_rfl) (fun _ => rfl) (fun _ => Nat.le_of_ble_eq_true rfl) (by
    intro R
    rw [show loopsOf (codeOf Try.f15) = [] from by kernel_rfl]
    exact allM_nil) (fun R x k => q15 F46 F52 F57 F58 F59 F60 F61 F62 F63 F15 R x k)
/-! drawlot/drawlotlaw21.BeaconFolds -/
abbrev FT16 : Type 1 := (R : Type) → (Int × ((List Int) × ((List Int) × ((List (Int × ((List Int) × (Bool × ((List Int) × Unit))))) × Unit)))) → (List (List Int)) → Int → (Bool → Option R) → Option R
def en16 (F : FT16) : Ent := ⟨16, [(false, (.pair (.int .u64) (.pair (.arr 32 (.int .u8)) (.pair (.arr 32 (.int .u8)) (.pair (.sl (.pair (.int .i64) (.pair (.arr 32 (.int .u8)) (.pair .bool (.pair (.arr 32 (.int .u8)) .unit))))) .unit))))), (false, (.sl (.arr 32 (.int .u8)))), (false, (.int .u8))], [(false, .bool)], fun R x k => F R x.1 x.2.1 x.2.2.1 (fun y1 => k (y1, ()) ())⟩
def res16 : List (ResultVar × TypeId × Bool) := [(.tmp 6, 4, false)]
abbrev LT16_7 : Type 1 := (R : Type) → (List (List Int)) → Int → Int → (Int × ((List Int) × ((List Int) × ((List (Int × ((List Int) × (Bool × ((List Int) × Unit))))) × Unit)))) → (Int × ((List Int) × ((List Int) × ((List (Int × ((List Int) × (Bool × ((List Int) × Unit))))) × Unit)))) → (Bool → Option R) → ((List (List Int)) → Int → (Int × ((List Int) × ((List Int) × ((List (Int × ((List Int) × (Bool × ((List Int) × Unit))))) × Unit)))) → (Int × ((List Int) × ((List Int) × ((List (Int × ((List Int) × (Bool × ((List Int) × Unit))))) × Unit)))) → Option R) → Option R
def le16_7 (L : LT16_7) : LEnt := ⟨7, [.val 1 (.sl (.arr 32 (.int .u8))), .val 2 (.int .u8), .fix 3 (.ptr 0 [] (.pair (.int .u64) (.pair (.arr 32 (.int .u8)) (.pair (.arr 32 (.int .u8)) (.pair (.sl (.pair (.int .i64) (.pair (.arr 32 (.int .u8)) (.pair .bool (.pair (.arr 32 (.int .u8)) .unit))))) .unit))))), .fix 7 (.ptr 1 [] (.pair (.int .u64) (.pair (.arr 32 (.int .u8)) (.pair (.arr 32 (.int .u8)) (.pair (.sl (.pair (.int .i64) (.pair (.arr 32 (.int .u8)) (.pair .bool (.pair (.arr 32 (.int .u8)) .unit))))) .unit))))), .val 8 (.int .i64), .var 0 (.pair (.int .u64) (.pair (.arr 32 (.int .u8)) (.pair (.arr 32 (.int .u8)) (.pair (.sl (.pair (.int .i64) (.pair (.arr 32 (.int .u8)) (.pair .bool (.pair (.arr 32 (.int .u8)) .unit))))) .unit)))) false, .var 1 (.pair (.int .u64) (.pair (.arr 32 (.int .u8)) (.pair (.arr 32 (.int .u8)) (.pair (.sl (.pair (.int .i64) (.pair (.arr 32 (.int .u8)) (.pair .bool (.pair (.arr 32 (.int .u8)) .unit))))) .unit)))) false], 2, [(.ret, [.val 6 .bool]), (.exit 0, [.val 1 (.sl (.arr 32 (.int .u8))), .val 2 (.int .u8), .fix 3 (.ptr 0 [] (.pair (.int .u64) (.pair (.arr 32 (.int .u8)) (.pair (.arr 32 (.int .u8)) (.pair (.sl (.pair (.int .i64) (.pair (.arr 32 (.int .u8)) (.pair .bool (.pair (.arr 32 (.int .u8)) .unit))))) .unit))))), .fix 7 (.ptr 1 [] (.pair (.int .u64) (.pair (.arr 32 (.int .u8)) (.pair (.arr 32 (.int .u8)) (.pair (.sl (.pair (.int .i64) (.pair (.arr 32 (.int .u8)) (.pair .bool (.pair (.arr 32 (.int .u8)) .unit))))) .unit))))), .var 0 (.pair (.int .u64) (.pair (.arr 32 (.int .u8)) (.pair (.arr 32 (.int .u8)) (.pair (.sl (.pair (.int .i64) (.pair (.arr 32 (.int .u8)) (.pair .bool (.pair (.arr 32 (.int .u8)) .unit))))) .unit)))) false, .var 1 (.pair (.int .u64) (.pair (.arr 32 (.int .u8)) (.pair (.arr 32 (.int .u8)) (.pair (.sl (.pair (.int .i64) (.pair (.arr 32 (.int .u8)) (.pair .bool (.pair (.arr 32 (.int .u8)) .unit))))) .unit)))) false])], fun R x ke => L R x.1 x.2.1 x.2.2.1 x.2.2.2.1 x.2.2.2.2.1 (fun y1 => ke.1 (y1, ())) (fun y1 y2 y3 y4 => ke.2.1 (y1, y2, y3, y4, ()))⟩
abbrev LT16_16 : Type 1 := (R : Type) → (List (List Int)) → Int → Int → (Int × ((List Int) × ((List Int) × ((List (Int × ((List Int) × (Bool × ((List Int) × Unit))))) × Unit)))) → (Int × ((List Int) × ((List Int) × ((List (Int × ((List Int) × (Bool × ((List Int) × Unit))))) × Unit)))) → (Int × ((List Int) × ((List Int) × ((List (Int × ((List Int) × (Bool × ((List Int) × Unit))))) × Unit)))) → (Bool → Option R) → ((List (List Int)) → (Int × ((List Int) × ((List Int) × ((List (Int × ((List Int) × (Bool × ((List Int) × Unit))))) × Unit)))) → (Int × ((List Int) × ((List Int) × ((List (Int × ((List Int) × (Bool × ((List Int) × Unit))))) × Unit)))) → (Int × ((List Int) × ((List Int) × ((List (Int × ((List Int) × (Bool × ((List Int) × Unit))))) × Unit)))) → Option R) → Option R
def le16_16 (L : LT16_16) : LEnt := ⟨16, [.val 1 (.sl (.arr 32 (.int .u8))), .fix 3 (.ptr 0 [] (.pair (.int .u64) (.pair (.arr 32 (.int .u8)) (.pair (.arr 32 (.int .u8)) (.pair (.sl (.pair (.int .i64) (.pair (.arr 32 (.int .u8)) (.pair .bool (.pair (.arr 32 (.int .u8)) .unit))))) .unit))))), .fix 11 (.ptr 2 [] (.pair (.int .u64) (.pair (.arr 32 (.int .u8)) (.pair (.arr 32 (.int .u8)) (.pair (.sl (.pair (.int .i64) (.pair (.arr 32 (.int .u8)) (.pair .bool (.pair (.arr 32 (.int .u8)) .unit))))) .unit))))), .fix 12 (.ptr 3 [] (.pair (.int .u64) (.pair (.arr 32 (.int .u8)) (.pair (.arr 32 (.int .u8)) (.pair (.sl (.pair (.int .i64) (.pair (.arr 32 (.int .u8)) (.pair .bool (.pair (.arr 32 (.int .u8)) .unit))))) .unit))))), .val 13 (.int .i64), .val 14 (.int .i64), .var 0 (.pair (.int .u64) (.pair (.arr 32 (.int .u8)) (.pair (.arr 32 (.int .u8)) (.pair (.sl (.pair (.int .i64) (.pair (.arr 32 (.int .u8)) (.pair .bool (.pair (.arr 32 (.int .u8)) .unit))))) .unit)))) false, .var 2 (.pair (.int .u64) (.pair (.arr 32 (.int .u8)) (.pair (.arr 32 (.int .u8)) (.pair (.sl (.pair (.int .i64) (.pair (.arr 32 (.int .u8)) (.pair .bool (.pair (.arr 32 (.int .u8)) .unit))))) .unit)))) false, .var 3 (.pair (.int .u64) (.pair (.arr 32 (.int .u8)) (.pair (.arr 32 (.int .u8)) (.pair (.sl (.pair (.int .i64) (.pair (.arr 32 (.int .u8)) (.pair .bool (.pair (.arr 32 (.int .u8)) .unit))))) .unit)))) false], 4, [(.ret, [.val 6 .bool]), (.exit 2, [.val 1 (.sl (.arr 32 (.int .u8))), .fix 3 (.ptr 0 [] (.pair (.int .u64) (.pair (.arr 32 (.int .u8)) (.pair (.arr 32 (.int .u8)) (.pair (.sl (.pair (.int .i64) (.pair (.arr 32 (.int .u8)) (.pair .bool (.pair (.arr 32 (.int .u8)) .unit))))) .unit))))), .fix 11 (.ptr 2 [] (.pair (.int .u64) (.pair (.arr 32 (.int .u8)) (.pair (.arr 32 (.int .u8)) (.pair (.sl (.pair (.int .i64) (.pair (.arr 32 (.int .u8)) (.pair .bool (.pair (.arr 32 (.int .u8)) .unit))))) .unit))))), .fix 12 (.ptr 3 [] (.pair (.int .u64) (.pair (.arr 32 (.int .u8)) (.pair (.arr 32 (.int .u8)) (.pair (.sl (.pair (.int .i64) (.pair (.arr 32 (.int .u8)) (.pair .bool (.pair (.arr 32 (.int .u8)) .unit))))) .unit))))), .var 0 (.pair (.int .u64) (.pair (.arr 32 (.int .u8)) (.pair (.arr 32 (.int .u8)) (.pair (.sl (.pair (.int .i64) (.pair (.arr 32 (.int .u8)) (.pair .bool (.pair (.arr 32 (.int .u8)) .unit))))) .unit)))) false, .var 2 (.pair (.int .u64) (.pair (.arr 32 (.int .u8)) (.pair (.arr 32 (.int .u8)) (.pair (.sl (.pair (.int .i64) (.pair (.arr 32 (.int .u8)) (.pair .bool (.pair (.arr 32 (.int .u8)) .unit))))) .unit)))) false, .var 3 (.pair (.int .u64) (.pair (.arr 32 (.int .u8)) (.pair (.arr 32 (.int .u8)) (.pair (.sl (.pair (.int .i64) (.pair (.arr 32 (.int .u8)) (.pair .bool (.pair (.arr 32 (.int .u8)) .unit))))) .unit)))) false])], fun R x ke => L R x.1 x.2.1 x.2.2.1 x.2.2.2.1 x.2.2.2.2.1 x.2.2.2.2.2.1 (fun y1 => ke.1 (y1, ())) (fun y1 y2 y3 y4 => ke.2.1 (y1, y2, y3, y4, ()))⟩
def e16 (F50 : FT50) (F51 : FT51) (F52 : FT52) (F53 : FT53) (F55 : FT55) (F57 : FT57) (F58 : FT58) (F64 : FT64) (L7 : LT16_7) (L16 : LT16_16) (R : Type) : Env R := ⟨TT, EQT, 0, 210, ownOf [], callOf [en50 F50, en51 F51, en52 F52, en53 F53, en55 F55, en57 F57, en58 F58, en64 F64] R, loopOf [le16_7 L7, le16_16 L16] R, []⟩
def p16_7 (F50 : FT50) (F53 : FT53) : (R : Type) → (List (List Int)) → Int → Int → (Int × ((List Int) × ((List Int) × ((List (Int × ((List Int) × (Bool × ((List Int) × Unit))))) × Unit)))) → (Int × ((List Int) × ((List Int) × ((List (Int × ((List Int) × (Bool × ((List Int) × Unit))))) × Unit)))) → ((List (List Int)) → Int → Int → (Int × ((List Int) × ((List Int) × ((List (Int × ((List Int) × (Bool × ((List Int) × Unit))))) × Unit)))) → (Int × ((List Int) × ((List Int) × ((List (Int × ((List Int) × (Bool × ((List Int) × Unit))))) × Unit)))) → Option R) → (Bool → Option R) → ((List (List Int)) → Int → (Int × ((List Int) × ((List Int) × ((List (Int × ((List Int) × (Bool × ((List Int) × Unit))))) × Unit)))) → (Int × ((List Int) × ((List Int) × ((List (Int × ((List Int) × (Bool × ((List Int) × Unit))))) × Unit)))) → Option R) → Option R := fun R x1 x2 x3 x4 x5 kc k0 k1 =>
let v6 : Int := (List.length x1 : Int);
let v7 : Bool := (decide (x3 < v6));
(match v7 with
| true => (match (bnd x3 (List.length x1 : Int)) with
| true => let v8 : (List Int) := (List.getD x1 (Int.toNat x3) (List.replicate 32 (0 : Int)));
F50 R v8 fun y9 =>
F53 R x5 (1 : Int) x3 y9 fun y10 y11 =>
let v12 : Bool := (y11 != (0 : Int));
(match v12 with
| true => k0 false
| false => let v13 : Int := (IntKind.i64.wrap (x3 + (1 : Int)));
kc x1 x2 v13 x4 y10)
| false => none)
| false => k1 x1 x2 x4 x5)
theorem q16_7 (F50 : FT50) (F51 : FT51) (F52 : FT52) (F53 : FT53) (F55 : FT55) (F57 : FT57) (F58 : FT58) (F64 : FT64) (L7 : LT16_7) (L16 : LT16_16) (R : Type) (x : HT (le16_7 L7).H) (kc : HT (le16_7 L7).H → Option R) (ke : KT R (le16_7 L7).exs) :
  exec (e16 F50 F51 F52 F53 F55 F57 F58 F64 L7 L16 R) (lcode 7 (codeOf Try.f16)) (stOf (le16_7 L7).H x 2) (roundK (le16_7 L7).H (le16_7 L7).exs kc ke) =
    p16_7 F50 F53 R x.1 x.2.1 x.2.2.1 x.2.2.2.1 x.2.2.2.2.1 (fun x1 x2 x3 x4 x5 => kc (x1, x2, x3, x4, x5, ())) (fun y1 => ke.1 (y1, ())) (fun y1 y2 y3 y4 => ke.2.1 (y1, y2, y3, y4, ())) := by kernel_rfl
noncomputable def G16_7 : Nat → LT16_7
  | 0 => fun _ _ _ _ _ _ _ _ => none
  | n + 1 => fun R x1 x2 x3 x4 x5 k0 k1 => p16_7 F50 F53 R x1 x2 x3 x4 x5 (fun x1 x2 x3 x4 x5 => G16_7 n R x1 x2 x3 x4 x5 k0 k1) k0 k1
def p16_16 (F53 : FT53) (F55 : FT55) : (R : Type) → (List (List Int)) → Int → Int → (Int × ((List Int) × ((List Int) × ((List (Int × ((List Int) × (Bool × ((List Int) × Unit))))) × Unit)))) → (Int × ((List Int) × ((List Int) × ((List (Int × ((List Int) × (Bool × ((List Int) × Unit))))) × Unit)))) → (Int × ((List Int) × ((List Int) × ((List (Int × ((List Int) × (Bool × ((List Int) × Unit))))) × Unit)))) → ((List (List Int)) → Int → Int → (Int × ((List Int) × ((List Int) × ((List (Int × ((List Int) × (Bool × ((List Int) × Unit))))) × Unit)))) → (Int × ((List Int) × ((List Int) × ((List (Int × ((List Int) × (Bool × ((List Int) × Unit))))) × Unit)))) → (Int × ((List Int) × ((List Int) × ((List (Int × ((List Int) × (Bool × ((List Int) × Unit))))) × Unit)))) → Option R) → (Bool → Option R) → ((List (List Int)) → (Int × ((List Int) × ((List Int) × ((List (Int × ((List Int) × (Bool × ((List Int) × Unit))))) × Unit)))) → (Int × ((List Int) × ((List Int) × ((List (Int × ((List Int) × (Bool × ((List Int) × Unit))))) × Unit)))) → (Int × ((List Int) × ((List Int) × ((List (Int × ((List Int) × (Bool × ((List Int) × Unit))))) × Unit)))) → Option R) → Option R := fun R x1 x2 x3 x4 x5 x6 kc k0 k1 =>
let v7 : Int := (List.length x1 : Int);
let v8 : Bool := (decide (x3 < v7));
(match v8 with
| true => let v9 : Int := (IntKind.i64.wrap (x3 + x2));
let v10 : Int := (List.length x1 : Int);
(match (!(v10 == 0)) with
| true => let v11 : Int := (Int.tmod v9 v10);
(match (bnd x3 (List.length x1 : Int)) with
| true => let v12 : (List Int) := (List.getD x1 (Int.toNat x3) (List.replicate 32 (0 : Int)));
F55 R x5 (2 : Int) x3 v12 fun y13 y14 =>
(match (bnd v11 (List.length x1 : Int)) with
| true => let v15 : (List Int) := (List.getD x1 (Int.toNat v11) (List.replicate 32 (0 : Int)));
F55 R x6 (2 : Int) v11 v15 fun y16 y17 =>
(match (bnd x3 (List.length x1 : Int)) with
| true => let v18 : (List Int) := (List.getD x1 (Int.toNat x3) (List.replicate 32 (0 : Int)));
F55 R y13 (2 : Int) x3 v18 fun y19 y20 =>
(match (bnd x3 (List.length x1 : Int)) with
| true => let v21 : (List Int) := (List.getD x1 (Int.toNat x3) (List.replicate 32 (0 : Int)));
F53 R y13 (2 : Int) (99 : Int) v21 fun y22 y23 =>
let v24 : Bool := (y14 != (0 : Int));
(match v24 with
| true => k0 false
| false => let v25 : Bool := (y17 != (0 : Int));
(match v25 with
| true => k0 false
| false => let v26 : Bool := (y20 != (6 : Int));
(match v26 with
| true => k0 false
| false => let v27 : Bool := (y23 != (7 : Int));
(match v27 with
| true => k0 false
| false => let v28 : Int := (IntKind.i64.wrap (x3 + (1 : Int)));
kc x1 x2 v28 x4 y13 y16))))
| false => none)
| false => none)
| false => none)
| false => none)
| false => none)
| false => k1 x1 x4 x5 x6)
theorem q16_16 (F50 : FT50) (F51 : FT51) (F52 : FT52) (F53 : FT53) (F55 : FT55) (F57 : FT57) (F58 : FT58) (F64 : FT64) (L7 : LT16_7) (L16 : LT16_16) (R : Type) (x : HT (le16_16 L16).H) (kc : HT (le16_16 L16).H → Option R) (ke : KT R (le16_16 L16).exs) :
  exec (e16 F50 F51 F52 F53 F55 F57 F58 F64 L7 L16 R) (lcode 16 (codeOf Try.f16)) (stOf (le16_16 L16).H x 4) (roundK (le16_16 L16).H (le16_16 L16).exs kc ke) =
    p16_16 F53 F55 R x.1 x.2.1 x.2.2.1 x.2.2.2.1 x.2.2.2.2.1 x.2.2.2.2.2.1 (fun x1 x2 x3 x4 x5 x6 => kc (x1, x2, x3, x4, x5, x6, ())) (fun y1 => ke.1 (y1, ())) (fun y1 y2 y3 y4 => ke.2.1 (y1, y2, y3, y4, ())) := by kernel_rfl
noncomputable def G16_16 : Nat → LT16_16
  | 0 => fun _ _ _ _ _ _ _ _ _ => none
  | n + 1 => fun R x1 x2 x3 x4 x5 x6 k0 k1 => p16_16 F53 F55 R x1 x2 x3 x4 x5 x6 (fun x1 x2 x3 x4 x5 x6 => G16_16 n R x1 x2 x3 x4 x5 x6 k0 k1) k0 k1
def p16 (F51 : FT51) (F52 : FT52) (F57 : FT57) (F58 : FT58) (F64 : FT64) (L7 : LT16_7) (L16 : LT16_16) : FT16 := fun R a0 a1 a2 k =>
F52 R  fun y1 =>
(match (!y1) with
| true => k false
| false => let v2 : Int := (List.length a1 : Int);
let v3 : Bool := (decide (v2 > (20 : Int)));
(match v3 with
| true => k true
| false => let v4 : Int := (List.length a1 : Int);
let v5 : Bool := (v4 == (0 : Int));
(match v5 with
| true => k true
| false => let v6 : Bool := (a0.1 == (18446744073709551615 : Int));
(match v6 with
| true => k true
| false => L7 R a1 a2 (0 : Int) a0 (a0.1, a0.2.1, (List.replicate 32 (0 : Int)), ([] : (List (Int × ((List Int) × (Bool × ((List Int) × Unit)))))), ()) (fun x7 =>
k x7) (fun x8 x9 x10 x11 =>
let v12 : Int := (IntKind.i64.wrap x9);
let v13 : Int := (List.length x8 : Int);
(match (!(v13 == 0)) with
| true => let v14 : Int := (Int.tmod v12 v13);
L16 R x8 v14 (0 : Int) x10 x11 x11 (fun x15 =>
k x15) (fun x16 x17 x18 x19 =>
F58 R x18 fun y20 y21 y22 y23 =>
F58 R x19 fun y24 y25 y26 y27 =>
let v28 : Bool := (y23 == (0 : Int));
(match v28 with
| true => let v29 : Bool := (y27 == (0 : Int));
(match v29 with
| true => F57 R y20 y24 fun y30 =>
(match y30 with
| true => let v31 : Bool := (Kd.eqv (.pair (.int .u64) (.pair (.arr 32 (.int .u8)) (.pair (.arr 32 (.int .u8)) (.pair (.arr 32 (.int .u8)) .unit)))) y21 y25);
(match v31 with
| true => let v32 : Int := (List.length y22 : Int);
let v33 : Int := (List.length y26 : Int);
let v34 : Int := (IntKind.i64.wrap (v32 + v33));
let v35 : Bool := (v34 == (0 : Int));
(match v35 with
| true => F51 R x16 fun y36 =>
F64 R x17.2.1 x17.1 y36 fun y37 =>
let v38 : Bool := (Kd.eqv (.arr 32 (.int .u8)) y20.2.1 y37);
(match v38 with
| true => let v39 : Int := (IntKind.u64.wrap (x17.1 + (1 : Int)));
let v40 : Bool := (y20.1 == v39);
(match v40 with
| true => let v41 : Int := (List.length y20.2.2.2.1 : Int);
let v42 : Bool := (v41 == (0 : Int));
k v42
| false => k false)
| false => k false)
| false => k false)
| false => k false)
| false => k false)
| false => k false)
| false => k false))
| false => none))))))
theorem q16 (F50 : FT50) (F51 : FT51) (F52 : FT52) (F53 : FT53) (F55 : FT55) (F57 : FT57) (F58 : FT58) (F64 : FT64) (L7 : LT16_7) (L16 : LT16_16) (F : FT16) (R : Type) (x : AT (en16 F).ins) (k : RT (en16 F).outs → PT (en16 F).ins → Option R) :
  xfun (e16 F50 F51 F52 F53 F55 F57 F58 F64 L7 L16 R) (codeOf Try.f16) res16 (avs (en16 F).ins x) (finK (en16 F).outs (en16 F).ins k) = p16 F51 F52 F57 F58 F64 L7 L16 R x.1 x.2.1 x.2.2.1 (fun y1 => k (y1, ()) ()) := by kernel_rfl
noncomputable def F16 : FT16 := p16 F51 F52 F57 F58 F64 (G16_7 FUEL) (G16_16 FUEL)
theorem env16 (R : Type) : EnvOK Try.prog (e16 F50 F51 F52 F53 F55 F57 F58 F64 (G16_7 FUEL) (G16_16 FUEL) R) := ⟨tabOK, eqOK, callOf_ok (allE_cons ok50 (allE_cons ok51 (allE_cons ok52 (allE_cons ok53 (allE_cons ok55 (allE_cons ok57 (allE_cons ok58 (allE_cons ok64 allE_nil)))))))), noIns⟩
noncomputable def T16_7 : (R : Type) → HT (le16_7 (G16_7 FUEL)).H → (HT (le16_7 (G16_7 FUEL)).H → Option R) → KT R (le16_7 (G16_7 FUEL)).exs → Option R := fun R x kc ke => p16_7 F50 F53 R x.1 x.2.1 x.2.2.1 x.2.2.2.1 x.2.2.2.2.1 (fun x1 x2 x3 x4 x5 => kc (x1, x2, x3, x4, x5, ())) (fun y1 => ke.1 (y1, ())) (fun y1 y2 y3 y4 => ke.2.1 (y1, y2, y3, y4, ()))
theorem it16_7 : ∀ (n : Nat) (R : Type) (x : HT (le16_7 (G16_7 FUEL)).H) (ke : KT R (le16_7 (G16_7 FUEL)).exs), iter T16_7 n R x ke = G16_7 n R x.1 x.2.1 x.2.2.1 x.2.2.2.1 x.2.2.2.2.1 (fun y1 => ke.1 (y1, ())) (fun y1 y2 y3 y4 => ke.2.1 (y1, y2, y3, y4, ())) := by
  intro n
  induction n with
  | zero => intro R x ke; rfl
  | succ n ih =>
    intro R x ke
    show T16_7 R x (fun x' => iter T16_7 n R x' ke) ke = _
    rw [show (fun x' => iter T16_7 n R x' ke) = fun x => G16_7 n R x.1 x.2.1 x.2.2.1 x.2.2.2.1 x.2.2.2.2.1 (fun y1 => ke.1 (y1, ())) (fun y1 y2 y3 y4 => ke.2.1 (y1, y2, y3, y4, ())) from funext fun x' => ih R x' ke]
    rfl
theorem lok16_7 : (le16_7 (G16_7 FUEL)).OK Try.prog 0 210 (lcode 7 (codeOf Try.f16)) := fun R x ke r h =>
  iter_sound (fun R => e16 F50 F51 F52 F53 F55 F57 F58 F64 (G16_7 FUEL) (G16_16 FUEL) R) 0 210 (fun _ => rfl) (fun _ => rfl) (fun R => env16 R) mixed (by
    intro R
    rw [show loopsOf (lcode 7 (codeOf Try.f16)) = [] from by kernel_rfl]
    exact allM_nil) (T := T16_7) (fun R x kc ke => q16_7 F50 F51 F52 F53 F55 F57 F58 F64 (G16_7 FUEL) (G16_16 FUEL) R x kc ke) FUEL R x ke r ((it16_7 FUEL R x ke).trans h)
noncomputable def T16_16 : (R : Type) → HT (le16_16 (G16_16 FUEL)).H → (HT (le16_16 (G16_16 FUEL)).H → Option R) → KT R (le16_16 (G16_16 FUEL)).exs → Option R := fun R x kc ke => p16_16 F53 F55 R x.1 x.2.1 x.2.2.1 x.2.2.2.1 x.2.2.2.2.1 x.2.2.2.2.2.1 (fun x1 x2 x3 x4 x5 x6 => kc (x1, x2, x3, x4, x5, x6, ())) (fun y1 => ke.1 (y1, ())) (fun y1 y2 y3 y4 => ke.2.1 (y1, y2, y3, y4, ()))
theorem it16_16 : ∀ (n : Nat) (R : Type) (x : HT (le16_16 (G16_16 FUEL)).H) (ke : KT R (le16_16 (G16_16 FUEL)).exs), iter T16_16 n R x ke = G16_16 n R x.1 x.2.1 x.2.2.1 x.2.2.2.1 x.2.2.2.2.1 x.2.2.2.2.2.1 (fun y1 => ke.1 (y1, ())) (fun y1 y2 y3 y4 => ke.2.1 (y1, y2, y3, y4, ())) := by
  intro n
  induction n with
  | zero => intro R x ke; rfl
  | succ n ih =>
    intro R x ke
    show T16_16 R x (fun x' => iter T16_16 n R x' ke) ke = _
    rw [show (fun x' => iter T16_16 n R x' ke) = fun x => G16_16 n R x.1 x.2.1 x.2.2.1 x.2.2.2.1 x.2.2.2.2.1 x.2.2.2.2.2.1 (fun y1 => ke.1 (y1, ())) (fun y1 y2 y3 y4 => ke.2.1 (y1, y2, y3, y4, ())) from funext fun x' => ih R x' ke]
    rfl
theorem lok16_16 : (le16_16 (G16_16 FUEL)).OK Try.prog 0 210 (lcode 16 (codeOf Try.f16)) := fun R x ke r h =>
  iter_sound (fun R => e16 F50 F51 F52 F53 F55 F57 F58 F64 (G16_7 FUEL) (G16_16 FUEL) R) 0 210 (fun _ => rfl) (fun _ => rfl) (fun R => env16 R) mixed (by
    intro R
    rw [show loopsOf (lcode 16 (codeOf Try.f16)) = [] from by kernel_rfl]
    exact allM_nil) (T := T16_16) (fun R x kc ke => q16_16 F50 F51 F52 F53 F55 F57 F58 F64 (G16_7 FUEL) (G16_16 FUEL) R x kc ke) FUEL R x ke r ((it16_16 FUEL R x ke).trans h)
theorem ok16 : (en16 F16).OK Try.prog :=
  ent_ok (Ef := fun R => e16 F50 F51 F52 F53 F55 F57 F58 F64 (G16_7 FUEL) (G16_16 FUEL) R) (fun R => env16 R) mixed Try.func16 (body := codeOf Try.f16) (by kernel_rfl) (by kernel_rfl) (np := 0) (nt := 210) (fun _ => rfl) (fun _ => rfl) (by kernel_rfl) (res := res16) (by kernel_rfl) (fun _ => rfl) (fun _ => Nat.le_of_ble_eq_true rfl) (by
    intro R
    rw [show loopsOf (codeOf Try.f16) = [lcode 7 (codeOf Try.f16), lcode 16 (codeOf Try.f16)] from by kernel_rfl]
    exact (allM_cons (loop_ok2 (e := le16_7 (G16_7 FUEL)) rfl rfl lok16_7) (allM_cons (loop_ok2 (e := le16_16 (G16_16 FUEL)) rfl rfl lok16_16) allM_nil))) (fun R x k => q16 F50 F51 F52 F53 F55 F57 F58 F64 (G16_7 FUEL) (G16_16 FUEL) F16 R x k)
end Go.PG
