/- A part of the proofs over this seat (own work; the framework that reads a Go function as a pure one, or a use of it). No condition of its own. -/
import Derived.Test.YtkpfnehfdiopgaaM3
import Derived.Test.YtkpfnehfdiopgaaProg
import Derived.KernelRfl
set_option linter.unusedVariables false
set_option linter.unusedSimpArgs false
set_option maxRecDepth 100000
namespace Go.PG
open Go.Proofs
/-! drawlot/drawlotref04.majority -/
abbrev FT175 : Type 1 := (R : Type) → Int → Int → Int → (Int → Option R) → Option R
def en175 (F : FT175) : Ent := ⟨175, [(false, (.int .u32)), (false, (.int .u32)), (false, (.int .u32))], [(false, (.int .u32))], fun R x k => F R x.1 x.2.1 x.2.2.1 (fun y1 => k (y1, ()) ())⟩
def res175 : List (ResultVar × TypeId × Bool) := [(.tmp 6, 104, false)]
def e175 (R : Type) : Env R := ⟨TT, EQT, 0, 18, ownOf [], callOf [] R, loopOf [] R⟩
def p175 : FT175 := fun R a0 a1 a2 k =>
let v1 : Int := (iand .u32 a0 a1);
let v2 : Int := (iand .u32 a0 a2);
let v3 : Int := (ior .u32 v1 v2);
let v4 : Int := (iand .u32 a1 a2);
let v5 : Int := (ior .u32 v3 v4);
k v5
theorem q175 (F : FT175) (R : Type) (x : AT (en175 F).ins) (k : RT (en175 F).outs → PT (en175 F).ins → Option R) :
  xfun (e175 R) (codeOf Try.f175) res175 (avs (en175 F).ins x) (finK (en175 F).outs (en175 F).ins k) = p175 R x.1 x.2.1 x.2.2.1 (fun y1 => k (y1, ()) ()) := by kernel_rfl
noncomputable def F175 : FT175 := p175
theorem env175 (R : Type) : EnvOK Try.prog (e175 R) := ⟨tabOK, eqOK, callOf_ok allE_nil⟩
theorem ok175 : (en175 F175).OK Try.prog :=
  ent_ok (Ef := fun R => e175 R) (fun R => env175 R) mixed Try.func175 (body := codeOf Try.f175) (by kernel_rfl) (by kernel_rfl) (np := 0) (nt := 18) (fun _ => rfl) (fun _ => rfl) (by kernel_rfl) (res := res175) (by kernel_rfl) (fun _ => rfl) (fun _ => Nat.le_of_ble_eq_true rfl) (by
    intro R
    rw [show loopsOf (codeOf Try.f175) = [] from by kernel_rfl]
    exact allM_nil) (fun R x k => q175 F175 R x k)
/-! drawlot/drawlotref04.Round -/
abbrev FT160 : Type 1 := (R : Type) → (List Int) → Int → Int → ((List Int) → Option R) → Option R
def en160 (F : FT160) : Ent := ⟨160, [(false, (.arr 8 (.int .u32))), (false, (.int .u32)), (false, (.int .u32))], [(false, (.arr 8 (.int .u32)))], fun R x k => F R x.1 x.2.1 x.2.2.1 (fun y1 => k (y1, ()) ())⟩
def res160 : List (ResultVar × TypeId × Bool) := [(.cell 6 155, 155, false)]
def e160 (F173 : FT173) (F174 : FT174) (F175 : FT175) (R : Type) : Env R := ⟨TT, EQT, 0, 58, ownOf [], callOf [en173 F173, en174 F174, en175 F175] R, loopOf [] R⟩
def p160 (F173 : FT173) (F174 : FT174) (F175 : FT175) : FT160 := fun R a0 a1 a2 k =>
let v1 : Int := (List.getD a0 7 (0 : Int));
let v2 : Int := (List.getD a0 4 (0 : Int));
F173 R v2 (6 : Int) (11 : Int) (25 : Int) fun y3 =>
let v4 : Int := (IntKind.u32.wrap (v1 + y3));
let v5 : Int := (List.getD a0 4 (0 : Int));
let v6 : Int := (List.getD a0 5 (0 : Int));
let v7 : Int := (List.getD a0 6 (0 : Int));
F174 R v5 v6 v7 fun y8 =>
let v9 : Int := (IntKind.u32.wrap (v4 + y8));
let v10 : Int := (IntKind.u32.wrap (v9 + a2));
let v11 : Int := (IntKind.u32.wrap (v10 + a1));
let v12 : Int := (List.getD a0 0 (0 : Int));
F173 R v12 (2 : Int) (13 : Int) (22 : Int) fun y13 =>
let v14 : Int := (List.getD a0 0 (0 : Int));
let v15 : Int := (List.getD a0 1 (0 : Int));
let v16 : Int := (List.getD a0 2 (0 : Int));
F175 R v14 v15 v16 fun y17 =>
let v18 : Int := (IntKind.u32.wrap (y13 + y17));
let v19 : Int := (IntKind.u32.wrap (v11 + v18));
let v20 : Int := (List.getD a0 0 (0 : Int));
let v21 : Int := (List.getD a0 1 (0 : Int));
let v22 : Int := (List.getD a0 2 (0 : Int));
let v23 : Int := (List.getD a0 3 (0 : Int));
let v24 : Int := (IntKind.u32.wrap (v23 + v11));
let v25 : Int := (List.getD a0 4 (0 : Int));
let v26 : Int := (List.getD a0 5 (0 : Int));
let v27 : Int := (List.getD a0 6 (0 : Int));
let v28 : (List Int) := (List.set (List.set (List.set (List.set (List.set (List.set (List.set (List.set (List.replicate 8 (0 : Int)) 0 v19) 1 v20) 2 v21) 3 v22) 4 v24) 5 v25) 6 v26) 7 v27);
k v28
theorem q160 (F173 : FT173) (F174 : FT174) (F175 : FT175) (F : FT160) (R : Type) (x : AT (en160 F).ins) (k : RT (en160 F).outs → PT (en160 F).ins → Option R) :
  xfun (e160 F173 F174 F175 R) (codeOf Try.f160) res160 (avs (en160 F).ins x) (finK (en160 F).outs (en160 F).ins k) = p160 F173 F174 F175 R x.1 x.2.1 x.2.2.1 (fun y1 => k (y1, ()) ()) := by kernel_rfl
noncomputable def F160 : FT160 := p160 F173 F174 F175
theorem env160 (R : Type) : EnvOK Try.prog (e160 F173 F174 F175 R) := ⟨tabOK, eqOK, callOf_ok (allE_cons ok173 (allE_cons ok174 (allE_cons ok175 allE_nil)))⟩
theorem ok160 : (en160 F160).OK Try.prog :=
  ent_ok (Ef := fun R => e160 F173 F174 F175 R) (fun R => env160 R) mixed Try.func160 (body := codeOf Try.f160) (by kernel_rfl) (by kernel_rfl) (np := 0) (nt := 58) (fun _ => rfl) (fun _ => rfl) (by kernel_rfl) (res := res160) (by kernel_rfl) (fun _ => rfl) (fun _ => Nat.le_of_ble_eq_true rfl) (by
    intro R
    rw [show loopsOf (codeOf Try.f160) = [] from by kernel_rfl]
    exact allM_nil) (fun R x k => q160 F173 F174 F175 F160 R x k)
/-! drawlot/drawlotref04.Take -/
abbrev FT146 : Type 1 := (R : Type) → (List Int) → (List Int) → ((List Int) → Option R) → Option R
def en146 (F : FT146) : Ent := ⟨146, [(false, (.arr 8 (.int .u32))), (false, (.arr 64 (.int .u8)))], [(false, (.arr 8 (.int .u32)))], fun R x k => F R x.1 x.2.1 (fun y1 => k (y1, ()) ())⟩
def res146 : List (ResultVar × TypeId × Bool) := [(.cell 4 155, 155, false)]
abbrev LT146_4 : Type 1 := (R : Type) → Int → (List Int) → (List Int) → (List Int) → (List Int) → ((List Int) → (List Int) → (List Int) → Option R) → Option R
def le146_4 (L : LT146_4) : LEnt := ⟨4, [.fix 2 (.ptr 0 [] (.arr 8 (.int .u32))), .fix 4 (.ptr 2 [] (.arr 8 (.int .u32))), .fix 5 (.ptr 3 [] (.arr 64 (.int .u32))), .fix 6 (.ptr 4 [] (.arr 8 (.int .u32))), .val 7 (.int .i64), .var 0 (.arr 8 (.int .u32)) false, .var 2 (.arr 8 (.int .u32)) false, .var 3 (.arr 64 (.int .u32)) false, .var 4 (.arr 8 (.int .u32)) false], 5, [(.exit 0, [.fix 2 (.ptr 0 [] (.arr 8 (.int .u32))), .fix 4 (.ptr 2 [] (.arr 8 (.int .u32))), .fix 6 (.ptr 4 [] (.arr 8 (.int .u32))), .var 0 (.arr 8 (.int .u32)) false, .var 2 (.arr 8 (.int .u32)) false, .var 4 (.arr 8 (.int .u32)) false])], fun R x ke => L R x.1 x.2.1 x.2.2.1 x.2.2.2.1 x.2.2.2.2.1 (fun y1 y2 y3 => ke.1 (y1, y2, y3, ()))⟩
abbrev LT146_8 : Type 1 := (R : Type) → Int → (List Int) → (List Int) → (List Int) → ((List Int) → (List Int) → Option R) → Option R
def le146_8 (L : LT146_8) : LEnt := ⟨8, [.fix 2 (.ptr 0 [] (.arr 8 (.int .u32))), .fix 4 (.ptr 2 [] (.arr 8 (.int .u32))), .fix 6 (.ptr 4 [] (.arr 8 (.int .u32))), .val 8 (.int .i64), .var 0 (.arr 8 (.int .u32)) false, .var 2 (.arr 8 (.int .u32)) false, .var 4 (.arr 8 (.int .u32)) false], 5, [(.exit 2, [.fix 4 (.ptr 2 [] (.arr 8 (.int .u32))), .fix 6 (.ptr 4 [] (.arr 8 (.int .u32))), .var 2 (.arr 8 (.int .u32)) false, .var 4 (.arr 8 (.int .u32)) false])], fun R x ke => L R x.1 x.2.1 x.2.2.1 x.2.2.2.1 (fun y1 y2 => ke.1 (y1, y2, ()))⟩
def e146 (F159 : FT159) (F160 : FT160) (F161 : FT161) (L4 : LT146_4) (L8 : LT146_8) (R : Type) : Env R := ⟨TT, EQT, 0, 37, ownOf [], callOf [en159 F159, en160 F160, en161 F161] R, loopOf [le146_4 L4, le146_8 L8] R⟩
def p146_4 (F160 : FT160) (F161 : FT161) : (R : Type) → Int → (List Int) → (List Int) → (List Int) → (List Int) → (Int → (List Int) → (List Int) → (List Int) → (List Int) → Option R) → ((List Int) → (List Int) → (List Int) → Option R) → Option R := fun R x1 x2 x3 x4 x5 kc k0 =>
let v6 : Bool := (decide (x1 < (64 : Int)));
(match v6 with
| true => (match (bnd x1 (64 : Int)) with
| true => let v7 : Int := (List.getD x4 (Int.toNat x1) (0 : Int));
F161 R x1 fun y8 =>
F160 R x5 v7 y8 fun y9 =>
let v10 : Int := (IntKind.i64.wrap (x1 + (1 : Int)));
kc v10 x2 x3 x4 y9
| false => none)
| false => k0 x2 x3 x5)
theorem q146_4 (F159 : FT159) (F160 : FT160) (F161 : FT161) (L4 : LT146_4) (L8 : LT146_8) (R : Type) (x : HT (le146_4 L4).H) (kc : HT (le146_4 L4).H → Option R) (ke : KT R (le146_4 L4).exs) :
  exec (e146 F159 F160 F161 L4 L8 R) (lcode 4 (codeOf Try.f146)) (stOf (le146_4 L4).H x 5) (roundK (le146_4 L4).H (le146_4 L4).exs kc ke) =
    p146_4 F160 F161 R x.1 x.2.1 x.2.2.1 x.2.2.2.1 x.2.2.2.2.1 (fun x1 x2 x3 x4 x5 => kc (x1, x2, x3, x4, x5, ())) (fun y1 y2 y3 => ke.1 (y1, y2, y3, ())) := by kernel_rfl
noncomputable def G146_4 : Nat → LT146_4
  | 0 => fun _ _ _ _ _ _ _ => none
  | n + 1 => fun R x1 x2 x3 x4 x5 k0 => p146_4 F160 F161 R x1 x2 x3 x4 x5 (fun x1 x2 x3 x4 x5 => G146_4 n R x1 x2 x3 x4 x5 k0) k0
def p146_8 : (R : Type) → Int → (List Int) → (List Int) → (List Int) → (Int → (List Int) → (List Int) → (List Int) → Option R) → ((List Int) → (List Int) → Option R) → Option R := fun R x1 x2 x3 x4 kc k0 =>
let v5 : Bool := (decide (x1 < (8 : Int)));
(match v5 with
| true => (match (bnd x1 (8 : Int)) with
| true => let v6 : Int := (List.getD x4 (Int.toNat x1) (0 : Int));
(match (bnd x1 (8 : Int)) with
| true => let v7 : Int := (List.getD x2 (Int.toNat x1) (0 : Int));
let v8 : Int := (IntKind.u32.wrap (v6 + v7));
(match (bnd x1 (8 : Int)) with
| true => let v9 : (List Int) := (List.set x4 (Int.toNat x1) v8);
let v10 : Int := (IntKind.i64.wrap (x1 + (1 : Int)));
kc v10 x2 x3 v9
| false => none)
| false => none)
| false => none)
| false => k0 x3 x4)
theorem q146_8 (F159 : FT159) (F160 : FT160) (F161 : FT161) (L4 : LT146_4) (L8 : LT146_8) (R : Type) (x : HT (le146_8 L8).H) (kc : HT (le146_8 L8).H → Option R) (ke : KT R (le146_8 L8).exs) :
  exec (e146 F159 F160 F161 L4 L8 R) (lcode 8 (codeOf Try.f146)) (stOf (le146_8 L8).H x 5) (roundK (le146_8 L8).H (le146_8 L8).exs kc ke) =
    p146_8 R x.1 x.2.1 x.2.2.1 x.2.2.2.1 (fun x1 x2 x3 x4 => kc (x1, x2, x3, x4, ())) (fun y1 y2 => ke.1 (y1, y2, ())) := by kernel_rfl
noncomputable def G146_8 : Nat → LT146_8
  | 0 => fun _ _ _ _ _ _ => none
  | n + 1 => fun R x1 x2 x3 x4 k0 => p146_8 R x1 x2 x3 x4 (fun x1 x2 x3 x4 => G146_8 n R x1 x2 x3 x4 k0) k0
def p146 (F159 : FT159) (L4 : LT146_4) (L8 : LT146_8) : FT146 := fun R a0 a1 k =>
F159 R a1 fun y1 =>
L4 R (0 : Int) a0 (List.replicate 8 (0 : Int)) y1 a0 (fun x2 x3 x4 =>
L8 R (0 : Int) x2 x3 x4 (fun x5 x6 =>
k x6))
theorem q146 (F159 : FT159) (F160 : FT160) (F161 : FT161) (L4 : LT146_4) (L8 : LT146_8) (F : FT146) (R : Type) (x : AT (en146 F).ins) (k : RT (en146 F).outs → PT (en146 F).ins → Option R) :
  xfun (e146 F159 F160 F161 L4 L8 R) (codeOf Try.f146) res146 (avs (en146 F).ins x) (finK (en146 F).outs (en146 F).ins k) = p146 F159 L4 L8 R x.1 x.2.1 (fun y1 => k (y1, ()) ()) := by kernel_rfl
noncomputable def F146 : FT146 := p146 F159 (G146_4 FUEL) (G146_8 FUEL)
theorem env146 (R : Type) : EnvOK Try.prog (e146 F159 F160 F161 (G146_4 FUEL) (G146_8 FUEL) R) := ⟨tabOK, eqOK, callOf_ok (allE_cons ok159 (allE_cons ok160 (allE_cons ok161 allE_nil)))⟩
noncomputable def T146_4 : (R : Type) → HT (le146_4 (G146_4 FUEL)).H → (HT (le146_4 (G146_4 FUEL)).H → Option R) → KT R (le146_4 (G146_4 FUEL)).exs → Option R := fun R x kc ke => p146_4 F160 F161 R x.1 x.2.1 x.2.2.1 x.2.2.2.1 x.2.2.2.2.1 (fun x1 x2 x3 x4 x5 => kc (x1, x2, x3, x4, x5, ())) (fun y1 y2 y3 => ke.1 (y1, y2, y3, ()))
theorem it146_4 : ∀ (n : Nat) (R : Type) (x : HT (le146_4 (G146_4 FUEL)).H) (ke : KT R (le146_4 (G146_4 FUEL)).exs), iter T146_4 n R x ke = G146_4 n R x.1 x.2.1 x.2.2.1 x.2.2.2.1 x.2.2.2.2.1 (fun y1 y2 y3 => ke.1 (y1, y2, y3, ())) := by
  intro n
  induction n with
  | zero => intro R x ke; rfl
  | succ n ih =>
    intro R x ke
    show T146_4 R x (fun x' => iter T146_4 n R x' ke) ke = _
    rw [show (fun x' => iter T146_4 n R x' ke) = fun x => G146_4 n R x.1 x.2.1 x.2.2.1 x.2.2.2.1 x.2.2.2.2.1 (fun y1 y2 y3 => ke.1 (y1, y2, y3, ())) from funext fun x' => ih R x' ke]
    rfl
theorem lok146_4 : (le146_4 (G146_4 FUEL)).OK Try.prog 0 37 (lcode 4 (codeOf Try.f146)) := fun R x ke r h =>
  iter_sound (fun R => e146 F159 F160 F161 (G146_4 FUEL) (G146_8 FUEL) R) 0 37 (fun _ => rfl) (fun _ => rfl) (fun R => env146 R) mixed (by
    intro R
    rw [show loopsOf (lcode 4 (codeOf Try.f146)) = [] from by kernel_rfl]
    exact allM_nil) (T := T146_4) (fun R x kc ke => q146_4 F159 F160 F161 (G146_4 FUEL) (G146_8 FUEL) R x kc ke) FUEL R x ke r ((it146_4 FUEL R x ke).trans h)
noncomputable def T146_8 : (R : Type) → HT (le146_8 (G146_8 FUEL)).H → (HT (le146_8 (G146_8 FUEL)).H → Option R) → KT R (le146_8 (G146_8 FUEL)).exs → Option R := fun R x kc ke => p146_8 R x.1 x.2.1 x.2.2.1 x.2.2.2.1 (fun x1 x2 x3 x4 => kc (x1, x2, x3, x4, ())) (fun y1 y2 => ke.1 (y1, y2, ()))
theorem it146_8 : ∀ (n : Nat) (R : Type) (x : HT (le146_8 (G146_8 FUEL)).H) (ke : KT R (le146_8 (G146_8 FUEL)).exs), iter T146_8 n R x ke = G146_8 n R x.1 x.2.1 x.2.2.1 x.2.2.2.1 (fun y1 y2 => ke.1 (y1, y2, ())) := by
  intro n
  induction n with
  | zero => intro R x ke; rfl
  | succ n ih =>
    intro R x ke
    show T146_8 R x (fun x' => iter T146_8 n R x' ke) ke = _
    rw [show (fun x' => iter T146_8 n R x' ke) = fun x => G146_8 n R x.1 x.2.1 x.2.2.1 x.2.2.2.1 (fun y1 y2 => ke.1 (y1, y2, ())) from funext fun x' => ih R x' ke]
    rfl
theorem lok146_8 : (le146_8 (G146_8 FUEL)).OK Try.prog 0 37 (lcode 8 (codeOf Try.f146)) := fun R x ke r h =>
  iter_sound (fun R => e146 F159 F160 F161 (G146_4 FUEL) (G146_8 FUEL) R) 0 37 (fun _ => rfl) (fun _ => rfl) (fun R => env146 R) mixed (by
    intro R
    rw [show loopsOf (lcode 8 (codeOf Try.f146)) = [] from by kernel_rfl]
    exact allM_nil) (T := T146_8) (fun R x kc ke => q146_8 F159 F160 F161 (G146_4 FUEL) (G146_8 FUEL) R x kc ke) FUEL R x ke r ((it146_8 FUEL R x ke).trans h)
theorem ok146 : (en146 F146).OK Try.prog :=
  ent_ok (Ef := fun R => e146 F159 F160 F161 (G146_4 FUEL) (G146_8 FUEL) R) (fun R => env146 R) mixed Try.func146 (body := codeOf Try.f146) (by kernel_rfl) (by kernel_rfl) (np := 0) (nt := 37) (fun _ => rfl) (fun _ => rfl) (by kernel_rfl) (res := res146) (by kernel_rfl) (fun _ => rfl) (fun _ => Nat.le_of_ble_eq_true rfl) (by
    intro R
    rw [show loopsOf (codeOf Try.f146) = [lcode 4 (codeOf Try.f146), lcode 8 (codeOf Try.f146)] from by kernel_rfl]
    exact (allM_cons (loop_ok2 (e := le146_4 (G146_4 FUEL)) rfl rfl lok146_4) (allM_cons (loop_ok2 (e := le146_8 (G146_8 FUEL)) rfl rfl lok146_8) allM_nil))) (fun R x k => q146 F159 F160 F161 (G146_4 FUEL) (G146_8 FUEL) F146 R x k)
/-! drawlot/drawlotref05.take -/
abbrev FT124 : Type 1 := (R : Type) → (List Int) → (List (List Int)) → ((List Int) → Option R) → Option R
def en124 (F : FT124) : Ent := ⟨124, [(false, (.arr 8 (.int .u32))), (false, (.sl (.arr 64 (.int .u8))))], [(false, (.arr 8 (.int .u32)))], fun R x k => F R x.1 x.2.1 (fun y1 => k (y1, ()) ())⟩
def res124 : List (ResultVar × TypeId × Bool) := [(.cell 4 155, 155, false)]
abbrev LT124_2 : Type 1 := (R : Type) → (List (List Int)) → Int → (List Int) → (List Int) → ((List Int) → (List Int) → Option R) → Option R
def le124_2 (L : LT124_2) : LEnt := ⟨2, [.val 1 (.sl (.arr 64 (.int .u8))), .fix 2 (.ptr 0 [] (.arr 8 (.int .u32))), .fix 4 (.ptr 1 [] (.arr 8 (.int .u32))), .val 5 (.int .i64), .var 0 (.arr 8 (.int .u32)) false, .var 1 (.arr 8 (.int .u32)) false], 2, [(.exit 0, [.fix 2 (.ptr 0 [] (.arr 8 (.int .u32))), .fix 4 (.ptr 1 [] (.arr 8 (.int .u32))), .var 0 (.arr 8 (.int .u32)) false, .var 1 (.arr 8 (.int .u32)) false])], fun R x ke => L R x.1 x.2.1 x.2.2.1 x.2.2.2.1 (fun y1 y2 => ke.1 (y1, y2, ()))⟩
def e124 (F146 : FT146) (L2 : LT124_2) (R : Type) : Env R := ⟨TT, EQT, 0, 19, ownOf [], callOf [en146 F146] R, loopOf [le124_2 L2] R⟩
def p124_2 (F146 : FT146) : (R : Type) → (List (List Int)) → Int → (List Int) → (List Int) → ((List (List Int)) → Int → (List Int) → (List Int) → Option R) → ((List Int) → (List Int) → Option R) → Option R := fun R x1 x2 x3 x4 kc k0 =>
let v5 : Int := (List.length x1 : Int);
let v6 : Bool := (decide (x2 < v5));
(match v6 with
| true => (match (bnd x2 (List.length x1 : Int)) with
| true => let v7 : (List Int) := (List.getD x1 (Int.toNat x2) (List.replicate 64 (0 : Int)));
F146 R x3 v7 fun y8 =>
let v9 : Int := (IntKind.i64.wrap (x2 + (1 : Int)));
kc x1 v9 y8 x4
| false => none)
| false => k0 x3 x4)
theorem q124_2 (F146 : FT146) (L2 : LT124_2) (R : Type) (x : HT (le124_2 L2).H) (kc : HT (le124_2 L2).H → Option R) (ke : KT R (le124_2 L2).exs) :
  exec (e124 F146 L2 R) (lcode 2 (codeOf Try.f124)) (stOf (le124_2 L2).H x 2) (roundK (le124_2 L2).H (le124_2 L2).exs kc ke) =
    p124_2 F146 R x.1 x.2.1 x.2.2.1 x.2.2.2.1 (fun x1 x2 x3 x4 => kc (x1, x2, x3, x4, ())) (fun y1 y2 => ke.1 (y1, y2, ())) := by kernel_rfl
noncomputable def G124_2 : Nat → LT124_2
  | 0 => fun _ _ _ _ _ _ => none
  | n + 1 => fun R x1 x2 x3 x4 k0 => p124_2 F146 R x1 x2 x3 x4 (fun x1 x2 x3 x4 => G124_2 n R x1 x2 x3 x4 k0) k0
def p124 (L2 : LT124_2) : FT124 := fun R a0 a1 k =>
L2 R a1 (0 : Int) a0 (List.replicate 8 (0 : Int)) (fun x1 x2 =>
k x1)
theorem q124 (F146 : FT146) (L2 : LT124_2) (F : FT124) (R : Type) (x : AT (en124 F).ins) (k : RT (en124 F).outs → PT (en124 F).ins → Option R) :
  xfun (e124 F146 L2 R) (codeOf Try.f124) res124 (avs (en124 F).ins x) (finK (en124 F).outs (en124 F).ins k) = p124 L2 R x.1 x.2.1 (fun y1 => k (y1, ()) ()) := by kernel_rfl
noncomputable def F124 : FT124 := p124 (G124_2 FUEL)
theorem env124 (R : Type) : EnvOK Try.prog (e124 F146 (G124_2 FUEL) R) := ⟨tabOK, eqOK, callOf_ok (allE_cons ok146 allE_nil)⟩
noncomputable def T124_2 : (R : Type) → HT (le124_2 (G124_2 FUEL)).H → (HT (le124_2 (G124_2 FUEL)).H → Option R) → KT R (le124_2 (G124_2 FUEL)).exs → Option R := fun R x kc ke => p124_2 F146 R x.1 x.2.1 x.2.2.1 x.2.2.2.1 (fun x1 x2 x3 x4 => kc (x1, x2, x3, x4, ())) (fun y1 y2 => ke.1 (y1, y2, ()))
theorem it124_2 : ∀ (n : Nat) (R : Type) (x : HT (le124_2 (G124_2 FUEL)).H) (ke : KT R (le124_2 (G124_2 FUEL)).exs), iter T124_2 n R x ke = G124_2 n R x.1 x.2.1 x.2.2.1 x.2.2.2.1 (fun y1 y2 => ke.1 (y1, y2, ())) := by
  intro n
  induction n with
  | zero => intro R x ke; rfl
  | succ n ih =>
    intro R x ke
    show T124_2 R x (fun x' => iter T124_2 n R x' ke) ke = _
    rw [show (fun x' => iter T124_2 n R x' ke) = fun x => G124_2 n R x.1 x.2.1 x.2.2.1 x.2.2.2.1 (fun y1 y2 => ke.1 (y1, y2, ())) from funext fun x' => ih R x' ke]
    rfl
theorem lok124_2 : (le124_2 (G124_2 FUEL)).OK Try.prog 0 19 (lcode 2 (codeOf Try.f124)) := fun R x ke r h =>
  iter_sound (fun R => e124 F146 (G124_2 FUEL) R) 0 19 (fun _ => rfl) (fun _ => rfl) (fun R => env124 R) mixed (by
    intro R
    rw [show loopsOf (lcode 2 (codeOf Try.f124)) = [] from by kernel_rfl]
    exact allM_nil) (T := T124_2) (fun R x kc ke => q124_2 F146 (G124_2 FUEL) R x kc ke) FUEL R x ke r ((it124_2 FUEL R x ke).trans h)
theorem ok124 : (en124 F124).OK Try.prog :=
  ent_ok (Ef := fun R => e124 F146 (G124_2 FUEL) R) (fun R => env124 R) mixed Try.func124 (body := codeOf Try.f124) (by kernel_rfl) (by kernel_rfl) (np := 0) (nt := 19) (fun _ => rfl) (fun _ => rfl) (by kernel_rfl) (res := res124) (by kernel_rfl) (fun _ => rfl) (fun _ => Nat.le_of_ble_eq_true rfl) (by
    intro R
    rw [show loopsOf (codeOf Try.f124) = [lcode 2 (codeOf Try.f124)] from by kernel_rfl]
    exact (allM_cons (loop_ok2 (e := le124_2 (G124_2 FUEL)) rfl rfl lok124_2) allM_nil)) (fun R x k => q124 F146 (G124_2 FUEL) F124 R x k)
/-! drawlot/drawlotref01.Put32 -/
abbrev FT145 : Type 1 := (R : Type) → Int → ((List Int) → Option R) → Option R
def en145 (F : FT145) : Ent := ⟨145, [(false, (.int .u32))], [(false, (.arr 4 (.int .u8)))], fun R x k => F R x.1 (fun y1 => k (y1, ()) ())⟩
def res145 : List (ResultVar × TypeId × Bool) := [(.cell 2 181, 181, false)]
def e145 (R : Type) : Env R := ⟨TT, EQT, 0, 18, ownOf [], callOf [] R, loopOf [] R⟩
def p145 : FT145 := fun R a0 k =>
let v1 : Int := (IntKind.u32.wrap (Int.tdiv a0 (16777216 : Int)));
let v2 : Int := (IntKind.u8.wrap v1);
let v3 : Int := (IntKind.u32.wrap (Int.tdiv a0 (65536 : Int)));
let v4 : Int := (Int.tmod v3 (256 : Int));
let v5 : Int := (IntKind.u8.wrap v4);
let v6 : Int := (IntKind.u32.wrap (Int.tdiv a0 (256 : Int)));
let v7 : Int := (Int.tmod v6 (256 : Int));
let v8 : Int := (IntKind.u8.wrap v7);
let v9 : Int := (Int.tmod a0 (256 : Int));
let v10 : Int := (IntKind.u8.wrap v9);
let v11 : (List Int) := (List.set (List.set (List.set (List.set (List.replicate 4 (0 : Int)) 0 v2) 1 v5) 2 v8) 3 v10);
k v11
theorem q145 (F : FT145) (R : Type) (x : AT (en145 F).ins) (k : RT (en145 F).outs → PT (en145 F).ins → Option R) :
  xfun (e145 R) (codeOf Try.f145) res145 (avs (en145 F).ins x) (finK (en145 F).outs (en145 F).ins k) = p145 R x.1 (fun y1 => k (y1, ()) ()) := by kernel_rfl
noncomputable def F145 : FT145 := p145
theorem env145 (R : Type) : EnvOK Try.prog (e145 R) := ⟨tabOK, eqOK, callOf_ok allE_nil⟩
theorem ok145 : (en145 F145).OK Try.prog :=
  ent_ok (Ef := fun R => e145 R) (fun R => env145 R) mixed Try.func145 (body := codeOf Try.f145) (by kernel_rfl) (by kernel_rfl) (np := 0) (nt := 18) (fun _ => rfl) (fun _ => rfl) (by kernel_rfl) (res := res145) (by kernel_rfl) (fun _ => rfl) (fun _ => Nat.le_of_ble_eq_true rfl) (by
    intro R
    rw [show loopsOf (codeOf Try.f145) = [] from by kernel_rfl]
    exact allM_nil) (fun R x k => q145 F145 R x k)
/-! drawlot/drawlotref05.hash -/
abbrev FT123 : Type 1 := (R : Type) → (List Int) → ((List Int) → Option R) → Option R
def en123 (F : FT123) : Ent := ⟨123, [(false, (.arr 8 (.int .u32)))], [(false, (.arr 32 (.int .u8)))], fun R x k => F R x.1 (fun y1 => k (y1, ()) ())⟩
def res123 : List (ResultVar × TypeId × Bool) := [(.cell 2 26, 26, false)]
abbrev LT123_3 : Type 1 := (R : Type) → Int → (List Int) → (List Int) → (List Int) → ((List Int) → (List Int) → Option R) → Option R
def le123_3 (L : LT123_3) : LEnt := ⟨3, [.fix 1 (.ptr 0 [] (.arr 8 (.int .u32))), .fix 2 (.ptr 1 [] (.arr 32 (.int .u8))), .fix 3 (.ptr 2 [] (.arr 32 (.int .u8))), .val 4 (.int .i64), .var 0 (.arr 8 (.int .u32)) false, .var 1 (.arr 32 (.int .u8)) false, .var 2 (.arr 32 (.int .u8)) false], 3, [(.exit 0, [.fix 2 (.ptr 1 [] (.arr 32 (.int .u8))), .fix 3 (.ptr 2 [] (.arr 32 (.int .u8))), .var 1 (.arr 32 (.int .u8)) false, .var 2 (.arr 32 (.int .u8)) false])], fun R x ke => L R x.1 x.2.1 x.2.2.1 x.2.2.2.1 (fun y1 y2 => ke.1 (y1, y2, ()))⟩
abbrev LT123_7 : Type 1 := (R : Type) → Int → Int → (List Int) → (List Int) → (List Int) → (List Int) → (Int → (List Int) → (List Int) → (List Int) → Option R) → Option R
def le123_7 (L : LT123_7) : LEnt := ⟨7, [.fix 1 (.ptr 0 [] (.arr 8 (.int .u32))), .fix 2 (.ptr 1 [] (.arr 32 (.int .u8))), .fix 3 (.ptr 2 [] (.arr 32 (.int .u8))), .val 4 (.int .i64), .fix 5 (.ptr 3 [] (.arr 4 (.int .u8))), .val 6 (.int .i64), .var 0 (.arr 8 (.int .u32)) false, .var 1 (.arr 32 (.int .u8)) false, .var 2 (.arr 32 (.int .u8)) false, .var 3 (.arr 4 (.int .u8)) false], 4, [(.exit 2, [.fix 1 (.ptr 0 [] (.arr 8 (.int .u32))), .fix 2 (.ptr 1 [] (.arr 32 (.int .u8))), .fix 3 (.ptr 2 [] (.arr 32 (.int .u8))), .val 4 (.int .i64), .var 0 (.arr 8 (.int .u32)) false, .var 1 (.arr 32 (.int .u8)) false, .var 2 (.arr 32 (.int .u8)) false])], fun R x ke => L R x.1 x.2.1 x.2.2.1 x.2.2.2.1 x.2.2.2.2.1 x.2.2.2.2.2.1 (fun y1 y2 y3 y4 => ke.1 (y1, y2, y3, y4, ()))⟩
def e123 (F145 : FT145) (L3 : LT123_3) (L7 : LT123_7) (R : Type) : Env R := ⟨TT, EQT, 0, 28, ownOf [], callOf [en145 F145] R, loopOf [le123_3 L3, le123_7 L7] R⟩
def p123_7 : (R : Type) → Int → Int → (List Int) → (List Int) → (List Int) → (List Int) → (Int → Int → (List Int) → (List Int) → (List Int) → (List Int) → Option R) → (Int → (List Int) → (List Int) → (List Int) → Option R) → Option R := fun R x1 x2 x3 x4 x5 x6 kc k0 =>
let v7 : Bool := (decide (x2 < (4 : Int)));
(match v7 with
| true => let v8 : Int := (IntKind.i64.wrap ((4 : Int) * x1));
let v9 : Int := (IntKind.i64.wrap (v8 + x2));
(match (bnd x2 (4 : Int)) with
| true => let v10 : Int := (List.getD x6 (Int.toNat x2) (0 : Int));
(match (bnd v9 (32 : Int)) with
| true => let v11 : (List Int) := (List.set x5 (Int.toNat v9) v10);
let v12 : Int := (IntKind.i64.wrap (x2 + (1 : Int)));
kc x1 v12 x3 x4 v11 x6
| false => none)
| false => none)
| false => k0 x1 x3 x4 x5)
theorem q123_7 (F145 : FT145) (L3 : LT123_3) (L7 : LT123_7) (R : Type) (x : HT (le123_7 L7).H) (kc : HT (le123_7 L7).H → Option R) (ke : KT R (le123_7 L7).exs) :
  exec (e123 F145 L3 L7 R) (lcode 7 (codeOf Try.f123)) (stOf (le123_7 L7).H x 4) (roundK (le123_7 L7).H (le123_7 L7).exs kc ke) =
    p123_7 R x.1 x.2.1 x.2.2.1 x.2.2.2.1 x.2.2.2.2.1 x.2.2.2.2.2.1 (fun x1 x2 x3 x4 x5 x6 => kc (x1, x2, x3, x4, x5, x6, ())) (fun y1 y2 y3 y4 => ke.1 (y1, y2, y3, y4, ())) := by kernel_rfl
noncomputable def G123_7 : Nat → LT123_7
  | 0 => fun _ _ _ _ _ _ _ _ => none
  | n + 1 => fun R x1 x2 x3 x4 x5 x6 k0 => p123_7 R x1 x2 x3 x4 x5 x6 (fun x1 x2 x3 x4 x5 x6 => G123_7 n R x1 x2 x3 x4 x5 x6 k0) k0
def p123_3 (F145 : FT145) (L7 : LT123_7) : (R : Type) → Int → (List Int) → (List Int) → (List Int) → (Int → (List Int) → (List Int) → (List Int) → Option R) → ((List Int) → (List Int) → Option R) → Option R := fun R x1 x2 x3 x4 kc k0 =>
let v5 : Bool := (decide (x1 < (8 : Int)));
(match v5 with
| true => (match (bnd x1 (8 : Int)) with
| true => let v6 : Int := (List.getD x2 (Int.toNat x1) (0 : Int));
F145 R v6 fun y7 =>
L7 R x1 (0 : Int) x2 x3 x4 y7 (fun x8 x9 x10 x11 =>
let v12 : Int := (IntKind.i64.wrap (x8 + (1 : Int)));
kc v12 x9 x10 x11)
| false => none)
| false => k0 x3 x4)
theorem q123_3 (F145 : FT145) (L3 : LT123_3) (L7 : LT123_7) (R : Type) (x : HT (le123_3 L3).H) (kc : HT (le123_3 L3).H → Option R) (ke : KT R (le123_3 L3).exs) :
  exec (e123 F145 L3 L7 R) (lcode 3 (codeOf Try.f123)) (stOf (le123_3 L3).H x 3) (roundK (le123_3 L3).H (le123_3 L3).exs kc ke) =
    p123_3 F145 L7 R x.1 x.2.1 x.2.2.1 x.2.2.2.1 (fun x1 x2 x3 x4 => kc (x1, x2, x3, x4, ())) (fun y1 y2 => ke.1 (y1, y2, ())) := by kernel_rfl
noncomputable def G123_3 : Nat → LT123_3
  | 0 => fun _ _ _ _ _ _ => none
  | n + 1 => fun R x1 x2 x3 x4 k0 => p123_3 F145 (G123_7 FUEL) R x1 x2 x3 x4 (fun x1 x2 x3 x4 => G123_3 n R x1 x2 x3 x4 k0) k0
def p123 (L3 : LT123_3) : FT123 := fun R a0 k =>
L3 R (0 : Int) a0 (List.replicate 32 (0 : Int)) (List.replicate 32 (0 : Int)) (fun x1 x2 =>
k x2)
theorem q123 (F145 : FT145) (L3 : LT123_3) (L7 : LT123_7) (F : FT123) (R : Type) (x : AT (en123 F).ins) (k : RT (en123 F).outs → PT (en123 F).ins → Option R) :
  xfun (e123 F145 L3 L7 R) (codeOf Try.f123) res123 (avs (en123 F).ins x) (finK (en123 F).outs (en123 F).ins k) = p123 L3 R x.1 (fun y1 => k (y1, ()) ()) := by kernel_rfl
noncomputable def F123 : FT123 := p123 (G123_3 FUEL)
theorem env123 (R : Type) : EnvOK Try.prog (e123 F145 (G123_3 FUEL) (G123_7 FUEL) R) := ⟨tabOK, eqOK, callOf_ok (allE_cons ok145 allE_nil)⟩
noncomputable def T123_7 : (R : Type) → HT (le123_7 (G123_7 FUEL)).H → (HT (le123_7 (G123_7 FUEL)).H → Option R) → KT R (le123_7 (G123_7 FUEL)).exs → Option R := fun R x kc ke => p123_7 R x.1 x.2.1 x.2.2.1 x.2.2.2.1 x.2.2.2.2.1 x.2.2.2.2.2.1 (fun x1 x2 x3 x4 x5 x6 => kc (x1, x2, x3, x4, x5, x6, ())) (fun y1 y2 y3 y4 => ke.1 (y1, y2, y3, y4, ()))
theorem it123_7 : ∀ (n : Nat) (R : Type) (x : HT (le123_7 (G123_7 FUEL)).H) (ke : KT R (le123_7 (G123_7 FUEL)).exs), iter T123_7 n R x ke = G123_7 n R x.1 x.2.1 x.2.2.1 x.2.2.2.1 x.2.2.2.2.1 x.2.2.2.2.2.1 (fun y1 y2 y3 y4 => ke.1 (y1, y2, y3, y4, ())) := by
  intro n
  induction n with
  | zero => intro R x ke; rfl
  | succ n ih =>
    intro R x ke
    show T123_7 R x (fun x' => iter T123_7 n R x' ke) ke = _
    rw [show (fun x' => iter T123_7 n R x' ke) = fun x => G123_7 n R x.1 x.2.1 x.2.2.1 x.2.2.2.1 x.2.2.2.2.1 x.2.2.2.2.2.1 (fun y1 y2 y3 y4 => ke.1 (y1, y2, y3, y4, ())) from funext fun x' => ih R x' ke]
    rfl
theorem lok123_7 : (le123_7 (G123_7 FUEL)).OK Try.prog 0 28 (lcode 7 (codeOf Try.f123)) := fun R x ke r h =>
  iter_sound (fun R => e123 F145 (G123_3 FUEL) (G123_7 FUEL) R) 0 28 (fun _ => rfl) (fun _ => rfl) (fun R => env123 R) mixed (by
    intro R
    rw [show loopsOf (lcode 7 (codeOf Try.f123)) = [] from by kernel_rfl]
    exact allM_nil) (T := T123_7) (fun R x kc ke => q123_7 F145 (G123_3 FUEL) (G123_7 FUEL) R x kc ke) FUEL R x ke r ((it123_7 FUEL R x ke).trans h)
noncomputable def T123_3 : (R : Type) → HT (le123_3 (G123_3 FUEL)).H → (HT (le123_3 (G123_3 FUEL)).H → Option R) → KT R (le123_3 (G123_3 FUEL)).exs → Option R := fun R x kc ke => p123_3 F145 (G123_7 FUEL) R x.1 x.2.1 x.2.2.1 x.2.2.2.1 (fun x1 x2 x3 x4 => kc (x1, x2, x3, x4, ())) (fun y1 y2 => ke.1 (y1, y2, ()))
theorem it123_3 : ∀ (n : Nat) (R : Type) (x : HT (le123_3 (G123_3 FUEL)).H) (ke : KT R (le123_3 (G123_3 FUEL)).exs), iter T123_3 n R x ke = G123_3 n R x.1 x.2.1 x.2.2.1 x.2.2.2.1 (fun y1 y2 => ke.1 (y1, y2, ())) := by
  intro n
  induction n with
  | zero => intro R x ke; rfl
  | succ n ih =>
    intro R x ke
    show T123_3 R x (fun x' => iter T123_3 n R x' ke) ke = _
    rw [show (fun x' => iter T123_3 n R x' ke) = fun x => G123_3 n R x.1 x.2.1 x.2.2.1 x.2.2.2.1 (fun y1 y2 => ke.1 (y1, y2, ())) from funext fun x' => ih R x' ke]
    rfl
theorem lok123_3 : (le123_3 (G123_3 FUEL)).OK Try.prog 0 28 (lcode 3 (codeOf Try.f123)) := fun R x ke r h =>
  iter_sound (fun R => e123 F145 (G123_3 FUEL) (G123_7 FUEL) R) 0 28 (fun _ => rfl) (fun _ => rfl) (fun R => env123 R) mixed (by
    intro R
    rw [show loopsOf (lcode 3 (codeOf Try.f123)) = [lcode 7 (codeOf Try.f123)] from by kernel_rfl]
    exact (allM_cons (loop_ok2 (e := le123_7 (G123_7 FUEL)) rfl rfl lok123_7) allM_nil)) (T := T123_3) (fun R x kc ke => q123_3 F145 (G123_3 FUEL) (G123_7 FUEL) R x kc ke) FUEL R x ke r ((it123_3 FUEL R x ke).trans h)
theorem ok123 : (en123 F123).OK Try.prog :=
  ent_ok (Ef := fun R => e123 F145 (G123_3 FUEL) (G123_7 FUEL) R) (fun R => env123 R) mixed Try.func123 (body := codeOf Try.f123) (by kernel_rfl) (by kernel_rfl) (np := 0) (nt := 28) (fun _ => rfl) (fun _ => rfl) (by kernel_rfl) (res := res123) (by kernel_rfl) (fun _ => rfl) (fun _ => Nat.le_of_ble_eq_true rfl) (by
    intro R
    rw [show loopsOf (codeOf Try.f123) = [lcode 3 (codeOf Try.f123)] from by kernel_rfl]
    exact (allM_cons (loop_ok2 (e := le123_3 (G123_3 FUEL)) rfl rfl lok123_3) allM_nil)) (fun R x k => q123 F145 (G123_3 FUEL) (G123_7 FUEL) F123 R x k)
/-! drawlot/drawlotref05.Sum -/
abbrev FT91 : Type 1 := (R : Type) → (List Int) → ((List Int) → Option R) → Option R
def en91 (F : FT91) : Ent := ⟨91, [(false, (.sl (.int .u8)))], [(false, (.arr 32 (.int .u8)))], fun R x k => F R x.1 (fun y1 => k (y1, ()) ())⟩
def res91 : List (ResultVar × TypeId × Bool) := [(.cell 2 26, 26, false)]
def e91 (F121 : FT121) (F122 : FT122) (F123 : FT123) (F124 : FT124) (F125 : FT125) (R : Type) : Env R := ⟨TT, EQT, 0, 15, ownOf [], callOf [en121 F121, en122 F122, en123 F123, en124 F124, en125 F125] R, loopOf [] R⟩
def p91 (F121 : FT121) (F122 : FT122) (F123 : FT123) (F124 : FT124) (F125 : FT125) : FT91 := fun R a0 k =>
F122 R a0 fun y1 =>
F121 R y1 fun y2 y3 =>
F125 R  fun y4 =>
F124 R y4 y2 fun y5 =>
F123 R y5 fun y6 =>
k y6
theorem q91 (F121 : FT121) (F122 : FT122) (F123 : FT123) (F124 : FT124) (F125 : FT125) (F : FT91) (R : Type) (x : AT (en91 F).ins) (k : RT (en91 F).outs → PT (en91 F).ins → Option R) :
  xfun (e91 F121 F122 F123 F124 F125 R) (codeOf Try.f91) res91 (avs (en91 F).ins x) (finK (en91 F).outs (en91 F).ins k) = p91 F121 F122 F123 F124 F125 R x.1 (fun y1 => k (y1, ()) ()) := by kernel_rfl
noncomputable def F91 : FT91 := p91 F121 F122 F123 F124 F125
theorem env91 (R : Type) : EnvOK Try.prog (e91 F121 F122 F123 F124 F125 R) := ⟨tabOK, eqOK, callOf_ok (allE_cons ok121 (allE_cons ok122 (allE_cons ok123 (allE_cons ok124 (allE_cons ok125 allE_nil)))))⟩
theorem ok91 : (en91 F91).OK Try.prog :=
  ent_ok (Ef := fun R => e91 F121 F122 F123 F124 F125 R) (fun R => env91 R) mixed Try.func91 (body := codeOf Try.f91) (by kernel_rfl) (by kernel_rfl) (np := 0) (nt := 15) (fun _ => rfl) (fun _ => rfl) (by kernel_rfl) (res := res91) (by kernel_rfl) (fun _ => rfl) (fun _ => Nat.le_of_ble_eq_true rfl) (by
    intro R
    rw [show loopsOf (codeOf Try.f91) = [] from by kernel_rfl]
    exact allM_nil) (fun R x k => q91 F121 F122 F123 F124 F125 F91 R x k)
/-! drawlot/drawlotref06.Block -/
abbrev FT162 : Type 1 := (R : Type) → (List Int) → Int → Int → ((List Int) → Option R) → Option R
def en162 (F : FT162) : Ent := ⟨162, [(false, (.arr 32 (.int .u8))), (false, (.int .u64)), (false, (.int .u64))], [(false, (.arr 32 (.int .u8)))], fun R x k => F R x.1 x.2.1 x.2.2.1 (fun y1 => k (y1, ()) ())⟩
def res162 : List (ResultVar × TypeId × Bool) := [(.cell 6 26, 26, false)]
abbrev LT162_3 : Type 1 := (R : Type) → Int → Int → Int → (List Int) → (List Int) → (List Int) → (Int → Int → (List Int) → (List Int) → Option R) → Option R
def le162_3 (L : LT162_3) : LEnt := ⟨3, [.val 1 (.int .u64), .val 2 (.int .u64), .fix 3 (.ptr 0 [] (.arr 32 (.int .u8))), .fix 6 (.ptr 1 [] (.arr 32 (.int .u8))), .fix 7 (.own 2 0), .val 8 (.int .i64), .var 0 (.arr 32 (.int .u8)) false, .var 1 (.arr 32 (.int .u8)) false, .row 2 (.int .u8) false], 3, [(.exit 0, [.val 1 (.int .u64), .val 2 (.int .u64), .fix 6 (.ptr 1 [] (.arr 32 (.int .u8))), .fix 7 (.own 2 0), .var 1 (.arr 32 (.int .u8)) false, .row 2 (.int .u8) false])], fun R x ke => L R x.1 x.2.1 x.2.2.1 x.2.2.2.1 x.2.2.2.2.1 x.2.2.2.2.2.1 (fun y1 y2 y3 y4 => ke.1 (y1, y2, y3, y4, ()))⟩
abbrev LT162_8 : Type 1 := (R : Type) → Int → (List Int) → (List Int) → (List Int) → (List Int) → ((List Int) → (List Int) → (List Int) → Option R) → Option R
def le162_8 (L : LT162_8) : LEnt := ⟨8, [.fix 6 (.ptr 1 [] (.arr 32 (.int .u8))), .fix 7 (.own 2 0), .fix 9 (.ptr 3 [] (.arr 8 (.int .u8))), .fix 10 (.ptr 4 [] (.arr 8 (.int .u8))), .val 11 (.int .i64), .var 1 (.arr 32 (.int .u8)) false, .row 2 (.int .u8) false, .var 3 (.arr 8 (.int .u8)) false, .var 4 (.arr 8 (.int .u8)) false], 5, [(.exit 2, [.fix 6 (.ptr 1 [] (.arr 32 (.int .u8))), .fix 7 (.own 2 0), .fix 10 (.ptr 4 [] (.arr 8 (.int .u8))), .var 1 (.arr 32 (.int .u8)) false, .row 2 (.int .u8) false, .var 4 (.arr 8 (.int .u8)) false])], fun R x ke => L R x.1 x.2.1 x.2.2.1 x.2.2.2.1 x.2.2.2.2.1 (fun y1 y2 y3 => ke.1 (y1, y2, y3, ()))⟩
abbrev LT162_12 : Type 1 := (R : Type) → Int → (List Int) → (List Int) → (List Int) → ((List Int) → (List Int) → Option R) → Option R
def le162_12 (L : LT162_12) : LEnt := ⟨12, [.fix 6 (.ptr 1 [] (.arr 32 (.int .u8))), .fix 7 (.own 2 0), .fix 10 (.ptr 4 [] (.arr 8 (.int .u8))), .val 12 (.int .i64), .var 1 (.arr 32 (.int .u8)) false, .row 2 (.int .u8) false, .var 4 (.arr 8 (.int .u8)) false], 5, [(.exit 4, [.fix 6 (.ptr 1 [] (.arr 32 (.int .u8))), .fix 7 (.own 2 0), .var 1 (.arr 32 (.int .u8)) false, .row 2 (.int .u8) false])], fun R x ke => L R x.1 x.2.1 x.2.2.1 x.2.2.2.1 (fun y1 y2 => ke.1 (y1, y2, ()))⟩
def e162 (F91 : FT91) (F96 : FT96) (L3 : LT162_3) (L8 : LT162_8) (L12 : LT162_12) (R : Type) : Env R := ⟨TT, EQT, 0, 49, ownOf [(1, 0)], callOf [en91 F91, en96 F96] R, loopOf [le162_3 L3, le162_8 L8, le162_12 L12] R⟩
def p162_3 : (R : Type) → Int → Int → Int → (List Int) → (List Int) → (List Int) → (Int → Int → Int → (List Int) → (List Int) → (List Int) → Option R) → (Int → Int → (List Int) → (List Int) → Option R) → Option R := fun R x1 x2 x3 x4 x5 x6 kc k0 =>
let v7 : Bool := (decide (x3 < (32 : Int)));
(match v7 with
| true => (match (bnd x3 (32 : Int)) with
| true => let v8 : Int := (List.getD x4 (Int.toNat x3) (0 : Int));
let v9 : (List Int) := ([v8] : (List Int));
(match (decide (List.length x6 + List.length v9 ≤ 140737488355328)) with
| true => let v10 : (List Int) := (x6 ++ v9);
let v11 : Int := (IntKind.i64.wrap (x3 + (1 : Int)));
kc x1 x2 v11 x4 x5 v10
| false => none)
| false => none)
| false => k0 x1 x2 x5 x6)
theorem q162_3 (F91 : FT91) (F96 : FT96) (L3 : LT162_3) (L8 : LT162_8) (L12 : LT162_12) (R : Type) (x : HT (le162_3 L3).H) (kc : HT (le162_3 L3).H → Option R) (ke : KT R (le162_3 L3).exs) :
  exec (e162 F91 F96 L3 L8 L12 R) (lcode 3 (codeOf Try.f162)) (stOf (le162_3 L3).H x 3) (roundK (le162_3 L3).H (le162_3 L3).exs kc ke) =
    p162_3 R x.1 x.2.1 x.2.2.1 x.2.2.2.1 x.2.2.2.2.1 x.2.2.2.2.2.1 (fun x1 x2 x3 x4 x5 x6 => kc (x1, x2, x3, x4, x5, x6, ())) (fun y1 y2 y3 y4 => ke.1 (y1, y2, y3, y4, ())) := by kernel_rfl
noncomputable def G162_3 : Nat → LT162_3
  | 0 => fun _ _ _ _ _ _ _ _ => none
  | n + 1 => fun R x1 x2 x3 x4 x5 x6 k0 => p162_3 R x1 x2 x3 x4 x5 x6 (fun x1 x2 x3 x4 x5 x6 => G162_3 n R x1 x2 x3 x4 x5 x6 k0) k0
def p162_8 : (R : Type) → Int → (List Int) → (List Int) → (List Int) → (List Int) → (Int → (List Int) → (List Int) → (List Int) → (List Int) → Option R) → ((List Int) → (List Int) → (List Int) → Option R) → Option R := fun R x1 x2 x3 x4 x5 kc k0 =>
let v6 : Bool := (decide (x1 < (8 : Int)));
(match v6 with
| true => (match (bnd x1 (8 : Int)) with
| true => let v7 : Int := (List.getD x4 (Int.toNat x1) (0 : Int));
let v8 : (List Int) := ([v7] : (List Int));
(match (decide (List.length x3 + List.length v8 ≤ 140737488355328)) with
| true => let v9 : (List Int) := (x3 ++ v8);
let v10 : Int := (IntKind.i64.wrap (x1 + (1 : Int)));
kc v10 x2 v9 x4 x5
| false => none)
| false => none)
| false => k0 x2 x3 x5)
theorem q162_8 (F91 : FT91) (F96 : FT96) (L3 : LT162_3) (L8 : LT162_8) (L12 : LT162_12) (R : Type) (x : HT (le162_8 L8).H) (kc : HT (le162_8 L8).H → Option R) (ke : KT R (le162_8 L8).exs) :
  exec (e162 F91 F96 L3 L8 L12 R) (lcode 8 (codeOf Try.f162)) (stOf (le162_8 L8).H x 5) (roundK (le162_8 L8).H (le162_8 L8).exs kc ke) =
    p162_8 R x.1 x.2.1 x.2.2.1 x.2.2.2.1 x.2.2.2.2.1 (fun x1 x2 x3 x4 x5 => kc (x1, x2, x3, x4, x5, ())) (fun y1 y2 y3 => ke.1 (y1, y2, y3, ())) := by kernel_rfl
noncomputable def G162_8 : Nat → LT162_8
  | 0 => fun _ _ _ _ _ _ _ => none
  | n + 1 => fun R x1 x2 x3 x4 x5 k0 => p162_8 R x1 x2 x3 x4 x5 (fun x1 x2 x3 x4 x5 => G162_8 n R x1 x2 x3 x4 x5 k0) k0
def p162_12 : (R : Type) → Int → (List Int) → (List Int) → (List Int) → (Int → (List Int) → (List Int) → (List Int) → Option R) → ((List Int) → (List Int) → Option R) → Option R := fun R x1 x2 x3 x4 kc k0 =>
let v5 : Bool := (decide (x1 < (8 : Int)));
(match v5 with
| true => (match (bnd x1 (8 : Int)) with
| true => let v6 : Int := (List.getD x4 (Int.toNat x1) (0 : Int));
let v7 : (List Int) := ([v6] : (List Int));
(match (decide (List.length x3 + List.length v7 ≤ 140737488355328)) with
| true => let v8 : (List Int) := (x3 ++ v7);
let v9 : Int := (IntKind.i64.wrap (x1 + (1 : Int)));
kc v9 x2 v8 x4
| false => none)
| false => none)
| false => k0 x2 x3)
theorem q162_12 (F91 : FT91) (F96 : FT96) (L3 : LT162_3) (L8 : LT162_8) (L12 : LT162_12) (R : Type) (x : HT (le162_12 L12).H) (kc : HT (le162_12 L12).H → Option R) (ke : KT R (le162_12 L12).exs) :
  exec (e162 F91 F96 L3 L8 L12 R) (lcode 12 (codeOf Try.f162)) (stOf (le162_12 L12).H x 5) (roundK (le162_12 L12).H (le162_12 L12).exs kc ke) =
    p162_12 R x.1 x.2.1 x.2.2.1 x.2.2.2.1 (fun x1 x2 x3 x4 => kc (x1, x2, x3, x4, ())) (fun y1 y2 => ke.1 (y1, y2, ())) := by kernel_rfl
noncomputable def G162_12 : Nat → LT162_12
  | 0 => fun _ _ _ _ _ _ => none
  | n + 1 => fun R x1 x2 x3 x4 k0 => p162_12 R x1 x2 x3 x4 (fun x1 x2 x3 x4 => G162_12 n R x1 x2 x3 x4 k0) k0
def p162 (F91 : FT91) (F96 : FT96) (L3 : LT162_3) (L8 : LT162_8) (L12 : LT162_12) : FT162 := fun R a0 a1 a2 k =>
L3 R a1 a2 (0 : Int) a0 (List.replicate 32 (0 : Int)) ([] : (List Int)) (fun x1 x2 x3 x4 =>
F96 R x1 fun y5 =>
F96 R x2 fun y6 =>
L8 R (0 : Int) x3 x4 y5 y6 (fun x7 x8 x9 =>
L12 R (0 : Int) x7 x8 x9 (fun x10 x11 =>
F91 R x11 fun y12 =>
k y12)))
theorem q162 (F91 : FT91) (F96 : FT96) (L3 : LT162_3) (L8 : LT162_8) (L12 : LT162_12) (F : FT162) (R : Type) (x : AT (en162 F).ins) (k : RT (en162 F).outs → PT (en162 F).ins → Option R) :
  xfun (e162 F91 F96 L3 L8 L12 R) (codeOf Try.f162) res162 (avs (en162 F).ins x) (finK (en162 F).outs (en162 F).ins k) = p162 F91 F96 L3 L8 L12 R x.1 x.2.1 x.2.2.1 (fun y1 => k (y1, ()) ()) := by kernel_rfl
noncomputable def F162 : FT162 := p162 F91 F96 (G162_3 FUEL) (G162_8 FUEL) (G162_12 FUEL)
theorem env162 (R : Type) : EnvOK Try.prog (e162 F91 F96 (G162_3 FUEL) (G162_8 FUEL) (G162_12 FUEL) R) := ⟨tabOK, eqOK, callOf_ok (allE_cons ok91 (allE_cons ok96 allE_nil))⟩
noncomputable def T162_3 : (R : Type) → HT (le162_3 (G162_3 FUEL)).H → (HT (le162_3 (G162_3 FUEL)).H → Option R) → KT R (le162_3 (G162_3 FUEL)).exs → Option R := fun R x kc ke => p162_3 R x.1 x.2.1 x.2.2.1 x.2.2.2.1 x.2.2.2.2.1 x.2.2.2.2.2.1 (fun x1 x2 x3 x4 x5 x6 => kc (x1, x2, x3, x4, x5, x6, ())) (fun y1 y2 y3 y4 => ke.1 (y1, y2, y3, y4, ()))
theorem it162_3 : ∀ (n : Nat) (R : Type) (x : HT (le162_3 (G162_3 FUEL)).H) (ke : KT R (le162_3 (G162_3 FUEL)).exs), iter T162_3 n R x ke = G162_3 n R x.1 x.2.1 x.2.2.1 x.2.2.2.1 x.2.2.2.2.1 x.2.2.2.2.2.1 (fun y1 y2 y3 y4 => ke.1 (y1, y2, y3, y4, ())) := by
  intro n
  induction n with
  | zero => intro R x ke; rfl
  | succ n ih =>
    intro R x ke
    show T162_3 R x (fun x' => iter T162_3 n R x' ke) ke = _
    rw [show (fun x' => iter T162_3 n R x' ke) = fun x => G162_3 n R x.1 x.2.1 x.2.2.1 x.2.2.2.1 x.2.2.2.2.1 x.2.2.2.2.2.1 (fun y1 y2 y3 y4 => ke.1 (y1, y2, y3, y4, ())) from funext fun x' => ih R x' ke]
    rfl
theorem lok162_3 : (le162_3 (G162_3 FUEL)).OK Try.prog 0 49 (lcode 3 (codeOf Try.f162)) := fun R x ke r h =>
  iter_sound (fun R => e162 F91 F96 (G162_3 FUEL) (G162_8 FUEL) (G162_12 FUEL) R) 0 49 (fun _ => rfl) (fun _ => rfl) (fun R => env162 R) mixed (by
    intro R
    rw [show loopsOf (lcode 3 (codeOf Try.f162)) = [] from by kernel_rfl]
    exact allM_nil) (T := T162_3) (fun R x kc ke => q162_3 F91 F96 (G162_3 FUEL) (G162_8 FUEL) (G162_12 FUEL) R x kc ke) FUEL R x ke r ((it162_3 FUEL R x ke).trans h)
noncomputable def T162_8 : (R : Type) → HT (le162_8 (G162_8 FUEL)).H → (HT (le162_8 (G162_8 FUEL)).H → Option R) → KT R (le162_8 (G162_8 FUEL)).exs → Option R := fun R x kc ke => p162_8 R x.1 x.2.1 x.2.2.1 x.2.2.2.1 x.2.2.2.2.1 (fun x1 x2 x3 x4 x5 => kc (x1, x2, x3, x4, x5, ())) (fun y1 y2 y3 => ke.1 (y1, y2, y3, ()))
theorem it162_8 : ∀ (n : Nat) (R : Type) (x : HT (le162_8 (G162_8 FUEL)).H) (ke : KT R (le162_8 (G162_8 FUEL)).exs), iter T162_8 n R x ke = G162_8 n R x.1 x.2.1 x.2.2.1 x.2.2.2.1 x.2.2.2.2.1 (fun y1 y2 y3 => ke.1 (y1, y2, y3, ())) := by
  intro n
  induction n with
  | zero => intro R x ke; rfl
  | succ n ih =>
    intro R x ke
    show T162_8 R x (fun x' => iter T162_8 n R x' ke) ke = _
    rw [show (fun x' => iter T162_8 n R x' ke) = fun x => G162_8 n R x.1 x.2.1 x.2.2.1 x.2.2.2.1 x.2.2.2.2.1 (fun y1 y2 y3 => ke.1 (y1, y2, y3, ())) from funext fun x' => ih R x' ke]
    rfl
theorem lok162_8 : (le162_8 (G162_8 FUEL)).OK Try.prog 0 49 (lcode 8 (codeOf Try.f162)) := fun R x ke r h =>
  iter_sound (fun R => e162 F91 F96 (G162_3 FUEL) (G162_8 FUEL) (G162_12 FUEL) R) 0 49 (fun _ => rfl) (fun _ => rfl) (fun R => env162 R) mixed (by
    intro R
    rw [show loopsOf (lcode 8 (codeOf Try.f162)) = [] from by kernel_rfl]
    exact allM_nil) (T := T162_8) (fun R x kc ke => q162_8 F91 F96 (G162_3 FUEL) (G162_8 FUEL) (G162_12 FUEL) R x kc ke) FUEL R x ke r ((it162_8 FUEL R x ke).trans h)
noncomputable def T162_12 : (R : Type) → HT (le162_12 (G162_12 FUEL)).H → (HT (le162_12 (G162_12 FUEL)).H → Option R) → KT R (le162_12 (G162_12 FUEL)).exs → Option R := fun R x kc ke => p162_12 R x.1 x.2.1 x.2.2.1 x.2.2.2.1 (fun x1 x2 x3 x4 => kc (x1, x2, x3, x4, ())) (fun y1 y2 => ke.1 (y1, y2, ()))
theorem it162_12 : ∀ (n : Nat) (R : Type) (x : HT (le162_12 (G162_12 FUEL)).H) (ke : KT R (le162_12 (G162_12 FUEL)).exs), iter T162_12 n R x ke = G162_12 n R x.1 x.2.1 x.2.2.1 x.2.2.2.1 (fun y1 y2 => ke.1 (y1, y2, ())) := by
  intro n
  induction n with
  | zero => intro R x ke; rfl
  | succ n ih =>
    intro R x ke
    show T162_12 R x (fun x' => iter T162_12 n R x' ke) ke = _
    rw [show (fun x' => iter T162_12 n R x' ke) = fun x => G162_12 n R x.1 x.2.1 x.2.2.1 x.2.2.2.1 (fun y1 y2 => ke.1 (y1, y2, ())) from funext fun x' => ih R x' ke]
    rfl
theorem lok162_12 : (le162_12 (G162_12 FUEL)).OK Try.prog 0 49 (lcode 12 (codeOf Try.f162)) := fun R x ke r h =>
  iter_sound (fun R => e162 F91 F96 (G162_3 FUEL) (G162_8 FUEL) (G162_12 FUEL) R) 0 49 (fun _ => rfl) (fun _ => rfl) (fun R => env162 R) mixed (by
    intro R
    rw [show loopsOf (lcode 12 (codeOf Try.f162)) = [] from by kernel_rfl]
    exact allM_nil) (T := T162_12) (fun R x kc ke => q162_12 F91 F96 (G162_3 FUEL) (G162_8 FUEL) (G162_12 FUEL) R x kc ke) FUEL R x ke r ((it162_12 FUEL R x ke).trans h)
theorem ok162 : (en162 F162).OK Try.prog :=
  ent_ok (Ef := fun R => e162 F91 F96 (G162_3 FUEL) (G162_8 FUEL) (G162_12 FUEL) R) (fun R => env162 R) mixed Try.func162 (body := codeOf Try.f162) (by kernel_rfl) (by kernel_rfl) (np := 0) (nt := 49) (fun _ => rfl) (fun _ => rfl) (by kernel_rfl) (res := res162) (by kernel_rfl) (fun _ => rfl) (fun _ => Nat.le_of_ble_eq_true rfl) (by
    intro R
    rw [show loopsOf (codeOf Try.f162) = [lcode 3 (codeOf Try.f162), lcode 8 (codeOf Try.f162), lcode 12 (codeOf Try.f162)] from by kernel_rfl]
    exact (allM_cons (loop_ok2 (e := le162_3 (G162_3 FUEL)) rfl rfl lok162_3) (allM_cons (loop_ok2 (e := le162_8 (G162_8 FUEL)) rfl rfl lok162_8) (allM_cons (loop_ok2 (e := le162_12 (G162_12 FUEL)) rfl rfl lok162_12) allM_nil)))) (fun R x k => q162 F91 F96 (G162_3 FUEL) (G162_8 FUEL) (G162_12 FUEL) F162 R x k)
/-! drawlot/drawlotref06.pow -/
abbrev FT163 : Type 1 := (R : Type) → Int → (Int → Option R) → Option R
def en163 (F : FT163) : Ent := ⟨163, [(false, (.int .u64))], [(false, (.int .u64))], fun R x k => F R x.1 (fun y1 => k (y1, ()) ())⟩
def res163 : List (ResultVar × TypeId × Bool) := [(.tmp 2, 24, false)]
abbrev LT163_3 : Type 1 := (R : Type) → Int → Int → Int → (Int → Option R) → Option R
def le163_3 (L : LT163_3) : LEnt := ⟨3, [.val 0 (.int .u64), .val 3 (.int .u64), .val 4 (.int .u64)], 0, [(.exit 0, [.val 3 (.int .u64)])], fun R x ke => L R x.1 x.2.1 x.2.2.1 (fun y1 => ke.1 (y1, ()))⟩
def e163 (L3 : LT163_3) (R : Type) : Env R := ⟨TT, EQT, 0, 13, ownOf [], callOf [] R, loopOf [le163_3 L3] R⟩
def p163_3 : (R : Type) → Int → Int → Int → (Int → Int → Int → Option R) → (Int → Option R) → Option R := fun R x1 x2 x3 kc k0 =>
let v4 : Bool := (decide (x3 < x1));
(match v4 with
| true => let v5 : Int := (IntKind.u64.wrap ((2 : Int) * x2));
let v6 : Int := (IntKind.u64.wrap (x3 + (1 : Int)));
kc x1 v5 v6
| false => k0 x2)
theorem q163_3 (L3 : LT163_3) (R : Type) (x : HT (le163_3 L3).H) (kc : HT (le163_3 L3).H → Option R) (ke : KT R (le163_3 L3).exs) :
  exec (e163 L3 R) (lcode 3 (codeOf Try.f163)) (stOf (le163_3 L3).H x 0) (roundK (le163_3 L3).H (le163_3 L3).exs kc ke) =
    p163_3 R x.1 x.2.1 x.2.2.1 (fun x1 x2 x3 => kc (x1, x2, x3, ())) (fun y1 => ke.1 (y1, ())) := by kernel_rfl
noncomputable def G163_3 : Nat → LT163_3
  | 0 => fun _ _ _ _ _ => none
  | n + 1 => fun R x1 x2 x3 k0 => p163_3 R x1 x2 x3 (fun x1 x2 x3 => G163_3 n R x1 x2 x3 k0) k0
def p163 (L3 : LT163_3) : FT163 := fun R a0 k =>
L3 R a0 (1 : Int) (0 : Int) (fun x1 =>
k x1)
theorem q163 (L3 : LT163_3) (F : FT163) (R : Type) (x : AT (en163 F).ins) (k : RT (en163 F).outs → PT (en163 F).ins → Option R) :
  xfun (e163 L3 R) (codeOf Try.f163) res163 (avs (en163 F).ins x) (finK (en163 F).outs (en163 F).ins k) = p163 L3 R x.1 (fun y1 => k (y1, ()) ()) := by kernel_rfl
noncomputable def F163 : FT163 := p163 (G163_3 FUEL)
theorem env163 (R : Type) : EnvOK Try.prog (e163 (G163_3 FUEL) R) := ⟨tabOK, eqOK, callOf_ok allE_nil⟩
noncomputable def T163_3 : (R : Type) → HT (le163_3 (G163_3 FUEL)).H → (HT (le163_3 (G163_3 FUEL)).H → Option R) → KT R (le163_3 (G163_3 FUEL)).exs → Option R := fun R x kc ke => p163_3 R x.1 x.2.1 x.2.2.1 (fun x1 x2 x3 => kc (x1, x2, x3, ())) (fun y1 => ke.1 (y1, ()))
theorem it163_3 : ∀ (n : Nat) (R : Type) (x : HT (le163_3 (G163_3 FUEL)).H) (ke : KT R (le163_3 (G163_3 FUEL)).exs), iter T163_3 n R x ke = G163_3 n R x.1 x.2.1 x.2.2.1 (fun y1 => ke.1 (y1, ())) := by
  intro n
  induction n with
  | zero => intro R x ke; rfl
  | succ n ih =>
    intro R x ke
    show T163_3 R x (fun x' => iter T163_3 n R x' ke) ke = _
    rw [show (fun x' => iter T163_3 n R x' ke) = fun x => G163_3 n R x.1 x.2.1 x.2.2.1 (fun y1 => ke.1 (y1, ())) from funext fun x' => ih R x' ke]
    rfl
theorem lok163_3 : (le163_3 (G163_3 FUEL)).OK Try.prog 0 13 (lcode 3 (codeOf Try.f163)) := fun R x ke r h =>
  iter_sound (fun R => e163 (G163_3 FUEL) R) 0 13 (fun _ => rfl) (fun _ => rfl) (fun R => env163 R) mixed (by
    intro R
    rw [show loopsOf (lcode 3 (codeOf Try.f163)) = [] from by kernel_rfl]
    exact allM_nil) (T := T163_3) (fun R x kc ke => q163_3 (G163_3 FUEL) R x kc ke) FUEL R x ke r ((it163_3 FUEL R x ke).trans h)
theorem ok163 : (en163 F163).OK Try.prog :=
  ent_ok (Ef := fun R => e163 (G163_3 FUEL) R) (fun R => env163 R) mixed Try.func163 (body := codeOf Try.f163) (by kernel_rfl) (by kernel_rfl) (np := 0) (nt := 13) (fun _ => rfl) (fun _ => rfl) (by kernel_rfl) (res := res163) (by kernel_rfl) (fun _ => rfl) (fun _ => Nat.le_of_ble_eq_true rfl) (by
    intro R
    rw [show loopsOf (codeOf Try.f163) = [lcode 3 (codeOf Try.f163)] from by kernel_rfl]
    exact (allM_cons (loop_ok2 (e := le163_3 (G163_3 FUEL)) rfl rfl lok163_3) allM_nil)) (fun R x k => q163 (G163_3 FUEL) F163 R x k)
/-! drawlot/drawlotref06.Bit -/
abbrev FT148 : Type 1 := (R : Type) → (List Int) → Int → Int → (Int → Option R) → Option R
def en148 (F : FT148) : Ent := ⟨148, [(false, (.arr 32 (.int .u8))), (false, (.int .u64)), (false, (.int .u64))], [(false, (.int .u64))], fun R x k => F R x.1 x.2.1 x.2.2.1 (fun y1 => k (y1, ()) ())⟩
def res148 : List (ResultVar × TypeId × Bool) := [(.tmp 6, 24, false)]
def e148 (F162 : FT162) (F163 : FT163) (R : Type) : Env R := ⟨TT, EQT, 0, 25, ownOf [], callOf [en162 F162, en163 F163] R, loopOf [] R⟩
def p148 (F162 : FT162) (F163 : FT163) : FT148 := fun R a0 a1 a2 k =>
let v1 : Int := (IntKind.u64.wrap (Int.tdiv a2 (256 : Int)));
F162 R a0 a1 v1 fun y2 =>
let v3 : Int := (Int.tmod a2 (256 : Int));
let v4 : Int := (IntKind.u64.wrap (Int.tdiv v3 (8 : Int)));
(match (bnd v4 (32 : Int)) with
| true => let v5 : Int := (List.getD y2 (Int.toNat v4) (0 : Int));
let v6 : Int := (IntKind.u64.wrap v5);
let v7 : Int := (Int.tmod a2 (8 : Int));
let v8 : Int := (IntKind.u64.wrap ((7 : Int) - v7));
F163 R v8 fun y9 =>
(match (!(y9 == 0)) with
| true => let v10 : Int := (IntKind.u64.wrap (Int.tdiv v6 y9));
let v11 : Int := (Int.tmod v10 (2 : Int));
k v11
| false => none)
| false => none)
theorem q148 (F162 : FT162) (F163 : FT163) (F : FT148) (R : Type) (x : AT (en148 F).ins) (k : RT (en148 F).outs → PT (en148 F).ins → Option R) :
  xfun (e148 F162 F163 R) (codeOf Try.f148) res148 (avs (en148 F).ins x) (finK (en148 F).outs (en148 F).ins k) = p148 F162 F163 R x.1 x.2.1 x.2.2.1 (fun y1 => k (y1, ()) ()) := by kernel_rfl
noncomputable def F148 : FT148 := p148 F162 F163
theorem env148 (R : Type) : EnvOK Try.prog (e148 F162 F163 R) := ⟨tabOK, eqOK, callOf_ok (allE_cons ok162 (allE_cons ok163 allE_nil))⟩
theorem ok148 : (en148 F148).OK Try.prog :=
  ent_ok (Ef := fun R => e148 F162 F163 R) (fun R => env148 R) mixed Try.func148 (body := codeOf Try.f148) (by kernel_rfl) (by kernel_rfl) (np := 0) (nt := 25) (fun _ => rfl) (fun _ => rfl) (by kernel_rfl) (res := res148) (by kernel_rfl) (fun _ => rfl) (fun _ => Nat.le_of_ble_eq_true rfl) (by
    intro R
    rw [show loopsOf (codeOf Try.f148) = [] from by kernel_rfl]
    exact allM_nil) (fun R x k => q148 F162 F163 F148 R x k)
/-! drawlot/drawlotref07.bit -/
abbrev FT129 : Type 1 := (R : Type) → (Int × ((List Int) × (Int × ((List Int) × (Int × (Int × Unit)))))) → Int → (Int → Option R) → Option R
def en129 (F : FT129) : Ent := ⟨129, [(false, (.pair (.int .i64) (.pair (.sl (.int .u8)) (.pair (.int .u64) (.pair (.arr 32 (.int .u8)) (.pair (.int .u64) (.pair (.int .u64) .unit))))))), (false, (.int .u64))], [(false, (.int .u64))], fun R x k => F R x.1 x.2.1 (fun y1 => k (y1, ()) ())⟩
def res129 : List (ResultVar × TypeId × Bool) := [(.tmp 4, 24, false)]
def e129 (F76 : FT76) (F148 : FT148) (R : Type) : Env R := ⟨TT, EQT, 0, 28, ownOf [], callOf [en76 F76, en148 F148] R, loopOf [] R⟩
def p129 (F76 : FT76) (F148 : FT148) : FT129 := fun R a0 a1 k =>
let v1 : Bool := (a0.1 == (2 : Int));
(match v1 with
| true => F148 R a0.2.2.2.1 a0.2.2.2.2.1 a1 fun y2 =>
k y2
| false => let v3 : Int := (IntKind.u64.wrap (Int.tdiv a1 (8 : Int)));
(match (bnd v3 (List.length a0.2.1 : Int)) with
| true => let v4 : Int := (List.getD a0.2.1 (Int.toNat v3) (0 : Int));
let v5 : Int := (IntKind.u32.wrap v4);
let v6 : Int := (Int.tmod a1 (8 : Int));
let v7 : Int := (IntKind.i64.wrap v6);
let v8 : Int := (IntKind.i64.wrap ((7 : Int) - v7));
F76 R v5 v8 fun y9 =>
let v10 : Int := (Int.tmod y9 (2 : Int));
let v11 : Int := (IntKind.u64.wrap v10);
k v11
| false => none))
theorem q129 (F76 : FT76) (F148 : FT148) (F : FT129) (R : Type) (x : AT (en129 F).ins) (k : RT (en129 F).outs → PT (en129 F).ins → Option R) :
  xfun (e129 F76 F148 R) (codeOf Try.f129) res129 (avs (en129 F).ins x) (finK (en129 F).outs (en129 F).ins k) = p129 F76 F148 R x.1 x.2.1 (fun y1 => k (y1, ()) ()) := by kernel_rfl
noncomputable def F129 : FT129 := p129 F76 F148
theorem env129 (R : Type) : EnvOK Try.prog (e129 F76 F148 R) := ⟨tabOK, eqOK, callOf_ok (allE_cons ok76 (allE_cons ok148 allE_nil))⟩
theorem ok129 : (en129 F129).OK Try.prog :=
  ent_ok (Ef := fun R => e129 F76 F148 R) (fun R => env129 R) mixed Try.func129 (body := codeOf Try.f129) (by kernel_rfl) (by kernel_rfl) (np := 0) (nt := 28) (fun _ => rfl) (fun _ => rfl) (by kernel_rfl) (res := res129) (by kernel_rfl) (fun _ => rfl) (fun _ => Nat.le_of_ble_eq_true rfl) (by
    intro R
    rw [show loopsOf (codeOf Try.f129) = [] from by kernel_rfl]
    exact allM_nil) (fun R x k => q129 F76 F148 F129 R x k)
/-! drawlot/drawlotref07.Take -/
abbrev FT102 : Type 1 := (R : Type) → (Int × ((List Int) × (Int × ((List Int) × (Int × (Int × Unit)))))) → Int → (Int → (Int × ((List Int) × (Int × ((List Int) × (Int × (Int × Unit)))))) → Int → Option R) → Option R
def en102 (F : FT102) : Ent := ⟨102, [(false, (.pair (.int .i64) (.pair (.sl (.int .u8)) (.pair (.int .u64) (.pair (.arr 32 (.int .u8)) (.pair (.int .u64) (.pair (.int .u64) .unit))))))), (false, (.int .i64))], [(false, (.int .u64)), (false, (.pair (.int .i64) (.pair (.sl (.int .u8)) (.pair (.int .u64) (.pair (.arr 32 (.int .u8)) (.pair (.int .u64) (.pair (.int .u64) .unit))))))), (false, (.int .i64))], fun R x k => F R x.1 x.2.1 (fun y1 y2 y3 => k (y1, y2, y3, ()) ())⟩
def res102 : List (ResultVar × TypeId × Bool) := [(.tmp 4, 24, false), (.cell 5 28, 28, false), (.tmp 6, 31, false)]
abbrev LT102_7 : Type 1 := (R : Type) → Int → Int → Int → (Int × ((List Int) × (Int × ((List Int) × (Int × (Int × Unit)))))) → (Int × ((List Int) × (Int × ((List Int) × (Int × (Int × Unit)))))) → (Int → (Int × ((List Int) × (Int × ((List Int) × (Int × (Int × Unit)))))) → (Int × ((List Int) × (Int × ((List Int) × (Int × (Int × Unit)))))) → Option R) → Option R
def le102_7 (L : LT102_7) : LEnt := ⟨7, [.val 1 (.int .i64), .fix 2 (.ptr 0 [] (.pair (.int .i64) (.pair (.sl (.int .u8)) (.pair (.int .u64) (.pair (.arr 32 (.int .u8)) (.pair (.int .u64) (.pair (.int .u64) .unit))))))), .fix 5 (.ptr 1 [] (.pair (.int .i64) (.pair (.sl (.int .u8)) (.pair (.int .u64) (.pair (.arr 32 (.int .u8)) (.pair (.int .u64) (.pair (.int .u64) .unit))))))), .val 7 (.int .u64), .val 8 (.int .i64), .var 0 (.pair (.int .i64) (.pair (.sl (.int .u8)) (.pair (.int .u64) (.pair (.arr 32 (.int .u8)) (.pair (.int .u64) (.pair (.int .u64) .unit)))))) false, .var 1 (.pair (.int .i64) (.pair (.sl (.int .u8)) (.pair (.int .u64) (.pair (.arr 32 (.int .u8)) (.pair (.int .u64) (.pair (.int .u64) .unit)))))) false], 2, [(.exit 0, [.fix 2 (.ptr 0 [] (.pair (.int .i64) (.pair (.sl (.int .u8)) (.pair (.int .u64) (.pair (.arr 32 (.int .u8)) (.pair (.int .u64) (.pair (.int .u64) .unit))))))), .fix 5 (.ptr 1 [] (.pair (.int .i64) (.pair (.sl (.int .u8)) (.pair (.int .u64) (.pair (.arr 32 (.int .u8)) (.pair (.int .u64) (.pair (.int .u64) .unit))))))), .val 7 (.int .u64), .var 0 (.pair (.int .i64) (.pair (.sl (.int .u8)) (.pair (.int .u64) (.pair (.arr 32 (.int .u8)) (.pair (.int .u64) (.pair (.int .u64) .unit)))))) false, .var 1 (.pair (.int .i64) (.pair (.sl (.int .u8)) (.pair (.int .u64) (.pair (.arr 32 (.int .u8)) (.pair (.int .u64) (.pair (.int .u64) .unit)))))) false])], fun R x ke => L R x.1 x.2.1 x.2.2.1 x.2.2.2.1 x.2.2.2.2.1 (fun y1 y2 y3 => ke.1 (y1, y2, y3, ()))⟩
def e102 (F101 : FT101) (F128 : FT128) (F129 : FT129) (L7 : LT102_7) (R : Type) : Env R := ⟨TT, EQT, 0, 45, ownOf [], callOf [en101 F101, en128 F128, en129 F129] R, loopOf [le102_7 L7] R⟩
def p102_7 (F129 : FT129) : (R : Type) → Int → Int → Int → (Int × ((List Int) × (Int × ((List Int) × (Int × (Int × Unit)))))) → (Int × ((List Int) × (Int × ((List Int) × (Int × (Int × Unit)))))) → (Int → Int → Int → (Int × ((List Int) × (Int × ((List Int) × (Int × (Int × Unit)))))) → (Int × ((List Int) × (Int × ((List Int) × (Int × (Int × Unit)))))) → Option R) → (Int → (Int × ((List Int) × (Int × ((List Int) × (Int × (Int × Unit)))))) → (Int × ((List Int) × (Int × ((List Int) × (Int × (Int × Unit)))))) → Option R) → Option R := fun R x1 x2 x3 x4 x5 kc k0 =>
let v6 : Bool := (decide (x3 < x1));
(match v6 with
| true => let v7 : Int := (IntKind.u64.wrap ((2 : Int) * x2));
F129 R x4 x4.2.2.2.2.2.1 fun y8 =>
let v9 : Int := (IntKind.u64.wrap (v7 + y8));
let v10 : Int := (IntKind.u64.wrap (x4.2.2.2.2.2.1 + (1 : Int)));
let v11 : Int := (IntKind.i64.wrap (x3 + (1 : Int)));
kc x1 v9 v11 (x4.1, x4.2.1, x4.2.2.1, x4.2.2.2.1, x4.2.2.2.2.1, v10, x4.2.2.2.2.2.2) x5
| false => k0 x2 x4 x5)
theorem q102_7 (F101 : FT101) (F128 : FT128) (F129 : FT129) (L7 : LT102_7) (R : Type) (x : HT (le102_7 L7).H) (kc : HT (le102_7 L7).H → Option R) (ke : KT R (le102_7 L7).exs) :
  exec (e102 F101 F128 F129 L7 R) (lcode 7 (codeOf Try.f102)) (stOf (le102_7 L7).H x 2) (roundK (le102_7 L7).H (le102_7 L7).exs kc ke) =
    p102_7 F129 R x.1 x.2.1 x.2.2.1 x.2.2.2.1 x.2.2.2.2.1 (fun x1 x2 x3 x4 x5 => kc (x1, x2, x3, x4, x5, ())) (fun y1 y2 y3 => ke.1 (y1, y2, y3, ())) := by kernel_rfl
noncomputable def G102_7 : Nat → LT102_7
  | 0 => fun _ _ _ _ _ _ _ => none
  | n + 1 => fun R x1 x2 x3 x4 x5 k0 => p102_7 F129 R x1 x2 x3 x4 x5 (fun x1 x2 x3 x4 x5 => G102_7 n R x1 x2 x3 x4 x5 k0) k0
def p102 (F101 : FT101) (F128 : FT128) (L7 : LT102_7) : FT102 := fun R a0 a1 k =>
F101 R a0 fun y1 =>
(match (!y1) with
| true => k (0 : Int) a0 (1 : Int)
| false => let v2 : Bool := (decide (a1 < (0 : Int)));
(match v2 with
| true => k (0 : Int) a0 (1 : Int)
| false => let v3 : Bool := (decide (a1 > (64 : Int)));
(match v3 with
| true => k (0 : Int) a0 (1 : Int)
| false => let v4 : Int := (IntKind.u64.wrap a1);
F128 R a0 fun y5 =>
let v6 : Bool := (decide (v4 > y5));
(match v6 with
| true => k (0 : Int) a0 (8 : Int)
| false => L7 R a1 (0 : Int) (0 : Int) a0 ((0 : Int), ([] : (List Int)), (0 : Int), (List.replicate 32 (0 : Int)), (0 : Int), (0 : Int), ()) (fun x7 x8 x9 =>
k x7 x8 (0 : Int))))))
theorem q102 (F101 : FT101) (F128 : FT128) (F129 : FT129) (L7 : LT102_7) (F : FT102) (R : Type) (x : AT (en102 F).ins) (k : RT (en102 F).outs → PT (en102 F).ins → Option R) :
  xfun (e102 F101 F128 F129 L7 R) (codeOf Try.f102) res102 (avs (en102 F).ins x) (finK (en102 F).outs (en102 F).ins k) = p102 F101 F128 L7 R x.1 x.2.1 (fun y1 y2 y3 => k (y1, y2, y3, ()) ()) := by kernel_rfl
noncomputable def F102 : FT102 := p102 F101 F128 (G102_7 FUEL)
theorem env102 (R : Type) : EnvOK Try.prog (e102 F101 F128 F129 (G102_7 FUEL) R) := ⟨tabOK, eqOK, callOf_ok (allE_cons ok101 (allE_cons ok128 (allE_cons ok129 allE_nil)))⟩
noncomputable def T102_7 : (R : Type) → HT (le102_7 (G102_7 FUEL)).H → (HT (le102_7 (G102_7 FUEL)).H → Option R) → KT R (le102_7 (G102_7 FUEL)).exs → Option R := fun R x kc ke => p102_7 F129 R x.1 x.2.1 x.2.2.1 x.2.2.2.1 x.2.2.2.2.1 (fun x1 x2 x3 x4 x5 => kc (x1, x2, x3, x4, x5, ())) (fun y1 y2 y3 => ke.1 (y1, y2, y3, ()))
theorem it102_7 : ∀ (n : Nat) (R : Type) (x : HT (le102_7 (G102_7 FUEL)).H) (ke : KT R (le102_7 (G102_7 FUEL)).exs), iter T102_7 n R x ke = G102_7 n R x.1 x.2.1 x.2.2.1 x.2.2.2.1 x.2.2.2.2.1 (fun y1 y2 y3 => ke.1 (y1, y2, y3, ())) := by
  intro n
  induction n with
  | zero => intro R x ke; rfl
  | succ n ih =>
    intro R x ke
    show T102_7 R x (fun x' => iter T102_7 n R x' ke) ke = _
    rw [show (fun x' => iter T102_7 n R x' ke) = fun x => G102_7 n R x.1 x.2.1 x.2.2.1 x.2.2.2.1 x.2.2.2.2.1 (fun y1 y2 y3 => ke.1 (y1, y2, y3, ())) from funext fun x' => ih R x' ke]
    rfl
theorem lok102_7 : (le102_7 (G102_7 FUEL)).OK Try.prog 0 45 (lcode 7 (codeOf Try.f102)) := fun R x ke r h =>
  iter_sound (fun R => e102 F101 F128 F129 (G102_7 FUEL) R) 0 45 (fun _ => rfl) (fun _ => rfl) (fun R => env102 R) mixed (by
    intro R
    rw [show loopsOf (lcode 7 (codeOf Try.f102)) = [] from by kernel_rfl]
    exact allM_nil) (T := T102_7) (fun R x kc ke => q102_7 F101 F128 F129 (G102_7 FUEL) R x kc ke) FUEL R x ke r ((it102_7 FUEL R x ke).trans h)
theorem ok102 : (en102 F102).OK Try.prog :=
  ent_ok (Ef := fun R => e102 F101 F128 F129 (G102_7 FUEL) R) (fun R => env102 R) mixed Try.func102 (body := codeOf Try.f102) (by kernel_rfl) (by kernel_rfl) (np := 0) (nt := 45) (fun _ => rfl) (fun _ => rfl) (by kernel_rfl) (res := res102) (by kernel_rfl) (fun _ => rfl) (fun _ => Nat.le_of_ble_eq_true rfl) (by
    intro R
    rw [show loopsOf (codeOf Try.f102) = [lcode 7 (codeOf Try.f102)] from by kernel_rfl]
    exact (allM_cons (loop_ok2 (e := le102_7 (G102_7 FUEL)) rfl rfl lok102_7) allM_nil)) (fun R x k => q102 F101 F128 F129 (G102_7 FUEL) F102 R x k)
/-! drawlot/drawlotref08.Draw -/
abbrev FT67 : Type 1 := (R : Type) → (Int × ((List Int) × (Int × ((List Int) × (Int × (Int × Unit)))))) → Int → Int → (Int → (Int × ((List Int) × (Int × ((List Int) × (Int × (Int × Unit)))))) → Int → Option R) → Option R
def en67 (F : FT67) : Ent := ⟨67, [(false, (.pair (.int .i64) (.pair (.sl (.int .u8)) (.pair (.int .u64) (.pair (.arr 32 (.int .u8)) (.pair (.int .u64) (.pair (.int .u64) .unit))))))), (false, (.int .u64)), (false, (.int .i64))], [(false, (.int .u64)), (false, (.pair (.int .i64) (.pair (.sl (.int .u8)) (.pair (.int .u64) (.pair (.arr 32 (.int .u8)) (.pair (.int .u64) (.pair (.int .u64) .unit))))))), (false, (.int .i64))], fun R x k => F R x.1 x.2.1 x.2.2.1 (fun y1 y2 y3 => k (y1, y2, y3, ()) ())⟩
def res67 : List (ResultVar × TypeId × Bool) := [(.tmp 6, 24, false), (.cell 7 28, 28, false), (.tmp 8, 31, false)]
abbrev LT67_4 : Type 1 := (R : Type) → Int → Int → Int → (Int × ((List Int) × (Int × ((List Int) × (Int × (Int × Unit)))))) → (Int × ((List Int) × (Int × ((List Int) × (Int × (Int × Unit)))))) → (Int → Int → (Int × ((List Int) × (Int × ((List Int) × (Int × (Int × Unit)))))) → Option R) → ((Int × ((List Int) × (Int × ((List Int) × (Int × (Int × Unit)))))) → (Int × ((List Int) × (Int × ((List Int) × (Int × (Int × Unit)))))) → Option R) → Option R
def le67_4 (L : LT67_4) : LEnt := ⟨4, [.val 1 (.int .u64), .val 2 (.int .i64), .fix 3 (.ptr 0 [] (.pair (.int .i64) (.pair (.sl (.int .u8)) (.pair (.int .u64) (.pair (.arr 32 (.int .u8)) (.pair (.int .u64) (.pair (.int .u64) .unit))))))), .fix 7 (.ptr 1 [] (.pair (.int .i64) (.pair (.sl (.int .u8)) (.pair (.int .u64) (.pair (.arr 32 (.int .u8)) (.pair (.int .u64) (.pair (.int .u64) .unit))))))), .val 9 (.int .i64), .var 0 (.pair (.int .i64) (.pair (.sl (.int .u8)) (.pair (.int .u64) (.pair (.arr 32 (.int .u8)) (.pair (.int .u64) (.pair (.int .u64) .unit)))))) false, .var 1 (.pair (.int .i64) (.pair (.sl (.int .u8)) (.pair (.int .u64) (.pair (.arr 32 (.int .u8)) (.pair (.int .u64) (.pair (.int .u64) .unit)))))) false], 2, [(.ret, [.val 6 (.int .u64), .fix 7 (.ptr 1 [] (.pair (.int .i64) (.pair (.sl (.int .u8)) (.pair (.int .u64) (.pair (.arr 32 (.int .u8)) (.pair (.int .u64) (.pair (.int .u64) .unit))))))), .val 8 (.int .i64), .var 1 (.pair (.int .i64) (.pair (.sl (.int .u8)) (.pair (.int .u64) (.pair (.arr 32 (.int .u8)) (.pair (.int .u64) (.pair (.int .u64) .unit)))))) false]), (.exit 0, [.fix 3 (.ptr 0 [] (.pair (.int .i64) (.pair (.sl (.int .u8)) (.pair (.int .u64) (.pair (.arr 32 (.int .u8)) (.pair (.int .u64) (.pair (.int .u64) .unit))))))), .fix 7 (.ptr 1 [] (.pair (.int .i64) (.pair (.sl (.int .u8)) (.pair (.int .u64) (.pair (.arr 32 (.int .u8)) (.pair (.int .u64) (.pair (.int .u64) .unit))))))), .var 0 (.pair (.int .i64) (.pair (.sl (.int .u8)) (.pair (.int .u64) (.pair (.arr 32 (.int .u8)) (.pair (.int .u64) (.pair (.int .u64) .unit)))))) false, .var 1 (.pair (.int .i64) (.pair (.sl (.int .u8)) (.pair (.int .u64) (.pair (.arr 32 (.int .u8)) (.pair (.int .u64) (.pair (.int .u64) .unit)))))) false])], fun R x ke => L R x.1 x.2.1 x.2.2.1 x.2.2.2.1 x.2.2.2.2.1 (fun y1 y2 y3 => ke.1 (y1, y2, y3, ())) (fun y1 y2 => ke.2.1 (y1, y2, ()))⟩
def e67 (F26 : FT26) (F101 : FT101) (F102 : FT102) (L4 : LT67_4) (R : Type) : Env R := ⟨TT, EQT, 0, 57, ownOf [], callOf [en26 F26, en101 F101, en102 F102] R, loopOf [le67_4 L4] R⟩
def p67_4 (F26 : FT26) (F102 : FT102) : (R : Type) → Int → Int → Int → (Int × ((List Int) × (Int × ((List Int) × (Int × (Int × Unit)))))) → (Int × ((List Int) × (Int × ((List Int) × (Int × (Int × Unit)))))) → (Int → Int → Int → (Int × ((List Int) × (Int × ((List Int) × (Int × (Int × Unit)))))) → (Int × ((List Int) × (Int × ((List Int) × (Int × (Int × Unit)))))) → Option R) → (Int → Int → (Int × ((List Int) × (Int × ((List Int) × (Int × (Int × Unit)))))) → Option R) → ((Int × ((List Int) × (Int × ((List Int) × (Int × (Int × Unit)))))) → (Int × ((List Int) × (Int × ((List Int) × (Int × (Int × Unit)))))) → Option R) → Option R := fun R x1 x2 x3 x4 x5 kc k0 k1 =>
let v6 : Bool := (decide (x3 < x2));
(match v6 with
| true => F26 R x1 fun y7 =>
F102 R x4 y7 fun y8 y9 y10 =>
let v11 : Bool := (y10 != (0 : Int));
(match v11 with
| true => k0 (0 : Int) y10 x4
| false => let v12 : Bool := (decide (y8 < x1));
(match v12 with
| true => k0 y8 (0 : Int) y9
| false => let v13 : Int := (IntKind.i64.wrap (x3 + (1 : Int)));
kc x1 x2 v13 y9 x5))
| false => k1 x4 x5)
theorem q67_4 (F26 : FT26) (F101 : FT101) (F102 : FT102) (L4 : LT67_4) (R : Type) (x : HT (le67_4 L4).H) (kc : HT (le67_4 L4).H → Option R) (ke : KT R (le67_4 L4).exs) :
  exec (e67 F26 F101 F102 L4 R) (lcode 4 (codeOf Try.f67)) (stOf (le67_4 L4).H x 2) (roundK (le67_4 L4).H (le67_4 L4).exs kc ke) =
    p67_4 F26 F102 R x.1 x.2.1 x.2.2.1 x.2.2.2.1 x.2.2.2.2.1 (fun x1 x2 x3 x4 x5 => kc (x1, x2, x3, x4, x5, ())) (fun y1 y2 y3 => ke.1 (y1, y2, y3, ())) (fun y1 y2 => ke.2.1 (y1, y2, ())) := by kernel_rfl
noncomputable def G67_4 : Nat → LT67_4
  | 0 => fun _ _ _ _ _ _ _ _ => none
  | n + 1 => fun R x1 x2 x3 x4 x5 k0 k1 => p67_4 F26 F102 R x1 x2 x3 x4 x5 (fun x1 x2 x3 x4 x5 => G67_4 n R x1 x2 x3 x4 x5 k0 k1) k0 k1
def p67 (F101 : FT101) (L4 : LT67_4) : FT67 := fun R a0 a1 a2 k =>
F101 R a0 fun y1 =>
(match (!y1) with
| true => k (0 : Int) a0 (1 : Int)
| false => let v2 : Bool := (decide (a1 < (1 : Int)));
(match v2 with
| true => k (0 : Int) a0 (1 : Int)
| false => let v3 : Bool := (decide (a1 ≥ (9223372036854775808 : Int)));
(match v3 with
| true => k (0 : Int) a0 (1 : Int)
| false => let v4 : Bool := (decide (a2 < (1 : Int)));
(match v4 with
| true => k (0 : Int) a0 (1 : Int)
| false => let v5 : Bool := (decide (a2 > (64 : Int)));
(match v5 with
| true => k (0 : Int) a0 (1 : Int)
| false => L4 R a1 a2 (0 : Int) a0 ((0 : Int), ([] : (List Int)), (0 : Int), (List.replicate 32 (0 : Int)), (0 : Int), (0 : Int), ()) (fun x6 x7 x8 =>
k x6 x8 x7) (fun x9 x10 =>
k (0 : Int) x9 (9 : Int)))))))
theorem q67 (F26 : FT26) (F101 : FT101) (F102 : FT102) (L4 : LT67_4) (F : FT67) (R : Type) (x : AT (en67 F).ins) (k : RT (en67 F).outs → PT (en67 F).ins → Option R) :
  xfun (e67 F26 F101 F102 L4 R) (codeOf Try.f67) res67 (avs (en67 F).ins x) (finK (en67 F).outs (en67 F).ins k) = p67 F101 L4 R x.1 x.2.1 x.2.2.1 (fun y1 y2 y3 => k (y1, y2, y3, ()) ()) := by kernel_rfl
noncomputable def F67 : FT67 := p67 F101 (G67_4 FUEL)
theorem env67 (R : Type) : EnvOK Try.prog (e67 F26 F101 F102 (G67_4 FUEL) R) := ⟨tabOK, eqOK, callOf_ok (allE_cons ok26 (allE_cons ok101 (allE_cons ok102 allE_nil)))⟩
noncomputable def T67_4 : (R : Type) → HT (le67_4 (G67_4 FUEL)).H → (HT (le67_4 (G67_4 FUEL)).H → Option R) → KT R (le67_4 (G67_4 FUEL)).exs → Option R := fun R x kc ke => p67_4 F26 F102 R x.1 x.2.1 x.2.2.1 x.2.2.2.1 x.2.2.2.2.1 (fun x1 x2 x3 x4 x5 => kc (x1, x2, x3, x4, x5, ())) (fun y1 y2 y3 => ke.1 (y1, y2, y3, ())) (fun y1 y2 => ke.2.1 (y1, y2, ()))
theorem it67_4 : ∀ (n : Nat) (R : Type) (x : HT (le67_4 (G67_4 FUEL)).H) (ke : KT R (le67_4 (G67_4 FUEL)).exs), iter T67_4 n R x ke = G67_4 n R x.1 x.2.1 x.2.2.1 x.2.2.2.1 x.2.2.2.2.1 (fun y1 y2 y3 => ke.1 (y1, y2, y3, ())) (fun y1 y2 => ke.2.1 (y1, y2, ())) := by
  intro n
  induction n with
  | zero => intro R x ke; rfl
  | succ n ih =>
    intro R x ke
    show T67_4 R x (fun x' => iter T67_4 n R x' ke) ke = _
    rw [show (fun x' => iter T67_4 n R x' ke) = fun x => G67_4 n R x.1 x.2.1 x.2.2.1 x.2.2.2.1 x.2.2.2.2.1 (fun y1 y2 y3 => ke.1 (y1, y2, y3, ())) (fun y1 y2 => ke.2.1 (y1, y2, ())) from funext fun x' => ih R x' ke]
    rfl
theorem lok67_4 : (le67_4 (G67_4 FUEL)).OK Try.prog 0 57 (lcode 4 (codeOf Try.f67)) := fun R x ke r h =>
  iter_sound (fun R => e67 F26 F101 F102 (G67_4 FUEL) R) 0 57 (fun _ => rfl) (fun _ => rfl) (fun R => env67 R) mixed (by
    intro R
    rw [show loopsOf (lcode 4 (codeOf Try.f67)) = [] from by kernel_rfl]
    exact allM_nil) (T := T67_4) (fun R x kc ke => q67_4 F26 F101 F102 (G67_4 FUEL) R x kc ke) FUEL R x ke r ((it67_4 FUEL R x ke).trans h)
theorem ok67 : (en67 F67).OK Try.prog :=
  ent_ok (Ef := fun R => e67 F26 F101 F102 (G67_4 FUEL) R) (fun R => env67 R) mixed Try.func67 (body := codeOf Try.f67) (by kernel_rfl) (by kernel_rfl) (np := 0) (nt := 57) (fun _ => rfl) (fun _ => rfl) (by kernel_rfl) (res := res67) (by kernel_rfl) (fun _ => rfl) (fun _ => Nat.le_of_ble_eq_true rfl) (by
    intro R
    rw [show loopsOf (codeOf Try.f67) = [lcode 4 (codeOf Try.f67)] from by kernel_rfl]
    exact (allM_cons (loop_ok2 (e := le67_4 (G67_4 FUEL)) rfl rfl lok67_4) allM_nil)) (fun R x k => q67 F26 F101 F102 (G67_4 FUEL) F67 R x k)
/-! drawlot/drawlotref11.Owner -/
abbrev FT68 : Type 1 := (R : Type) → (List Int) → Int → (Int → Int → Option R) → Option R
def en68 (F : FT68) : Ent := ⟨68, [(false, (.sl (.int .u64))), (false, (.int .u64))], [(false, (.int .i64)), (false, (.int .i64))], fun R x k => F R x.1 x.2.1 (fun y1 y2 => k (y1, y2, ()) ())⟩
def res68 : List (ResultVar × TypeId × Bool) := [(.tmp 4, 3, false), (.tmp 5, 31, false)]
abbrev LT68_2 : Type 1 := (R : Type) → (List Int) → Int → Int → (Int → Int → Option R) → (Option R) → Option R
def le68_2 (L : LT68_2) : LEnt := ⟨2, [.val 0 (.sl (.int .u64)), .val 1 (.int .u64), .val 6 (.int .i64)], 0, [(.ret, [.val 4 (.int .i64), .val 5 (.int .i64)]), (.exit 0, [])], fun R x ke => L R x.1 x.2.1 x.2.2.1 (fun y1 y2 => ke.1 (y1, y2, ())) (ke.2.1 ())⟩
def e68 (L2 : LT68_2) (R : Type) : Env R := ⟨TT, EQT, 0, 26, ownOf [], callOf [] R, loopOf [le68_2 L2] R⟩
def p68_2 : (R : Type) → (List Int) → Int → Int → ((List Int) → Int → Int → Option R) → (Int → Int → Option R) → (Option R) → Option R := fun R x1 x2 x3 kc k0 k1 =>
let v4 : Int := (List.length x1 : Int);
let v5 : Bool := (decide (x3 < v4));
(match v5 with
| true => (match (bnd x3 (List.length x1 : Int)) with
| true => let v6 : Int := (List.getD x1 (Int.toNat x3) (0 : Int));
let v7 : Bool := (decide (x2 < v6));
(match v7 with
| true => k0 x3 (0 : Int)
| false => (match (bnd x3 (List.length x1 : Int)) with
| true => let v8 : Int := (List.getD x1 (Int.toNat x3) (0 : Int));
let v9 : Int := (IntKind.u64.wrap (x2 - v8));
let v10 : Int := (IntKind.i64.wrap (x3 + (1 : Int)));
kc x1 v9 v10
| false => none))
| false => none)
| false => k1)
theorem q68_2 (L2 : LT68_2) (R : Type) (x : HT (le68_2 L2).H) (kc : HT (le68_2 L2).H → Option R) (ke : KT R (le68_2 L2).exs) :
  exec (e68 L2 R) (lcode 2 (codeOf Try.f68)) (stOf (le68_2 L2).H x 0) (roundK (le68_2 L2).H (le68_2 L2).exs kc ke) =
    p68_2 R x.1 x.2.1 x.2.2.1 (fun x1 x2 x3 => kc (x1, x2, x3, ())) (fun y1 y2 => ke.1 (y1, y2, ())) (ke.2.1 ()) := by kernel_rfl
noncomputable def G68_2 : Nat → LT68_2
  | 0 => fun _ _ _ _ _ _ => none
  | n + 1 => fun R x1 x2 x3 k0 k1 => p68_2 R x1 x2 x3 (fun x1 x2 x3 => G68_2 n R x1 x2 x3 k0 k1) k0 k1
def p68 (L2 : LT68_2) : FT68 := fun R a0 a1 k =>
L2 R a0 a1 (0 : Int) (fun x1 x2 =>
k x1 x2) (k (0 : Int) (3 : Int))
theorem q68 (L2 : LT68_2) (F : FT68) (R : Type) (x : AT (en68 F).ins) (k : RT (en68 F).outs → PT (en68 F).ins → Option R) :
  xfun (e68 L2 R) (codeOf Try.f68) res68 (avs (en68 F).ins x) (finK (en68 F).outs (en68 F).ins k) = p68 L2 R x.1 x.2.1 (fun y1 y2 => k (y1, y2, ()) ()) := by kernel_rfl
noncomputable def F68 : FT68 := p68 (G68_2 FUEL)
theorem env68 (R : Type) : EnvOK Try.prog (e68 (G68_2 FUEL) R) := ⟨tabOK, eqOK, callOf_ok allE_nil⟩
noncomputable def T68_2 : (R : Type) → HT (le68_2 (G68_2 FUEL)).H → (HT (le68_2 (G68_2 FUEL)).H → Option R) → KT R (le68_2 (G68_2 FUEL)).exs → Option R := fun R x kc ke => p68_2 R x.1 x.2.1 x.2.2.1 (fun x1 x2 x3 => kc (x1, x2, x3, ())) (fun y1 y2 => ke.1 (y1, y2, ())) (ke.2.1 ())
theorem it68_2 : ∀ (n : Nat) (R : Type) (x : HT (le68_2 (G68_2 FUEL)).H) (ke : KT R (le68_2 (G68_2 FUEL)).exs), iter T68_2 n R x ke = G68_2 n R x.1 x.2.1 x.2.2.1 (fun y1 y2 => ke.1 (y1, y2, ())) (ke.2.1 ()) := by
  intro n
  induction n with
  | zero => intro R x ke; rfl
  | succ n ih =>
    intro R x ke
    show T68_2 R x (fun x' => iter T68_2 n R x' ke) ke = _
    rw [show (fun x' => iter T68_2 n R x' ke) = fun x => G68_2 n R x.1 x.2.1 x.2.2.1 (fun y1 y2 => ke.1 (y1, y2, ())) (ke.2.1 ()) from funext fun x' => ih R x' ke]
    rfl
theorem lok68_2 : (le68_2 (G68_2 FUEL)).OK Try.prog 0 26 (lcode 2 (codeOf Try.f68)) := fun R x ke r h =>
  iter_sound (fun R => e68 (G68_2 FUEL) R) 0 26 (fun _ => rfl) (fun _ => rfl) (fun R => env68 R) mixed (by
    intro R
    rw [show loopsOf (lcode 2 (codeOf Try.f68)) = [] from by kernel_rfl]
    exact allM_nil) (T := T68_2) (fun R x kc ke => q68_2 (G68_2 FUEL) R x kc ke) FUEL R x ke r ((it68_2 FUEL R x ke).trans h)
theorem ok68 : (en68 F68).OK Try.prog :=
  ent_ok (Ef := fun R => e68 (G68_2 FUEL) R) (fun R => env68 R) mixed Try.func68 (body := codeOf Try.f68) (by kernel_rfl) (by kernel_rfl) (np := 0) (nt := 26) (fun _ => rfl) (fun _ => rfl) (by kernel_rfl) (res := res68) (by kernel_rfl) (fun _ => rfl) (fun _ => Nat.le_of_ble_eq_true rfl) (by
    intro R
    rw [show loopsOf (codeOf Try.f68) = [lcode 2 (codeOf Try.f68)] from by kernel_rfl]
    exact (allM_cons (loop_ok2 (e := le68_2 (G68_2 FUEL)) rfl rfl lok68_2) allM_nil)) (fun R x k => q68 (G68_2 FUEL) F68 R x k)
/-! drawlot/drawlotref13.Draw -/
abbrev FT20 : Type 1 := (R : Type) → (List Int) → (Int × ((List Int) × (Int × ((List Int) × (Int × (Int × Unit)))))) → Int → (Int → (Int × ((List Int) × (Int × ((List Int) × (Int × (Int × Unit)))))) → Int → Option R) → Option R
def en20 (F : FT20) : Ent := ⟨20, [(false, (.sl (.int .u64))), (false, (.pair (.int .i64) (.pair (.sl (.int .u8)) (.pair (.int .u64) (.pair (.arr 32 (.int .u8)) (.pair (.int .u64) (.pair (.int .u64) .unit))))))), (false, (.int .i64))], [(false, (.int .i64)), (false, (.pair (.int .i64) (.pair (.sl (.int .u8)) (.pair (.int .u64) (.pair (.arr 32 (.int .u8)) (.pair (.int .u64) (.pair (.int .u64) .unit))))))), (false, (.int .i64))], fun R x k => F R x.1 x.2.1 x.2.2.1 (fun y1 y2 y3 => k (y1, y2, y3, ()) ())⟩
def res20 : List (ResultVar × TypeId × Bool) := [(.tmp 6, 3, false), (.cell 7 28, 28, false), (.tmp 8, 31, false)]
def e20 (F66 : FT66) (F67 : FT67) (F68 : FT68) (R : Type) : Env R := ⟨TT, EQT, 0, 47, ownOf [], callOf [en66 F66, en67 F67, en68 F68] R, loopOf [] R⟩
def p20 (F66 : FT66) (F67 : FT67) (F68 : FT68) : FT20 := fun R a0 a1 a2 k =>
F66 R a0 fun y1 y2 =>
(match (!y2) with
| true => k (0 : Int) a1 (11 : Int)
| false => let v3 : Bool := (y1 == (0 : Int));
(match v3 with
| true => k (0 : Int) a1 (10 : Int)
| false => F67 R a1 y1 a2 fun y4 y5 y6 =>
let v7 : Bool := (y6 != (0 : Int));
(match v7 with
| true => k (0 : Int) y5 y6
| false => F68 R a0 y4 fun y8 y9 =>
k y8 y5 (0 : Int))))
theorem q20 (F66 : FT66) (F67 : FT67) (F68 : FT68) (F : FT20) (R : Type) (x : AT (en20 F).ins) (k : RT (en20 F).outs → PT (en20 F).ins → Option R) :
  xfun (e20 F66 F67 F68 R) (codeOf Try.f20) res20 (avs (en20 F).ins x) (finK (en20 F).outs (en20 F).ins k) = p20 F66 F67 F68 R x.1 x.2.1 x.2.2.1 (fun y1 y2 y3 => k (y1, y2, y3, ()) ()) := by kernel_rfl
noncomputable def F20 : FT20 := p20 F66 F67 F68
theorem env20 (R : Type) : EnvOK Try.prog (e20 F66 F67 F68 R) := ⟨tabOK, eqOK, callOf_ok (allE_cons ok66 (allE_cons ok67 (allE_cons ok68 allE_nil)))⟩
theorem ok20 : (en20 F20).OK Try.prog :=
  ent_ok (Ef := fun R => e20 F66 F67 F68 R) (fun R => env20 R) mixed Try.func20 (body := codeOf Try.f20) (by kernel_rfl) (by kernel_rfl) (np := 0) (nt := 47) (fun _ => rfl) (fun _ => rfl) (by kernel_rfl) (res := res20) (by kernel_rfl) (fun _ => rfl) (fun _ => Nat.le_of_ble_eq_true rfl) (by
    intro R
    rw [show loopsOf (codeOf Try.f20) = [] from by kernel_rfl]
    exact allM_nil) (fun R x k => q20 F66 F67 F68 F20 R x k)
/-! drawlot/drawlotref07.Same -/
abbrev FT21 : Type 1 := (R : Type) → (Int × ((List Int) × (Int × ((List Int) × (Int × (Int × Unit)))))) → (Int × ((List Int) × (Int × ((List Int) × (Int × (Int × Unit)))))) → (Bool → Option R) → Option R
def en21 (F : FT21) : Ent := ⟨21, [(false, (.pair (.int .i64) (.pair (.sl (.int .u8)) (.pair (.int .u64) (.pair (.arr 32 (.int .u8)) (.pair (.int .u64) (.pair (.int .u64) .unit))))))), (false, (.pair (.int .i64) (.pair (.sl (.int .u8)) (.pair (.int .u64) (.pair (.arr 32 (.int .u8)) (.pair (.int .u64) (.pair (.int .u64) .unit)))))))], [(false, .bool)], fun R x k => F R x.1 x.2.1 (fun y1 => k (y1, ()) ())⟩
def res21 : List (ResultVar × TypeId × Bool) := [(.tmp 4, 4, false)]
def e21 (R : Type) : Env R := ⟨TT, EQT, 0, 47, ownOf [], callOf [] R, loopOf [] R⟩
def p21 : FT21 := fun R a0 a1 k =>
let v1 : Bool := (a0.1 == a1.1);
(match v1 with
| true => let v2 : ByteArray := (strOf a0.2.1);
let v3 : ByteArray := (strOf a1.2.1);
let v4 : Bool := (ByteArray.toList v2 == ByteArray.toList v3);
(match v4 with
| true => let v5 : Bool := (a0.2.2.1 == a1.2.2.1);
(match v5 with
| true => let v6 : Bool := (Kd.eqv (.arr 32 (.int .u8)) a0.2.2.2.1 a1.2.2.2.1);
(match v6 with
| true => let v7 : Bool := (a0.2.2.2.2.1 == a1.2.2.2.2.1);
(match v7 with
| true => let v8 : Bool := (a0.2.2.2.2.2.1 == a1.2.2.2.2.2.1);
k v8
| false => k false)
| false => k false)
| false => k false)
| false => k false)
| false => k false)
theorem q21 (F : FT21) (R : Type) (x : AT (en21 F).ins) (k : RT (en21 F).outs → PT (en21 F).ins → Option R) :
  xfun (e21 R) (codeOf Try.f21) res21 (avs (en21 F).ins x) (finK (en21 F).outs (en21 F).ins k) = p21 R x.1 x.2.1 (fun y1 => k (y1, ()) ()) := by kernel_rfl
noncomputable def F21 : FT21 := p21
theorem env21 (R : Type) : EnvOK Try.prog (e21 R) := ⟨tabOK, eqOK, callOf_ok allE_nil⟩
theorem ok21 : (en21 F21).OK Try.prog :=
  ent_ok (Ef := fun R => e21 R) (fun R => env21 R) mixed Try.func21 (body := codeOf Try.f21) (by kernel_rfl) (by kernel_rfl) (np := 0) (nt := 47) (fun _ => rfl) (fun _ => rfl) (by kernel_rfl) (res := res21) (by kernel_rfl) (fun _ => rfl) (fun _ => Nat.le_of_ble_eq_true rfl) (by
    intro R
    rw [show loopsOf (codeOf Try.f21) = [] from by kernel_rfl]
    exact allM_nil) (fun R x k => q21 F21 R x k)
/-! drawlot/drawlotlaw13.LeadLists -/
abbrev FT3 : Type 1 := (R : Type) → (List Int) → (Int × ((List Int) × (Int × ((List Int) × (Int × (Int × Unit)))))) → Int → (Bool → Option R) → Option R
def en3 (F : FT3) : Ent := ⟨3, [(false, (.sl (.int .u64))), (false, (.pair (.int .i64) (.pair (.sl (.int .u8)) (.pair (.int .u64) (.pair (.arr 32 (.int .u8)) (.pair (.int .u64) (.pair (.int .u64) .unit))))))), (false, (.int .i64))], [(false, .bool)], fun R x k => F R x.1 x.2.1 x.2.2.1 (fun y1 => k (y1, ()) ())⟩
def res3 : List (ResultVar × TypeId × Bool) := [(.tmp 6, 4, false)]
abbrev LT3_9 : Type 1 := (R : Type) → (List Int) → Int → Int → Int → Int → Int → (List Int) → (Int × ((List Int) × (Int × ((List Int) × (Int × (Int × Unit)))))) → (Int × ((List Int) × (Int × ((List Int) × (Int × (Int × Unit)))))) → (Bool → Option R) → (Int → Int → Int → Int → (Int × ((List Int) × (Int × ((List Int) × (Int × (Int × Unit)))))) → (Int × ((List Int) × (Int × ((List Int) × (Int × (Int × Unit)))))) → Option R) → Option R
def le3_9 (L : LT3_9) : LEnt := ⟨9, [.val 0 (.sl (.int .u64)), .fix 7 (.own 1 0), .val 8 (.int .i64), .fix 9 (.ptr 2 [] (.pair (.int .i64) (.pair (.sl (.int .u8)) (.pair (.int .u64) (.pair (.arr 32 (.int .u8)) (.pair (.int .u64) (.pair (.int .u64) .unit))))))), .val 10 (.int .i64), .val 11 (.int .i64), .fix 12 (.ptr 3 [] (.pair (.int .i64) (.pair (.sl (.int .u8)) (.pair (.int .u64) (.pair (.arr 32 (.int .u8)) (.pair (.int .u64) (.pair (.int .u64) .unit))))))), .val 13 (.int .i64), .val 14 (.int .i64), .row 1 (.int .u64) true, .var 2 (.pair (.int .i64) (.pair (.sl (.int .u8)) (.pair (.int .u64) (.pair (.arr 32 (.int .u8)) (.pair (.int .u64) (.pair (.int .u64) .unit)))))) false, .var 3 (.pair (.int .i64) (.pair (.sl (.int .u8)) (.pair (.int .u64) (.pair (.arr 32 (.int .u8)) (.pair (.int .u64) (.pair (.int .u64) .unit)))))) false], 4, [(.ret, [.val 6 .bool]), (.exit 0, [.val 8 (.int .i64), .fix 9 (.ptr 2 [] (.pair (.int .i64) (.pair (.sl (.int .u8)) (.pair (.int .u64) (.pair (.arr 32 (.int .u8)) (.pair (.int .u64) (.pair (.int .u64) .unit))))))), .val 10 (.int .i64), .val 11 (.int .i64), .fix 12 (.ptr 3 [] (.pair (.int .i64) (.pair (.sl (.int .u8)) (.pair (.int .u64) (.pair (.arr 32 (.int .u8)) (.pair (.int .u64) (.pair (.int .u64) .unit))))))), .val 13 (.int .i64), .var 2 (.pair (.int .i64) (.pair (.sl (.int .u8)) (.pair (.int .u64) (.pair (.arr 32 (.int .u8)) (.pair (.int .u64) (.pair (.int .u64) .unit)))))) false, .var 3 (.pair (.int .i64) (.pair (.sl (.int .u8)) (.pair (.int .u64) (.pair (.arr 32 (.int .u8)) (.pair (.int .u64) (.pair (.int .u64) .unit)))))) false])], fun R x ke => L R x.1 x.2.1 x.2.2.1 x.2.2.2.1 x.2.2.2.2.1 x.2.2.2.2.2.1 x.2.2.2.2.2.2.1 x.2.2.2.2.2.2.2.1 x.2.2.2.2.2.2.2.2.1 (fun y1 => ke.1 (y1, ())) (fun y1 y2 y3 y4 y5 y6 => ke.2.1 (y1, y2, y3, y4, y5, y6, ()))⟩
def e3 (F17 : FT17) (F18 : FT18) (F19 : FT19) (F20 : FT20) (F21 : FT21) (L9 : LT3_9) (R : Type) : Env R := ⟨TT, EQT, 0, 67, ownOf [(5, 0)], callOf [en17 F17, en18 F18, en19 F19, en20 F20, en21 F21] R, loopOf [le3_9 L9] R⟩
def p3_9 : (R : Type) → (List Int) → Int → Int → Int → Int → Int → (List Int) → (Int × ((List Int) × (Int × ((List Int) × (Int × (Int × Unit)))))) → (Int × ((List Int) × (Int × ((List Int) × (Int × (Int × Unit)))))) → ((List Int) → Int → Int → Int → Int → Int → (List Int) → (Int × ((List Int) × (Int × ((List Int) × (Int × (Int × Unit)))))) → (Int × ((List Int) × (Int × ((List Int) × (Int × (Int × Unit)))))) → Option R) → (Bool → Option R) → (Int → Int → Int → Int → (Int × ((List Int) × (Int × ((List Int) × (Int × (Int × Unit)))))) → (Int × ((List Int) × (Int × ((List Int) × (Int × (Int × Unit)))))) → Option R) → Option R := fun R x1 x2 x3 x4 x5 x6 x7 x8 x9 kc k0 k1 =>
let v10 : Int := (List.length x1 : Int);
let v11 : Bool := (decide (x6 < v10));
(match v11 with
| true => (match (bnd x6 (List.length x7 : Int)) with
| true => let v12 : Int := (List.getD x7 (Int.toNat x6) (0 : Int));
(match (bnd x6 (List.length x1 : Int)) with
| true => let v13 : Int := (List.getD x1 (Int.toNat x6) (0 : Int));
let v14 : Bool := (v12 != v13);
(match v14 with
| true => k0 false
| false => let v15 : Int := (IntKind.i64.wrap (x6 + (1 : Int)));
kc x1 x2 x3 x4 x5 v15 x7 x8 x9)
| false => none)
| false => none)
| false => k1 x2 x3 x4 x5 x8 x9)
theorem q3_9 (F17 : FT17) (F18 : FT18) (F19 : FT19) (F20 : FT20) (F21 : FT21) (L9 : LT3_9) (R : Type) (x : HT (le3_9 L9).H) (kc : HT (le3_9 L9).H → Option R) (ke : KT R (le3_9 L9).exs) :
  exec (e3 F17 F18 F19 F20 F21 L9 R) (lcode 9 (codeOf Try.f3)) (stOf (le3_9 L9).H x 4) (roundK (le3_9 L9).H (le3_9 L9).exs kc ke) =
    p3_9 R x.1 x.2.1 x.2.2.1 x.2.2.2.1 x.2.2.2.2.1 x.2.2.2.2.2.1 x.2.2.2.2.2.2.1 x.2.2.2.2.2.2.2.1 x.2.2.2.2.2.2.2.2.1 (fun x1 x2 x3 x4 x5 x6 x7 x8 x9 => kc (x1, x2, x3, x4, x5, x6, x7, x8, x9, ())) (fun y1 => ke.1 (y1, ())) (fun y1 y2 y3 y4 y5 y6 => ke.2.1 (y1, y2, y3, y4, y5, y6, ())) := by kernel_rfl
noncomputable def G3_9 : Nat → LT3_9
  | 0 => fun _ _ _ _ _ _ _ _ _ _ _ _ => none
  | n + 1 => fun R x1 x2 x3 x4 x5 x6 x7 x8 x9 k0 k1 => p3_9 R x1 x2 x3 x4 x5 x6 x7 x8 x9 (fun x1 x2 x3 x4 x5 x6 x7 x8 x9 => G3_9 n R x1 x2 x3 x4 x5 x6 x7 x8 x9 k0 k1) k0 k1
def p3 (F17 : FT17) (F18 : FT18) (F19 : FT19) (F20 : FT20) (F21 : FT21) (L9 : LT3_9) : FT3 := fun R a0 a1 a2 k =>
F17 R  fun y1 =>
(match (!y1) with
| true => k false
| false => F18 R a0 a1 fun y2 =>
(match y2 with
| true => k true
| false => let v3 : (List Int) := ([] : (List Int));
(match (decide (List.length v3 + List.length a0 ≤ 17592186044416)) with
| true => let v4 : (List Int) := (v3 ++ a0);
F19 R a1 a2 v4 fun y5 y6 y7 =>
F20 R a0 a1 a2 fun y8 y9 y10 =>
L9 R a0 y5 y7 y8 y10 (0 : Int) v4 y6 y9 (fun x11 =>
k x11) (fun x12 x13 x14 x15 x16 x17 =>
let v18 : Bool := (x12 == x14);
(match v18 with
| true => F21 R x16 x17 fun y19 =>
(match y19 with
| true => let v20 : Bool := (x13 == x15);
k v20
| false => k false)
| false => k false))
| false => none)))
theorem q3 (F17 : FT17) (F18 : FT18) (F19 : FT19) (F20 : FT20) (F21 : FT21) (L9 : LT3_9) (F : FT3) (R : Type) (x : AT (en3 F).ins) (k : RT (en3 F).outs → PT (en3 F).ins → Option R) :
  xfun (e3 F17 F18 F19 F20 F21 L9 R) (codeOf Try.f3) res3 (avs (en3 F).ins x) (finK (en3 F).outs (en3 F).ins k) = p3 F17 F18 F19 F20 F21 L9 R x.1 x.2.1 x.2.2.1 (fun y1 => k (y1, ()) ()) := by kernel_rfl
noncomputable def F3 : FT3 := p3 F17 F18 F19 F20 F21 (G3_9 FUEL)
theorem env3 (R : Type) : EnvOK Try.prog (e3 F17 F18 F19 F20 F21 (G3_9 FUEL) R) := ⟨tabOK, eqOK, callOf_ok (allE_cons ok17 (allE_cons ok18 (allE_cons ok19 (allE_cons ok20 (allE_cons ok21 allE_nil)))))⟩
noncomputable def T3_9 : (R : Type) → HT (le3_9 (G3_9 FUEL)).H → (HT (le3_9 (G3_9 FUEL)).H → Option R) → KT R (le3_9 (G3_9 FUEL)).exs → Option R := fun R x kc ke => p3_9 R x.1 x.2.1 x.2.2.1 x.2.2.2.1 x.2.2.2.2.1 x.2.2.2.2.2.1 x.2.2.2.2.2.2.1 x.2.2.2.2.2.2.2.1 x.2.2.2.2.2.2.2.2.1 (fun x1 x2 x3 x4 x5 x6 x7 x8 x9 => kc (x1, x2, x3, x4, x5, x6, x7, x8, x9, ())) (fun y1 => ke.1 (y1, ())) (fun y1 y2 y3 y4 y5 y6 => ke.2.1 (y1, y2, y3, y4, y5, y6, ()))
theorem it3_9 : ∀ (n : Nat) (R : Type) (x : HT (le3_9 (G3_9 FUEL)).H) (ke : KT R (le3_9 (G3_9 FUEL)).exs), iter T3_9 n R x ke = G3_9 n R x.1 x.2.1 x.2.2.1 x.2.2.2.1 x.2.2.2.2.1 x.2.2.2.2.2.1 x.2.2.2.2.2.2.1 x.2.2.2.2.2.2.2.1 x.2.2.2.2.2.2.2.2.1 (fun y1 => ke.1 (y1, ())) (fun y1 y2 y3 y4 y5 y6 => ke.2.1 (y1, y2, y3, y4, y5, y6, ())) := by
  intro n
  induction n with
  | zero => intro R x ke; rfl
  | succ n ih =>
    intro R x ke
    show T3_9 R x (fun x' => iter T3_9 n R x' ke) ke = _
    rw [show (fun x' => iter T3_9 n R x' ke) = fun x => G3_9 n R x.1 x.2.1 x.2.2.1 x.2.2.2.1 x.2.2.2.2.1 x.2.2.2.2.2.1 x.2.2.2.2.2.2.1 x.2.2.2.2.2.2.2.1 x.2.2.2.2.2.2.2.2.1 (fun y1 => ke.1 (y1, ())) (fun y1 y2 y3 y4 y5 y6 => ke.2.1 (y1, y2, y3, y4, y5, y6, ())) from funext fun x' => ih R x' ke]
    rfl
theorem lok3_9 : (le3_9 (G3_9 FUEL)).OK Try.prog 0 67 (lcode 9 (codeOf Try.f3)) := fun R x ke r h =>
  iter_sound (fun R => e3 F17 F18 F19 F20 F21 (G3_9 FUEL) R) 0 67 (fun _ => rfl) (fun _ => rfl) (fun R => env3 R) mixed (by
    intro R
    rw [show loopsOf (lcode 9 (codeOf Try.f3)) = [] from by kernel_rfl]
    exact allM_nil) (T := T3_9) (fun R x kc ke => q3_9 F17 F18 F19 F20 F21 (G3_9 FUEL) R x kc ke) FUEL R x ke r ((it3_9 FUEL R x ke).trans h)
theorem ok3 : (en3 F3).OK Try.prog :=
  ent_ok (Ef := fun R => e3 F17 F18 F19 F20 F21 (G3_9 FUEL) R) (fun R => env3 R) mixed Try.func3 (body := codeOf Try.f3) (by kernel_rfl) (by kernel_rfl) (np := 0) (nt := 67) (fun _ => rfl) (fun _ => rfl) (by kernel_rfl) (res := res3) (by kernel_rfl) (fun _ => rfl) (fun _ => Nat.le_of_ble_eq_true rfl) (by
    intro R
    rw [show loopsOf (codeOf Try.f3) = [lcode 9 (codeOf Try.f3)] from by kernel_rfl]
    exact (allM_cons (loop_ok2 (e := le3_9 (G3_9 FUEL)) rfl rfl lok3_9) allM_nil)) (fun R x k => q3 F17 F18 F19 F20 F21 (G3_9 FUEL) F3 R x k)
/-! drawlot/drawlotref11.Build -/
abbrev FT22 : Type 1 := (R : Type) → (List Int) → (((List Int) × Unit) → Int → Option R) → Option R
def en22 (F : FT22) : Ent := ⟨22, [(false, (.sl (.int .u64)))], [(false, (.pair (.sl (.int .u64)) .unit)), (false, (.int .i64))], fun R x k => F R x.1 (fun y1 y2 => k (y1, y2, ()) ())⟩
def res22 : List (ResultVar × TypeId × Bool) := [(.cell 2 38, 38, false), (.tmp 3, 31, false)]
def e22 (F25 : FT25) (F66 : FT66) (R : Type) : Env R := ⟨TT, EQT, 0, 20, ownOf [], callOf [en25 F25, en66 F66] R, loopOf [] R⟩
def p22 (F25 : FT25) (F66 : FT66) : FT22 := fun R a0 k =>
let v1 : Int := (List.length a0 : Int);
let v2 : Bool := (decide (v1 > (1048576 : Int)));
(match v2 with
| true => k (([] : (List Int)), ()) (14 : Int)
| false => F66 R a0 fun y3 y4 =>
(match (!y4) with
| true => k (([] : (List Int)), ()) (11 : Int)
| false => F25 R a0 fun y5 =>
k y5 (0 : Int)))
theorem q22 (F25 : FT25) (F66 : FT66) (F : FT22) (R : Type) (x : AT (en22 F).ins) (k : RT (en22 F).outs → PT (en22 F).ins → Option R) :
  xfun (e22 F25 F66 R) (codeOf Try.f22) res22 (avs (en22 F).ins x) (finK (en22 F).outs (en22 F).ins k) = p22 F25 F66 R x.1 (fun y1 y2 => k (y1, y2, ()) ()) := by kernel_rfl
noncomputable def F22 : FT22 := p22 F25 F66
theorem env22 (R : Type) : EnvOK Try.prog (e22 F25 F66 R) := ⟨tabOK, eqOK, callOf_ok (allE_cons ok25 (allE_cons ok66 allE_nil))⟩
theorem ok22 : (en22 F22).OK Try.prog :=
  ent_ok (Ef := fun R => e22 F25 F66 R) (fun R => env22 R) mixed Try.func22 (body := codeOf Try.f22) (by kernel_rfl) (by kernel_rfl) (np := 0) (nt := 20) (fun _ => rfl) (fun _ => rfl) (by kernel_rfl) (res := res22) (by kernel_rfl) (fun _ => rfl) (fun _ => Nat.le_of_ble_eq_true rfl) (by
    intro R
    rw [show loopsOf (codeOf Try.f22) = [] from by kernel_rfl]
    exact allM_nil) (fun R x k => q22 F25 F66 F22 R x k)
/-! drawlot/drawlotref09.Same -/
abbrev FT72 : Type 1 := (R : Type) → (List Int) → (List Int) → (Bool → Option R) → Option R
def en72 (F : FT72) : Ent := ⟨72, [(false, (.sl (.int .u64))), (false, (.sl (.int .u64)))], [(false, .bool)], fun R x k => F R x.1 x.2.1 (fun y1 => k (y1, ()) ())⟩
def res72 : List (ResultVar × TypeId × Bool) := [(.tmp 4, 4, false)]
abbrev LT72_4 : Type 1 := (R : Type) → (List Int) → (List Int) → Int → (Bool → Option R) → (Option R) → Option R
def le72_4 (L : LT72_4) : LEnt := ⟨4, [.val 0 (.sl (.int .u64)), .val 1 (.sl (.int .u64)), .val 5 (.int .i64)], 0, [(.ret, [.val 4 .bool]), (.exit 0, [])], fun R x ke => L R x.1 x.2.1 x.2.2.1 (fun y1 => ke.1 (y1, ())) (ke.2.1 ())⟩
def e72 (L4 : LT72_4) (R : Type) : Env R := ⟨TT, EQT, 0, 26, ownOf [], callOf [] R, loopOf [le72_4 L4] R⟩
def p72_4 : (R : Type) → (List Int) → (List Int) → Int → ((List Int) → (List Int) → Int → Option R) → (Bool → Option R) → (Option R) → Option R := fun R x1 x2 x3 kc k0 k1 =>
let v4 : Int := (List.length x1 : Int);
let v5 : Bool := (decide (x3 < v4));
(match v5 with
| true => (match (bnd x3 (List.length x1 : Int)) with
| true => let v6 : Int := (List.getD x1 (Int.toNat x3) (0 : Int));
(match (bnd x3 (List.length x2 : Int)) with
| true => let v7 : Int := (List.getD x2 (Int.toNat x3) (0 : Int));
let v8 : Bool := (v6 != v7);
(match v8 with
| true => k0 false
| false => let v9 : Int := (IntKind.i64.wrap (x3 + (1 : Int)));
kc x1 x2 v9)
| false => none)
| false => none)
| false => k1)
theorem q72_4 (L4 : LT72_4) (R : Type) (x : HT (le72_4 L4).H) (kc : HT (le72_4 L4).H → Option R) (ke : KT R (le72_4 L4).exs) :
  exec (e72 L4 R) (lcode 4 (codeOf Try.f72)) (stOf (le72_4 L4).H x 0) (roundK (le72_4 L4).H (le72_4 L4).exs kc ke) =
    p72_4 R x.1 x.2.1 x.2.2.1 (fun x1 x2 x3 => kc (x1, x2, x3, ())) (fun y1 => ke.1 (y1, ())) (ke.2.1 ()) := by kernel_rfl
noncomputable def G72_4 : Nat → LT72_4
  | 0 => fun _ _ _ _ _ _ => none
  | n + 1 => fun R x1 x2 x3 k0 k1 => p72_4 R x1 x2 x3 (fun x1 x2 x3 => G72_4 n R x1 x2 x3 k0 k1) k0 k1
def p72 (L4 : LT72_4) : FT72 := fun R a0 a1 k =>
let v1 : Int := (List.length a0 : Int);
let v2 : Int := (List.length a1 : Int);
let v3 : Bool := (v1 != v2);
(match v3 with
| true => k false
| false => L4 R a0 a1 (0 : Int) (fun x4 =>
k x4) (k true))
theorem q72 (L4 : LT72_4) (F : FT72) (R : Type) (x : AT (en72 F).ins) (k : RT (en72 F).outs → PT (en72 F).ins → Option R) :
  xfun (e72 L4 R) (codeOf Try.f72) res72 (avs (en72 F).ins x) (finK (en72 F).outs (en72 F).ins k) = p72 L4 R x.1 x.2.1 (fun y1 => k (y1, ()) ()) := by kernel_rfl
noncomputable def F72 : FT72 := p72 (G72_4 FUEL)
theorem env72 (R : Type) : EnvOK Try.prog (e72 (G72_4 FUEL) R) := ⟨tabOK, eqOK, callOf_ok allE_nil⟩
noncomputable def T72_4 : (R : Type) → HT (le72_4 (G72_4 FUEL)).H → (HT (le72_4 (G72_4 FUEL)).H → Option R) → KT R (le72_4 (G72_4 FUEL)).exs → Option R := fun R x kc ke => p72_4 R x.1 x.2.1 x.2.2.1 (fun x1 x2 x3 => kc (x1, x2, x3, ())) (fun y1 => ke.1 (y1, ())) (ke.2.1 ())
theorem it72_4 : ∀ (n : Nat) (R : Type) (x : HT (le72_4 (G72_4 FUEL)).H) (ke : KT R (le72_4 (G72_4 FUEL)).exs), iter T72_4 n R x ke = G72_4 n R x.1 x.2.1 x.2.2.1 (fun y1 => ke.1 (y1, ())) (ke.2.1 ()) := by
  intro n
  induction n with
  | zero => intro R x ke; rfl
  | succ n ih =>
    intro R x ke
    show T72_4 R x (fun x' => iter T72_4 n R x' ke) ke = _
    rw [show (fun x' => iter T72_4 n R x' ke) = fun x => G72_4 n R x.1 x.2.1 x.2.2.1 (fun y1 => ke.1 (y1, ())) (ke.2.1 ()) from funext fun x' => ih R x' ke]
    rfl
theorem lok72_4 : (le72_4 (G72_4 FUEL)).OK Try.prog 0 26 (lcode 4 (codeOf Try.f72)) := fun R x ke r h =>
  iter_sound (fun R => e72 (G72_4 FUEL) R) 0 26 (fun _ => rfl) (fun _ => rfl) (fun R => env72 R) mixed (by
    intro R
    rw [show loopsOf (lcode 4 (codeOf Try.f72)) = [] from by kernel_rfl]
    exact allM_nil) (T := T72_4) (fun R x kc ke => q72_4 (G72_4 FUEL) R x kc ke) FUEL R x ke r ((it72_4 FUEL R x ke).trans h)
theorem ok72 : (en72 F72).OK Try.prog :=
  ent_ok (Ef := fun R => e72 (G72_4 FUEL) R) (fun R => env72 R) mixed Try.func72 (body := codeOf Try.f72) (by kernel_rfl) (by kernel_rfl) (np := 0) (nt := 26) (fun _ => rfl) (fun _ => rfl) (by kernel_rfl) (res := res72) (by kernel_rfl) (fun _ => rfl) (fun _ => Nat.le_of_ble_eq_true rfl) (by
    intro R
    rw [show loopsOf (codeOf Try.f72) = [lcode 4 (codeOf Try.f72)] from by kernel_rfl]
    exact (allM_cons (loop_ok2 (e := le72_4 (G72_4 FUEL)) rfl rfl lok72_4) allM_nil)) (fun R x k => q72 (G72_4 FUEL) F72 R x k)
/-! drawlot/drawlotref11.Same -/
abbrev FT24 : Type 1 := (R : Type) → ((List Int) × Unit) → ((List Int) × Unit) → (Bool → Option R) → Option R
def en24 (F : FT24) : Ent := ⟨24, [(false, (.pair (.sl (.int .u64)) .unit)), (false, (.pair (.sl (.int .u64)) .unit))], [(false, .bool)], fun R x k => F R x.1 x.2.1 (fun y1 => k (y1, ()) ())⟩
def res24 : List (ResultVar × TypeId × Bool) := [(.tmp 4, 4, false)]
def e24 (F72 : FT72) (R : Type) : Env R := ⟨TT, EQT, 0, 10, ownOf [], callOf [en72 F72] R, loopOf [] R⟩
def p24 (F72 : FT72) : FT24 := fun R a0 a1 k =>
F72 R a0.1 a1.1 fun y1 =>
k y1
theorem q24 (F72 : FT72) (F : FT24) (R : Type) (x : AT (en24 F).ins) (k : RT (en24 F).outs → PT (en24 F).ins → Option R) :
  xfun (e24 F72 R) (codeOf Try.f24) res24 (avs (en24 F).ins x) (finK (en24 F).outs (en24 F).ins k) = p24 F72 R x.1 x.2.1 (fun y1 => k (y1, ()) ()) := by kernel_rfl
noncomputable def F24 : FT24 := p24 F72
theorem env24 (R : Type) : EnvOK Try.prog (e24 F72 R) := ⟨tabOK, eqOK, callOf_ok (allE_cons ok72 allE_nil)⟩
theorem ok24 : (en24 F24).OK Try.prog :=
  ent_ok (Ef := fun R => e24 F72 R) (fun R => env24 R) mixed Try.func24 (body := codeOf Try.f24) (by kernel_rfl) (by kernel_rfl) (np := 0) (nt := 10) (fun _ => rfl) (fun _ => rfl) (by kernel_rfl) (res := res24) (by kernel_rfl) (fun _ => rfl) (fun _ => Nat.le_of_ble_eq_true rfl) (by
    intro R
    rw [show loopsOf (codeOf Try.f24) = [] from by kernel_rfl]
    exact allM_nil) (fun R x k => q24 F72 F24 R x k)
/-! drawlot/drawlotlaw13.LeadTrees -/
abbrev FT4 : Type 1 := (R : Type) → (List Int) → (Int × ((List Int) × (Int × ((List Int) × (Int × (Int × Unit)))))) → Int → (Bool → Option R) → Option R
def en4 (F : FT4) : Ent := ⟨4, [(false, (.sl (.int .u64))), (false, (.pair (.int .i64) (.pair (.sl (.int .u8)) (.pair (.int .u64) (.pair (.arr 32 (.int .u8)) (.pair (.int .u64) (.pair (.int .u64) .unit))))))), (false, (.int .i64))], [(false, .bool)], fun R x k => F R x.1 x.2.1 x.2.2.1 (fun y1 => k (y1, ()) ())⟩
def res4 : List (ResultVar × TypeId × Bool) := [(.tmp 6, 4, false)]
def e4 (F17 : FT17) (F18 : FT18) (F20 : FT20) (F21 : FT21) (F22 : FT22) (F23 : FT23) (F24 : FT24) (F25 : FT25) (R : Type) : Env R := ⟨TT, EQT, 0, 62, ownOf [], callOf [en17 F17, en18 F18, en20 F20, en21 F21, en22 F22, en23 F23, en24 F24, en25 F25] R, loopOf [] R⟩
def p4 (F17 : FT17) (F18 : FT18) (F20 : FT20) (F21 : FT21) (F22 : FT22) (F23 : FT23) (F24 : FT24) (F25 : FT25) : FT4 := fun R a0 a1 a2 k =>
F17 R  fun y1 =>
(match (!y1) with
| true => k false
| false => F18 R a0 a1 fun y2 =>
(match y2 with
| true => k true
| false => F22 R a0 fun y3 y4 =>
let v5 : Bool := (y4 != (0 : Int));
(match v5 with
| true => k true
| false => F23 R y3 a1 a2 fun y6 y7 y8 =>
F20 R a0 a1 a2 fun y9 y10 y11 =>
let v12 : Bool := (y6 == y9);
(match v12 with
| true => F21 R y7 y10 fun y13 =>
(match y13 with
| true => let v14 : Bool := (y8 == y11);
(match v14 with
| true => F25 R a0 fun y15 =>
F24 R y3 y15 fun y16 =>
k y16
| false => k false)
| false => k false)
| false => k false))))
theorem q4 (F17 : FT17) (F18 : FT18) (F20 : FT20) (F21 : FT21) (F22 : FT22) (F23 : FT23) (F24 : FT24) (F25 : FT25) (F : FT4) (R : Type) (x : AT (en4 F).ins) (k : RT (en4 F).outs → PT (en4 F).ins → Option R) :
  xfun (e4 F17 F18 F20 F21 F22 F23 F24 F25 R) (codeOf Try.f4) res4 (avs (en4 F).ins x) (finK (en4 F).outs (en4 F).ins k) = p4 F17 F18 F20 F21 F22 F23 F24 F25 R x.1 x.2.1 x.2.2.1 (fun y1 => k (y1, ()) ()) := by kernel_rfl
noncomputable def F4 : FT4 := p4 F17 F18 F20 F21 F22 F23 F24 F25
theorem env4 (R : Type) : EnvOK Try.prog (e4 F17 F18 F20 F21 F22 F23 F24 F25 R) := ⟨tabOK, eqOK, callOf_ok (allE_cons ok17 (allE_cons ok18 (allE_cons ok20 (allE_cons ok21 (allE_cons ok22 (allE_cons ok23 (allE_cons ok24 (allE_cons ok25 allE_nil))))))))⟩
theorem ok4 : (en4 F4).OK Try.prog :=
  ent_ok (Ef := fun R => e4 F17 F18 F20 F21 F22 F23 F24 F25 R) (fun R => env4 R) mixed Try.func4 (body := codeOf Try.f4) (by kernel_rfl) (by kernel_rfl) (np := 0) (nt := 62) (fun _ => rfl) (fun _ => rfl) (by kernel_rfl) (res := res4) (by kernel_rfl) (fun _ => rfl) (fun _ => Nat.le_of_ble_eq_true rfl) (by
    intro R
    rw [show loopsOf (codeOf Try.f4) = [] from by kernel_rfl]
    exact allM_nil) (fun R x k => q4 F17 F18 F20 F21 F22 F23 F24 F25 F4 R x k)
/-! drawlot/drawlotref08.Pow -/
abbrev FT27 : Type 1 := (R : Type) → Int → Int → (Int → Option R) → Option R
def en27 (F : FT27) : Ent := ⟨27, [(false, (.int .u64)), (false, (.int .i64))], [(false, (.int .u64))], fun R x k => F R x.1 x.2.1 (fun y1 => k (y1, ()) ())⟩
def res27 : List (ResultVar × TypeId × Bool) := [(.tmp 4, 24, false)]
abbrev LT27_3 : Type 1 := (R : Type) → Int → Int → Int → Int → (Int → Option R) → Option R
def le27_3 (L : LT27_3) : LEnt := ⟨3, [.val 0 (.int .u64), .val 1 (.int .i64), .val 5 (.int .u64), .val 6 (.int .i64)], 0, [(.exit 0, [.val 5 (.int .u64)])], fun R x ke => L R x.1 x.2.1 x.2.2.1 x.2.2.2.1 (fun y1 => ke.1 (y1, ()))⟩
def e27 (L3 : LT27_3) (R : Type) : Env R := ⟨TT, EQT, 0, 16, ownOf [], callOf [] R, loopOf [le27_3 L3] R⟩
def p27_3 : (R : Type) → Int → Int → Int → Int → (Int → Int → Int → Int → Option R) → (Int → Option R) → Option R := fun R x1 x2 x3 x4 kc k0 =>
let v5 : Bool := (decide (x4 < x2));
(match v5 with
| true => let v6 : Int := (IntKind.u64.wrap (x3 * x1));
let v7 : Int := (IntKind.i64.wrap (x4 + (1 : Int)));
kc x1 x2 v6 v7
| false => k0 x3)
theorem q27_3 (L3 : LT27_3) (R : Type) (x : HT (le27_3 L3).H) (kc : HT (le27_3 L3).H → Option R) (ke : KT R (le27_3 L3).exs) :
  exec (e27 L3 R) (lcode 3 (codeOf Try.f27)) (stOf (le27_3 L3).H x 0) (roundK (le27_3 L3).H (le27_3 L3).exs kc ke) =
    p27_3 R x.1 x.2.1 x.2.2.1 x.2.2.2.1 (fun x1 x2 x3 x4 => kc (x1, x2, x3, x4, ())) (fun y1 => ke.1 (y1, ())) := by kernel_rfl
noncomputable def G27_3 : Nat → LT27_3
  | 0 => fun _ _ _ _ _ _ => none
  | n + 1 => fun R x1 x2 x3 x4 k0 => p27_3 R x1 x2 x3 x4 (fun x1 x2 x3 x4 => G27_3 n R x1 x2 x3 x4 k0) k0
def p27 (L3 : LT27_3) : FT27 := fun R a0 a1 k =>
L3 R a0 a1 (1 : Int) (0 : Int) (fun x1 =>
k x1)
theorem q27 (L3 : LT27_3) (F : FT27) (R : Type) (x : AT (en27 F).ins) (k : RT (en27 F).outs → PT (en27 F).ins → Option R) :
  xfun (e27 L3 R) (codeOf Try.f27) res27 (avs (en27 F).ins x) (finK (en27 F).outs (en27 F).ins k) = p27 L3 R x.1 x.2.1 (fun y1 => k (y1, ()) ()) := by kernel_rfl
noncomputable def F27 : FT27 := p27 (G27_3 FUEL)
theorem env27 (R : Type) : EnvOK Try.prog (e27 (G27_3 FUEL) R) := ⟨tabOK, eqOK, callOf_ok allE_nil⟩
noncomputable def T27_3 : (R : Type) → HT (le27_3 (G27_3 FUEL)).H → (HT (le27_3 (G27_3 FUEL)).H → Option R) → KT R (le27_3 (G27_3 FUEL)).exs → Option R := fun R x kc ke => p27_3 R x.1 x.2.1 x.2.2.1 x.2.2.2.1 (fun x1 x2 x3 x4 => kc (x1, x2, x3, x4, ())) (fun y1 => ke.1 (y1, ()))
theorem it27_3 : ∀ (n : Nat) (R : Type) (x : HT (le27_3 (G27_3 FUEL)).H) (ke : KT R (le27_3 (G27_3 FUEL)).exs), iter T27_3 n R x ke = G27_3 n R x.1 x.2.1 x.2.2.1 x.2.2.2.1 (fun y1 => ke.1 (y1, ())) := by
  intro n
  induction n with
  | zero => intro R x ke; rfl
  | succ n ih =>
    intro R x ke
    show T27_3 R x (fun x' => iter T27_3 n R x' ke) ke = _
    rw [show (fun x' => iter T27_3 n R x' ke) = fun x => G27_3 n R x.1 x.2.1 x.2.2.1 x.2.2.2.1 (fun y1 => ke.1 (y1, ())) from funext fun x' => ih R x' ke]
    rfl
theorem lok27_3 : (le27_3 (G27_3 FUEL)).OK Try.prog 0 16 (lcode 3 (codeOf Try.f27)) := fun R x ke r h =>
  iter_sound (fun R => e27 (G27_3 FUEL) R) 0 16 (fun _ => rfl) (fun _ => rfl) (fun R => env27 R) mixed (by
    intro R
    rw [show loopsOf (lcode 3 (codeOf Try.f27)) = [] from by kernel_rfl]
    exact allM_nil) (T := T27_3) (fun R x kc ke => q27_3 (G27_3 FUEL) R x kc ke) FUEL R x ke r ((it27_3 FUEL R x ke).trans h)
theorem ok27 : (en27 F27).OK Try.prog :=
  ent_ok (Ef := fun R => e27 (G27_3 FUEL) R) (fun R => env27 R) mixed Try.func27 (body := codeOf Try.f27) (by kernel_rfl) (by kernel_rfl) (np := 0) (nt := 16) (fun _ => rfl) (fun _ => rfl) (by kernel_rfl) (res := res27) (by kernel_rfl) (fun _ => rfl) (fun _ => Nat.le_of_ble_eq_true rfl) (by
    intro R
    rw [show loopsOf (codeOf Try.f27) = [lcode 3 (codeOf Try.f27)] from by kernel_rfl]
    exact (allM_cons (loop_ok2 (e := le27_3 (G27_3 FUEL)) rfl rfl lok27_3) allM_nil)) (fun R x k => q27 (G27_3 FUEL) F27 R x k)
/-! drawlot/drawlotref01.Left -/
abbrev FT77 : Type 1 := (R : Type) → Int → Int → (Int → Option R) → Option R
def en77 (F : FT77) : Ent := ⟨77, [(false, (.int .u32)), (false, (.int .i64))], [(false, (.int .u32))], fun R x k => F R x.1 x.2.1 (fun y1 => k (y1, ()) ())⟩
def res77 : List (ResultVar × TypeId × Bool) := [(.tmp 4, 104, false)]
abbrev LT77_4 : Type 1 := (R : Type) → Int → Int → Int → (Int → Option R) → Option R
def le77_4 (L : LT77_4) : LEnt := ⟨4, [.val 0 (.int .u32), .val 1 (.int .i64), .val 5 (.int .i64)], 0, [(.exit 0, [.val 0 (.int .u32)])], fun R x ke => L R x.1 x.2.1 x.2.2.1 (fun y1 => ke.1 (y1, ()))⟩
def e77 (L4 : LT77_4) (R : Type) : Env R := ⟨TT, EQT, 0, 16, ownOf [], callOf [] R, loopOf [le77_4 L4] R⟩
def p77_4 : (R : Type) → Int → Int → Int → (Int → Int → Int → Option R) → (Int → Option R) → Option R := fun R x1 x2 x3 kc k0 =>
let v4 : Bool := (decide (x3 < x2));
(match v4 with
| true => let v5 : Int := (IntKind.u32.wrap ((2 : Int) * x1));
let v6 : Int := (IntKind.i64.wrap (x3 + (1 : Int)));
kc v5 x2 v6
| false => k0 x1)
theorem q77_4 (L4 : LT77_4) (R : Type) (x : HT (le77_4 L4).H) (kc : HT (le77_4 L4).H → Option R) (ke : KT R (le77_4 L4).exs) :
  exec (e77 L4 R) (lcode 4 (codeOf Try.f77)) (stOf (le77_4 L4).H x 0) (roundK (le77_4 L4).H (le77_4 L4).exs kc ke) =
    p77_4 R x.1 x.2.1 x.2.2.1 (fun x1 x2 x3 => kc (x1, x2, x3, ())) (fun y1 => ke.1 (y1, ())) := by kernel_rfl
noncomputable def G77_4 : Nat → LT77_4
  | 0 => fun _ _ _ _ _ => none
  | n + 1 => fun R x1 x2 x3 k0 => p77_4 R x1 x2 x3 (fun x1 x2 x3 => G77_4 n R x1 x2 x3 k0) k0
def p77 (L4 : LT77_4) : FT77 := fun R a0 a1 k =>
let v1 : Bool := (decide (a1 > (31 : Int)));
(match v1 with
| true => k (0 : Int)
| false => L4 R a0 a1 (0 : Int) (fun x2 =>
k x2))
theorem q77 (L4 : LT77_4) (F : FT77) (R : Type) (x : AT (en77 F).ins) (k : RT (en77 F).outs → PT (en77 F).ins → Option R) :
  xfun (e77 L4 R) (codeOf Try.f77) res77 (avs (en77 F).ins x) (finK (en77 F).outs (en77 F).ins k) = p77 L4 R x.1 x.2.1 (fun y1 => k (y1, ()) ()) := by kernel_rfl
noncomputable def F77 : FT77 := p77 (G77_4 FUEL)
theorem env77 (R : Type) : EnvOK Try.prog (e77 (G77_4 FUEL) R) := ⟨tabOK, eqOK, callOf_ok allE_nil⟩
noncomputable def T77_4 : (R : Type) → HT (le77_4 (G77_4 FUEL)).H → (HT (le77_4 (G77_4 FUEL)).H → Option R) → KT R (le77_4 (G77_4 FUEL)).exs → Option R := fun R x kc ke => p77_4 R x.1 x.2.1 x.2.2.1 (fun x1 x2 x3 => kc (x1, x2, x3, ())) (fun y1 => ke.1 (y1, ()))
theorem it77_4 : ∀ (n : Nat) (R : Type) (x : HT (le77_4 (G77_4 FUEL)).H) (ke : KT R (le77_4 (G77_4 FUEL)).exs), iter T77_4 n R x ke = G77_4 n R x.1 x.2.1 x.2.2.1 (fun y1 => ke.1 (y1, ())) := by
  intro n
  induction n with
  | zero => intro R x ke; rfl
  | succ n ih =>
    intro R x ke
    show T77_4 R x (fun x' => iter T77_4 n R x' ke) ke = _
    rw [show (fun x' => iter T77_4 n R x' ke) = fun x => G77_4 n R x.1 x.2.1 x.2.2.1 (fun y1 => ke.1 (y1, ())) from funext fun x' => ih R x' ke]
    rfl
theorem lok77_4 : (le77_4 (G77_4 FUEL)).OK Try.prog 0 16 (lcode 4 (codeOf Try.f77)) := fun R x ke r h =>
  iter_sound (fun R => e77 (G77_4 FUEL) R) 0 16 (fun _ => rfl) (fun _ => rfl) (fun R => env77 R) mixed (by
    intro R
    rw [show loopsOf (lcode 4 (codeOf Try.f77)) = [] from by kernel_rfl]
    exact allM_nil) (T := T77_4) (fun R x kc ke => q77_4 (G77_4 FUEL) R x kc ke) FUEL R x ke r ((it77_4 FUEL R x ke).trans h)
theorem ok77 : (en77 F77).OK Try.prog :=
  ent_ok (Ef := fun R => e77 (G77_4 FUEL) R) (fun R => env77 R) mixed Try.func77 (body := codeOf Try.f77) (by kernel_rfl) (by kernel_rfl) (np := 0) (nt := 16) (fun _ => rfl) (fun _ => rfl) (by kernel_rfl) (res := res77) (by kernel_rfl) (fun _ => rfl) (fun _ => Nat.le_of_ble_eq_true rfl) (by
    intro R
    rw [show loopsOf (codeOf Try.f77) = [lcode 4 (codeOf Try.f77)] from by kernel_rfl]
    exact (allM_cons (loop_ok2 (e := le77_4 (G77_4 FUEL)) rfl rfl lok77_4) allM_nil)) (fun R x k => q77 (G77_4 FUEL) F77 R x k)
/-! drawlot/drawlotref08.Bytes -/
abbrev FT29 : Type 1 := (R : Type) → Int → Int → ((List Int) → Option R) → Option R
def en29 (F : FT29) : Ent := ⟨29, [(false, (.int .u64)), (false, (.int .i64))], [(false, (.sl (.int .u8)))], fun R x k => F R x.1 x.2.1 (fun y1 => k (y1, ()) ())⟩
def res29 : List (ResultVar × TypeId × Bool) := [(.tmp 4, 23, false)]
abbrev LT29_3 : Type 1 := (R : Type) → Int → Int → Int → (List Int) → ((List Int) → Option R) → Option R
def le29_3 (L : LT29_3) : LEnt := ⟨3, [.val 0 (.int .u64), .val 1 (.int .i64), .fix 5 (.own 0 0), .val 6 (.int .i64), .row 0 (.int .u8) false], 1, [(.exit 0, [.fix 5 (.own 0 0), .row 0 (.int .u8) false])], fun R x ke => L R x.1 x.2.1 x.2.2.1 x.2.2.2.1 (fun y1 => ke.1 (y1, ()))⟩
def e29 (F76 : FT76) (F77 : FT77) (L3 : LT29_3) (R : Type) : Env R := ⟨TT, EQT, 0, 44, ownOf [(1, 0)], callOf [en76 F76, en77 F77] R, loopOf [le29_3 L3] R⟩
def p29_3 (F76 : FT76) (F77 : FT77) : (R : Type) → Int → Int → Int → (List Int) → (Int → Int → Int → (List Int) → Option R) → ((List Int) → Option R) → Option R := fun R x1 x2 x3 x4 kc k0 =>
let v5 : Bool := (decide (x3 < x2));
(match v5 with
| true => let v6 : Int := (Int.tmod x3 (8 : Int));
let v7 : Bool := (v6 == (0 : Int));
(match v7 with
| true => let v8 : (List Int) := ([(0 : Int)] : (List Int));
(match (decide (List.length x4 + List.length v8 ≤ 140737488355328)) with
| true => let v9 : (List Int) := (x4 ++ v8);
let v10 : Int := (Int.tmod x1 (4294967296 : Int));
let v11 : Int := (IntKind.u32.wrap v10);
let v12 : Int := (IntKind.i64.wrap (x2 - (1 : Int)));
let v13 : Int := (IntKind.i64.wrap (v12 - x3));
F76 R v11 v13 fun y14 =>
let v15 : Int := (Int.tmod y14 (2 : Int));
let v16 : Bool := (v15 == (1 : Int));
(match v16 with
| true => let v17 : Int := (IntKind.i64.wrap (Int.tdiv x3 (8 : Int)));
let v18 : Int := (IntKind.i64.wrap (Int.tdiv x3 (8 : Int)));
(match (bnd v18 (List.length v9 : Int)) with
| true => let v19 : Int := (List.getD v9 (Int.toNat v18) (0 : Int));
let v20 : Int := (Int.tmod x3 (8 : Int));
let v21 : Int := (IntKind.i64.wrap ((7 : Int) - v20));
F77 R (1 : Int) v21 fun y22 =>
let v23 : Int := (IntKind.u8.wrap y22);
let v24 : Int := (IntKind.u8.wrap (v19 + v23));
(match (bnd v17 (List.length v9 : Int)) with
| true => let v25 : (List Int) := (List.set v9 (Int.toNat v17) v24);
let v26 : Int := (IntKind.i64.wrap (x3 + (1 : Int)));
kc x1 x2 v26 v25
| false => none)
| false => none)
| false => let v27 : Int := (IntKind.i64.wrap (x3 + (1 : Int)));
kc x1 x2 v27 v9)
| false => none)
| false => let v28 : Int := (Int.tmod x1 (4294967296 : Int));
let v29 : Int := (IntKind.u32.wrap v28);
let v30 : Int := (IntKind.i64.wrap (x2 - (1 : Int)));
let v31 : Int := (IntKind.i64.wrap (v30 - x3));
F76 R v29 v31 fun y32 =>
let v33 : Int := (Int.tmod y32 (2 : Int));
let v34 : Bool := (v33 == (1 : Int));
(match v34 with
| true => let v35 : Int := (IntKind.i64.wrap (Int.tdiv x3 (8 : Int)));
let v36 : Int := (IntKind.i64.wrap (Int.tdiv x3 (8 : Int)));
(match (bnd v36 (List.length x4 : Int)) with
| true => let v37 : Int := (List.getD x4 (Int.toNat v36) (0 : Int));
let v38 : Int := (Int.tmod x3 (8 : Int));
let v39 : Int := (IntKind.i64.wrap ((7 : Int) - v38));
F77 R (1 : Int) v39 fun y40 =>
let v41 : Int := (IntKind.u8.wrap y40);
let v42 : Int := (IntKind.u8.wrap (v37 + v41));
(match (bnd v35 (List.length x4 : Int)) with
| true => let v43 : (List Int) := (List.set x4 (Int.toNat v35) v42);
let v44 : Int := (IntKind.i64.wrap (x3 + (1 : Int)));
kc x1 x2 v44 v43
| false => none)
| false => none)
| false => let v45 : Int := (IntKind.i64.wrap (x3 + (1 : Int)));
kc x1 x2 v45 x4))
| false => k0 x4)
theorem q29_3 (F76 : FT76) (F77 : FT77) (L3 : LT29_3) (R : Type) (x : HT (le29_3 L3).H) (kc : HT (le29_3 L3).H → Option R) (ke : KT R (le29_3 L3).exs) :
  exec (e29 F76 F77 L3 R) (lcode 3 (codeOf Try.f29)) (stOf (le29_3 L3).H x 1) (roundK (le29_3 L3).H (le29_3 L3).exs kc ke) =
    p29_3 F76 F77 R x.1 x.2.1 x.2.2.1 x.2.2.2.1 (fun x1 x2 x3 x4 => kc (x1, x2, x3, x4, ())) (fun y1 => ke.1 (y1, ())) := by kernel_rfl
noncomputable def G29_3 : Nat → LT29_3
  | 0 => fun _ _ _ _ _ _ => none
  | n + 1 => fun R x1 x2 x3 x4 k0 => p29_3 F76 F77 R x1 x2 x3 x4 (fun x1 x2 x3 x4 => G29_3 n R x1 x2 x3 x4 k0) k0
def p29 (L3 : LT29_3) : FT29 := fun R a0 a1 k =>
L3 R a0 a1 (0 : Int) ([] : (List Int)) (fun x1 =>
k x1)
theorem q29 (F76 : FT76) (F77 : FT77) (L3 : LT29_3) (F : FT29) (R : Type) (x : AT (en29 F).ins) (k : RT (en29 F).outs → PT (en29 F).ins → Option R) :
  xfun (e29 F76 F77 L3 R) (codeOf Try.f29) res29 (avs (en29 F).ins x) (finK (en29 F).outs (en29 F).ins k) = p29 L3 R x.1 x.2.1 (fun y1 => k (y1, ()) ()) := by kernel_rfl
noncomputable def F29 : FT29 := p29 (G29_3 FUEL)
theorem env29 (R : Type) : EnvOK Try.prog (e29 F76 F77 (G29_3 FUEL) R) := ⟨tabOK, eqOK, callOf_ok (allE_cons ok76 (allE_cons ok77 allE_nil))⟩
noncomputable def T29_3 : (R : Type) → HT (le29_3 (G29_3 FUEL)).H → (HT (le29_3 (G29_3 FUEL)).H → Option R) → KT R (le29_3 (G29_3 FUEL)).exs → Option R := fun R x kc ke => p29_3 F76 F77 R x.1 x.2.1 x.2.2.1 x.2.2.2.1 (fun x1 x2 x3 x4 => kc (x1, x2, x3, x4, ())) (fun y1 => ke.1 (y1, ()))
theorem it29_3 : ∀ (n : Nat) (R : Type) (x : HT (le29_3 (G29_3 FUEL)).H) (ke : KT R (le29_3 (G29_3 FUEL)).exs), iter T29_3 n R x ke = G29_3 n R x.1 x.2.1 x.2.2.1 x.2.2.2.1 (fun y1 => ke.1 (y1, ())) := by
  intro n
  induction n with
  | zero => intro R x ke; rfl
  | succ n ih =>
    intro R x ke
    show T29_3 R x (fun x' => iter T29_3 n R x' ke) ke = _
    rw [show (fun x' => iter T29_3 n R x' ke) = fun x => G29_3 n R x.1 x.2.1 x.2.2.1 x.2.2.2.1 (fun y1 => ke.1 (y1, ())) from funext fun x' => ih R x' ke]
    rfl
theorem lok29_3 : (le29_3 (G29_3 FUEL)).OK Try.prog 0 44 (lcode 3 (codeOf Try.f29)) := fun R x ke r h =>
  iter_sound (fun R => e29 F76 F77 (G29_3 FUEL) R) 0 44 (fun _ => rfl) (fun _ => rfl) (fun R => env29 R) mixed (by
    intro R
    rw [show loopsOf (lcode 3 (codeOf Try.f29)) = [] from by kernel_rfl]
    exact allM_nil) (T := T29_3) (fun R x kc ke => q29_3 F76 F77 (G29_3 FUEL) R x kc ke) FUEL R x ke r ((it29_3 FUEL R x ke).trans h)
theorem ok29 : (en29 F29).OK Try.prog :=
  ent_ok (Ef := fun R => e29 F76 F77 (G29_3 FUEL) R) (fun R => env29 R) mixed Try.func29 (body := codeOf Try.f29) (by kernel_rfl) (by kernel_rfl) (np := 0) (nt := 44) (fun _ => rfl) (fun _ => rfl) (by kernel_rfl) (res := res29) (by kernel_rfl) (fun _ => rfl) (fun _ => Nat.le_of_ble_eq_true rfl) (by
    intro R
    rw [show loopsOf (codeOf Try.f29) = [lcode 3 (codeOf Try.f29)] from by kernel_rfl]
    exact (allM_cons (loop_ok2 (e := le29_3 (G29_3 FUEL)) rfl rfl lok29_3) allM_nil)) (fun R x k => q29 F76 F77 (G29_3 FUEL) F29 R x k)
/-! drawlot/drawlotlaw13.LeadCounts -/
abbrev FT5 : Type 1 := (R : Type) → (List Int) → Int → (Bool → Option R) → Option R
def en5 (F : FT5) : Ent := ⟨5, [(false, (.sl (.int .u64))), (false, (.int .u8))], [(false, .bool)], fun R x k => F R x.1 x.2.1 (fun y1 => k (y1, ()) ())⟩
def res5 : List (ResultVar × TypeId × Bool) := [(.tmp 4, 4, false)]
abbrev LT5_8 : Type 1 := (R : Type) → (List Int) → Int → Int → Int → (List Int) → ((List Int) → Int → Int → (List Int) → Option R) → Option R
def le5_8 (L : LT5_8) : LEnt := ⟨8, [.val 0 (.sl (.int .u64)), .val 1 (.int .u8), .fix 5 (.own 0 0), .val 6 (.int .u64), .val 7 (.int .i64), .row 0 (.int .u64) false], 1, [(.exit 0, [.val 0 (.sl (.int .u64)), .val 1 (.int .u8), .fix 5 (.own 0 0), .val 6 (.int .u64), .row 0 (.int .u64) false])], fun R x ke => L R x.1 x.2.1 x.2.2.1 x.2.2.2.1 x.2.2.2.2.1 (fun y1 y2 y3 y4 => ke.1 (y1, y2, y3, y4, ()))⟩
abbrev LT5_22 : Type 1 := (R : Type) → Int → Int → Int → Int → Int → (List Int) → ((List Int) × Unit) → (List Int) → (Bool → Option R) → (Int → Int → Int → Int → (List Int) → (List Int) → Option R) → Option R
def le5_22 (L : LT5_22) : LEnt := ⟨22, [.fix 5 (.own 0 0), .val 6 (.int .u64), .val 8 (.int .i64), .val 9 (.int .i64), .fix 10 (.ptr 1 [] (.pair (.sl (.int .u64)) .unit)), .fix 11 (.own 2 0), .val 12 (.int .u64), .val 13 (.int .u64), .row 0 (.int .u64) true, .var 1 (.pair (.sl (.int .u64)) .unit) false, .row 2 (.int .u64) false], 3, [(.ret, [.val 4 .bool]), (.exit 2, [.fix 5 (.own 0 0), .val 6 (.int .u64), .val 8 (.int .i64), .val 9 (.int .i64), .fix 11 (.own 2 0), .val 12 (.int .u64), .row 0 (.int .u64) true, .row 2 (.int .u64) false])], fun R x ke => L R x.1 x.2.1 x.2.2.1 x.2.2.2.1 x.2.2.2.2.1 x.2.2.2.2.2.1 x.2.2.2.2.2.2.1 x.2.2.2.2.2.2.2.1 (fun y1 => ke.1 (y1, ())) (fun y1 y2 y3 y4 y5 y6 => ke.2.1 (y1, y2, y3, y4, y5, y6, ()))⟩
abbrev LT5_35 : Type 1 := (R : Type) → Int → Int → Int → Int → Int → Int → (List Int) → (List Int) → (Bool → Option R) → (Int → Int → Option R) → Option R
def le5_35 (L : LT5_35) : LEnt := ⟨35, [.fix 5 (.own 0 0), .val 6 (.int .u64), .val 8 (.int .i64), .val 9 (.int .i64), .fix 11 (.own 2 0), .val 12 (.int .u64), .val 19 (.int .u64), .val 20 (.int .i64), .row 0 (.int .u64) true, .row 2 (.int .u64) false], 3, [(.ret, [.val 4 .bool]), (.exit 4, [.val 12 (.int .u64), .val 19 (.int .u64)])], fun R x ke => L R x.1 x.2.1 x.2.2.1 x.2.2.2.1 x.2.2.2.2.1 x.2.2.2.2.2.1 x.2.2.2.2.2.2.1 x.2.2.2.2.2.2.2.1 (fun y1 => ke.1 (y1, ())) (fun y1 y2 => ke.2.1 (y1, y2, ()))⟩
def e5 (F17 : FT17) (F23 : FT23) (F25 : FT25) (F26 : FT26) (F27 : FT27) (F28 : FT28) (F29 : FT29) (L8 : LT5_8) (L22 : LT5_22) (L35 : LT5_35) (R : Type) : Env R := ⟨TT, EQT, 0, 157, ownOf [(5, 0)], callOf [en17 F17, en23 F23, en25 F25, en26 F26, en27 F27, en28 F28, en29 F29] R, loopOf [le5_8 L8, le5_22 L22, le5_35 L35] R⟩
def p5_8 : (R : Type) → (List Int) → Int → Int → Int → (List Int) → ((List Int) → Int → Int → Int → (List Int) → Option R) → ((List Int) → Int → Int → (List Int) → Option R) → Option R := fun R x1 x2 x3 x4 x5 kc k0 =>
let v6 : Int := (List.length x1 : Int);
let v7 : Bool := (decide (x4 < v6));
(match v7 with
| true => (match (bnd x4 (List.length x1 : Int)) with
| true => let v8 : Int := (List.getD x1 (Int.toNat x4) (0 : Int));
let v9 : Int := (Int.tmod v8 (6 : Int));
let v10 : (List Int) := ([v9] : (List Int));
(match (decide (List.length x5 + List.length v10 ≤ 17592186044416)) with
| true => let v11 : (List Int) := (x5 ++ v10);
(match (bnd x4 (List.length x1 : Int)) with
| true => let v12 : Int := (List.getD x1 (Int.toNat x4) (0 : Int));
let v13 : Int := (Int.tmod v12 (6 : Int));
let v14 : Int := (IntKind.u64.wrap (x3 + v13));
let v15 : Int := (IntKind.i64.wrap (x4 + (1 : Int)));
kc x1 x2 v14 v15 v11
| false => none)
| false => none)
| false => none)
| false => k0 x1 x2 x3 x5)
theorem q5_8 (F17 : FT17) (F23 : FT23) (F25 : FT25) (F26 : FT26) (F27 : FT27) (F28 : FT28) (F29 : FT29) (L8 : LT5_8) (L22 : LT5_22) (L35 : LT5_35) (R : Type) (x : HT (le5_8 L8).H) (kc : HT (le5_8 L8).H → Option R) (ke : KT R (le5_8 L8).exs) :
  exec (e5 F17 F23 F25 F26 F27 F28 F29 L8 L22 L35 R) (lcode 8 (codeOf Try.f5)) (stOf (le5_8 L8).H x 1) (roundK (le5_8 L8).H (le5_8 L8).exs kc ke) =
    p5_8 R x.1 x.2.1 x.2.2.1 x.2.2.2.1 x.2.2.2.2.1 (fun x1 x2 x3 x4 x5 => kc (x1, x2, x3, x4, x5, ())) (fun y1 y2 y3 y4 => ke.1 (y1, y2, y3, y4, ())) := by kernel_rfl
noncomputable def G5_8 : Nat → LT5_8
  | 0 => fun _ _ _ _ _ _ _ => none
  | n + 1 => fun R x1 x2 x3 x4 x5 k0 => p5_8 R x1 x2 x3 x4 x5 (fun x1 x2 x3 x4 x5 => G5_8 n R x1 x2 x3 x4 x5 k0) k0
def p5_22 (F23 : FT23) (F27 : FT27) (F28 : FT28) (F29 : FT29) : (R : Type) → Int → Int → Int → Int → Int → (List Int) → ((List Int) × Unit) → (List Int) → (Int → Int → Int → Int → Int → (List Int) → ((List Int) × Unit) → (List Int) → Option R) → (Bool → Option R) → (Int → Int → Int → Int → (List Int) → (List Int) → Option R) → Option R := fun R x1 x2 x3 x4 x5 x6 x7 x8 kc k0 k1 =>
let v9 : Int := (IntKind.i64.wrap (x3 * x2));
F27 R (2 : Int) v9 fun y10 =>
let v11 : Bool := (decide (x5 < y10));
(match v11 with
| true => let v12 : Int := (IntKind.i64.wrap (x3 * x2));
F29 R x5 v12 fun y13 =>
let v14 : Int := (IntKind.i64.wrap (x3 * x2));
let v15 : Int := (IntKind.u64.wrap v14);
F28 R y13 v15 fun y16 y17 =>
F23 R x7 y16 x2 fun y18 y19 y20 =>
let v21 : Bool := (decide (y19.2.2.2.2.2.1 > y16.2.2.1));
(match v21 with
| true => k0 false
| false => let v22 : Bool := (y20 == (0 : Int));
(match v22 with
| true => let v23 : Bool := (decide (y18 ≥ (0 : Int)));
(match v23 with
| true => let v24 : Int := (List.length x8 : Int);
let v25 : Bool := (decide (y18 < v24));
(match v25 with
| true => (match (bnd y18 (List.length x8 : Int)) with
| true => let v26 : Int := (List.getD x8 (Int.toNat y18) (0 : Int));
let v27 : Int := (IntKind.u64.wrap (v26 + (1 : Int)));
(match (bnd y18 (List.length x8 : Int)) with
| true => let v28 : (List Int) := (List.set x8 (Int.toNat y18) v27);
let v29 : Int := (IntKind.u64.wrap (x5 + (1 : Int)));
kc x1 x2 x3 x4 v29 x6 x7 v28
| false => none)
| false => none)
| false => let v30 : Bool := (y20 == (9 : Int));
(match v30 with
| true => let v31 : Int := (IntKind.u64.wrap (x4 + (1 : Int)));
let v32 : Int := (IntKind.u64.wrap (x5 + (1 : Int)));
kc x1 x2 x3 v31 v32 x6 x7 x8
| false => k0 false))
| false => let v33 : Bool := (y20 == (9 : Int));
(match v33 with
| true => let v34 : Int := (IntKind.u64.wrap (x4 + (1 : Int)));
let v35 : Int := (IntKind.u64.wrap (x5 + (1 : Int)));
kc x1 x2 x3 v34 v35 x6 x7 x8
| false => k0 false))
| false => let v36 : Bool := (y20 == (9 : Int));
(match v36 with
| true => let v37 : Int := (IntKind.u64.wrap (x4 + (1 : Int)));
let v38 : Int := (IntKind.u64.wrap (x5 + (1 : Int)));
kc x1 x2 x3 v37 v38 x6 x7 x8
| false => k0 false)))
| false => k1 x1 x2 x3 x4 x6 x8)
theorem q5_22 (F17 : FT17) (F23 : FT23) (F25 : FT25) (F26 : FT26) (F27 : FT27) (F28 : FT28) (F29 : FT29) (L8 : LT5_8) (L22 : LT5_22) (L35 : LT5_35) (R : Type) (x : HT (le5_22 L22).H) (kc : HT (le5_22 L22).H → Option R) (ke : KT R (le5_22 L22).exs) :
  exec (e5 F17 F23 F25 F26 F27 F28 F29 L8 L22 L35 R) (lcode 22 (codeOf Try.f5)) (stOf (le5_22 L22).H x 3) (roundK (le5_22 L22).H (le5_22 L22).exs kc ke) =
    p5_22 F23 F27 F28 F29 R x.1 x.2.1 x.2.2.1 x.2.2.2.1 x.2.2.2.2.1 x.2.2.2.2.2.1 x.2.2.2.2.2.2.1 x.2.2.2.2.2.2.2.1 (fun x1 x2 x3 x4 x5 x6 x7 x8 => kc (x1, x2, x3, x4, x5, x6, x7, x8, ())) (fun y1 => ke.1 (y1, ())) (fun y1 y2 y3 y4 y5 y6 => ke.2.1 (y1, y2, y3, y4, y5, y6, ())) := by kernel_rfl
noncomputable def G5_22 : Nat → LT5_22
  | 0 => fun _ _ _ _ _ _ _ _ _ _ _ => none
  | n + 1 => fun R x1 x2 x3 x4 x5 x6 x7 x8 k0 k1 => p5_22 F23 F27 F28 F29 R x1 x2 x3 x4 x5 x6 x7 x8 (fun x1 x2 x3 x4 x5 x6 x7 x8 => G5_22 n R x1 x2 x3 x4 x5 x6 x7 x8 k0 k1) k0 k1
def p5_35 (F27 : FT27) : (R : Type) → Int → Int → Int → Int → Int → Int → (List Int) → (List Int) → (Int → Int → Int → Int → Int → Int → (List Int) → (List Int) → Option R) → (Bool → Option R) → (Int → Int → Option R) → Option R := fun R x1 x2 x3 x4 x5 x6 x7 x8 kc k0 k1 =>
let v9 : Int := (List.length x8 : Int);
let v10 : Bool := (decide (x6 < v9));
(match v10 with
| true => (match (bnd x6 (List.length x8 : Int)) with
| true => let v11 : Int := (List.getD x8 (Int.toNat x6) (0 : Int));
let v12 : Int := (IntKind.u64.wrap (v11 * x1));
(match (bnd x6 (List.length x7 : Int)) with
| true => let v13 : Int := (List.getD x7 (Int.toNat x6) (0 : Int));
let v14 : Int := (IntKind.i64.wrap (x3 * x2));
F27 R (2 : Int) v14 fun y15 =>
let v16 : Int := (IntKind.u64.wrap (y15 - x5));
let v17 : Int := (IntKind.u64.wrap (v13 * v16));
let v18 : Bool := (v12 != v17);
(match v18 with
| true => k0 false
| false => let v19 : Int := (IntKind.i64.wrap (x6 + (1 : Int)));
kc x1 x2 x3 x4 x5 v19 x7 x8)
| false => none)
| false => none)
| false => k1 x4 x5)
theorem q5_35 (F17 : FT17) (F23 : FT23) (F25 : FT25) (F26 : FT26) (F27 : FT27) (F28 : FT28) (F29 : FT29) (L8 : LT5_8) (L22 : LT5_22) (L35 : LT5_35) (R : Type) (x : HT (le5_35 L35).H) (kc : HT (le5_35 L35).H → Option R) (ke : KT R (le5_35 L35).exs) :
  exec (e5 F17 F23 F25 F26 F27 F28 F29 L8 L22 L35 R) (lcode 35 (codeOf Try.f5)) (stOf (le5_35 L35).H x 3) (roundK (le5_35 L35).H (le5_35 L35).exs kc ke) =
    p5_35 F27 R x.1 x.2.1 x.2.2.1 x.2.2.2.1 x.2.2.2.2.1 x.2.2.2.2.2.1 x.2.2.2.2.2.2.1 x.2.2.2.2.2.2.2.1 (fun x1 x2 x3 x4 x5 x6 x7 x8 => kc (x1, x2, x3, x4, x5, x6, x7, x8, ())) (fun y1 => ke.1 (y1, ())) (fun y1 y2 => ke.2.1 (y1, y2, ())) := by kernel_rfl
noncomputable def G5_35 : Nat → LT5_35
  | 0 => fun _ _ _ _ _ _ _ _ _ _ _ => none
  | n + 1 => fun R x1 x2 x3 x4 x5 x6 x7 x8 k0 k1 => p5_35 F27 R x1 x2 x3 x4 x5 x6 x7 x8 (fun x1 x2 x3 x4 x5 x6 x7 x8 => G5_35 n R x1 x2 x3 x4 x5 x6 x7 x8 k0 k1) k0 k1
def p5 (F17 : FT17) (F25 : FT25) (F26 : FT26) (F27 : FT27) (L8 : LT5_8) (L22 : LT5_22) (L35 : LT5_35) : FT5 := fun R a0 a1 k =>
F17 R  fun y1 =>
(match (!y1) with
| true => k false
| false => let v2 : Int := (List.length a0 : Int);
let v3 : Bool := (decide (v2 > (8 : Int)));
(match v3 with
| true => k true
| false => L8 R a0 a1 (0 : Int) (0 : Int) ([] : (List Int)) (fun x4 x5 x6 x7 =>
let v8 : Int := (Int.tmod x5 (3 : Int));
let v9 : Int := (IntKind.i64.wrap v8);
let v10 : Int := (IntKind.i64.wrap ((1 : Int) + v9));
let v11 : Bool := (x6 == (0 : Int));
(match v11 with
| true => k true
| false => let v12 : Bool := (decide (x6 > (32 : Int)));
(match v12 with
| true => k true
| false => F26 R x6 fun y13 =>
let v14 : Int := (IntKind.i64.wrap (y13 * v10));
let v15 : Bool := (decide (v14 > (11 : Int)));
(match v15 with
| true => k true
| false => F25 R x7 fun y16 =>
let v17 : Int := (List.length x4 : Int);
(match (decide (0 ≤ v17 ∧ v17 ≤ v17 ∧ v17 ≤ (17592186044416 : Int))) with
| true => let v18 : (List Int) := (List.replicate (Int.toNat v17) (0 : Int));
L22 R x6 v10 y13 (0 : Int) (0 : Int) x7 y16 v18 (fun x19 =>
k x19) (fun x20 x21 x22 x23 x24 x25 =>
F27 R (2 : Int) x22 fun y26 =>
let v27 : Int := (IntKind.u64.wrap (y26 - x20));
F27 R v27 x21 fun y28 =>
L35 R x20 x21 x22 x23 y28 (0 : Int) x24 x25 (fun x29 =>
k x29) (fun x30 x31 =>
let v32 : Bool := (x30 == x31);
k v32))
| false => none)))))))
theorem q5 (F17 : FT17) (F23 : FT23) (F25 : FT25) (F26 : FT26) (F27 : FT27) (F28 : FT28) (F29 : FT29) (L8 : LT5_8) (L22 : LT5_22) (L35 : LT5_35) (F : FT5) (R : Type) (x : AT (en5 F).ins) (k : RT (en5 F).outs → PT (en5 F).ins → Option R) :
  xfun (e5 F17 F23 F25 F26 F27 F28 F29 L8 L22 L35 R) (codeOf Try.f5) res5 (avs (en5 F).ins x) (finK (en5 F).outs (en5 F).ins k) = p5 F17 F25 F26 F27 L8 L22 L35 R x.1 x.2.1 (fun y1 => k (y1, ()) ()) := by kernel_rfl
noncomputable def F5 : FT5 := p5 F17 F25 F26 F27 (G5_8 FUEL) (G5_22 FUEL) (G5_35 FUEL)
theorem env5 (R : Type) : EnvOK Try.prog (e5 F17 F23 F25 F26 F27 F28 F29 (G5_8 FUEL) (G5_22 FUEL) (G5_35 FUEL) R) := ⟨tabOK, eqOK, callOf_ok (allE_cons ok17 (allE_cons ok23 (allE_cons ok25 (allE_cons ok26 (allE_cons ok27 (allE_cons ok28 (allE_cons ok29 allE_nil)))))))⟩
noncomputable def T5_8 : (R : Type) → HT (le5_8 (G5_8 FUEL)).H → (HT (le5_8 (G5_8 FUEL)).H → Option R) → KT R (le5_8 (G5_8 FUEL)).exs → Option R := fun R x kc ke => p5_8 R x.1 x.2.1 x.2.2.1 x.2.2.2.1 x.2.2.2.2.1 (fun x1 x2 x3 x4 x5 => kc (x1, x2, x3, x4, x5, ())) (fun y1 y2 y3 y4 => ke.1 (y1, y2, y3, y4, ()))
theorem it5_8 : ∀ (n : Nat) (R : Type) (x : HT (le5_8 (G5_8 FUEL)).H) (ke : KT R (le5_8 (G5_8 FUEL)).exs), iter T5_8 n R x ke = G5_8 n R x.1 x.2.1 x.2.2.1 x.2.2.2.1 x.2.2.2.2.1 (fun y1 y2 y3 y4 => ke.1 (y1, y2, y3, y4, ())) := by
  intro n
  induction n with
  | zero => intro R x ke; rfl
  | succ n ih =>
    intro R x ke
    show T5_8 R x (fun x' => iter T5_8 n R x' ke) ke = _
    rw [show (fun x' => iter T5_8 n R x' ke) = fun x => G5_8 n R x.1 x.2.1 x.2.2.1 x.2.2.2.1 x.2.2.2.2.1 (fun y1 y2 y3 y4 => ke.1 (y1, y2, y3, y4, ())) from funext fun x' => ih R x' ke]
    rfl
theorem lok5_8 : (le5_8 (G5_8 FUEL)).OK Try.prog 0 157 (lcode 8 (codeOf Try.f5)) := fun R x ke r h =>
  iter_sound (fun R => e5 F17 F23 F25 F26 F27 F28 F29 (G5_8 FUEL) (G5_22 FUEL) (G5_35 FUEL) R) 0 157 (fun _ => rfl) (fun _ => rfl) (fun R => env5 R) mixed (by
    intro R
    rw [show loopsOf (lcode 8 (codeOf Try.f5)) = [] from by kernel_rfl]
    exact allM_nil) (T := T5_8) (fun R x kc ke => q5_8 F17 F23 F25 F26 F27 F28 F29 (G5_8 FUEL) (G5_22 FUEL) (G5_35 FUEL) R x kc ke) FUEL R x ke r ((it5_8 FUEL R x ke).trans h)
noncomputable def T5_22 : (R : Type) → HT (le5_22 (G5_22 FUEL)).H → (HT (le5_22 (G5_22 FUEL)).H → Option R) → KT R (le5_22 (G5_22 FUEL)).exs → Option R := fun R x kc ke => p5_22 F23 F27 F28 F29 R x.1 x.2.1 x.2.2.1 x.2.2.2.1 x.2.2.2.2.1 x.2.2.2.2.2.1 x.2.2.2.2.2.2.1 x.2.2.2.2.2.2.2.1 (fun x1 x2 x3 x4 x5 x6 x7 x8 => kc (x1, x2, x3, x4, x5, x6, x7, x8, ())) (fun y1 => ke.1 (y1, ())) (fun y1 y2 y3 y4 y5 y6 => ke.2.1 (y1, y2, y3, y4, y5, y6, ()))
theorem it5_22 : ∀ (n : Nat) (R : Type) (x : HT (le5_22 (G5_22 FUEL)).H) (ke : KT R (le5_22 (G5_22 FUEL)).exs), iter T5_22 n R x ke = G5_22 n R x.1 x.2.1 x.2.2.1 x.2.2.2.1 x.2.2.2.2.1 x.2.2.2.2.2.1 x.2.2.2.2.2.2.1 x.2.2.2.2.2.2.2.1 (fun y1 => ke.1 (y1, ())) (fun y1 y2 y3 y4 y5 y6 => ke.2.1 (y1, y2, y3, y4, y5, y6, ())) := by
  intro n
  induction n with
  | zero => intro R x ke; rfl
  | succ n ih =>
    intro R x ke
    show T5_22 R x (fun x' => iter T5_22 n R x' ke) ke = _
    rw [show (fun x' => iter T5_22 n R x' ke) = fun x => G5_22 n R x.1 x.2.1 x.2.2.1 x.2.2.2.1 x.2.2.2.2.1 x.2.2.2.2.2.1 x.2.2.2.2.2.2.1 x.2.2.2.2.2.2.2.1 (fun y1 => ke.1 (y1, ())) (fun y1 y2 y3 y4 y5 y6 => ke.2.1 (y1, y2, y3, y4, y5, y6, ())) from funext fun x' => ih R x' ke]
    rfl
theorem lok5_22 : (le5_22 (G5_22 FUEL)).OK Try.prog 0 157 (lcode 22 (codeOf Try.f5)) := fun R x ke r h =>
  iter_sound (fun R => e5 F17 F23 F25 F26 F27 F28 F29 (G5_8 FUEL) (G5_22 FUEL) (G5_35 FUEL) R) 0 157 (fun _ => rfl) (fun _ => rfl) (fun R => env5 R) mixed (by
    intro R
    rw [show loopsOf (lcode 22 (codeOf Try.f5)) = [] from by kernel_rfl]
    exact allM_nil) (T := T5_22) (fun R x kc ke => q5_22 F17 F23 F25 F26 F27 F28 F29 (G5_8 FUEL) (G5_22 FUEL) (G5_35 FUEL) R x kc ke) FUEL R x ke r ((it5_22 FUEL R x ke).trans h)
noncomputable def T5_35 : (R : Type) → HT (le5_35 (G5_35 FUEL)).H → (HT (le5_35 (G5_35 FUEL)).H → Option R) → KT R (le5_35 (G5_35 FUEL)).exs → Option R := fun R x kc ke => p5_35 F27 R x.1 x.2.1 x.2.2.1 x.2.2.2.1 x.2.2.2.2.1 x.2.2.2.2.2.1 x.2.2.2.2.2.2.1 x.2.2.2.2.2.2.2.1 (fun x1 x2 x3 x4 x5 x6 x7 x8 => kc (x1, x2, x3, x4, x5, x6, x7, x8, ())) (fun y1 => ke.1 (y1, ())) (fun y1 y2 => ke.2.1 (y1, y2, ()))
theorem it5_35 : ∀ (n : Nat) (R : Type) (x : HT (le5_35 (G5_35 FUEL)).H) (ke : KT R (le5_35 (G5_35 FUEL)).exs), iter T5_35 n R x ke = G5_35 n R x.1 x.2.1 x.2.2.1 x.2.2.2.1 x.2.2.2.2.1 x.2.2.2.2.2.1 x.2.2.2.2.2.2.1 x.2.2.2.2.2.2.2.1 (fun y1 => ke.1 (y1, ())) (fun y1 y2 => ke.2.1 (y1, y2, ())) := by
  intro n
  induction n with
  | zero => intro R x ke; rfl
  | succ n ih =>
    intro R x ke
    show T5_35 R x (fun x' => iter T5_35 n R x' ke) ke = _
    rw [show (fun x' => iter T5_35 n R x' ke) = fun x => G5_35 n R x.1 x.2.1 x.2.2.1 x.2.2.2.1 x.2.2.2.2.1 x.2.2.2.2.2.1 x.2.2.2.2.2.2.1 x.2.2.2.2.2.2.2.1 (fun y1 => ke.1 (y1, ())) (fun y1 y2 => ke.2.1 (y1, y2, ())) from funext fun x' => ih R x' ke]
    rfl
theorem lok5_35 : (le5_35 (G5_35 FUEL)).OK Try.prog 0 157 (lcode 35 (codeOf Try.f5)) := fun R x ke r h =>
  iter_sound (fun R => e5 F17 F23 F25 F26 F27 F28 F29 (G5_8 FUEL) (G5_22 FUEL) (G5_35 FUEL) R) 0 157 (fun _ => rfl) (fun _ => rfl) (fun R => env5 R) mixed (by
    intro R
    rw [show loopsOf (lcode 35 (codeOf Try.f5)) = [] from by kernel_rfl]
    exact allM_nil) (T := T5_35) (fun R x kc ke => q5_35 F17 F23 F25 F26 F27 F28 F29 (G5_8 FUEL) (G5_22 FUEL) (G5_35 FUEL) R x kc ke) FUEL R x ke r ((it5_35 FUEL R x ke).trans h)
theorem ok5 : (en5 F5).OK Try.prog :=
  ent_ok (Ef := fun R => e5 F17 F23 F25 F26 F27 F28 F29 (G5_8 FUEL) (G5_22 FUEL) (G5_35 FUEL) R) (fun R => env5 R) mixed Try.func5 (body := codeOf Try.f5) (by kernel_rfl) (by kernel_rfl) (np := 0) (nt := 157) (fun _ => rfl) (fun _ => rfl) (by kernel_rfl) (res := res5) (by kernel_rfl) (fun _ => rfl) (fun _ => Nat.le_of_ble_eq_true rfl) (by
    intro R
    rw [show loopsOf (codeOf Try.f5) = [lcode 8 (codeOf Try.f5), lcode 22 (codeOf Try.f5), lcode 35 (codeOf Try.f5)] from by kernel_rfl]
    exact (allM_cons (loop_ok2 (e := le5_8 (G5_8 FUEL)) rfl rfl lok5_8) (allM_cons (loop_ok2 (e := le5_22 (G5_22 FUEL)) rfl rfl lok5_22) (allM_cons (loop_ok2 (e := le5_35 (G5_35 FUEL)) rfl rfl lok5_35) allM_nil)))) (fun R x k => q5 F17 F23 F25 F26 F27 F28 F29 (G5_8 FUEL) (G5_22 FUEL) (G5_35 FUEL) F5 R x k)
/-! drawlot/drawlotlaw13.LeadStakes -/
abbrev FT6 : Type 1 := (R : Type) → (List Int) → (Int × ((List Int) × (Int × ((List Int) × (Int × (Int × Unit)))))) → Int → (Bool → Option R) → Option R
def en6 (F : FT6) : Ent := ⟨6, [(false, (.sl (.int .u64))), (false, (.pair (.int .i64) (.pair (.sl (.int .u8)) (.pair (.int .u64) (.pair (.arr 32 (.int .u8)) (.pair (.int .u64) (.pair (.int .u64) .unit))))))), (false, (.int .u8))], [(false, .bool)], fun R x k => F R x.1 x.2.1 x.2.2.1 (fun y1 => k (y1, ()) ())⟩
def res6 : List (ResultVar × TypeId × Bool) := [(.tmp 6, 4, false)]
def e6 (F17 : FT17) (F18 : FT18) (F22 : FT22) (F23 : FT23) (R : Type) : Env R := ⟨TT, EQT, 0, 61, ownOf [], callOf [en17 F17, en18 F18, en22 F22, en23 F23] R, loopOf [] R⟩
def p6 (F17 : FT17) (F18 : FT18) (F22 : FT22) (F23 : FT23) : FT6 := fun R a0 a1 a2 k =>
F17 R  fun y1 =>
(match (!y1) with
| true => k false
| false => F18 R a0 a1 fun y2 =>
(match y2 with
| true => k true
| false => F22 R a0 fun y3 y4 =>
let v5 : Bool := (y4 != (0 : Int));
(match v5 with
| true => k true
| false => let v6 : Int := (Int.tmod a2 (64 : Int));
let v7 : Int := (IntKind.i64.wrap v6);
let v8 : Int := (IntKind.i64.wrap ((1 : Int) + v7));
F23 R y3 a1 v8 fun y9 y10 y11 =>
let v12 : Bool := (y11 != (0 : Int));
(match v12 with
| true => let v13 : Bool := (y9 == (0 : Int));
k v13
| false => let v14 : Bool := (decide (y9 ≥ (0 : Int)));
(match v14 with
| true => let v15 : Int := (List.length a0 : Int);
let v16 : Bool := (decide (y9 < v15));
(match v16 with
| true => (match (bnd y9 (List.length a0 : Int)) with
| true => let v17 : Int := (List.getD a0 (Int.toNat y9) (0 : Int));
let v18 : Bool := (decide (v17 > (0 : Int)));
(match v18 with
| true => let v19 : Bool := (decide (y10.2.2.2.2.2.1 ≥ a1.2.2.2.2.2.1));
k v19
| false => k false)
| false => none)
| false => k false)
| false => k false)))))
theorem q6 (F17 : FT17) (F18 : FT18) (F22 : FT22) (F23 : FT23) (F : FT6) (R : Type) (x : AT (en6 F).ins) (k : RT (en6 F).outs → PT (en6 F).ins → Option R) :
  xfun (e6 F17 F18 F22 F23 R) (codeOf Try.f6) res6 (avs (en6 F).ins x) (finK (en6 F).outs (en6 F).ins k) = p6 F17 F18 F22 F23 R x.1 x.2.1 x.2.2.1 (fun y1 => k (y1, ()) ()) := by kernel_rfl
noncomputable def F6 : FT6 := p6 F17 F18 F22 F23
theorem env6 (R : Type) : EnvOK Try.prog (e6 F17 F18 F22 F23 R) := ⟨tabOK, eqOK, callOf_ok (allE_cons ok17 (allE_cons ok18 (allE_cons ok22 (allE_cons ok23 allE_nil))))⟩
theorem ok6 : (en6 F6).OK Try.prog :=
  ent_ok (Ef := fun R => e6 F17 F18 F22 F23 R) (fun R => env6 R) mixed Try.func6 (body := codeOf Try.f6) (by kernel_rfl) (by kernel_rfl) (np := 0) (nt := 61) (fun _ => rfl) (fun _ => rfl) (by kernel_rfl) (res := res6) (by kernel_rfl) (fun _ => rfl) (fun _ => Nat.le_of_ble_eq_true rfl) (by
    intro R
    rw [show loopsOf (codeOf Try.f6) = [] from by kernel_rfl]
    exact allM_nil) (fun R x k => q6 F17 F18 F22 F23 F6 R x k)
end Go.PG
