/- A part of the proof over this seat (own work; the framework that reads a Go function as a pure one, or a use of it). No condition of its own. -/
import Derived.Test.YtapdakmnlclboaaCC4
import Derived.Test.YtapdakmnlclboaaProg
import Derived.KernelRfl
set_option linter.unusedVariables false
set_option linter.unusedSimpArgs false
set_option linter.unusedSectionVars false
set_option maxRecDepth 100000
namespace Go.PG
open Go.Proofs
abbrev FT72 : Type 1 := (R : Type) → (List Int) → (List Int) → ((List Int) → Int → Option R) → Option R
def en72 (F : FT72) : Ent := ⟨72, [(false, (.sl (.int .u32))), (false, (.sl (.int .u32)))], [(false, (.sl (.int .u32))), (false, (.int .i64))], fun R x k => F R x.1 x.2.1 (fun y1 y2 => k (y1, y2, ()) ())⟩
def res72 : List (ResultVar × TypeId × Bool) := [(.tmp 4, 54, false), (.tmp 5, 29, false)]
abbrev LT72_8 : Type 1 := (R : Type) → (List Int) → Int → (List Int) → Int → Int → (List Int) → ((List Int) → Option R) → Option R
def le72_8 (L : LT72_8) : LEnt := ⟨8, [.val 1 (.sl (.int .u32)), .fix 6 (.own 1 0), .val 7 (.int .i64), .val 25 (.sl (.int .u32)), .val 26 (.int .i64), .val 27 (.int .i64), .row 1 (.int .u32) false], 2, [(.exit 1, [.fix 6 (.own 1 0), .row 1 (.int .u32) false])], fun R x ke => L R x.1 x.2.1 x.2.2.1 x.2.2.2.1 x.2.2.2.2.1 x.2.2.2.2.2.1 (fun y1 => ke.1 (y1, ()))⟩
noncomputable def e72 (F89 : FT89) (F90 : FT90) (F91 : FT91) (L8 : LT72_8) (R : Type) : Env R := ⟨TT, EQT, 0, 57, ownOf [], callOf [en89 F89, en90 F90, en91 F91] R, loopOf [le72_8 L8] R, [], inlOf []⟩
def p72_8 : (R : Type) → (List Int) → Int → (List Int) → Int → Int → (List Int) → ((List Int) → Int → (List Int) → Int → Int → (List Int) → Option R) → ((List Int) → Option R) → Option R := fun R x1 x2 x3 x4 x5 x6 kc k0 =>
let v7 := (decide (x5 < x4));
(match v7 with
| true => (match (bnd x5 (List.length x3 : Int)) with
| true => let v8 := (List.getD x3 (Int.toNat x5) (0 : Int));
let v9 := (IntKind.i64.wrap v8);
let v10 := (IntKind.i64.wrap (v9 + x2));
let v11 := (List.length x1 : Int);
let v12 := (decide (x5 < v11));
(match v12 with
| true => (match (bnd x5 (List.length x1 : Int)) with
| true => let v13 := (List.getD x1 (Int.toNat x5) (0 : Int));
let v14 := (IntKind.i64.wrap v13);
let v15 := (IntKind.i64.wrap (v10 - v14));
let v16 := (IntKind.u32.wrap v15);
(match (bnd x5 (List.length x6 : Int)) with
| true => let v17 : (List Int) := (List.set x6 (Int.toNat x5) v16);
let v18 := (ishr .i64 v15 (32 : Int));
let v19 := (IntKind.i64.wrap (x5 + (1 : Int)));
kc x1 v18 x3 x4 v19 v17
| false => none)
| false => none)
| false => let v20 := (IntKind.u32.wrap v10);
(match (bnd x5 (List.length x6 : Int)) with
| true => let v21 : (List Int) := (List.set x6 (Int.toNat x5) v20);
let v22 := (ishr .i64 v10 (32 : Int));
let v23 := (IntKind.i64.wrap (x5 + (1 : Int)));
kc x1 v22 x3 x4 v23 v21
| false => none))
| false => none)
| false => k0 x6)
theorem q72_8 (F89 : FT89) (F90 : FT90) (F91 : FT91) (L8 : LT72_8) (R : Type) (x : HT (le72_8 L8).H) (kc : HT (le72_8 L8).H → Option R) (ke : KT R (le72_8 L8).exs) :
  exec (e72 F89 F90 F91 L8 R) (lcode 8 (codeOf Try.f72)) (stOf (le72_8 L8).H x 2) (roundK (le72_8 L8).H (le72_8 L8).exs kc ke) =
    p72_8 R x.1 x.2.1 x.2.2.1 x.2.2.2.1 x.2.2.2.2.1 x.2.2.2.2.2.1 (fun x1 x2 x3 x4 x5 x6 => kc (x1, x2, x3, x4, x5, x6, ())) (fun y1 => ke.1 (y1, ())) := by kernel_rfl
noncomputable def G72_8 : Nat → LT72_8
  | 0 => fun _ _ _ _ _ _ _ _ => none
  | n + 1 => fun R x1 x2 x3 x4 x5 x6 k0 => p72_8 R x1 x2 x3 x4 x5 x6 (fun x1 x2 x3 x4 x5 x6 => G72_8 n R x1 x2 x3 x4 x5 x6 k0) k0
def p72 (F89 : FT89) (F90 : FT90) (F91 : FT91) (L8 : LT72_8) : FT72 := fun R a0 a1 k =>
let v1 : (List (List Int)) := ([a0, a1] : (List (List Int)));
F90 R v1 fun y2 =>
(match (!y2) with
| true => k ([] : (List Int)) (1 : Int)
| false => F91 R a0 a1 fun y3 =>
let v4 := (decide (y3 < (0 : Int)));
(match v4 with
| true => k ([] : (List Int)) (12 : Int)
| false => let v5 := (List.length a0 : Int);
(match (decide (0 ≤ v5 ∧ v5 ≤ v5 ∧ v5 ≤ (35184372088832 : Int))) with
| true => let v6 : (List Int) := (List.replicate (Int.toNat v5) (0 : Int));
let v7 := (List.length a0 : Int);
L8 R a1 (0 : Int) a0 v7 (0 : Int) v6 (fun x8 =>
F89 R x8 fun y9 =>
k y9 (0 : Int))
| false => none)))
theorem q72 (F89 : FT89) (F90 : FT90) (F91 : FT91) (L8 : LT72_8) (F : FT72) (R : Type) (x : AT (en72 F).ins) (k : RT (en72 F).outs → PT (en72 F).ins → Option R) :
  xfun (e72 F89 F90 F91 L8 R) (codeOf Try.f72) res72 (avs (en72 F).ins x) (finK (en72 F).outs (en72 F).ins k) = p72 F89 F90 F91 L8 R x.1 x.2.1 (fun y1 y2 => k (y1, y2, ()) ()) := by kernel_rfl
noncomputable def F72 : FT72 := p72 F89 F90 F91 (G72_8 FUEL)
theorem env72 (R : Type) : EnvOK Try.prog (e72 F89 F90 F91 (G72_8 FUEL) R) := ⟨tabOK, eqOK, callOf_ok (allE_cons ok89 (allE_cons ok90 (allE_cons ok91 allE_nil))), noIns, inlOK_nil⟩
noncomputable def T72_8 : (R : Type) → HT (le72_8 (G72_8 FUEL)).H → (HT (le72_8 (G72_8 FUEL)).H → Option R) → KT R (le72_8 (G72_8 FUEL)).exs → Option R := fun R x kc ke => p72_8 R x.1 x.2.1 x.2.2.1 x.2.2.2.1 x.2.2.2.2.1 x.2.2.2.2.2.1 (fun x1 x2 x3 x4 x5 x6 => kc (x1, x2, x3, x4, x5, x6, ())) (fun y1 => ke.1 (y1, ()))
theorem it72_8 : ∀ (n : Nat) (R : Type) (x : HT (le72_8 (G72_8 FUEL)).H) (ke : KT R (le72_8 (G72_8 FUEL)).exs), iter T72_8 n R x ke = G72_8 n R x.1 x.2.1 x.2.2.1 x.2.2.2.1 x.2.2.2.2.1 x.2.2.2.2.2.1 (fun y1 => ke.1 (y1, ())) := by
  intro n
  induction n with
  | zero => intro R x ke; rfl
  | succ n ih =>
    intro R x ke
    show T72_8 R x (fun x' => iter T72_8 n R x' ke) ke = _
    rw [show (fun x' => iter T72_8 n R x' ke) = fun x => G72_8 n R x.1 x.2.1 x.2.2.1 x.2.2.2.1 x.2.2.2.2.1 x.2.2.2.2.2.1 (fun y1 => ke.1 (y1, ())) from funext fun x' => ih R x' ke]
    rfl
theorem lok72_8 : (le72_8 (G72_8 FUEL)).OK Try.prog 0 57 (lcode 8 (codeOf Try.f72)) := fun R x ke r h =>
  iter_sound (fun R => e72 F89 F90 F91 (G72_8 FUEL) R) 0 57 (fun _ => rfl) (fun _ => rfl) (fun R => env72 R) mixed (by
    intro R
    rw [show loopsOf (lcode 8 (codeOf Try.f72)) = [] from by kernel_rfl]
    exact allM_nil) (T := T72_8) (fun R x kc ke => q72_8 F89 F90 F91 (G72_8 FUEL) R x kc ke) FUEL R x ke r ((it72_8 FUEL R x ke).trans h)
theorem ok72 : (en72 F72).OK Try.prog :=
  ent_ok (Ef := fun R => e72 F89 F90 F91 (G72_8 FUEL) R) (fun R => env72 R) mixed Try.func72 (body := codeOf Try.f72) (by kernel_rfl) (by kernel_rfl) (np := 0) (nt := 57) (fun _ => rfl) (fun _ => rfl) (by kernel_rfl) (res := res72) (by kernel_rfl) (fun _ => rfl) (fun _ => Nat.le_of_ble_eq_true rfl) (by
    intro R
    rw [show loopsOf (codeOf Try.f72) = [lcode 8 (codeOf Try.f72)] from by kernel_rfl]
    exact (allM_cons (loop_ok2 (e := le72_8 (G72_8 FUEL)) rfl rfl lok72_8) allM_nil)) (fun R x k => q72 F89 F90 F91 (G72_8 FUEL) F72 R x k)
abbrev FT94 : Type 1 := (R : Type) → (List Int) → (List Int) → ((List Int) → Option R) → Option R
def en94 (F : FT94) : Ent := ⟨94, [(false, (.sl (.int .u32))), (false, (.sl (.int .u32)))], [(false, (.sl (.int .u32)))], fun R x k => F R x.1 x.2.1 (fun y1 => k (y1, ()) ())⟩
def res94 : List (ResultVar × TypeId × Bool) := [(.tmp 4, 54, false)]
abbrev LT94_3 : Type 1 := (R : Type) → (List Int) → (List Int) → Int → Int → (List Int) → ((List Int) → Option R) → Option R
def le94_3 (L : LT94_3) : LEnt := ⟨3, [.val 1 (.sl (.int .u32)), .fix 5 (.own 0 0), .val 17 (.sl (.int .u32)), .val 18 (.int .i64), .val 19 (.int .i64), .row 0 (.int .u32) false], 1, [(.exit 0, [.fix 5 (.own 0 0), .row 0 (.int .u32) false])], fun R x ke => L R x.1 x.2.1 x.2.2.1 x.2.2.2.1 x.2.2.2.2.1 (fun y1 => ke.1 (y1, ()))⟩
abbrev LT94_7 : Type 1 := (R : Type) → (List Int) → Int → Int → Int → (List Int) → Int → Int → (List Int) → Int → Int → (List Int) → ((List Int) → Int → Int → (List Int) → Int → Int → (List Int) → Option R) → Option R
def le94_7 (L : LT94_7) : LEnt := ⟨7, [.val 1 (.sl (.int .u32)), .fix 5 (.own 0 0), .val 6 (.int .i64), .val 7 (.int .u32), .val 8 (.int .u64), .val 17 (.sl (.int .u32)), .val 18 (.int .i64), .val 19 (.int .i64), .val 24 (.sl (.int .u32)), .val 25 (.int .i64), .val 26 (.int .i64), .row 0 (.int .u32) false], 1, [(.exit 2, [.val 1 (.sl (.int .u32)), .fix 5 (.own 0 0), .val 6 (.int .i64), .val 8 (.int .u64), .val 17 (.sl (.int .u32)), .val 18 (.int .i64), .val 19 (.int .i64), .row 0 (.int .u32) false])], fun R x ke => L R x.1 x.2.1 x.2.2.1 x.2.2.2.1 x.2.2.2.2.1 x.2.2.2.2.2.1 x.2.2.2.2.2.2.1 x.2.2.2.2.2.2.2.1 x.2.2.2.2.2.2.2.2.1 x.2.2.2.2.2.2.2.2.2.1 x.2.2.2.2.2.2.2.2.2.2.1 (fun y1 y2 y3 y4 y5 y6 y7 => ke.1 (y1, y2, y3, y4, y5, y6, y7, ()))⟩
noncomputable def e94 (F89 : FT89) (L3 : LT94_3) (L7 : LT94_7) (R : Type) : Env R := ⟨TT, EQT, 0, 67, ownOf [], callOf [en89 F89] R, loopOf [le94_3 L3, le94_7 L7] R, [], inlOf []⟩
def p94_7 : (R : Type) → (List Int) → Int → Int → Int → (List Int) → Int → Int → (List Int) → Int → Int → (List Int) → ((List Int) → Int → Int → Int → (List Int) → Int → Int → (List Int) → Int → Int → (List Int) → Option R) → ((List Int) → Int → Int → (List Int) → Int → Int → (List Int) → Option R) → Option R := fun R x1 x2 x3 x4 x5 x6 x7 x8 x9 x10 x11 kc k0 =>
let v12 := (decide (x10 < x9));
(match v12 with
| true => (match (bnd x10 (List.length x8 : Int)) with
| true => let v13 := (List.getD x8 (Int.toNat x10) (0 : Int));
let v14 := (IntKind.u64.wrap x3);
let v15 := (IntKind.u64.wrap v13);
let v16 := (IntKind.u64.wrap (v14 * v15));
let v17 := (IntKind.i64.wrap (x2 + x10));
(match (bnd v17 (List.length x11 : Int)) with
| true => let v18 := (List.getD x11 (Int.toNat v17) (0 : Int));
let v19 := (IntKind.u64.wrap v18);
let v20 := (IntKind.u64.wrap (v16 + v19));
let v21 := (IntKind.u64.wrap (x4 + v20));
let v22 := (IntKind.i64.wrap (x2 + x10));
let v23 := (IntKind.u32.wrap v21);
(match (bnd v22 (List.length x11 : Int)) with
| true => let v24 : (List Int) := (List.set x11 (Int.toNat v22) v23);
let v25 := (ishr .u64 v21 (32 : Int));
let v26 := (IntKind.i64.wrap (x10 + (1 : Int)));
kc x1 x2 x3 v25 x5 x6 x7 x8 x9 v26 v24
| false => none)
| false => none)
| false => none)
| false => k0 x1 x2 x4 x5 x6 x7 x11)
theorem q94_7 (F89 : FT89) (L3 : LT94_3) (L7 : LT94_7) (R : Type) (x : HT (le94_7 L7).H) (kc : HT (le94_7 L7).H → Option R) (ke : KT R (le94_7 L7).exs) :
  exec (e94 F89 L3 L7 R) (lcode 7 (codeOf Try.f94)) (stOf (le94_7 L7).H x 1) (roundK (le94_7 L7).H (le94_7 L7).exs kc ke) =
    p94_7 R x.1 x.2.1 x.2.2.1 x.2.2.2.1 x.2.2.2.2.1 x.2.2.2.2.2.1 x.2.2.2.2.2.2.1 x.2.2.2.2.2.2.2.1 x.2.2.2.2.2.2.2.2.1 x.2.2.2.2.2.2.2.2.2.1 x.2.2.2.2.2.2.2.2.2.2.1 (fun x1 x2 x3 x4 x5 x6 x7 x8 x9 x10 x11 => kc (x1, x2, x3, x4, x5, x6, x7, x8, x9, x10, x11, ())) (fun y1 y2 y3 y4 y5 y6 y7 => ke.1 (y1, y2, y3, y4, y5, y6, y7, ())) := by kernel_rfl
noncomputable def G94_7 : Nat → LT94_7
  | 0 => fun _ _ _ _ _ _ _ _ _ _ _ _ _ => none
  | n + 1 => fun R x1 x2 x3 x4 x5 x6 x7 x8 x9 x10 x11 k0 => p94_7 R x1 x2 x3 x4 x5 x6 x7 x8 x9 x10 x11 (fun x1 x2 x3 x4 x5 x6 x7 x8 x9 x10 x11 => G94_7 n R x1 x2 x3 x4 x5 x6 x7 x8 x9 x10 x11 k0) k0
def p94_3 (L7 : LT94_7) : (R : Type) → (List Int) → (List Int) → Int → Int → (List Int) → ((List Int) → (List Int) → Int → Int → (List Int) → Option R) → ((List Int) → Option R) → Option R := fun R x1 x2 x3 x4 x5 kc k0 =>
let v6 := (decide (x4 < x3));
(match v6 with
| true => (match (bnd x4 (List.length x2 : Int)) with
| true => let v7 := (List.getD x2 (Int.toNat x4) (0 : Int));
let v8 := (List.length x1 : Int);
L7 R x1 x4 v7 (0 : Int) x2 x3 x4 x1 v8 (0 : Int) x5 (fun x9 x10 x11 x12 x13 x14 x15 =>
let v16 := (List.length x9 : Int);
let v17 := (IntKind.i64.wrap (x10 + v16));
let v18 := (IntKind.u32.wrap x11);
(match (bnd v17 (List.length x15 : Int)) with
| true => let v19 : (List Int) := (List.set x15 (Int.toNat v17) v18);
let v20 := (IntKind.i64.wrap (x14 + (1 : Int)));
kc x9 x12 x13 v20 v19
| false => none))
| false => none)
| false => k0 x5)
theorem q94_3 (F89 : FT89) (L3 : LT94_3) (L7 : LT94_7) (R : Type) (x : HT (le94_3 L3).H) (kc : HT (le94_3 L3).H → Option R) (ke : KT R (le94_3 L3).exs) :
  exec (e94 F89 L3 L7 R) (lcode 3 (codeOf Try.f94)) (stOf (le94_3 L3).H x 1) (roundK (le94_3 L3).H (le94_3 L3).exs kc ke) =
    p94_3 L7 R x.1 x.2.1 x.2.2.1 x.2.2.2.1 x.2.2.2.2.1 (fun x1 x2 x3 x4 x5 => kc (x1, x2, x3, x4, x5, ())) (fun y1 => ke.1 (y1, ())) := by kernel_rfl
noncomputable def G94_3 : Nat → LT94_3
  | 0 => fun _ _ _ _ _ _ _ => none
  | n + 1 => fun R x1 x2 x3 x4 x5 k0 => p94_3 (G94_7 FUEL) R x1 x2 x3 x4 x5 (fun x1 x2 x3 x4 x5 => G94_3 n R x1 x2 x3 x4 x5 k0) k0
def p94 (F89 : FT89) (L3 : LT94_3) : FT94 := fun R a0 a1 k =>
let v1 := (List.length a0 : Int);
let v2 := (List.length a1 : Int);
let v3 := (IntKind.i64.wrap (v1 + v2));
(match (decide (0 ≤ v3 ∧ v3 ≤ v3 ∧ v3 ≤ (35184372088832 : Int))) with
| true => let v4 : (List Int) := (List.replicate (Int.toNat v3) (0 : Int));
let v5 := (List.length a0 : Int);
L3 R a1 a0 v5 (0 : Int) v4 (fun x6 =>
F89 R x6 fun y7 =>
k y7)
| false => none)
theorem q94 (F89 : FT89) (L3 : LT94_3) (L7 : LT94_7) (F : FT94) (R : Type) (x : AT (en94 F).ins) (k : RT (en94 F).outs → PT (en94 F).ins → Option R) :
  xfun (e94 F89 L3 L7 R) (codeOf Try.f94) res94 (avs (en94 F).ins x) (finK (en94 F).outs (en94 F).ins k) = p94 F89 L3 R x.1 x.2.1 (fun y1 => k (y1, ()) ()) := by kernel_rfl
noncomputable def F94 : FT94 := p94 F89 (G94_3 FUEL)
theorem env94 (R : Type) : EnvOK Try.prog (e94 F89 (G94_3 FUEL) (G94_7 FUEL) R) := ⟨tabOK, eqOK, callOf_ok (allE_cons ok89 allE_nil), noIns, inlOK_nil⟩
noncomputable def T94_7 : (R : Type) → HT (le94_7 (G94_7 FUEL)).H → (HT (le94_7 (G94_7 FUEL)).H → Option R) → KT R (le94_7 (G94_7 FUEL)).exs → Option R := fun R x kc ke => p94_7 R x.1 x.2.1 x.2.2.1 x.2.2.2.1 x.2.2.2.2.1 x.2.2.2.2.2.1 x.2.2.2.2.2.2.1 x.2.2.2.2.2.2.2.1 x.2.2.2.2.2.2.2.2.1 x.2.2.2.2.2.2.2.2.2.1 x.2.2.2.2.2.2.2.2.2.2.1 (fun x1 x2 x3 x4 x5 x6 x7 x8 x9 x10 x11 => kc (x1, x2, x3, x4, x5, x6, x7, x8, x9, x10, x11, ())) (fun y1 y2 y3 y4 y5 y6 y7 => ke.1 (y1, y2, y3, y4, y5, y6, y7, ()))
theorem it94_7 : ∀ (n : Nat) (R : Type) (x : HT (le94_7 (G94_7 FUEL)).H) (ke : KT R (le94_7 (G94_7 FUEL)).exs), iter T94_7 n R x ke = G94_7 n R x.1 x.2.1 x.2.2.1 x.2.2.2.1 x.2.2.2.2.1 x.2.2.2.2.2.1 x.2.2.2.2.2.2.1 x.2.2.2.2.2.2.2.1 x.2.2.2.2.2.2.2.2.1 x.2.2.2.2.2.2.2.2.2.1 x.2.2.2.2.2.2.2.2.2.2.1 (fun y1 y2 y3 y4 y5 y6 y7 => ke.1 (y1, y2, y3, y4, y5, y6, y7, ())) := by
  intro n
  induction n with
  | zero => intro R x ke; rfl
  | succ n ih =>
    intro R x ke
    show T94_7 R x (fun x' => iter T94_7 n R x' ke) ke = _
    rw [show (fun x' => iter T94_7 n R x' ke) = fun x => G94_7 n R x.1 x.2.1 x.2.2.1 x.2.2.2.1 x.2.2.2.2.1 x.2.2.2.2.2.1 x.2.2.2.2.2.2.1 x.2.2.2.2.2.2.2.1 x.2.2.2.2.2.2.2.2.1 x.2.2.2.2.2.2.2.2.2.1 x.2.2.2.2.2.2.2.2.2.2.1 (fun y1 y2 y3 y4 y5 y6 y7 => ke.1 (y1, y2, y3, y4, y5, y6, y7, ())) from funext fun x' => ih R x' ke]
    rfl
theorem lok94_7 : (le94_7 (G94_7 FUEL)).OK Try.prog 0 67 (lcode 7 (codeOf Try.f94)) := fun R x ke r h =>
  iter_sound (fun R => e94 F89 (G94_3 FUEL) (G94_7 FUEL) R) 0 67 (fun _ => rfl) (fun _ => rfl) (fun R => env94 R) mixed (by
    intro R
    rw [show loopsOf (lcode 7 (codeOf Try.f94)) = [] from by kernel_rfl]
    exact allM_nil) (T := T94_7) (fun R x kc ke => q94_7 F89 (G94_3 FUEL) (G94_7 FUEL) R x kc ke) FUEL R x ke r ((it94_7 FUEL R x ke).trans h)
noncomputable def T94_3 : (R : Type) → HT (le94_3 (G94_3 FUEL)).H → (HT (le94_3 (G94_3 FUEL)).H → Option R) → KT R (le94_3 (G94_3 FUEL)).exs → Option R := fun R x kc ke => p94_3 (G94_7 FUEL) R x.1 x.2.1 x.2.2.1 x.2.2.2.1 x.2.2.2.2.1 (fun x1 x2 x3 x4 x5 => kc (x1, x2, x3, x4, x5, ())) (fun y1 => ke.1 (y1, ()))
theorem it94_3 : ∀ (n : Nat) (R : Type) (x : HT (le94_3 (G94_3 FUEL)).H) (ke : KT R (le94_3 (G94_3 FUEL)).exs), iter T94_3 n R x ke = G94_3 n R x.1 x.2.1 x.2.2.1 x.2.2.2.1 x.2.2.2.2.1 (fun y1 => ke.1 (y1, ())) := by
  intro n
  induction n with
  | zero => intro R x ke; rfl
  | succ n ih =>
    intro R x ke
    show T94_3 R x (fun x' => iter T94_3 n R x' ke) ke = _
    rw [show (fun x' => iter T94_3 n R x' ke) = fun x => G94_3 n R x.1 x.2.1 x.2.2.1 x.2.2.2.1 x.2.2.2.2.1 (fun y1 => ke.1 (y1, ())) from funext fun x' => ih R x' ke]
    rfl
theorem lok94_3 : (le94_3 (G94_3 FUEL)).OK Try.prog 0 67 (lcode 3 (codeOf Try.f94)) := fun R x ke r h =>
  iter_sound (fun R => e94 F89 (G94_3 FUEL) (G94_7 FUEL) R) 0 67 (fun _ => rfl) (fun _ => rfl) (fun R => env94 R) mixed (by
    intro R
    rw [show loopsOf (lcode 3 (codeOf Try.f94)) = [lcode 7 (codeOf Try.f94)] from by kernel_rfl]
    exact (allM_cons (loop_ok2 (e := le94_7 (G94_7 FUEL)) rfl rfl lok94_7) allM_nil)) (T := T94_3) (fun R x kc ke => q94_3 F89 (G94_3 FUEL) (G94_7 FUEL) R x kc ke) FUEL R x ke r ((it94_3 FUEL R x ke).trans h)
theorem ok94 : (en94 F94).OK Try.prog :=
  ent_ok (Ef := fun R => e94 F89 (G94_3 FUEL) (G94_7 FUEL) R) (fun R => env94 R) mixed Try.func94 (body := codeOf Try.f94) (by kernel_rfl) (by kernel_rfl) (np := 0) (nt := 67) (fun _ => rfl) (fun _ => rfl) (by kernel_rfl) (res := res94) (by kernel_rfl) (fun _ => rfl) (fun _ => Nat.le_of_ble_eq_true rfl) (by
    intro R
    rw [show loopsOf (codeOf Try.f94) = [lcode 3 (codeOf Try.f94)] from by kernel_rfl]
    exact (allM_cons (loop_ok2 (e := le94_3 (G94_3 FUEL)) rfl rfl lok94_3) allM_nil)) (fun R x k => q94 F89 (G94_3 FUEL) (G94_7 FUEL) F94 R x k)
abbrev FT93094 : Type 1 := (R : Type) → (List Int) → (List (List Int)) → ((List Int) → Int → Option R) → Option R
def en93094 (F : FT93094) : EntF := ⟨92, 94, [(false, (.sl (.int .u32))), (false, (.sl (.sl (.int .u32))))], [(false, (.sl (.int .u32))), (false, (.int .i64))], fun R x k => F R x.1 x.2.1 (fun y1 y2 => k (y1, y2, ()) ())⟩
def res93094 : List (ResultVar × TypeId × Bool) := [(.tmp 6, 54, false), (.tmp 7, 29, false)]
abbrev LT93094_4 : Type 1 := (R : Type) → (List Int) → (List (List Int)) → Int → Int → (Int → Option R) → ((List Int) → Option R) → Option R
def le93094_4 (L : LT93094_4) : LEnt := ⟨4, [.val 0 (.sl (.int .u32)), .fix 2 (.fn 94), .val 13 (.sl (.sl (.int .u32))), .val 14 (.int .i64), .val 15 (.int .i64)], 0, [(.ret, [.fix 6 .nil, .val 7 (.int .i64)]), (.exit 0, [.val 0 (.sl (.int .u32))])], fun R x ke => L R x.1 x.2.1 x.2.2.1 x.2.2.2.1 (fun y1 => ke.1 (y1, ())) (fun y1 => ke.2.1 (y1, ()))⟩
noncomputable def e93094 (F90 : FT90) (F94 : FT94) (L4 : LT93094_4) (R : Type) : Env R := ⟨TT, EQT, 0, 28, ownOf [], callOf [en90 F90, en94 F94] R, loopOf [le93094_4 L4] R, [], inlOf []⟩
def p93094_4 (F94 : FT94) : (R : Type) → (List Int) → (List (List Int)) → Int → Int → ((List Int) → (List (List Int)) → Int → Int → Option R) → (Int → Option R) → ((List Int) → Option R) → Option R := fun R x1 x2 x3 x4 kc k0 k1 =>
let v5 := (decide (x4 < x3));
(match v5 with
| true => (match (bnd x4 (List.length x2 : Int)) with
| true => let v6 : (List Int) := (List.getD x2 (Int.toNat x4) ([] : (List Int)));
F94 R x1 v6 fun y7 =>
let v8 := (List.length y7 : Int);
let v9 := (decide (v8 > (256 : Int)));
(match v9 with
| true => k0 (11 : Int)
| false => let v10 := (IntKind.i64.wrap (x4 + (1 : Int)));
kc y7 x2 x3 v10)
| false => none)
| false => k1 x1)
theorem q93094_4 (F90 : FT90) (F94 : FT94) (L4 : LT93094_4) (R : Type) (x : HT (le93094_4 L4).H) (kc : HT (le93094_4 L4).H → Option R) (ke : KT R (le93094_4 L4).exs) :
  exec (e93094 F90 F94 L4 R) (lcode 4 (codeOf Try.f92)) (stOf (le93094_4 L4).H x 0) (roundK (le93094_4 L4).H (le93094_4 L4).exs kc ke) =
    p93094_4 F94 R x.1 x.2.1 x.2.2.1 x.2.2.2.1 (fun x1 x2 x3 x4 => kc (x1, x2, x3, x4, ())) (fun y1 => ke.1 (y1, ())) (fun y1 => ke.2.1 (y1, ())) := by kernel_rfl
noncomputable def G93094_4 : Nat → LT93094_4
  | 0 => fun _ _ _ _ _ _ _ => none
  | n + 1 => fun R x1 x2 x3 x4 k0 k1 => p93094_4 F94 R x1 x2 x3 x4 (fun x1 x2 x3 x4 => G93094_4 n R x1 x2 x3 x4 k0 k1) k0 k1
def p93094 (F90 : FT90) (L4 : LT93094_4) : FT93094 := fun R a0 a1 k =>
F90 R a1 fun y1 =>
(match (!y1) with
| true => k ([] : (List Int)) (1 : Int)
| false => let v2 := (List.length a1 : Int);
L4 R a0 a1 v2 (0 : Int) (fun x3 =>
k ([] : (List Int)) x3) (fun x4 =>
k x4 (0 : Int)))
theorem q93094 (F90 : FT90) (F94 : FT94) (L4 : LT93094_4) (F : FT93094) (R : Type) (x : AT (en93094 F).ins) (k : RT (en93094 F).outs → PT (en93094 F).ins → Option R) :
  xfun (e93094 F90 F94 L4 R) (codeOf Try.f92) res93094 (avs (en93094 F).ins x ++ [AV.fn 94]) (finK (en93094 F).outs (en93094 F).ins k) = p93094 F90 L4 R x.1 x.2.1 (fun y1 y2 => k (y1, y2, ()) ()) := by kernel_rfl
noncomputable def F93094 : FT93094 := p93094 F90 (G93094_4 FUEL)
theorem env93094 (R : Type) : EnvOK Try.prog (e93094 F90 F94 (G93094_4 FUEL) R) := ⟨tabOK, eqOK, callOf_ok (allE_cons ok90 (allE_cons ok94 allE_nil)), noIns, inlOK_nil⟩
noncomputable def T93094_4 : (R : Type) → HT (le93094_4 (G93094_4 FUEL)).H → (HT (le93094_4 (G93094_4 FUEL)).H → Option R) → KT R (le93094_4 (G93094_4 FUEL)).exs → Option R := fun R x kc ke => p93094_4 F94 R x.1 x.2.1 x.2.2.1 x.2.2.2.1 (fun x1 x2 x3 x4 => kc (x1, x2, x3, x4, ())) (fun y1 => ke.1 (y1, ())) (fun y1 => ke.2.1 (y1, ()))
theorem it93094_4 : ∀ (n : Nat) (R : Type) (x : HT (le93094_4 (G93094_4 FUEL)).H) (ke : KT R (le93094_4 (G93094_4 FUEL)).exs), iter T93094_4 n R x ke = G93094_4 n R x.1 x.2.1 x.2.2.1 x.2.2.2.1 (fun y1 => ke.1 (y1, ())) (fun y1 => ke.2.1 (y1, ())) := by
  intro n
  induction n with
  | zero => intro R x ke; rfl
  | succ n ih =>
    intro R x ke
    show T93094_4 R x (fun x' => iter T93094_4 n R x' ke) ke = _
    rw [show (fun x' => iter T93094_4 n R x' ke) = fun x => G93094_4 n R x.1 x.2.1 x.2.2.1 x.2.2.2.1 (fun y1 => ke.1 (y1, ())) (fun y1 => ke.2.1 (y1, ())) from funext fun x' => ih R x' ke]
    rfl
theorem lok93094_4 : (le93094_4 (G93094_4 FUEL)).OK Try.prog 0 28 (lcode 4 (codeOf Try.f92)) := fun R x ke r h =>
  iter_sound (fun R => e93094 F90 F94 (G93094_4 FUEL) R) 0 28 (fun _ => rfl) (fun _ => rfl) (fun R => env93094 R) mixed (by
    intro R
    rw [show loopsOf (lcode 4 (codeOf Try.f92)) = [] from by kernel_rfl]
    exact allM_nil) (T := T93094_4) (fun R x kc ke => q93094_4 F90 F94 (G93094_4 FUEL) R x kc ke) FUEL R x ke r ((it93094_4 FUEL R x ke).trans h)
theorem ok93094 : (en93094 F93094).OK Try.prog :=
  ent_okF (Ef := fun R => e93094 F90 F94 (G93094_4 FUEL) R) (fun R => env93094 R) mixed Try.func92 (body := codeOf Try.f92) (by kernel_rfl) (by kernel_rfl) (np := 0) (nt := 28) (fun _ => rfl) (fun _ => rfl) (by kernel_rfl) (res := res93094) (by kernel_rfl) (fun _ => rfl) (fun _ => Nat.le_of_ble_eq_true rfl) (by
    intro R
    rw [show loopsOf (codeOf Try.f92) = [lcode 4 (codeOf Try.f92)] from by kernel_rfl]
    exact (allM_cons (loop_ok2 (e := le93094_4 (G93094_4 FUEL)) rfl rfl lok93094_4) allM_nil)) (fun R x k => q93094 F90 F94 (G93094_4 FUEL) F93094 R x k)
abbrev FT74 : Type 1 := (R : Type) → (List (List Int)) → ((List Int) → Int → Option R) → Option R
def en74 (F : FT74) : Ent := ⟨74, [(false, (.sl (.sl (.int .u32))))], [(false, (.sl (.int .u32))), (false, (.int .i64))], fun R x k => F R x.1 (fun y1 y2 => k (y1, y2, ()) ())⟩
def res74 : List (ResultVar × TypeId × Bool) := [(.tmp 2, 54, false), (.tmp 3, 29, false)]
noncomputable def e74 (F71 : FT71) (F93094 : FT93094) (R : Type) : Env R := ⟨TT, EQT, 0, 9, ownOf [], callOfF [en93094 F93094] [en71 F71] R, loopOf [] R, [], inlOf []⟩
def p74 (F71 : FT71) (F93094 : FT93094) : FT74 := fun R a0 k =>
F71 R (1 : Int) fun y1 =>
F93094 R y1 a0 fun y2 y3 =>
k y2 y3
theorem q74 (F71 : FT71) (F93094 : FT93094) (F : FT74) (R : Type) (x : AT (en74 F).ins) (k : RT (en74 F).outs → PT (en74 F).ins → Option R) :
  xfun (e74 F71 F93094 R) (codeOf Try.f74) res74 (avs (en74 F).ins x) (finK (en74 F).outs (en74 F).ins k) = p74 F71 F93094 R x.1 (fun y1 y2 => k (y1, y2, ()) ()) := by kernel_rfl
noncomputable def F74 : FT74 := p74 F71 F93094
theorem env74 (R : Type) : EnvOK Try.prog (e74 F71 F93094 R) := ⟨tabOK, eqOK, callOfF_ok (allF_cons ok93094 allF_nil) (allE_cons ok71 allE_nil), noIns, inlOK_nil⟩
theorem ok74 : (en74 F74).OK Try.prog :=
  ent_ok (Ef := fun R => e74 F71 F93094 R) (fun R => env74 R) mixed Try.func74 (body := codeOf Try.f74) (by kernel_rfl) (by kernel_rfl) (np := 0) (nt := 9) (fun _ => rfl) (fun _ => rfl) (by kernel_rfl) (res := res74) (by kernel_rfl) (fun _ => rfl) (fun _ => Nat.le_of_ble_eq_true rfl) (by
    intro R
    rw [show loopsOf (codeOf Try.f74) = [] from by kernel_rfl]
    exact allM_nil) (fun R x k => q74 F71 F93094 F74 R x k)
abbrev FT93 : Type 1 := (R : Type) → (List Int) → (List Int) → ((List Int) → Option R) → Option R
def en93 (F : FT93) : Ent := ⟨93, [(false, (.sl (.int .u32))), (false, (.sl (.int .u32)))], [(false, (.sl (.int .u32)))], fun R x k => F R x.1 x.2.1 (fun y1 => k (y1, ()) ())⟩
def res93 : List (ResultVar × TypeId × Bool) := [(.tmp 4, 54, false)]
abbrev LT93_6 : Type 1 := (R : Type) → (List Int) → (List Int) → Int → (List Int) → Int → Int → (List Int) → ((List Int) → Int → (List Int) → Option R) → Option R
def le93_6 (L : LT93_6) : LEnt := ⟨6, [.val 0 (.sl (.int .u32)), .val 1 (.sl (.int .u32)), .fix 5 (.own 0 0), .val 6 (.int .u64), .val 20 (.sl (.int .u32)), .val 21 (.int .i64), .val 22 (.int .i64), .row 0 (.int .u32) false], 1, [(.exit 0, [.val 0 (.sl (.int .u32)), .fix 5 (.own 0 0), .val 6 (.int .u64), .row 0 (.int .u32) false])], fun R x ke => L R x.1 x.2.1 x.2.2.1 x.2.2.2.1 x.2.2.2.2.1 x.2.2.2.2.2.1 x.2.2.2.2.2.2.1 (fun y1 y2 y3 => ke.1 (y1, y2, y3, ()))⟩
noncomputable def e93 (F89 : FT89) (L6 : LT93_6) (R : Type) : Env R := ⟨TT, EQT, 0, 58, ownOf [], callOf [en89 F89] R, loopOf [le93_6 L6] R, [], inlOf []⟩
def p93_6 : (R : Type) → (List Int) → (List Int) → Int → (List Int) → Int → Int → (List Int) → ((List Int) → (List Int) → Int → (List Int) → Int → Int → (List Int) → Option R) → ((List Int) → Int → (List Int) → Option R) → Option R := fun R x1 x2 x3 x4 x5 x6 x7 kc k0 =>
let v8 := (decide (x6 < x5));
(match v8 with
| true => (match (bnd x6 (List.length x4 : Int)) with
| true => let v9 := (List.getD x4 (Int.toNat x6) (0 : Int));
let v10 := (IntKind.u64.wrap v9);
let v11 := (IntKind.u64.wrap (x3 + v10));
let v12 := (List.length x2 : Int);
let v13 := (decide (x6 < v12));
(match v13 with
| true => (match (bnd x6 (List.length x2 : Int)) with
| true => let v14 := (List.getD x2 (Int.toNat x6) (0 : Int));
let v15 := (IntKind.u64.wrap v14);
let v16 := (IntKind.u64.wrap (v11 + v15));
let v17 := (IntKind.u32.wrap v16);
(match (bnd x6 (List.length x7 : Int)) with
| true => let v18 : (List Int) := (List.set x7 (Int.toNat x6) v17);
let v19 := (ishr .u64 v16 (32 : Int));
let v20 := (IntKind.i64.wrap (x6 + (1 : Int)));
kc x1 x2 v19 x4 x5 v20 v18
| false => none)
| false => none)
| false => let v21 := (IntKind.u32.wrap v11);
(match (bnd x6 (List.length x7 : Int)) with
| true => let v22 : (List Int) := (List.set x7 (Int.toNat x6) v21);
let v23 := (ishr .u64 v11 (32 : Int));
let v24 := (IntKind.i64.wrap (x6 + (1 : Int)));
kc x1 x2 v23 x4 x5 v24 v22
| false => none))
| false => none)
| false => k0 x1 x3 x7)
theorem q93_6 (F89 : FT89) (L6 : LT93_6) (R : Type) (x : HT (le93_6 L6).H) (kc : HT (le93_6 L6).H → Option R) (ke : KT R (le93_6 L6).exs) :
  exec (e93 F89 L6 R) (lcode 6 (codeOf Try.f93)) (stOf (le93_6 L6).H x 1) (roundK (le93_6 L6).H (le93_6 L6).exs kc ke) =
    p93_6 R x.1 x.2.1 x.2.2.1 x.2.2.2.1 x.2.2.2.2.1 x.2.2.2.2.2.1 x.2.2.2.2.2.2.1 (fun x1 x2 x3 x4 x5 x6 x7 => kc (x1, x2, x3, x4, x5, x6, x7, ())) (fun y1 y2 y3 => ke.1 (y1, y2, y3, ())) := by kernel_rfl
noncomputable def G93_6 : Nat → LT93_6
  | 0 => fun _ _ _ _ _ _ _ _ _ => none
  | n + 1 => fun R x1 x2 x3 x4 x5 x6 x7 k0 => p93_6 R x1 x2 x3 x4 x5 x6 x7 (fun x1 x2 x3 x4 x5 x6 x7 => G93_6 n R x1 x2 x3 x4 x5 x6 x7 k0) k0
def p93 (F89 : FT89) (L6 : LT93_6) : FT93 := fun R a0 a1 k =>
let v1 := (List.length a0 : Int);
let v2 := (List.length a1 : Int);
let v3 := (decide (v1 < v2));
(match v3 with
| true => let v4 := (List.length a1 : Int);
let v5 := (IntKind.i64.wrap (v4 + (1 : Int)));
(match (decide (0 ≤ v5 ∧ v5 ≤ v5 ∧ v5 ≤ (35184372088832 : Int))) with
| true => let v6 : (List Int) := (List.replicate (Int.toNat v5) (0 : Int));
let v7 := (List.length a1 : Int);
L6 R a1 a0 (0 : Int) a1 v7 (0 : Int) v6 (fun x8 x9 x10 =>
let v11 := (List.length x8 : Int);
let v12 := (IntKind.u32.wrap x9);
(match (bnd v11 (List.length x10 : Int)) with
| true => let v13 : (List Int) := (List.set x10 (Int.toNat v11) v12);
F89 R v13 fun y14 =>
k y14
| false => none))
| false => none)
| false => let v15 := (List.length a0 : Int);
let v16 := (IntKind.i64.wrap (v15 + (1 : Int)));
(match (decide (0 ≤ v16 ∧ v16 ≤ v16 ∧ v16 ≤ (35184372088832 : Int))) with
| true => let v17 : (List Int) := (List.replicate (Int.toNat v16) (0 : Int));
let v18 := (List.length a0 : Int);
L6 R a0 a1 (0 : Int) a0 v18 (0 : Int) v17 (fun x19 x20 x21 =>
let v22 := (List.length x19 : Int);
let v23 := (IntKind.u32.wrap x20);
(match (bnd v22 (List.length x21 : Int)) with
| true => let v24 : (List Int) := (List.set x21 (Int.toNat v22) v23);
F89 R v24 fun y25 =>
k y25
| false => none))
| false => none))
theorem q93 (F89 : FT89) (L6 : LT93_6) (F : FT93) (R : Type) (x : AT (en93 F).ins) (k : RT (en93 F).outs → PT (en93 F).ins → Option R) :
  xfun (e93 F89 L6 R) (codeOf Try.f93) res93 (avs (en93 F).ins x) (finK (en93 F).outs (en93 F).ins k) = p93 F89 L6 R x.1 x.2.1 (fun y1 => k (y1, ()) ()) := by kernel_rfl
noncomputable def F93 : FT93 := p93 F89 (G93_6 FUEL)
theorem env93 (R : Type) : EnvOK Try.prog (e93 F89 (G93_6 FUEL) R) := ⟨tabOK, eqOK, callOf_ok (allE_cons ok89 allE_nil), noIns, inlOK_nil⟩
noncomputable def T93_6 : (R : Type) → HT (le93_6 (G93_6 FUEL)).H → (HT (le93_6 (G93_6 FUEL)).H → Option R) → KT R (le93_6 (G93_6 FUEL)).exs → Option R := fun R x kc ke => p93_6 R x.1 x.2.1 x.2.2.1 x.2.2.2.1 x.2.2.2.2.1 x.2.2.2.2.2.1 x.2.2.2.2.2.2.1 (fun x1 x2 x3 x4 x5 x6 x7 => kc (x1, x2, x3, x4, x5, x6, x7, ())) (fun y1 y2 y3 => ke.1 (y1, y2, y3, ()))
theorem it93_6 : ∀ (n : Nat) (R : Type) (x : HT (le93_6 (G93_6 FUEL)).H) (ke : KT R (le93_6 (G93_6 FUEL)).exs), iter T93_6 n R x ke = G93_6 n R x.1 x.2.1 x.2.2.1 x.2.2.2.1 x.2.2.2.2.1 x.2.2.2.2.2.1 x.2.2.2.2.2.2.1 (fun y1 y2 y3 => ke.1 (y1, y2, y3, ())) := by
  intro n
  induction n with
  | zero => intro R x ke; rfl
  | succ n ih =>
    intro R x ke
    show T93_6 R x (fun x' => iter T93_6 n R x' ke) ke = _
    rw [show (fun x' => iter T93_6 n R x' ke) = fun x => G93_6 n R x.1 x.2.1 x.2.2.1 x.2.2.2.1 x.2.2.2.2.1 x.2.2.2.2.2.1 x.2.2.2.2.2.2.1 (fun y1 y2 y3 => ke.1 (y1, y2, y3, ())) from funext fun x' => ih R x' ke]
    rfl
theorem lok93_6 : (le93_6 (G93_6 FUEL)).OK Try.prog 0 58 (lcode 6 (codeOf Try.f93)) := fun R x ke r h =>
  iter_sound (fun R => e93 F89 (G93_6 FUEL) R) 0 58 (fun _ => rfl) (fun _ => rfl) (fun R => env93 R) mixed (by
    intro R
    rw [show loopsOf (lcode 6 (codeOf Try.f93)) = [] from by kernel_rfl]
    exact allM_nil) (T := T93_6) (fun R x kc ke => q93_6 F89 (G93_6 FUEL) R x kc ke) FUEL R x ke r ((it93_6 FUEL R x ke).trans h)
theorem ok93 : (en93 F93).OK Try.prog :=
  ent_ok (Ef := fun R => e93 F89 (G93_6 FUEL) R) (fun R => env93 R) mixed Try.func93 (body := codeOf Try.f93) (by kernel_rfl) (by kernel_rfl) (np := 0) (nt := 58) (fun _ => rfl) (fun _ => rfl) (by kernel_rfl) (res := res93) (by kernel_rfl) (fun _ => rfl) (fun _ => Nat.le_of_ble_eq_true rfl) (by
    intro R
    rw [show loopsOf (codeOf Try.f93) = [lcode 6 (codeOf Try.f93)] from by kernel_rfl]
    exact (allM_cons (loop_ok2 (e := le93_6 (G93_6 FUEL)) rfl rfl lok93_6) allM_nil)) (fun R x k => q93 F89 (G93_6 FUEL) F93 R x k)
abbrev FT93093 : Type 1 := (R : Type) → (List Int) → (List (List Int)) → ((List Int) → Int → Option R) → Option R
def en93093 (F : FT93093) : EntF := ⟨92, 93, [(false, (.sl (.int .u32))), (false, (.sl (.sl (.int .u32))))], [(false, (.sl (.int .u32))), (false, (.int .i64))], fun R x k => F R x.1 x.2.1 (fun y1 y2 => k (y1, y2, ()) ())⟩
def res93093 : List (ResultVar × TypeId × Bool) := [(.tmp 6, 54, false), (.tmp 7, 29, false)]
abbrev LT93093_4 : Type 1 := (R : Type) → (List Int) → (List (List Int)) → Int → Int → (Int → Option R) → ((List Int) → Option R) → Option R
def le93093_4 (L : LT93093_4) : LEnt := ⟨4, [.val 0 (.sl (.int .u32)), .fix 2 (.fn 93), .val 13 (.sl (.sl (.int .u32))), .val 14 (.int .i64), .val 15 (.int .i64)], 0, [(.ret, [.fix 6 .nil, .val 7 (.int .i64)]), (.exit 0, [.val 0 (.sl (.int .u32))])], fun R x ke => L R x.1 x.2.1 x.2.2.1 x.2.2.2.1 (fun y1 => ke.1 (y1, ())) (fun y1 => ke.2.1 (y1, ()))⟩
noncomputable def e93093 (F90 : FT90) (F93 : FT93) (L4 : LT93093_4) (R : Type) : Env R := ⟨TT, EQT, 0, 28, ownOf [], callOf [en90 F90, en93 F93] R, loopOf [le93093_4 L4] R, [], inlOf []⟩
def p93093_4 (F93 : FT93) : (R : Type) → (List Int) → (List (List Int)) → Int → Int → ((List Int) → (List (List Int)) → Int → Int → Option R) → (Int → Option R) → ((List Int) → Option R) → Option R := fun R x1 x2 x3 x4 kc k0 k1 =>
let v5 := (decide (x4 < x3));
(match v5 with
| true => (match (bnd x4 (List.length x2 : Int)) with
| true => let v6 : (List Int) := (List.getD x2 (Int.toNat x4) ([] : (List Int)));
F93 R x1 v6 fun y7 =>
let v8 := (List.length y7 : Int);
let v9 := (decide (v8 > (256 : Int)));
(match v9 with
| true => k0 (11 : Int)
| false => let v10 := (IntKind.i64.wrap (x4 + (1 : Int)));
kc y7 x2 x3 v10)
| false => none)
| false => k1 x1)
theorem q93093_4 (F90 : FT90) (F93 : FT93) (L4 : LT93093_4) (R : Type) (x : HT (le93093_4 L4).H) (kc : HT (le93093_4 L4).H → Option R) (ke : KT R (le93093_4 L4).exs) :
  exec (e93093 F90 F93 L4 R) (lcode 4 (codeOf Try.f92)) (stOf (le93093_4 L4).H x 0) (roundK (le93093_4 L4).H (le93093_4 L4).exs kc ke) =
    p93093_4 F93 R x.1 x.2.1 x.2.2.1 x.2.2.2.1 (fun x1 x2 x3 x4 => kc (x1, x2, x3, x4, ())) (fun y1 => ke.1 (y1, ())) (fun y1 => ke.2.1 (y1, ())) := by kernel_rfl
noncomputable def G93093_4 : Nat → LT93093_4
  | 0 => fun _ _ _ _ _ _ _ => none
  | n + 1 => fun R x1 x2 x3 x4 k0 k1 => p93093_4 F93 R x1 x2 x3 x4 (fun x1 x2 x3 x4 => G93093_4 n R x1 x2 x3 x4 k0 k1) k0 k1
def p93093 (F90 : FT90) (L4 : LT93093_4) : FT93093 := fun R a0 a1 k =>
F90 R a1 fun y1 =>
(match (!y1) with
| true => k ([] : (List Int)) (1 : Int)
| false => let v2 := (List.length a1 : Int);
L4 R a0 a1 v2 (0 : Int) (fun x3 =>
k ([] : (List Int)) x3) (fun x4 =>
k x4 (0 : Int)))
theorem q93093 (F90 : FT90) (F93 : FT93) (L4 : LT93093_4) (F : FT93093) (R : Type) (x : AT (en93093 F).ins) (k : RT (en93093 F).outs → PT (en93093 F).ins → Option R) :
  xfun (e93093 F90 F93 L4 R) (codeOf Try.f92) res93093 (avs (en93093 F).ins x ++ [AV.fn 93]) (finK (en93093 F).outs (en93093 F).ins k) = p93093 F90 L4 R x.1 x.2.1 (fun y1 y2 => k (y1, y2, ()) ()) := by kernel_rfl
noncomputable def F93093 : FT93093 := p93093 F90 (G93093_4 FUEL)
theorem env93093 (R : Type) : EnvOK Try.prog (e93093 F90 F93 (G93093_4 FUEL) R) := ⟨tabOK, eqOK, callOf_ok (allE_cons ok90 (allE_cons ok93 allE_nil)), noIns, inlOK_nil⟩
noncomputable def T93093_4 : (R : Type) → HT (le93093_4 (G93093_4 FUEL)).H → (HT (le93093_4 (G93093_4 FUEL)).H → Option R) → KT R (le93093_4 (G93093_4 FUEL)).exs → Option R := fun R x kc ke => p93093_4 F93 R x.1 x.2.1 x.2.2.1 x.2.2.2.1 (fun x1 x2 x3 x4 => kc (x1, x2, x3, x4, ())) (fun y1 => ke.1 (y1, ())) (fun y1 => ke.2.1 (y1, ()))
theorem it93093_4 : ∀ (n : Nat) (R : Type) (x : HT (le93093_4 (G93093_4 FUEL)).H) (ke : KT R (le93093_4 (G93093_4 FUEL)).exs), iter T93093_4 n R x ke = G93093_4 n R x.1 x.2.1 x.2.2.1 x.2.2.2.1 (fun y1 => ke.1 (y1, ())) (fun y1 => ke.2.1 (y1, ())) := by
  intro n
  induction n with
  | zero => intro R x ke; rfl
  | succ n ih =>
    intro R x ke
    show T93093_4 R x (fun x' => iter T93093_4 n R x' ke) ke = _
    rw [show (fun x' => iter T93093_4 n R x' ke) = fun x => G93093_4 n R x.1 x.2.1 x.2.2.1 x.2.2.2.1 (fun y1 => ke.1 (y1, ())) (fun y1 => ke.2.1 (y1, ())) from funext fun x' => ih R x' ke]
    rfl
theorem lok93093_4 : (le93093_4 (G93093_4 FUEL)).OK Try.prog 0 28 (lcode 4 (codeOf Try.f92)) := fun R x ke r h =>
  iter_sound (fun R => e93093 F90 F93 (G93093_4 FUEL) R) 0 28 (fun _ => rfl) (fun _ => rfl) (fun R => env93093 R) mixed (by
    intro R
    rw [show loopsOf (lcode 4 (codeOf Try.f92)) = [] from by kernel_rfl]
    exact allM_nil) (T := T93093_4) (fun R x kc ke => q93093_4 F90 F93 (G93093_4 FUEL) R x kc ke) FUEL R x ke r ((it93093_4 FUEL R x ke).trans h)
theorem ok93093 : (en93093 F93093).OK Try.prog :=
  ent_okF (Ef := fun R => e93093 F90 F93 (G93093_4 FUEL) R) (fun R => env93093 R) mixed Try.func92 (body := codeOf Try.f92) (by kernel_rfl) (by kernel_rfl) (np := 0) (nt := 28) (fun _ => rfl) (fun _ => rfl) (by kernel_rfl) (res := res93093) (by kernel_rfl) (fun _ => rfl) (fun _ => Nat.le_of_ble_eq_true rfl) (by
    intro R
    rw [show loopsOf (codeOf Try.f92) = [lcode 4 (codeOf Try.f92)] from by kernel_rfl]
    exact (allM_cons (loop_ok2 (e := le93093_4 (G93093_4 FUEL)) rfl rfl lok93093_4) allM_nil)) (fun R x k => q93093 F90 F93 (G93093_4 FUEL) F93093 R x k)
abbrev FT73 : Type 1 := (R : Type) → (List (List Int)) → ((List Int) → Int → Option R) → Option R
def en73 (F : FT73) : Ent := ⟨73, [(false, (.sl (.sl (.int .u32))))], [(false, (.sl (.int .u32))), (false, (.int .i64))], fun R x k => F R x.1 (fun y1 y2 => k (y1, y2, ()) ())⟩
def res73 : List (ResultVar × TypeId × Bool) := [(.tmp 2, 54, false), (.tmp 3, 29, false)]
noncomputable def e73 (F93093 : FT93093) (R : Type) : Env R := ⟨TT, EQT, 0, 8, ownOf [], callOfF [en93093 F93093] [] R, loopOf [] R, [], inlOf []⟩
def p73 (F93093 : FT93093) : FT73 := fun R a0 k =>
F93093 R ([] : (List Int)) a0 fun y1 y2 =>
k y1 y2
theorem q73 (F93093 : FT93093) (F : FT73) (R : Type) (x : AT (en73 F).ins) (k : RT (en73 F).outs → PT (en73 F).ins → Option R) :
  xfun (e73 F93093 R) (codeOf Try.f73) res73 (avs (en73 F).ins x) (finK (en73 F).outs (en73 F).ins k) = p73 F93093 R x.1 (fun y1 y2 => k (y1, y2, ()) ()) := by kernel_rfl
noncomputable def F73 : FT73 := p73 F93093
theorem env73 (R : Type) : EnvOK Try.prog (e73 F93093 R) := ⟨tabOK, eqOK, callOfF_ok (allF_cons ok93093 allF_nil) allE_nil, noIns, inlOK_nil⟩
theorem ok73 : (en73 F73).OK Try.prog :=
  ent_ok (Ef := fun R => e73 F93093 R) (fun R => env73 R) mixed Try.func73 (body := codeOf Try.f73) (by kernel_rfl) (by kernel_rfl) (np := 0) (nt := 8) (fun _ => rfl) (fun _ => rfl) (by kernel_rfl) (res := res73) (by kernel_rfl) (fun _ => rfl) (fun _ => Nat.le_of_ble_eq_true rfl) (by
    intro R
    rw [show loopsOf (codeOf Try.f73) = [] from by kernel_rfl]
    exact allM_nil) (fun R x k => q73 F93093 F73 R x k)
abbrev FT41 : Type 1 := (R : Type) → Tq22 → (List Tq2) → Tq1 → ((List Int) → Tq22 → (List Tq2) → Option R) → Option R
def en41 (F : FT41) : EntM := ⟨41, [((.int .i64), false), ((.sl (.sl (.int .u32))), false), ((.sl (.int .i64)), false), ((.sl (.sl (.int .u32))), false), (.mp, true), ((.int .i64), false)], Kq1, (.sl (.int .u32)), [(false, Kq1)], (.sl (.int .u32)), fun R s m x k => F R s m x.1 k⟩
abbrev LT41_10 : Type 1 := (R : Type) → (List Int) → (List Int) → Int → Int → Int → Tq22 → (List Tq2) → Tq1 → ((List Int) → Tq22 → (List Tq2) → Tq1 → Option R) → Option R
def le41_10 (L : LT41_10) : LEnt := ⟨10, [.fix 0 (.mptr 0 0 Kq18), .fix 3 (.ptr 2 [] Kq1), .val 7 (.sl (.int .u32)), .val 8 (.sl (.int .u32)), .val 9 (.int .i64), .val 49 (.int .i64), .val 50 (.int .i64), .mix 0 [((.int .i64), none), ((.sl (.sl (.int .u32))), none), ((.sl (.int .i64)), none), ((.sl (.sl (.int .u32))), none), (.mp, some 1), ((.int .i64), none)], .map 1 Kq1 (.sl (.int .u32)), .var 2 Kq1 false], 3, [(.exit 0, [.fix 0 (.mptr 0 0 Kq18), .fix 3 (.ptr 2 [] Kq1), .val 7 (.sl (.int .u32)), .mix 0 [((.int .i64), none), ((.sl (.sl (.int .u32))), none), ((.sl (.int .i64)), none), ((.sl (.sl (.int .u32))), none), (.mp, some 1), ((.int .i64), none)], .map 1 Kq1 (.sl (.int .u32)), .var 2 Kq1 false])], fun R x ke => L R x.1 x.2.1 x.2.2.1 x.2.2.2.1 x.2.2.2.2.1 x.2.2.2.2.2.1 x.2.2.2.2.2.2.1 x.2.2.2.2.2.2.2.1 (fun y1 y2 y3 y4 => ke.1 (y1, y2, y3, y4, ()))⟩
noncomputable def e69i2 (R : Type) : Env R := ⟨TT, EQT, 2, 14, ownOf [], callOf [] R, fun _ _ _ => none, [], inlOf []⟩
theorem env69i2 (R : Type) : EnvOK Try.prog (e69i2 R) := ⟨tabOK, eqOK, callOf_ok allE_nil, noIns, inlOK_nil⟩
noncomputable def e41 (F41 : FT41) (F70 : FT70) (F73 : FT73) (F74 : FT74) (L10 : LT41_10) (R : Type) : Env R := ⟨TT, EQT, 2, 113, ownOf [(2, 6), (13, 10), (13, 15), (13, 20), (14, 14)], callOf [en70 F70, en73 F73, en74 F74] R, loopOf [le41_10 L10] R, [], inlOf [(41, inlM 2 (en41 F41) R), (69, xinl (e69i2 R) (codeOf Try.f69) [.tmp 6] 3)]⟩
def p41_10 (F41 : FT41) (F73 : FT73) (F74 : FT74) : (R : Type) → (List Int) → (List Int) → Int → Int → Int → Tq22 → (List Tq2) → Tq1 → ((List Int) → (List Int) → Int → Int → Int → Tq22 → (List Tq2) → Tq1 → Option R) → ((List Int) → Tq22 → (List Tq2) → Tq1 → Option R) → Option R := fun R x1 x2 x3 x4 x5 x6 x7 x8 kc k0 =>
let v9 := (decide (x5 < x4));
(match v9 with
| true => (match (bnd x8.1 (List.length x6.2.2.1 : Int)) with
| true => let v10 := (List.getD x6.2.2.1 (Int.toNat x8.1) (0 : Int));
let v11 := (IntKind.i64.wrap (x3 - v10));
let v12 := (decide (v11 < (0 : Int)));
(match v12 with
| true => k0 x1 (x6.1, x6.2.1, x6.2.2.1, x6.2.2.2.1, x6.2.2.2.2.1, ()) x7 x8
| false => let v13 := (List.length x2 : Int);
let v14 := (v13 == (0 : Int));
(match v14 with
| true => k0 x1 (x6.1, x6.2.1, x6.2.2.1, x6.2.2.2.1, x6.2.2.2.2.1, ()) x7 x8
| false => let v15 := (IntKind.i64.wrap (x8.1 + (1 : Int)));
F41 R (x6.1, x6.2.1, x6.2.2.1, x6.2.2.2.1, x6.2.2.2.2.1, ()) x7 (v15, v11, ()) fun y16 s17 m18 =>
let v19 : (List (List Int)) := ([x2, y16] : (List (List Int)));
F74 R v19 fun y20 y21 =>
let v22 := (y21 != (0 : Int));
(match v22 with
| true => let v23 : (List (List Int)) := ([x1, y20] : (List (List Int)));
F73 R v23 fun y24 y25 =>
let v26 := (y25 != (0 : Int));
(match v26 with
| true => (match (bnd x8.1 (List.length s17.2.2.2.1 : Int)) with
| true => let v27 : (List Int) := (List.getD s17.2.2.2.1 (Int.toNat x8.1) ([] : (List Int)));
let v28 : (List (List Int)) := ([x2, v27] : (List (List Int)));
F74 R v28 fun y29 y30 =>
let v31 := (y30 != (0 : Int));
(match v31 with
| true => let v32 := (IntKind.i64.wrap (x5 + (1 : Int)));
kc y24 y29 v11 x4 v32 (s17.1, s17.2.1, s17.2.2.1, s17.2.2.2.1, y30, ()) m18 x8
| false => let v33 := (IntKind.i64.wrap (x5 + (1 : Int)));
kc y24 y29 v11 x4 v33 (s17.1, s17.2.1, s17.2.2.1, s17.2.2.2.1, y25, ()) m18 x8)
| false => none)
| false => (match (bnd x8.1 (List.length s17.2.2.2.1 : Int)) with
| true => let v34 : (List Int) := (List.getD s17.2.2.2.1 (Int.toNat x8.1) ([] : (List Int)));
let v35 : (List (List Int)) := ([x2, v34] : (List (List Int)));
F74 R v35 fun y36 y37 =>
let v38 := (y37 != (0 : Int));
(match v38 with
| true => let v39 := (IntKind.i64.wrap (x5 + (1 : Int)));
kc y24 y36 v11 x4 v39 (s17.1, s17.2.1, s17.2.2.1, s17.2.2.2.1, y37, ()) m18 x8
| false => let v40 := (IntKind.i64.wrap (x5 + (1 : Int)));
kc y24 y36 v11 x4 v40 (s17.1, s17.2.1, s17.2.2.1, s17.2.2.2.1, y21, ()) m18 x8)
| false => none))
| false => let v41 : (List (List Int)) := ([x1, y20] : (List (List Int)));
F73 R v41 fun y42 y43 =>
let v44 := (y43 != (0 : Int));
(match v44 with
| true => (match (bnd x8.1 (List.length s17.2.2.2.1 : Int)) with
| true => let v45 : (List Int) := (List.getD s17.2.2.2.1 (Int.toNat x8.1) ([] : (List Int)));
let v46 : (List (List Int)) := ([x2, v45] : (List (List Int)));
F74 R v46 fun y47 y48 =>
let v49 := (y48 != (0 : Int));
(match v49 with
| true => let v50 := (IntKind.i64.wrap (x5 + (1 : Int)));
kc y42 y47 v11 x4 v50 (s17.1, s17.2.1, s17.2.2.1, s17.2.2.2.1, y48, ()) m18 x8
| false => let v51 := (IntKind.i64.wrap (x5 + (1 : Int)));
kc y42 y47 v11 x4 v51 (s17.1, s17.2.1, s17.2.2.1, s17.2.2.2.1, y43, ()) m18 x8)
| false => none)
| false => (match (bnd x8.1 (List.length s17.2.2.2.1 : Int)) with
| true => let v52 : (List Int) := (List.getD s17.2.2.2.1 (Int.toNat x8.1) ([] : (List Int)));
let v53 : (List (List Int)) := ([x2, v52] : (List (List Int)));
F74 R v53 fun y54 y55 =>
let v56 := (y55 != (0 : Int));
(match v56 with
| true => let v57 := (IntKind.i64.wrap (x5 + (1 : Int)));
kc y42 y54 v11 x4 v57 (s17.1, s17.2.1, s17.2.2.1, s17.2.2.2.1, y55, ()) m18 x8
| false => let v58 := (IntKind.i64.wrap (x5 + (1 : Int)));
kc y42 y54 v11 x4 v58 (s17.1, s17.2.1, s17.2.2.1, s17.2.2.2.1, s17.2.2.2.2.1, ()) m18 x8)
| false => none)))))
| false => none)
| false => k0 x1 (x6.1, x6.2.1, x6.2.2.1, x6.2.2.2.1, x6.2.2.2.2.1, ()) x7 x8)
theorem q41_10 (F41 : FT41) (F70 : FT70) (F73 : FT73) (F74 : FT74) (L10 : LT41_10) (R : Type) (x : HT (le41_10 L10).H) (kc : HT (le41_10 L10).H → Option R) (ke : KT R (le41_10 L10).exs) :
  exec (e41 F41 F70 F73 F74 L10 R) (lcode 10 (codeOf Try.f41)) (stOf (le41_10 L10).H x 3) (roundK (le41_10 L10).H (le41_10 L10).exs kc ke) =
    p41_10 F41 F73 F74 R x.1 x.2.1 x.2.2.1 x.2.2.2.1 x.2.2.2.2.1 x.2.2.2.2.2.1 x.2.2.2.2.2.2.1 x.2.2.2.2.2.2.2.1 (fun x1 x2 x3 x4 x5 x6 x7 x8 => kc (x1, x2, x3, x4, x5, x6, x7, x8, ())) (fun y1 y2 y3 y4 => ke.1 (y1, y2, y3, y4, ())) := by kernel_rfl
noncomputable def G41_10 (F41 : FT41) : Nat → LT41_10
  | 0 => fun _ _ _ _ _ _ _ _ _ _ => none
  | n + 1 => fun R x1 x2 x3 x4 x5 x6 x7 x8 k0 => p41_10 F41 F73 F74 R x1 x2 x3 x4 x5 x6 x7 x8 (fun x1 x2 x3 x4 x5 x6 x7 x8 => G41_10 F41 n R x1 x2 x3 x4 x5 x6 x7 x8 k0) k0
def p41 (F70 : FT70) (L10 : LT41_10) : FT41 := fun R s m a1 k =>
let v1 := (List.length s.2.1 : Int);
let v2 := (a1.1 == v1);
(match v2 with
| true => F70 R a1.2.1 fun y3 y4 =>
let v5 := (y4 != (0 : Int));
(match v5 with
| true => k y3 (s.1, s.2.1, s.2.2.1, s.2.2.2.1, y4, ()) m
| false => k y3 (s.1, s.2.1, s.2.2.1, s.2.2.2.1, s.2.2.2.2.1, ()) m)
| false => let v6 : (List Int) := (Option.getD (mfind (Kd.eqv Kq1) m a1) ([] : (List Int)));
let v7 := (Option.isSome (mfind (Kd.eqv Kq1) m a1));
(match v7 with
| true => k v6 (s.1, s.2.1, s.2.2.1, s.2.2.2.1, s.2.2.2.2.1, ()) m
| false => (match (bnd a1.1 (List.length s.2.1 : Int)) with
| true => let v8 : (List Int) := (List.getD s.2.1 (Int.toNat a1.1) ([] : (List Int)));
L10 R ([] : (List Int)) v8 a1.2.1 s.1 (0 : Int) (s.1, s.2.1, s.2.2.1, s.2.2.2.1, s.2.2.2.2.1, ()) m a1 (fun x9 x10 x11 x12 =>
(match (Option.isNone (mfind (Kd.eqv Kq1) x11 x12)) with
| true => let v13 : (List Tq2) := (x11 ++ [(x12, x9)]);
k x9 (x10.1, x10.2.1, x10.2.2.1, x10.2.2.2.1, x10.2.2.2.2.1, ()) v13
| false => none))
| false => none)))
theorem q41 (F41 : FT41) (F70 : FT70) (F73 : FT73) (F74 : FT74) (L10 : LT41_10) (F : FT41) (R : Type) (s : MF (en41 F).fl) (m : List ((en41 F).kk.T × (en41 F).kv.T)) (x : AT (en41 F).ins) (k : (en41 F).out.T → MF (en41 F).fl → List ((en41 F).kk.T × (en41 F).kv.T) → Option R) :
  xfunM (e41 F41 F70 F73 F74 L10 R) (codeOf Try.f41) 4 (.sl (.int .u32)) Kq18 (en41 F).fl Kq1 (.sl (.int .u32)) s m (avs (en41 F).ins x) k = p41 F70 L10 R s m x.1 k := by kernel_rfl
theorem env41 (F41 : FT41) (h41 : (en41 F41).OK Try.prog) (R : Type) : EnvOK Try.prog (e41 F41 F70 F73 F74 (G41_10 F41 FUEL) R) := ⟨tabOK, eqOK, callOf_ok (allE_cons ok70 (allE_cons ok73 (allE_cons ok74 allE_nil))), noIns, (inlOK_consM h41 (inlOK_cons (xinl_sound (env69i2 R) mixed Try.func69 (body := codeOf Try.f69) (by kernel_rfl) (by kernel_rfl) (by kernel_rfl) (res := [.tmp 6]) (by kernel_rfl) (n := 3) (Nat.le_of_ble_eq_true rfl) (by kernel_rfl)) inlOK_nil))⟩
noncomputable def T41_10 (F41 : FT41) : (R : Type) → HT (le41_10 (G41_10 F41 FUEL)).H → (HT (le41_10 (G41_10 F41 FUEL)).H → Option R) → KT R (le41_10 (G41_10 F41 FUEL)).exs → Option R := fun R x kc ke => p41_10 F41 F73 F74 R x.1 x.2.1 x.2.2.1 x.2.2.2.1 x.2.2.2.2.1 x.2.2.2.2.2.1 x.2.2.2.2.2.2.1 x.2.2.2.2.2.2.2.1 (fun x1 x2 x3 x4 x5 x6 x7 x8 => kc (x1, x2, x3, x4, x5, x6, x7, x8, ())) (fun y1 y2 y3 y4 => ke.1 (y1, y2, y3, y4, ()))
theorem it41_10 (F41 : FT41) : ∀ (n : Nat) (R : Type) (x : HT (le41_10 (G41_10 F41 FUEL)).H) (ke : KT R (le41_10 (G41_10 F41 FUEL)).exs), iter (T41_10 F41) n R x ke = G41_10 F41 n R x.1 x.2.1 x.2.2.1 x.2.2.2.1 x.2.2.2.2.1 x.2.2.2.2.2.1 x.2.2.2.2.2.2.1 x.2.2.2.2.2.2.2.1 (fun y1 y2 y3 y4 => ke.1 (y1, y2, y3, y4, ())) := by
  intro n
  induction n with
  | zero => intro R x ke; rfl
  | succ n ih =>
    intro R x ke
    show T41_10 F41 R x (fun x' => iter (T41_10 F41) n R x' ke) ke = _
    rw [show (fun x' => iter (T41_10 F41) n R x' ke) = fun x => G41_10 F41 n R x.1 x.2.1 x.2.2.1 x.2.2.2.1 x.2.2.2.2.1 x.2.2.2.2.2.1 x.2.2.2.2.2.2.1 x.2.2.2.2.2.2.2.1 (fun y1 y2 y3 y4 => ke.1 (y1, y2, y3, y4, ())) from funext fun x' => ih R x' ke]
    rfl
theorem lok41_10 (F41 : FT41) (h41 : (en41 F41).OK Try.prog) : (le41_10 (G41_10 F41 FUEL)).OK Try.prog 2 113 (lcode 10 (codeOf Try.f41)) := fun R x ke r h =>
  iter_sound (fun R => e41 F41 F70 F73 F74 (G41_10 F41 FUEL) R) 2 113 (fun _ => rfl) (fun _ => rfl) (fun R => env41 F41 h41 R) mixed (by
    intro R
    rw [show loopsOf (lcode 10 (codeOf Try.f41)) = [] from by kernel_rfl]
    exact allM_nil) (T := T41_10 F41) (fun R x kc ke => q41_10 F41 F70 F73 F74 (G41_10 F41 FUEL) R x kc ke) FUEL R x ke r ((it41_10 F41 FUEL R x ke).trans h)
noncomputable def W41 : Nat → FT41
  | 0 => fun _ _ _ _ _ => none
  | n + 1 => (fun F41 => p41 F70 (G41_10 F41 FUEL)) (W41 n)
noncomputable def F41 : FT41 := W41 FUEL
theorem okp41 (F41 : FT41) (h41 : (en41 F41).OK Try.prog) : (en41 (p41 F70 (G41_10 F41 FUEL))).OK Try.prog :=
  ent_okM (Ef := fun R => e41 F41 F70 F73 F74 (G41_10 F41 FUEL) R) (fun R => env41 F41 h41 R) mixed Try.func41 (body := codeOf Try.f41) (by kernel_rfl) (by kernel_rfl) (nt := 113) (fun _ => rfl) (fun _ => rfl) (by kernel_rfl) (t := 4) (by kernel_rfl) (fun _ => Nat.le_of_ble_eq_true rfl) (by
    intro R
    rw [show loopsOf (codeOf Try.f41) = [lcode 10 (codeOf Try.f41)] from by kernel_rfl]
    exact (allM_cons (loop_ok2 (e := le41_10 (G41_10 F41 FUEL)) rfl rfl (lok41_10 F41 h41)) allM_nil)) (K0 := Kq18) (by kernel_rfl) (fun R s m x k => q41 F41 F70 F73 F74 (G41_10 F41 FUEL) F41 R s m x k)
theorem okW41 : ∀ n, (en41 (W41 n)).OK Try.prog
  | 0 => fun R s m x k r h => by cases h
  | n + 1 => okp41 (W41 n) (okW41 n)
theorem ok41 : (en41 F41).OK Try.prog := okW41 FUEL
abbrev FT20 : Type 1 := (R : Type) → (List Int) → Int → Int → (List Int) → ((List Int) → Int → Option R) → Option R
def en20 (F : FT20) : Ent := ⟨20, [(false, (.sl (.int .i64))), (false, (.int .i64)), (false, (.int .i64)), (false, (.sl (.int .u64)))], [(false, (.sl (.int .u32))), (false, (.int .i64))], fun R x k => F R x.1 x.2.1 x.2.2.1 x.2.2.2.1 (fun y1 y2 => k (y1, y2, ()) ())⟩
def res20 : List (ResultVar × TypeId × Bool) := [(.tmp 8, 54, false), (.tmp 9, 29, false)]
abbrev LT20_9 : Type 1 := (R : Type) → Int → (List Int) → (List Int) → Int → Int → (List Tq2) → (List (List Int)) → (List Int) → (List (List Int)) → Tq1 → (Int → Option R) → (Int → (List Tq2) → (List (List Int)) → (List Int) → (List (List Int)) → Tq1 → Option R) → Option R
def le20_9 (L : LT20_9) : LEnt := ⟨9, [.val 1 (.int .i64), .fix 12 (.mptr 4 0 Kq18), .val 13 (.sl (.int .u64)), .val 51 (.sl (.int .i64)), .val 52 (.int .i64), .val 53 (.int .i64), .map 0 Kq1 (.sl (.int .u32)), .row 1 (.sl (.int .u32)) false, .row 2 (.int .i64) false, .row 3 (.sl (.int .u32)) false, .mix 4 [((.int .i64), none), ((.sl (.sl (.int .u32))), some 1), ((.sl (.int .i64)), some 2), ((.sl (.sl (.int .u32))), some 3), (.mp, some 0), ((.int .i64), none)]], 5, [(.ret, [.fix 8 .nil, .val 9 (.int .i64)]), (.exit 0, [.val 1 (.int .i64), .fix 12 (.mptr 4 0 Kq18), .map 0 Kq1 (.sl (.int .u32)), .row 1 (.sl (.int .u32)) false, .row 2 (.int .i64) false, .row 3 (.sl (.int .u32)) false, .mix 4 [((.int .i64), none), ((.sl (.sl (.int .u32))), some 1), ((.sl (.int .i64)), some 2), ((.sl (.sl (.int .u32))), some 3), (.mp, some 0), ((.int .i64), none)]])], fun R x ke => L R x.1 x.2.1 x.2.2.1 x.2.2.2.1 x.2.2.2.2.1 x.2.2.2.2.2.1 x.2.2.2.2.2.2.1 x.2.2.2.2.2.2.2.1 x.2.2.2.2.2.2.2.2.1 x.2.2.2.2.2.2.2.2.2.1 (fun y1 => ke.1 (y1, ())) (fun y1 y2 y3 y4 y5 y6 => ke.2.1 (y1, y2, y3, y4, y5, y6, ()))⟩
noncomputable def e69i0 (R : Type) : Env R := ⟨TT, EQT, 0, 14, ownOf [], callOf [] R, fun _ _ _ => none, [], inlOf []⟩
theorem env69i0 (R : Type) : EnvOK Try.prog (e69i0 R) := ⟨tabOK, eqOK, callOf_ok allE_nil, noIns, inlOK_nil⟩
noncomputable def e40i0 (F39 : FT39) (F60 : FT60) (F68 : FT68) (F70 : FT70) (F71 : FT71) (F72 : FT72) (R : Type) : Env R := ⟨TT, EQT, 0, 84, ownOf [(6, 5), (9, 12)], callOf [en39 F39, en60 F60, en68 F68, en70 F70, en71 F71, en72 F72] R, fun _ _ _ => none, [], inlOf [(69, xinl (e69i0 R) (codeOf Try.f69) [.tmp 6] 3)]⟩
theorem env40i0 (R : Type) : EnvOK Try.prog (e40i0 F39 F60 F68 F70 F71 F72 R) := ⟨tabOK, eqOK, callOf_ok (allE_cons ok39 (allE_cons ok60 (allE_cons ok68 (allE_cons ok70 (allE_cons ok71 (allE_cons ok72 allE_nil)))))), noIns, (inlOK_cons (xinl_sound (env69i0 R) mixed Try.func69 (body := codeOf Try.f69) (by kernel_rfl) (by kernel_rfl) (by kernel_rfl) (res := [.tmp 6]) (by kernel_rfl) (n := 3) (Nat.le_of_ble_eq_true rfl) (by kernel_rfl)) inlOK_nil)⟩
noncomputable def e20 (F39 : FT39) (F41 : FT41) (F60 : FT60) (F68 : FT68) (F70 : FT70) (F71 : FT71) (F72 : FT72) (L9 : LT20_9) (R : Type) : Env R := ⟨TT, EQT, 0, 77, ownOf [(6, 2), (6, 3), (11, 3), (16, 3)], callOf [en39 F39, en60 F60, en68 F68, en70 F70, en71 F71, en72 F72] R, loopOf [le20_9 L9] R, [], inlOf [(41, inlM 0 (en41 F41) R), (40, xinl (e40i0 F39 F60 F68 F70 F71 F72 R) (codeOf Try.f40) [.tmp 6, .tmp 7] 3)]⟩
def p20_9 (F39 : FT39) (F60 : FT60) (F68 : FT68) (F70 : FT70) (F71 : FT71) (F72 : FT72) : (R : Type) → Int → (List Int) → (List Int) → Int → Int → (List Tq2) → (List (List Int)) → (List Int) → (List (List Int)) → Tq1 → (Int → (List Int) → (List Int) → Int → Int → (List Tq2) → (List (List Int)) → (List Int) → (List (List Int)) → Tq1 → Option R) → (Int → Option R) → (Int → (List Tq2) → (List (List Int)) → (List Int) → (List (List Int)) → Tq1 → Option R) → Option R := fun R x1 x2 x3 x4 x5 x6 x7 x8 x9 x10 kc k0 k1 =>
let v11 := (decide (x5 < x4));
(match v11 with
| true => (match (bnd x5 (List.length x3 : Int)) with
| true => let v12 := (List.getD x3 (Int.toNat x5) (0 : Int));
F39 R x2 fun y13 y14 =>
F68 R v12 x2 fun y15 y16 =>
let v17 := (y16 != (0 : Int));
(match v17 with
| true => k0 (0 : Int)
| false => (match (bnd v12 (List.length x2 : Int)) with
| true => let v18 := (List.getD x2 (Int.toNat v12) (0 : Int));
let v19 := (v18 == (0 : Int));
(match v19 with
| true => k0 (0 : Int)
| false => F60 R y13 fun y20 =>
F70 R y20 fun y21 y22 =>
let v23 := (y22 != (0 : Int));
(match v23 with
| true => (match (bnd v12 (List.length x2 : Int)) with
| true => let v24 := (List.getD x2 (Int.toNat v12) (0 : Int));
F71 R v24 fun y25 =>
let v26 : (List (List Int)) := ([y25] : (List (List Int)));
(match (decide (List.length x7 + List.length v26 ≤ 5864062014805)) with
| true => let v27 : (List (List Int)) := (x7 ++ v26);
let v28 : (List Int) := ([y20] : (List Int));
(match (decide (List.length x8 + List.length v28 ≤ 17592186044416)) with
| true => let v29 : (List Int) := (x8 ++ v28);
F71 R y13 fun y30 =>
F72 R y21 y30 fun y31 y32 =>
let v33 := (y32 != (0 : Int));
(match v33 with
| true => let v34 : (List (List Int)) := ([y31] : (List (List Int)));
(match (decide (List.length x9 + List.length v34 ≤ 5864062014805)) with
| true => let v35 : (List (List Int)) := (x9 ++ v34);
none
| false => none)
| false => let v36 : (List (List Int)) := ([y31] : (List (List Int)));
(match (decide (List.length x9 + List.length v36 ≤ 5864062014805)) with
| true => let v37 : (List (List Int)) := (x9 ++ v36);
let v38 := (IntKind.i64.wrap (x5 + (1 : Int)));
kc x1 y15 x3 x4 v38 x6 v27 v29 v37 (x10.1, y22, ())
| false => none))
| false => none)
| false => none)
| false => none)
| false => (match (bnd v12 (List.length x2 : Int)) with
| true => let v39 := (List.getD x2 (Int.toNat v12) (0 : Int));
F71 R v39 fun y40 =>
let v41 : (List (List Int)) := ([y40] : (List (List Int)));
(match (decide (List.length x7 + List.length v41 ≤ 5864062014805)) with
| true => let v42 : (List (List Int)) := (x7 ++ v41);
let v43 : (List Int) := ([y20] : (List Int));
(match (decide (List.length x8 + List.length v43 ≤ 17592186044416)) with
| true => let v44 : (List Int) := (x8 ++ v43);
F71 R y13 fun y45 =>
F72 R y21 y45 fun y46 y47 =>
let v48 := (y47 != (0 : Int));
(match v48 with
| true => let v49 : (List (List Int)) := ([y46] : (List (List Int)));
(match (decide (List.length x9 + List.length v49 ≤ 5864062014805)) with
| true => let v50 : (List (List Int)) := (x9 ++ v49);
none
| false => none)
| false => let v51 : (List (List Int)) := ([y46] : (List (List Int)));
(match (decide (List.length x9 + List.length v51 ≤ 5864062014805)) with
| true => let v52 : (List (List Int)) := (x9 ++ v51);
let v53 := (IntKind.i64.wrap (x5 + (1 : Int)));
kc x1 y15 x3 x4 v53 x6 v42 v44 v52 (x10.1, x10.2.1, ())
| false => none))
| false => none)
| false => none)
| false => none)))
| false => none))
| false => none)
| false => k1 x1 x6 x7 x8 x9 (x10.1, x10.2.1, ()))
theorem q20_9 (F39 : FT39) (F41 : FT41) (F60 : FT60) (F68 : FT68) (F70 : FT70) (F71 : FT71) (F72 : FT72) (L9 : LT20_9) (R : Type) (x : HT (le20_9 L9).H) (kc : HT (le20_9 L9).H → Option R) (ke : KT R (le20_9 L9).exs) :
  exec (e20 F39 F41 F60 F68 F70 F71 F72 L9 R) (lcode 9 (codeOf Try.f20)) (stOf (le20_9 L9).H x 5) (roundK (le20_9 L9).H (le20_9 L9).exs kc ke) =
    p20_9 F39 F60 F68 F70 F71 F72 R x.1 x.2.1 x.2.2.1 x.2.2.2.1 x.2.2.2.2.1 x.2.2.2.2.2.1 x.2.2.2.2.2.2.1 x.2.2.2.2.2.2.2.1 x.2.2.2.2.2.2.2.2.1 x.2.2.2.2.2.2.2.2.2.1 (fun x1 x2 x3 x4 x5 x6 x7 x8 x9 x10 => kc (x1, x2, x3, x4, x5, x6, x7, x8, x9, x10, ())) (fun y1 => ke.1 (y1, ())) (fun y1 y2 y3 y4 y5 y6 => ke.2.1 (y1, y2, y3, y4, y5, y6, ())) := by kernel_rfl
noncomputable def G20_9 : Nat → LT20_9
  | 0 => fun _ _ _ _ _ _ _ _ _ _ _ _ _ => none
  | n + 1 => fun R x1 x2 x3 x4 x5 x6 x7 x8 x9 x10 k0 k1 => p20_9 F39 F60 F68 F70 F71 F72 R x1 x2 x3 x4 x5 x6 x7 x8 x9 x10 (fun x1 x2 x3 x4 x5 x6 x7 x8 x9 x10 => G20_9 n R x1 x2 x3 x4 x5 x6 x7 x8 x9 x10 k0 k1) k0 k1
def p20 (F39 : FT39) (F41 : FT41) (L9 : LT20_9) : FT20 := fun R a0 a1 a2 a3 k =>
let v1 := (List.length a0 : Int);
let v2 := (decide (v1 > (16 : Int)));
(match v2 with
| true => k ([] : (List Int)) (1 : Int)
| false => let v3 := (decide (a1 < (0 : Int)));
(match v3 with
| true => k ([] : (List Int)) (1 : Int)
| false => let v4 := (decide (a1 > (256 : Int)));
(match v4 with
| true => k ([] : (List Int)) (1 : Int)
| false => let v5 := (decide (a2 < (1 : Int)));
(match v5 with
| true => k ([] : (List Int)) (1 : Int)
| false => let v6 := (decide (a2 > (8 : Int)));
(match v6 with
| true => k ([] : (List Int)) (1 : Int)
| false => F39 R a3 fun y7 y8 =>
let v9 := (y8 != (0 : Int));
(match v9 with
| true => k ([] : (List Int)) y8
| false => let v10 := (List.length a0 : Int);
L9 R a1 a3 a0 v10 (0 : Int) ([] : List (Tq1 × (List Int))) ([] : (List (List Int))) ([] : (List Int)) ([] : (List (List Int))) (a2, (0 : Int), ()) (fun x11 =>
k ([] : (List Int)) x11) (fun x12 x13 x14 x15 x16 x17 =>
F41 R (x17.1, x14, x15, x16, x17.2.1, ()) x13 ((0 : Int), x12, ()) fun y18 s19 m20 =>
k y18 s19.2.2.2.2.1)))))))
theorem q20 (F39 : FT39) (F41 : FT41) (F60 : FT60) (F68 : FT68) (F70 : FT70) (F71 : FT71) (F72 : FT72) (L9 : LT20_9) (F : FT20) (R : Type) (x : AT (en20 F).ins) (k : RT (en20 F).outs → PT (en20 F).ins → Option R) :
  xfun (e20 F39 F41 F60 F68 F70 F71 F72 L9 R) (codeOf Try.f20) res20 (avs (en20 F).ins x) (finK (en20 F).outs (en20 F).ins k) = p20 F39 F41 L9 R x.1 x.2.1 x.2.2.1 x.2.2.2.1 (fun y1 y2 => k (y1, y2, ()) ()) := by kernel_rfl
noncomputable def F20 : FT20 := p20 F39 F41 (G20_9 FUEL)
theorem env20 (R : Type) : EnvOK Try.prog (e20 F39 F41 F60 F68 F70 F71 F72 (G20_9 FUEL) R) := ⟨tabOK, eqOK, callOf_ok (allE_cons ok39 (allE_cons ok60 (allE_cons ok68 (allE_cons ok70 (allE_cons ok71 (allE_cons ok72 allE_nil)))))), noIns, (inlOK_consM ok41 (inlOK_cons (xinl_sound (env40i0 R) mixed Try.func40 (body := codeOf Try.f40) (by kernel_rfl) (by kernel_rfl) (by kernel_rfl) (res := [.tmp 6, .tmp 7]) (by kernel_rfl) (n := 3) (Nat.le_of_ble_eq_true rfl) (by kernel_rfl)) inlOK_nil))⟩
noncomputable def T20_9 : (R : Type) → HT (le20_9 (G20_9 FUEL)).H → (HT (le20_9 (G20_9 FUEL)).H → Option R) → KT R (le20_9 (G20_9 FUEL)).exs → Option R := fun R x kc ke => p20_9 F39 F60 F68 F70 F71 F72 R x.1 x.2.1 x.2.2.1 x.2.2.2.1 x.2.2.2.2.1 x.2.2.2.2.2.1 x.2.2.2.2.2.2.1 x.2.2.2.2.2.2.2.1 x.2.2.2.2.2.2.2.2.1 x.2.2.2.2.2.2.2.2.2.1 (fun x1 x2 x3 x4 x5 x6 x7 x8 x9 x10 => kc (x1, x2, x3, x4, x5, x6, x7, x8, x9, x10, ())) (fun y1 => ke.1 (y1, ())) (fun y1 y2 y3 y4 y5 y6 => ke.2.1 (y1, y2, y3, y4, y5, y6, ()))
theorem it20_9 : ∀ (n : Nat) (R : Type) (x : HT (le20_9 (G20_9 FUEL)).H) (ke : KT R (le20_9 (G20_9 FUEL)).exs), iter T20_9 n R x ke = G20_9 n R x.1 x.2.1 x.2.2.1 x.2.2.2.1 x.2.2.2.2.1 x.2.2.2.2.2.1 x.2.2.2.2.2.2.1 x.2.2.2.2.2.2.2.1 x.2.2.2.2.2.2.2.2.1 x.2.2.2.2.2.2.2.2.2.1 (fun y1 => ke.1 (y1, ())) (fun y1 y2 y3 y4 y5 y6 => ke.2.1 (y1, y2, y3, y4, y5, y6, ())) := by
  intro n
  induction n with
  | zero => intro R x ke; rfl
  | succ n ih =>
    intro R x ke
    show T20_9 R x (fun x' => iter T20_9 n R x' ke) ke = _
    rw [show (fun x' => iter T20_9 n R x' ke) = fun x => G20_9 n R x.1 x.2.1 x.2.2.1 x.2.2.2.1 x.2.2.2.2.1 x.2.2.2.2.2.1 x.2.2.2.2.2.2.1 x.2.2.2.2.2.2.2.1 x.2.2.2.2.2.2.2.2.1 x.2.2.2.2.2.2.2.2.2.1 (fun y1 => ke.1 (y1, ())) (fun y1 y2 y3 y4 y5 y6 => ke.2.1 (y1, y2, y3, y4, y5, y6, ())) from funext fun x' => ih R x' ke]
    rfl
theorem lok20_9 : (le20_9 (G20_9 FUEL)).OK Try.prog 0 77 (lcode 9 (codeOf Try.f20)) := fun R x ke r h =>
  iter_sound (fun R => e20 F39 F41 F60 F68 F70 F71 F72 (G20_9 FUEL) R) 0 77 (fun _ => rfl) (fun _ => rfl) (fun R => env20 R) mixed (by
    intro R
    rw [show loopsOf (lcode 9 (codeOf Try.f20)) = [] from by kernel_rfl]
    exact allM_nil) (T := T20_9) (fun R x kc ke => q20_9 F39 F41 F60 F68 F70 F71 F72 (G20_9 FUEL) R x kc ke) FUEL R x ke r ((it20_9 FUEL R x ke).trans h)
theorem ok20 : (en20 F20).OK Try.prog :=
  ent_ok (Ef := fun R => e20 F39 F41 F60 F68 F70 F71 F72 (G20_9 FUEL) R) (fun R => env20 R) mixed Try.func20 (body := codeOf Try.f20) (by kernel_rfl) (by kernel_rfl) (np := 0) (nt := 77) (fun _ => rfl) (fun _ => rfl) (by kernel_rfl) (res := res20) (by kernel_rfl) (fun _ => rfl) (fun _ => Nat.le_of_ble_eq_true rfl) (by
    intro R
    rw [show loopsOf (codeOf Try.f20) = [lcode 9 (codeOf Try.f20)] from by kernel_rfl]
    exact (allM_cons (loop_ok2 (e := le20_9 (G20_9 FUEL)) rfl rfl lok20_9) allM_nil)) (fun R x k => q20 F39 F41 F60 F68 F70 F71 F72 (G20_9 FUEL) F20 R x k)
abbrev FT19 : Type 1 := (R : Type) → (List Int) → (List Int) → (Bool → Option R) → Option R
def en19 (F : FT19) : Ent := ⟨19, [(false, (.sl (.int .i64))), (false, (.sl (.int .i64)))], [(false, .bool)], fun R x k => F R x.1 x.2.1 (fun y1 => k (y1, ()) ())⟩
def res19 : List (ResultVar × TypeId × Bool) := [(.tmp 4, 4, false)]
abbrev LT19_4 : Type 1 := (R : Type) → (List Int) → (List Int) → Int → (Bool → Option R) → (Option R) → Option R
def le19_4 (L : LT19_4) : LEnt := ⟨4, [.val 0 (.sl (.int .i64)), .val 1 (.sl (.int .i64)), .val 5 (.int .i64)], 0, [(.ret, [.val 4 .bool]), (.exit 0, [])], fun R x ke => L R x.1 x.2.1 x.2.2.1 (fun y1 => ke.1 (y1, ())) (ke.2.1 ())⟩
noncomputable def e19 (L4 : LT19_4) (R : Type) : Env R := ⟨TT, EQT, 0, 26, ownOf [], callOf [] R, loopOf [le19_4 L4] R, [], inlOf []⟩
def p19_4 : (R : Type) → (List Int) → (List Int) → Int → ((List Int) → (List Int) → Int → Option R) → (Bool → Option R) → (Option R) → Option R := fun R x1 x2 x3 kc k0 k1 =>
let v4 := (List.length x1 : Int);
let v5 := (decide (x3 < v4));
(match v5 with
| true => (match (bnd x3 (List.length x1 : Int)) with
| true => let v6 := (List.getD x1 (Int.toNat x3) (0 : Int));
(match (bnd x3 (List.length x2 : Int)) with
| true => let v7 := (List.getD x2 (Int.toNat x3) (0 : Int));
let v8 := (v6 != v7);
(match v8 with
| true => k0 false
| false => let v9 := (IntKind.i64.wrap (x3 + (1 : Int)));
kc x1 x2 v9)
| false => none)
| false => none)
| false => k1)
theorem q19_4 (L4 : LT19_4) (R : Type) (x : HT (le19_4 L4).H) (kc : HT (le19_4 L4).H → Option R) (ke : KT R (le19_4 L4).exs) :
  exec (e19 L4 R) (lcode 4 (codeOf Try.f19)) (stOf (le19_4 L4).H x 0) (roundK (le19_4 L4).H (le19_4 L4).exs kc ke) =
    p19_4 R x.1 x.2.1 x.2.2.1 (fun x1 x2 x3 => kc (x1, x2, x3, ())) (fun y1 => ke.1 (y1, ())) (ke.2.1 ()) := by kernel_rfl
noncomputable def G19_4 : Nat → LT19_4
  | 0 => fun _ _ _ _ _ _ => none
  | n + 1 => fun R x1 x2 x3 k0 k1 => p19_4 R x1 x2 x3 (fun x1 x2 x3 => G19_4 n R x1 x2 x3 k0 k1) k0 k1
def p19 (L4 : LT19_4) : FT19 := fun R a0 a1 k =>
let v1 := (List.length a0 : Int);
let v2 := (List.length a1 : Int);
let v3 := (v1 != v2);
(match v3 with
| true => k false
| false => L4 R a0 a1 (0 : Int) (fun x4 =>
k x4) (k true))
theorem q19 (L4 : LT19_4) (F : FT19) (R : Type) (x : AT (en19 F).ins) (k : RT (en19 F).outs → PT (en19 F).ins → Option R) :
  xfun (e19 L4 R) (codeOf Try.f19) res19 (avs (en19 F).ins x) (finK (en19 F).outs (en19 F).ins k) = p19 L4 R x.1 x.2.1 (fun y1 => k (y1, ()) ()) := by kernel_rfl
noncomputable def F19 : FT19 := p19 (G19_4 FUEL)
theorem env19 (R : Type) : EnvOK Try.prog (e19 (G19_4 FUEL) R) := ⟨tabOK, eqOK, callOf_ok allE_nil, noIns, inlOK_nil⟩
noncomputable def T19_4 : (R : Type) → HT (le19_4 (G19_4 FUEL)).H → (HT (le19_4 (G19_4 FUEL)).H → Option R) → KT R (le19_4 (G19_4 FUEL)).exs → Option R := fun R x kc ke => p19_4 R x.1 x.2.1 x.2.2.1 (fun x1 x2 x3 => kc (x1, x2, x3, ())) (fun y1 => ke.1 (y1, ())) (ke.2.1 ())
theorem it19_4 : ∀ (n : Nat) (R : Type) (x : HT (le19_4 (G19_4 FUEL)).H) (ke : KT R (le19_4 (G19_4 FUEL)).exs), iter T19_4 n R x ke = G19_4 n R x.1 x.2.1 x.2.2.1 (fun y1 => ke.1 (y1, ())) (ke.2.1 ()) := by
  intro n
  induction n with
  | zero => intro R x ke; rfl
  | succ n ih =>
    intro R x ke
    show T19_4 R x (fun x' => iter T19_4 n R x' ke) ke = _
    rw [show (fun x' => iter T19_4 n R x' ke) = fun x => G19_4 n R x.1 x.2.1 x.2.2.1 (fun y1 => ke.1 (y1, ())) (ke.2.1 ()) from funext fun x' => ih R x' ke]
    rfl
theorem lok19_4 : (le19_4 (G19_4 FUEL)).OK Try.prog 0 26 (lcode 4 (codeOf Try.f19)) := fun R x ke r h =>
  iter_sound (fun R => e19 (G19_4 FUEL) R) 0 26 (fun _ => rfl) (fun _ => rfl) (fun R => env19 R) mixed (by
    intro R
    rw [show loopsOf (lcode 4 (codeOf Try.f19)) = [] from by kernel_rfl]
    exact allM_nil) (T := T19_4) (fun R x kc ke => q19_4 (G19_4 FUEL) R x kc ke) FUEL R x ke r ((it19_4 FUEL R x ke).trans h)
theorem ok19 : (en19 F19).OK Try.prog :=
  ent_ok (Ef := fun R => e19 (G19_4 FUEL) R) (fun R => env19 R) mixed Try.func19 (body := codeOf Try.f19) (by kernel_rfl) (by kernel_rfl) (np := 0) (nt := 26) (fun _ => rfl) (fun _ => rfl) (by kernel_rfl) (res := res19) (by kernel_rfl) (fun _ => rfl) (fun _ => Nat.le_of_ble_eq_true rfl) (by
    intro R
    rw [show loopsOf (codeOf Try.f19) = [lcode 4 (codeOf Try.f19)] from by kernel_rfl]
    exact (allM_cons (loop_ok2 (e := le19_4 (G19_4 FUEL)) rfl rfl lok19_4) allM_nil)) (fun R x k => q19 (G19_4 FUEL) F19 R x k)
abbrev FT23 : Type 1 := (R : Type) → (List Int) → (List Int) → (Bool → Option R) → Option R
def en23 (F : FT23) : Ent := ⟨23, [(false, (.sl (.int .u32))), (false, (.sl (.int .u32)))], [(false, .bool)], fun R x k => F R x.1 x.2.1 (fun y1 => k (y1, ()) ())⟩
def res23 : List (ResultVar × TypeId × Bool) := [(.tmp 4, 4, false)]
abbrev LT23_4 : Type 1 := (R : Type) → (List Int) → (List Int) → Int → (Bool → Option R) → (Option R) → Option R
def le23_4 (L : LT23_4) : LEnt := ⟨4, [.val 0 (.sl (.int .u32)), .val 1 (.sl (.int .u32)), .val 5 (.int .i64)], 0, [(.ret, [.val 4 .bool]), (.exit 0, [])], fun R x ke => L R x.1 x.2.1 x.2.2.1 (fun y1 => ke.1 (y1, ())) (ke.2.1 ())⟩
noncomputable def e23 (L4 : LT23_4) (R : Type) : Env R := ⟨TT, EQT, 0, 26, ownOf [], callOf [] R, loopOf [le23_4 L4] R, [], inlOf []⟩
def p23_4 : (R : Type) → (List Int) → (List Int) → Int → ((List Int) → (List Int) → Int → Option R) → (Bool → Option R) → (Option R) → Option R := fun R x1 x2 x3 kc k0 k1 =>
let v4 := (List.length x1 : Int);
let v5 := (decide (x3 < v4));
(match v5 with
| true => (match (bnd x3 (List.length x1 : Int)) with
| true => let v6 := (List.getD x1 (Int.toNat x3) (0 : Int));
(match (bnd x3 (List.length x2 : Int)) with
| true => let v7 := (List.getD x2 (Int.toNat x3) (0 : Int));
let v8 := (v6 != v7);
(match v8 with
| true => k0 false
| false => let v9 := (IntKind.i64.wrap (x3 + (1 : Int)));
kc x1 x2 v9)
| false => none)
| false => none)
| false => k1)
theorem q23_4 (L4 : LT23_4) (R : Type) (x : HT (le23_4 L4).H) (kc : HT (le23_4 L4).H → Option R) (ke : KT R (le23_4 L4).exs) :
  exec (e23 L4 R) (lcode 4 (codeOf Try.f23)) (stOf (le23_4 L4).H x 0) (roundK (le23_4 L4).H (le23_4 L4).exs kc ke) =
    p23_4 R x.1 x.2.1 x.2.2.1 (fun x1 x2 x3 => kc (x1, x2, x3, ())) (fun y1 => ke.1 (y1, ())) (ke.2.1 ()) := by kernel_rfl
noncomputable def G23_4 : Nat → LT23_4
  | 0 => fun _ _ _ _ _ _ => none
  | n + 1 => fun R x1 x2 x3 k0 k1 => p23_4 R x1 x2 x3 (fun x1 x2 x3 => G23_4 n R x1 x2 x3 k0 k1) k0 k1
def p23 (L4 : LT23_4) : FT23 := fun R a0 a1 k =>
let v1 := (List.length a0 : Int);
let v2 := (List.length a1 : Int);
let v3 := (v1 != v2);
(match v3 with
| true => k false
| false => L4 R a0 a1 (0 : Int) (fun x4 =>
k x4) (k true))
theorem q23 (L4 : LT23_4) (F : FT23) (R : Type) (x : AT (en23 F).ins) (k : RT (en23 F).outs → PT (en23 F).ins → Option R) :
  xfun (e23 L4 R) (codeOf Try.f23) res23 (avs (en23 F).ins x) (finK (en23 F).outs (en23 F).ins k) = p23 L4 R x.1 x.2.1 (fun y1 => k (y1, ()) ()) := by kernel_rfl
noncomputable def F23 : FT23 := p23 (G23_4 FUEL)
theorem env23 (R : Type) : EnvOK Try.prog (e23 (G23_4 FUEL) R) := ⟨tabOK, eqOK, callOf_ok allE_nil, noIns, inlOK_nil⟩
noncomputable def T23_4 : (R : Type) → HT (le23_4 (G23_4 FUEL)).H → (HT (le23_4 (G23_4 FUEL)).H → Option R) → KT R (le23_4 (G23_4 FUEL)).exs → Option R := fun R x kc ke => p23_4 R x.1 x.2.1 x.2.2.1 (fun x1 x2 x3 => kc (x1, x2, x3, ())) (fun y1 => ke.1 (y1, ())) (ke.2.1 ())
theorem it23_4 : ∀ (n : Nat) (R : Type) (x : HT (le23_4 (G23_4 FUEL)).H) (ke : KT R (le23_4 (G23_4 FUEL)).exs), iter T23_4 n R x ke = G23_4 n R x.1 x.2.1 x.2.2.1 (fun y1 => ke.1 (y1, ())) (ke.2.1 ()) := by
  intro n
  induction n with
  | zero => intro R x ke; rfl
  | succ n ih =>
    intro R x ke
    show T23_4 R x (fun x' => iter T23_4 n R x' ke) ke = _
    rw [show (fun x' => iter T23_4 n R x' ke) = fun x => G23_4 n R x.1 x.2.1 x.2.2.1 (fun y1 => ke.1 (y1, ())) (ke.2.1 ()) from funext fun x' => ih R x' ke]
    rfl
theorem lok23_4 : (le23_4 (G23_4 FUEL)).OK Try.prog 0 26 (lcode 4 (codeOf Try.f23)) := fun R x ke r h =>
  iter_sound (fun R => e23 (G23_4 FUEL) R) 0 26 (fun _ => rfl) (fun _ => rfl) (fun R => env23 R) mixed (by
    intro R
    rw [show loopsOf (lcode 4 (codeOf Try.f23)) = [] from by kernel_rfl]
    exact allM_nil) (T := T23_4) (fun R x kc ke => q23_4 (G23_4 FUEL) R x kc ke) FUEL R x ke r ((it23_4 FUEL R x ke).trans h)
theorem ok23 : (en23 F23).OK Try.prog :=
  ent_ok (Ef := fun R => e23 (G23_4 FUEL) R) (fun R => env23 R) mixed Try.func23 (body := codeOf Try.f23) (by kernel_rfl) (by kernel_rfl) (np := 0) (nt := 26) (fun _ => rfl) (fun _ => rfl) (by kernel_rfl) (res := res23) (by kernel_rfl) (fun _ => rfl) (fun _ => Nat.le_of_ble_eq_true rfl) (by
    intro R
    rw [show loopsOf (codeOf Try.f23) = [lcode 4 (codeOf Try.f23)] from by kernel_rfl]
    exact (allM_cons (loop_ok2 (e := le23_4 (G23_4 FUEL)) rfl rfl lok23_4) allM_nil)) (fun R x k => q23 (G23_4 FUEL) F23 R x k)
abbrev FT17 : Type 1 := (R : Type) → (Bool → Option R) → Option R
def en17 (F : FT17) : Ent := ⟨17, [], [(false, .bool)], fun R x k => F R  (fun y1 => k (y1, ()) ())⟩
def res17 : List (ResultVar × TypeId × Bool) := [(.tmp 0, 4, false)]
noncomputable def e17 (F12 : FT12) (F18 : FT18) (F19 : FT19) (F20 : FT20) (F21 : FT21) (F22 : FT22) (F23 : FT23) (R : Type) : Env R := ⟨TT, EQT, 0, 138, ownOf [], callOf [en12 F12, en18 F18, en19 F19, en20 F20, en21 F21, en22 F22, en23 F23] R, loopOf [] R, [], inlOf []⟩
def p17 (F12 : FT12) (F18 : FT18) (F19 : FT19) (F20 : FT20) (F21 : FT21) (F22 : FT22) (F23 : FT23) : FT17 := fun R k =>
let v1 : (List Int) := ([(128 : Int)] : (List Int));
F12 R v1 (8 : Int) fun y2 y3 =>
let v4 : (List Int) := ([(1 : Int), (0 : Int), (1 : Int)] : (List Int));
F21 R v4 fun y5 =>
F22 R y5 (2 : Int) y2 (1 : Int) fun y6 y7 y8 =>
let v9 : (List Int) := ([(1 : Int), (0 : Int), (1 : Int)] : (List Int));
F18 R (2 : Int) y2 (1 : Int) v9 fun y10 y11 y12 =>
F22 R y5 (3 : Int) y2 (1 : Int) fun y13 y14 y15 =>
F22 R y5 (257 : Int) y2 (1 : Int) fun y16 y17 y18 =>
let v19 : (List Int) := ([(2 : Int), (0 : Int)] : (List Int));
let v20 : (List Int) := ([(1 : Int), (0 : Int), (1 : Int)] : (List Int));
F20 R v19 (3 : Int) (1 : Int) v20 fun y21 y22 =>
let v23 : (List Int) := ([(0 : Int), (0 : Int)] : (List Int));
let v24 : (List Int) := ([(1 : Int), (0 : Int), (1 : Int)] : (List Int));
F20 R v23 (3 : Int) (1 : Int) v24 fun y25 y26 =>
F22 R y5 (0 : Int) y2 (1 : Int) fun y27 y28 y29 =>
let v30 := (y8 == (0 : Int));
(match v30 with
| true => let v31 := (y12 == (0 : Int));
(match v31 with
| true => let v32 := (y15 == (12 : Int));
(match v32 with
| true => let v33 := (y18 == (1 : Int));
(match v33 with
| true => let v34 := (y22 == (0 : Int));
(match v34 with
| true => let v35 := (y26 == (0 : Int));
(match v35 with
| true => let v36 := (y29 == (0 : Int));
(match v36 with
| true => let v37 : (List Int) := ([(2 : Int), (0 : Int)] : (List Int));
F19 R y6 v37 fun y38 =>
(match y38 with
| true => F19 R y10 y6 fun y39 =>
(match y39 with
| true => let v40 := (y7.2.2.2.2.2.1 == (1 : Int));
(match v40 with
| true => let v41 := (y14.2.2.2.2.2.1 == (0 : Int));
(match v41 with
| true => let v42 : (List Int) := ([(4 : Int)] : (List Int));
F23 R y21 v42 fun y43 =>
(match y43 with
| true => let v44 := (List.length y25 : Int);
let v45 := (v44 == (0 : Int));
(match v45 with
| true => let v46 := (List.length y27 : Int);
let v47 := (v46 == (0 : Int));
k v47
| false => k false)
| false => k false)
| false => k false)
| false => k false)
| false => k false)
| false => k false)
| false => k false)
| false => k false)
| false => k false)
| false => k false)
| false => k false)
| false => k false)
| false => k false)
theorem q17 (F12 : FT12) (F18 : FT18) (F19 : FT19) (F20 : FT20) (F21 : FT21) (F22 : FT22) (F23 : FT23) (F : FT17) (R : Type) (x : AT (en17 F).ins) (k : RT (en17 F).outs → PT (en17 F).ins → Option R) :
  xfun (e17 F12 F18 F19 F20 F21 F22 F23 R) (codeOf Try.f17) res17 (avs (en17 F).ins x) (finK (en17 F).outs (en17 F).ins k) = p17 F12 F18 F19 F20 F21 F22 F23 R  (fun y1 => k (y1, ()) ()) := by kernel_rfl
noncomputable def F17 : FT17 := p17 F12 F18 F19 F20 F21 F22 F23
theorem env17 (R : Type) : EnvOK Try.prog (e17 F12 F18 F19 F20 F21 F22 F23 R) := ⟨tabOK, eqOK, callOf_ok (allE_cons ok12 (allE_cons ok18 (allE_cons ok19 (allE_cons ok20 (allE_cons ok21 (allE_cons ok22 (allE_cons ok23 allE_nil))))))), noIns, inlOK_nil⟩
theorem ok17 : (en17 F17).OK Try.prog :=
  ent_ok (Ef := fun R => e17 F12 F18 F19 F20 F21 F22 F23 R) (fun R => env17 R) mixed Try.func17 (body := codeOf Try.f17) (by kernel_rfl) (by kernel_rfl) (np := 0) (nt := 138) (fun _ => rfl) (fun _ => rfl) (by kernel_rfl) (res := res17) (by kernel_rfl) (fun _ => rfl) (fun _ => Nat.le_of_ble_eq_true rfl) (by
    intro R
    rw [show loopsOf (codeOf Try.f17) = [] from by kernel_rfl]
    exact allM_nil) (fun R x k => q17 F12 F18 F19 F20 F21 F22 F23 F17 R x k)
abbrev FT15 : Type 1 := (R : Type) → (List Int) → Tq7 → (Bool → Option R) → Option R
def en15 (F : FT15) : Ent := ⟨15, [(false, (.sl (.int .u64))), (false, Kq7)], [(false, .bool)], fun R x k => F R x.1 x.2.1 (fun y1 => k (y1, ()) ())⟩
def p15 : FT15 := fun R a0 a1 k =>
let v1 := (List.length a0 : Int);
let v2 := (decide (v1 > (200 : Int)));
(match v2 with
| true => k true
| false => let v3 := (List.length a1.2.1 : Int);
let v4 := (decide (v3 > (500 : Int)));
k v4)
noncomputable def F15 : FT15 := p15
abbrev FT5 : Type 1 := (R : Type) → (List Int) → Int → Tq7 → (Bool → Option R) → Option R
def en5 (F : FT5) : Ent := ⟨5, [(false, (.sl (.int .u64))), (false, (.int .u8)), (false, Kq7)], [(false, .bool)], fun R x k => F R x.1 x.2.1 x.2.2.1 (fun y1 => k (y1, ()) ())⟩
def res5 : List (ResultVar × TypeId × Bool) := [(.tmp 6, 4, false)]
abbrev LT5_11 : Type 1 := (R : Type) → (List Int) → Int → (List Int) → Int → Tq7 → Tq7 → (Bool → Option R) → ((List Int) → Int → (List Int) → Tq7 → Tq7 → Option R) → Option R
def le5_11 (L : LT5_11) : LEnt := ⟨11, [.val 0 (.sl (.int .u64)), .val 1 (.int .u8), .fix 5 (.ptr 0 [] Kq7), .val 7 (.sl (.int .i64)), .fix 8 (.ptr 1 [] Kq7), .val 10 (.int .i64), .var 0 Kq7 false, .var 1 Kq7 false], 2, [(.ret, [.val 6 .bool]), (.exit 0, [.val 0 (.sl (.int .u64)), .val 1 (.int .u8), .fix 5 (.ptr 0 [] Kq7), .val 7 (.sl (.int .i64)), .fix 8 (.ptr 1 [] Kq7), .var 0 Kq7 false, .var 1 Kq7 false])], fun R x ke => L R x.1 x.2.1 x.2.2.1 x.2.2.2.1 x.2.2.2.2.1 x.2.2.2.2.2.1 (fun y1 => ke.1 (y1, ())) (fun y1 y2 y3 y4 y5 => ke.2.1 (y1, y2, y3, y4, y5, ()))⟩
abbrev LT5_16 : Type 1 := (R : Type) → (List Int) → Int → (List Int) → Int → Int → Tq7 → Tq7 → (Bool → Option R) → ((List Int) → Int → (List Int) → Int → Tq7 → Tq7 → Option R) → Option R
def le5_16 (L : LT5_16) : LEnt := ⟨16, [.val 0 (.sl (.int .u64)), .val 1 (.int .u8), .fix 5 (.ptr 0 [] Kq7), .val 7 (.sl (.int .i64)), .fix 8 (.ptr 1 [] Kq7), .val 10 (.int .i64), .val 11 (.int .i64), .var 0 Kq7 false, .var 1 Kq7 false], 2, [(.ret, [.val 6 .bool]), (.exit 2, [.val 0 (.sl (.int .u64)), .val 1 (.int .u8), .fix 5 (.ptr 0 [] Kq7), .val 7 (.sl (.int .i64)), .fix 8 (.ptr 1 [] Kq7), .val 10 (.int .i64), .var 0 Kq7 false, .var 1 Kq7 false])], fun R x ke => L R x.1 x.2.1 x.2.2.1 x.2.2.2.1 x.2.2.2.2.1 x.2.2.2.2.2.1 x.2.2.2.2.2.2.1 (fun y1 => ke.1 (y1, ())) (fun y1 y2 y3 y4 y5 y6 => ke.2.1 (y1, y2, y3, y4, y5, y6, ()))⟩
noncomputable def e5 (F15 : FT15) (F17 : FT17) (F18 : FT18) (F19 : FT19) (L11 : LT5_11) (L16 : LT5_16) (R : Type) : Env R := ⟨TT, EQT, 0, 121, ownOf [], callOf [en15 F15, en17 F17, en18 F18, en19 F19] R, loopOf [le5_11 L11, le5_16 L16] R, [], inlOf []⟩
def p5 (F15 : FT15) (F17 : FT17) (F18 : FT18) (F19 : FT19) (L11 : LT5_11) : FT5 := fun R a0 a1 a2 k =>
F17 R  fun y1 =>
(match (!y1) with
| true => k false
| false => F15 R a0 a2 fun y2 =>
(match y2 with
| true => k true
| false => let v3 := (IntKind.i64.wrap a1);
F18 R v3 a2 (64 : Int) a0 fun y4 y5 y6 =>
let v7 := (y6 != (0 : Int));
(match v7 with
| true => let v8 := (List.length y4 : Int);
let v9 := (v8 == (0 : Int));
k v9
| false => let v10 := (List.length y4 : Int);
let v11 := (IntKind.i64.wrap a1);
let v12 := (v10 != v11);
(match v12 with
| true => k false
| false => let v13 := (decide (y5.2.2.2.2.2.1 < a2.2.2.2.2.2.1));
(match v13 with
| true => k false
| false => L11 R a0 a1 y4 (0 : Int) a2 y5 (fun x14 =>
k x14) (fun x15 x16 x17 x18 x19 =>
let v20 := (List.length x17 : Int);
let v21 := (v20 == (0 : Int));
(match v21 with
| true => k true
| false => let v22 := (IntKind.i64.wrap x16);
let v23 := (IntKind.i64.wrap (v22 - (1 : Int)));
F18 R v23 x18 (64 : Int) x15 fun y24 y25 y26 =>
let v27 := (y26 == (0 : Int));
(match v27 with
| true => let v28 := (List.length x17 : Int);
let v29 := (IntKind.i64.wrap (v28 - (1 : Int)));
(match (decide (0 ≤ (0 : Int) ∧ (0 : Int) ≤ v29 ∧ v29 ≤ v29 ∧ v29 ≤ (List.length x17 : Int))) with
| true => let v30 : (List Int) := (List.take (Int.toNat (v29 - (0 : Int))) (List.drop 0 x17));
F19 R y24 v30 fun y31 =>
(match y31 with
| true => let v32 := (decide (y25.2.2.2.2.2.1 ≤ x19.2.2.2.2.2.1));
k v32
| false => k false)
| false => none)
| false => k false))))))))
theorem q5 (F15 : FT15) (F17 : FT17) (F18 : FT18) (F19 : FT19) (L11 : LT5_11) (L16 : LT5_16) (F : FT5) (R : Type) (x : AT (en5 F).ins) (k : RT (en5 F).outs → PT (en5 F).ins → Option R) :
  xfun (e5 F15 F17 F18 F19 L11 L16 R) (codeOf Try.f5) res5 (avs (en5 F).ins x) (finK (en5 F).outs (en5 F).ins k) = p5 F15 F17 F18 F19 L11 R x.1 x.2.1 x.2.2.1 (fun y1 => k (y1, ()) ()) := by kernel_rfl
abbrev FT11 : Type 1 := (R : Type) → Int → Int → (Int → Option R) → Option R
def en11 (F : FT11) : Ent := ⟨11, [(false, (.int .u64)), (false, (.int .i64))], [(false, (.int .u64))], fun R x k => F R x.1 x.2.1 (fun y1 => k (y1, ()) ())⟩
def res11 : List (ResultVar × TypeId × Bool) := [(.tmp 4, 24, false)]
abbrev LT11_3 : Type 1 := (R : Type) → Int → Int → Int → Int → (Int → Option R) → Option R
def le11_3 (L : LT11_3) : LEnt := ⟨3, [.val 0 (.int .u64), .val 1 (.int .i64), .val 5 (.int .u64), .val 6 (.int .i64)], 0, [(.exit 0, [.val 5 (.int .u64)])], fun R x ke => L R x.1 x.2.1 x.2.2.1 x.2.2.2.1 (fun y1 => ke.1 (y1, ()))⟩
noncomputable def e11 (L3 : LT11_3) (R : Type) : Env R := ⟨TT, EQT, 0, 16, ownOf [], callOf [] R, loopOf [le11_3 L3] R, [], inlOf []⟩
def p11_3 : (R : Type) → Int → Int → Int → Int → (Int → Int → Int → Int → Option R) → (Int → Option R) → Option R := fun R x1 x2 x3 x4 kc k0 =>
let v5 := (decide (x4 < x2));
(match v5 with
| true => let v6 := (IntKind.u64.wrap (x3 * x1));
let v7 := (IntKind.i64.wrap (x4 + (1 : Int)));
kc x1 x2 v6 v7
| false => k0 x3)
theorem q11_3 (L3 : LT11_3) (R : Type) (x : HT (le11_3 L3).H) (kc : HT (le11_3 L3).H → Option R) (ke : KT R (le11_3 L3).exs) :
  exec (e11 L3 R) (lcode 3 (codeOf Try.f11)) (stOf (le11_3 L3).H x 0) (roundK (le11_3 L3).H (le11_3 L3).exs kc ke) =
    p11_3 R x.1 x.2.1 x.2.2.1 x.2.2.2.1 (fun x1 x2 x3 x4 => kc (x1, x2, x3, x4, ())) (fun y1 => ke.1 (y1, ())) := by kernel_rfl
noncomputable def G11_3 : Nat → LT11_3
  | 0 => fun _ _ _ _ _ _ => none
  | n + 1 => fun R x1 x2 x3 x4 k0 => p11_3 R x1 x2 x3 x4 (fun x1 x2 x3 x4 => G11_3 n R x1 x2 x3 x4 k0) k0
def p11 (L3 : LT11_3) : FT11 := fun R a0 a1 k =>
L3 R a0 a1 (1 : Int) (0 : Int) (fun x1 =>
k x1)
theorem q11 (L3 : LT11_3) (F : FT11) (R : Type) (x : AT (en11 F).ins) (k : RT (en11 F).outs → PT (en11 F).ins → Option R) :
  xfun (e11 L3 R) (codeOf Try.f11) res11 (avs (en11 F).ins x) (finK (en11 F).outs (en11 F).ins k) = p11 L3 R x.1 x.2.1 (fun y1 => k (y1, ()) ()) := by kernel_rfl
noncomputable def F11 : FT11 := p11 (G11_3 FUEL)
theorem env11 (R : Type) : EnvOK Try.prog (e11 (G11_3 FUEL) R) := ⟨tabOK, eqOK, callOf_ok allE_nil, noIns, inlOK_nil⟩
noncomputable def T11_3 : (R : Type) → HT (le11_3 (G11_3 FUEL)).H → (HT (le11_3 (G11_3 FUEL)).H → Option R) → KT R (le11_3 (G11_3 FUEL)).exs → Option R := fun R x kc ke => p11_3 R x.1 x.2.1 x.2.2.1 x.2.2.2.1 (fun x1 x2 x3 x4 => kc (x1, x2, x3, x4, ())) (fun y1 => ke.1 (y1, ()))
theorem it11_3 : ∀ (n : Nat) (R : Type) (x : HT (le11_3 (G11_3 FUEL)).H) (ke : KT R (le11_3 (G11_3 FUEL)).exs), iter T11_3 n R x ke = G11_3 n R x.1 x.2.1 x.2.2.1 x.2.2.2.1 (fun y1 => ke.1 (y1, ())) := by
  intro n
  induction n with
  | zero => intro R x ke; rfl
  | succ n ih =>
    intro R x ke
    show T11_3 R x (fun x' => iter T11_3 n R x' ke) ke = _
    rw [show (fun x' => iter T11_3 n R x' ke) = fun x => G11_3 n R x.1 x.2.1 x.2.2.1 x.2.2.2.1 (fun y1 => ke.1 (y1, ())) from funext fun x' => ih R x' ke]
    rfl
theorem lok11_3 : (le11_3 (G11_3 FUEL)).OK Try.prog 0 16 (lcode 3 (codeOf Try.f11)) := fun R x ke r h =>
  iter_sound (fun R => e11 (G11_3 FUEL) R) 0 16 (fun _ => rfl) (fun _ => rfl) (fun R => env11 R) mixed (by
    intro R
    rw [show loopsOf (lcode 3 (codeOf Try.f11)) = [] from by kernel_rfl]
    exact allM_nil) (T := T11_3) (fun R x kc ke => q11_3 (G11_3 FUEL) R x kc ke) FUEL R x ke r ((it11_3 FUEL R x ke).trans h)
theorem ok11 : (en11 F11).OK Try.prog :=
  ent_ok (Ef := fun R => e11 (G11_3 FUEL) R) (fun R => env11 R) mixed Try.func11 (body := codeOf Try.f11) (by kernel_rfl) (by kernel_rfl) (np := 0) (nt := 16) (fun _ => rfl) (fun _ => rfl) (by kernel_rfl) (res := res11) (by kernel_rfl) (fun _ => rfl) (fun _ => Nat.le_of_ble_eq_true rfl) (by
    intro R
    rw [show loopsOf (codeOf Try.f11) = [lcode 3 (codeOf Try.f11)] from by kernel_rfl]
    exact (allM_cons (loop_ok2 (e := le11_3 (G11_3 FUEL)) rfl rfl lok11_3) allM_nil)) (fun R x k => q11 (G11_3 FUEL) F11 R x k)
abbrev FT31 : Type 1 := (R : Type) → Int → Int → (Int → Option R) → Option R
def en31 (F : FT31) : Ent := ⟨31, [(false, (.int .u32)), (false, (.int .i64))], [(false, (.int .u32))], fun R x k => F R x.1 x.2.1 (fun y1 => k (y1, ()) ())⟩
def res31 : List (ResultVar × TypeId × Bool) := [(.tmp 4, 74, false)]
abbrev LT31_4 : Type 1 := (R : Type) → Int → Int → Int → (Int → Option R) → Option R
def le31_4 (L : LT31_4) : LEnt := ⟨4, [.val 0 (.int .u32), .val 1 (.int .i64), .val 5 (.int .i64)], 0, [(.exit 0, [.val 0 (.int .u32)])], fun R x ke => L R x.1 x.2.1 x.2.2.1 (fun y1 => ke.1 (y1, ()))⟩
noncomputable def e31 (L4 : LT31_4) (R : Type) : Env R := ⟨TT, EQT, 0, 16, ownOf [], callOf [] R, loopOf [le31_4 L4] R, [], inlOf []⟩
def p31_4 : (R : Type) → Int → Int → Int → (Int → Int → Int → Option R) → (Int → Option R) → Option R := fun R x1 x2 x3 kc k0 =>
let v4 := (decide (x3 < x2));
(match v4 with
| true => let v5 := (IntKind.u32.wrap (Int.tdiv x1 (2 : Int)));
let v6 := (IntKind.i64.wrap (x3 + (1 : Int)));
kc v5 x2 v6
| false => k0 x1)
theorem q31_4 (L4 : LT31_4) (R : Type) (x : HT (le31_4 L4).H) (kc : HT (le31_4 L4).H → Option R) (ke : KT R (le31_4 L4).exs) :
  exec (e31 L4 R) (lcode 4 (codeOf Try.f31)) (stOf (le31_4 L4).H x 0) (roundK (le31_4 L4).H (le31_4 L4).exs kc ke) =
    p31_4 R x.1 x.2.1 x.2.2.1 (fun x1 x2 x3 => kc (x1, x2, x3, ())) (fun y1 => ke.1 (y1, ())) := by kernel_rfl
noncomputable def G31_4 : Nat → LT31_4
  | 0 => fun _ _ _ _ _ => none
  | n + 1 => fun R x1 x2 x3 k0 => p31_4 R x1 x2 x3 (fun x1 x2 x3 => G31_4 n R x1 x2 x3 k0) k0
def p31 (L4 : LT31_4) : FT31 := fun R a0 a1 k =>
let v1 := (decide (a1 > (31 : Int)));
(match v1 with
| true => k (0 : Int)
| false => L4 R a0 a1 (0 : Int) (fun x2 =>
k x2))
theorem q31 (L4 : LT31_4) (F : FT31) (R : Type) (x : AT (en31 F).ins) (k : RT (en31 F).outs → PT (en31 F).ins → Option R) :
  xfun (e31 L4 R) (codeOf Try.f31) res31 (avs (en31 F).ins x) (finK (en31 F).outs (en31 F).ins k) = p31 L4 R x.1 x.2.1 (fun y1 => k (y1, ()) ()) := by kernel_rfl
noncomputable def F31 : FT31 := p31 (G31_4 FUEL)
theorem env31 (R : Type) : EnvOK Try.prog (e31 (G31_4 FUEL) R) := ⟨tabOK, eqOK, callOf_ok allE_nil, noIns, inlOK_nil⟩
noncomputable def T31_4 : (R : Type) → HT (le31_4 (G31_4 FUEL)).H → (HT (le31_4 (G31_4 FUEL)).H → Option R) → KT R (le31_4 (G31_4 FUEL)).exs → Option R := fun R x kc ke => p31_4 R x.1 x.2.1 x.2.2.1 (fun x1 x2 x3 => kc (x1, x2, x3, ())) (fun y1 => ke.1 (y1, ()))
theorem it31_4 : ∀ (n : Nat) (R : Type) (x : HT (le31_4 (G31_4 FUEL)).H) (ke : KT R (le31_4 (G31_4 FUEL)).exs), iter T31_4 n R x ke = G31_4 n R x.1 x.2.1 x.2.2.1 (fun y1 => ke.1 (y1, ())) := by
  intro n
  induction n with
  | zero => intro R x ke; rfl
  | succ n ih =>
    intro R x ke
    show T31_4 R x (fun x' => iter T31_4 n R x' ke) ke = _
    rw [show (fun x' => iter T31_4 n R x' ke) = fun x => G31_4 n R x.1 x.2.1 x.2.2.1 (fun y1 => ke.1 (y1, ())) from funext fun x' => ih R x' ke]
    rfl
theorem lok31_4 : (le31_4 (G31_4 FUEL)).OK Try.prog 0 16 (lcode 4 (codeOf Try.f31)) := fun R x ke r h =>
  iter_sound (fun R => e31 (G31_4 FUEL) R) 0 16 (fun _ => rfl) (fun _ => rfl) (fun R => env31 R) mixed (by
    intro R
    rw [show loopsOf (lcode 4 (codeOf Try.f31)) = [] from by kernel_rfl]
    exact allM_nil) (T := T31_4) (fun R x kc ke => q31_4 (G31_4 FUEL) R x kc ke) FUEL R x ke r ((it31_4 FUEL R x ke).trans h)
theorem ok31 : (en31 F31).OK Try.prog :=
  ent_ok (Ef := fun R => e31 (G31_4 FUEL) R) (fun R => env31 R) mixed Try.func31 (body := codeOf Try.f31) (by kernel_rfl) (by kernel_rfl) (np := 0) (nt := 16) (fun _ => rfl) (fun _ => rfl) (by kernel_rfl) (res := res31) (by kernel_rfl) (fun _ => rfl) (fun _ => Nat.le_of_ble_eq_true rfl) (by
    intro R
    rw [show loopsOf (codeOf Try.f31) = [lcode 4 (codeOf Try.f31)] from by kernel_rfl]
    exact (allM_cons (loop_ok2 (e := le31_4 (G31_4 FUEL)) rfl rfl lok31_4) allM_nil)) (fun R x k => q31 (G31_4 FUEL) F31 R x k)
abbrev FT32 : Type 1 := (R : Type) → Int → Int → (Int → Option R) → Option R
def en32 (F : FT32) : Ent := ⟨32, [(false, (.int .u32)), (false, (.int .i64))], [(false, (.int .u32))], fun R x k => F R x.1 x.2.1 (fun y1 => k (y1, ()) ())⟩
def res32 : List (ResultVar × TypeId × Bool) := [(.tmp 4, 74, false)]
abbrev LT32_4 : Type 1 := (R : Type) → Int → Int → Int → (Int → Option R) → Option R
def le32_4 (L : LT32_4) : LEnt := ⟨4, [.val 0 (.int .u32), .val 1 (.int .i64), .val 5 (.int .i64)], 0, [(.exit 0, [.val 0 (.int .u32)])], fun R x ke => L R x.1 x.2.1 x.2.2.1 (fun y1 => ke.1 (y1, ()))⟩
noncomputable def e32 (L4 : LT32_4) (R : Type) : Env R := ⟨TT, EQT, 0, 16, ownOf [], callOf [] R, loopOf [le32_4 L4] R, [], inlOf []⟩
def p32_4 : (R : Type) → Int → Int → Int → (Int → Int → Int → Option R) → (Int → Option R) → Option R := fun R x1 x2 x3 kc k0 =>
let v4 := (decide (x3 < x2));
(match v4 with
| true => let v5 := (IntKind.u32.wrap ((2 : Int) * x1));
let v6 := (IntKind.i64.wrap (x3 + (1 : Int)));
kc v5 x2 v6
| false => k0 x1)
theorem q32_4 (L4 : LT32_4) (R : Type) (x : HT (le32_4 L4).H) (kc : HT (le32_4 L4).H → Option R) (ke : KT R (le32_4 L4).exs) :
  exec (e32 L4 R) (lcode 4 (codeOf Try.f32)) (stOf (le32_4 L4).H x 0) (roundK (le32_4 L4).H (le32_4 L4).exs kc ke) =
    p32_4 R x.1 x.2.1 x.2.2.1 (fun x1 x2 x3 => kc (x1, x2, x3, ())) (fun y1 => ke.1 (y1, ())) := by kernel_rfl
noncomputable def G32_4 : Nat → LT32_4
  | 0 => fun _ _ _ _ _ => none
  | n + 1 => fun R x1 x2 x3 k0 => p32_4 R x1 x2 x3 (fun x1 x2 x3 => G32_4 n R x1 x2 x3 k0) k0
def p32 (L4 : LT32_4) : FT32 := fun R a0 a1 k =>
let v1 := (decide (a1 > (31 : Int)));
(match v1 with
| true => k (0 : Int)
| false => L4 R a0 a1 (0 : Int) (fun x2 =>
k x2))
theorem q32 (L4 : LT32_4) (F : FT32) (R : Type) (x : AT (en32 F).ins) (k : RT (en32 F).outs → PT (en32 F).ins → Option R) :
  xfun (e32 L4 R) (codeOf Try.f32) res32 (avs (en32 F).ins x) (finK (en32 F).outs (en32 F).ins k) = p32 L4 R x.1 x.2.1 (fun y1 => k (y1, ()) ()) := by kernel_rfl
noncomputable def F32 : FT32 := p32 (G32_4 FUEL)
theorem env32 (R : Type) : EnvOK Try.prog (e32 (G32_4 FUEL) R) := ⟨tabOK, eqOK, callOf_ok allE_nil, noIns, inlOK_nil⟩
noncomputable def T32_4 : (R : Type) → HT (le32_4 (G32_4 FUEL)).H → (HT (le32_4 (G32_4 FUEL)).H → Option R) → KT R (le32_4 (G32_4 FUEL)).exs → Option R := fun R x kc ke => p32_4 R x.1 x.2.1 x.2.2.1 (fun x1 x2 x3 => kc (x1, x2, x3, ())) (fun y1 => ke.1 (y1, ()))
theorem it32_4 : ∀ (n : Nat) (R : Type) (x : HT (le32_4 (G32_4 FUEL)).H) (ke : KT R (le32_4 (G32_4 FUEL)).exs), iter T32_4 n R x ke = G32_4 n R x.1 x.2.1 x.2.2.1 (fun y1 => ke.1 (y1, ())) := by
  intro n
  induction n with
  | zero => intro R x ke; rfl
  | succ n ih =>
    intro R x ke
    show T32_4 R x (fun x' => iter T32_4 n R x' ke) ke = _
    rw [show (fun x' => iter T32_4 n R x' ke) = fun x => G32_4 n R x.1 x.2.1 x.2.2.1 (fun y1 => ke.1 (y1, ())) from funext fun x' => ih R x' ke]
    rfl
theorem lok32_4 : (le32_4 (G32_4 FUEL)).OK Try.prog 0 16 (lcode 4 (codeOf Try.f32)) := fun R x ke r h =>
  iter_sound (fun R => e32 (G32_4 FUEL) R) 0 16 (fun _ => rfl) (fun _ => rfl) (fun R => env32 R) mixed (by
    intro R
    rw [show loopsOf (lcode 4 (codeOf Try.f32)) = [] from by kernel_rfl]
    exact allM_nil) (T := T32_4) (fun R x kc ke => q32_4 (G32_4 FUEL) R x kc ke) FUEL R x ke r ((it32_4 FUEL R x ke).trans h)
theorem ok32 : (en32 F32).OK Try.prog :=
  ent_ok (Ef := fun R => e32 (G32_4 FUEL) R) (fun R => env32 R) mixed Try.func32 (body := codeOf Try.f32) (by kernel_rfl) (by kernel_rfl) (np := 0) (nt := 16) (fun _ => rfl) (fun _ => rfl) (by kernel_rfl) (res := res32) (by kernel_rfl) (fun _ => rfl) (fun _ => Nat.le_of_ble_eq_true rfl) (by
    intro R
    rw [show loopsOf (codeOf Try.f32) = [lcode 4 (codeOf Try.f32)] from by kernel_rfl]
    exact (allM_cons (loop_ok2 (e := le32_4 (G32_4 FUEL)) rfl rfl lok32_4) allM_nil)) (fun R x k => q32 (G32_4 FUEL) F32 R x k)
abbrev FT13 : Type 1 := (R : Type) → Int → Int → ((List Int) → Option R) → Option R
def en13 (F : FT13) : Ent := ⟨13, [(false, (.int .u64)), (false, (.int .i64))], [(false, (.sl (.int .u8)))], fun R x k => F R x.1 x.2.1 (fun y1 => k (y1, ()) ())⟩
def res13 : List (ResultVar × TypeId × Bool) := [(.tmp 4, 33, false)]
abbrev LT13_3 : Type 1 := (R : Type) → Int → Int → Int → (List Int) → ((List Int) → Option R) → Option R
def le13_3 (L : LT13_3) : LEnt := ⟨3, [.val 0 (.int .u64), .val 1 (.int .i64), .fix 5 (.own 0 0), .val 6 (.int .i64), .row 0 (.int .u8) false], 1, [(.exit 0, [.fix 5 (.own 0 0), .row 0 (.int .u8) false])], fun R x ke => L R x.1 x.2.1 x.2.2.1 x.2.2.2.1 (fun y1 => ke.1 (y1, ()))⟩
noncomputable def e13 (F31 : FT31) (F32 : FT32) (L3 : LT13_3) (R : Type) : Env R := ⟨TT, EQT, 0, 44, ownOf [(1, 0)], callOf [en31 F31, en32 F32] R, loopOf [le13_3 L3] R, [], inlOf []⟩
def p13_3 (F31 : FT31) (F32 : FT32) : (R : Type) → Int → Int → Int → (List Int) → (Int → Int → Int → (List Int) → Option R) → ((List Int) → Option R) → Option R := fun R x1 x2 x3 x4 kc k0 =>
let v5 := (decide (x3 < x2));
(match v5 with
| true => let v6 := (Int.tmod x3 (8 : Int));
let v7 := (v6 == (0 : Int));
(match v7 with
| true => let v8 : (List Int) := ([(0 : Int)] : (List Int));
(match (decide (List.length x4 + List.length v8 ≤ 140737488355328)) with
| true => let v9 : (List Int) := (x4 ++ v8);
let v10 := (Int.tmod x1 (4294967296 : Int));
let v11 := (IntKind.u32.wrap v10);
let v12 := (IntKind.i64.wrap (x2 - (1 : Int)));
let v13 := (IntKind.i64.wrap (v12 - x3));
F31 R v11 v13 fun y14 =>
let v15 := (Int.tmod y14 (2 : Int));
let v16 := (v15 == (1 : Int));
(match v16 with
| true => let v17 := (IntKind.i64.wrap (Int.tdiv x3 (8 : Int)));
let v18 := (IntKind.i64.wrap (Int.tdiv x3 (8 : Int)));
(match (bnd v18 (List.length v9 : Int)) with
| true => let v19 := (List.getD v9 (Int.toNat v18) (0 : Int));
let v20 := (Int.tmod x3 (8 : Int));
let v21 := (IntKind.i64.wrap ((7 : Int) - v20));
F32 R (1 : Int) v21 fun y22 =>
let v23 := (IntKind.u8.wrap y22);
let v24 := (IntKind.u8.wrap (v19 + v23));
(match (bnd v17 (List.length v9 : Int)) with
| true => let v25 : (List Int) := (List.set v9 (Int.toNat v17) v24);
let v26 := (IntKind.i64.wrap (x3 + (1 : Int)));
kc x1 x2 v26 v25
| false => none)
| false => none)
| false => let v27 := (IntKind.i64.wrap (x3 + (1 : Int)));
kc x1 x2 v27 v9)
| false => none)
| false => let v28 := (Int.tmod x1 (4294967296 : Int));
let v29 := (IntKind.u32.wrap v28);
let v30 := (IntKind.i64.wrap (x2 - (1 : Int)));
let v31 := (IntKind.i64.wrap (v30 - x3));
F31 R v29 v31 fun y32 =>
let v33 := (Int.tmod y32 (2 : Int));
let v34 := (v33 == (1 : Int));
(match v34 with
| true => let v35 := (IntKind.i64.wrap (Int.tdiv x3 (8 : Int)));
let v36 := (IntKind.i64.wrap (Int.tdiv x3 (8 : Int)));
(match (bnd v36 (List.length x4 : Int)) with
| true => let v37 := (List.getD x4 (Int.toNat v36) (0 : Int));
let v38 := (Int.tmod x3 (8 : Int));
let v39 := (IntKind.i64.wrap ((7 : Int) - v38));
F32 R (1 : Int) v39 fun y40 =>
let v41 := (IntKind.u8.wrap y40);
let v42 := (IntKind.u8.wrap (v37 + v41));
(match (bnd v35 (List.length x4 : Int)) with
| true => let v43 : (List Int) := (List.set x4 (Int.toNat v35) v42);
let v44 := (IntKind.i64.wrap (x3 + (1 : Int)));
kc x1 x2 v44 v43
| false => none)
| false => none)
| false => let v45 := (IntKind.i64.wrap (x3 + (1 : Int)));
kc x1 x2 v45 x4))
| false => k0 x4)
theorem q13_3 (F31 : FT31) (F32 : FT32) (L3 : LT13_3) (R : Type) (x : HT (le13_3 L3).H) (kc : HT (le13_3 L3).H → Option R) (ke : KT R (le13_3 L3).exs) :
  exec (e13 F31 F32 L3 R) (lcode 3 (codeOf Try.f13)) (stOf (le13_3 L3).H x 1) (roundK (le13_3 L3).H (le13_3 L3).exs kc ke) =
    p13_3 F31 F32 R x.1 x.2.1 x.2.2.1 x.2.2.2.1 (fun x1 x2 x3 x4 => kc (x1, x2, x3, x4, ())) (fun y1 => ke.1 (y1, ())) := by kernel_rfl
noncomputable def G13_3 : Nat → LT13_3
  | 0 => fun _ _ _ _ _ _ => none
  | n + 1 => fun R x1 x2 x3 x4 k0 => p13_3 F31 F32 R x1 x2 x3 x4 (fun x1 x2 x3 x4 => G13_3 n R x1 x2 x3 x4 k0) k0
def p13 (L3 : LT13_3) : FT13 := fun R a0 a1 k =>
L3 R a0 a1 (0 : Int) ([] : (List Int)) (fun x1 =>
k x1)
theorem q13 (F31 : FT31) (F32 : FT32) (L3 : LT13_3) (F : FT13) (R : Type) (x : AT (en13 F).ins) (k : RT (en13 F).outs → PT (en13 F).ins → Option R) :
  xfun (e13 F31 F32 L3 R) (codeOf Try.f13) res13 (avs (en13 F).ins x) (finK (en13 F).outs (en13 F).ins k) = p13 L3 R x.1 x.2.1 (fun y1 => k (y1, ()) ()) := by kernel_rfl
noncomputable def F13 : FT13 := p13 (G13_3 FUEL)
theorem env13 (R : Type) : EnvOK Try.prog (e13 F31 F32 (G13_3 FUEL) R) := ⟨tabOK, eqOK, callOf_ok (allE_cons ok31 (allE_cons ok32 allE_nil)), noIns, inlOK_nil⟩
noncomputable def T13_3 : (R : Type) → HT (le13_3 (G13_3 FUEL)).H → (HT (le13_3 (G13_3 FUEL)).H → Option R) → KT R (le13_3 (G13_3 FUEL)).exs → Option R := fun R x kc ke => p13_3 F31 F32 R x.1 x.2.1 x.2.2.1 x.2.2.2.1 (fun x1 x2 x3 x4 => kc (x1, x2, x3, x4, ())) (fun y1 => ke.1 (y1, ()))
theorem it13_3 : ∀ (n : Nat) (R : Type) (x : HT (le13_3 (G13_3 FUEL)).H) (ke : KT R (le13_3 (G13_3 FUEL)).exs), iter T13_3 n R x ke = G13_3 n R x.1 x.2.1 x.2.2.1 x.2.2.2.1 (fun y1 => ke.1 (y1, ())) := by
  intro n
  induction n with
  | zero => intro R x ke; rfl
  | succ n ih =>
    intro R x ke
    show T13_3 R x (fun x' => iter T13_3 n R x' ke) ke = _
    rw [show (fun x' => iter T13_3 n R x' ke) = fun x => G13_3 n R x.1 x.2.1 x.2.2.1 x.2.2.2.1 (fun y1 => ke.1 (y1, ())) from funext fun x' => ih R x' ke]
    rfl
theorem lok13_3 : (le13_3 (G13_3 FUEL)).OK Try.prog 0 44 (lcode 3 (codeOf Try.f13)) := fun R x ke r h =>
  iter_sound (fun R => e13 F31 F32 (G13_3 FUEL) R) 0 44 (fun _ => rfl) (fun _ => rfl) (fun R => env13 R) mixed (by
    intro R
    rw [show loopsOf (lcode 3 (codeOf Try.f13)) = [] from by kernel_rfl]
    exact allM_nil) (T := T13_3) (fun R x kc ke => q13_3 F31 F32 (G13_3 FUEL) R x kc ke) FUEL R x ke r ((it13_3 FUEL R x ke).trans h)
theorem ok13 : (en13 F13).OK Try.prog :=
  ent_ok (Ef := fun R => e13 F31 F32 (G13_3 FUEL) R) (fun R => env13 R) mixed Try.func13 (body := codeOf Try.f13) (by kernel_rfl) (by kernel_rfl) (np := 0) (nt := 44) (fun _ => rfl) (fun _ => rfl) (by kernel_rfl) (res := res13) (by kernel_rfl) (fun _ => rfl) (fun _ => Nat.le_of_ble_eq_true rfl) (by
    intro R
    rw [show loopsOf (codeOf Try.f13) = [lcode 3 (codeOf Try.f13)] from by kernel_rfl]
    exact (allM_cons (loop_ok2 (e := le13_3 (G13_3 FUEL)) rfl rfl lok13_3) allM_nil)) (fun R x k => q13 F31 F32 (G13_3 FUEL) F13 R x k)
abbrev FT49 : Type 1 := (R : Type) → (List Int) → ((List Int) → Option R) → Option R
def en49 (F : FT49) : Ent := ⟨49, [(false, (.sl (.int .u32)))], [(false, (.sl (.int .u32)))], fun R x k => F R x.1 (fun y1 => k (y1, ()) ())⟩
def res49 : List (ResultVar × TypeId × Bool) := [(.tmp 2, 54, false)]
abbrev LT49_1 : Type 1 := (R : Type) → (List Int) → ((List Int) → Option R) → Option R
def le49_1 (L : LT49_1) : LEnt := ⟨1, [.val 0 (.sl (.int .u32))], 0, [(.exit 0, [.val 0 (.sl (.int .u32))])], fun R x ke => L R x.1 (fun y1 => ke.1 (y1, ()))⟩
noncomputable def e49 (L1 : LT49_1) (R : Type) : Env R := ⟨TT, EQT, 0, 21, ownOf [], callOf [] R, loopOf [le49_1 L1] R, [], inlOf []⟩
def p49_1 : (R : Type) → (List Int) → ((List Int) → Option R) → ((List Int) → Option R) → Option R := fun R x1 kc k0 =>
let v2 := (List.length x1 : Int);
let v3 := (decide (v2 > (0 : Int)));
(match v3 with
| true => let v4 := (List.length x1 : Int);
let v5 := (IntKind.i64.wrap (v4 - (1 : Int)));
(match (bnd v5 (List.length x1 : Int)) with
| true => let v6 := (List.getD x1 (Int.toNat v5) (0 : Int));
let v7 := (v6 == (0 : Int));
(match v7 with
| true => let v8 := (List.length x1 : Int);
let v9 := (IntKind.i64.wrap (v8 - (1 : Int)));
(match (decide (0 ≤ (0 : Int) ∧ (0 : Int) ≤ v9 ∧ v9 ≤ v9 ∧ v9 ≤ (List.length x1 : Int))) with
| true => let v10 : (List Int) := (List.take (Int.toNat (v9 - (0 : Int))) (List.drop 0 x1));
kc v10
| false => none)
| false => k0 x1)
| false => none)
| false => k0 x1)
theorem q49_1 (L1 : LT49_1) (R : Type) (x : HT (le49_1 L1).H) (kc : HT (le49_1 L1).H → Option R) (ke : KT R (le49_1 L1).exs) :
  exec (e49 L1 R) (lcode 1 (codeOf Try.f49)) (stOf (le49_1 L1).H x 0) (roundK (le49_1 L1).H (le49_1 L1).exs kc ke) =
    p49_1 R x.1 (fun x1 => kc (x1, ())) (fun y1 => ke.1 (y1, ())) := by kernel_rfl
noncomputable def G49_1 : Nat → LT49_1
  | 0 => fun _ _ _ => none
  | n + 1 => fun R x1 k0 => p49_1 R x1 (fun x1 => G49_1 n R x1 k0) k0
def p49 (L1 : LT49_1) : FT49 := fun R a0 k =>
L1 R a0 (fun x1 =>
k x1)
theorem q49 (L1 : LT49_1) (F : FT49) (R : Type) (x : AT (en49 F).ins) (k : RT (en49 F).outs → PT (en49 F).ins → Option R) :
  xfun (e49 L1 R) (codeOf Try.f49) res49 (avs (en49 F).ins x) (finK (en49 F).outs (en49 F).ins k) = p49 L1 R x.1 (fun y1 => k (y1, ()) ()) := by kernel_rfl
noncomputable def F49 : FT49 := p49 (G49_1 FUEL)
theorem env49 (R : Type) : EnvOK Try.prog (e49 (G49_1 FUEL) R) := ⟨tabOK, eqOK, callOf_ok allE_nil, noIns, inlOK_nil⟩
noncomputable def T49_1 : (R : Type) → HT (le49_1 (G49_1 FUEL)).H → (HT (le49_1 (G49_1 FUEL)).H → Option R) → KT R (le49_1 (G49_1 FUEL)).exs → Option R := fun R x kc ke => p49_1 R x.1 (fun x1 => kc (x1, ())) (fun y1 => ke.1 (y1, ()))
theorem it49_1 : ∀ (n : Nat) (R : Type) (x : HT (le49_1 (G49_1 FUEL)).H) (ke : KT R (le49_1 (G49_1 FUEL)).exs), iter T49_1 n R x ke = G49_1 n R x.1 (fun y1 => ke.1 (y1, ())) := by
  intro n
  induction n with
  | zero => intro R x ke; rfl
  | succ n ih =>
    intro R x ke
    show T49_1 R x (fun x' => iter T49_1 n R x' ke) ke = _
    rw [show (fun x' => iter T49_1 n R x' ke) = fun x => G49_1 n R x.1 (fun y1 => ke.1 (y1, ())) from funext fun x' => ih R x' ke]
    rfl
theorem lok49_1 : (le49_1 (G49_1 FUEL)).OK Try.prog 0 21 (lcode 1 (codeOf Try.f49)) := fun R x ke r h =>
  iter_sound (fun R => e49 (G49_1 FUEL) R) 0 21 (fun _ => rfl) (fun _ => rfl) (fun R => env49 R) mixed (by
    intro R
    rw [show loopsOf (lcode 1 (codeOf Try.f49)) = [] from by kernel_rfl]
    exact allM_nil) (T := T49_1) (fun R x kc ke => q49_1 (G49_1 FUEL) R x kc ke) FUEL R x ke r ((it49_1 FUEL R x ke).trans h)
theorem ok49 : (en49 F49).OK Try.prog :=
  ent_ok (Ef := fun R => e49 (G49_1 FUEL) R) (fun R => env49 R) mixed Try.func49 (body := codeOf Try.f49) (by kernel_rfl) (by kernel_rfl) (np := 0) (nt := 21) (fun _ => rfl) (fun _ => rfl) (by kernel_rfl) (res := res49) (by kernel_rfl) (fun _ => rfl) (fun _ => Nat.le_of_ble_eq_true rfl) (by
    intro R
    rw [show loopsOf (codeOf Try.f49) = [lcode 1 (codeOf Try.f49)] from by kernel_rfl]
    exact (allM_cons (loop_ok2 (e := le49_1 (G49_1 FUEL)) rfl rfl lok49_1) allM_nil)) (fun R x k => q49 (G49_1 FUEL) F49 R x k)
abbrev FT24 : Type 1 := (R : Type) → Int → ((List Int) → Option R) → Option R
def en24 (F : FT24) : Ent := ⟨24, [(false, (.int .u64))], [(false, (.sl (.int .u32)))], fun R x k => F R x.1 (fun y1 => k (y1, ()) ())⟩
def res24 : List (ResultVar × TypeId × Bool) := [(.tmp 2, 54, false)]
noncomputable def e24 (F49 : FT49) (R : Type) : Env R := ⟨TT, EQT, 0, 11, ownOf [], callOf [en49 F49] R, loopOf [] R, [], inlOf []⟩
def p24 (F49 : FT49) : FT24 := fun R a0 k =>
let v1 := (Int.tmod a0 (4294967296 : Int));
let v2 := (IntKind.u32.wrap v1);
let v3 := (IntKind.u64.wrap (Int.tdiv a0 (4294967296 : Int)));
let v4 := (IntKind.u32.wrap v3);
let v5 : (List Int) := ([v2, v4] : (List Int));
F49 R v5 fun y6 =>
k y6
theorem q24 (F49 : FT49) (F : FT24) (R : Type) (x : AT (en24 F).ins) (k : RT (en24 F).outs → PT (en24 F).ins → Option R) :
  xfun (e24 F49 R) (codeOf Try.f24) res24 (avs (en24 F).ins x) (finK (en24 F).outs (en24 F).ins k) = p24 F49 R x.1 (fun y1 => k (y1, ()) ()) := by kernel_rfl
noncomputable def F24 : FT24 := p24 F49
theorem env24 (R : Type) : EnvOK Try.prog (e24 F49 R) := ⟨tabOK, eqOK, callOf_ok (allE_cons ok49 allE_nil), noIns, inlOK_nil⟩
theorem ok24 : (en24 F24).OK Try.prog :=
  ent_ok (Ef := fun R => e24 F49 R) (fun R => env24 R) mixed Try.func24 (body := codeOf Try.f24) (by kernel_rfl) (by kernel_rfl) (np := 0) (nt := 11) (fun _ => rfl) (fun _ => rfl) (by kernel_rfl) (res := res24) (by kernel_rfl) (fun _ => rfl) (fun _ => Nat.le_of_ble_eq_true rfl) (by
    intro R
    rw [show loopsOf (codeOf Try.f24) = [] from by kernel_rfl]
    exact allM_nil) (fun R x k => q24 F49 F24 R x k)
abbrev FT6 : Type 1 := (R : Type) → (List Int) → (List Int) → (List Int) → (Bool → Option R) → Option R
def en6 (F : FT6) : Ent := ⟨6, [(false, (.sl (.int .i64))), (false, (.arr 2 (.int .u8))), (false, (.sl (.int .u64)))], [(false, .bool)], fun R x k => F R x.1 x.2.1 x.2.2.1 (fun y1 => k (y1, ()) ())⟩
def res6 : List (ResultVar × TypeId × Bool) := [(.tmp 6, 4, false)]
abbrev LT6_7 : Type 1 := (R : Type) → (List Int) → (List Int) → Int → (List Int) → (List Int) → ((List Int) → (List Int) → (List Int) → Option R) → Option R
def le6_7 (L : LT6_7) : LEnt := ⟨7, [.val 0 (.sl (.int .i64)), .val 2 (.sl (.int .u64)), .fix 4 (.ptr 0 [] (.arr 2 (.int .u8))), .fix 7 (.own 1 0), .val 8 (.int .i64), .var 0 (.arr 2 (.int .u8)) false, .row 1 (.int .u64) false], 2, [(.exit 0, [.val 0 (.sl (.int .i64)), .fix 4 (.ptr 0 [] (.arr 2 (.int .u8))), .fix 7 (.own 1 0), .var 0 (.arr 2 (.int .u8)) false, .row 1 (.int .u64) false])], fun R x ke => L R x.1 x.2.1 x.2.2.1 x.2.2.2.1 x.2.2.2.2.1 (fun y1 y2 y3 => ke.1 (y1, y2, y3, ()))⟩
abbrev LT6_15 : Type 1 := (R : Type) → (List Int) → Int → Int → (List Int) → Int → Int → Int → ((List Int) × Unit) → (Bool → Option R) → ((List Int) → Int → Int → Option R) → Option R
def le6_15 (L : LT6_15) : LEnt := ⟨15, [.val 0 (.sl (.int .i64)), .val 9 (.int .i64), .val 10 (.int .i64), .val 11 (.sl (.int .u32)), .val 12 (.int .i64), .fix 13 (.ptr 2 [] (.pair (.sl (.int .u64)) .unit)), .val 14 (.int .u64), .val 15 (.int .u64), .var 2 (.pair (.sl (.int .u64)) .unit) false], 3, [(.ret, [.val 6 .bool]), (.exit 2, [.val 11 (.sl (.int .u32)), .val 12 (.int .i64), .val 14 (.int .u64)])], fun R x ke => L R x.1 x.2.1 x.2.2.1 x.2.2.2.1 x.2.2.2.2.1 x.2.2.2.2.2.1 x.2.2.2.2.2.2.1 x.2.2.2.2.2.2.2.1 (fun y1 => ke.1 (y1, ())) (fun y1 y2 y3 => ke.2.1 (y1, y2, y3, ()))⟩
noncomputable def e6 (F11 : FT11) (F12 : FT12) (F13 : FT13) (F17 : FT17) (F19 : FT19) (F20 : FT20) (F21 : FT21) (F22 : FT22) (F23 : FT23) (F24 : FT24) (L7 : LT6_7) (L15 : LT6_15) (R : Type) : Env R := ⟨TT, EQT, 0, 111, ownOf [(5, 0)], callOf [en11 F11, en12 F12, en13 F13, en17 F17, en19 F19, en20 F20, en21 F21, en22 F22, en23 F23, en24 F24] R, loopOf [le6_7 L7, le6_15 L15] R, [], inlOf []⟩
def p6_7 : (R : Type) → (List Int) → (List Int) → Int → (List Int) → (List Int) → ((List Int) → (List Int) → Int → (List Int) → (List Int) → Option R) → ((List Int) → (List Int) → (List Int) → Option R) → Option R := fun R x1 x2 x3 x4 x5 kc k0 =>
let v6 := (List.length x2 : Int);
let v7 := (decide (x3 < v6));
(match v7 with
| true => (match (bnd x3 (List.length x2 : Int)) with
| true => let v8 := (List.getD x2 (Int.toNat x3) (0 : Int));
let v9 := (Int.tmod v8 (5 : Int));
let v10 : (List Int) := ([v9] : (List Int));
(match (decide (List.length x5 + List.length v10 ≤ 17592186044416)) with
| true => let v11 : (List Int) := (x5 ++ v10);
let v12 := (IntKind.i64.wrap (x3 + (1 : Int)));
kc x1 x2 v12 x4 v11
| false => none)
| false => none)
| false => k0 x1 x4 x5)
theorem q6_7 (F11 : FT11) (F12 : FT12) (F13 : FT13) (F17 : FT17) (F19 : FT19) (F20 : FT20) (F21 : FT21) (F22 : FT22) (F23 : FT23) (F24 : FT24) (L7 : LT6_7) (L15 : LT6_15) (R : Type) (x : HT (le6_7 L7).H) (kc : HT (le6_7 L7).H → Option R) (ke : KT R (le6_7 L7).exs) :
  exec (e6 F11 F12 F13 F17 F19 F20 F21 F22 F23 F24 L7 L15 R) (lcode 7 (codeOf Try.f6)) (stOf (le6_7 L7).H x 2) (roundK (le6_7 L7).H (le6_7 L7).exs kc ke) =
    p6_7 R x.1 x.2.1 x.2.2.1 x.2.2.2.1 x.2.2.2.2.1 (fun x1 x2 x3 x4 x5 => kc (x1, x2, x3, x4, x5, ())) (fun y1 y2 y3 => ke.1 (y1, y2, y3, ())) := by kernel_rfl
noncomputable def G6_7 : Nat → LT6_7
  | 0 => fun _ _ _ _ _ _ _ => none
  | n + 1 => fun R x1 x2 x3 x4 x5 k0 => p6_7 R x1 x2 x3 x4 x5 (fun x1 x2 x3 x4 x5 => G6_7 n R x1 x2 x3 x4 x5 k0) k0
def p6_15 (F11 : FT11) (F12 : FT12) (F13 : FT13) (F19 : FT19) (F22 : FT22) : (R : Type) → (List Int) → Int → Int → (List Int) → Int → Int → Int → ((List Int) × Unit) → ((List Int) → Int → Int → (List Int) → Int → Int → Int → ((List Int) × Unit) → Option R) → (Bool → Option R) → ((List Int) → Int → Int → Option R) → Option R := fun R x1 x2 x3 x4 x5 x6 x7 x8 kc k0 k1 =>
F11 R (2 : Int) x2 fun y9 =>
let v10 := (decide (x7 < y9));
(match v10 with
| true => F13 R x7 x2 fun y11 =>
let v12 := (IntKind.u64.wrap x2);
F12 R y11 v12 fun y13 y14 =>
let v15 := (List.length x1 : Int);
F22 R x8 v15 y13 x3 fun y16 y17 y18 =>
let v19 := (decide (y17.2.2.2.2.2.1 > y13.2.2.1));
(match v19 with
| true => k0 false
| false => let v20 := (y18 == (0 : Int));
(match v20 with
| true => F19 R y16 x1 fun y21 =>
(match y21 with
| true => let v22 := (IntKind.u64.wrap (x6 + (1 : Int)));
let v23 := (IntKind.u64.wrap (x7 + (1 : Int)));
kc x1 x2 x3 x4 x5 v22 v23 x8
| false => let v24 := (IntKind.u64.wrap (x7 + (1 : Int)));
kc x1 x2 x3 x4 x5 x6 v24 x8)
| false => let v25 := (IntKind.u64.wrap (x7 + (1 : Int)));
kc x1 x2 x3 x4 x5 x6 v25 x8))
| false => k1 x4 x5 x6)
theorem q6_15 (F11 : FT11) (F12 : FT12) (F13 : FT13) (F17 : FT17) (F19 : FT19) (F20 : FT20) (F21 : FT21) (F22 : FT22) (F23 : FT23) (F24 : FT24) (L7 : LT6_7) (L15 : LT6_15) (R : Type) (x : HT (le6_15 L15).H) (kc : HT (le6_15 L15).H → Option R) (ke : KT R (le6_15 L15).exs) :
  exec (e6 F11 F12 F13 F17 F19 F20 F21 F22 F23 F24 L7 L15 R) (lcode 15 (codeOf Try.f6)) (stOf (le6_15 L15).H x 3) (roundK (le6_15 L15).H (le6_15 L15).exs kc ke) =
    p6_15 F11 F12 F13 F19 F22 R x.1 x.2.1 x.2.2.1 x.2.2.2.1 x.2.2.2.2.1 x.2.2.2.2.2.1 x.2.2.2.2.2.2.1 x.2.2.2.2.2.2.2.1 (fun x1 x2 x3 x4 x5 x6 x7 x8 => kc (x1, x2, x3, x4, x5, x6, x7, x8, ())) (fun y1 => ke.1 (y1, ())) (fun y1 y2 y3 => ke.2.1 (y1, y2, y3, ())) := by kernel_rfl
noncomputable def G6_15 : Nat → LT6_15
  | 0 => fun _ _ _ _ _ _ _ _ _ _ _ => none
  | n + 1 => fun R x1 x2 x3 x4 x5 x6 x7 x8 k0 k1 => p6_15 F11 F12 F13 F19 F22 R x1 x2 x3 x4 x5 x6 x7 x8 (fun x1 x2 x3 x4 x5 x6 x7 x8 => G6_15 n R x1 x2 x3 x4 x5 x6 x7 x8 k0 k1) k0 k1
def p6 (F17 : FT17) (F20 : FT20) (F21 : FT21) (F23 : FT23) (F24 : FT24) (L7 : LT6_7) (L15 : LT6_15) : FT6 := fun R a0 a1 a2 k =>
F17 R  fun y1 =>
(match (!y1) with
| true => k false
| false => let v2 := (List.length a2 : Int);
let v3 := (decide (v2 > (5 : Int)));
(match v3 with
| true => k true
| false => let v4 := (List.length a0 : Int);
let v5 := (decide (v4 > (3 : Int)));
(match v5 with
| true => k true
| false => L7 R a0 a2 (0 : Int) a1 ([] : (List Int)) (fun x6 x7 x8 =>
let v9 := (List.getD x7 0 (0 : Int));
let v10 := (Int.tmod v9 (10 : Int));
let v11 := (IntKind.i64.wrap v10);
let v12 := (List.getD x7 1 (0 : Int));
let v13 := (Int.tmod v12 (3 : Int));
let v14 := (IntKind.i64.wrap v13);
let v15 := (IntKind.i64.wrap ((1 : Int) + v14));
F20 R x6 v11 v15 x8 fun y16 y17 =>
F21 R x8 fun y18 =>
L15 R x6 v11 v15 y16 y17 (0 : Int) (0 : Int) y18 (fun x19 =>
k x19) (fun x20 x21 x22 =>
let v23 := (x21 == (0 : Int));
(match v23 with
| true => F24 R x22 fun y24 =>
F23 R x20 y24 fun y25 =>
k y25
| false => k false))))))
theorem q6 (F11 : FT11) (F12 : FT12) (F13 : FT13) (F17 : FT17) (F19 : FT19) (F20 : FT20) (F21 : FT21) (F22 : FT22) (F23 : FT23) (F24 : FT24) (L7 : LT6_7) (L15 : LT6_15) (F : FT6) (R : Type) (x : AT (en6 F).ins) (k : RT (en6 F).outs → PT (en6 F).ins → Option R) :
  xfun (e6 F11 F12 F13 F17 F19 F20 F21 F22 F23 F24 L7 L15 R) (codeOf Try.f6) res6 (avs (en6 F).ins x) (finK (en6 F).outs (en6 F).ins k) = p6 F17 F20 F21 F23 F24 L7 L15 R x.1 x.2.1 x.2.2.1 (fun y1 => k (y1, ()) ()) := by kernel_rfl
noncomputable def F6 : FT6 := p6 F17 F20 F21 F23 F24 (G6_7 FUEL) (G6_15 FUEL)
theorem env6 (R : Type) : EnvOK Try.prog (e6 F11 F12 F13 F17 F19 F20 F21 F22 F23 F24 (G6_7 FUEL) (G6_15 FUEL) R) := ⟨tabOK, eqOK, callOf_ok (allE_cons ok11 (allE_cons ok12 (allE_cons ok13 (allE_cons ok17 (allE_cons ok19 (allE_cons ok20 (allE_cons ok21 (allE_cons ok22 (allE_cons ok23 (allE_cons ok24 allE_nil)))))))))), noIns, inlOK_nil⟩
noncomputable def T6_7 : (R : Type) → HT (le6_7 (G6_7 FUEL)).H → (HT (le6_7 (G6_7 FUEL)).H → Option R) → KT R (le6_7 (G6_7 FUEL)).exs → Option R := fun R x kc ke => p6_7 R x.1 x.2.1 x.2.2.1 x.2.2.2.1 x.2.2.2.2.1 (fun x1 x2 x3 x4 x5 => kc (x1, x2, x3, x4, x5, ())) (fun y1 y2 y3 => ke.1 (y1, y2, y3, ()))
theorem it6_7 : ∀ (n : Nat) (R : Type) (x : HT (le6_7 (G6_7 FUEL)).H) (ke : KT R (le6_7 (G6_7 FUEL)).exs), iter T6_7 n R x ke = G6_7 n R x.1 x.2.1 x.2.2.1 x.2.2.2.1 x.2.2.2.2.1 (fun y1 y2 y3 => ke.1 (y1, y2, y3, ())) := by
  intro n
  induction n with
  | zero => intro R x ke; rfl
  | succ n ih =>
    intro R x ke
    show T6_7 R x (fun x' => iter T6_7 n R x' ke) ke = _
    rw [show (fun x' => iter T6_7 n R x' ke) = fun x => G6_7 n R x.1 x.2.1 x.2.2.1 x.2.2.2.1 x.2.2.2.2.1 (fun y1 y2 y3 => ke.1 (y1, y2, y3, ())) from funext fun x' => ih R x' ke]
    rfl
theorem lok6_7 : (le6_7 (G6_7 FUEL)).OK Try.prog 0 111 (lcode 7 (codeOf Try.f6)) := fun R x ke r h =>
  iter_sound (fun R => e6 F11 F12 F13 F17 F19 F20 F21 F22 F23 F24 (G6_7 FUEL) (G6_15 FUEL) R) 0 111 (fun _ => rfl) (fun _ => rfl) (fun R => env6 R) mixed (by
    intro R
    rw [show loopsOf (lcode 7 (codeOf Try.f6)) = [] from by kernel_rfl]
    exact allM_nil) (T := T6_7) (fun R x kc ke => q6_7 F11 F12 F13 F17 F19 F20 F21 F22 F23 F24 (G6_7 FUEL) (G6_15 FUEL) R x kc ke) FUEL R x ke r ((it6_7 FUEL R x ke).trans h)
noncomputable def T6_15 : (R : Type) → HT (le6_15 (G6_15 FUEL)).H → (HT (le6_15 (G6_15 FUEL)).H → Option R) → KT R (le6_15 (G6_15 FUEL)).exs → Option R := fun R x kc ke => p6_15 F11 F12 F13 F19 F22 R x.1 x.2.1 x.2.2.1 x.2.2.2.1 x.2.2.2.2.1 x.2.2.2.2.2.1 x.2.2.2.2.2.2.1 x.2.2.2.2.2.2.2.1 (fun x1 x2 x3 x4 x5 x6 x7 x8 => kc (x1, x2, x3, x4, x5, x6, x7, x8, ())) (fun y1 => ke.1 (y1, ())) (fun y1 y2 y3 => ke.2.1 (y1, y2, y3, ()))
theorem it6_15 : ∀ (n : Nat) (R : Type) (x : HT (le6_15 (G6_15 FUEL)).H) (ke : KT R (le6_15 (G6_15 FUEL)).exs), iter T6_15 n R x ke = G6_15 n R x.1 x.2.1 x.2.2.1 x.2.2.2.1 x.2.2.2.2.1 x.2.2.2.2.2.1 x.2.2.2.2.2.2.1 x.2.2.2.2.2.2.2.1 (fun y1 => ke.1 (y1, ())) (fun y1 y2 y3 => ke.2.1 (y1, y2, y3, ())) := by
  intro n
  induction n with
  | zero => intro R x ke; rfl
  | succ n ih =>
    intro R x ke
    show T6_15 R x (fun x' => iter T6_15 n R x' ke) ke = _
    rw [show (fun x' => iter T6_15 n R x' ke) = fun x => G6_15 n R x.1 x.2.1 x.2.2.1 x.2.2.2.1 x.2.2.2.2.1 x.2.2.2.2.2.1 x.2.2.2.2.2.2.1 x.2.2.2.2.2.2.2.1 (fun y1 => ke.1 (y1, ())) (fun y1 y2 y3 => ke.2.1 (y1, y2, y3, ())) from funext fun x' => ih R x' ke]
    rfl
theorem lok6_15 : (le6_15 (G6_15 FUEL)).OK Try.prog 0 111 (lcode 15 (codeOf Try.f6)) := fun R x ke r h =>
  iter_sound (fun R => e6 F11 F12 F13 F17 F19 F20 F21 F22 F23 F24 (G6_7 FUEL) (G6_15 FUEL) R) 0 111 (fun _ => rfl) (fun _ => rfl) (fun R => env6 R) mixed (by
    intro R
    rw [show loopsOf (lcode 15 (codeOf Try.f6)) = [] from by kernel_rfl]
    exact allM_nil) (T := T6_15) (fun R x kc ke => q6_15 F11 F12 F13 F17 F19 F20 F21 F22 F23 F24 (G6_7 FUEL) (G6_15 FUEL) R x kc ke) FUEL R x ke r ((it6_15 FUEL R x ke).trans h)
theorem ok6 : (en6 F6).OK Try.prog :=
  ent_ok (Ef := fun R => e6 F11 F12 F13 F17 F19 F20 F21 F22 F23 F24 (G6_7 FUEL) (G6_15 FUEL) R) (fun R => env6 R) mixed Try.func6 (body := codeOf Try.f6) (by kernel_rfl) (by kernel_rfl) (np := 0) (nt := 111) (fun _ => rfl) (fun _ => rfl) (by kernel_rfl) (res := res6) (by kernel_rfl) (fun _ => rfl) (fun _ => Nat.le_of_ble_eq_true rfl) (by
    intro R
    rw [show loopsOf (codeOf Try.f6) = [lcode 7 (codeOf Try.f6), lcode 15 (codeOf Try.f6)] from by kernel_rfl]
    exact (allM_cons (loop_ok2 (e := le6_7 (G6_7 FUEL)) rfl rfl lok6_7) (allM_cons (loop_ok2 (e := le6_15 (G6_15 FUEL)) rfl rfl lok6_15) allM_nil))) (fun R x k => q6 F11 F12 F13 F17 F19 F20 F21 F22 F23 F24 (G6_7 FUEL) (G6_15 FUEL) F6 R x k)
end Go.PG
namespace Go.PG
end Go.PG
namespace Go.PG
theorem F134_eq (R : Type) {x : Int} (hx : U32 x) {r : Nat} (h0 : 0 < r) (hr : r < 32) (k : Int → Option R) : F134 R x (r : Int) k = k (rotS x r) := by
  simp only [F134, p134]
  rw [wrap_u64 (n := (r : Int)) (by omega) (by omega), Int.tmod_eq_of_lt (by omega) (by omega), wrap_u64 (by omega) (by omega)]
  rw [show decide (0 ≤ (r : Int)) = true by simp, show decide (0 ≤ (32 : Int) - r) = true by simp; omega]
  simp only
  rw [rot_or hx h0 hr]
def shrS (x : Int) (r : Nat) : Int := x / 2 ^ r
theorem shr_eq {x : Int} (hx : U32 x) {r : Nat} (hr : r ≤ 32) : ishr .u32 x r = shrS x r := by
  unfold ishr shrS
  rw [show IntKind.u32.bits = 32 from rfl, show ((r : Int).toNat) = r by simp, Nat.min_eq_left hr, Int.fdiv_eq_ediv_of_nonneg _ (by have := two_pow_pos r; omega)]
theorem F135_eq (R : Type) {x : Int} (hx : U32 x) {r : Nat} (hr : r ≤ 32) (k : Int → Option R) : F135 R x (r : Int) k = k (shrS x r) := by
  simp only [F135, p135]
  have e : (if (0 : Int) > (r : Int) then (0 : Int) else (r : Int)) = r := by split <;> omega
  rw [e, wrap_u64 (by omega) (by omega), shr_eq hx hr]
  have hd : decide ((0 : Int) ≤ (r : Int)) = true := by simp
  simp only [hd]
theorem shrS_lt {x : Int} (hx : U32 x) (r : Nat) : U32 (shrS x r) := by
  unfold shrS U32 at *
  have hp := two_pow_pos r
  exact ⟨Int.ediv_nonneg hx.1 (by omega), Int.lt_of_le_of_lt (Int.ediv_le_self _ hx.1) hx.2⟩
theorem shrS_step (x : Int) (r : Nat) : shrS x (r + 1) = shrS x r / 2 := by
  unfold shrS
  rw [Int.pow_succ, Int.ediv_ediv_of_nonneg (by have := two_pow_pos r; omega)]
theorem G31_eq (R : Type) {x : Int} (hx : U32 x) {r : Nat} (hr : r ≤ 32) (k : Int → Option R) : ∀ (m i : Nat), i ≤ r → r - i < m → G31_4 m R (shrS x i) (r : Int) (i : Int) k = k (shrS x r)
  | 0, i, _, h => by omega
  | m + 1, i, h1, h2 => by
    simp only [G31_4, p31_4]
    by_cases hi : i < r
    · have hd : decide ((i : Int) < (r : Int)) = true := by simpa using hi
      have hu := shrS_lt hx i
      simp only [hd]
      have ih := G31_eq R hx hr k m (i + 1) (by omega) (by omega)
      rw [shrS_step] at ih
      rw [← ih]
      unfold U32 at hu
      rw [Int.tdiv_eq_ediv_of_nonneg hu.1, wrap_u32 (by omega) (by omega), wrap_i64 (by omega) (by omega)]
      rfl
    · have hd : decide ((i : Int) < (r : Int)) = false := by simpa using hi
      have : i = r := by omega
      subst this
      simp only [hd]
theorem F31_eq (R : Type) {x : Int} (hx : U32 x) {r : Nat} (hr : r < 32) (k : Int → Option R) : F31 R x (r : Int) k = k (shrS x r) := by
  simp only [F31, p31]
  have hd : decide ((r : Int) > 31) = false := by simp; omega
  simp only [hd]
  have := G31_eq R hx (r := r) (by omega) k FUEL 0 (by omega) (by rw [FUEL_eq]; omega)
  rw [show shrS x 0 = x by simp [shrS]] at this
  exact this
theorem F134_lit (R : Type) {x : Int} (hx : U32 x) {n : Int} (r : Nat) (e : n = (r : Int)) (h0 : 0 < r) (hr : r < 32) (k : Int → Option R) : F134 R x n k = k (rotS x r) := by rw [e]; exact F134_eq R hx h0 hr k
theorem F135_lit (R : Type) {x : Int} (hx : U32 x) {n : Int} (r : Nat) (e : n = (r : Int)) (hr : r ≤ 32) (k : Int → Option R) : F135 R x n k = k (shrS x r) := by rw [e]; exact F135_eq R hx hr k
def sig3 (x : Int) (a b c : Nat) : Int := ixor .u32 (ixor .u32 (rotS x a) (rotS x b)) (rotS x c)
def sig2 (x : Int) (a b c : Nat) : Int := ixor .u32 (ixor .u32 (rotS x a) (rotS x b)) (shrS x c)
theorem F128_eq (R : Type) {x : Int} (hx : U32 x) (k : Int → Option R) : F128 R x k = k (sig2 x 17 19 10) := by
  simp only [F128, p128, F132, p132]
  rw [F134_lit R hx (n := 17) 17 rfl (by omega) (by omega), F134_lit R hx (n := 19) 19 rfl (by omega) (by omega), F135_lit R hx (n := 10) 10 rfl (by omega)]
  simp only [sig2]
theorem F129_eq (R : Type) {x : Int} (hx : U32 x) (k : Int → Option R) : F129 R x k = k (sig2 x 7 18 3) := by
  simp only [F129, p129, F132, p132]
  rw [F134_lit R hx (n := 7) 7 rfl (by omega) (by omega), F134_lit R hx (n := 18) 18 rfl (by omega) (by omega), F135_lit R hx (n := 3) 3 rfl (by omega)]
  simp only [sig2]
def chS (a b c : Int) : Int := ior .u32 (iand .u32 a b) (iand .u32 (IntKind.u32.wrap (4294967295 - a)) c)
def majS (a b c : Int) : Int := ior .u32 (ior .u32 (iand .u32 a b) (iand .u32 a c)) (iand .u32 b c)
theorem F130_eq (R : Type) {a : Int} (ha : U32 a) (b c : Int) (k : Int → Option R) : F130 R a b c k = k (IntKind.u32.wrap (sig3 a 6 11 25 + chS a b c)) := by
  simp only [F130, p130, F133, p133]
  rw [F134_lit R ha (n := 6) 6 rfl (by omega) (by omega), F134_lit R ha (n := 11) 11 rfl (by omega) (by omega), F134_lit R ha (n := 25) 25 rfl (by omega) (by omega)]
  simp only [sig3, chS, choice_eq b c ha]
theorem F131_eq (R : Type) {a : Int} (ha : U32 a) (b c : Int) (k : Int → Option R) : F131 R a b c k = k (IntKind.u32.wrap (sig3 a 2 13 22 + majS a b c)) := by
  simp only [F131, p131, F133, p133]
  rw [F134_lit R ha (n := 2) 2 rfl (by omega) (by omega), F134_lit R ha (n := 13) 13 rfl (by omega) (by omega), F134_lit R ha (n := 22) 22 rfl (by omega) (by omega)]
  simp only [sig3, majS, majority_eq]
def roundS (s : List Int) (w c : Int) : List Int :=
  let t := IntKind.u32.wrap (s.getD 7 0 + sig3 (s.getD 4 0) 6 11 25 + chS (s.getD 4 0) (s.getD 5 0) (s.getD 6 0) + c + w)
  [IntKind.u32.wrap (t + (sig3 (s.getD 0 0) 2 13 22 + majS (s.getD 0 0) (s.getD 1 0) (s.getD 2 0))), s.getD 0 0, s.getD 1 0, s.getD 2 0, IntKind.u32.wrap (s.getD 3 0 + t), s.getD 4 0, s.getD 5 0, s.getD 6 0]
theorem F126_eq (R : Type) {a0 a1 a2 a3 a4 a5 a6 a7 : Int} (h0 : U32 a0) (h4 : U32 a4) (w c : Int) (k : List Int → Option R) : F126 R [a0, a1, a2, a3, a4, a5, a6, a7] w c k = k (roundS [a0, a1, a2, a3, a4, a5, a6, a7] w c) := by
  simp only [F126, p126, List.getD_cons_zero, List.getD_cons_succ]
  rw [F130_eq R h4, F131_eq R h0]
  congr 1
  simp [roundS, lay, List.replicate]
  simp only [wrap_u32_mod]
  refine ⟨?_, ?_⟩ <;> omega
end Go.PG
namespace Go.PG
theorem list8 {l : List Int} (h : l.length = 8) : ∃ a b c d e f g i, l = [a, b, c, d, e, f, g, i] := by
  match l, h with
  | [a, b, c, d, e, f, g, i], _ => exact ⟨a, b, c, d, e, f, g, i, rfl⟩
def AllU8 (l : List Int) : Prop := ∀ x ∈ l, U8 x
def AllU32 (l : List Int) : Prop := ∀ x ∈ l, U32 x
def get32S (a b c d : Int) : Int := ((a * 256 + b) * 256 + c) * 256 + d
theorem FUEL_succ (n : Nat) (h : n ≤ 1000) : ∃ m, FUEL = m + n := ⟨FUEL - n, by rw [FUEL_eq]; omega⟩
theorem ior_shl8 {x b : Int} (hx : 0 ≤ x ∧ x < 16777216) (hb : U8 b) : ior .u32 (ishl .u32 x 8) b = x * 256 + b := by
  unfold U8 at hb
  obtain ⟨n, rfl⟩ : ∃ n : Nat, x = n := ⟨x.toNat, by omega⟩
  obtain ⟨c, rfl⟩ : ∃ c : Nat, b = c := ⟨b.toNat, by omega⟩
  have e2 : ishl .u32 (n : Int) 8 = ((n * 256 : Nat) : Int) := by
    unfold ishl
    rw [show (2 : Int) ^ (min (8 : Int).toNat IntKind.u32.bits) = 256 by decide, wrap_u32 (by omega) (by omega)]
    simp
  rw [e2, ior_u32, BitVec.ofInt_natCast, BitVec.ofInt_natCast, BitVec.toNat_or, BitVec.toNat_ofNat, BitVec.toNat_ofNat, Nat.mod_eq_of_lt (by omega), Nat.mod_eq_of_lt (by omega)]
  have h6 := Nat.shiftLeft_add_eq_or_of_lt (i := 8) (b := c) (by omega) n
  rw [Nat.shiftLeft_eq] at h6
  rw [show n * 256 = n * 2 ^ 8 by rfl, ← h6]
  simp
theorem F127_eq (R : Type) {a b c d : Int} (ha : U8 a) (hb : U8 b) (hc : U8 c) (hd : U8 d) (k : Int → Option R) : F127 R [a, b, c, d] k = k (get32S a b c d) := by
  obtain ⟨m, hm⟩ := FUEL_succ 5 (by omega)
  simp only [F127, p127, hm, G127_2, p127_2]
  have w : ∀ x, U8 x → IntKind.u32.wrap x = x := fun x h => wrap_u32 h.1 (by unfold U8 at h; omega)
  simp [bnd, wrap_i64_def, w a ha, w b hb, w c hc, w d hd]
  have u := ha; have v := hb; have y := hc; have z := hd
  unfold U8 at u v y z
  rw [ior_shl8 (x := 0) (by omega) ha, ior_shl8 (by omega) hb, ior_shl8 (by omega) hc, ior_shl8 (by omega) hd]
  simp [get32S]
theorem get32S_lt {a b c d : Int} (ha : U8 a) (hb : U8 b) (hc : U8 c) (hd : U8 d) : U32 (get32S a b c d) := by
  unfold U8 U32 get32S at *; omega
def word4 (blk : List Int) (i : Nat) : Int := get32S (blk.getD (4 * i) 0) (blk.getD (4 * i + 1) 0) (blk.getD (4 * i + 2) 0) (blk.getD (4 * i + 3) 0)
def planW (l : List Int) (i : Nat) : Int := IntKind.u32.wrap (IntKind.u32.wrap (IntKind.u32.wrap (sig2 (l.getD (i - 2) 0) 17 19 10 + l.getD (i - 7) 0) + sig2 (l.getD (i - 15) 0) 7 18 3) + l.getD (i - 16) 0)
def planStep (blk l : List Int) (i : Nat) : List Int := l.set i (if i < 16 then word4 blk i else planW l i)
def planS (blk : List Int) : List Int := (List.range' 0 64).foldl (planStep blk) (List.replicate 64 0)
theorem getD_all {p : Int → Prop} {l : List Int} (h : ∀ x ∈ l, p x) (h0 : p 0) (i : Nat) : p (l.getD i 0) := by
  rw [List.getD_eq_getElem?_getD]
  cases hi : l[i]? with
  | none => exact h0
  | some x => exact h x (List.mem_of_getElem? hi)
theorem u8_0 : U8 0 := by unfold U8; omega
theorem u32_0 : U32 0 := by unfold U32; omega
theorem AllU32.set {l : List Int} (h : AllU32 l) {i : Nat} {x : Int} (hx : U32 x) : AllU32 (l.set i x) := fun y hy => by
  rcases List.mem_or_eq_of_mem_set hy with h1 | h1
  · exact h y h1
  · rw [h1]; exact hx
theorem AllU32.rep (n : Nat) : AllU32 (List.replicate n 0) := fun y hy => by rw [List.eq_of_mem_replicate hy]; exact u32_0
theorem word4_lt {blk : List Int} (h : AllU8 blk) (i : Nat) : U32 (word4 blk i) := get32S_lt (getD_all h u8_0 _) (getD_all h u8_0 _) (getD_all h u8_0 _) (getD_all h u8_0 _)
theorem planStep_ok {blk l : List Int} (hb : AllU8 blk) (hl : l.length = 64) (h : AllU32 l) (i : Nat) : (planStep blk l i).length = 64 ∧ AllU32 (planStep blk l i) := by
  unfold planStep
  refine ⟨by simpa using hl, h.set ?_⟩
  split
  · exact word4_lt hb i
  · exact wrap_lt32 _
theorem take4 {l : List Int} {i : Nat} (h : i + 4 ≤ l.length) : List.take 4 (List.drop i l) = [l.getD i 0, l.getD (i + 1) 0, l.getD (i + 2) 0, l.getD (i + 3) 0] := by
  have e0 : List.drop i l = l[i] :: List.drop (i + 1) l := List.drop_eq_getElem_cons (by omega)
  have e1 : List.drop (i + 1) l = l[i + 1] :: List.drop (i + 1 + 1) l := List.drop_eq_getElem_cons (by omega)
  have e2 : List.drop (i + 1 + 1) l = l[i + 1 + 1] :: List.drop (i + 1 + 1 + 1) l := List.drop_eq_getElem_cons (by omega)
  have e3 : List.drop (i + 1 + 1 + 1) l = l[i + 1 + 1 + 1] :: List.drop (i + 1 + 1 + 1 + 1) l := List.drop_eq_getElem_cons (by omega)
  rw [e0, e1, e2, e3]
  show [l[i], l[i + 1], l[i + 1 + 1], l[i + 1 + 1 + 1]] = _
  simp [show i < l.length by omega, show i + 1 < l.length by omega, show i + 2 < l.length by omega, show i + 3 < l.length by omega]
theorem range'_step {i n : Nat} (h : i < n) : List.range' i (n - i) = i :: List.range' (i + 1) (n - (i + 1)) := by
  rw [show n - i = (n - (i + 1)) + 1 by omega, List.range'_succ]
theorem G125_eq (R : Type) {blk : List Int} (hb : blk.length = 64) (h8 : AllU8 blk) (k0 : List Int → Option R) : ∀ (m i : Nat) (l : List Int), i ≤ 64 → 64 - i < m → l.length = 64 → AllU32 l →
    G125_2 m R (i : Int) blk l k0 = k0 ((List.range' i (64 - i)).foldl (planStep blk) l)
  | 0, i, l, _, h, _, _ => by omega
  | m + 1, i, l, h1, h2, hl, hu => by
    simp only [G125_2, p125_2]
    by_cases hi : i < 64
    · have ok := planStep_ok h8 hl hu i
      have ih := G125_eq R hb h8 k0 m (i + 1) (planStep blk l i) (by omega) (by omega) ok.1 ok.2
      rw [range'_step hi, List.foldl_cons, ← ih]
      rw [wrap_i64 (n := 4 * (i : Int)) (by omega) (by omega), wrap_i64 (n := (i : Int) + 1) (by omega) (by omega), wrap_i64 (n := 4 * (i : Int) + 4) (by omega) (by omega)]
      have hd : decide ((i : Int) < 64) = true := by simp; omega
      have hbn : bnd (i : Int) 64 = true := by unfold bnd; simp; omega
      by_cases h16 : i < 16
      · have c1 : decide (4 * (i : Int) < 64) = true := by simp; omega
        have c2 : decide (0 ≤ 4 * (i : Int) ∧ 4 * (i : Int) ≤ 4 * (i : Int) + 4 ∧ 4 * (i : Int) + 4 ≤ 64) = true := by simp; omega
        have c3 : decide ((4 : Int) ≤ ((Int.toNat (4 * (i : Int) + 4 - 4 * (i : Int)) : Nat) : Int)) = true := by simp; omega
        have e1 : (4 * (i : Int)).toNat = 4 * i := by omega
        simp only [hd, c1, c2, c3, e1, hbn]
        rw [take4 (by omega), F127_eq R (getD_all h8 u8_0 _) (getD_all h8 u8_0 _) (getD_all h8 u8_0 _) (getD_all h8 u8_0 _)]
        simp only [planStep, if_pos h16, word4, Int.toNat_natCast]
        rfl
      · have c1 : decide (4 * (i : Int) < 64) = false := by simp; omega
        rw [wrap_i64 (n := (i : Int) - 2) (by omega) (by omega), wrap_i64 (n := (i : Int) - 7) (by omega) (by omega), wrap_i64 (n := (i : Int) - 15) (by omega) (by omega), wrap_i64 (n := (i : Int) - 16) (by omega) (by omega)]
        have b2 : bnd ((i : Int) - 2) 64 = true := by unfold bnd; simp; omega
        have b7 : bnd ((i : Int) - 7) 64 = true := by unfold bnd; simp; omega
        have b15 : bnd ((i : Int) - 15) 64 = true := by unfold bnd; simp; omega
        have b16 : bnd ((i : Int) - 16) 64 = true := by unfold bnd; simp; omega
        have n2 : ((i : Int) - 2).toNat = i - 2 := by omega
        have n7 : ((i : Int) - 7).toNat = i - 7 := by omega
        have n15 : ((i : Int) - 15).toNat = i - 15 := by omega
        have n16 : ((i : Int) - 16).toNat = i - 16 := by omega
        simp only [hd, c1, hbn, b2, b7, b15, b16, n2, n7, n15, n16]
        rw [F128_eq R (getD_all hu u32_0 _), F129_eq R (getD_all hu u32_0 _)]
        simp only [planStep, if_neg h16, planW, Int.toNat_natCast]
        rfl
    · have : i = 64 := by omega
      subst this
      rfl
theorem F125_eq (R : Type) {blk : List Int} (hb : blk.length = 64) (h8 : AllU8 blk) (k : List Int → Option R) : F125 R blk k = k (planS blk) := by
  simp only [F125, p125]
  exact G125_eq R hb h8 _ FUEL 0 (List.replicate 64 0) (by omega) (by rw [FUEL_eq]; omega) (by simp) (AllU32.rep 64)
end Go.PG
namespace Go.PG
def KS : List Int := [1116352408, 1899447441, 3049323471, 3921009573, 961987163, 1508970993, 2453635748, 2870763221, 3624381080, 310598401, 607225278, 1426881987, 1925078388, 2162078206, 2614888103, 3248222580, 3835390401, 4022224774, 264347078, 604807628, 770255983, 1249150122, 1555081692, 1996064986, 2554220882, 2821834349, 2952996808, 3210313671, 3336571891, 3584528711, 113926993, 338241895, 666307205, 773529912, 1294757372, 1396182291, 1695183700, 1986661051, 2177026350, 2456956037, 2730485921, 2820302411, 3259730800, 3345764771, 3516065817, 3600352804, 4094571909, 275423344, 430227734, 506948616, 659060556, 883997877, 958139571, 1322822218, 1537002063, 1747873779, 1955562222, 2024104815, 2227730452, 2361852424, 2428436474, 2756734187, 3204031479, 3329325298]
theorem F124_eq (R : Type) (k : List Int → Option R) : F124 R k = k KS := by kernel_rfl
def roundsStep (plan s : List Int) (i : Nat) : List Int := roundS s (plan.getD i 0) (KS.getD i 0)
theorem roundS_ok {s : List Int} (h : AllU32 s) (w c : Int) : (roundS s w c).length = 8 ∧ AllU32 (roundS s w c) := by
  refine ⟨rfl, fun x hx => ?_⟩
  have g := fun i => getD_all h u32_0 i
  simp only [roundS, List.mem_cons, List.not_mem_nil, or_false] at hx
  rcases hx with rfl | rfl | rfl | rfl | rfl | rfl | rfl | rfl
  · exact wrap_lt32 _
  · exact g 0
  · exact g 1
  · exact g 2
  · exact wrap_lt32 _
  · exact g 4
  · exact g 5
  · exact g 6
theorem F126_eq' (R : Type) {s : List Int} (hl : s.length = 8) (h : AllU32 s) (w c : Int) (k : List Int → Option R) : F126 R s w c k = k (roundS s w c) := by
  obtain ⟨a0, a1, a2, a3, a4, a5, a6, a7, rfl⟩ := list8 hl
  exact F126_eq R (h a0 (by simp)) (h a4 (by simp)) w c k
theorem G122_3_eq (R : Type) (plan : List Int) (x3 x4 : List Int) (k0 : List Int → List Int → List Int → Option R) : ∀ (m i : Nat) (s : List Int), i ≤ 64 → 64 - i < m → s.length = 8 → AllU32 s →
    G122_3 m R plan (i : Int) x3 x4 s KS k0 = k0 x3 x4 ((List.range' i (64 - i)).foldl (roundsStep plan) s)
  | 0, i, s, _, h, _, _ => by omega
  | m + 1, i, s, h1, h2, hl, hu => by
    simp only [G122_3, p122_3]
    by_cases hi : i < 64
    · have ok := roundS_ok hu (plan.getD i 0) (KS.getD i 0)
      have ih := G122_3_eq R plan x3 x4 k0 m (i + 1) (roundsStep plan s i) (by omega) (by omega) ok.1 ok.2
      rw [range'_step hi, List.foldl_cons, ← ih, wrap_i64 (n := (i : Int) + 1) (by omega) (by omega)]
      have hd : decide ((i : Int) < 64) = true := by simp; omega
      have hbn : bnd (i : Int) 64 = true := by unfold bnd; simp; omega
      simp only [hd, hbn, Int.toNat_natCast]
      rw [F126_eq' R hl hu]
      rfl
    · have : i = 64 := by omega
      subst this
      rfl
def addStep (a l : List Int) (i : Nat) : List Int := l.set i (IntKind.u32.wrap (l.getD i 0 + a.getD i 0))
theorem addStep_ok {a l : List Int} (hl : l.length = 8) (h : AllU32 l) (i : Nat) : (addStep a l i).length = 8 ∧ AllU32 (addStep a l i) := ⟨by simpa [addStep] using hl, h.set (wrap_lt32 _)⟩
theorem G122_8_eq (R : Type) (a x3 : List Int) (k0 : List Int → List Int → Option R) : ∀ (m i : Nat) (l : List Int), i ≤ 8 → 8 - i < m → G122_8 m R (i : Int) a x3 l k0 = k0 x3 ((List.range' i (8 - i)).foldl (addStep a) l)
  | 0, i, l, _, h => by omega
  | m + 1, i, l, h1, h2 => by
    simp only [G122_8, p122_8]
    by_cases hi : i < 8
    · have ih := G122_8_eq R a x3 k0 m (i + 1) (addStep a l i) (by omega) (by omega)
      rw [range'_step hi, List.foldl_cons, ← ih, wrap_i64 (n := (i : Int) + 1) (by omega) (by omega)]
      have hd : decide ((i : Int) < 8) = true := by simp; omega
      have hbn : bnd (i : Int) 8 = true := by unfold bnd; simp; omega
      simp only [hd, hbn, Int.toNat_natCast]
      rfl
    · have : i = 8 := by omega
      subst this
      rfl
def takeS (st blk : List Int) : List Int := (List.range' 0 8).foldl (addStep st) ((List.range' 0 64).foldl (roundsStep (planS blk)) st)
theorem F122_eq (R : Type) {st blk : List Int} (hl : st.length = 8) (hu : AllU32 st) (hb : blk.length = 64) (h8 : AllU8 blk) (k : List Int → Option R) : F122 R st blk k = k (takeS st blk) := by
  simp only [F122, p122]
  rw [F124_eq, F125_eq R hb h8]
  refine (G122_3_eq R (planS blk) st (List.replicate 8 0) (fun x3 x4 x5 => G122_8 FUEL R 0 x3 x4 x5 fun x6 x7 => k x7) FUEL 0 st (by omega) (by rw [FUEL_eq]; omega) hl hu).trans ?_
  exact G122_8_eq R st (List.replicate 8 0) (fun _ x7 => k x7) FUEL 0 _ (by omega) (by rw [FUEL_eq]; omega)
theorem roundsFold_ok (plan : List Int) : ∀ (is : List Nat) (s : List Int), s.length = 8 → AllU32 s → (is.foldl (roundsStep plan) s).length = 8 ∧ AllU32 (is.foldl (roundsStep plan) s)
  | [], s, h1, h2 => ⟨h1, h2⟩
  | i :: is, s, h1, h2 => by
    have ok := roundS_ok h2 (plan.getD i 0) (KS.getD i 0)
    exact roundsFold_ok plan is _ ok.1 ok.2
theorem addFold_ok (a : List Int) : ∀ (is : List Nat) (s : List Int), s.length = 8 → AllU32 s → (is.foldl (addStep a) s).length = 8 ∧ AllU32 (is.foldl (addStep a) s)
  | [], s, h1, h2 => ⟨h1, h2⟩
  | i :: is, s, h1, h2 => by
    have ok := addStep_ok (a := a) h1 h2 i
    exact addFold_ok a is _ ok.1 ok.2
theorem takeS_ok {st : List Int} (blk : List Int) (hl : st.length = 8) (hu : AllU32 st) : (takeS st blk).length = 8 ∧ AllU32 (takeS st blk) := by
  have h := roundsFold_ok (planS blk) (List.range' 0 64) st hl hu
  exact addFold_ok st _ _ h.1 h.2
end Go.PG
namespace Go.PG
def blkF : Nat → List Int → List (List Int)
  | 0, _ => []
  | n + 1, b => if 64 ≤ b.length then b.take 64 :: blkF n (b.drop 64) else []
def tailF : Nat → List Int → List Int
  | 0, b => b
  | n + 1, b => if 64 ≤ b.length then tailF n (b.drop 64) else b
def blkS (b : List Int) : List (List Int) := blkF (b.length / 64 + 1) b
def tailS (b : List Int) : List Int := tailF (b.length / 64 + 1) b
theorem blkF_big : ∀ (n m : Nat) (b : List Int), b.length / 64 < n → b.length / 64 < m → blkF n b = blkF m b
  | 0, _, _, h, _ => by omega
  | _, 0, _, _, h => by omega
  | n + 1, m + 1, b, h1, h2 => by
    simp only [blkF]
    by_cases h : 64 ≤ b.length
    · rw [if_pos h, if_pos h, blkF_big n m (b.drop 64) (by rw [List.length_drop]; omega) (by rw [List.length_drop]; omega)]
    · rw [if_neg h, if_neg h]
theorem tailF_big : ∀ (n m : Nat) (b : List Int), b.length / 64 < n → b.length / 64 < m → tailF n b = tailF m b
  | 0, _, _, h, _ => by omega
  | _, 0, _, _, h => by omega
  | n + 1, m + 1, b, h1, h2 => by
    simp only [tailF]
    by_cases h : 64 ≤ b.length
    · rw [if_pos h, if_pos h, tailF_big n m (b.drop 64) (by rw [List.length_drop]; omega) (by rw [List.length_drop]; omega)]
    · rw [if_neg h, if_neg h]
theorem blkS_step {b : List Int} (h : 64 ≤ b.length) : blkS b = b.take 64 :: blkS (b.drop 64) := by
  unfold blkS
  rw [show blkF (b.length / 64 + 1) b = b.take 64 :: blkF (b.length / 64) (b.drop 64) by simp only [blkF, if_pos h]]
  rw [blkF_big (b.length / 64) ((b.drop 64).length / 64 + 1) (b.drop 64) (by rw [List.length_drop]; omega) (by omega)]
theorem blkS_end {b : List Int} (h : b.length < 64) : blkS b = [] := by
  unfold blkS; simp only [blkF, if_neg (show ¬ 64 ≤ b.length by omega)]
theorem tailS_step {b : List Int} (h : 64 ≤ b.length) : tailS b = tailS (b.drop 64) := by
  unfold tailS
  rw [show tailF (b.length / 64 + 1) b = tailF (b.length / 64) (b.drop 64) by simp only [tailF, if_pos h]]
  rw [tailF_big (b.length / 64) ((b.drop 64).length / 64 + 1) (b.drop 64) (by rw [List.length_drop]; omega) (by omega)]
theorem tailS_end {b : List Int} (h : b.length < 64) : tailS b = b := by
  unfold tailS; simp only [tailF, if_neg (show ¬ 64 ≤ b.length by omega)]
theorem tailS_len : ∀ (n : Nat) (b : List Int), b.length ≤ n → (tailS b).length = b.length % 64 ∧ (blkS b).length = b.length / 64
  | 0, b, h => by
    rw [tailS_end (by omega), blkS_end (by omega)]
    simp; omega
  | n + 1, b, h => by
    by_cases h6 : 64 ≤ b.length
    · have ih := tailS_len n (b.drop 64) (by rw [List.length_drop]; omega)
      rw [tailS_step h6, blkS_step h6, ih.1, List.length_cons, ih.2, List.length_drop]
      omega
    · rw [tailS_end (by omega), blkS_end (by omega)]
      simp; omega
theorem blk_append : ∀ (n : Nat) (a b : List Int), a.length ≤ n → blkS (a ++ b) = blkS a ++ blkS (tailS a ++ b) ∧ tailS (a ++ b) = tailS (tailS a ++ b)
  | 0, a, b, h => by
    rw [blkS_end (show a.length < 64 by omega), tailS_end (show a.length < 64 by omega)]
    exact ⟨rfl, rfl⟩
  | n + 1, a, b, h => by
    by_cases h6 : 64 ≤ a.length
    · have ih := blk_append n (a.drop 64) b (by rw [List.length_drop]; omega)
      have hl : 64 ≤ (a ++ b).length := by rw [List.length_append]; omega
      rw [blkS_step hl, blkS_step h6, tailS_step hl, tailS_step h6, List.take_append_of_le_length h6, List.drop_append_of_le_length h6, ih.1, ih.2]
      exact ⟨rfl, rfl⟩
    · rw [blkS_end (show a.length < 64 by omega), tailS_end (show a.length < 64 by omega)]
      exact ⟨rfl, rfl⟩
theorem G121_eq (R : Type) (k0 : List Int → List (List Int) → Option R) : ∀ (m : Nat) (b : List Int) (acc : List (List Int)), b.length / 64 < m → acc.length + b.length / 64 ≤ 1000000000 → b.length ≤ 100000000000 →
    G121_1 m R b acc k0 = k0 (tailS b) (acc ++ blkS b)
  | 0, b, acc, h, _, _ => by omega
  | m + 1, b, acc, h1, h2, h3 => by
    simp only [G121_1, p121_1]
    by_cases h6 : 64 ≤ b.length
    · have ih := G121_eq R k0 m (b.drop 64) (acc ++ [b.take 64]) (by rw [List.length_drop]; omega) (by rw [List.length_drop, List.length_append]; simp; omega) (by rw [List.length_drop]; omega)
      have c1 : decide ((b.length : Int) ≥ 64) = true := by simp; omega
      have c2 : decide ((64 : Int) ≤ (b.length : Int)) = true := by simp; omega
      have c3 : decide (acc.length + [b.take 64].length ≤ 2199023255552) = true := by simp; omega
      have c4 : decide (0 ≤ (64 : Int) ∧ (64 : Int) ≤ (b.length : Int) ∧ (b.length : Int) ≤ (b.length : Int) ∧ (b.length : Int) ≤ (b.length : Int)) = true := by simp; omega
      have e1 : List.take (Int.toNat ((b.length : Int) - 64)) (List.drop 64 b) = List.drop 64 b := List.take_of_length_le (by rw [List.length_drop]; omega)
      simp only [c1, c2, c3, c4, e1]
      rw [ih, blkS_step h6, tailS_step h6, List.append_assoc]
      rfl
    · have c1 : decide ((b.length : Int) ≥ 64) = false := by simp; omega
      simp only [c1]
      rw [blkS_end (by omega), tailS_end (by omega), List.append_nil]
theorem F121_eq (R : Type) {b : List Int} (h : b.length ≤ 1000000000) (k : List (List Int) → List Int → Option R) : F121 R b k = k (blkS b) (tailS b) := by
  simp only [F121, p121]
  refine (G121_eq R (fun x1 x2 => k x2 x1) FUEL b [] (by rw [FUEL_eq]; omega) (by simp; omega) (by omega)).trans ?_
  rw [List.nil_append]
end Go.PG
namespace Go.PG
abbrev Wr := List Int × List Int × Int × Unit
def foldB (st : List Int) (bs : List (List Int)) : List Int := bs.foldl takeS st
theorem blkS_ok : ∀ (n : Nat) (b : List Int), b.length ≤ n → AllU8 b → (∀ x ∈ blkS b, x.length = 64 ∧ AllU8 x) ∧ AllU8 (tailS b)
  | 0, b, h, h8 => by
    rw [blkS_end (by omega), tailS_end (by omega)]
    exact ⟨fun x hx => (by cases hx), h8⟩
  | n + 1, b, h, h8 => by
    by_cases h6 : 64 ≤ b.length
    · have ih := blkS_ok n (b.drop 64) (by rw [List.length_drop]; omega) (fun x hx => h8 x (List.mem_of_mem_drop hx))
      rw [blkS_step h6, tailS_step h6]
      refine ⟨fun x hx => ?_, ih.2⟩
      rcases List.mem_cons.1 hx with rfl | hx
      · exact ⟨by rw [List.length_take]; omega, fun y hy => h8 y (List.mem_of_mem_take hy)⟩
      · exact ih.1 x hx
    · rw [blkS_end (by omega), tailS_end (by omega)]
      exact ⟨fun x hx => (by cases hx), h8⟩
theorem foldB_ok : ∀ (bs : List (List Int)) {st : List Int}, st.length = 8 → AllU32 st → (foldB st bs).length = 8 ∧ AllU32 (foldB st bs)
  | [], st, h1, h2 => ⟨h1, h2⟩
  | b :: bs, st, h1, h2 => by
    have ok := takeS_ok b h1 h2
    exact foldB_ok bs ok.1 ok.2
theorem G117_eq (R : Type) (rest : List Int) (bs : List (List Int)) (hb : ∀ x ∈ bs, x.length = 64 ∧ AllU8 x) (hn : bs.length ≤ 1000000000) (u : List Int × Int × Unit) (k0 : List Int → (Wr × Unit) → Option R) :
    ∀ (m i : Nat) (st : List Int), i ≤ bs.length → bs.length - i < m → st.length = 8 → AllU32 st → G117_3 m R rest bs (bs.length : Int) (i : Int) ((st, u), ()) k0 = k0 rest ((foldB st (bs.drop i), u), ())
  | 0, i, st, _, h, _, _ => by omega
  | m + 1, i, st, h1, h2, hl, hu => by
    simp only [G117_3, p117_3]
    by_cases hi : i < bs.length
    · have hd : decide ((i : Int) < (bs.length : Int)) = true := by simpa using hi
      have hbn : bnd (i : Int) (bs.length : Int) = true := by unfold bnd; simp; omega
      have hx := hb bs[i] (List.getElem_mem hi)
      have hg : List.getD bs i (List.replicate 64 0) = bs[i] := by simp [hi]
      simp only [hd, hbn, Int.toNat_natCast, hg]
      rw [F122_eq R hl hu hx.1 hx.2, wrap_i64 (by omega) (by omega)]
      have ok := takeS_ok bs[i] hl hu
      have ih := G117_eq R rest bs hb hn u k0 m (i + 1) (takeS st bs[i]) (by omega) (by omega) ok.1 ok.2
      rw [List.drop_eq_getElem_cons hi]
      exact ih
    · have : i = bs.length := by omega
      subst this
      have hd : decide ((bs.length : Int) < (bs.length : Int)) = false := by simp
      simp only [hd]
      rw [List.drop_of_length_le (Nat.le_refl _)]
      rfl
theorem F117_eq (R : Type) {st : List Int} (u : List Int × Int × Unit) {b : List Int} (hl : st.length = 8) (hu : AllU32 st) (h8 : AllU8 b) (hn : b.length ≤ 1000000000) (k : List Int → (Wr × Unit) → Option R) :
    F117 R ((st, u), ()) b k = k (tailS b) ((foldB st (blkS b), u), ()) := by
  simp only [F117, p117]
  rw [F121_eq R hn]
  have ok := blkS_ok b.length b (Nat.le_refl _) h8
  have hlen := (tailS_len b.length b (Nat.le_refl _)).2
  exact G117_eq R (tailS b) (blkS b) ok.1 (by omega) u (fun x4 x5 => k x4 x5) FUEL 0 st (by omega) (by rw [FUEL_eq]; omega) hl hu
theorem F114_eq (R : Type) {st rest part : List Int} {n : Nat} (hl : st.length = 8) (hu : AllU32 st) (hr : AllU8 rest) (hp : AllU8 part) (hlen : rest.length + part.length ≤ 1000000000) (hn : n + part.length ≤ 1000000000) (k : (Wr × Unit) → Option R) :
    F114 R ((st, rest, (n : Int), ()), ()) part k = k ((foldB st (blkS (rest ++ part)), tailS (rest ++ part), ((n + part.length : Nat) : Int), ()), ()) := by
  simp only [F114, p114, F119]
  rw [wrap_u64 (n := (part.length : Int)) (by omega) (by omega), wrap_u64 (by omega) (by omega)]
  have c1 : decide (([] : List Int).length + rest.length ≤ 140737488355328) = true := by simp; omega
  have c2 : decide (rest.length + part.length ≤ 140737488355328) = true := by simp; omega
  simp only [c1, c2]
  have h8 : AllU8 (rest ++ part) := fun x hx => by
    rcases List.mem_append.1 hx with h | h
    · exact hr x h
    · exact hp x h
  rw [F117_eq R _ hl hu h8 (by rw [List.length_append]; omega)]
  congr 1
def wrS (st m : List Int) : Wr := (foldB st (blkS m), tailS m, (m.length : Int), ())
theorem AllU8.append {a b : List Int} (ha : AllU8 a) (hb : AllU8 b) : AllU8 (a ++ b) := fun x hx => by
  rcases List.mem_append.1 hx with h | h
  · exact ha x h
  · exact hb x h
theorem wrS_append (st m p : List Int) : foldB (foldB st (blkS m)) (blkS (tailS m ++ p)) = foldB st (blkS (m ++ p)) ∧ tailS (tailS m ++ p) = tailS (m ++ p) := by
  obtain ⟨h1, h2⟩ := blk_append m.length m p (Nat.le_refl _)
  rw [h1, h2]
  refine ⟨?_, rfl⟩
  unfold foldB
  rw [List.foldl_append]
theorem G110_eq (R : Type) {st : List Int} (hl : st.length = 8) (hu : AllU32 st) (x4 : Wr) (k0 : Int → Wr → Option R) (k1 : Wr → (Wr × Unit) → Option R) : ∀ (n : Nat) (ps done : List (List Int)) (m : List Int), m = done.flatten → AllU8 m → (∀ p ∈ ps, AllU8 p) →
    m.length + ps.flatten.length ≤ 500000000 → (done ++ ps).length ≤ 1000000000 → ps.length < n → G110_5 n R (done ++ ps) ((done ++ ps).length : Int) (done.length : Int) x4 (wrS st m, ()) k0 k1 = k1 x4 (wrS st (m ++ ps.flatten), ())
  | 0, ps, done, m, _, _, _, _, _, h => by omega
  | n + 1, [], done, m, hm, h8, hps, hlen, hnum, h => by
    simp only [G110_5, p110_5]
    have hd : decide ((done.length : Int) < ((done ++ []).length : Int)) = false := by simp
    simp only [hd]
    simp
  | n + 1, p :: ps, done, m, hm, h8, hps, hlen, hnum, h => by
    simp only [G110_5, p110_5]
    have hlt : done.length < (done ++ p :: ps).length := by simp
    have hd : decide ((done.length : Int) < ((done ++ p :: ps).length : Int)) = true := by simp; omega
    have hbn : bnd (done.length : Int) ((done ++ p :: ps).length : Int) = true := by unfold bnd; simp; omega
    have hg : List.getD (done ++ p :: ps) done.length [] = p := by simp
    have hp8 := hps p (by simp)
    have hfl : (p :: ps).flatten = p ++ ps.flatten := by simp
    rw [hfl, List.length_append] at hlen
    have ok := foldB_ok (blkS m) hl hu
    have ok2 := blkS_ok m.length m (Nat.le_refl _) h8
    have tl := (tailS_len m.length m (Nat.le_refl _)).1
    simp only [hd, hbn, Int.toNat_natCast, hg]
    unfold wrS
    rw [F114_eq R ok.1 ok.2 ok2.2 hp8 (by omega) (by omega)]
    obtain ⟨a1, a2⟩ := wrS_append st m p
    rw [a1, a2, ← List.length_append]
    have hb : decide (((m ++ p).length : Int) ≥ 2305843009213693952) = false := by simp; omega
    simp only [hb]
    rw [wrap_i64 (by omega) (by simp at hnum; omega)]
    have ih := G110_eq R hl hu x4 k0 k1 n ps (done ++ [p]) (m ++ p) (by rw [hm]; simp) (h8.append hp8) (fun q hq => hps q (by simp [hq])) (by rw [List.length_append]; omega) (by simpa using hnum) (by simp at h; omega)
    unfold wrS at ih
    rw [hfl, ← List.append_assoc]
    have e1 : done ++ [p] ++ ps = done ++ p :: ps := by simp
    have e2 : (((done ++ [p]).length : Nat) : Int) = (done.length : Int) + 1 := by simp
    rw [e1, e2] at ih
    exact ih
theorem F110_eq (R : Type) {st : List Int} (hl : st.length = 8) (hu : AllU32 st) {ps : List (List Int)} (h8 : ∀ p ∈ ps, AllU8 p) (hlen : ps.flatten.length ≤ 500000000) (hnum : ps.length ≤ 1000000000) (k : Wr → Int → Option R) :
    F110 R (st, [], (0 : Int), ()) ps k = k (wrS st ps.flatten) 0 := by
  have hr : F113 R (st, [], (0 : Int), ()) = fun k => k true := by
    funext k
    simp only [F113, p113]
    rfl
  simp only [F110, p110]
  rw [hr]
  have := G110_eq R hl hu (List.replicate 8 0, [], 0, ()) (fun x3 x4 => k x4 x3) (fun _ x6 => k x6.1 0) FUEL ps [] [] rfl (fun x hx => by cases hx) h8 (by simpa using hlen) (by simpa using hnum) (by rw [FUEL_eq]; omega)
  rw [List.nil_append] at this
  refine Eq.trans ?_ this
  unfold wrS
  rw [blkS_end (by simp), tailS_end (by simp)]
  rfl
end Go.PG
namespace Go.PG
def putS (x : Int) : List Int := [x / 72057594037927936 % 256, x / 281474976710656 % 256, x / 1099511627776 % 256, x / 4294967296 % 256, x / 16777216 % 256, x / 65536 % 256, x / 256 % 256, x % 256]
theorem shr64 {x : Int} (r : Nat) (hr : r ≤ 64) : ishr .u64 x (r : Int) = x / 2 ^ r := by
  unfold ishr
  rw [show IntKind.u64.bits = 64 from rfl, show ((r : Int).toNat) = r by simp, Nat.min_eq_left hr, Int.fdiv_eq_ediv_of_nonneg _ (by have := two_pow_pos r; omega)]
theorem G108_eq (R : Type) (x : Int) (k0 : List Int → Option R) : ∀ (m i : Nat) (l : List Int), i ≤ 8 → 8 - i < m → G108_2 m R x (i : Int) l k0 = k0 ((List.range' i (8 - i)).foldl (fun l i => l.set i (x / 2 ^ (8 * (7 - i)) % 256)) l)
  | 0, i, l, _, h => by omega
  | m + 1, i, l, h1, h2 => by
    simp only [G108_2, p108_2]
    by_cases hi : i < 8
    · have ih := G108_eq R x k0 m (i + 1) (l.set i (x / 2 ^ (8 * (7 - i)) % 256)) (by omega) (by omega)
      rw [range'_step hi, List.foldl_cons, ← ih]
      have hd : decide ((i : Int) < 8) = true := by simp; omega
      have hbn : bnd (i : Int) 8 = true := by unfold bnd; simp; omega
      rw [wrap_i64 (n := 7 - (i : Int)) (by omega) (by omega), wrap_i64 (n := 8 * (7 - (i : Int))) (by omega) (by omega), wrap_u64 (n := 8 * (7 - (i : Int))) (by omega) (by omega), wrap_i64 (n := (i : Int) + 1) (by omega) (by omega)]
      have e1 : 8 * (7 - (i : Int)) = ((8 * (7 - i) : Nat) : Int) := by omega
      have hp : decide ((0 : Int) ≤ ((8 * (7 - i) : Nat) : Int)) = true := decide_eq_true (by omega)
      rw [e1, shr64 _ (by omega), wrap_u8_mod]
      simp only [hd, hbn, hp, Int.toNat_natCast]
      rfl
    · have : i = 8 := by omega
      subst this
      rfl
theorem F108_eq (R : Type) (x : Int) (k : List Int → Option R) : F108 R x k = k (putS x) := by
  simp only [F108, p108]
  refine (G108_eq R x (fun x1 => k x1) FUEL 0 (List.replicate 8 0) (by omega) (by rw [FUEL_eq]; omega)).trans ?_
  congr 1
  simp [List.range'_succ, putS, List.replicate]
end Go.PG
namespace Go.PG
def zerosN (n : Nat) : Nat := (119 - n % 64) % 64
def padT (rest : List Int) (n : Nat) : List Int := rest ++ 128 :: (List.replicate (zerosN n) 0 ++ putS (8 * (n : Int)))
theorem F120_eq (R : Type) {n : Nat} (hn : n ≤ 1000000000) (k : Int → Option R) : F120 R (n : Int) k = k (((n + 72) / 64 : Nat) : Int) := by
  simp only [F120, p120]
  have c0 : decide ((n : Int) ≥ 2305843009213693952) = false := by simp; omega
  simp only [c0]
  rw [wrap_u64 (n := (n : Int) + 8) (by omega) (by omega), wrap_u64 (n := (n : Int) + 8 + 64) (by omega) (by omega), Int.tdiv_eq_ediv_of_nonneg (by omega), wrap_u64 (by omega) (by omega)]
  congr 1
theorem lay_mid {a b c xs : List Int} (h : xs.length = b.length) : lay (a ++ b ++ c) a.length xs = a ++ xs ++ c := by
  unfold lay
  have e1 : List.take a.length (a ++ b ++ c) = a := by rw [List.append_assoc, List.take_left]
  have e2 : List.drop (a.length + xs.length) (a ++ b ++ c) = c := by
    rw [h, show a.length + b.length = (a ++ b).length by simp, List.drop_left]
  rw [e1, e2]
theorem F116_eq (R : Type) {rest : List Int} {n : Nat} (hr : rest.length = n % 64) (hn : n ≤ 1000000000) (k : List Int → Bool → Option R) : F116 R rest (n : Int) k = k (padT rest n) true := by
  simp only [F116, p116]
  have c0 : decide ((n : Int) ≥ 2305843009213693952) = false := by simp; omega
  have c1 : (IntKind.u64.wrap (rest.length : Int) != Int.tmod (n : Int) 64) = false := by
    rw [wrap_u64 (by omega) (by omega), Int.tmod_eq_emod_of_nonneg (by omega)]
    simp; omega
  simp only [c0, c1]
  rw [F120_eq R hn, Int.tdiv_eq_ediv_of_nonneg (by omega), wrap_u64 (n := (n : Int) / 64) (by omega) (by omega), wrap_u64 (by omega) (by omega), wrap_i64 (n := (((n + 72) / 64 : Nat) : Int) - (n : Int) / 64) (by omega) (by omega), wrap_i64 (n := _ * 64) (by omega) (by omega)]
  obtain ⟨sz, hsz⟩ : ∃ sz : Nat, ((((n + 72) / 64 : Nat) : Int) - (n : Int) / 64) * 64 = sz := ⟨((n + 72) / 64 - n / 64) * 64, by omega⟩
  have hz : sz = rest.length + 1 + zerosN n + 8 := by unfold zerosN; omega
  rw [hsz]
  have l1 : lay (List.replicate sz (0 : Int)) 0 (List.take (List.replicate sz (0 : Int)).length rest) = rest ++ List.replicate (1 + zerosN n + 8) 0 := by
    unfold lay
    rw [List.take_of_length_le (l := rest) (by simp; omega)]
    simp
    omega
  have l2 : List.set (rest ++ List.replicate (1 + zerosN n + 8) 0) rest.length 128 = (rest ++ 128 :: List.replicate (zerosN n) 0) ++ List.replicate 8 0 ++ [] := by
    rw [List.set_append_right _ _ (Nat.le_refl _), Nat.sub_self, show 1 + zerosN n + 8 = (zerosN n + 8) + 1 by omega, List.replicate_succ, List.set_cons_zero, ← List.replicate_append_replicate]
    simp
  have sh : ishl .u64 (n : Int) 3 = 8 * (n : Int) := by
    unfold ishl
    rw [show (2 : Int) ^ (min (3 : Int).toNat IntKind.u64.bits) = 8 by decide, wrap_u64 (by omega) (by omega)]
    omega
  have hl3 : ((rest ++ 128 :: List.replicate (zerosN n) 0) ++ List.replicate 8 (0 : Int) ++ []).length = sz := by simp; omega
  have d1 : decide (0 ≤ (sz : Int) ∧ (sz : Int) ≤ (sz : Int) ∧ (sz : Int) ≤ 140737488355328) = true := decide_eq_true (by omega)
  have d2 : bnd (rest.length : Int) ((rest ++ List.replicate (1 + zerosN n + 8) (0 : Int)).length : Int) = true := by unfold bnd; simp; omega
  have d3 : decide (0 ≤ (sz : Int) - 8 ∧ (sz : Int) - 8 ≤ (sz : Int) ∧ (sz : Int) ≤ (sz : Int) ∧ (sz : Int) ≤ (sz : Int)) = true := decide_eq_true (by omega)
  have e8 : ((sz : Int) - 8).toNat = (rest ++ 128 :: List.replicate (zerosN n) 0).length := by simp; omega
  have e9 : List.take ((sz : Int) - ((sz : Int) - 8)).toNat (List.take 8 (List.drop 0 (putS (8 * (n : Int))))) = putS (8 * (n : Int)) := by
    rw [show ((sz : Int) - ((sz : Int) - 8)).toNat = 8 by omega]; rfl
  simp only [d1, Int.toNat_natCast, l1, d2, l2, sh]
  rw [F108_eq, wrap_i64 (by omega) (by omega)]
  simp only [hl3, d3, e9, e8]
  rw [lay_mid (by rfl)]
  congr 1
  simp [padT]
end Go.PG
namespace Go.PG
def put32S (a : Int) : List Int := [a / 16777216 % 256, a / 65536 % 256, a / 256 % 256, a % 256]
theorem F123_eq (R : Type) {a : Int} (ha : U32 a) (k : List Int → Option R) : F123 R a k = k (put32S a) := by
  have e24 : ishr .u32 a 24 = a / 16777216 := shr_eq ha (r := 24) (by omega)
  have e16 : ishr .u32 a 16 = a / 65536 := shr_eq ha (r := 16) (by omega)
  have e8 : ishr .u32 a 8 = a / 256 := shr_eq ha (r := 8) (by omega)
  simp only [F123, p123, e24, e16, e8, wrap_u8_mod]
  rfl
def H0 : List Int := [1779033703, 3144134277, 1013904242, 2773480762, 1359893119, 2600822924, 528734635, 1541459225]
theorem F111_eq (R : Type) (k : Wr → Option R) : F111 R k = k (H0, [], 0, ()) := by kernel_rfl
theorem H0_ok : H0.length = 8 ∧ AllU32 H0 := ⟨rfl, fun x hx => by
  simp only [H0, List.mem_cons, List.not_mem_nil, or_false] at hx
  unfold U32
  omega⟩
def layStep (st l : List Int) (i : Nat) : List Int := lay l (4 * i) (put32S (st.getD i 0))
theorem lay_len {l xs : List Int} {lo : Nat} (h : lo + xs.length ≤ l.length) : (lay l lo xs).length = l.length := by
  unfold lay; simp; omega
theorem G118_eq (R : Type) {st : List Int} (hu : AllU32 st) (w : Wr × Unit) (k0 : (Wr × Unit) → List Int → Option R) : ∀ (m i : Nat) (l : List Int), i ≤ 8 → 8 - i < m → G118_2 m R st (i : Int) w l k0 = k0 w ((List.range' i (8 - i)).foldl (layStep st) l)
  | 0, i, l, _, h => by omega
  | m + 1, i, l, h1, h2 => by
    simp only [G118_2, p118_2]
    by_cases hi : i < 8
    · have ih := G118_eq R hu w k0 m (i + 1) (layStep st l i) (by omega) (by omega)
      rw [range'_step hi, List.foldl_cons, ← ih]
      have hd : decide ((i : Int) < 8) = true := by simp; omega
      have hbn : bnd (i : Int) 8 = true := by unfold bnd; simp; omega
      rw [wrap_i64 (n := 4 * (i : Int)) (by omega) (by omega), wrap_i64 (n := (i : Int) + 1) (by omega) (by omega)]
      have c : decide (0 ≤ 4 * (i : Int) ∧ 4 * (i : Int) ≤ 32 ∧ (32 : Int) ≤ 32) = true := decide_eq_true (by omega)
      have e1 : (4 * (i : Int)).toNat = 4 * i := by omega
      have e2 : ∀ a, List.take (Int.toNat (32 - 4 * (i : Int))) (List.take 4 (List.drop 0 (put32S a))) = put32S a := fun a => by
        rw [List.take_of_length_le (l := List.take 4 (List.drop 0 (put32S a))) (by simp [put32S]; omega)]
        rfl
      simp only [hd, hbn, c, Int.toNat_natCast]
      rw [F123_eq R (getD_all hu u32_0 _)]
      simp only [c, e1, e2]
      rfl
    · have : i = 8 := by omega
      subst this
      rfl
end Go.PG
namespace Go.PG
def padM (m : List Int) : List Int := m ++ 128 :: (List.replicate (zerosN m.length) 0 ++ putS (8 * (m.length : Int)))
end Go.PG
namespace Go.PG
def hashS (st : List Int) : List Int := (List.range' 0 8).foldl (layStep st) (List.replicate 32 0)
theorem F118_eq (R : Type) {st : List Int} (u : List Int × Int × Unit) (hu : AllU32 st) (k : List Int → (Wr × Unit) → Option R) : F118 R ((st, u), ()) k = k (hashS st) ((st, u), ()) := by
  simp only [F118, p118]
  exact G118_eq R hu ((st, u), ()) (fun x1 x2 => k x2 x1) FUEL 0 (List.replicate 32 0) (by omega) (by rw [FUEL_eq]; omega)
def SHA (m : List Int) : List Int := hashS (foldB H0 (blkS (padM m)))
theorem putS_u8 (x : Int) : AllU8 (putS x) := fun y hy => by
  simp only [putS, List.mem_cons, List.not_mem_nil, or_false] at hy
  unfold U8
  omega
theorem padT_u8 {rest : List Int} (h : AllU8 rest) (n : Nat) : AllU8 (padT rest n) := fun y hy => by
  unfold padT at hy
  rcases List.mem_append.1 hy with h1 | h1
  · exact h y h1
  · rcases List.mem_cons.1 h1 with rfl | h1
    · unfold U8; omega
    · rcases List.mem_append.1 h1 with h1 | h1
      · rw [List.eq_of_mem_replicate h1]; exact u8_0
      · exact putS_u8 _ y h1
theorem padM_blk (m : List Int) : blkS (padM m) = blkS m ++ blkS (padT (tailS m) m.length) := (blk_append m.length m _ (Nat.le_refl _)).1
theorem F112_eq (R : Type) {m : List Int} (h8 : AllU8 m) (hm : m.length ≤ 500000000) (k : List Int → Int → Option R) : F112 R (wrS H0 m) k = k (SHA m) 0 := by
  have tl := (tailS_len m.length m (Nat.le_refl _)).1
  have ok := blkS_ok m.length m (Nat.le_refl _) h8
  have hf := foldB_ok (blkS m) H0_ok.1 H0_ok.2
  have hp := padT_u8 ok.2 m.length
  simp only [F112, p112, wrS]
  rw [F116_eq R tl (by omega)]
  simp only [Bool.not_true]
  rw [F117_eq R (tailS m, (m.length : Int), ()) hf.1 hf.2 hp (by simp [padT, putS]; unfold zerosN; omega)]
  have hf2 := foldB_ok (blkS (padT (tailS m) m.length)) hf.1 hf.2
  rw [F118_eq R _ hf2.2]
  unfold SHA
  rw [padM_blk]
  unfold foldB
  rw [List.foldl_append]
theorem F109_eq (R : Type) {ps : List (List Int)} (h8 : ∀ p ∈ ps, AllU8 p) (hlen : ps.flatten.length ≤ 500000000) (hnum : ps.length ≤ 1000000000) (k : List Int → Option R) : F109 R ps k = k (SHA ps.flatten) := by
  simp only [F109, p109]
  rw [F111_eq, F110_eq R H0_ok.1 H0_ok.2 h8 hlen hnum]
  refine F112_eq R (fun x hx => ?_) hlen _
  obtain ⟨p, h1, h2⟩ := List.mem_flatten.1 hx
  exact h8 p h1 x h2
end Go.PG
namespace Go.PG
end Go.PG
namespace Go.PG
end Go.PG
namespace Go.PG
theorem wrap_bv8 (b : BitVec 8) : IntKind.u8.wrap ((b.toNat : Nat) : Int) = (b.toNat : Int) := by
  have := b.isLt
  exact wrap_u8 (by omega) (by omega)
def zero32 : List Int := List.replicate 32 0
def H32 (l : List Int) : Prop := l.length = 32 ∧ AllU8 l
theorem zero32_ok : H32 zero32 := ⟨by simp [zero32], fun x hx => by rw [List.eq_of_mem_replicate hx]; exact u8_0⟩
end Go.PG
namespace Go.PG
theorem putS_len (x : Int) : (putS x).length = 8 := rfl
theorem take32 {l : List Int} (h : H32 l) : List.take 32 (List.drop 0 l) = l := by
  rw [List.drop_zero, List.take_of_length_le (by rw [h.1]; omega)]
theorem take8 (x : Int) : List.take 8 (List.drop 0 (putS x)) = putS x := rfl
theorem AllU8.app {a b : List Int} (ha : AllU8 a) (hb : AllU8 b) : AllU8 (a ++ b) := fun x hx => (List.mem_append.1 hx).elim (ha x) (hb x)
end Go.PG
namespace Go.PG
end Go.PG
namespace Go.PG
theorem layStep_ok {st l : List Int} (hl : H32 l) {i : Nat} (hi : i < 8) : H32 (layStep st l i) := by
  refine ⟨by unfold layStep; rw [lay_len (by simp [put32S, hl.1]; omega)]; exact hl.1, ?_⟩
  unfold layStep lay
  refine AllU8.app (AllU8.app (fun x hx => hl.2 x (List.mem_of_mem_take hx)) ?_) (fun x hx => hl.2 x (List.mem_of_mem_drop hx))
  intro y hy
  simp only [put32S, List.mem_cons, List.not_mem_nil, or_false] at hy
  unfold U8
  omega
theorem layFold_ok (st : List Int) : ∀ (is : List Nat) {l : List Int}, (∀ i ∈ is, i < 8) → H32 l → H32 (is.foldl (layStep st) l)
  | [], _, _, hl => hl
  | i :: is, _, h, hl => layFold_ok st is (fun j hj => h j (List.mem_cons_of_mem _ hj)) (layStep_ok hl (h i List.mem_cons_self))
theorem SHA_ok (m : List Int) : H32 (SHA m) := by
  unfold SHA hashS
  refine layFold_ok _ _ (fun i hi => ?_) zero32_ok
  rw [List.mem_range'] at hi
  obtain ⟨j, hj, rfl⟩ := hi
  omega
def blockS (a : List Int) (d i : Int) : List Int := SHA (a ++ (putS d ++ putS i))
theorem blockS_ok (a : List Int) (d i : Int) : H32 (blockS a d i) := SHA_ok _
theorem F106_eq (R : Type) {a : List Int} (ha : H32 a) (d i : Int) (k : List Int → Option R) : F106 R a d i k = k (blockS a d i) := by
  simp only [F106, p106]
  rw [F108_eq, F108_eq]
  simp only [take32 ha, take8]
  rw [F109_eq R (fun p hp => by
    simp only [List.mem_cons, List.not_mem_nil, or_false] at hp
    rcases hp with rfl | rfl | rfl
    · exact ha.2
    · exact putS_u8 d
    · exact putS_u8 i) (by simp [ha.1, putS_len]) (by simp)]
  simp [blockS]
def U64 (x : Int) : Prop := 0 ≤ x ∧ x < 18446744073709551616
theorem wrap_bv64 (b : BitVec 64) : IntKind.u64.wrap ((b.toNat : Nat) : Int) = (b.toNat : Int) := by
  have := b.isLt
  exact wrap_u64 (by omega) (by omega)
theorem ior_u64 (a b : Int) : ior .u64 a b = ((BitVec.ofInt 64 a ||| BitVec.ofInt 64 b).toNat : Int) := wrap_bv64 _
def bitS (a : List Int) (d n : Int) : Int := (blockS a d (n / 256)).getD (n % 256 / 8).toNat 0 / 2 ^ (7 - n % 8).toNat % 2
end Go.PG
namespace Go.PG
end Go.PG
namespace Go.PG
abbrev Src := Int × (List Int × (Int × (List Int × (Int × (Int × Unit)))))
abbrev Rdr := Src × (List Int × (Int × (Bool × Unit)))
def atS (s : Src) : Int := s.2.2.2.2.2.1
def setAt (s : Src) (n : Int) : Src := (s.1, s.2.1, s.2.2.1, s.2.2.2.1, s.2.2.2.2.1, n, ())
structure SOK (s : Src) : Prop where
  tape : AllU8 s.2.1
  len : s.2.1.length ≤ 1000000
  bits : U64 s.2.2.1
  seed : H32 s.2.2.2.1
  dom : U64 s.2.2.2.2.1
  at_ : U64 s.2.2.2.2.2.1
theorem SOK.set {s : Src} (h : SOK s) {n : Int} (hn : U64 n) : SOK (setAt s n) := ⟨h.tape, h.len, h.bits, h.seed, h.dom, hn⟩
def rightS' (s : Src) : Bool := if s.1 = 1 then decide (s.2.2.1 ≤ 8 * (s.2.1.length : Int) ∧ s.2.2.2.2.2.1 ≤ s.2.2.1) else decide (s.1 = 2 ∧ s.2.2.2.2.2.1 ≤ 4611686018427387904)
def endS (s : Src) : Int := if s.1 = 1 then s.2.2.1 else 4611686018427387904
def leftS (s : Src) : Int := if rightS' s = true then endS s - s.2.2.2.2.2.1 else 0
def bitAt (s : Src) (n : Int) : Int := if s.1 = 1 then s.2.1.getD (n / 8).toNat 0 / 2 ^ (7 - n % 8).toNat % 2 else bitS s.2.2.2.1 s.2.2.2.2.1 n
theorem F95_eq (R : Type) {s : Src} (h : SOK s) (k : Int → Bool → Option R) : F95 R s k = (if s.1 = 1 then k s.2.2.1 (decide (s.2.2.1 ≤ 8 * (s.2.1.length : Int))) else if s.1 = 2 then k 4611686018427387904 true else k 0 false) := by
  have hl := h.len
  simp only [F95, p95]
  rw [wrap_u64 (n := (s.2.1.length : Int)) (by omega) (by omega), wrap_u64 (n := (s.2.1.length : Int) * 8) (by omega) (by omega), Int.mul_comm]
  by_cases h1 : s.1 = 1
  · simp [h1]
  · by_cases h2 : s.1 = 2
    · simp [h2]
    · simp only [beq_eq_false_iff_ne.2 h1, beq_eq_false_iff_ne.2 h2, if_neg h1, if_neg h2]
theorem F75_eq (R : Type) {s : Src} (h : SOK s) (k : Bool → Option R) : F75 R s k = k (rightS' s) := by
  simp only [F75, p75]
  rw [F95_eq R h]
  unfold rightS'
  by_cases h1 : s.1 = 1
  · simp only [h1, if_true]
    by_cases h2 : s.2.2.1 ≤ 8 * (s.2.1.length : Int)
    · simp [h2]
    · simp [h2]
  · simp only [h1, if_false]
    by_cases h2 : s.1 = 2
    · simp [h2]
    · simp [h2]
theorem right_spec {s : Src} (h : rightS' s = true) : (s.1 = 1 ∧ s.2.2.1 ≤ 8 * (s.2.1.length : Int) ∧ s.2.2.2.2.2.1 ≤ s.2.2.1 ∧ endS s = s.2.2.1) ∨ (s.1 = 2 ∧ s.2.2.2.2.2.1 ≤ 4611686018427387904 ∧ endS s = 4611686018427387904) := by
  unfold rightS' at h
  unfold endS
  by_cases h1 : s.1 = 1
  · rw [if_pos h1] at h ⊢
    have := of_decide_eq_true h
    exact .inl ⟨h1, this.1, this.2, rfl⟩
  · rw [if_neg h1] at h ⊢
    have := of_decide_eq_true h
    exact .inr ⟨this.1, this.2, rfl⟩
theorem left_ok {s : Src} (hs : SOK s) : 0 ≤ leftS s ∧ leftS s ≤ 4611686018427387904 ∧ (rightS' s = true → s.2.2.2.2.2.1 + leftS s = endS s) := by
  have h1 := hs.at_; have h2 := hs.bits; have h3 := hs.len
  unfold U64 at h1 h2
  unfold leftS
  by_cases h : rightS' s = true
  · rw [if_pos h]
    rcases right_spec h with ⟨_, a2, a3, a4⟩ | ⟨_, a2, a3⟩
    · rw [a4]; omega
    · rw [a3]; omega
  · rw [if_neg h]
    exact ⟨by omega, by omega, fun e => absurd e h⟩
theorem F84_eq (R : Type) {s : Src} (h : SOK s) (k : Int → Option R) : F84 R s k = k (leftS s) := by
  have hl := left_ok h
  simp only [F84, p84]
  rw [F75_eq R h, F95_eq R h]
  unfold leftS at *
  by_cases hr : rightS' s = true
  · have hr' := hr
    simp only [hr, Bool.not_true, if_true] at hl ⊢
    rcases right_spec hr' with ⟨a1, a2, a3, a4⟩ | ⟨a1, a2, a3⟩
    · rw [if_pos a1, a4, wrap_u64 (by rw [a4] at hl; omega) (by rw [a4] at hl; omega)]
    · rw [if_neg (by omega), if_pos a1, a3, wrap_u64 (by rw [a3] at hl; omega) (by rw [a3] at hl; omega)]
  · simp only [Bool.not_eq_true] at hr
    simp [hr]
theorem bit_range (s : Src) (n : Int) : 0 ≤ bitAt s n ∧ bitAt s n ≤ 1 := by
  unfold bitAt bitS
  split <;> omega
def RI (r : Rdr) : Prop := r.2.2.2.1 = true → r.2.1 = blockS r.1.2.2.2.1 r.1.2.2.2.2.1 r.2.2.1
theorem iand_u8_1 {x : Int} (hx : U8 x) : iand .u8 x 1 = x % 2 := by
  unfold U8 at hx
  obtain ⟨y, rfl⟩ : ∃ y : Nat, x = y := ⟨x.toNat, by omega⟩
  have e : iand .u8 (y : Int) 1 = ((BitVec.ofInt 8 (y : Int) &&& BitVec.ofInt 8 ((1 : Nat) : Int)).toNat : Int) := wrap_bv8 _
  rw [e, BitVec.ofInt_natCast, BitVec.ofInt_natCast, BitVec.toNat_and, BitVec.toNat_ofNat, BitVec.toNat_ofNat, Nat.mod_eq_of_lt (by omega), Nat.mod_eq_of_lt (by omega), show (1 : Nat) = 2 ^ 1 - 1 by rfl, Nat.and_two_pow_sub_one_eq_mod]
  simp
theorem u85_eq (R : Type) (r : Rdr) {y : Int} (hy : U8 y) (hat : 0 ≤ atS r.1 ∧ atS r.1 < 9000000000000000000) (q : List Int × (Int × (Bool × Unit))) (k : Int → Rdr → Option R) :
    u85 R r y q k = k (y / 2 ^ (7 - atS r.1 % 8).toNat % 2) (setAt r.1 (atS r.1 + 1), q) := by
  unfold atS at *
  simp only [u85]
  unfold setAt
  generalize r.1.2.2.2.2.2.1 = n at *
  rw [Int.tmod_eq_emod_of_nonneg hat.1, wrap_u64 (n := 7 - n % 8) (by omega) (by omega), wrap_u64 (n := n + 1) (by omega) (by omega)]
  obtain ⟨m, hm⟩ : ∃ m : Nat, 7 - n % 8 = m := ⟨(7 - n % 8).toNat, by omega⟩
  rw [hm, Int.toNat_natCast]
  have e8 : ishr .u8 y (m : Int) = y / 2 ^ m := by
    unfold ishr
    rw [show IntKind.u8.bits = 8 from rfl, Int.toNat_natCast, Nat.min_eq_left (by omega), Int.fdiv_eq_ediv_of_nonneg _ (by have := two_pow_pos m; omega)]
  unfold U8 at hy
  have hp : (0 : Int) < 2 ^ m := Int.pow_pos (by decide)
  have hq : 0 ≤ y / 2 ^ m ∧ y / 2 ^ m ≤ y := ⟨Int.ediv_nonneg hy.1 (by omega), Int.ediv_le_self _ hy.1⟩
  rw [e8, iand_u8_1 (by unfold U8; omega), wrap_u64 (by omega) (by omega)]
theorem F85_eq (R : Type) {r : Rdr} (h : SOK r.1) (hi : RI r) (hk : (r.1.1 = 1 ∧ atS r.1 < 8 * (r.1.2.1.length : Int)) ∨ r.1.1 = 2) (hat : atS r.1 < 9000000000000000000) (k : Int → Rdr → Option R) :
    ∃ q, RI (setAt r.1 (atS r.1 + 1), q) ∧ F85 R r k = k (bitAt r.1 (atS r.1)) (setAt r.1 (atS r.1 + 1), q) := by
  have hl := h.len
  have ha := h.at_
  have hat' : 0 ≤ atS r.1 ∧ atS r.1 < 9000000000000000000 := ⟨ha.1, hat⟩
  simp only [F85]
  show ∃ q, RI (setAt r.1 (atS r.1 + 1), q) ∧ (F102 R r (IntKind.u64.wrap (Int.tdiv (atS r.1) 8)) fun y2 p3 => match decide (0 ≤ IntKind.u64.wrap (7 - Int.tmod (atS r.1) 8)) with | true => u85 R r y2 p3.2 k | false => none) = _
  have hdc : decide (0 ≤ IntKind.u64.wrap (7 - Int.tmod (atS r.1) 8)) = true := by
    rw [wrap_u64_mod]; exact decide_eq_true (by omega)
  simp only [hdc]
  rw [Int.tdiv_eq_ediv_of_nonneg hat'.1, wrap_u64 (n := atS r.1 / 8) (by omega) (by omega)]
  simp only [F102, p102]
  generalize hn : atS r.1 = n at *
  unfold bitAt
  rcases hk with ⟨a1, a2⟩ | a1
  · have e1 : (r.1.1 == 1) = true := by simp [a1]
    have hb : bnd (n / 8) (r.1.2.1.length : Int) = true := by unfold bnd; simp; omega
    simp only [e1, hb]
    refine ⟨r.2, hi, ?_⟩
    rw [if_pos a1, u85_eq R r (getD_all h.tape u8_0 _) (by rw [hn]; exact hat'), hn]
  · have e1 : (r.1.1 == 1) = false := by simp [a1]
    simp only [e1]
    rw [if_neg (by omega), Int.tdiv_eq_ediv_of_nonneg (by omega), wrap_u64 (n := n / 8 / 32) (by omega) (by omega), Int.tmod_eq_emod_of_nonneg (by omega)]
    have hb : bnd (n / 8 % 32) 32 = true := by unfold bnd; simp; omega
    have hbit : (blockS r.1.2.2.2.1 r.1.2.2.2.2.1 (n / 8 / 32)).getD (n / 8 % 32).toNat 0 / 2 ^ (7 - n % 8).toNat % 2 = bitS r.1.2.2.2.1 r.1.2.2.2.2.1 n := by
      unfold bitS
      rw [show n / 8 / 32 = n / 256 by omega, show n / 8 % 32 = n % 256 / 8 by omega]
    have hu := fun i => getD_all (blockS_ok r.1.2.2.2.1 r.1.2.2.2.2.1 (n / 8 / 32)).2 u8_0 i
    have go : ∀ q, u85 R r ((blockS r.1.2.2.2.1 r.1.2.2.2.2.1 (n / 8 / 32)).getD (n / 8 % 32).toNat 0) q k = k (bitS r.1.2.2.2.1 r.1.2.2.2.2.1 n) (setAt r.1 (n + 1), q) := fun q => by
      rw [u85_eq R r (hu _) (by rw [hn]; exact hat'), hn, hbit]
    have fresh : (F106 R r.1.2.2.2.1 r.1.2.2.2.2.1 (n / 8 / 32) fun y5 => match bnd (n / 8 % 32) 32 with
        | true => u85 R r (y5.getD (n / 8 % 32).toNat 0) (r.1, y5, n / 8 / 32, true, r.2.2.2.2).2 k
        | false => none) = k (bitS r.1.2.2.2.1 r.1.2.2.2.2.1 n) (setAt r.1 (n + 1), (blockS r.1.2.2.2.1 r.1.2.2.2.2.1 (n / 8 / 32), n / 8 / 32, true, ())) := by
      rw [F106_eq R h.seed]
      simp only [hb]
      exact go _
    cases hs : r.2.2.2.1 with
    | false =>
      simp only [Bool.not_false]
      exact ⟨_, fun _ => rfl, fresh⟩
    | true =>
      simp only [Bool.not_true]
      by_cases hne : n / 8 / 32 = r.2.2.1
      · have e2 : (n / 8 / 32 != r.2.2.1) = false := by simp [hne]
        simp only [e2, hb]
        refine ⟨r.2, fun e => hi e, ?_⟩
        have := hi hs
        rw [← hne] at this
        rw [this]
        exact go _
      · have e2 : (n / 8 / 32 != r.2.2.1) = true := by simp [hne]
        simp only [e2]
        exact ⟨_, fun _ => rfl, fresh⟩
end Go.PG
namespace Go.PG
def takeV (s : Src) (a : Int) : Nat → Int
  | 0 => 0
  | n + 1 => 2 * takeV s a n + bitAt s (a + n)
theorem takeV_range (s : Src) (a : Int) : ∀ n : Nat, 0 ≤ takeV s a n ∧ takeV s a n < 2 ^ n
  | 0 => by simp [takeV]
  | n + 1 => by
    have ih := takeV_range s a n
    have hb := bit_range s (a + n)
    simp only [takeV]
    rw [Int.pow_succ]
    omega
theorem takeV_set (s : Src) (x a : Int) : ∀ n : Nat, takeV (setAt s x) a n = takeV s a n
  | 0 => rfl
  | n + 1 => by simp only [takeV, takeV_set s x a n]; rfl
theorem ior_shl1 {x b : Int} (hx : 0 ≤ x ∧ x < 9223372036854775808) (hb : 0 ≤ b ∧ b ≤ 1) : ior .u64 (ishl .u64 x 1) b = 2 * x + b := by
  obtain ⟨n, rfl⟩ : ∃ n : Nat, x = n := ⟨x.toNat, by omega⟩
  obtain ⟨c, rfl⟩ : ∃ c : Nat, b = c := ⟨b.toNat, by omega⟩
  have e2 : ishl .u64 (n : Int) 1 = ((n * 2 : Nat) : Int) := by
    unfold ishl
    rw [show (2 : Int) ^ (min (1 : Int).toNat IntKind.u64.bits) = 2 by decide, wrap_u64 (by omega) (by omega)]
    simp
  rw [e2, ior_u64, BitVec.ofInt_natCast, BitVec.ofInt_natCast, BitVec.toNat_or, BitVec.toNat_ofNat, BitVec.toNat_ofNat, Nat.mod_eq_of_lt (by omega), Nat.mod_eq_of_lt (by omega)]
  have h6 := Nat.shiftLeft_add_eq_or_of_lt (i := 1) (b := c) (by omega) n
  rw [Nat.shiftLeft_eq] at h6
  rw [show n * 2 = n * 2 ^ 1 by rfl, ← h6]
  simp; omega
theorem setAt_set (s : Src) (x y : Int) : setAt (setAt s x) y = setAt s y := rfl
theorem atS_set (s : Src) (x : Int) : atS (setAt s x) = x := rfl
theorem G59_eq (R : Type) {s : Src} (h : SOK s) {K : Nat} (hK : K ≤ 64) (hk : (s.1 = 1 ∧ atS s + K ≤ 8 * (s.2.1.length : Int)) ∨ s.1 = 2) (hat : atS s + K < 9000000000000000000) (x4 : Src) (k0 : Int → Src → Rdr → Option R) :
    ∀ (m i : Nat) (r : Rdr), i ≤ K → K - i < m → r.1 = setAt s (atS s + i) → RI r → ∃ q, G59_7 m R (takeV s (atS s) i) (K : Int) (i : Int) x4 r k0 = k0 (takeV s (atS s) K) x4 (setAt s (atS s + K), q)
  | 0, i, _, _, h, _, _ => by omega
  | m + 1, i, r, h1, h2, hr, hi => by
    simp only [G59_7, p59_7]
    have h0 := h.at_
    unfold U64 at h0
    have h0' : 0 ≤ atS s := h0.1
    by_cases hlt : i < K
    · have hd : decide ((i : Int) < (K : Int)) = true := by simpa using hlt
      simp only [hd]
      have hra : atS r.1 = atS s + i := by rw [hr]; rfl
      have hlen : r.1.2.1 = s.2.1 := by rw [hr]; rfl
      have hknd : r.1.1 = s.1 := by rw [hr]; rfl
      obtain ⟨q, g1, g2⟩ := F85_eq R (r := r) (by rw [hr]; exact h.set (by unfold U64; omega)) hi (by
        rw [hra, hlen, hknd]
        rcases hk with ⟨b1, b2⟩ | b1
        · exact .inl ⟨b1, by omega⟩
        · exact .inr b1) (by rw [hra]; omega) (fun y8 p9 => G59_7 m R (ior .u64 (ishl .u64 (takeV s (atS s) i) 1) y8) (K : Int) (IntKind.i64.wrap ((i : Int) + 1)) x4 p9 k0)
      have hv := takeV_range s (atS s) i
      have hp : (2 : Int) ^ i ≤ 9223372036854775808 := by
        have : (2 : Nat) ^ i ≤ 2 ^ 63 := Nat.pow_le_pow_right (by omega) (by omega)
        have e : ((2 ^ i : Nat) : Int) = (2 : Int) ^ i := by simp
        omega
      have hbt : bitAt r.1 (atS r.1) = bitAt s (atS s + i) := by rw [hra, hr]; rfl
      obtain ⟨q2, g3⟩ := G59_eq R h hK hk hat x4 k0 m (i + 1) (setAt r.1 (atS r.1 + 1), q) (by omega) (by omega) (by
        show setAt r.1 (atS r.1 + 1) = _
        rw [hra, hr, setAt_set]
        congr 1
        omega) g1
      refine ⟨q2, ?_⟩
      rw [g2, ior_shl1 ⟨hv.1, by omega⟩ (bit_range _ _), hbt, wrap_i64 (n := (i : Int) + 1) (by omega) (by omega)]
      exact g3
    · have : i = K := by omega
      subst this
      have hd : decide ((i : Int) < (i : Int)) = false := by simp
      simp only [hd]
      refine ⟨r.2, ?_⟩
      rw [← hr]
def takeR (s : Src) (k : Int) : Int × Src × Int :=
  if rightS' s = true ∧ 0 ≤ k ∧ k ≤ 64 then (if k ≤ leftS s then (takeV s (atS s) k.toNat, setAt s (atS s + k), 0) else (0, s, 8)) else (0, s, 1)
theorem right_room {s : Src} (hs : SOK s) (hr : rightS' s = true) {k : Nat} (hk : (k : Int) ≤ leftS s) : ((s.1 = 1 ∧ atS s + k ≤ 8 * (s.2.1.length : Int)) ∨ s.1 = 2) ∧ atS s + k < 9000000000000000000 := by
  have hl := left_ok hs
  have := hl.2.2 hr
  have hln := hs.len
  unfold atS
  rcases right_spec hr with ⟨a1, a2, a3, a4⟩ | ⟨a1, a2, a3⟩
  · rw [a4] at this
    exact ⟨.inl ⟨a1, by omega⟩, by omega⟩
  · exact ⟨.inr a1, by omega⟩
theorem F59_eq (R : Type) {s : Src} (hs : SOK s) {n : Int} (k : Int → Src → Int → Option R) : F59 R s n k = k (takeR s n).1 (takeR s n).2.1 (takeR s n).2.2 := by
  simp only [F59, p59]
  rw [F75_eq R hs]
  unfold takeR
  by_cases hr : rightS' s = true
  · simp only [hr, Bool.not_true, true_and]
    by_cases h1 : n < 0
    · rw [if_neg (by omega)]
      simp only [decide_eq_true h1]
    · simp only [decide_eq_false h1]
      by_cases h2 : n > 64
      · rw [if_neg (by omega)]
        simp only [decide_eq_true h2]
      · rw [if_pos (by omega)]
        simp only [decide_eq_false h2]
        rw [wrap_u64 (n := n) (by omega) (by omega), F84_eq R hs]
        by_cases h3 : n > leftS s
        · rw [if_neg (by omega)]
          simp only [decide_eq_true h3]
        · rw [if_pos (by omega)]
          simp only [decide_eq_false h3]
          obtain ⟨m, rfl⟩ : ∃ m : Nat, n = m := ⟨n.toNat, by omega⟩
          have hroom := right_room hs hr (k := m) (by omega)
          obtain ⟨q, g⟩ := G59_eq R hs (K := m) (by omega) hroom.1 hroom.2 (0, [], 0, List.replicate 32 0, 0, 0, ()) (fun x7 x8 x9 => k x7 x9.1 0) FUEL 0 (s, List.replicate 32 0, 0, false, ()) (by omega) (by rw [FUEL_eq]; omega) (by simp only [Int.natCast_zero, Int.add_zero]; rfl) (fun e => by cases e)
          refine g.trans ?_
          rw [Int.toNat_natCast]
  · simp only [Bool.not_eq_true] at hr
    simp [hr]
end Go.PG
namespace Go.PG
structure SFit (s : Src) : Prop where
  tape : AllU8 s.2.1
  bits : U64 s.2.2.1
  seed : H32 s.2.2.2.1
  dom : U64 s.2.2.2.2.1
  at_ : U64 s.2.2.2.2.2.1
theorem SFit.ok {s : Src} (h : SFit s) (hl : s.2.1.length ≤ 1000000) : SOK s := ⟨h.tape, hl, h.bits, h.seed, h.dom, h.at_⟩
def zeroSrc : Src := (0, [], 0, List.replicate 32 0, 0, 0, ())
def tapeSrc (b : List Int) (n : Int) : Src := (1, b, n, List.replicate 32 0, 0, 0, ())
theorem tapeSrc_ok {b : List Int} (hb : AllU8 b) (hl : b.length ≤ 1000000) {n : Int} (hn : U64 n) : SOK (tapeSrc b n) := ⟨hb, hl, hn, zero32_ok, by unfold U64 tapeSrc; simp, by unfold U64 tapeSrc; simp⟩
def tapeR (b : List Int) (n : Int) : Src × Int := if n ≤ 8 * (b.length : Int) then (tapeSrc b n, 0) else (zeroSrc, 1)
theorem F12_eq (R : Type) {b : List Int} (hl : b.length ≤ 1000000) (n : Int) (k : Src → Int → Option R) : F12 R b n k = k (tapeR b n).1 (tapeR b n).2 := by
  simp only [F12, p12]
  have hc : decide (List.length ([] : List Int) + b.length ≤ 140737488355328) = true := by simp; omega
  simp only [hc, List.nil_append]
  rw [wrap_u64 (n := (b.length : Int)) (by omega) (by omega), wrap_u64 (n := 8 * (b.length : Int)) (by omega) (by omega)]
  unfold tapeR
  by_cases h : n ≤ 8 * (b.length : Int)
  · have h' : ¬ n > 8 * (b.length : Int) := by omega
    rw [if_pos h]
    simp only [decide_eq_false h']
    rfl
  · have h' : n > 8 * (b.length : Int) := by omega
    rw [if_neg h]
    simp only [decide_eq_true h']
    rfl
theorem takeR_ok {s : Src} {n : Nat} (hr : rightS' s = true) (h1 : n ≤ 64) (h2 : (n : Int) ≤ leftS s) : takeR s n = (takeV s (atS s) n, setAt s (atS s + n), 0) := by
  unfold takeR
  rw [if_pos ⟨hr, by omega, by omega⟩, if_pos h2, Int.toNat_natCast]
end Go.PG
namespace Go.PG
def blenF : Nat → Nat → Nat
  | 0, _ => 0
  | f + 1, x => if x = 0 then 0 else blenF f (x / 2) + 1
theorem blenF_spec : ∀ (f x : Nat), x < 2 ^ f → x < 2 ^ blenF f x ∧ (x ≠ 0 → 2 ^ (blenF f x - 1) ≤ x) ∧ blenF f x ≤ f
  | 0, x, h => by simp at h; subst h; simp [blenF]
  | f + 1, x, h => by
    rw [Nat.pow_succ] at h
    simp only [blenF]
    by_cases h0 : x = 0
    · subst h0; simp
    · rw [if_neg h0]
      obtain ⟨h1, h2, h3⟩ := blenF_spec f (x / 2) (by omega)
      refine ⟨?_, fun _ => ?_, by omega⟩
      · rw [Nat.pow_succ]; omega
      · rw [Nat.add_sub_cancel]
        by_cases hx : x / 2 = 0
        · have e : blenF f (x / 2) = 0 := by
            rw [hx]
            cases f with
            | zero => rfl
            | succ f => simp [blenF]
          rw [e, Nat.pow_zero]; omega
        · have := h2 hx
          have hb : blenF f (x / 2) ≠ 0 := fun e => by rw [e, Nat.pow_zero] at h1; omega
          obtain ⟨b, hb⟩ : ∃ b, blenF f (x / 2) = b + 1 := ⟨blenF f (x / 2) - 1, by omega⟩
          rw [hb, Nat.add_sub_cancel] at this
          rw [hb, Nat.pow_succ]
          omega
theorem G86_eq (R : Type) (k0 : Int → Option R) : ∀ (f m x c : Nat), x < 2 ^ f → f ≤ 64 → f < m → c + f ≤ 1000 → G86_1 m R (x : Int) (c : Int) k0 = k0 ((c + blenF f x : Nat) : Int)
  | _, 0, _, _, _, _, h, _ => by omega
  | 0, m + 1, x, c, h, _, _, _ => by
    simp at h; subst h
    simp only [G86_1, p86_1, blenF]
    rfl
  | f + 1, m + 1, x, c, h, hf, hm, hc => by
    simp only [G86_1, p86_1, blenF]
    rw [Nat.pow_succ] at h
    by_cases h0 : x = 0
    · subst h0
      simp
    · have e : ((x : Int) != 0) = true := by simp [h0]
      have e2 : ishr .u64 (x : Int) 1 = ((x / 2 : Nat) : Int) := by
        have := shr64 (x := (x : Int)) 1 (by omega)
        refine this.trans ?_
        omega
      simp only [e, if_neg h0]
      have ih := G86_eq R k0 f m (x / 2) (c + 1) (by omega) (by omega) (by omega) (by omega)
      rw [wrap_i64 (n := (c : Int) + 1) (by omega) (by omega), e2, show c + (blenF f (x / 2) + 1) = c + 1 + blenF f (x / 2) by omega]
      exact ih
def needS (n : Int) : Nat := blenF 64 (n - 1).toNat
theorem need_spec {n : Int} (hn : U64 n) : needS n ≤ 64 ∧ n ≤ 2 ^ needS n ∧ (2 ≤ n → 1 ≤ needS n ∧ (2 : Int) ^ (needS n - 1) < n) := by
  unfold U64 at hn
  obtain ⟨h1, h2, h3⟩ := blenF_spec 64 (n - 1).toNat (by omega)
  unfold needS
  generalize blenF 64 (n - 1).toNat = b at *
  have e : ∀ j : Nat, ((2 ^ j : Nat) : Int) = (2 : Int) ^ j := fun j => by simp
  refine ⟨h3, ?_, fun h => ⟨?_, ?_⟩⟩
  · rw [← e]; omega
  · cases b with
    | zero => rw [Nat.pow_zero] at h1; omega
    | succ b => omega
  · have := h2 (by omega)
    rw [← e]; omega
theorem F60_eq (R : Type) {n : Int} (hn : U64 n) (k : Int → Option R) : F60 R n k = k (needS n : Int) := by
  have hn' := hn
  unfold U64 at hn
  simp only [F60, p60, F86, p86]
  have e : IntKind.u64.wrap ((if (1 : Int) > n then (1 : Int) else n) - 1) = ((n - 1).toNat : Int) := by
    split
    · rw [wrap_u64 (by omega) (by omega)]; omega
    · rw [wrap_u64 (by omega) (by omega)]; omega
  rw [e]
  have := G86_eq R (fun x1 => k x1) 64 FUEL (n - 1).toNat 0 (by omega) (by omega) (by rw [FUEL_eq]; omega) (by omega)
  rw [Nat.zero_add] at this
  exact this
def drawF (n : Int) : Nat → Src → Int × Src × Int
  | 0, s => (0, s, 9)
  | m + 1, s => if (takeR s (needS n)).2.2 = 0 then (if (takeR s (needS n)).1 < n then ((takeR s (needS n)).1, (takeR s (needS n)).2.1, 0) else drawF n m (takeR s (needS n)).2.1) else (0, s, (takeR s (needS n)).2.2)
theorem takeR_ok1 {s : Src} (hs : SOK s) (k : Int) : SOK (takeR s k).2.1 := by
  unfold takeR
  split
  · rename_i h
    split
    · rename_i h2
      have hl := left_ok hs
      have h0 : 0 ≤ atS s := hs.at_.1
      have := right_room hs h.1 (k := k.toNat) (by omega)
      refine hs.set ?_
      unfold U64
      omega
    · exact hs
  · exact hs
theorem takeR_zero {s : Src} {k : Nat} (h : (takeR s k).2.2 = 0) : rightS' s = true ∧ k ≤ 64 ∧ (k : Int) ≤ leftS s ∧ takeR s k = (takeV s (atS s) k, setAt s (atS s + k), 0) := by
  unfold takeR at h
  split at h
  · rename_i h1
    split at h
    · rename_i h2
      exact ⟨h1.1, by omega, h2, takeR_ok h1.1 (by omega) h2⟩
    · simp at h
  · simp at h
theorem G34_eq (R : Type) {n : Int} (hn : U64 n) (a : Nat) (ha : a ≤ 64) (x5 : Src) (k0 : Int → Int → Src → Option R) (k1 : Src → Src → Option R) :
    ∀ (m i : Nat) (s : Src), i ≤ a → a - i < m → SOK s → (∀ y : Src, k1 y x5 = k0 0 9 y) → G34_4 m R n (a : Int) (i : Int) s x5 k0 k1 = k0 (drawF n (a - i) s).1 (drawF n (a - i) s).2.2 (drawF n (a - i) s).2.1
  | 0, i, _, _, h, _, _ => by omega
  | m + 1, i, s, h1, h2, hs, hk => by
    simp only [G34_4, p34_4]
    by_cases hi : i < a
    · have hd : decide ((i : Int) < (a : Int)) = true := by simpa using hi
      simp only [hd]
      rw [F60_eq R hn, F59_eq R hs, show a - i = (a - (i + 1)) + 1 by omega]
      simp only [drawF]
      have ih := G34_eq R hn a ha x5 k0 k1 m (i + 1) (takeR s (needS n)).2.1 (by omega) (by omega) (takeR_ok1 hs _) hk
      generalize takeR s (needS n) = t at *
      by_cases he : t.2.2 = 0
      · have e1 : (t.2.2 != 0) = false := by simp [he]
        simp only [e1, if_pos he]
        by_cases hx : t.1 < n
        · simp only [decide_eq_true hx, if_pos hx]
        · simp only [decide_eq_false hx, if_neg hx]
          rw [wrap_i64 (n := (i : Int) + 1) (by omega) (by omega)]
          exact ih
      · have e1 : (t.2.2 != 0) = true := by simp [he]
        simp only [e1, if_neg he]
    · have : i = a := by omega
      subst this
      have hd : decide ((i : Int) < (i : Int)) = false := by simp
      simp only [hd, Nat.sub_self, drawF]
      exact hk s
def drawR (s : Src) (n m : Int) : Int × Src × Int := if rightS' s = true ∧ 0 < n ∧ n < 9223372036854775808 ∧ 0 < m ∧ m ≤ 64 then drawF n m.toNat s else (0, s, 1)
theorem F34_eq (R : Type) {s : Src} (hs : SOK s) {n : Int} (hn : U64 n) (m : Int) (k : Int → Src → Int → Option R) : F34 R s n m k = k (drawR s n m).1 (drawR s n m).2.1 (drawR s n m).2.2 := by
  simp only [F34, p34, F58, p58]
  rw [F75_eq R hs]
  unfold drawR
  by_cases hr : rightS' s = true
  · simp only [hr, true_and]
    by_cases h1 : n > 0
    · simp only [decide_eq_true h1]
      by_cases h2 : n < 9223372036854775808
      · simp only [decide_eq_true h2]
        by_cases h3 : m > 0
        · simp only [decide_eq_true h3]
          by_cases h4 : m ≤ 64
          · simp only [decide_eq_true h4, Bool.not_true]
            rw [if_pos ⟨h1, h2, h3, h4⟩]
            obtain ⟨a, rfl⟩ : ∃ a : Nat, m = a := ⟨m.toNat, by omega⟩
            rw [Int.toNat_natCast]
            exact G34_eq R hn a (by omega) (0, [], 0, List.replicate 32 0, 0, 0, ()) (fun x2 x3 x4 => k x2 x4 x3) (fun x5 x6 => k 0 x5 9) FUEL 0 s (by omega) (by rw [FUEL_eq]; omega) hs (fun y => rfl)
          · rw [if_neg (fun h => h4 h.2.2.2)]
            simp only [decide_eq_false h4, Bool.not_false]
        · rw [if_neg (fun h => h3 h.2.2.1)]
          simp only [decide_eq_false h3, Bool.not_false]
      · rw [if_neg (fun h => h2 h.2.1)]
        simp only [decide_eq_false h2, Bool.not_false]
    · rw [if_neg (fun h => h1 h.1)]
      simp only [decide_eq_false h1, Bool.not_false]
  · simp only [Bool.not_eq_true] at hr
    simp [hr]
end Go.PG
namespace Go.PG
theorem G11_eq (R : Type) {x : Int} {n : Nat} (hn : n ≤ 1000) (hx : ∀ i ≤ n, 0 ≤ x ^ i ∧ x ^ i < 18446744073709551616) (k0 : Int → Option R) : ∀ (m i : Nat), i ≤ n → n - i < m → G11_3 m R x (n : Int) (x ^ i) (i : Int) k0 = k0 (x ^ n)
  | 0, i, _, h => by omega
  | m + 1, i, h1, h2 => by
    simp only [G11_3, p11_3]
    by_cases hi : i < n
    · have hd : decide ((i : Int) < (n : Int)) = true := by simpa using hi
      simp only [hd]
      have h3 := hx (i + 1) (by omega)
      have e : x ^ i * x = x ^ (i + 1) := (Int.pow_succ _ _).symm
      rw [e, wrap_u64 (n := x ^ (i + 1)) (by omega) (by omega), wrap_i64 (n := (i : Int) + 1) (by omega) (by omega)]
      exact G11_eq R hn hx k0 m (i + 1) (by omega) (by omega)
    · have : i = n := by omega
      subst this
      have hd : decide ((i : Int) < (i : Int)) = false := by simp
      simp only [hd]
theorem F11_eq (R : Type) {x : Int} {n : Nat} (hn : n ≤ 1000) (hx : ∀ i ≤ n, 0 ≤ x ^ i ∧ x ^ i < 18446744073709551616) (k : Int → Option R) : F11 R x (n : Int) k = k (x ^ n) := by
  simp only [F11, p11]
  have := G11_eq R hn hx (fun x1 => k x1) FUEL 0 (by omega) (by rw [FUEL_eq]; omega)
  rw [Int.pow_zero] at this
  exact this
theorem two_pow_ok {n : Nat} (hn : n ≤ 63) : ∀ i ≤ n, 0 ≤ (2 : Int) ^ i ∧ (2 : Int) ^ i < 18446744073709551616 := fun i hi => by
  have : (2 : Nat) ^ i ≤ 2 ^ 63 := Nat.pow_le_pow_right (by omega) (by omega)
  have e : ((2 ^ i : Nat) : Int) = (2 : Int) ^ i := by simp
  exact ⟨Int.le_of_lt (Int.pow_pos (by decide)), by omega⟩
theorem drawF_ok {n : Int} : ∀ (m : Nat) (s : Src), (drawF n m s).2.2 = 0 → ∃ j, 1 ≤ j ∧ j ≤ m ∧ (drawF n m s).1 < n ∧ (drawF n m s).2.1 = setAt s (atS s + needS n * j) ∧ (needS n * j : Int) ≤ leftS s ∧ ∀ i < j, drawF n i s = (0, setAt s (atS s + needS n * i), 9)
  | 0, s, h => by simp [drawF] at h
  | m + 1, s, h => by
    simp only [drawF] at h ⊢
    split at h
    · rename_i h1
      obtain ⟨g1, g2, g3, g4⟩ := takeR_zero h1
      rw [if_pos h1]
      split at h
      · rename_i h2
        rw [if_pos h2]
        refine ⟨1, by omega, by omega, h2, ?_, by omega, fun i hi => ?_⟩
        · rw [g4]
          show setAt s (atS s + needS n) = setAt s (atS s + needS n * ((1 : Nat) : Int))
          rw [Int.natCast_one, Int.mul_one]
        · have : i = 0 := by omega
          subst this
          simp only [drawF, Int.natCast_zero, Int.mul_zero, Int.add_zero]
          rfl
      · rename_i h2
        rw [if_neg h2]
        have hmul : ∀ i : Nat, ((needS n : Nat) : Int) * ((i + 1 : Nat) : Int) = needS n + needS n * i := fun i => by
          rw [show ((i + 1 : Nat) : Int) = (i : Int) + 1 by omega, Int.mul_add, Int.mul_one, Int.add_comm]
        obtain ⟨j, j1, j2, j3, j4, j5, j6⟩ := drawF_ok m _ h
        refine ⟨j + 1, by omega, by omega, j3, ?_, ?_, fun i hi => ?_⟩
        · rw [j4, g4]
          show setAt (setAt s (atS s + needS n)) (atS s + needS n + needS n * j) = _
          rw [setAt_set, hmul, Int.add_assoc]
        · rw [g4] at j5
          have hle : leftS (setAt s (atS s + needS n)) ≤ leftS s - needS n := by
            unfold leftS at g3 ⊢
            rw [if_pos g1] at g3 ⊢
            split
            · show endS s - (atS s + needS n) ≤ endS s - atS s - needS n
              omega
            · show 0 ≤ endS s - atS s - needS n
              have : endS s - s.2.2.2.2.2.1 = endS s - atS s := rfl
              omega
          rw [hmul]
          have j5' : (needS n : Int) * j ≤ leftS (setAt s (atS s + needS n)) := j5
          omega
        · cases i with
          | zero =>
            simp only [drawF, Int.natCast_zero, Int.mul_zero, Int.add_zero]
            rfl
          | succ i =>
            have := j6 i (by omega)
            simp only [drawF]
            rw [if_pos h1, if_neg h2, this, g4]
            show (0, setAt (setAt s (atS s + needS n)) (atS s + needS n + needS n * i), 9) = _
            rw [setAt_set, hmul, Int.add_assoc]
    · rename_i h1
      exact absurd h h1
end Go.PG
namespace Go.PG
def cnt (p : Nat → Bool) (n : Nat) : Nat := (List.range n).countP p
theorem cnt_add (p : Nat → Bool) (a m : Nat) : cnt p (a + m) = cnt p a + cnt (fun r => p (a + r)) m := by
  unfold cnt
  rw [List.range_add, List.countP_append, List.countP_map]
  rfl
theorem cnt_congr {p q : Nat → Bool} {n : Nat} (h : ∀ r, r < n → p r = q r) : cnt p n = cnt q n := by
  unfold cnt
  refine List.countP_congr (fun x hx => ?_)
  rw [h x (by simpa using hx)]
theorem cnt_const (c : Bool) (n : Nat) : cnt (fun _ => c) n = if c then n else 0 := by
  unfold cnt
  cases c
  · simp
  · simp
theorem cnt_succ (p : Nat → Bool) (n : Nat) : cnt p (n + 1) = cnt p n + (if p n then 1 else 0) := by
  unfold cnt
  rw [List.range_succ, List.countP_append]
  simp [List.countP_cons]
def byteX (x T i q : Nat) : Nat := x / 2 ^ (T - 8 * q - min 8 (i - 8 * q)) % 2 ^ (min 8 (i - 8 * q)) * 2 ^ (8 - min 8 (i - 8 * q))
def bytesX (x T i : Nat) : List Int := (List.range ((i + 7) / 8)).map fun q => (byteX x T i q : Int)
theorem byteX_full {x T i q : Nat} (h : 8 * q + 8 ≤ i) : byteX x T (i + 1) q = byteX x T i q := by
  unfold byteX
  rw [show min 8 (i + 1 - 8 * q) = 8 by omega, show min 8 (i - 8 * q) = 8 by omega]
theorem byteX_step {x T i : Nat} (h : i < T) : byteX x T (i + 1) (i / 8) = byteX x T i (i / 8) + (x / 2 ^ (T - 1 - i) % 2) * 2 ^ (7 - i % 8) := by
  unfold byteX
  rw [show min 8 (i + 1 - 8 * (i / 8)) = i % 8 + 1 by omega, show min 8 (i - 8 * (i / 8)) = i % 8 by omega,
    show T - 8 * (i / 8) - (i % 8 + 1) = T - 1 - i by omega, show T - 8 * (i / 8) - i % 8 = (T - 1 - i) + 1 by omega, show 2 ^ (T - 1 - i + 1) = 2 ^ (T - 1 - i) * 2 by rw [Nat.pow_succ], ← Nat.div_div_eq_div_mul]
  generalize x / 2 ^ (T - 1 - i) = z
  have hc : i % 8 < 8 := Nat.mod_lt _ (by omega)
  generalize i % 8 = c at *
  have : c = 0 ∨ c = 1 ∨ c = 2 ∨ c = 3 ∨ c = 4 ∨ c = 5 ∨ c = 6 ∨ c = 7 := by omega
  rcases this with rfl | rfl | rfl | rfl | rfl | rfl | rfl | rfl <;> simp only [Nat.reduceAdd, Nat.reduceSub, Nat.reducePow] <;> omega
theorem byteX_zero {x T i : Nat} (h : i % 8 = 0) : byteX x T i (i / 8) = 0 := by
  unfold byteX
  rw [show min 8 (i - 8 * (i / 8)) = 0 by omega, Nat.pow_zero, Nat.mod_one, Nat.zero_mul]
theorem byteX_lt (x T i q : Nat) : byteX x T i q < 256 := by
  unfold byteX
  have hc : min 8 (i - 8 * q) ≤ 8 := by omega
  generalize min 8 (i - 8 * q) = c at *
  have h1 : x / 2 ^ (T - 8 * q - c) % 2 ^ c < 2 ^ c := Nat.mod_lt _ (Nat.pow_pos (by omega))
  generalize x / 2 ^ (T - 8 * q - c) % 2 ^ c = z at *
  have : z * 2 ^ (8 - c) < 2 ^ c * 2 ^ (8 - c) := Nat.mul_lt_mul_of_pos_right h1 (Nat.pow_pos (by omega))
  rw [← Nat.pow_add, show c + (8 - c) = 8 by omega] at this
  exact this
def rowX (x T i : Nat) : List Int := (List.range (i / 8 + 1)).map fun q => (byteX x T i q : Int)
theorem rowX_eq (x T i : Nat) : rowX x T i = if i % 8 = 0 then bytesX x T i ++ [0] else bytesX x T i := by
  unfold rowX bytesX
  by_cases h : i % 8 = 0
  · rw [if_pos h, show (i + 7) / 8 = i / 8 by omega, List.range_succ, List.map_append]
    simp [byteX_zero h]
  · rw [if_neg h, show (i + 7) / 8 = i / 8 + 1 by omega]
theorem bytesX_succ {x T i : Nat} (h : i < T) : bytesX x T (i + 1) = (rowX x T i).set (i / 8) (((byteX x T i (i / 8) + (x / 2 ^ (T - 1 - i) % 2) * 2 ^ (7 - i % 8) : Nat)) : Int) := by
  unfold bytesX rowX
  rw [show (i + 1 + 7) / 8 = i / 8 + 1 by omega]
  apply List.ext_getElem?
  intro q
  rw [List.getElem?_set, List.getElem?_map, List.getElem?_map]
  simp only [List.length_map, List.length_range]
  by_cases hq : q < i / 8 + 1
  · rw [List.getElem?_range hq]
    by_cases e : i / 8 = q
    · subst e
      rw [if_pos rfl, if_pos hq, ← byteX_step h]
      rfl
    · rw [if_neg e]
      simp only [Option.map_some]
      rw [byteX_full (by omega)]
  · rw [List.getElem?_eq_none (by simp; omega), if_neg (by omega)]
    rfl
theorem F32_eq (R : Type) {n : Nat} (hn : n ≤ 7) (k : Int → Option R) : F32 R 1 (n : Int) k = k ((2 ^ n : Nat) : Int) := by
  have go : ∀ (m i : Nat), i ≤ n → n - i < m → G32_4 m R ((2 ^ i : Nat) : Int) (n : Int) (i : Int) k = k ((2 ^ n : Nat) : Int) := by
    intro m
    induction m with
    | zero => intro i _ h; omega
    | succ m ih =>
      intro i h1 h2
      simp only [G32_4, p32_4]
      by_cases hi : i < n
      · have hd : decide ((i : Int) < (n : Int)) = true := by simpa using hi
        have hp : 2 ^ i ≤ 2 ^ 7 := Nat.pow_le_pow_right (by omega) (by omega)
        have hp0 : 0 < 2 ^ i := Nat.pow_pos (by omega)
        simp only [hd]
        have := ih (i + 1) (by omega) (by omega)
        rw [wrap_u32 (n := 2 * ((2 ^ i : Nat) : Int)) (by omega) (by omega), wrap_i64 (n := (i : Int) + 1) (by omega) (by omega), show (2 : Int) * ((2 ^ i : Nat) : Int) = ((2 ^ (i + 1) : Nat) : Int) by rw [Nat.pow_succ]; omega]
        exact this
      · have : i = n := by omega
        subst this
        have hd : decide ((i : Int) < (i : Int)) = false := by simp
        simp only [hd]
  simp only [F32, p32]
  have hd : decide ((n : Int) > 31) = false := decide_eq_false (by omega)
  simp only [hd]
  exact go FUEL 0 (by omega) (by rw [FUEL_eq]; omega)
end Go.PG
namespace Go.PG
theorem G13_eq (R : Type) {x T : Nat} (hT : T ≤ 12) (hx : x < 2 ^ T) (k0 : List Int → Option R) : ∀ (m i : Nat), i ≤ T → T - i < m → G13_3 m R (x : Int) (T : Int) (i : Int) (bytesX x T i) k0 = k0 (bytesX x T T)
  | 0, i, _, h => by omega
  | m + 1, i, h1, h2 => by
    simp only [G13_3, p13_3]
    by_cases hi : i < T
    · have hd : decide ((i : Int) < (T : Int)) = true := by simpa using hi
      simp only [hd]
      have h12 : 2 ^ T ≤ 2 ^ 12 := Nat.pow_le_pow_right (by omega) hT
      have ih := G13_eq R hT hx k0 m (i + 1) (by omega) (by omega)
      have em : Int.tmod (i : Int) 8 = ((i % 8 : Nat) : Int) := by rw [Int.tmod_eq_emod_of_nonneg (by omega)]; omega
      have ex : IntKind.u32.wrap (Int.tmod (x : Int) 4294967296) = (x : Int) := by rw [Int.tmod_eq_emod_of_nonneg (by omega), wrap_u32 (by omega) (by omega)]; omega
      have et : IntKind.i64.wrap (IntKind.i64.wrap ((T : Int) - 1) - i) = ((T - 1 - i : Nat) : Int) := by rw [wrap_i64 (n := (T : Int) - 1) (by omega) (by omega), wrap_i64 (by omega) (by omega)]; omega
      have eq : IntKind.i64.wrap (Int.tdiv (i : Int) 8) = ((i / 8 : Nat) : Int) := by rw [Int.tdiv_eq_ediv_of_nonneg (by omega), wrap_i64 (by omega) (by omega)]; omega
      have e7 : IntKind.i64.wrap (7 - ((i % 8 : Nat) : Int)) = ((7 - i % 8 : Nat) : Int) := by rw [wrap_i64 (by omega) (by omega)]; omega
      have ei : IntKind.i64.wrap ((i : Int) + 1) = ((i + 1 : Nat) : Int) := by rw [wrap_i64 (by omega) (by omega)]; omega
      have es : shrS (x : Int) (T - 1 - i) = ((x / 2 ^ (T - 1 - i) : Nat) : Int) := by
        unfold shrS
        rw [Int.natCast_ediv]
        simp
      have e2 : Int.tmod ((x / 2 ^ (T - 1 - i) : Nat) : Int) 2 = ((x / 2 ^ (T - 1 - i) % 2 : Nat) : Int) := by
        have : ∀ z : Nat, Int.tmod (z : Int) 2 = ((z % 2 : Nat) : Int) := fun z => by rw [Int.tmod_eq_emod_of_nonneg (by omega)]; omega
        exact this _
      simp only [em, ex, et, eq, e7, ei]
      have hrl : (rowX x T i).length = i / 8 + 1 := by simp [rowX]
      have hrg : (rowX x T i).getD (i / 8) 0 = (byteX x T i (i / 8) : Int) := by simp [rowX]
      have tail : (F31 R (x : Int) ((T - 1 - i : Nat) : Int) fun y14 =>
          match Int.tmod y14 2 == 1 with
          | true => match bnd ((i / 8 : Nat) : Int) ((rowX x T i).length : Int) with
            | true => F32 R 1 ((7 - i % 8 : Nat) : Int) fun y22 => match bnd ((i / 8 : Nat) : Int) ((rowX x T i).length : Int) with
              | true => G13_3 m R (x : Int) (T : Int) ((i + 1 : Nat) : Int) (List.set (rowX x T i) (Int.toNat ((i / 8 : Nat) : Int)) (IntKind.u8.wrap (List.getD (rowX x T i) (Int.toNat ((i / 8 : Nat) : Int)) 0 + IntKind.u8.wrap y22))) k0
              | false => none
            | false => none
          | false => G13_3 m R (x : Int) (T : Int) ((i + 1 : Nat) : Int) (rowX x T i) k0) = k0 (bytesX x T T) := by
        rw [F31_eq R (x := (x : Int)) (by unfold U32; omega) (by omega), es, e2]
        have hset := bytesX_succ (x := x) hi
        have hstep := byteX_step (x := x) hi
        have hlt := byteX_lt x T (i + 1) (i / 8)
        rw [hset] at ih
        have hb : x / 2 ^ (T - 1 - i) % 2 = 0 ∨ x / 2 ^ (T - 1 - i) % 2 = 1 := by omega
        rcases hb with hb | hb
        · rw [hb] at ih ⊢
          have e0 : (((0 : Nat) : Int) == 1) = false := rfl
          simp only [e0]
          have : (rowX x T i).set (i / 8) ((byteX x T i (i / 8) + 0 * 2 ^ (7 - i % 8) : Nat) : Int) = rowX x T i := by
            rw [Nat.zero_mul, Nat.add_zero, ← hrg]
            apply List.ext_getElem?
            intro q
            rw [List.getElem?_set]
            by_cases e : i / 8 = q
            · subst e
              rw [if_pos rfl, if_pos (by omega)]
              simp [hrl]
            · rw [if_neg e]
          rw [this] at ih
          exact ih
        · rw [hb] at ih hstep ⊢
          have e0 : (((1 : Nat) : Int) == 1) = true := rfl
          have hbn : bnd ((i / 8 : Nat) : Int) ((rowX x T i).length : Int) = true := by rw [hrl]; unfold bnd; simp; omega
          simp only [e0, hbn, Int.toNat_natCast, hrg]
          rw [F32_eq R (by omega)]
          rw [Nat.one_mul] at hstep ih
          have hpp : 0 < 2 ^ (7 - i % 8) := Nat.pow_pos (by omega)
          rw [wrap_u8 (n := ((2 ^ (7 - i % 8) : Nat) : Int)) (by omega) (by omega), wrap_u8 (by omega) (by omega), ← Int.natCast_add]
          exact ih
      by_cases h0 : i % 8 = 0
      · have e0 : (((i % 8 : Nat) : Int) == 0) = true := by rw [h0]; rfl
        have hc : decide (List.length (bytesX x T i) + List.length [(0 : Int)] ≤ 140737488355328) = true := by simp [bytesX]; omega
        have hr : bytesX x T i ++ [0] = rowX x T i := by rw [rowX_eq, if_pos h0]
        simp only [e0, hc, hr]
        exact tail
      · have e0 : (((i % 8 : Nat) : Int) == 0) = false := beq_eq_false_iff_ne.2 (by omega)
        have hr : bytesX x T i = rowX x T i := by rw [rowX_eq, if_neg h0]
        simp only [e0, hr]
        exact tail
    · have : i = T := by omega
      subst this
      have hd : decide ((i : Int) < (i : Int)) = false := by simp
      simp only [hd]
theorem F13_eq (R : Type) {x T : Nat} (hT : T ≤ 12) (hx : x < 2 ^ T) (k : List Int → Option R) : F13 R (x : Int) (T : Int) k = k (bytesX x T T) := by
  simp only [F13, p13]
  exact G13_eq R hT hx (fun x1 => k x1) FUEL 0 (by omega) (by rw [FUEL_eq]; omega)
theorem bytesX_u8 (x T i : Nat) : AllU8 (bytesX x T i) := fun y hy => by
  unfold bytesX at hy
  obtain ⟨q, _, rfl⟩ := List.mem_map.1 hy
  have := byteX_lt x T i q
  unfold U8
  omega
def tapeX (x T : Nat) : Src := tapeSrc (bytesX x T T) (T : Int)
theorem bit_tape {x T n : Nat} (hn : n < T) : bitAt (tapeX x T) (n : Int) = ((x / 2 ^ (T - 1 - n) % 2 : Nat) : Int) := by
  unfold bitAt
  rw [if_pos (show (tapeX x T).1 = 1 from rfl)]
  have e1 : ((n : Int) / 8).toNat = n / 8 := by omega
  have e2 : (7 - (n : Int) % 8).toNat = 7 - n % 8 := by omega
  have e3 : (tapeX x T).2.1.getD (n / 8) 0 = (byteX x T T (n / 8) : Int) := by
    show (bytesX x T T).getD (n / 8) 0 = _
    unfold bytesX
    simp [show n / 8 < (T + 7) / 8 by omega]
  rw [e1, e2, e3]
  have key : byteX x T T (n / 8) / 2 ^ (7 - n % 8) % 2 = x / 2 ^ (T - 1 - n) % 2 := by
    unfold byteX
    have hc : n % 8 < min 8 (T - 8 * (n / 8)) := by omega
    have hc8 : min 8 (T - 8 * (n / 8)) ≤ 8 := by omega
    have he : T - 1 - n = (T - 8 * (n / 8) - min 8 (T - 8 * (n / 8))) + (min 8 (T - 8 * (n / 8)) - 1 - n % 8) := by omega
    rw [he, Nat.pow_add, ← Nat.div_div_eq_div_mul]
    generalize min 8 (T - 8 * (n / 8)) = c at *
    generalize x / 2 ^ (T - 8 * (n / 8) - c) = z
    generalize n % 8 = r at *
    have : c = 1 ∨ c = 2 ∨ c = 3 ∨ c = 4 ∨ c = 5 ∨ c = 6 ∨ c = 7 ∨ c = 8 := by omega
    have : r = 0 ∨ r = 1 ∨ r = 2 ∨ r = 3 ∨ r = 4 ∨ r = 5 ∨ r = 6 ∨ r = 7 := by omega
    rcases ‹c = 1 ∨ _› with rfl | rfl | rfl | rfl | rfl | rfl | rfl | rfl <;> rcases ‹r = 0 ∨ _› with rfl | rfl | rfl | rfl | rfl | rfl | rfl | rfl <;> simp only [Nat.reduceAdd, Nat.reduceSub, Nat.reducePow] <;> omega
  rw [← key, Int.natCast_emod, Int.natCast_ediv]
  simp
theorem take_tape {x T : Nat} : ∀ (n a : Nat), a + n ≤ T → takeV (tapeX x T) (a : Int) n = ((x / 2 ^ (T - a - n) % 2 ^ n : Nat) : Int)
  | 0, a, _ => by simp [takeV, Nat.mod_one]
  | n + 1, a, h => by
    simp only [takeV]
    rw [take_tape n a (by omega), ← Int.natCast_add, bit_tape (n := a + n) (by omega)]
    rw [show T - a - n = (T - 1 - (a + n)) + 1 by omega, show T - a - (n + 1) = T - 1 - (a + n) by omega]
    rw [show 2 ^ (T - 1 - (a + n) + 1) = 2 ^ (T - 1 - (a + n)) * 2 by rw [Nat.pow_succ], ← Nat.div_div_eq_div_mul]
    generalize x / 2 ^ (T - 1 - (a + n)) = z
    have : z % 2 ^ (n + 1) = 2 * (z / 2 % 2 ^ n) + z % 2 := by
      rw [show 2 ^ (n + 1) = 2 * 2 ^ n by rw [Nat.pow_succ, Nat.mul_comm], Nat.mod_mul]
      omega
    rw [this]
    omega
end Go.PG
namespace Go.PG
theorem tapeX_len (x T : Nat) : (bytesX x T T).length = (T + 7) / 8 := by simp [bytesX]
theorem tapeX_ok (x : Nat) {T : Nat} (hT : T ≤ 12) : SOK (tapeX x T) := tapeSrc_ok (bytesX_u8 _ _ _) (by rw [tapeX_len]; omega) (by unfold U64; omega)
theorem tapeX_right (x : Nat) {T a : Nat} (ha : a ≤ T) : rightS' (setAt (tapeX x T) (a : Int)) = true ∧ leftS (setAt (tapeX x T) (a : Int)) = ((T - a : Nat) : Int) := by
  have hr : rightS' (setAt (tapeX x T) (a : Int)) = true := by
    unfold rightS'
    rw [if_pos (show (setAt (tapeX x T) (a : Int)).1 = 1 from rfl)]
    refine decide_eq_true ⟨?_, ?_⟩
    · show (T : Int) ≤ 8 * ((bytesX x T T).length : Int)
      rw [tapeX_len]; omega
    · show (a : Int) ≤ (T : Int)
      omega
  refine ⟨hr, ?_⟩
  unfold leftS
  rw [if_pos hr]
  show (T : Int) - (a : Int) = _
  omega
theorem cntX_le (p : Nat → Bool) (n : Nat) : cnt p n ≤ n := by
  unfold cnt
  have := List.countP_le_length (p := p) (l := List.range n)
  simpa using this
end Go.PG
namespace Go.PG
def sumS (l : List Int) (n : Nat) : Int := (l.take n).sum
theorem sumS_zero (l : List Int) : sumS l 0 = 0 := rfl
theorem sumS_succ {l : List Int} {i : Nat} (h : i < l.length) : sumS l (i + 1) = sumS l i + l.getD i 0 := by
  unfold sumS
  have et : l.take (i + 1) = l.take i ++ [l[i]] := by rw [List.take_succ_eq_append_getElem h]
  rw [et, List.sum_append]
  simp [h]
def AllU64 (l : List Int) : Prop := ∀ x ∈ l, U64 x
theorem u64_0 : U64 0 := by unfold U64; omega
theorem sumS_mono {l : List Int} (h : AllU64 l) {a : Nat} : ∀ d : Nat, sumS l a ≤ sumS l (a + d)
  | 0 => Int.le_refl _
  | d + 1 => by
    have ih := sumS_mono h (a := a) d
    by_cases hd : a + d < l.length
    · have := (getD_all h u64_0 (a + d)).1
      rw [← Nat.add_assoc, sumS_succ hd]
      omega
    · have e : sumS l (a + (d + 1)) = sumS l (a + d) := by
        unfold sumS
        rw [List.take_of_length_le (by omega), List.take_of_length_le (by omega)]
      rw [e]; exact ih
theorem sumS_le {l : List Int} (h : AllU64 l) {a b : Nat} (hab : a ≤ b) : sumS l a ≤ sumS l b := by
  have := sumS_mono h (a := a) (b - a)
  rwa [show a + (b - a) = b by omega] at this
theorem sumS_nonneg {l : List Int} (h : AllU64 l) (n : Nat) : 0 ≤ sumS l n := by
  have := sumS_le h (Nat.zero_le n)
  rwa [sumS_zero] at this
def totS (l : List Int) : Int := sumS l l.length
theorem sumS_tot {l : List Int} (h : AllU64 l) (n : Nat) : sumS l n ≤ totS l := by
  by_cases hn : n ≤ l.length
  · exact sumS_le h hn
  · unfold totS sumS
    rw [List.take_of_length_le (by omega), List.take_length]
    exact Int.le_refl _
def lowF : Nat → Nat → Nat
  | 0, _ => 1
  | f + 1, n => if n % 2 = 0 then 2 * lowF f (n / 2) else 1
def lowN (n : Nat) : Nat := lowF 20 n
def ALLN : List Nat := List.range' 1 1000
theorem low_check : (ALLN.all fun n => decide (iand .i64 (n : Int) (IntKind.i64.wrap (0 - (n : Int))) = (lowN n : Int)) && decide (1 ≤ lowN n ∧ lowN n ≤ n)) = true := by kernel_rfl
theorem low_ok {n : Nat} (h1 : 1 ≤ n) (h2 : n ≤ 1000) : iand .i64 (n : Int) (IntKind.i64.wrap (0 - (n : Int))) = (lowN n : Int) ∧ 1 ≤ lowN n ∧ lowN n ≤ n := by
  have := List.all_eq_true.1 low_check n (by unfold ALLN; rw [List.mem_range']; exact ⟨n - 1, by omega, by omega⟩)
  simp only [Bool.and_eq_true, decide_eq_true_eq] at this
  exact ⟨this.1, this.2⟩
theorem F67_eq (R : Type) {n : Nat} (h1 : 1 ≤ n) (h2 : n ≤ 1000) (k : Int → Option R) : F67 R (n : Int) k = k (lowN n : Int) := by
  simp only [F67, p67]
  rw [(low_ok h1 h2).1]
theorem G43_eq' (R : Type) (k0 : Int → Option R) : ∀ (f m n b : Nat), 1 ≤ n → n < 2 ^ f → f < m → n * b ≤ 1000000 → 1 ≤ b → G43_2 m R (n : Int) (b : Int) k0 = k0 ((b * lowF f n : Nat) : Int)
  | _, 0, _, _, _, _, h, _, _ => by omega
  | 0, m + 1, n, b, h1, h2, _, _, _ => by simp at h2; omega
  | f + 1, m + 1, n, b, h1, h2, h3, h4, h5 => by
    simp only [G43_2, p43_2, lowF]
    rw [Nat.pow_succ] at h2
    rw [Int.tmod_eq_emod_of_nonneg (by omega)]
    have hbn : b ≤ n * b := Nat.le_mul_of_pos_left b (by omega)
    have hnn : n ≤ n * b := Nat.le_mul_of_pos_right n (by omega)
    by_cases h0 : n % 2 = 0
    · have e : ((n : Int) % 2 == 0) = true := by
        have : (n : Int) % 2 = 0 := by omega
        simp [this]
      have hle : n / 2 * (2 * b) ≤ 1000000 := by
        have : n / 2 * (2 * b) = n / 2 * 2 * b := by rw [Nat.mul_assoc]
        rw [this, show n / 2 * 2 = n by omega]; exact h4
      have ih := G43_eq' R k0 f m (n / 2) (2 * b) (by omega) (by omega) (by omega) hle (by omega)
      simp only [e, if_pos h0]
      rw [Int.tdiv_eq_ediv_of_nonneg (by omega), wrap_i64 (n := (n : Int) / 2) (by omega) (by omega), wrap_i64 (n := 2 * (b : Int)) (by omega) (by omega), show (n : Int) / 2 = ((n / 2 : Nat) : Int) by omega, show 2 * (b : Int) = ((2 * b : Nat) : Int) by omega, ih]
      congr 2
      rw [← Nat.mul_assoc, Nat.mul_comm b 2]
    · have e : ((n : Int) % 2 == 0) = false := beq_eq_false_iff_ne.2 (by omega)
      simp only [e, if_neg h0, Nat.mul_one]
theorem F43_eq' (R : Type) {n : Nat} (h1 : 1 ≤ n) (h2 : n ≤ 1000) (k : Int → Option R) : F43 R (n : Int) k = k (lowN n : Int) := by
  simp only [F43, p43]
  have := G43_eq' R (fun x1 => k x1) 20 FUEL n 1 h1 (by omega) (by rw [FUEL_eq]; omega) (by omega) (Nat.le_refl _)
  rw [Nat.one_mul] at this
  exact this
theorem low_even (m : Nat) (h1 : 1 ≤ m) (h2 : m ≤ 500) : lowN (2 * m) = 2 * lowN m := by
  have : (List.range' 1 500).all (fun m => decide (lowN (2 * m) = 2 * lowN m)) = true := by kernel_rfl
  have := List.all_eq_true.1 this m (by rw [List.mem_range']; exact ⟨m - 1, by omega, by omega⟩)
  exact of_decide_eq_true this
theorem low_odd (m : Nat) : lowN (2 * m + 1) = 1 := by
  unfold lowN lowF
  rw [if_neg (by omega)]
theorem low_pow : ∀ (k q : Nat), (2 * q + 1) * 2 ^ k ≤ 1000 → lowN ((2 * q + 1) * 2 ^ k) = 2 ^ k
  | 0, q, _ => by rw [Nat.pow_zero, Nat.mul_one, low_odd]
  | k + 1, q, h => by
    rw [Nat.pow_succ, ← Nat.mul_assoc] at h
    have hp : 0 < (2 * q + 1) * 2 ^ k := Nat.mul_pos (by omega) (Nat.pow_pos (by omega))
    rw [Nat.pow_succ, ← Nat.mul_assoc, Nat.mul_comm _ 2, low_even _ hp (by omega), low_pow k q (by omega), Nat.mul_comm]
def nodeS (l : List Int) (q : Nat) : Int := sumS l (q + 1) - sumS l (q + 1 - lowN (q + 1))
def treeS (l : List Int) : List Int := (List.range l.length).map (nodeS l)
theorem treeS_len (l : List Int) : (treeS l).length = l.length := by simp [treeS]
theorem treeS_get {l : List Int} {q : Nat} (h : q < l.length) : (treeS l).getD q 0 = nodeS l q := by
  simp [treeS, h]
theorem node_range {l : List Int} (h : AllU64 l) (ht : totS l < 9223372036854775808) (q : Nat) : 0 ≤ nodeS l q ∧ nodeS l q < 9223372036854775808 := by
  have h1 := sumS_le h (a := q + 1 - lowN (q + 1)) (b := q + 1) (by omega)
  have h2 := sumS_nonneg h (q + 1 - lowN (q + 1))
  have h3 := sumS_tot h (q + 1)
  unfold nodeS
  omega
theorem G42_eq' (R : Type) {l : List Int} (h : AllU64 l) (ht : totS l < 9223372036854775808) (hlen : l.length ≤ 1000) (b a : Nat) (hb : b ≤ l.length) (k0 : Int → Option R) : ∀ (m i : Nat), a ≤ i → i ≤ b → b - i < m → G42_3 m R l (b : Int) (sumS l i - sumS l a) (i : Int) k0 = k0 (sumS l b - sumS l a)
  | 0, i, _, _, h => by omega
  | m + 1, i, h0, h1, h2 => by
    simp only [G42_3, p42_3]
    by_cases hi : i < b
    · have hd : decide ((i : Int) < (b : Int)) = true := by simpa using hi
      have hbn : bnd (i : Int) (l.length : Int) = true := by unfold bnd; simp; omega
      have q1 := sumS_le h h0
      have q2 := sumS_tot h (i + 1)
      have q3 := sumS_succ (l := l) (i := i) (by omega)
      have q4 := sumS_nonneg h a
      have q5 := (getD_all h u64_0 i).1
      simp only [hd, hbn, Int.toNat_natCast]
      rw [wrap_u64 (n := sumS l i - sumS l a + l.getD i 0) (by omega) (by omega), wrap_i64 (n := (i : Int) + 1) (by omega) (by omega), show sumS l i - sumS l a + l.getD i 0 = sumS l (i + 1) - sumS l a by omega]
      exact G42_eq' R h ht hlen b a hb k0 m (i + 1) (by omega) (by omega) (by omega)
    · have : i = b := by omega
      subst this
      have hd : decide ((i : Int) < (i : Int)) = false := by simp
      simp only [hd]
theorem F42_eq' (R : Type) {l : List Int} (h : AllU64 l) (ht : totS l < 9223372036854775808) (hlen : l.length ≤ 1000) {a b : Nat} (hab : a ≤ b) (hb : b ≤ l.length) (k : Int → Option R) : F42 R l (a : Int) (b : Int) k = k (sumS l b - sumS l a) := by
  simp only [F42, p42]
  have := G42_eq' R h ht hlen b a hb (fun x1 => k x1) FUEL a (Nat.le_refl _) hab (by rw [FUEL_eq]; omega)
  rw [Int.sub_self] at this
  exact this
theorem G21_eq (R : Type) {l : List Int} (h : AllU64 l) (ht : totS l < 9223372036854775808) (hlen : l.length ≤ 500) (x3 : List Int × Unit) (k0 : (List Int × Unit) → List Int → Unit → Option R) : ∀ (m i : Nat), i ≤ l.length → l.length - i < m →
    G21_3 m R l (i : Int) x3 ((List.range i).map (nodeS l)) () k0 = k0 x3 (treeS l) ()
  | 0, i, _, h => by omega
  | m + 1, i, h1, h2 => by
    simp only [G21_3, p21_3]
    by_cases hi : i < l.length
    · have hd : decide ((i : Int) < (l.length : Int)) = true := by simpa using hi
      simp only [hd]
      have hl := low_ok (n := i + 1) (by omega) (by omega)
      rw [wrap_i64 (n := (i : Int) + 1) (by omega) (by omega), show (i : Int) + 1 = ((i + 1 : Nat) : Int) by omega, F43_eq' R (by omega) (by omega), wrap_i64 (n := ((i + 1 : Nat) : Int) - (lowN (i + 1) : Int)) (by omega) (by omega), show ((i + 1 : Nat) : Int) - (lowN (i + 1) : Int) = ((i + 1 - lowN (i + 1) : Nat) : Int) by omega, F42_eq' R h ht (by omega) (by omega) (by omega)]
      have hc : ∀ y : Int, decide (List.length ((List.range i).map (nodeS l)) + List.length [y] ≤ 17592186044416) = true := fun y => by simp; omega
      simp only [hc]
      have e : (List.range i).map (nodeS l) ++ [sumS l (i + 1) - sumS l (i + 1 - lowN (i + 1))] = (List.range (i + 1)).map (nodeS l) := by
        rw [List.range_succ, List.map_append]; rfl
      rw [e]
      exact G21_eq R h ht hlen x3 k0 m (i + 1) (by omega) (by omega)
    · have : i = l.length := by omega
      subst this
      have hd : decide ((l.length : Int) < (l.length : Int)) = false := by simp
      simp only [hd]
      rfl
theorem F21_eq (R : Type) {l : List Int} (h : AllU64 l) (ht : totS l < 9223372036854775808) (hlen : l.length ≤ 500) (k : (List Int × Unit) → Option R) : F21 R l k = k (treeS l, ()) := by
  simp only [F21, p21]
  exact G21_eq R h ht hlen ([], ()) (fun x1 x2 x3 => k (x2, ())) FUEL 0 (by omega) (by rw [FUEL_eq]; omega)
theorem G96_eq (R : Type) {l : List Int} (h : AllU64 l) (ht : totS l < 9223372036854775808) (hlen : l.length ≤ 500) (k0 : Int → Option R) (n0 : Nat) (hn0 : n0 ≤ l.length) : ∀ (m n : Nat), n ≤ n0 → n < m → G96_1 m R (n : Int) (sumS l n0 - sumS l n) (treeS l, ()) k0 = k0 (sumS l n0)
  | 0, n, _, h => by omega
  | m + 1, n, h1, h2 => by
    simp only [G96_1, p96_1]
    by_cases hn : n = 0
    · subst hn
      have hd : decide (((0 : Nat) : Int) > 0) = false := by simp
      simp only [hd, sumS_zero, Int.sub_zero]
    · have hd : decide ((n : Int) > 0) = true := decide_eq_true (by omega)
      have hl := low_ok (n := n) (by omega) (by omega)
      rw [wrap_i64 (n := (n : Int) - 1) (by omega) (by omega), show (n : Int) - 1 = ((n - 1 : Nat) : Int) by omega]
      have hbn : bnd ((n - 1 : Nat) : Int) ((treeS l).length : Int) = true := by rw [treeS_len]; unfold bnd; simp; omega
      simp only [hd, hbn, Int.toNat_natCast]
      rw [treeS_get (by omega), F67_eq R (by omega) (by omega)]
      have e : nodeS l (n - 1) = sumS l n - sumS l (n - lowN n) := by
        unfold nodeS
        rw [show n - 1 + 1 = n by omega]
      have q1 := sumS_le h (a := n - lowN n) (b := n) (by omega)
      have q2 := sumS_nonneg h (n - lowN n)
      have q3 := sumS_tot h n0
      have q4 := sumS_le h h1
      rw [e, wrap_u64 (n := sumS l n0 - sumS l n + (sumS l n - sumS l (n - lowN n))) (by omega) (by omega), wrap_i64 (n := (n : Int) - (lowN n : Int)) (by omega) (by omega), show (n : Int) - (lowN n : Int) = ((n - lowN n : Nat) : Int) by omega, show sumS l n0 - sumS l n + (sumS l n - sumS l (n - lowN n)) = sumS l n0 - sumS l (n - lowN n) by omega]
      exact G96_eq R h ht hlen k0 n0 hn0 m (n - lowN n) (by omega) (by omega)
theorem F76_eq (R : Type) {l : List Int} (h : AllU64 l) (ht : totS l < 9223372036854775808) (hlen : l.length ≤ 500) (k : Int → Option R) : F76 R (treeS l, ()) k = k (totS l) := by
  simp only [F76, p76, F97, p97, F96, p96, treeS_len]
  have := G96_eq R h ht hlen (fun x1 => k x1) l.length (Nat.le_refl _) FUEL l.length (Nat.le_refl _) (by rw [FUEL_eq]; omega)
  rw [Int.sub_self] at this
  exact this
def Owns (l : List Int) (x : Int) (i : Nat) : Prop := i < l.length ∧ sumS l i ≤ x ∧ x < sumS l (i + 1)
theorem Owns.uniq {l : List Int} (h : AllU64 l) {x : Int} {i j : Nat} (hi : Owns l x i) (hj : Owns l x j) : i = j := by
  obtain ⟨a1, a2, a3⟩ := hi
  obtain ⟨b1, b2, b3⟩ := hj
  rcases Nat.lt_trichotomy i j with h1 | h1 | h1
  · have := sumS_le h (a := i + 1) (b := j) (by omega); omega
  · exact h1
  · have := sumS_le h (a := j + 1) (b := i) (by omega); omega
theorem G77_4_eq (R : Type) {n : Nat} (hn : n ≤ 500) (t : List Int × Unit) (htl : t.1.length = n) (x : Int) (k0 : Int → Int → Int → (List Int × Unit) → Option R) : ∀ (m k : Nat), 2 ^ k ≤ n ∨ k = 0 → n + 2 < m + 2 ^ k → ∃ j, n < 2 ^ (j + 1) ∧ (2 ^ j ≤ n ∨ j = 0) ∧ G77_4 m R x 0 ((2 ^ k : Nat) : Int) t k0 = k0 x 0 ((2 ^ j : Nat) : Int) t
  | 0, k, h1, h2 => by
    rcases h1 with h1 | rfl
    · omega
    · rw [Nat.pow_zero] at h2; omega
  | m + 1, k, h1, h2 => by
    simp only [G77_4, p77_4, F97, p97, htl]
    have hpp : 0 < 2 ^ k := Nat.pow_pos (by omega)
    have hp : 2 ^ k ≤ 500 := by
      rcases h1 with h1 | rfl
      · omega
      · rw [Nat.pow_zero]; omega
    have e : ishl .i64 ((2 ^ k : Nat) : Int) 1 = ((2 ^ (k + 1) : Nat) : Int) := by
      unfold ishl
      rw [show (2 : Int) ^ (min (1 : Int).toNat IntKind.i64.bits) = 2 by decide, Nat.pow_succ]
      generalize 2 ^ k = p at *
      rw [wrap_i64 (by omega) (by omega)]; omega
    rw [e]
    by_cases hk : 2 ^ (k + 1) ≤ n
    · have hd : decide (((2 ^ (k + 1) : Nat) : Int) ≤ (n : Int)) = true := decide_eq_true (by omega)
      simp only [hd]
      exact G77_4_eq R hn t htl x k0 m (k + 1) (.inl hk) (by rw [Nat.pow_succ]; omega)
    · have hd : decide (((2 ^ (k + 1) : Nat) : Int) ≤ (n : Int)) = false := decide_eq_false (by omega)
      simp only [hd]
      exact ⟨k, by omega, h1, rfl⟩
theorem G77_6_eq (R : Type) {l : List Int} (h : AllU64 l) (ht : totS l < 9223372036854775808) (hlen : l.length ≤ 400) {x : Int} (hx : 0 ≤ x ∧ x < totS l) (k0 : Int → Option R) : ∀ (m k q : Nat), 2 ^ (k + 1) * q ≤ l.length → 2 ^ k ≤ 500 → sumS l (2 ^ (k + 1) * q) ≤ x → (l.length < 2 ^ (k + 1) * q + 2 ^ (k + 1) ∨ x < sumS l (2 ^ (k + 1) * q + 2 ^ (k + 1))) → k + 1 < m →
    ∃ i, Owns l x i ∧ G77_6 m R (x - sumS l (2 ^ (k + 1) * q)) ((2 ^ (k + 1) * q : Nat) : Int) ((2 ^ k : Nat) : Int) (treeS l, ()) k0 = k0 (i : Int)
  | 0, _, _, _, _, _, _, h => by omega
  | m + 1, k, q, h1, h2, h3, h4, h5 => by
    have hpp : 0 < 2 ^ k := Nat.pow_pos (by omega)
    have e1 : 2 ^ (k + 1) * q = 2 ^ k * (2 * q) := by rw [Nat.pow_succ, Nat.mul_assoc]
    have hlow : 2 ^ (k + 1) * q + 2 ^ k ≤ 1000 → lowN (2 ^ (k + 1) * q + 2 ^ k) = 2 ^ k := fun hh => by
      have e2 : 2 ^ (k + 1) * q + 2 ^ k = (2 * q + 1) * 2 ^ k := by rw [e1, Nat.add_mul, Nat.one_mul, Nat.mul_comm (2 * q)]
      rw [e2] at hh ⊢
      exact low_pow k q hh
    simp only [G77_6, p77_6, F97, p97, treeS_len]
    have hd : decide (((2 ^ k : Nat) : Int) > 0) = true := decide_eq_true (by omega)
    have eshr : ishr .i64 ((2 ^ k : Nat) : Int) 1 = ((2 ^ k / 2 : Nat) : Int) := by
      unfold ishr
      rw [show (2 : Int) ^ (min (1 : Int).toNat IntKind.i64.bits) = 2 by decide, Int.fdiv_eq_ediv_of_nonneg _ (by omega)]
      omega
    simp only [hd, eshr]
    rw [wrap_i64 (n := ((2 ^ (k + 1) * q : Nat) : Int) + ((2 ^ k : Nat) : Int)) (by omega) (by omega), show ((2 ^ (k + 1) * q : Nat) : Int) + ((2 ^ k : Nat) : Int) = ((2 ^ (k + 1) * q + 2 ^ k : Nat) : Int) by omega]
    -- what comes behind, for the next step
    have next : ∀ (q' : Nat) (_ : 2 ^ k * q' ≤ l.length) (_ : sumS l (2 ^ k * q') ≤ x) (_ : l.length < 2 ^ k * q' + 2 ^ k ∨ x < sumS l (2 ^ k * q' + 2 ^ k)),
        ∃ i, Owns l x i ∧ G77_6 m R (x - sumS l (2 ^ k * q')) ((2 ^ k * q' : Nat) : Int) ((2 ^ k / 2 : Nat) : Int) (treeS l, ()) k0 = k0 (i : Int) := by
      intro q' g1 g2 g3
      cases k with
      | zero =>
        rw [Nat.pow_zero, Nat.one_mul] at g1 g2 g3 ⊢
        have hlt : q' < l.length := by
          refine Classical.byContradiction fun hh => ?_
          have : sumS l q' = totS l := by
            unfold totS sumS
            rw [List.take_of_length_le (by omega), List.take_length]
          omega
        refine ⟨q', ⟨hlt, g2, ?_⟩, ?_⟩
        · rcases g3 with g3 | g3
          · have : q' + 1 = l.length := by omega
            rw [this]; exact hx.2
          · exact g3
        · cases m with
          | zero => omega
          | succ m =>
            simp only [G77_6, p77_6]
            rfl
      | succ k =>
        have e3 : 2 ^ (k + 1) / 2 = 2 ^ k := by rw [Nat.pow_succ]; omega
        rw [e3]
        exact G77_6_eq R h ht hlen hx k0 m k q' g1 (by rw [Nat.pow_succ] at h2; omega) g2 g3 (by omega)
    by_cases hn : 2 ^ (k + 1) * q + 2 ^ k ≤ l.length
    · have hd2 : decide (((2 ^ (k + 1) * q + 2 ^ k : Nat) : Int) ≤ (l.length : Int)) = true := decide_eq_true (by omega)
      have hbn : bnd ((2 ^ (k + 1) * q + 2 ^ k - 1 : Nat) : Int) (l.length : Int) = true := by unfold bnd; simp; omega
      rw [wrap_i64 (n := ((2 ^ (k + 1) * q + 2 ^ k : Nat) : Int) - 1) (by omega) (by omega), show ((2 ^ (k + 1) * q + 2 ^ k : Nat) : Int) - 1 = ((2 ^ (k + 1) * q + 2 ^ k - 1 : Nat) : Int) by omega]
      simp only [hd2, hbn, Int.toNat_natCast]
      have en : nodeS l (2 ^ (k + 1) * q + 2 ^ k - 1) = sumS l (2 ^ (k + 1) * q + 2 ^ k) - sumS l (2 ^ (k + 1) * q) := by
        unfold nodeS
        rw [show 2 ^ (k + 1) * q + 2 ^ k - 1 + 1 = 2 ^ (k + 1) * q + 2 ^ k by omega, hlow (by omega), Nat.add_sub_cancel]
      have eg : (treeS l).getD (2 ^ (k + 1) * q + 2 ^ k - 1) 0 = sumS l (2 ^ (k + 1) * q + 2 ^ k) - sumS l (2 ^ (k + 1) * q) := by rw [treeS_get (by omega), en]
      simp only [eg]
      have q1 := sumS_le h (a := 2 ^ (k + 1) * q) (b := 2 ^ (k + 1) * q + 2 ^ k) (by omega)
      have q2 := sumS_nonneg h (2 ^ (k + 1) * q)
      by_cases hle : sumS l (2 ^ (k + 1) * q + 2 ^ k) ≤ x
      · have hd3 : decide (sumS l (2 ^ (k + 1) * q + 2 ^ k) - sumS l (2 ^ (k + 1) * q) ≤ x - sumS l (2 ^ (k + 1) * q)) = true := decide_eq_true (by omega)
        simp only [hd3]
        rw [wrap_u64 (n := x - sumS l (2 ^ (k + 1) * q) - (sumS l (2 ^ (k + 1) * q + 2 ^ k) - sumS l (2 ^ (k + 1) * q))) (by omega) (by omega), show x - sumS l (2 ^ (k + 1) * q) - (sumS l (2 ^ (k + 1) * q + 2 ^ k) - sumS l (2 ^ (k + 1) * q)) = x - sumS l (2 ^ (k + 1) * q + 2 ^ k) by omega]
        have e4 : 2 ^ (k + 1) * q + 2 ^ k = 2 ^ k * (2 * q + 1) := by rw [e1, Nat.mul_add, Nat.mul_one]
        have e5 : 2 ^ (k + 1) * q + 2 ^ (k + 1) = 2 ^ k * (2 * q + 1) + 2 ^ k := by
          rw [← e4, Nat.pow_succ]; omega
        rw [e4]
        rw [e4] at hle hn
        rw [e5] at h4
        exact next (2 * q + 1) hn hle h4
      · have hd3 : decide (sumS l (2 ^ (k + 1) * q + 2 ^ k) - sumS l (2 ^ (k + 1) * q) ≤ x - sumS l (2 ^ (k + 1) * q)) = false := decide_eq_false (by omega)
        simp only [hd3]
        rw [e1] at h1 h3 hle ⊢
        exact next (2 * q) h1 h3 (.inr (by omega))
    · have hd2 : decide (((2 ^ (k + 1) * q + 2 ^ k : Nat) : Int) ≤ (l.length : Int)) = false := decide_eq_false (by omega)
      simp only [hd2]
      rw [e1] at h1 h3 hn ⊢
      exact next (2 * q) h1 h3 (.inl (by omega))
theorem F77_own (R : Type) {l : List Int} (h : AllU64 l) (ht : totS l < 9223372036854775808) (hlen : l.length ≤ 400) {x : Int} (hx : 0 ≤ x ∧ x < totS l) (k : Int → Int → Option R) : ∃ i, Owns l x i ∧ F77 R (treeS l, ()) x k = k (i : Int) 0 := by
  simp only [F77, p77]
  rw [F76_eq R h ht (by omega)]
  have hd : decide (x ≥ totS l) = false := decide_eq_false (by omega)
  simp only [hd]
  obtain ⟨j, j1, j2, j3⟩ := G77_4_eq R (n := l.length) (by omega) (treeS l, ()) (treeS_len l) x (fun x3 x4 x5 x6 => G77_6 FUEL R x3 x4 x5 x6 (fun x7 => k x7 0)) FUEL 0 (.inr rfl) (by rw [FUEL_eq]; omega)
  have hj : 2 ^ j ≤ 500 := by
    rcases j2 with j2 | rfl
    · omega
    · rw [Nat.pow_zero]; omega
  have hjm : j ≤ 500 := by have := Nat.lt_two_pow_self (n := j); omega
  obtain ⟨i, hi, g⟩ := G77_6_eq R h ht hlen hx (fun x7 => k x7 0) FUEL j 0 (by simp) hj (by rw [Nat.mul_zero, sumS_zero]; exact hx.1) (.inl (by omega)) (by rw [FUEL_eq]; omega)
  refine ⟨i, hi, ?_⟩
  rw [Nat.mul_zero, sumS_zero, Int.sub_zero] at g
  exact j3.trans g
end Go.PG
namespace Go.PG
def lastE (j : Nat) : Nat → Nat
  | 0 => j - lowN j
  | m + 1 => if (m + 1) + lowN (m + 1) = j then m + 1 else lastE j m
theorem last_checkA : ((List.range' 1 400).all fun c => decide (lastE (c + lowN c) (c - 1) = c - lowN c)) = true := by kernel_rfl
theorem last_checkB : ((List.range' 1 400).all fun j => decide (lastE j (j - 1) = j - 1)) = true := by kernel_rfl
theorem lastA {c : Nat} (h1 : 1 ≤ c) (h2 : c ≤ 400) : lastE (c + lowN c) (c - 1) = c - lowN c :=
  of_decide_eq_true (List.all_eq_true.1 last_checkA c (by rw [List.mem_range']; exact ⟨c - 1, by omega, by omega⟩))
theorem lastB {j : Nat} (h1 : 1 ≤ j) (h2 : j ≤ 400) : lastE j (j - 1) = j - 1 :=
  of_decide_eq_true (List.all_eq_true.1 last_checkB j (by rw [List.mem_range']; exact ⟨j - 1, by omega, by omega⟩))
theorem last_keep {j : Nat} (h1 : 1 ≤ j) : ∀ (d : Nat), j + d ≤ 1000 → lastE j (j - 1 + d) = lastE j (j - 1)
  | 0, _ => rfl
  | d + 1, h => by
    have ih := last_keep h1 d (by omega)
    rw [show j - 1 + (d + 1) = (j - 1 + d) + 1 by omega]
    simp only [lastE]
    have := low_ok (n := j - 1 + d + 1) (by omega) (by omega)
    rw [if_neg (by omega), ih]
def partN (l : List Int) (m q : Nat) : Int := sumS l (lastE (q + 1) m) - sumS l (q + 1 - lowN (q + 1)) + l.getD q 0
def partT (l : List Int) (m : Nat) : List Int := (List.range l.length).map (partN l m)
theorem partT_zero (l : List Int) : partT l 0 = l := by
  unfold partT partN
  apply List.ext_getElem?
  intro i
  rw [List.getElem?_map]
  by_cases h : i < l.length
  · rw [List.getElem?_range h]
    simp [lastE, h]
  · rw [List.getElem?_eq_none (by simp; omega), List.getElem?_eq_none (by omega)]
    rfl
theorem partN_done {l : List Int} {q m : Nat} (hq : q < l.length) (hl : l.length ≤ 400) (hm : q ≤ m) (hm2 : m ≤ 500) : partN l m q = nodeS l q := by
  unfold partN nodeS
  have h1 := lastB (j := q + 1) (by omega) (by omega)
  have h2 := last_keep (j := q + 1) (by omega) (m - q) (by omega)
  rw [show q + 1 - 1 + (m - q) = m by omega] at h2
  rw [h2, h1, sumS_succ hq]
  show sumS l (q + 1 - 1) - _ + _ = _
  rw [Nat.add_sub_cancel]
  omega
theorem partT_done {l : List Int} (hl : l.length ≤ 400) : partT l l.length = treeS l := by
  unfold partT treeS
  refine List.map_congr_left (fun q hq => ?_)
  have hq' : q < l.length := by simpa using hq
  exact partN_done hq' hl (by omega) (by omega)
theorem partT_len (l : List Int) (m : Nat) : (partT l m).length = l.length := by simp [partT]
theorem partT_get {l : List Int} {m q : Nat} (h : q < l.length) : (partT l m).getD q 0 = partN l m q := by simp [partT, h]
theorem lastE_le : ∀ (j m : Nat), lastE j m ≤ max m (j - lowN j)
  | j, 0 => by simp [lastE]
  | j, m + 1 => by
    have := lastE_le j m
    simp only [lastE]
    split <;> omega
theorem G38_eq (R : Type) {l : List Int} (h : AllU64 l) (ht : totS l < 9223372036854775808) (hlen : l.length ≤ 200) (x2 : List Int × Unit) (k0 : (List Int × Unit) → List Int → Option R) : ∀ (m i : Nat), i ≤ l.length → l.length - i < m →
    G38_8 m R ((i + 1 : Nat) : Int) x2 (partT l i) k0 = k0 x2 (treeS l)
  | 0, i, _, h => by omega
  | m + 1, i, h1, h2 => by
    simp only [G38_8, p38_8, partT_len]
    by_cases hi : i < l.length
    · have hd : decide (((i + 1 : Nat) : Int) ≤ (l.length : Int)) = true := decide_eq_true (by omega)
      have hlo := low_ok (n := i + 1) (by omega) (by omega)
      simp only [hd]
      rw [F67_eq R (by omega) (by omega), wrap_i64 (n := ((i + 1 : Nat) : Int) + (lowN (i + 1) : Int)) (by omega) (by omega), wrap_i64 (n := ((i + 1 : Nat) : Int) + 1) (by omega) (by omega), show ((i + 1 : Nat) : Int) + 1 = ((i + 1 + 1 : Nat) : Int) by omega]
      have keep : ∀ q, q + 1 ≠ i + 1 + lowN (i + 1) → partN l (i + 1) q = partN l i q := fun q hq => by
        unfold partN
        simp only [lastE]
        rw [if_neg (by omega)]
      by_cases hup : i + 1 + lowN (i + 1) ≤ l.length
      · have hd2 : decide (((i + 1 : Nat) : Int) + (lowN (i + 1) : Int) ≤ (l.length : Int)) = true := decide_eq_true (by omega)
        rw [wrap_i64 (n := ((i + 1 : Nat) : Int) + (lowN (i + 1) : Int) - 1) (by omega) (by omega), wrap_i64 (n := ((i + 1 : Nat) : Int) - 1) (by omega) (by omega), show ((i + 1 : Nat) : Int) + (lowN (i + 1) : Int) - 1 = ((i + lowN (i + 1) : Nat) : Int) by omega, show ((i + 1 : Nat) : Int) - 1 = (i : Int) by omega]
        have hb1 : bnd ((i + lowN (i + 1) : Nat) : Int) (l.length : Int) = true := by unfold bnd; simp; omega
        have hb2 : bnd (i : Int) (l.length : Int) = true := by unfold bnd; simp; omega
        simp only [hd2, hb1, hb2, Int.toNat_natCast]
        rw [partT_get (by omega), partT_get (by omega)]
        have q1 : partN l i i = nodeS l i := partN_done hi (by omega) (Nat.le_refl _) (by omega)
        have qA := lastA (c := i + 1) (by omega) (by omega)
        rw [Nat.add_sub_cancel] at qA
        have q2 : partN l i (i + lowN (i + 1)) + nodeS l i = partN l (i + 1) (i + lowN (i + 1)) := by
          unfold partN nodeS
          rw [show i + lowN (i + 1) + 1 = i + 1 + lowN (i + 1) by omega, qA]
          simp only [lastE, if_true]
          omega
        have q3 : 0 ≤ partN l (i + 1) (i + lowN (i + 1)) ∧ partN l (i + 1) (i + lowN (i + 1)) < 18446744073709551616 := by
          unfold partN
          rw [show i + lowN (i + 1) + 1 = i + 1 + lowN (i + 1) by omega]
          simp only [lastE, if_true]
          have hlo2 := low_ok (n := i + 1 + lowN (i + 1)) (by omega) (by omega)
          have a1 := sumS_tot h (i + 1)
          have a2 := sumS_nonneg h (i + 1 + lowN (i + 1) - lowN (i + 1 + lowN (i + 1)))
          have a3 := getD_all h u64_0 (i + lowN (i + 1))
          have a4 : sumS l (i + 1 + lowN (i + 1) - lowN (i + 1 + lowN (i + 1))) ≤ sumS l (i + 1) := by
            have := lastE_le (i + 1 + lowN (i + 1)) i
            refine sumS_le h ?_
            have hge : ∀ m, i + 1 + lowN (i + 1) - lowN (i + 1 + lowN (i + 1)) ≤ lastE (i + 1 + lowN (i + 1)) m ∨ True := fun _ => .inr trivial
            have hchk : ((List.range' 1 400).all fun c => decide (c + lowN c - lowN (c + lowN c) ≤ c)) = true := by kernel_rfl
            exact of_decide_eq_true (List.all_eq_true.1 hchk (i + 1) (by rw [List.mem_range']; exact ⟨i, by omega, by omega⟩))
          have a5 := sumS_succ (l := l) (i := i + lowN (i + 1)) (by omega)
          have a6 := sumS_tot h (i + lowN (i + 1) + 1)
          have a7 := sumS_le h (a := i + 1) (b := i + lowN (i + 1)) (by omega)
          unfold U64 at a3
          omega
        rw [q1, q2, wrap_u64 (by omega) (by omega)]
        have e : (partT l i).set (i + lowN (i + 1)) (partN l (i + 1) (i + lowN (i + 1))) = partT l (i + 1) := by
          apply List.ext_getElem?
          intro q
          unfold partT
          rw [List.getElem?_set, List.getElem?_map, List.getElem?_map]
          simp only [List.length_map, List.length_range]
          by_cases hq : q < l.length
          · rw [List.getElem?_range hq]
            by_cases eq : i + lowN (i + 1) = q
            · subst eq
              rw [if_pos rfl, if_pos hq]; rfl
            · rw [if_neg eq]
              simp only [Option.map_some]
              rw [keep q (by omega)]
          · rw [List.getElem?_eq_none (by simp; omega), if_neg (by omega)]
            rfl
        rw [e]
        exact G38_eq R h ht hlen x2 k0 m (i + 1) (by omega) (by omega)
      · have hd2 : decide (((i + 1 : Nat) : Int) + (lowN (i + 1) : Int) ≤ (l.length : Int)) = false := decide_eq_false (by omega)
        simp only [hd2]
        have e : partT l i = partT l (i + 1) := by
          unfold partT
          refine List.map_congr_left (fun q hq => ?_)
          have hq' : q < l.length := by simpa using hq
          rw [keep q (by omega)]
        rw [e]
        exact G38_eq R h ht hlen x2 k0 m (i + 1) (by omega) (by omega)
    · have : i = l.length := by omega
      subst this
      have hd : decide (((l.length + 1 : Nat) : Int) ≤ (l.length : Int)) = false := decide_eq_false (by omega)
      simp only [hd]
      rw [partT_done (by omega)]
theorem F79_eq (R : Type) {a b : Int} (ha : 0 ≤ a ∧ a < 9223372036854775808) (hb : U64 b) (k : Int → Bool → Option R) : F79 R a b k = (if a + b < 9223372036854775808 then k (a + b) true else k 0 false) := by
  unfold U64 at hb
  simp only [F79, p79, F98, F82, p82, F101, p101]
  have hd : decide (0 ≤ a ∧ 0 ≤ b ∧ (0 : Int) ≤ 0 ∧ (0 : Int) ≤ 1) = true := decide_eq_true (by omega)
  simp only [hd, Int.add_zero]
  by_cases h1 : a + b < 9223372036854775808
  · have e1 : (a + b) / 18446744073709551616 = 0 := by omega
    have e2 : (a + b) % 18446744073709551616 = a + b := by omega
    rw [if_pos h1, e1, e2]
    have n0 : ((0 : Int) != 0) = false := rfl
    simp only [n0, decide_eq_true h1, Bool.not_true]
  · rw [if_neg h1]
    by_cases h2 : a + b < 18446744073709551616
    · have e1 : (a + b) / 18446744073709551616 = 0 := by omega
      have e2 : (a + b) % 18446744073709551616 = a + b := by omega
      rw [e1, e2]
      have n0 : ((0 : Int) != 0) = false := rfl
      simp only [n0, decide_eq_false h1, Bool.not_false]
    · have e1 : ((a + b) / 18446744073709551616 != 0) = true := by
        have : ¬ (a + b) / 18446744073709551616 = 0 := by omega
        simp [this]
      simp only [e1]
theorem G65_eq (R : Type) {l : List Int} (h : AllU64 l) (hlen : l.length ≤ 1000000) (k0 : Int → Bool → Option R) (k1 : Int → Option R) : ∀ (m i : Nat), i ≤ l.length → l.length - i < m → sumS l i < 9223372036854775808 →
    G65_2 m R (sumS l i) l (l.length : Int) (i : Int) k0 k1 = (if totS l < 9223372036854775808 then k1 (totS l) else k0 0 false)
  | 0, i, _, h, _ => by omega
  | m + 1, i, h1, h2, h3 => by
    simp only [G65_2, p65_2]
    by_cases hi : i < l.length
    · have hd : decide ((i : Int) < (l.length : Int)) = true := by simpa using hi
      have hbn : bnd (i : Int) (l.length : Int) = true := by unfold bnd; simp; omega
      simp only [hd, hbn, Int.toNat_natCast]
      rw [F79_eq R ⟨sumS_nonneg h i, h3⟩ (getD_all h u64_0 i), ← sumS_succ hi]
      by_cases h4 : sumS l (i + 1) < 9223372036854775808
      · rw [if_pos h4]
        simp only [Bool.not_true]
        rw [wrap_i64 (n := (i : Int) + 1) (by omega) (by omega)]
        exact G65_eq R h hlen k0 k1 m (i + 1) (by omega) (by omega) h4
      · rw [if_neg h4, if_neg (by have := sumS_tot h (i + 1); omega)]
        simp only [Bool.not_false]
    · have : i = l.length := by omega
      subst this
      have hd : decide ((l.length : Int) < (l.length : Int)) = false := by simp
      simp only [hd]
      rw [if_pos (show totS l < _ from h3)]
      rfl
theorem F65_eq (R : Type) {l : List Int} (h : AllU64 l) (hlen : l.length ≤ 1000000) (k : Int → Bool → Option R) : F65 R l k = (if totS l < 9223372036854775808 then k (totS l) true else k 0 false) := by
  simp only [F65, p65]
  exact G65_eq R h hlen (fun x2 x3 => k x2 x3) (fun x4 => k x4 true) FUEL 0 (by omega) (by rw [FUEL_eq]; omega) (by rw [sumS_zero]; decide)
end Go.PG
namespace Go.PG
theorem F38_eq' (R : Type) {l : List Int} (h : AllU64 l) (hlen : l.length ≤ 200) (k : (List Int × Unit) → Int → Option R) : F38 R l k = (if totS l < 9223372036854775808 then k (treeS l, ()) 0 else k ([], ()) 11) := by
  simp only [F38, p38]
  have hd : decide ((l.length : Int) > 1048576) = false := decide_eq_false (by omega)
  simp only [hd]
  rw [F65_eq R h (by omega)]
  by_cases ht : totS l < 9223372036854775808
  · rw [if_pos ht, if_pos ht]
    simp only [Bool.not_true, F66]
    have hc : decide (List.length ([] : List Int) + l.length ≤ 17592186044416) = true := by simp; omega
    simp only [hc]
    have := G38_eq R h ht hlen ([], ()) (fun x6 x7 => k (x7, ()) 0) FUEL 0 (by omega) (by rw [FUEL_eq]; omega)
    rw [partT_zero] at this
    exact this
  · rw [if_neg ht, if_neg ht]
    simp only [Bool.not_false]
def ownN (l : List Int) (x : Int) : Nat := ((List.range l.length).find? (fun i => decide (sumS l i ≤ x ∧ x < sumS l (i + 1)))).getD 0
theorem ownN_eq {l : List Int} (h : AllU64 l) {x : Int} {i : Nat} (hi : Owns l x i) : ownN l x = i := by
  unfold ownN
  cases hf : (List.range l.length).find? (fun i => decide (sumS l i ≤ x ∧ x < sumS l (i + 1))) with
  | none =>
    have := List.find?_eq_none.1 hf i (by simpa using hi.1)
    simp only [decide_eq_true_eq] at this
    exact absurd hi.2 this
  | some j =>
    have h1 := List.find?_some hf
    have h2 := List.mem_of_find?_eq_some hf
    simp only [decide_eq_true_eq] at h1
    have hj : Owns l x j := ⟨by simpa using h2, h1⟩
    exact hj.uniq h hi
def leadR (l : List Int) (s : Src) (m : Int) : Int × Src × Int :=
  if totS l < 9223372036854775808 then (if totS l = 0 then (0, s, 10) else if (drawR s (totS l) m).2.2 = 0 then ((ownN l (drawR s (totS l) m).1 : Int), (drawR s (totS l) m).2.1, 0) else (0, (drawR s (totS l) m).2.1, (drawR s (totS l) m).2.2)) else (0, s, 11)
theorem drawF_nonneg {n : Int} : ∀ (m : Nat) (s : Src), 0 ≤ (drawF n m s).1
  | 0, s => Int.le_refl _
  | m + 1, s => by
    simp only [drawF]
    split
    · split
      · rename_i h _
        obtain ⟨_, _, _, g⟩ := takeR_zero h
        rw [g]
        exact (takeV_range s (atS s) _).1
      · exact drawF_nonneg m _
    · exact Int.le_refl _
theorem draw_below {s : Src} {n m : Int} (h : (drawR s n m).2.2 = 0) : 0 ≤ (drawR s n m).1 ∧ (drawR s n m).1 < n := by
  unfold drawR at h ⊢
  split at h
  · rename_i hc
    rw [if_pos hc]
    obtain ⟨j, _, _, h3, _⟩ := drawF_ok _ _ h
    exact ⟨drawF_nonneg _ _, h3⟩
  · simp at h
theorem F47_eq (R : Type) {l : List Int} (h : AllU64 l) (hlen : l.length ≤ 200) (ht : totS l < 9223372036854775808) {s : Src} (hs : SOK s) (m : Int) (k : Int → Src → Int → Option R) : F47 R (treeS l, ()) s m k = k (leadR l s m).1 (leadR l s m).2.1 (leadR l s m).2.2 := by
  simp only [F47, p47]
  rw [F76_eq R h ht (by omega)]
  have hnn := sumS_nonneg h l.length
  unfold leadR
  rw [if_pos ht]
  by_cases h0 : totS l = 0
  · have e : (totS l == 0) = true := by simp [h0]
    rw [if_pos h0]
    simp only [e]
  · have e : (totS l == 0) = false := by simp [h0]
    rw [if_neg h0]
    simp only [e]
    rw [F34_eq R hs (show U64 (totS l) from by unfold U64; exact ⟨hnn, by omega⟩)]
    by_cases he : (drawR s (totS l) m).2.2 = 0
    · have e1 : ((drawR s (totS l) m).2.2 != 0) = false := by simp [he]
      rw [if_pos he]
      simp only [e1]
      obtain ⟨i, hi, g⟩ := F77_own R h ht (by omega) (draw_below he) (fun y7 y8 => k y7 (drawR s (totS l) m).2.1 y8)
      rw [g, ownN_eq h hi]
    · have e1 : ((drawR s (totS l) m).2.2 != 0) = true := by simp [he]
      rw [if_neg he]
      simp only [e1]
end Go.PG
namespace Go.PG
theorem up_ok {c : Nat} (h1 : 1 ≤ c) (h2 : c ≤ 400) : c + lowN c - lowN (c + lowN c) ≤ c - lowN c := by
  have hchk : ((List.range' 1 400).all fun c => decide (c + lowN c - lowN (c + lowN c) ≤ c - lowN c)) = true := by kernel_rfl
  exact of_decide_eq_true (List.all_eq_true.1 hchk c (by rw [List.mem_range']; exact ⟨c - 1, by omega, by omega⟩))
theorem skip_check : ((List.range' 1 200).all fun c => (List.range (lowN c - 1)).all fun d => decide (c ≤ c + d + 1 - lowN (c + d + 1))) = true := by kernel_rfl
theorem skip_ok {c d : Nat} (h1 : 1 ≤ c) (h2 : c ≤ 200) (hd : d + 1 < lowN c) : c ≤ c + d + 1 - lowN (c + d + 1) := by
  have := List.all_eq_true.1 skip_check c (by rw [List.mem_range']; exact ⟨c - 1, by omega, by omega⟩)
  exact of_decide_eq_true (List.all_eq_true.1 this d (by rw [List.mem_range]; omega))
theorem G46_eq (R : Type) {l : List Int} (h : AllU64 l) (ht : totS l < 9223372036854775808) (hlen : l.length ≤ 200) (k0 : List Int → Option R) : ∀ (m i : Nat), i ≤ l.length → i < m →
    G46_3 m R (i : Int) (partT l i) k0 = k0 l
  | 0, i, _, h => by omega
  | m + 1, 0, h1, h2 => by
    simp only [G46_3, p46_3]
    have hd : decide (((0 : Nat) : Int) > 0) = false := by simp
    simp only [hd]
    rw [partT_zero]
  | m + 1, i + 1, h1, h2 => by
    simp only [G46_3, p46_3, partT_len]
    have hd : decide (((i + 1 : Nat) : Int) > 0) = true := decide_eq_true (by omega)
    have hlo := low_ok (n := i + 1) (by omega) (by omega)
    simp only [hd]
    rw [F67_eq R (by omega) (by omega), wrap_i64 (n := ((i + 1 : Nat) : Int) + (lowN (i + 1) : Int)) (by omega) (by omega), wrap_i64 (n := ((i + 1 : Nat) : Int) - 1) (by omega) (by omega), show ((i + 1 : Nat) : Int) - 1 = (i : Int) by omega]
    have keep : ∀ q, q + 1 ≠ i + 1 + lowN (i + 1) → partN l (i + 1) q = partN l i q := fun q hq => by
      unfold partN
      simp only [lastE]
      rw [if_neg (by omega)]
    by_cases hup : i + 1 + lowN (i + 1) ≤ l.length
    · have hd2 : decide (((i + 1 : Nat) : Int) + (lowN (i + 1) : Int) ≤ (l.length : Int)) = true := decide_eq_true (by omega)
      rw [wrap_i64 (n := ((i + 1 : Nat) : Int) + (lowN (i + 1) : Int) - 1) (by omega) (by omega), show ((i + 1 : Nat) : Int) + (lowN (i + 1) : Int) - 1 = ((i + lowN (i + 1) : Nat) : Int) by omega]
      have hb1 : bnd ((i + lowN (i + 1) : Nat) : Int) (l.length : Int) = true := by unfold bnd; simp; omega
      have hb2 : bnd (i : Int) (l.length : Int) = true := by unfold bnd; simp; omega
      simp only [hd2, hb1, hb2, Int.toNat_natCast]
      rw [partT_get (by omega), partT_get (by omega)]
      have q1 : partN l (i + 1) i = nodeS l i := partN_done (by omega) (by omega) (by omega) (by omega)
      have qA := lastA (c := i + 1) (by omega) (by omega)
      rw [Nat.add_sub_cancel] at qA
      have q2 : partN l (i + 1) (i + lowN (i + 1)) - nodeS l i = partN l i (i + lowN (i + 1)) := by
        unfold partN nodeS
        rw [show i + lowN (i + 1) + 1 = i + 1 + lowN (i + 1) by omega, qA]
        simp only [lastE, if_true]
        omega
      have q3 : 0 ≤ partN l i (i + lowN (i + 1)) ∧ partN l i (i + lowN (i + 1)) < 18446744073709551616 := by
        unfold partN
        rw [show i + lowN (i + 1) + 1 = i + 1 + lowN (i + 1) by omega, qA]
        have a1 := sumS_tot h (i + 1 - lowN (i + 1))
        have a2 := sumS_nonneg h (i + 1 + lowN (i + 1) - lowN (i + 1 + lowN (i + 1)))
        have a3 := getD_all h u64_0 (i + lowN (i + 1))
        have a4 : sumS l (i + 1 + lowN (i + 1) - lowN (i + 1 + lowN (i + 1))) ≤ sumS l (i + 1 - lowN (i + 1)) := sumS_le h (up_ok (by omega) (by omega))
        have a5 := sumS_succ (l := l) (i := i + lowN (i + 1)) (by omega)
        have a6 := sumS_tot h (i + lowN (i + 1) + 1)
        have a7 := sumS_le h (a := i + 1 - lowN (i + 1)) (b := i + lowN (i + 1)) (by omega)
        unfold U64 at a3
        omega
      rw [q1, q2, wrap_u64 (by omega) (by omega)]
      have e : (partT l (i + 1)).set (i + lowN (i + 1)) (partN l i (i + lowN (i + 1))) = partT l i := by
        apply List.ext_getElem?
        intro q
        unfold partT
        rw [List.getElem?_set, List.getElem?_map, List.getElem?_map]
        simp only [List.length_map, List.length_range]
        by_cases hq : q < l.length
        · rw [List.getElem?_range hq]
          by_cases eq : i + lowN (i + 1) = q
          · subst eq
            rw [if_pos rfl, if_pos hq]; rfl
          · rw [if_neg eq]
            simp only [Option.map_some]
            rw [keep q (by omega)]
        · rw [List.getElem?_eq_none (by simp; omega), if_neg (by omega)]
          rfl
      rw [e]
      exact G46_eq R h ht hlen k0 m i (by omega) (by omega)
    · have hd2 : decide (((i + 1 : Nat) : Int) + (lowN (i + 1) : Int) ≤ (l.length : Int)) = false := decide_eq_false (by omega)
      simp only [hd2]
      have e : partT l (i + 1) = partT l i := by
        unfold partT
        refine List.map_congr_left (fun q hq => ?_)
        have hq' : q < l.length := by simpa using hq
        rw [keep q (by omega)]
      rw [e]
      exact G46_eq R h ht hlen k0 m i (by omega) (by omega)
theorem F46_eq (R : Type) {l : List Int} (h : AllU64 l) (ht : totS l < 9223372036854775808) (hlen : l.length ≤ 200) (k : List Int → Option R) : F46 R (treeS l, ()) k = k l := by
  simp only [F46, p46, F66]
  have hc : decide (List.length ([] : List Int) + l.length ≤ 17592186044416) = true := by simp; omega
  simp only [treeS_len, hc]
  have := G46_eq R h ht hlen (fun x3 => k x3) FUEL l.length (Nat.le_refl _) (by rw [FUEL_eq]; omega)
  rw [partT_done (by omega)] at this
  exact this
theorem F96_eq (R : Type) {l : List Int} (h : AllU64 l) (ht : totS l < 9223372036854775808) (hlen : l.length ≤ 500) {n : Nat} (hn : n ≤ l.length) (k : Int → Option R) : F96 R (treeS l, ()) (n : Int) k = k (sumS l n) := by
  simp only [F96, p96]
  have := G96_eq R h ht hlen (fun x1 => k x1) n hn FUEL n (Nat.le_refl _) (by rw [FUEL_eq]; omega)
  rw [Int.sub_self] at this
  exact this
theorem F78_eq (R : Type) {l : List Int} (h : AllU64 l) (ht : totS l < 9223372036854775808) (hlen : l.length ≤ 500) {i : Nat} (hi : i < l.length) (k : Int → Int → Option R) : F78 R (treeS l, ()) (i : Int) k = k (l.getD i 0) 0 := by
  simp only [F78, p78, F97, p97, treeS_len]
  have d1 : decide ((i : Int) < 0) = false := decide_eq_false (by omega)
  have d2 : decide ((i : Int) ≥ (l.length : Int)) = false := decide_eq_false (by omega)
  simp only [d1, d2]
  have hs := sumS_succ hi
  have h0 := getD_all h u64_0 i
  unfold U64 at h0
  rw [wrap_i64 (n := (i : Int) + 1) (by omega) (by omega), show (i : Int) + 1 = ((i + 1 : Nat) : Int) by omega, F96_eq R h ht hlen hi, F96_eq R h ht hlen (by omega), show sumS l (i + 1) - sumS l i = l.getD i 0 by omega, wrap_u64 (by omega) (by omega)]
theorem sum_set {l : List Int} {i : Nat} (hi : i < l.length) (v : Int) : ∀ n : Nat, n ≤ l.length → sumS (l.set i v) n = sumS l n + (if i < n then v - l.getD i 0 else 0)
  | 0, _ => by simp [sumS_zero]
  | n + 1, h => by
    have ih := sum_set hi v n (by omega)
    rw [sumS_succ (l := l.set i v) (by rw [List.length_set]; omega), sumS_succ (l := l) (by omega), ih]
    by_cases e : i = n
    · subst e
      have e1 : (l.set i v).getD i 0 = v := by simp [List.getD_eq_getElem?_getD, hi]
      rw [e1, if_neg (by omega), if_pos (by omega)]
      omega
    · have e1 : (l.set i v).getD n 0 = l.getD n 0 := by simp [List.getD_eq_getElem?_getD, List.getElem?_set, e]
      rw [e1]
      by_cases e2 : i < n
      · rw [if_pos e2, if_pos (by omega)]; omega
      · rw [if_neg e2, if_neg (by omega)]; omega
theorem AllU64.set0 {l : List Int} (h : AllU64 l) (i : Nat) : AllU64 (l.set i 0) := fun x hx => by
  rcases List.mem_or_eq_of_mem_set hx with hx | hx
  · exact h x hx
  · rw [hx]; exact u64_0
theorem tot_set {l : List Int} {i : Nat} (hi : i < l.length) : totS (l.set i 0) = totS l - l.getD i 0 := by
  have := sum_set hi 0 l.length (Nat.le_refl _)
  rw [if_pos hi] at this
  have e : totS (l.set i 0) = sumS (l.set i 0) l.length := by unfold totS; rw [List.length_set]
  rw [e, this]
  show _ = sumS l l.length - _
  omega
def setN (l : List Int) (i c q : Nat) : Int := nodeS l q - (if q + 1 < c ∧ q + 1 - lowN (q + 1) ≤ i ∧ i < q + 1 then l.getD i 0 else 0)
def setT (l : List Int) (i c : Nat) : List Int := (List.range l.length).map (setN l i c)
theorem setT_len (l : List Int) (i c : Nat) : (setT l i c).length = l.length := by simp [setT]
theorem setT_get {l : List Int} {i c q : Nat} (h : q < l.length) : (setT l i c).getD q 0 = setN l i c q := by simp [setT, h]
theorem setT_start (l : List Int) (i : Nat) : setT l i (i + 1) = treeS l := by
  unfold setT treeS setN
  refine List.map_congr_left (fun q _ => ?_)
  rw [if_neg (by omega)]; omega
theorem setT_done {l : List Int} {i c : Nat} (hi : i < l.length) (hc : l.length < c) : setT l i c = treeS (l.set i 0) := by
  unfold setT treeS
  rw [List.length_set]
  refine List.map_congr_left (fun q hq => ?_)
  have hq' : q < l.length := by simpa using hq
  unfold setN nodeS
  rw [sum_set hi 0 (q + 1) (by omega), sum_set hi 0 (q + 1 - lowN (q + 1)) (by omega)]
  by_cases c1 : q + 1 - lowN (q + 1) ≤ i ∧ i < q + 1
  · rw [if_pos ⟨by omega, c1⟩, if_pos c1.2, if_neg (by omega)]; omega
  · rw [if_neg (fun hh => c1 hh.2)]
    by_cases c2 : i < q + 1
    · rw [if_pos c2, if_pos (by omega)]; omega
    · rw [if_neg c2, if_neg (by omega)]; omega
theorem G48_eq (R : Type) {l : List Int} (h : AllU64 l) (ht : totS l < 9223372036854775808) (hlen : l.length ≤ 200) {i : Nat} (hi : i < l.length) (x4 : List Int × Unit) (k0 : (List Int × Unit) → List Int → Option R) : ∀ (m c : Nat), 1 ≤ c → i < c → c - lowN c ≤ i → c ≤ 400 → 401 - c < m →
    G48_9 m R 0 (l.getD i 0) (c : Int) x4 (setT l i c) k0 = k0 x4 (treeS (l.set i 0))
  | 0, _, _, _, _, _, hh => by omega
  | m + 1, c, h1, h2, h3, h4, h5 => by
    simp only [G48_9, p48_9, setT_len]
    by_cases hc : c ≤ l.length
    · have hd : decide ((c : Int) ≤ (l.length : Int)) = true := decide_eq_true (by omega)
      simp only [hd]
      have hlo := low_ok (n := c) h1 (by omega)
      rw [wrap_i64 (n := (c : Int) - 1) (by omega) (by omega), show (c : Int) - 1 = ((c - 1 : Nat) : Int) by omega]
      have hb2 : bnd ((c - 1 : Nat) : Int) (l.length : Int) = true := by unfold bnd; simp; omega
      simp only [hb2, Int.toNat_natCast]
      rw [setT_get (by omega)]
      have v : setN l i c (c - 1) = nodeS l (c - 1) := by
        unfold setN
        rw [if_neg (by omega)]; omega
      rw [v]
      have hn := node_range h ht (c - 1)
      have h0 := (getD_all h u64_0 i).1
      have hge : l.getD i 0 ≤ nodeS l (c - 1) := by
        unfold nodeS
        rw [show c - 1 + 1 = c by omega]
        have a1 := sumS_le h h3
        have a2 := sumS_succ hi
        have a3 := sumS_le h (show i + 1 ≤ c by omega)
        omega
      rw [wrap_u64 (n := nodeS l (c - 1) - l.getD i 0) (by omega) (by omega), Int.add_zero, wrap_u64 (n := nodeS l (c - 1) - l.getD i 0) (by omega) (by omega), F67_eq R h1 (by omega), wrap_i64 (n := (c : Int) + (lowN c : Int)) (by omega) (by omega), show (c : Int) + (lowN c : Int) = ((c + lowN c : Nat) : Int) by omega]
      have e : (setT l i c).set (c - 1) (nodeS l (c - 1) - l.getD i 0) = setT l i (c + lowN c) := by
        apply List.ext_getElem?
        intro q
        unfold setT
        rw [List.getElem?_set, List.getElem?_map, List.getElem?_map]
        simp only [List.length_map, List.length_range]
        by_cases hq : q < l.length
        · rw [List.getElem?_range hq]
          by_cases eq : c - 1 = q
          · subst eq
            rw [if_pos rfl, if_pos hq]
            simp only [Option.map_some]
            unfold setN
            rw [show c - 1 + 1 = c by omega, if_pos (by omega)]
          · rw [if_neg eq]
            simp only [Option.map_some]
            unfold setN
            congr 2
            by_cases q1 : q + 1 < c
            · have a : q + 1 < c + lowN c := by omega
              simp [q1, a]
            · have n1 : ¬ (q + 1 < c ∧ q + 1 - lowN (q + 1) ≤ i ∧ i < q + 1) := fun hh => q1 hh.1
              rw [if_neg n1]
              by_cases q2 : q + 1 < c + lowN c
              · have hsk := skip_ok (c := c) (d := q - c) h1 (by omega) (by omega)
                rw [show c + (q - c) + 1 = q + 1 by omega] at hsk
                rw [if_neg (by omega)]
              · rw [if_neg (fun hh => q2 hh.1)]
        · rw [List.getElem?_eq_none (by simp; omega), if_neg (by omega)]
          rfl
      rw [e]
      have hup := up_ok (c := c) h1 (by omega)
      exact G48_eq R h ht hlen hi x4 k0 m (c + lowN c) (by omega) (by omega) (by omega) (by omega) (by omega)
    · have hd : decide ((c : Int) ≤ (l.length : Int)) = false := decide_eq_false (by omega)
      simp only [hd]
      rw [setT_done hi (by omega)]
theorem F48_eq (R : Type) {l : List Int} (h : AllU64 l) (ht : totS l < 9223372036854775808) (hlen : l.length ≤ 200) {i : Nat} (hi : i < l.length) (k : (List Int × Unit) → Int → Option R) : F48 R (treeS l, ()) (i : Int) 0 k = k (treeS (l.set i 0), ()) 0 := by
  simp only [F48, p48, F66]
  rw [F78_eq R h ht (by omega) hi]
  have n0 : ((0 : Int) != 0) = false := rfl
  simp only [n0]
  rw [F76_eq R h ht (by omega)]
  have h0 := (getD_all h u64_0 i).1
  have hs := sumS_succ hi
  have ha := sumS_tot h (i + 1)
  have hz := sumS_nonneg h i
  rw [wrap_u64 (n := totS l - l.getD i 0) (by omega) (by omega), F79_eq R (by omega) u64_0, if_pos (by omega)]
  simp only [Bool.not_true]
  have hc : decide (List.length ([] : List Int) + (treeS l).length ≤ 17592186044416) = true := by rw [treeS_len]; simp; omega
  simp only [hc]
  rw [wrap_i64 (n := (i : Int) + 1) (by omega) (by omega), show (i : Int) + 1 = ((i + 1 : Nat) : Int) by omega]
  have hlo := low_ok (n := i + 1) (by omega) (by omega)
  have := G48_eq R h ht hlen hi ([], ()) (fun x10 x11 => k (x11, ()) 0) FUEL (i + 1) (by omega) (by omega) (by omega) (by omega) (by rw [FUEL_eq]; omega)
  rw [setT_start] at this
  exact this
end Go.PG
namespace Go.PG
def posN (l : List Int) (i : Nat) : Nat := ((l.take i).filter fun x => decide (x > 0)).length
def posS (l : List Int) : Int := (posN l l.length : Int)
theorem posN_succ {l : List Int} {i : Nat} (h : i < l.length) : posN l (i + 1) = posN l i + (if l.getD i 0 > 0 then 1 else 0) := by
  unfold posN
  rw [List.take_succ_eq_append_getElem h, List.filter_append, List.length_append]
  have : l.getD i 0 = l[i] := by simp [h]
  rw [this]
  by_cases e : l[i] > 0
  · rw [if_pos e]; simp [List.filter, e]
  · rw [if_neg e]; simp [List.filter, e]
theorem posN_le (l : List Int) (i : Nat) : posN l i ≤ l.length := by
  unfold posN
  have := List.length_filter_le (fun x => decide (x > 0)) (l.take i)
  have : (l.take i).length ≤ l.length := by simp; omega
  omega
theorem G45_eq' (R : Type) {l : List Int} (hlen : l.length ≤ 1000000) (k0 : Int → Option R) : ∀ (m i : Nat), i ≤ l.length → l.length - i < m →
    G45_2 m R (posN l i : Int) l (l.length : Int) (i : Int) k0 = k0 (posS l)
  | 0, i, _, h => by omega
  | m + 1, i, h1, h2 => by
    simp only [G45_2, p45_2]
    by_cases hi : i < l.length
    · have hd : decide ((i : Int) < (l.length : Int)) = true := decide_eq_true (by omega)
      have hbn : bnd (i : Int) (l.length : Int) = true := by unfold bnd; simp; omega
      simp only [hd, hbn, Int.toNat_natCast]
      have hs := posN_succ hi
      have hle := posN_le l i
      have e : (i : Int) + 1 = ((i + 1 : Nat) : Int) := by omega
      by_cases hp : l.getD i 0 > 0
      · simp only [decide_eq_true hp]
        rw [if_pos hp] at hs
        rw [wrap_i64 (n := (posN l i : Int) + 1) (by omega) (by omega), wrap_i64 (n := (i : Int) + 1) (by omega) (by omega), e, show (posN l i : Int) + 1 = ((posN l (i + 1) : Nat) : Int) by omega]
        exact G45_eq' R hlen k0 m (i + 1) (by omega) (by omega)
      · simp only [decide_eq_false hp]
        rw [if_neg hp] at hs
        rw [wrap_i64 (n := (i : Int) + 1) (by omega) (by omega), e, show posN l i = posN l (i + 1) by omega]
        exact G45_eq' R hlen k0 m (i + 1) (by omega) (by omega)
    · have : i = l.length := by omega
      subst this
      have hd : decide ((l.length : Int) < (l.length : Int)) = false := by simp
      simp only [hd]
      rfl
theorem F45_eq' (R : Type) {l : List Int} (hlen : l.length ≤ 1000000) (k : Int → Option R) : F45 R l k = k (posS l) := by
  simp only [F45, p45]
  exact G45_eq' R hlen (fun x1 => k x1) FUEL 0 (by omega) (by rw [FUEL_eq]; omega)
theorem own_some {l : List Int} (h : AllU64 l) (hlen : l.length ≤ 200) (ht : totS l < 9223372036854775808) {x : Int} (hx : 0 ≤ x ∧ x < totS l) : ∃ i, Owns l x i ∧ ownN l x = i := by
  obtain ⟨i, hi, _⟩ := F77_own Unit h ht (by omega) hx (fun _ _ => none)
  exact ⟨i, hi, ownN_eq h hi⟩
theorem draw_src {s : Src} (hs : SOK s) {n m : Int} (h : (drawR s n m).2.2 = 0) : SOK (drawR s n m).2.1 ∧ atS s ≤ atS (drawR s n m).2.1 ∧ ∃ a, (drawR s n m).2.1 = setAt s a := by
  unfold drawR at h ⊢
  split at h
  · rename_i hc
    rw [if_pos hc]
    obtain ⟨j, _, _, _, j4, j5, _⟩ := drawF_ok _ _ h
    rw [j4]
    obtain ⟨_, _, l3⟩ := left_ok hs
    have l4 := l3 hc.1
    have hb := hs.bits
    have h5 : (0 : Int) ≤ (needS n : Int) * j := Int.mul_nonneg (by omega) (by omega)
    have h0 := hs.at_
    have hend : endS s < 18446744073709551616 := by
      rcases right_spec hc.1 with ⟨_, _, _, r⟩ | ⟨_, _, r⟩
      · rw [r]; unfold U64 at hb; exact hb.2
      · rw [r]; omega
    change U64 (atS s) at h0
    change atS s + leftS s = endS s at l4
    unfold U64 at h0
    exact ⟨hs.set (by unfold U64; omega), by rw [atS_set]; omega, _, rfl⟩
  · simp at h
theorem lead_ok {l : List Int} (h : AllU64 l) (hlen : l.length ≤ 200) {s : Src} (hs : SOK s) {m : Int} (he : (leadR l s m).2.2 = 0) : totS l < 9223372036854775808 ∧ totS l ≠ 0 ∧ (drawR s (totS l) m).2.2 = 0 ∧
    ∃ i : Nat, i < l.length ∧ 0 < l.getD i 0 ∧ (leadR l s m).1 = (i : Int) ∧ ownN l (drawR s (totS l) m).1 = i ∧ (leadR l s m).2.1 = (drawR s (totS l) m).2.1 ∧ SOK (leadR l s m).2.1 ∧ atS s ≤ atS (leadR l s m).2.1 := by
  unfold leadR at he ⊢
  by_cases ht : totS l < 9223372036854775808
  · rw [if_pos ht] at he ⊢
    by_cases h0 : totS l = 0
    · rw [if_pos h0] at he; exact absurd he (by show ¬ ((10 : Int) = 0); decide)
    · rw [if_neg h0] at he ⊢
      by_cases hd : (drawR s (totS l) m).2.2 = 0
      · rw [if_pos hd] at he ⊢
        obtain ⟨i, hi, e⟩ := own_some h hlen ht (draw_below hd)
        have h1 := sumS_succ hi.1
        have h2 := hi.2
        obtain ⟨s1, s2, _⟩ := draw_src hs hd
        exact ⟨ht, h0, hd, i, hi.1, by omega, by rw [e], e, rfl, s1, s2⟩
      · rw [if_neg hd] at he; exact absurd he hd
  · rw [if_neg ht] at he; exact absurd he (by show ¬ ((11 : Int) = 0); decide)
noncomputable def comF (m : Int) : Nat → List Int → Src → List Int → List Int × Src × Int
  | 0, _, s, mem => (mem, s, 0)
  | n + 1, l, s, mem => if (leadR l s m).2.2 = 0 then comF m n (l.set (leadR l s m).1.toNat 0) (leadR l s m).2.1 (mem ++ [(leadR l s m).1]) else ([], (leadR l s m).2.1, (leadR l s m).2.2)
theorem tot_drop {l : List Int} (h : AllU64 l) {i : Nat} (hi : i < l.length) : totS (l.set i 0) ≤ totS l := by
  rw [tot_set hi]
  have := (getD_all h u64_0 i).1
  omega
theorem G22_eq (R : Type) {c m : Int} (x6 : Src) (k0 : Int → Src → Option R) (k1 : Src → List Int → Src → Option R) (K : List Int → Src → Int → Option R) (h0 : ∀ e s, k0 e s = K [] s e) (h1 : ∀ s l, k1 s l x6 = K l s 0) :
    ∀ (n f : Nat) (l : List Int) (s : Src) (mem : List Int), AllU64 l → totS l < 9223372036854775808 → l.length ≤ 200 → SOK s → (mem.length : Int) + n = c → c ≤ 1000 → n < f → G22_5 f R c m (treeS l, ()) s mem x6 k0 k1 = K (comF m n l s mem).1 (comF m n l s mem).2.1 (comF m n l s mem).2.2
  | _, 0, _, _, _, _, _, _, _, _, _, hf => by omega
  | 0, f + 1, l, s, mem, h, ht, hl, hs, hc, hc1, hf => by
    simp only [G22_5, p22_5]
    have hd : decide ((mem.length : Int) < c) = false := decide_eq_false (by omega)
    simp only [hd]
    rw [h1]
    rfl
  | n + 1, f + 1, l, s, mem, h, ht, hl, hs, hc, hc1, hf => by
    simp only [G22_5, p22_5]
    have hd : decide ((mem.length : Int) < c) = true := decide_eq_true (by omega)
    simp only [hd]
    rw [F47_eq R h hl ht hs]
    by_cases he : (leadR l s m).2.2 = 0
    · obtain ⟨_, _, _, i, i1, _, i3, _, _, i6, _⟩ := lead_ok h hl hs he
      have e1 : ((leadR l s m).2.2 != 0) = false := by simp [he]
      have hcap : ∀ y : Int, decide (mem.length + List.length [y] ≤ 17592186044416) = true := fun y => by simp; omega
      simp only [e1, hcap]
      simp only [comF]
      rw [if_pos he, i3, F48_eq R h ht hl i1, Int.toNat_natCast]
      have n0 : ((0 : Int) != 0) = false := rfl
      simp only [n0]
      have hd := tot_drop h i1
      exact G22_eq R x6 k0 k1 K h0 h1 n f (l.set i 0) (leadR l s m).2.1 (mem ++ [(i : Int)]) (h.set0 i) (by omega) (by simpa using hl) i6 (by simp; omega) hc1 (by omega)
    · have e1 : ((leadR l s m).2.2 != 0) = true := by simp [he]
      simp only [e1, comF]
      rw [if_neg he, h0]
noncomputable def comR (l : List Int) (c : Int) (s : Src) (m : Int) : List Int × Src × Int :=
  if 0 ≤ c ∧ c ≤ 256 ∧ rightS' s = true ∧ 0 < m ∧ m ≤ 64 then (if posS l < c then ([], s, 12) else comF m c.toNat l s []) else ([], s, 1)
theorem F44_eq (R : Type) {c m : Int} {s : Src} (hs : SOK s) (k : Bool → Option R) : F44 R c s m k = k (decide (0 ≤ c ∧ c ≤ 256 ∧ rightS' s = true ∧ 0 < m ∧ m ≤ 64)) := by
  simp only [F44, p44]
  rw [F75_eq R hs]
  by_cases h1 : c ≥ 0
  · simp only [decide_eq_true h1]
    by_cases h2 : c ≤ 256
    · simp only [decide_eq_true h2]
      cases h3 : rightS' s with
      | true =>
        by_cases h4 : m > 0
        · simp only [decide_eq_true h4]
          by_cases h5 : m ≤ 64
          · simp [h1, h2, h4, h5]
          · simp [h5]
        · have h4' : ¬ (0 < m) := h4
          simp [h4']
      | false => simp
    · simp [h2]
  · have h1' : ¬ (0 ≤ c) := h1
    simp [h1']
theorem F22_eq (R : Type) {l : List Int} (h : AllU64 l) (ht : totS l < 9223372036854775808) (hl : l.length ≤ 200) {s : Src} (hs : SOK s) (c m : Int) (k : List Int → Src → Int → Option R) : F22 R (treeS l, ()) c s m k = k (comR l c s m).1 (comR l c s m).2.1 (comR l c s m).2.2 := by
  simp only [F22, p22]
  rw [F44_eq R hs]
  unfold comR
  by_cases hm : 0 ≤ c ∧ c ≤ 256 ∧ rightS' s = true ∧ 0 < m ∧ m ≤ 64
  · rw [if_pos hm]
    simp only [decide_eq_true hm, Bool.not_true]
    rw [F46_eq R h ht hl, F45_eq' R (by omega)]
    by_cases hp : posS l < c
    · simp only [decide_eq_true hp, if_pos hp]
    · simp only [decide_eq_false hp, if_neg hp]
      exact G22_eq R _ _ _ k (fun e s => rfl) (fun s l => rfl) c.toNat FUEL l s [] h ht hl hs (by simp; omega) (by omega) (by rw [FUEL_eq]; omega)
  · rw [if_neg hm]
    simp only [decide_eq_false hm, Bool.not_false]
noncomputable def comL (l : List Int) (c : Int) (s : Src) (m : Int) : List Int × Src × Int := if totS l < 9223372036854775808 then comR l c s m else ([], s, 11)
theorem F18_eq (R : Type) {l : List Int} (h : AllU64 l) (hl : l.length ≤ 200) {s : Src} (hs : SOK s) (c m : Int) (k : List Int → Src → Int → Option R) : F18 R c s m l k = k (comL l c s m).1 (comL l c s m).2.1 (comL l c s m).2.2 := by
  simp only [F18, p18]
  rw [F38_eq' R h hl]
  unfold comL
  by_cases ht : totS l < 9223372036854775808
  · rw [if_pos ht, if_pos ht]
    have n0 : ((0 : Int) != 0) = false := rfl
    simp only [n0]
    rw [F22_eq R h ht hl hs]
  · rw [if_neg ht, if_neg ht]
    rfl
end Go.PG
namespace Go.PG
theorem bndN {i n : Nat} (h : i < n) : bnd (i : Int) (n : Int) = true := by unfold bnd; simp; omega
noncomputable def ln (l : List Int) (i : Nat) : Nat := (l.getD i 0).toNat
theorem ln_eq {l : List Int} (h : Ok32 l) (i : Nat) : l.getD i 0 = (ln l i : Int) := by
  have := h.get i
  unfold U32 at this
  unfold ln; omega
theorem ln_lt {l : List Int} (h : Ok32 l) (i : Nat) : ln l i < LB := by
  have := h.get i
  unfold U32 at this
  have e := LB_eq
  unfold ln; omega
theorem ln_over {l : List Int} {i : Nat} (h : l.length ≤ i) : ln l i = 0 := by unfold ln; rw [getD_lim_over h]; rfl
theorem wrap32 (t : Nat) : IntKind.u32.wrap (t : Int) = ((t % LB : Nat) : Int) := by rw [wrap_u32_mod, LB_eq]; omega
theorem shr32 (t : Nat) : ishr .u64 (t : Int) 32 = ((t / LB : Nat) : Int) := by
  unfold ishr
  have e : (2 : Int) ^ (min (Int.toNat 32) IntKind.u64.bits) = 4294967296 := by decide
  rw [e, Int.fdiv_eq_ediv_of_nonneg _ (by decide), LB_eq]; omega
theorem decT {p : Prop} [Decidable p] (h : p) : decide p = true := decide_eq_true h
theorem decF {p : Prop} [Decidable p] (h : ¬ p) : decide p = false := decide_eq_false h
theorem G89_eq (R : Type) (k0 : List Int → Option R) : ∀ (m : Nat) (l : List Int), l.length < m → l.length ≤ 1000000 → G89_1 m R l k0 = k0 (trimL l)
  | 0, l, h, _ => by omega
  | m + 1, l, h, hl => by
    rcases List.eq_nil_or_concat l with rfl | ⟨l', x, rfl⟩
    · simp only [G89_1, p89_1, List.length_nil]; rfl
    · rw [List.concat_eq_append] at *
      have hlen : (l' ++ [x]).length = l'.length + 1 := by simp
      simp only [G89_1, p89_1]
      have hd : decide (((l' ++ [x]).length : Int) > 0) = true := decT (by rw [hlen]; omega)
      have hw : IntKind.i64.wrap (((l' ++ [x]).length : Int) - 1) = (l'.length : Int) := by rw [wrap_i64 (by omega) (by omega), hlen]; omega
      have hb : bnd (l'.length : Int) ((l' ++ [x]).length : Int) = true := bndN (by rw [hlen]; omega)
      have hg : (l' ++ [x]).getD l'.length 0 = x := by simp [List.getD_eq_getElem?_getD]
      have h2 : decide ((0 : Int) ≤ (0 : Int) ∧ (0 : Int) ≤ (l'.length : Int) ∧ (l'.length : Int) ≤ (l'.length : Int) ∧ (l'.length : Int) ≤ ((l' ++ [x]).length : Int)) = true := decT (by rw [hlen]; omega)
      have ht : List.take (Int.toNat ((l'.length : Int) - 0)) (List.drop 0 (l' ++ [x])) = l' := by simp
      simp only [hd, hw, hb, Int.toNat_natCast, hg]
      by_cases h0 : x = 0
      · subst h0
        simp only [show ((0 : Int) == 0) = true from rfl, h2, ht]
        rw [trimL_snoc0]
        exact G89_eq R k0 m l' (by omega) (by omega)
      · have : (x == 0) = false := by simp [h0]
        simp only [this]
        rw [trimL_snoc l' h0]
theorem F89_eq (R : Type) {l : List Int} (h : Ok32 l) (hl : l.length ≤ 1000000) (k : List Int → Option R) : F89 R l k = k (lim (nv l)) := by
  simp only [F89, p89]
  rw [G89_eq R _ FUEL l (by rw [FUEL_eq]; omega) hl, trim_lim h]
theorem F71_eq (R : Type) {n : Nat} (hn : n < 18446744073709551616) (k : List Int → Option R) : F71 R (n : Int) k = k (lim n) := by
  simp only [F71, p71]
  rw [wrap32, shr32, wrap32]
  have hd : n / LB < LB := by rw [Nat.div_lt_iff_lt_mul LB_pos, LB_eq]; omega
  rw [Nat.mod_eq_of_lt hd, F89_eq R (l := [((n % LB : Nat) : Int), ((n / LB : Nat) : Int)]) ?_ (by simp)]
  · simp only [nv, Int.toNat_natCast, Nat.mul_zero, Nat.add_zero]
    rw [Nat.mod_add_div]
  · intro x hx
    rcases List.mem_cons.1 hx with rfl | hx
    · exact U32.mod n
    · rcases List.mem_cons.1 hx with rfl | hx
      · have := U32.mod (n / LB); rwa [Nat.mod_eq_of_lt hd] at this
      · cases hx
theorem nv_two (a b : Nat) : nv ((List.replicate (a + 1) 0).set a (((2 : Nat) ^ b : Nat) : Int)) = 2 ^ b * LB ^ a := by
  have := nv_set (l := List.replicate (a + 1) 0) (i := a) (((2 : Nat) ^ b : Nat) : Int) (by simp)
  rw [nv_zeros, Int.toNat_natCast] at this
  have e : (List.replicate (a + 1) (0 : Int)).getD a 0 = 0 := by simp [List.getD_eq_getElem?_getD]
  rw [e] at this
  simpa using this
theorem two_last (a b : Nat) : (List.replicate (a + 1) (0 : Int)).set a (((2 : Nat) ^ b : Nat) : Int) = List.replicate a 0 ++ [(((2 : Nat) ^ b : Nat) : Int)] := by
  rw [List.replicate_succ', List.set_append_right _ _ (by simp)]
  simp
theorem pow_32 (a b : Nat) : 2 ^ b * LB ^ a = 2 ^ (32 * a + b) := by
  rw [LB_eq, show (4294967296 : Nat) = 2 ^ 32 by decide, ← Nat.pow_mul, ← Nat.pow_add, Nat.add_comm]
theorem lim_two {k : Nat} : (List.replicate (k / 32 + 1) (0 : Int)).set (k / 32) (((2 : Nat) ^ (k % 32) : Nat) : Int) = lim (2 ^ k) := by
  have hb : 2 ^ (k % 32) < LB := by
    rw [LB_eq, show (4294967296 : Nat) = 2 ^ 32 by decide]
    exact Nat.pow_lt_pow_right (by decide) (Nat.mod_lt _ (by decide))
  have ho : Ok32 ((List.replicate (k / 32 + 1) (0 : Int)).set (k / 32) (((2 : Nat) ^ (k % 32) : Nat) : Int)) := by
    refine (Ok32.zeros _).set ?_ _
    have := U32.mod (2 ^ (k % 32)); rwa [Nat.mod_eq_of_lt hb] at this
  have ht := trim_lim ho
  rw [nv_two, pow_32, show 32 * (k / 32) + k % 32 = k by omega] at ht
  rw [← ht, two_last]
  symm
  refine trimL_snoc _ ?_
  have : 0 < 2 ^ (k % 32) := Nat.pow_pos (by decide)
  omega
theorem F70_eq (R : Type) {n : Nat} (hn : n < 8192) (k : List Int → Int → Option R) : F70 R (n : Int) k = k (lim (2 ^ n)) 0 := by
  simp only [F70, p70]
  have h1 : decide ((n : Int) < 0) = false := decF (by omega)
  have h2 : decide ((n : Int) ≥ 8192) = false := decF (by omega)
  have e1 : IntKind.i64.wrap (Int.tdiv (n : Int) 32) = ((n / 32 : Nat) : Int) := by
    rw [Int.tdiv_eq_ediv_of_nonneg (by omega), wrap_i64 (by omega) (by omega)]; omega
  have e2 : Int.tmod (n : Int) 32 = ((n % 32 : Nat) : Int) := by
    rw [Int.tmod_eq_emod_of_nonneg (by omega)]; omega
  simp only [h1, h2, e1, e2]
  rw [wrap_i64 (n := ((n / 32 : Nat) : Int) + 1) (by omega) (by omega), show ((n / 32 : Nat) : Int) + 1 = ((n / 32 + 1 : Nat) : Int) by omega]
  have h3 : decide ((0 : Int) ≤ ((n / 32 + 1 : Nat) : Int) ∧ ((n / 32 + 1 : Nat) : Int) ≤ ((n / 32 + 1 : Nat) : Int) ∧ ((n / 32 + 1 : Nat) : Int) ≤ 35184372088832) = true := decT (by omega)
  have h4 : decide ((0 : Int) ≤ ((n % 32 : Nat) : Int)) = true := decT (by omega)
  have h5 : bnd ((n / 32 : Nat) : Int) ((List.replicate (n / 32 + 1) (0 : Int)).length : Int) = true := bndN (by simp)
  simp only [h3, h4, h5, Int.toNat_natCast]
  have e3 : ishl .u32 1 ((n % 32 : Nat) : Int) = (((2 : Nat) ^ (n % 32) : Nat) : Int) := by
    unfold ishl
    have hm : min (n % 32) IntKind.u32.bits = n % 32 := Nat.min_eq_left (by have := Nat.mod_lt n (show 0 < 32 by decide); show n % 32 ≤ 32; omega)
    rw [Int.toNat_natCast, hm, Int.one_mul]
    have hb : 2 ^ (n % 32) < 4294967296 := by
      rw [show (4294967296 : Nat) = 2 ^ 32 by decide]
      exact Nat.pow_lt_pow_right (by decide) (Nat.mod_lt _ (by decide))
    have : ((2 : Int) ^ (n % 32)) = (((2 : Nat) ^ (n % 32) : Nat) : Int) := by simp
    rw [this]
    have hq : ∀ q : Nat, q < 4294967296 → IntKind.u32.wrap (q : Int) = (q : Int) := fun q h => wrap_u32 (by omega) (by omega)
    exact hq _ hb
  rw [e3, lim_two]
theorem G93_eq (R : Type) {a b : List Int} (ha : Ok32 a) (hb : Ok32 b) (hl : a.length ≤ 1000000) (hlb : b.length ≤ a.length) {k0 : List Int → Int → List Int → Option R} {r : Option R}
    (hk : ∀ (s : List Int) (c : Nat), Ok32 s → s.length = a.length + 1 → (∀ j, a.length ≤ j → s.getD j 0 = 0) → nv s + c * LB ^ a.length = nv a + nv b → c ≤ 1 → k0 a (c : Int) s = r) :
    ∀ (m i : Nat) (s : List Int) (c : Nat), i ≤ a.length → a.length - i < m → Ok32 s → s.length = a.length + 1 → (∀ j, i ≤ j → s.getD j 0 = 0) → nv s + c * LB ^ i = nv (a.take i) + nv (b.take i) → c ≤ 1 →
      G93_6 m R a b (c : Int) a (a.length : Int) (i : Int) s k0 = r
  | 0, i, s, c, _, h, _, _, _, _, _ => by omega
  | m + 1, i, s, c, h1, h2, hs, hsl, hz, hv, hc => by
    simp only [G93_6, p93_6]
    by_cases hi : i < a.length
    · have hd : decide ((i : Int) < (a.length : Int)) = true := decT (by omega)
      obtain ⟨q1, q2, q3, q4, q5⟩ := sum_step (t := c + ln a i + ln b i) ha hb hs (by omega) hz hv hc rfl
      have hL := LB_eq
      have la := ln_lt ha i
      have lb := ln_lt hb i
      simp only [hd, bndN hi, Int.toNat_natCast]
      rw [ln_eq ha i, wrap_u64 (n := (ln a i : Int)) (by omega) (by omega), show (c : Int) + (ln a i : Int) = ((c + ln a i : Nat) : Int) by omega, wrap_u64 (n := ((c + ln a i : Nat) : Int)) (by omega) (by omega),
        wrap_i64 (n := (i : Int) + 1) (by omega) (by omega), show (i : Int) + 1 = ((i + 1 : Nat) : Int) by omega]
      have hbs : bnd (i : Int) (s.length : Int) = true := bndN (by omega)
      by_cases hib : i < b.length
      · have hd2 : decide ((i : Int) < (b.length : Int)) = true := decT (by omega)
        simp only [hd2, bndN hib, hbs]
        rw [ln_eq hb i, wrap_u64 (n := (ln b i : Int)) (by omega) (by omega), show ((c + ln a i : Nat) : Int) + (ln b i : Int) = ((c + ln a i + ln b i : Nat) : Int) by omega, wrap_u64 (n := ((c + ln a i + ln b i : Nat) : Int)) (by omega) (by omega), wrap32, shr32]
        exact G93_eq R ha hb hl hlb hk m (i + 1) _ _ (by omega) (by omega) q1 (by simp [hsl]) q2 q3 q4
      · have hd2 : decide ((i : Int) < (b.length : Int)) = false := decF (by omega)
        have e0 : ln b i = 0 := ln_over (by omega)
        rw [e0, Nat.add_zero] at q1 q2 q3 q4
        simp only [hd2, hbs]
        rw [wrap32, shr32]
        exact G93_eq R ha hb hl hlb hk m (i + 1) _ _ (by omega) (by omega) q1 (by simp [hsl]) q2 q3 q4
    · have hia : i = a.length := by omega
      subst hia
      have hd : decide ((a.length : Int) < (a.length : Int)) = false := by simp
      simp only [hd]
      rw [nv_take_all (Nat.le_refl _), nv_take_all hlb] at hv
      exact hk s c hs hsl hz hv hc
theorem sum_end {a b s : List Int} {c : Nat} (hs : Ok32 s) (hsl : s.length = a.length + 1) (hz : ∀ j, a.length ≤ j → s.getD j 0 = 0) (hv : nv s + c * LB ^ a.length = nv a + nv b) (hc : c ≤ 1) :
    Ok32 (s.set a.length ((c : Nat) : Int)) ∧ nv (s.set a.length ((c : Nat) : Int)) = nv a + nv b := by
  refine ⟨hs.set (by unfold U32; omega) _, ?_⟩
  have := nv_set (l := s) (i := a.length) (c : Int) (by omega)
  rw [hz _ (Nat.le_refl _), Int.toNat_natCast] at this
  simp only [Int.toNat_zero, Nat.zero_mul, Nat.add_zero] at this
  rw [this, hv]
theorem F93_eq (R : Type) {a b : List Int} (ha : Ok32 a) (hb : Ok32 b) (hla : a.length ≤ 900000) (hlb : b.length ≤ 900000) (k : List Int → Option R) : F93 R a b k = k (lim (nv a + nv b)) := by
  simp only [F93, p93]
  have key : ∀ {a b : List Int}, Ok32 a → Ok32 b → a.length ≤ 900000 → b.length ≤ a.length →
      G93_6 FUEL R a b (0 : Int) a (a.length : Int) (0 : Int) (List.replicate (a.length + 1) (0 : Int)) (fun x19 x20 x21 => match bnd (x19.length : Int) (x21.length : Int) with
        | true => F89 R (List.set x21 (Int.toNat (x19.length : Int)) (IntKind.u32.wrap x20)) fun y25 => k y25
        | false => none) = k (lim (nv a + nv b)) := by
    intro a b ha hb hla hlb
    refine G93_eq R ha hb (by omega) hlb (fun s c hs hsl hz hv hc => ?_) FUEL 0 _ 0 (by omega) (by rw [FUEL_eq]; omega) (Ok32.zeros _) (by simp) (fun j _ => ?_) (by simp [nv_zeros, nv]) (by omega)
    · obtain ⟨g1, g2⟩ := sum_end (b := b) hs hsl hz hv hc
      simp only [bndN (show a.length < s.length by omega), Int.toNat_natCast]
      have hL := LB_eq
      rw [wrap32, Nat.mod_eq_of_lt (by omega), F89_eq R g1 (by simp; omega), g2]
    · rw [List.getD_eq_getElem?_getD, List.getElem?_replicate]; split <;> rfl
  by_cases h : a.length < b.length
  · have hd : decide ((a.length : Int) < (b.length : Int)) = true := decT (by omega)
    simp only [hd]
    rw [wrap_i64 (n := (b.length : Int) + 1) (by omega) (by omega), show (b.length : Int) + 1 = ((b.length + 1 : Nat) : Int) by omega]
    have h3 : decide ((0 : Int) ≤ ((b.length + 1 : Nat) : Int) ∧ ((b.length + 1 : Nat) : Int) ≤ ((b.length + 1 : Nat) : Int) ∧ ((b.length + 1 : Nat) : Int) ≤ 35184372088832) = true := decT (by omega)
    simp only [h3]
    rw [show Int.toNat ((b.length + 1 : Nat) : Int) = b.length + 1 from Int.toNat_natCast _, Nat.add_comm (nv a)]
    exact key hb ha hlb (by omega)
  · have hd : decide ((a.length : Int) < (b.length : Int)) = false := decF (by omega)
    simp only [hd]
    rw [wrap_i64 (n := (a.length : Int) + 1) (by omega) (by omega), show (a.length : Int) + 1 = ((a.length + 1 : Nat) : Int) by omega]
    have h3 : decide ((0 : Int) ≤ ((a.length + 1 : Nat) : Int) ∧ ((a.length + 1 : Nat) : Int) ≤ ((a.length + 1 : Nat) : Int) ∧ ((a.length + 1 : Nat) : Int) ≤ 35184372088832) = true := decT (by omega)
    simp only [h3]
    rw [show Int.toNat ((a.length + 1 : Nat) : Int) = a.length + 1 from Int.toNat_natCast _]
    exact key ha hb hla (by omega)
end Go.PG
