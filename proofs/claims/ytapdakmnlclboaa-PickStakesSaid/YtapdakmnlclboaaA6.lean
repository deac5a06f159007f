/- A part of the proof over this seat (own work; the framework that reads a Go function as a pure one, or a use of it). No condition of its own. -/
import Derived.Test.YtapdakmnlclboaaA5
import Derived.Test.YtapdakmnlclboaaProg
import Derived.KernelRfl
set_option linter.unusedVariables false
set_option linter.unusedSimpArgs false
set_option linter.unusedSectionVars false
set_option maxRecDepth 100000
namespace Go.PG
open Go.Proofs
abbrev FT3 : Type 1 := (R : Type) → (List Int) → Int → (Bool → Option R) → Option R
def en3 (F : FT3) : Ent := ⟨3, [(false, (.sl (.int .u64))), (false, (.int .u8))], [(false, .bool)], fun R x k => F R x.1 x.2.1 (fun y1 => k (y1, ()) ())⟩
def res3 : List (ResultVar × TypeId × Bool) := [(.tmp 4, 4, false)]
abbrev LT3_8 : Type 1 := (R : Type) → (List Int) → Int → Int → Int → (List Int) → ((List Int) → Int → Int → (List Int) → Option R) → Option R
def le3_8 (L : LT3_8) : LEnt := ⟨8, [.val 0 (.sl (.int .u64)), .val 1 (.int .u8), .fix 5 (.own 0 0), .val 6 (.int .u64), .val 7 (.int .i64), .row 0 (.int .u64) false], 1, [(.exit 0, [.val 0 (.sl (.int .u64)), .val 1 (.int .u8), .fix 5 (.own 0 0), .val 6 (.int .u64), .row 0 (.int .u64) false])], fun R x ke => L R x.1 x.2.1 x.2.2.1 x.2.2.2.1 x.2.2.2.2.1 (fun y1 y2 y3 y4 => ke.1 (y1, y2, y3, y4, ()))⟩
abbrev LT3_22 : Type 1 := (R : Type) → Int → Int → Int → Int → Int → Int → (List Int) → Tq7 → (List Int) → (Bool → Option R) → (Int → Int → Int → Int → Int → (List Int) → (List Int) → Option R) → Option R
def le3_22 (L : LT3_22) : LEnt := ⟨22, [.fix 5 (.own 0 0), .val 6 (.int .u64), .val 8 (.int .u64), .val 9 (.int .i64), .val 10 (.int .i64), .fix 11 (.ptr 1 [] Kq7), .fix 13 (.own 2 0), .val 14 (.int .u64), .val 15 (.int .u64), .row 0 (.int .u64) true, .var 1 Kq7 false, .row 2 (.int .u64) false], 3, [(.ret, [.val 4 .bool]), (.exit 2, [.fix 5 (.own 0 0), .val 6 (.int .u64), .val 8 (.int .u64), .val 9 (.int .i64), .val 10 (.int .i64), .fix 13 (.own 2 0), .val 14 (.int .u64), .row 0 (.int .u64) true, .row 2 (.int .u64) false])], fun R x ke => L R x.1 x.2.1 x.2.2.1 x.2.2.2.1 x.2.2.2.2.1 x.2.2.2.2.2.1 x.2.2.2.2.2.2.1 x.2.2.2.2.2.2.2.1 x.2.2.2.2.2.2.2.2.1 (fun y1 => ke.1 (y1, ())) (fun y1 y2 y3 y4 y5 y6 y7 => ke.2.1 (y1, y2, y3, y4, y5, y6, y7, ()))⟩
abbrev LT3_35 : Type 1 := (R : Type) → Int → Int → Int → Int → Int → Int → (List Int) → (List Int) → (Bool → Option R) → (Int → Int → Option R) → Option R
def le3_35 (L : LT3_35) : LEnt := ⟨35, [.fix 5 (.own 0 0), .val 6 (.int .u64), .val 9 (.int .i64), .val 10 (.int .i64), .fix 13 (.own 2 0), .val 14 (.int .u64), .val 21 (.int .u64), .val 22 (.int .i64), .row 0 (.int .u64) true, .row 2 (.int .u64) false], 3, [(.ret, [.val 4 .bool]), (.exit 4, [.val 14 (.int .u64), .val 21 (.int .u64)])], fun R x ke => L R x.1 x.2.1 x.2.2.1 x.2.2.2.1 x.2.2.2.2.1 x.2.2.2.2.2.1 x.2.2.2.2.2.2.1 x.2.2.2.2.2.2.2.1 (fun y1 => ke.1 (y1, ())) (fun y1 y2 => ke.2.1 (y1, y2, ()))⟩
noncomputable def e3 (F8 : FT8) (F9 : FT9) (F10 : FT10) (F11 : FT11) (F12 : FT12) (F13 : FT13) (F14 : FT14) (L8 : LT3_8) (L22 : LT3_22) (L35 : LT3_35) (R : Type) : Env R := ⟨TT, EQT, 0, 165, ownOf [(5, 0)], callOf [en8 F8, en9 F9, en10 F10, en11 F11, en12 F12, en13 F13, en14 F14] R, loopOf [le3_8 L8, le3_22 L22, le3_35 L35] R, [], inlOf []⟩
def p3_8 : (R : Type) → (List Int) → Int → Int → Int → (List Int) → ((List Int) → Int → Int → Int → (List Int) → Option R) → ((List Int) → Int → Int → (List Int) → Option R) → Option R := fun R x1 x2 x3 x4 x5 kc k0 =>
let v6 : Int := (List.length x1 : Int);
let v7 : Bool := (decide (x4 < v6));
(match v7 with
| true => (match (bnd x4 (List.length x1 : Int)) with
| true => let v8 : Int := (List.getD x1 (Int.toNat x4) (0 : Int));
let v9 : Int := (Int.tmod v8 (5 : Int));
let v10 : (List Int) := ([v9] : (List Int));
(match (decide (List.length x5 + List.length v10 ≤ 17592186044416)) with
| true => let v11 : (List Int) := (x5 ++ v10);
(match (bnd x4 (List.length x1 : Int)) with
| true => let v12 : Int := (List.getD x1 (Int.toNat x4) (0 : Int));
let v13 : Int := (Int.tmod v12 (5 : Int));
let v14 : Int := (IntKind.u64.wrap (x3 + v13));
let v15 : Int := (IntKind.i64.wrap (x4 + (1 : Int)));
kc x1 x2 v14 v15 v11
| false => none)
| false => none)
| false => none)
| false => k0 x1 x2 x3 x5)
theorem q3_8 (F8 : FT8) (F9 : FT9) (F10 : FT10) (F11 : FT11) (F12 : FT12) (F13 : FT13) (F14 : FT14) (L8 : LT3_8) (L22 : LT3_22) (L35 : LT3_35) (R : Type) (x : HT (le3_8 L8).H) (kc : HT (le3_8 L8).H → Option R) (ke : KT R (le3_8 L8).exs) :
  exec (e3 F8 F9 F10 F11 F12 F13 F14 L8 L22 L35 R) (lcode 8 (codeOf Try.f3)) (stOf (le3_8 L8).H x 1) (roundK (le3_8 L8).H (le3_8 L8).exs kc ke) =
    p3_8 R x.1 x.2.1 x.2.2.1 x.2.2.2.1 x.2.2.2.2.1 (fun x1 x2 x3 x4 x5 => kc (x1, x2, x3, x4, x5, ())) (fun y1 y2 y3 y4 => ke.1 (y1, y2, y3, y4, ())) := by kernel_rfl
noncomputable def G3_8 : Nat → LT3_8
  | 0 => fun _ _ _ _ _ _ _ => none
  | n + 1 => fun R x1 x2 x3 x4 x5 k0 => p3_8 R x1 x2 x3 x4 x5 (fun x1 x2 x3 x4 x5 => G3_8 n R x1 x2 x3 x4 x5 k0) k0
def p3_22 (F11 : FT11) (F12 : FT12) (F13 : FT13) (F14 : FT14) : (R : Type) → Int → Int → Int → Int → Int → Int → (List Int) → Tq7 → (List Int) → (Int → Int → Int → Int → Int → Int → (List Int) → Tq7 → (List Int) → Option R) → (Bool → Option R) → (Int → Int → Int → Int → Int → (List Int) → (List Int) → Option R) → Option R := fun R x1 x2 x3 x4 x5 x6 x7 x8 x9 kc k0 k1 =>
let v10 : Int := (IntKind.i64.wrap (x4 * x3));
F11 R (2 : Int) v10 fun y11 =>
let v12 : Bool := (decide (x6 < y11));
(match v12 with
| true => let v13 : Int := (IntKind.i64.wrap (x4 * x3));
F13 R x6 v13 fun y14 =>
let v15 : Int := (IntKind.i64.wrap (x4 * x3));
let v16 : Int := (IntKind.u64.wrap v15);
F12 R y14 v16 fun y17 y18 =>
F14 R x8 y17 x3 fun y19 y20 y21 =>
let v22 : Bool := (decide (y20.2.2.2.2.2.1 > y17.2.2.1));
(match v22 with
| true => k0 false
| false => let v23 : Bool := (y21 == (0 : Int));
(match v23 with
| true => let v24 : Bool := (decide (y19 ≥ (0 : Int)));
(match v24 with
| true => let v25 : Int := (List.length x9 : Int);
let v26 : Bool := (decide (y19 < v25));
(match v26 with
| true => (match (bnd y19 (List.length x9 : Int)) with
| true => let v27 : Int := (List.getD x9 (Int.toNat y19) (0 : Int));
let v28 : Int := (IntKind.u64.wrap (v27 + (1 : Int)));
(match (bnd y19 (List.length x9 : Int)) with
| true => let v29 : (List Int) := (List.set x9 (Int.toNat y19) v28);
let v30 : Int := (IntKind.u64.wrap (x6 + (1 : Int)));
kc x1 x2 x3 x4 x5 v30 x7 x8 v29
| false => none)
| false => none)
| false => let v31 : Bool := (y21 == (9 : Int));
(match v31 with
| true => let v32 : Int := (IntKind.u64.wrap (x5 + (1 : Int)));
let v33 : Int := (IntKind.u64.wrap (x6 + (1 : Int)));
kc x1 x2 x3 x4 v32 v33 x7 x8 x9
| false => k0 false))
| false => let v34 : Bool := (y21 == (9 : Int));
(match v34 with
| true => let v35 : Int := (IntKind.u64.wrap (x5 + (1 : Int)));
let v36 : Int := (IntKind.u64.wrap (x6 + (1 : Int)));
kc x1 x2 x3 x4 v35 v36 x7 x8 x9
| false => k0 false))
| false => let v37 : Bool := (y21 == (9 : Int));
(match v37 with
| true => let v38 : Int := (IntKind.u64.wrap (x5 + (1 : Int)));
let v39 : Int := (IntKind.u64.wrap (x6 + (1 : Int)));
kc x1 x2 x3 x4 v38 v39 x7 x8 x9
| false => k0 false)))
| false => k1 x1 x2 x3 x4 x5 x7 x9)
theorem q3_22 (F8 : FT8) (F9 : FT9) (F10 : FT10) (F11 : FT11) (F12 : FT12) (F13 : FT13) (F14 : FT14) (L8 : LT3_8) (L22 : LT3_22) (L35 : LT3_35) (R : Type) (x : HT (le3_22 L22).H) (kc : HT (le3_22 L22).H → Option R) (ke : KT R (le3_22 L22).exs) :
  exec (e3 F8 F9 F10 F11 F12 F13 F14 L8 L22 L35 R) (lcode 22 (codeOf Try.f3)) (stOf (le3_22 L22).H x 3) (roundK (le3_22 L22).H (le3_22 L22).exs kc ke) =
    p3_22 F11 F12 F13 F14 R x.1 x.2.1 x.2.2.1 x.2.2.2.1 x.2.2.2.2.1 x.2.2.2.2.2.1 x.2.2.2.2.2.2.1 x.2.2.2.2.2.2.2.1 x.2.2.2.2.2.2.2.2.1 (fun x1 x2 x3 x4 x5 x6 x7 x8 x9 => kc (x1, x2, x3, x4, x5, x6, x7, x8, x9, ())) (fun y1 => ke.1 (y1, ())) (fun y1 y2 y3 y4 y5 y6 y7 => ke.2.1 (y1, y2, y3, y4, y5, y6, y7, ())) := by kernel_rfl
noncomputable def G3_22 : Nat → LT3_22
  | 0 => fun _ _ _ _ _ _ _ _ _ _ _ _ => none
  | n + 1 => fun R x1 x2 x3 x4 x5 x6 x7 x8 x9 k0 k1 => p3_22 F11 F12 F13 F14 R x1 x2 x3 x4 x5 x6 x7 x8 x9 (fun x1 x2 x3 x4 x5 x6 x7 x8 x9 => G3_22 n R x1 x2 x3 x4 x5 x6 x7 x8 x9 k0 k1) k0 k1
def p3_35 (F11 : FT11) : (R : Type) → Int → Int → Int → Int → Int → Int → (List Int) → (List Int) → (Int → Int → Int → Int → Int → Int → (List Int) → (List Int) → Option R) → (Bool → Option R) → (Int → Int → Option R) → Option R := fun R x1 x2 x3 x4 x5 x6 x7 x8 kc k0 k1 =>
let v9 : Int := (List.length x8 : Int);
let v10 : Bool := (decide (x6 < v9));
(match v10 with
| true => (match (bnd x6 (List.length x8 : Int)) with
| true => let v11 : Int := (List.getD x8 (Int.toNat x6) (0 : Int));
let v12 : Int := (IntKind.u64.wrap (v11 * x1));
(match (bnd x6 (List.length x7 : Int)) with
| true => let v13 : Int := (List.getD x7 (Int.toNat x6) (0 : Int));
let v14 : Int := (IntKind.i64.wrap (x3 * x2));
F11 R (2 : Int) v14 fun y15 =>
let v16 : Int := (IntKind.u64.wrap (y15 - x5));
let v17 : Int := (IntKind.u64.wrap (v13 * v16));
let v18 : Bool := (v12 != v17);
(match v18 with
| true => k0 false
| false => let v19 : Int := (IntKind.i64.wrap (x6 + (1 : Int)));
kc x1 x2 x3 x4 x5 v19 x7 x8)
| false => none)
| false => none)
| false => k1 x4 x5)
theorem q3_35 (F8 : FT8) (F9 : FT9) (F10 : FT10) (F11 : FT11) (F12 : FT12) (F13 : FT13) (F14 : FT14) (L8 : LT3_8) (L22 : LT3_22) (L35 : LT3_35) (R : Type) (x : HT (le3_35 L35).H) (kc : HT (le3_35 L35).H → Option R) (ke : KT R (le3_35 L35).exs) :
  exec (e3 F8 F9 F10 F11 F12 F13 F14 L8 L22 L35 R) (lcode 35 (codeOf Try.f3)) (stOf (le3_35 L35).H x 3) (roundK (le3_35 L35).H (le3_35 L35).exs kc ke) =
    p3_35 F11 R x.1 x.2.1 x.2.2.1 x.2.2.2.1 x.2.2.2.2.1 x.2.2.2.2.2.1 x.2.2.2.2.2.2.1 x.2.2.2.2.2.2.2.1 (fun x1 x2 x3 x4 x5 x6 x7 x8 => kc (x1, x2, x3, x4, x5, x6, x7, x8, ())) (fun y1 => ke.1 (y1, ())) (fun y1 y2 => ke.2.1 (y1, y2, ())) := by kernel_rfl
noncomputable def G3_35 : Nat → LT3_35
  | 0 => fun _ _ _ _ _ _ _ _ _ _ _ => none
  | n + 1 => fun R x1 x2 x3 x4 x5 x6 x7 x8 k0 k1 => p3_35 F11 R x1 x2 x3 x4 x5 x6 x7 x8 (fun x1 x2 x3 x4 x5 x6 x7 x8 => G3_35 n R x1 x2 x3 x4 x5 x6 x7 x8 k0 k1) k0 k1
def p3 (F8 : FT8) (F9 : FT9) (F10 : FT10) (F11 : FT11) (L8 : LT3_8) (L22 : LT3_22) (L35 : LT3_35) : FT3 := fun R a0 a1 k =>
F8 R  fun y1 =>
(match (!y1) with
| true => k false
| false => let v2 : Int := (List.length a0 : Int);
let v3 : Bool := (decide (v2 > (6 : Int)));
(match v3 with
| true => k true
| false => L8 R a0 a1 (0 : Int) (0 : Int) ([] : (List Int)) (fun x4 x5 x6 x7 =>
let v8 : Int := (List.length x4 : Int);
let v9 : Int := (IntKind.u64.wrap v8);
let v10 : Int := (Int.tmod x5 (2 : Int));
let v11 : Int := (IntKind.i64.wrap v10);
let v12 : Int := (IntKind.i64.wrap ((1 : Int) + v11));
let v13 : Bool := (x6 == (0 : Int));
(match v13 with
| true => k true
| false => let v14 : Int := (IntKind.u64.wrap (v9 * x6));
F9 R v14 fun y15 =>
let v16 : Int := (IntKind.i64.wrap (y15 * v12));
let v17 : Bool := (decide (v16 > (12 : Int)));
(match v17 with
| true => k true
| false => F10 R x7 fun y18 y19 =>
let v20 : Int := (List.length x4 : Int);
(match (decide (0 ≤ v20 ∧ v20 ≤ v20 ∧ v20 ≤ (17592186044416 : Int))) with
| true => let v21 : (List Int) := (List.replicate (Int.toNat v20) (0 : Int));
L22 R x6 v9 v12 y15 (0 : Int) (0 : Int) x7 y18 v21 (fun x22 =>
k x22) (fun x23 x24 x25 x26 x27 x28 x29 =>
F11 R (2 : Int) x26 fun y30 =>
let v31 : Int := (IntKind.u64.wrap (x24 * x23));
let v32 : Int := (IntKind.u64.wrap (y30 - v31));
F11 R v32 x25 fun y33 =>
L35 R x23 x25 x26 x27 y33 (0 : Int) x28 x29 (fun x34 =>
k x34) (fun x35 x36 =>
let v37 : Bool := (x35 == x36);
k v37))
| false => none))))))
theorem q3 (F8 : FT8) (F9 : FT9) (F10 : FT10) (F11 : FT11) (F12 : FT12) (F13 : FT13) (F14 : FT14) (L8 : LT3_8) (L22 : LT3_22) (L35 : LT3_35) (F : FT3) (R : Type) (x : AT (en3 F).ins) (k : RT (en3 F).outs → PT (en3 F).ins → Option R) :
  xfun (e3 F8 F9 F10 F11 F12 F13 F14 L8 L22 L35 R) (codeOf Try.f3) res3 (avs (en3 F).ins x) (finK (en3 F).outs (en3 F).ins k) = p3 F8 F9 F10 F11 L8 L22 L35 R x.1 x.2.1 (fun y1 => k (y1, ()) ()) := by kernel_rfl
noncomputable def F3 : FT3 := p3 F8 F9 F10 F11 (G3_8 FUEL) (G3_22 FUEL) (G3_35 FUEL)
theorem env3 (R : Type) : EnvOK Try.prog (e3 F8 F9 F10 F11 F12 F13 F14 (G3_8 FUEL) (G3_22 FUEL) (G3_35 FUEL) R) := ⟨tabOK, eqOK, callOf_ok (allE_cons ok8 (allE_cons ok9 (allE_cons ok10 (allE_cons ok11 (allE_cons ok12 (allE_cons ok13 (allE_cons ok14 allE_nil))))))), noIns, inlOK_nil⟩
noncomputable def T3_8 : (R : Type) → HT (le3_8 (G3_8 FUEL)).H → (HT (le3_8 (G3_8 FUEL)).H → Option R) → KT R (le3_8 (G3_8 FUEL)).exs → Option R := fun R x kc ke => p3_8 R x.1 x.2.1 x.2.2.1 x.2.2.2.1 x.2.2.2.2.1 (fun x1 x2 x3 x4 x5 => kc (x1, x2, x3, x4, x5, ())) (fun y1 y2 y3 y4 => ke.1 (y1, y2, y3, y4, ()))
theorem it3_8 : ∀ (n : Nat) (R : Type) (x : HT (le3_8 (G3_8 FUEL)).H) (ke : KT R (le3_8 (G3_8 FUEL)).exs), iter T3_8 n R x ke = G3_8 n R x.1 x.2.1 x.2.2.1 x.2.2.2.1 x.2.2.2.2.1 (fun y1 y2 y3 y4 => ke.1 (y1, y2, y3, y4, ())) := by
  intro n
  induction n with
  | zero => intro R x ke; rfl
  | succ n ih =>
    intro R x ke
    show T3_8 R x (fun x' => iter T3_8 n R x' ke) ke = _
    rw [show (fun x' => iter T3_8 n R x' ke) = fun x => G3_8 n R x.1 x.2.1 x.2.2.1 x.2.2.2.1 x.2.2.2.2.1 (fun y1 y2 y3 y4 => ke.1 (y1, y2, y3, y4, ())) from funext fun x' => ih R x' ke]
    rfl
theorem lok3_8 : (le3_8 (G3_8 FUEL)).OK Try.prog 0 165 (lcode 8 (codeOf Try.f3)) := fun R x ke r h =>
  iter_sound (fun R => e3 F8 F9 F10 F11 F12 F13 F14 (G3_8 FUEL) (G3_22 FUEL) (G3_35 FUEL) R) 0 165 (fun _ => rfl) (fun _ => rfl) (fun R => env3 R) mixed (by
    intro R
    rw [show loopsOf (lcode 8 (codeOf Try.f3)) = [] from by kernel_rfl]
    exact allM_nil) (T := T3_8) (fun R x kc ke => q3_8 F8 F9 F10 F11 F12 F13 F14 (G3_8 FUEL) (G3_22 FUEL) (G3_35 FUEL) R x kc ke) FUEL R x ke r ((it3_8 FUEL R x ke).trans h)
noncomputable def T3_22 : (R : Type) → HT (le3_22 (G3_22 FUEL)).H → (HT (le3_22 (G3_22 FUEL)).H → Option R) → KT R (le3_22 (G3_22 FUEL)).exs → Option R := fun R x kc ke => p3_22 F11 F12 F13 F14 R x.1 x.2.1 x.2.2.1 x.2.2.2.1 x.2.2.2.2.1 x.2.2.2.2.2.1 x.2.2.2.2.2.2.1 x.2.2.2.2.2.2.2.1 x.2.2.2.2.2.2.2.2.1 (fun x1 x2 x3 x4 x5 x6 x7 x8 x9 => kc (x1, x2, x3, x4, x5, x6, x7, x8, x9, ())) (fun y1 => ke.1 (y1, ())) (fun y1 y2 y3 y4 y5 y6 y7 => ke.2.1 (y1, y2, y3, y4, y5, y6, y7, ()))
theorem it3_22 : ∀ (n : Nat) (R : Type) (x : HT (le3_22 (G3_22 FUEL)).H) (ke : KT R (le3_22 (G3_22 FUEL)).exs), iter T3_22 n R x ke = G3_22 n R x.1 x.2.1 x.2.2.1 x.2.2.2.1 x.2.2.2.2.1 x.2.2.2.2.2.1 x.2.2.2.2.2.2.1 x.2.2.2.2.2.2.2.1 x.2.2.2.2.2.2.2.2.1 (fun y1 => ke.1 (y1, ())) (fun y1 y2 y3 y4 y5 y6 y7 => ke.2.1 (y1, y2, y3, y4, y5, y6, y7, ())) := by
  intro n
  induction n with
  | zero => intro R x ke; rfl
  | succ n ih =>
    intro R x ke
    show T3_22 R x (fun x' => iter T3_22 n R x' ke) ke = _
    rw [show (fun x' => iter T3_22 n R x' ke) = fun x => G3_22 n R x.1 x.2.1 x.2.2.1 x.2.2.2.1 x.2.2.2.2.1 x.2.2.2.2.2.1 x.2.2.2.2.2.2.1 x.2.2.2.2.2.2.2.1 x.2.2.2.2.2.2.2.2.1 (fun y1 => ke.1 (y1, ())) (fun y1 y2 y3 y4 y5 y6 y7 => ke.2.1 (y1, y2, y3, y4, y5, y6, y7, ())) from funext fun x' => ih R x' ke]
    rfl
theorem lok3_22 : (le3_22 (G3_22 FUEL)).OK Try.prog 0 165 (lcode 22 (codeOf Try.f3)) := fun R x ke r h =>
  iter_sound (fun R => e3 F8 F9 F10 F11 F12 F13 F14 (G3_8 FUEL) (G3_22 FUEL) (G3_35 FUEL) R) 0 165 (fun _ => rfl) (fun _ => rfl) (fun R => env3 R) mixed (by
    intro R
    rw [show loopsOf (lcode 22 (codeOf Try.f3)) = [] from by kernel_rfl]
    exact allM_nil) (T := T3_22) (fun R x kc ke => q3_22 F8 F9 F10 F11 F12 F13 F14 (G3_8 FUEL) (G3_22 FUEL) (G3_35 FUEL) R x kc ke) FUEL R x ke r ((it3_22 FUEL R x ke).trans h)
noncomputable def T3_35 : (R : Type) → HT (le3_35 (G3_35 FUEL)).H → (HT (le3_35 (G3_35 FUEL)).H → Option R) → KT R (le3_35 (G3_35 FUEL)).exs → Option R := fun R x kc ke => p3_35 F11 R x.1 x.2.1 x.2.2.1 x.2.2.2.1 x.2.2.2.2.1 x.2.2.2.2.2.1 x.2.2.2.2.2.2.1 x.2.2.2.2.2.2.2.1 (fun x1 x2 x3 x4 x5 x6 x7 x8 => kc (x1, x2, x3, x4, x5, x6, x7, x8, ())) (fun y1 => ke.1 (y1, ())) (fun y1 y2 => ke.2.1 (y1, y2, ()))
theorem it3_35 : ∀ (n : Nat) (R : Type) (x : HT (le3_35 (G3_35 FUEL)).H) (ke : KT R (le3_35 (G3_35 FUEL)).exs), iter T3_35 n R x ke = G3_35 n R x.1 x.2.1 x.2.2.1 x.2.2.2.1 x.2.2.2.2.1 x.2.2.2.2.2.1 x.2.2.2.2.2.2.1 x.2.2.2.2.2.2.2.1 (fun y1 => ke.1 (y1, ())) (fun y1 y2 => ke.2.1 (y1, y2, ())) := by
  intro n
  induction n with
  | zero => intro R x ke; rfl
  | succ n ih =>
    intro R x ke
    show T3_35 R x (fun x' => iter T3_35 n R x' ke) ke = _
    rw [show (fun x' => iter T3_35 n R x' ke) = fun x => G3_35 n R x.1 x.2.1 x.2.2.1 x.2.2.2.1 x.2.2.2.2.1 x.2.2.2.2.2.1 x.2.2.2.2.2.2.1 x.2.2.2.2.2.2.2.1 (fun y1 => ke.1 (y1, ())) (fun y1 y2 => ke.2.1 (y1, y2, ())) from funext fun x' => ih R x' ke]
    rfl
theorem lok3_35 : (le3_35 (G3_35 FUEL)).OK Try.prog 0 165 (lcode 35 (codeOf Try.f3)) := fun R x ke r h =>
  iter_sound (fun R => e3 F8 F9 F10 F11 F12 F13 F14 (G3_8 FUEL) (G3_22 FUEL) (G3_35 FUEL) R) 0 165 (fun _ => rfl) (fun _ => rfl) (fun R => env3 R) mixed (by
    intro R
    rw [show loopsOf (lcode 35 (codeOf Try.f3)) = [] from by kernel_rfl]
    exact allM_nil) (T := T3_35) (fun R x kc ke => q3_35 F8 F9 F10 F11 F12 F13 F14 (G3_8 FUEL) (G3_22 FUEL) (G3_35 FUEL) R x kc ke) FUEL R x ke r ((it3_35 FUEL R x ke).trans h)
theorem ok3 : (en3 F3).OK Try.prog :=
  ent_ok (Ef := fun R => e3 F8 F9 F10 F11 F12 F13 F14 (G3_8 FUEL) (G3_22 FUEL) (G3_35 FUEL) R) (fun R => env3 R) mixed Try.func3 (body := codeOf Try.f3) (by kernel_rfl) (by kernel_rfl) (np := 0) (nt := 165) (fun _ => rfl) (fun _ => rfl) (by kernel_rfl) (res := res3) (by kernel_rfl) (fun _ => rfl) (fun _ => Nat.le_of_ble_eq_true rfl) (by
    intro R
    rw [show loopsOf (codeOf Try.f3) = [lcode 8 (codeOf Try.f3), lcode 22 (codeOf Try.f3), lcode 35 (codeOf Try.f3)] from by kernel_rfl]
    exact (allM_cons (loop_ok2 (e := le3_8 (G3_8 FUEL)) rfl rfl lok3_8) (allM_cons (loop_ok2 (e := le3_22 (G3_22 FUEL)) rfl rfl lok3_22) (allM_cons (loop_ok2 (e := le3_35 (G3_35 FUEL)) rfl rfl lok3_35) allM_nil)))) (fun R x k => q3 F8 F9 F10 F11 F12 F13 F14 (G3_8 FUEL) (G3_22 FUEL) (G3_35 FUEL) F3 R x k)
abbrev FT15 : Type 1 := (R : Type) → (List Int) → Tq6 → (Bool → Option R) → Option R
def en15 (F : FT15) : Ent := ⟨15, [(false, (.sl (.int .u64))), (false, Kq6)], [(false, .bool)], fun R x k => F R x.1 x.2.1 (fun y1 => k (y1, ()) ())⟩
def res15 : List (ResultVar × TypeId × Bool) := [(.tmp 4, 4, false)]
noncomputable def e15 (R : Type) : Env R := ⟨TT, EQT, 0, 14, ownOf [], callOf [] R, loopOf [] R, [], inlOf []⟩
def p15 : FT15 := fun R a0 a1 k =>
let v1 : Int := (List.length a0 : Int);
let v2 : Bool := (decide (v1 > (200 : Int)));
(match v2 with
| true => k true
| false => let v3 : Int := (List.length a1.2.1 : Int);
let v4 : Bool := (decide (v3 > (500 : Int)));
k v4)
theorem q15 (F : FT15) (R : Type) (x : AT (en15 F).ins) (k : RT (en15 F).outs → PT (en15 F).ins → Option R) :
  xfun (e15 R) (codeOf Try.f15) res15 (avs (en15 F).ins x) (finK (en15 F).outs (en15 F).ins k) = p15 R x.1 x.2.1 (fun y1 => k (y1, ()) ()) := by kernel_rfl
noncomputable def F15 : FT15 := p15
theorem env15 (R : Type) : EnvOK Try.prog (e15 R) := ⟨tabOK, eqOK, callOf_ok allE_nil, noIns, inlOK_nil⟩
theorem ok15 : (en15 F15).OK Try.prog :=
  ent_ok (Ef := fun R => e15 R) (fun R => env15 R) mixed Try.func15 (body := codeOf Try.f15) (by kernel_rfl) (by kernel_rfl) (np := 0) (nt := 14) (fun _ => rfl) (fun _ => rfl) (by kernel_rfl) (res := res15) (by kernel_rfl) (fun _ => rfl) (fun _ => Nat.le_of_ble_eq_true rfl) (by
    intro R
    rw [show loopsOf (codeOf Try.f15) = [] from by kernel_rfl]
    exact allM_nil) (fun R x k => q15 F15 R x k)
abbrev FT4 : Type 1 := (R : Type) → (List Int) → Tq6 → Int → (Bool → Option R) → Option R
def en4 (F : FT4) : Ent := ⟨4, [(false, (.sl (.int .u64))), (false, Kq6), (false, (.int .u8))], [(false, .bool)], fun R x k => F R x.1 x.2.1 x.2.2.1 (fun y1 => k (y1, ()) ())⟩
def res4 : List (ResultVar × TypeId × Bool) := [(.tmp 6, 4, false)]
noncomputable def e4 (F8 : FT8) (F15 : FT15) (F16 : FT16) (R : Type) : Env R := ⟨TT, EQT, 0, 52, ownOf [], callOf [en8 F8, en15 F15, en16 F16] R, loopOf [] R, [], inlOf []⟩
def p4 (F8 : FT8) (F15 : FT15) (F16 : FT16) : FT4 := fun R a0 a1 a2 k =>
F8 R  fun y1 =>
(match (!y1) with
| true => k false
| false => F15 R a0 a1 fun y2 =>
(match y2 with
| true => k true
| false => let v3 : Int := (Int.tmod a2 (64 : Int));
let v4 : Int := (IntKind.i64.wrap v3);
let v5 : Int := (IntKind.i64.wrap ((1 : Int) + v4));
F16 R a1 v5 a0 fun y6 y7 y8 =>
let v9 : Bool := (y8 != (0 : Int));
(match v9 with
| true => let v10 : Bool := (y6 == (0 : Int));
k v10
| false => let v11 : Bool := (decide (y6 ≥ (0 : Int)));
(match v11 with
| true => let v12 : Int := (List.length a0 : Int);
let v13 : Bool := (decide (y6 < v12));
(match v13 with
| true => (match (bnd y6 (List.length a0 : Int)) with
| true => let v14 : Int := (List.getD a0 (Int.toNat y6) (0 : Int));
let v15 : Bool := (decide (v14 > (0 : Int)));
(match v15 with
| true => let v16 : Bool := (decide (y7.2.2.2.2.2.1 ≥ a1.2.2.2.2.2.1));
k v16
| false => k false)
| false => none)
| false => k false)
| false => k false))))
theorem q4 (F8 : FT8) (F15 : FT15) (F16 : FT16) (F : FT4) (R : Type) (x : AT (en4 F).ins) (k : RT (en4 F).outs → PT (en4 F).ins → Option R) :
  xfun (e4 F8 F15 F16 R) (codeOf Try.f4) res4 (avs (en4 F).ins x) (finK (en4 F).outs (en4 F).ins k) = p4 F8 F15 F16 R x.1 x.2.1 x.2.2.1 (fun y1 => k (y1, ()) ()) := by kernel_rfl
noncomputable def F4 : FT4 := p4 F8 F15 F16
theorem env4 (R : Type) : EnvOK Try.prog (e4 F8 F15 F16 R) := ⟨tabOK, eqOK, callOf_ok (allE_cons ok8 (allE_cons ok15 (allE_cons ok16 allE_nil))), noIns, inlOK_nil⟩
theorem ok4 : (en4 F4).OK Try.prog :=
  ent_ok (Ef := fun R => e4 F8 F15 F16 R) (fun R => env4 R) mixed Try.func4 (body := codeOf Try.f4) (by kernel_rfl) (by kernel_rfl) (np := 0) (nt := 52) (fun _ => rfl) (fun _ => rfl) (by kernel_rfl) (res := res4) (by kernel_rfl) (fun _ => rfl) (fun _ => Nat.le_of_ble_eq_true rfl) (by
    intro R
    rw [show loopsOf (codeOf Try.f4) = [] from by kernel_rfl]
    exact allM_nil) (fun R x k => q4 F8 F15 F16 F4 R x k)
abbrev FT52 : Type 1 := (R : Type) → Tq17 → Int → (Bool → Option R) → Option R
def p52 : FT52 := fun R a0 a1 k =>
let v1 : Bool := (decide (a1 ≥ (0 : Int)));
(match v1 with
| true => let v2 : Bool := (decide (a1 < (1024 : Int)));
(match v2 with
| true => let v3 : Bool := (decide (a0.2.1 > (0 : Int)));
(match v3 with
| true => let v4 : Bool := (decide (a0.2.1 ≤ (64 : Int)));
k v4
| false => k false)
| false => k false)
| false => k false)
noncomputable def F52 : FT52 := p52
abbrev FT66 : Type 1 := (R : Type) → (List Int) → ((List Int) → Option R) → Option R
def F66 : FT66 := fun R a0 k => match decide (List.length ([] : (List Int)) + List.length a0 ≤ 17592186044416) with | true => k a0 | false => none
abbrev FT67 : Type 1 := (R : Type) → Int → (Int → Option R) → Option R
def p67 : FT67 := fun R a0 k =>
let v1 : Int := (IntKind.i64.wrap (0 - a0));
let v2 : Int := (iand .i64 a0 v1);
k v2
noncomputable def F67 : FT67 := p67
abbrev FT38 : Type 1 := (R : Type) → (List Int) → (((List Int) × Unit) → Int → Option R) → Option R
abbrev LT38_8 : Type 1 := (R : Type) → Int → ((List Int) × Unit) → (List Int) → (((List Int) × Unit) → (List Int) → Option R) → Option R
def p38_8 (F67 : FT67) : (R : Type) → Int → ((List Int) × Unit) → (List Int) → (Int → ((List Int) × Unit) → (List Int) → Option R) → (((List Int) × Unit) → (List Int) → Option R) → Option R := fun R x1 x2 x3 kc k0 =>
let v4 : Int := (List.length x3 : Int);
let v5 : Bool := (decide (x1 ≤ v4));
(match v5 with
| true => F67 R x1 fun y6 =>
let v7 : Int := (IntKind.i64.wrap (x1 + y6));
let v8 : Int := (List.length x3 : Int);
let v9 : Bool := (decide (v7 ≤ v8));
(match v9 with
| true => let v10 : Int := (IntKind.i64.wrap (v7 - (1 : Int)));
(match (bnd v10 (List.length x3 : Int)) with
| true => let v11 : Int := (List.getD x3 (Int.toNat v10) (0 : Int));
let v12 : Int := (IntKind.i64.wrap (x1 - (1 : Int)));
(match (bnd v12 (List.length x3 : Int)) with
| true => let v13 : Int := (List.getD x3 (Int.toNat v12) (0 : Int));
let v14 : Int := (IntKind.u64.wrap (v11 + v13));
(match (bnd v10 (List.length x3 : Int)) with
| true => let v15 : (List Int) := (List.set x3 (Int.toNat v10) v14);
let v16 : Int := (IntKind.i64.wrap (x1 + (1 : Int)));
kc v16 x2 v15
| false => none)
| false => none)
| false => none)
| false => let v17 : Int := (IntKind.i64.wrap (x1 + (1 : Int)));
kc v17 x2 x3)
| false => k0 x2 x3)
noncomputable def G38_8 : Nat → LT38_8
  | 0 => fun _ _ _ _ _ => none
  | n + 1 => fun R x1 x2 x3 k0 => p38_8 F67 R x1 x2 x3 (fun x1 x2 x3 => G38_8 n R x1 x2 x3 k0) k0
def p38 (F65 : FT65) (F66 : FT66) (L8 : LT38_8) : FT38 := fun R a0 k =>
let v1 : Int := (List.length a0 : Int);
let v2 : Bool := (decide (v1 > (1048576 : Int)));
(match v2 with
| true => k (([] : (List Int)), ()) (14 : Int)
| false => F65 R a0 fun y3 y4 =>
(match (!y4) with
| true => k (([] : (List Int)), ()) (11 : Int)
| false => F66 R a0 fun y5 =>
L8 R (1 : Int) (([] : (List Int)), ()) y5 (fun x6 x7 =>
k (x7, ()) (0 : Int))))
noncomputable def F38 : FT38 := p38 F65 F66 (G38_8 FUEL)
abbrev FT100 : Type 1 := (R : Type) → Int → Int → (Int → Option R) → Option R
def p100 : FT100 := fun R a0 a1 k =>
let v1 : Int := (IntKind.u64.wrap a0);
let v2 : Int := (ishl .u64 v1 (32 : Int));
let v3 : Int := (IntKind.u64.wrap a1);
let v4 : Int := (ior .u64 v2 v3);
k v4
noncomputable def F100 : FT100 := p100
abbrev FT99 : Type 1 := (R : Type) → (List Int) → Int → (Tq6 → Option R) → Option R
def p99 : FT99 := fun R a0 a1 k =>
k ((2 : Int), ([] : (List Int)), (0 : Int), a0, a1, (0 : Int), ())
noncomputable def F99 : FT99 := p99
abbrev FT80 : Type 1 := (R : Type) → Tq17 → Int → Int → (Tq6 → Option R) → Option R
def p80 (F99 : FT99) (F100 : FT100) : FT80 := fun R a0 a1 a2 k =>
let v1 : Int := (IntKind.u32.wrap a2);
F100 R a1 v1 fun y2 =>
F99 R a0.1 y2 fun y3 =>
k y3
noncomputable def F80 : FT80 := p80 F99 F100
abbrev FT97 : Type 1 := (R : Type) → ((List Int) × Unit) → (Int → Option R) → Option R
def p97 : FT97 := fun R a0 k =>
let v1 : Int := (List.length a0.1 : Int);
k v1
noncomputable def F97 : FT97 := p97
abbrev FT96 : Type 1 := (R : Type) → ((List Int) × Unit) → Int → (Int → Option R) → Option R
abbrev LT96_1 : Type 1 := (R : Type) → Int → Int → ((List Int) × Unit) → (Int → Option R) → Option R
def p96_1 (F67 : FT67) : (R : Type) → Int → Int → ((List Int) × Unit) → (Int → Int → ((List Int) × Unit) → Option R) → (Int → Option R) → Option R := fun R x1 x2 x3 kc k0 =>
let v4 : Bool := (decide (x1 > (0 : Int)));
(match v4 with
| true => let v5 : Int := (IntKind.i64.wrap (x1 - (1 : Int)));
(match (bnd v5 (List.length x3.1 : Int)) with
| true => let v6 : Int := (List.getD x3.1 (Int.toNat v5) (0 : Int));
let v7 : Int := (IntKind.u64.wrap (x2 + v6));
F67 R x1 fun y8 =>
let v9 : Int := (IntKind.i64.wrap (x1 - y8));
kc v9 v7 x3
| false => none)
| false => k0 x2)
noncomputable def G96_1 : Nat → LT96_1
  | 0 => fun _ _ _ _ _ => none
  | n + 1 => fun R x1 x2 x3 k0 => p96_1 F67 R x1 x2 x3 (fun x1 x2 x3 => G96_1 n R x1 x2 x3 k0) k0
def p96 (L1 : LT96_1) : FT96 := fun R a0 a1 k =>
L1 R a1 (0 : Int) a0 (fun x1 =>
k x1)
noncomputable def F96 : FT96 := p96 (G96_1 FUEL)
abbrev FT76 : Type 1 := (R : Type) → ((List Int) × Unit) → (Int → Option R) → Option R
def p76 (F96 : FT96) (F97 : FT97) : FT76 := fun R a0 k =>
F97 R a0 fun y1 =>
F96 R a0 y1 fun y2 =>
k y2
noncomputable def F76 : FT76 := p76 F96 F97
abbrev FT77 : Type 1 := (R : Type) → ((List Int) × Unit) → Int → (Int → Int → Option R) → Option R
abbrev LT77_4 : Type 1 := (R : Type) → Int → Int → Int → ((List Int) × Unit) → (Int → Int → Int → ((List Int) × Unit) → Option R) → Option R
abbrev LT77_6 : Type 1 := (R : Type) → Int → Int → Int → ((List Int) × Unit) → (Int → Option R) → Option R
def p77_4 (F97 : FT97) : (R : Type) → Int → Int → Int → ((List Int) × Unit) → (Int → Int → Int → ((List Int) × Unit) → Option R) → (Int → Int → Int → ((List Int) × Unit) → Option R) → Option R := fun R x1 x2 x3 x4 kc k0 =>
let v5 : Int := (ishl .i64 x3 (1 : Int));
F97 R x4 fun y6 =>
let v7 : Bool := (decide (v5 ≤ y6));
(match v7 with
| true => let v8 : Int := (ishl .i64 x3 (1 : Int));
kc x1 x2 v8 x4
| false => k0 x1 x2 x3 x4)
noncomputable def G77_4 : Nat → LT77_4
  | 0 => fun _ _ _ _ _ _ => none
  | n + 1 => fun R x1 x2 x3 x4 k0 => p77_4 F97 R x1 x2 x3 x4 (fun x1 x2 x3 x4 => G77_4 n R x1 x2 x3 x4 k0) k0
def p77_6 (F97 : FT97) : (R : Type) → Int → Int → Int → ((List Int) × Unit) → (Int → Int → Int → ((List Int) × Unit) → Option R) → (Int → Option R) → Option R := fun R x1 x2 x3 x4 kc k0 =>
let v5 : Bool := (decide (x3 > (0 : Int)));
(match v5 with
| true => let v6 : Int := (IntKind.i64.wrap (x2 + x3));
F97 R x4 fun y7 =>
let v8 : Bool := (decide (v6 ≤ y7));
(match v8 with
| true => let v9 : Int := (IntKind.i64.wrap (v6 - (1 : Int)));
(match (bnd v9 (List.length x4.1 : Int)) with
| true => let v10 : Int := (List.getD x4.1 (Int.toNat v9) (0 : Int));
let v11 : Bool := (decide (v10 ≤ x1));
(match v11 with
| true => let v12 : Int := (IntKind.i64.wrap (v6 - (1 : Int)));
(match (bnd v12 (List.length x4.1 : Int)) with
| true => let v13 : Int := (List.getD x4.1 (Int.toNat v12) (0 : Int));
let v14 : Int := (IntKind.u64.wrap (x1 - v13));
let v15 : Int := (ishr .i64 x3 (1 : Int));
kc v14 v6 v15 x4
| false => none)
| false => let v16 : Int := (ishr .i64 x3 (1 : Int));
kc x1 x2 v16 x4)
| false => none)
| false => let v17 : Int := (ishr .i64 x3 (1 : Int));
kc x1 x2 v17 x4)
| false => k0 x2)
noncomputable def G77_6 : Nat → LT77_6
  | 0 => fun _ _ _ _ _ _ => none
  | n + 1 => fun R x1 x2 x3 x4 k0 => p77_6 F97 R x1 x2 x3 x4 (fun x1 x2 x3 x4 => G77_6 n R x1 x2 x3 x4 k0) k0
def p77 (F76 : FT76) (L4 : LT77_4) (L6 : LT77_6) : FT77 := fun R a0 a1 k =>
F76 R a0 fun y1 =>
let v2 : Bool := (decide (a1 ≥ y1));
(match v2 with
| true => k (0 : Int) (3 : Int)
| false => L4 R a1 (0 : Int) (1 : Int) a0 (fun x3 x4 x5 x6 =>
L6 R x3 x4 x5 x6 (fun x7 =>
k x7 (0 : Int))))
noncomputable def F77 : FT77 := p77 F76 (G77_4 FUEL) (G77_6 FUEL)
abbrev FT47 : Type 1 := (R : Type) → ((List Int) × Unit) → Tq6 → Int → (Int → Tq6 → Int → Option R) → Option R
def p47 (F34 : FT34) (F76 : FT76) (F77 : FT77) : FT47 := fun R a0 a1 a2 k =>
F76 R a0 fun y1 =>
let v2 : Bool := (y1 == (0 : Int));
(match v2 with
| true => k (0 : Int) a1 (10 : Int)
| false => F34 R a1 y1 a2 fun y3 y4 y5 =>
let v6 : Bool := (y5 != (0 : Int));
(match v6 with
| true => k (0 : Int) y4 y5
| false => F77 R a0 y3 fun y7 y8 =>
k y7 y4 y8))
noncomputable def F47 : FT47 := p47 F34 F76 F77
abbrev FT53 : Type 1 := (R : Type) → Tq17 → ((List Int) × Unit) → Int → (Int → Int → Option R) → Option R
def p53 (F47 : FT47) (F80 : FT80) : FT53 := fun R a0 a1 a2 k =>
F80 R a0 (1 : Int) a2 fun y1 =>
F47 R a1 y1 a0.2.1 fun y2 y3 y4 =>
k y2 y4
noncomputable def F53 : FT53 := p53 F47 F80
abbrev FT27 : Type 1 := (R : Type) → (List Int) → Int → Int → (List Int) → (Int → Int → Option R) → Option R
def en27 (F : FT27) : Ent := ⟨27, [(false, (.arr 32 (.int .u8))), (false, (.int .i64)), (false, (.int .i64)), (false, (.sl (.int .u64)))], [(false, (.int .i64)), (false, (.int .i64))], fun R x k => F R x.1 x.2.1 x.2.2.1 x.2.2.2.1 (fun y1 y2 => k (y1, y2, ()) ())⟩
def p27 (F38 : FT38) (F52 : FT52) (F53 : FT53) : FT27 := fun R a0 a1 a2 a3 k =>
F52 R (a0, a2, ()) a1 fun y1 =>
(match (!y1) with
| true => k (0 : Int) (1 : Int)
| false => F38 R a3 fun y2 y3 =>
let v4 : Bool := (y3 != (0 : Int));
(match v4 with
| true => k (0 : Int) y3
| false => F53 R (a0, a2, ()) y2 a1 fun y5 y6 =>
k y5 y6))
noncomputable def F27 : FT27 := p27 F38 F52 F53
abbrev FT26 : Type 1 := (R : Type) → (List Int) → Int → Int → (List Int) → ((List Int) → Int → Option R) → Option R
def en26 (F : FT26) : Ent := ⟨26, [(false, (.arr 32 (.int .u8))), (false, (.int .i64)), (false, (.int .i64)), (false, (.sl (.int .u64)))], [(false, (.sl (.int .i64))), (false, (.int .i64))], fun R x k => F R x.1 x.2.1 x.2.2.1 x.2.2.2.1 (fun y1 y2 => k (y1, y2, ()) ())⟩
abbrev LT26_9 : Type 1 := (R : Type) → Int → Int → Tq17 → ((List Int) × Unit) → (List Int) → ((List Int) → Option R) → Option R
def p26_9 (F53 : FT53) : (R : Type) → Int → Int → Tq17 → ((List Int) × Unit) → (List Int) → (Int → Int → Tq17 → ((List Int) × Unit) → (List Int) → Option R) → ((List Int) → Option R) → Option R := fun R x1 x2 x3 x4 x5 kc k0 =>
let v6 : Bool := (decide (x2 < x1));
(match v6 with
| true => F53 R x3 x4 x2 fun y7 y8 =>
(match (bnd x2 (List.length x5 : Int)) with
| true => let v9 : (List Int) := (List.set x5 (Int.toNat x2) y7);
let v10 : Bool := (y8 != (0 : Int));
(match v10 with
| true => (match (bnd x2 (List.length v9 : Int)) with
| true => let v11 : (List Int) := (List.set v9 (Int.toNat x2) (-1 : Int));
let v12 : Int := (IntKind.i64.wrap (x2 + (1 : Int)));
kc x1 v12 x3 x4 v11
| false => none)
| false => let v13 : Int := (IntKind.i64.wrap (x2 + (1 : Int)));
kc x1 v13 x3 x4 v9)
| false => none)
| false => k0 x5)
noncomputable def G26_9 : Nat → LT26_9
  | 0 => fun _ _ _ _ _ _ _ => none
  | n + 1 => fun R x1 x2 x3 x4 x5 k0 => p26_9 F53 R x1 x2 x3 x4 x5 (fun x1 x2 x3 x4 x5 => G26_9 n R x1 x2 x3 x4 x5 k0) k0
def p26 (F38 : FT38) (F52 : FT52) (L9 : LT26_9) : FT26 := fun R a0 a1 a2 a3 k =>
let v1 : Bool := (decide (a1 < (1 : Int)));
(match v1 with
| true => k ([] : (List Int)) (1 : Int)
| false => let v2 : Int := (IntKind.i64.wrap (a1 - (1 : Int)));
F52 R (a0, a2, ()) v2 fun y3 =>
(match (!y3) with
| true => k ([] : (List Int)) (1 : Int)
| false => F38 R a3 fun y4 y5 =>
let v6 : Bool := (y5 != (0 : Int));
(match v6 with
| true => k ([] : (List Int)) y5
| false => (match (decide (0 ≤ a1 ∧ a1 ≤ a1 ∧ a1 ≤ (17592186044416 : Int))) with
| true => let v7 : (List Int) := (List.replicate (Int.toNat a1) (0 : Int));
let v8 : Int := (List.length v7 : Int);
L9 R v8 (0 : Int) (a0, a2, ()) y4 v7 (fun x9 =>
k x9 (0 : Int))
| false => none))))
noncomputable def F26 : FT26 := p26 F38 F52 (G26_9 FUEL)
abbrev FT50 : Type 1 := (R : Type) → (List Int) → Int → Int → (List Int) → (Int → Int → Option R) → Option R
def p50 (F16 : FT16) (F52 : FT52) (F80 : FT80) : FT50 := fun R a0 a1 a2 a3 k =>
F52 R (a0, a2, ()) a1 fun y1 =>
(match (!y1) with
| true => k (0 : Int) (1 : Int)
| false => F80 R (a0, a2, ()) (2 : Int) a1 fun y2 =>
F16 R y2 a2 a3 fun y3 y4 y5 =>
k y3 y5)
noncomputable def F50 : FT50 := p50 F16 F52 F80
abbrev FT44 : Type 1 := (R : Type) → Int → Tq6 → Int → (Bool → Option R) → Option R
def p44 (F75 : FT75) : FT44 := fun R a0 a1 a2 k =>
let v1 : Bool := (decide (a0 ≥ (0 : Int)));
(match v1 with
| true => let v2 : Bool := (decide (a0 ≤ (256 : Int)));
(match v2 with
| true => F75 R a1 fun y3 =>
(match y3 with
| true => let v4 : Bool := (decide (a2 > (0 : Int)));
(match v4 with
| true => let v5 : Bool := (decide (a2 ≤ (64 : Int)));
k v5
| false => k false)
| false => k false)
| false => k false)
| false => k false)
noncomputable def F44 : FT44 := p44 F75
abbrev FT46 : Type 1 := (R : Type) → ((List Int) × Unit) → ((List Int) → Option R) → Option R
abbrev LT46_3 : Type 1 := (R : Type) → Int → (List Int) → ((List Int) → Option R) → Option R
def p46_3 (F67 : FT67) : (R : Type) → Int → (List Int) → (Int → (List Int) → Option R) → ((List Int) → Option R) → Option R := fun R x1 x2 kc k0 =>
let v3 : Bool := (decide (x1 > (0 : Int)));
(match v3 with
| true => F67 R x1 fun y4 =>
let v5 : Int := (IntKind.i64.wrap (x1 + y4));
let v6 : Int := (List.length x2 : Int);
let v7 : Bool := (decide (v5 ≤ v6));
(match v7 with
| true => let v8 : Int := (IntKind.i64.wrap (v5 - (1 : Int)));
(match (bnd v8 (List.length x2 : Int)) with
| true => let v9 : Int := (List.getD x2 (Int.toNat v8) (0 : Int));
let v10 : Int := (IntKind.i64.wrap (x1 - (1 : Int)));
(match (bnd v10 (List.length x2 : Int)) with
| true => let v11 : Int := (List.getD x2 (Int.toNat v10) (0 : Int));
let v12 : Int := (IntKind.u64.wrap (v9 - v11));
(match (bnd v8 (List.length x2 : Int)) with
| true => let v13 : (List Int) := (List.set x2 (Int.toNat v8) v12);
let v14 : Int := (IntKind.i64.wrap (x1 - (1 : Int)));
kc v14 v13
| false => none)
| false => none)
| false => none)
| false => let v15 : Int := (IntKind.i64.wrap (x1 - (1 : Int)));
kc v15 x2)
| false => k0 x2)
noncomputable def G46_3 : Nat → LT46_3
  | 0 => fun _ _ _ _ => none
  | n + 1 => fun R x1 x2 k0 => p46_3 F67 R x1 x2 (fun x1 x2 => G46_3 n R x1 x2 k0) k0
def p46 (F66 : FT66) (L3 : LT46_3) : FT46 := fun R a0 k =>
F66 R a0.1 fun y1 =>
let v2 : Int := (List.length y1 : Int);
L3 R v2 y1 (fun x3 =>
k x3)
noncomputable def F46 : FT46 := p46 F66 (G46_3 FUEL)
abbrev FT45 : Type 1 := (R : Type) → (List Int) → (Int → Option R) → Option R
abbrev LT45_2 : Type 1 := (R : Type) → Int → (List Int) → Int → Int → (Int → Option R) → Option R
def p45_2 : (R : Type) → Int → (List Int) → Int → Int → (Int → (List Int) → Int → Int → Option R) → (Int → Option R) → Option R := fun R x1 x2 x3 x4 kc k0 =>
let v5 : Bool := (decide (x4 < x3));
(match v5 with
| true => (match (bnd x4 (List.length x2 : Int)) with
| true => let v6 : Int := (List.getD x2 (Int.toNat x4) (0 : Int));
let v7 : Bool := (decide (v6 > (0 : Int)));
(match v7 with
| true => let v8 : Int := (IntKind.i64.wrap (x1 + (1 : Int)));
let v9 : Int := (IntKind.i64.wrap (x4 + (1 : Int)));
kc v8 x2 x3 v9
| false => let v10 : Int := (IntKind.i64.wrap (x4 + (1 : Int)));
kc x1 x2 x3 v10)
| false => none)
| false => k0 x1)
noncomputable def G45_2 : Nat → LT45_2
  | 0 => fun _ _ _ _ _ _ => none
  | n + 1 => fun R x1 x2 x3 x4 k0 => p45_2 R x1 x2 x3 x4 (fun x1 x2 x3 x4 => G45_2 n R x1 x2 x3 x4 k0) k0
def p45 (L2 : LT45_2) : FT45 := fun R a0 k =>
let v1 : Int := (List.length a0 : Int);
L2 R (0 : Int) a0 v1 (0 : Int) (fun x2 =>
k x2)
noncomputable def F45 : FT45 := p45 (G45_2 FUEL)
abbrev FT78 : Type 1 := (R : Type) → ((List Int) × Unit) → Int → (Int → Int → Option R) → Option R
def p78 (F96 : FT96) (F97 : FT97) : FT78 := fun R a0 a1 k =>
let v1 : Bool := (decide (a1 < (0 : Int)));
(match v1 with
| true => k (0 : Int) (3 : Int)
| false => F97 R a0 fun y2 =>
let v3 : Bool := (decide (a1 ≥ y2));
(match v3 with
| true => k (0 : Int) (3 : Int)
| false => let v4 : Int := (IntKind.i64.wrap (a1 + (1 : Int)));
F96 R a0 v4 fun y5 =>
F96 R a0 a1 fun y6 =>
let v7 : Int := (IntKind.u64.wrap (y5 - y6));
k v7 (0 : Int)))
noncomputable def F78 : FT78 := p78 F96 F97
abbrev FT48 : Type 1 := (R : Type) → ((List Int) × Unit) → Int → Int → (((List Int) × Unit) → Int → Option R) → Option R
abbrev LT48_9 : Type 1 := (R : Type) → Int → Int → Int → ((List Int) × Unit) → (List Int) → (((List Int) × Unit) → (List Int) → Option R) → Option R
def p48_9 (F67 : FT67) : (R : Type) → Int → Int → Int → ((List Int) × Unit) → (List Int) → (Int → Int → Int → ((List Int) × Unit) → (List Int) → Option R) → (((List Int) × Unit) → (List Int) → Option R) → Option R := fun R x1 x2 x3 x4 x5 kc k0 =>
let v6 : Int := (List.length x5 : Int);
let v7 : Bool := (decide (x3 ≤ v6));
(match v7 with
| true => let v8 : Int := (IntKind.i64.wrap (x3 - (1 : Int)));
let v9 : Int := (IntKind.i64.wrap (x3 - (1 : Int)));
(match (bnd v9 (List.length x5 : Int)) with
| true => let v10 : Int := (List.getD x5 (Int.toNat v9) (0 : Int));
let v11 : Int := (IntKind.u64.wrap (v10 - x2));
let v12 : Int := (IntKind.u64.wrap (v11 + x1));
(match (bnd v8 (List.length x5 : Int)) with
| true => let v13 : (List Int) := (List.set x5 (Int.toNat v8) v12);
F67 R x3 fun y14 =>
let v15 : Int := (IntKind.i64.wrap (x3 + y14));
kc x1 x2 v15 x4 v13
| false => none)
| false => none)
| false => k0 x4 x5)
noncomputable def G48_9 : Nat → LT48_9
  | 0 => fun _ _ _ _ _ _ _ => none
  | n + 1 => fun R x1 x2 x3 x4 x5 k0 => p48_9 F67 R x1 x2 x3 x4 x5 (fun x1 x2 x3 x4 x5 => G48_9 n R x1 x2 x3 x4 x5 k0) k0
def p48 (F66 : FT66) (F76 : FT76) (F78 : FT78) (F79 : FT79) (L9 : LT48_9) : FT48 := fun R a0 a1 a2 k =>
F78 R a0 a1 fun y1 y2 =>
let v3 : Bool := (y2 != (0 : Int));
(match v3 with
| true => k (([] : (List Int)), ()) y2
| false => F76 R a0 fun y4 =>
let v5 : Int := (IntKind.u64.wrap (y4 - y1));
F79 R v5 a2 fun y6 y7 =>
(match (!y7) with
| true => k (([] : (List Int)), ()) (11 : Int)
| false => F66 R a0.1 fun y8 =>
let v9 : Int := (IntKind.i64.wrap (a1 + (1 : Int)));
L9 R a2 y1 v9 (([] : (List Int)), ()) y8 (fun x10 x11 =>
k (x11, ()) (0 : Int))))
noncomputable def F48 : FT48 := p48 F66 F76 F78 F79 (G48_9 FUEL)
abbrev FT22 : Type 1 := (R : Type) → ((List Int) × Unit) → Int → Tq6 → Int → ((List Int) → Tq6 → Int → Option R) → Option R
abbrev LT22_5 : Type 1 := (R : Type) → Int → Int → ((List Int) × Unit) → Tq6 → (List Int) → Tq6 → (Int → Tq6 → Option R) → (Tq6 → (List Int) → Tq6 → Option R) → Option R
def p22_5 (F47 : FT47) (F48 : FT48) : (R : Type) → Int → Int → ((List Int) × Unit) → Tq6 → (List Int) → Tq6 → (Int → Int → ((List Int) × Unit) → Tq6 → (List Int) → Tq6 → Option R) → (Int → Tq6 → Option R) → (Tq6 → (List Int) → Tq6 → Option R) → Option R := fun R x1 x2 x3 x4 x5 x6 kc k0 k1 =>
let v7 : Int := (List.length x5 : Int);
let v8 : Bool := (decide (v7 < x1));
(match v8 with
| true => F47 R x3 x4 x2 fun y9 y10 y11 =>
let v12 : Bool := (y11 != (0 : Int));
(match v12 with
| true => k0 y11 y10
| false => let v13 : (List Int) := ([y9] : (List Int));
(match (decide (List.length x5 + List.length v13 ≤ 17592186044416)) with
| true => let v14 : (List Int) := (x5 ++ v13);
F48 R x3 y9 (0 : Int) fun y15 y16 =>
let v17 : Bool := (y16 != (0 : Int));
(match v17 with
| true => k0 y16 y10
| false => kc x1 x2 y15 y10 v14 x6)
| false => none))
| false => k1 x4 x5 x6)
noncomputable def G22_5 : Nat → LT22_5
  | 0 => fun _ _ _ _ _ _ _ _ _ => none
  | n + 1 => fun R x1 x2 x3 x4 x5 x6 k0 k1 => p22_5 F47 F48 R x1 x2 x3 x4 x5 x6 (fun x1 x2 x3 x4 x5 x6 => G22_5 n R x1 x2 x3 x4 x5 x6 k0 k1) k0 k1
def p22 (F44 : FT44) (F45 : FT45) (F46 : FT46) (L5 : LT22_5) : FT22 := fun R a0 a1 a2 a3 k =>
F44 R a1 a2 a3 fun y1 =>
(match (!y1) with
| true => k ([] : (List Int)) a2 (1 : Int)
| false => F46 R a0 fun y2 =>
F45 R y2 fun y3 =>
let v4 : Bool := (decide (y3 < a1));
(match v4 with
| true => k ([] : (List Int)) a2 (12 : Int)
| false => L5 R a1 a3 a0 a2 ([] : (List Int)) ((0 : Int), ([] : (List Int)), (0 : Int), (List.replicate 32 (0 : Int)), (0 : Int), (0 : Int), ()) (fun x5 x6 =>
k ([] : (List Int)) x6 x5) (fun x7 x8 x9 =>
k x8 x7 (0 : Int))))
noncomputable def F22 : FT22 := p22 F44 F45 F46 (G22_5 FUEL)
abbrev FT18 : Type 1 := (R : Type) → Int → Tq6 → Int → (List Int) → ((List Int) → Tq6 → Int → Option R) → Option R
def p18 (F22 : FT22) (F38 : FT38) : FT18 := fun R a0 a1 a2 a3 k =>
F38 R a3 fun y1 y2 =>
let v3 : Bool := (y2 != (0 : Int));
(match v3 with
| true => k ([] : (List Int)) a1 y2
| false => F22 R y1 a0 a1 a2 fun y4 y5 y6 =>
k y4 y5 y6)
noncomputable def F18 : FT18 := p18 F22 F38
abbrev FT51 : Type 1 := (R : Type) → (List Int) → Int → Int → Int → (List Int) → ((List Int) → Int → Option R) → Option R
def p51 (F18 : FT18) (F52 : FT52) (F80 : FT80) : FT51 := fun R a0 a1 a2 a3 a4 k =>
F52 R (a0, a3, ()) a1 fun y1 =>
(match (!y1) with
| true => k ([] : (List Int)) (1 : Int)
| false => F80 R (a0, a3, ()) (3 : Int) a1 fun y2 =>
F18 R a2 y2 a3 a4 fun y3 y4 y5 =>
k y3 y5)
noncomputable def F51 : FT51 := p51 F18 F52 F80
abbrev FT19 : Type 1 := (R : Type) → (List Int) → (List Int) → (Bool → Option R) → Option R
def en19 (F : FT19) : Ent := ⟨19, [(false, (.sl (.int .i64))), (false, (.sl (.int .i64)))], [(false, .bool)], fun R x k => F R x.1 x.2.1 (fun y1 => k (y1, ()) ())⟩
abbrev LT19_4 : Type 1 := (R : Type) → (List Int) → (List Int) → Int → (Bool → Option R) → (Option R) → Option R
def p19_4 : (R : Type) → (List Int) → (List Int) → Int → ((List Int) → (List Int) → Int → Option R) → (Bool → Option R) → (Option R) → Option R := fun R x1 x2 x3 kc k0 k1 =>
let v4 : Int := (List.length x1 : Int);
let v5 : Bool := (decide (x3 < v4));
(match v5 with
| true => (match (bnd x3 (List.length x1 : Int)) with
| true => let v6 : Int := (List.getD x1 (Int.toNat x3) (0 : Int));
(match (bnd x3 (List.length x2 : Int)) with
| true => let v7 : Int := (List.getD x2 (Int.toNat x3) (0 : Int));
let v8 : Bool := (v6 != v7);
(match v8 with
| true => k0 false
| false => let v9 : Int := (IntKind.i64.wrap (x3 + (1 : Int)));
kc x1 x2 v9)
| false => none)
| false => none)
| false => k1)
noncomputable def G19_4 : Nat → LT19_4
  | 0 => fun _ _ _ _ _ _ => none
  | n + 1 => fun R x1 x2 x3 k0 k1 => p19_4 R x1 x2 x3 (fun x1 x2 x3 => G19_4 n R x1 x2 x3 k0 k1) k0 k1
def p19 (L4 : LT19_4) : FT19 := fun R a0 a1 k =>
let v1 : Int := (List.length a0 : Int);
let v2 : Int := (List.length a1 : Int);
let v3 : Bool := (v1 != v2);
(match v3 with
| true => k false
| false => L4 R a0 a1 (0 : Int) (fun x4 =>
k x4) (k true))
noncomputable def F19 : FT19 := p19 (G19_4 FUEL)
abbrev FT25 : Type 1 := (R : Type) → (Bool → Option R) → Option R
def en25 (F : FT25) : Ent := ⟨25, [], [(false, .bool)], fun R x k => F R  (fun y1 => k (y1, ()) ())⟩
def p25 (F19 : FT19) (F26 : FT26) (F27 : FT27) (F50 : FT50) (F51 : FT51) : FT25 := fun R k =>
let v1 : (List Int) := (List.replicate 32 (0 : Int));
let v2 : (List Int) := ([(0 : Int), (1 : Int)] : (List Int));
F27 R v1 (3 : Int) (64 : Int) v2 fun y3 y4 =>
let v5 : (List Int) := (List.replicate 32 (0 : Int));
let v6 : (List Int) := ([(0 : Int), (1 : Int)] : (List Int));
F26 R v5 (3 : Int) (64 : Int) v6 fun y7 y8 =>
let v9 : (List Int) := (List.replicate 32 (0 : Int));
let v10 : (List Int) := ([(0 : Int), (1 : Int)] : (List Int));
F50 R v9 (3 : Int) (64 : Int) v10 fun y11 y12 =>
let v13 : (List Int) := (List.replicate 32 (0 : Int));
let v14 : (List Int) := ([(0 : Int), (9 : Int)] : (List Int));
F51 R v13 (3 : Int) (1 : Int) (64 : Int) v14 fun y15 y16 =>
let v17 : (List Int) := (List.replicate 32 (0 : Int));
let v18 : (List Int) := ([(1 : Int)] : (List Int));
F27 R v17 (1024 : Int) (64 : Int) v18 fun y19 y20 =>
let v21 : (List Int) := (List.replicate 32 (0 : Int));
let v22 : (List Int) := ([(0 : Int)] : (List Int));
F26 R v21 (2 : Int) (64 : Int) v22 fun y23 y24 =>
let v25 : (List Int) := (List.replicate 32 (0 : Int));
let v26 : (List Int) := ([(0 : Int)] : (List Int));
F27 R v25 (0 : Int) (64 : Int) v26 fun y27 y28 =>
let v29 : Bool := (y4 == (0 : Int));
(match v29 with
| true => let v30 : Bool := (y8 == (0 : Int));
(match v30 with
| true => let v31 : Bool := (y12 == (0 : Int));
(match v31 with
| true => let v32 : Bool := (y11 == (1 : Int));
(match v32 with
| true => let v33 : Bool := (y16 == (0 : Int));
(match v33 with
| true => let v34 : Bool := (y20 == (1 : Int));
(match v34 with
| true => let v35 : Bool := (y24 == (0 : Int));
(match v35 with
| true => let v36 : Bool := (y28 == (10 : Int));
(match v36 with
| true => let v37 : Bool := (y3 == (1 : Int));
(match v37 with
| true => let v38 : (List Int) := ([(1 : Int), (1 : Int), (1 : Int)] : (List Int));
F19 R y7 v38 fun y39 =>
(match y39 with
| true => let v40 : (List Int) := ([(1 : Int)] : (List Int));
F19 R y15 v40 fun y41 =>
(match y41 with
| true => let v42 : (List Int) := ([(-1 : Int), (-1 : Int)] : (List Int));
F19 R y23 v42 fun y43 =>
k y43
| false => k false)
| false => k false)
| false => k false)
| false => k false)
| false => k false)
| false => k false)
| false => k false)
| false => let v44 : Bool := (y12 == (9 : Int));
(match v44 with
| true => let v45 : Bool := (y16 == (0 : Int));
(match v45 with
| true => let v46 : Bool := (y20 == (1 : Int));
(match v46 with
| true => let v47 : Bool := (y24 == (0 : Int));
(match v47 with
| true => let v48 : Bool := (y28 == (10 : Int));
(match v48 with
| true => let v49 : Bool := (y3 == (1 : Int));
(match v49 with
| true => let v50 : (List Int) := ([(1 : Int), (1 : Int), (1 : Int)] : (List Int));
F19 R y7 v50 fun y51 =>
(match y51 with
| true => let v52 : (List Int) := ([(1 : Int)] : (List Int));
F19 R y15 v52 fun y53 =>
(match y53 with
| true => let v54 : (List Int) := ([(-1 : Int), (-1 : Int)] : (List Int));
F19 R y23 v54 fun y55 =>
k y55
| false => k false)
| false => k false)
| false => k false)
| false => k false)
| false => k false)
| false => k false)
| false => k false)
| false => k false))
| false => let v56 : Bool := (y12 == (9 : Int));
(match v56 with
| true => let v57 : Bool := (y16 == (0 : Int));
(match v57 with
| true => let v58 : Bool := (y20 == (1 : Int));
(match v58 with
| true => let v59 : Bool := (y24 == (0 : Int));
(match v59 with
| true => let v60 : Bool := (y28 == (10 : Int));
(match v60 with
| true => let v61 : Bool := (y3 == (1 : Int));
(match v61 with
| true => let v62 : (List Int) := ([(1 : Int), (1 : Int), (1 : Int)] : (List Int));
F19 R y7 v62 fun y63 =>
(match y63 with
| true => let v64 : (List Int) := ([(1 : Int)] : (List Int));
F19 R y15 v64 fun y65 =>
(match y65 with
| true => let v66 : (List Int) := ([(-1 : Int), (-1 : Int)] : (List Int));
F19 R y23 v66 fun y67 =>
k y67
| false => k false)
| false => k false)
| false => k false)
| false => k false)
| false => k false)
| false => k false)
| false => k false)
| false => k false))
| false => k false)
| false => k false)
noncomputable def F25 : FT25 := p25 F19 F26 F27 F50 F51
abbrev FT7 : Type 1 := (R : Type) → (List Int) → (List Int) → (List Int) → (Bool → Option R) → Option R
abbrev LT7_14 : Type 1 := (R : Type) → (List Int) → Int → (List Int) → Int → (List Int) → (Bool → Option R) → (Option R) → Option R
def le7_14 (L : LT7_14) : LEnt := ⟨14, [.val 2 (.sl (.int .u64)), .fix 3 (.ptr 0 [] (.arr 32 (.int .u8))), .val 7 (.int .i64), .val 9 (.sl (.int .i64)), .val 13 (.int .i64), .var 0 (.arr 32 (.int .u8)) false], 1, [(.ret, [.val 6 .bool]), (.exit 0, [])], fun R x ke => L R x.1 x.2.1 x.2.2.1 x.2.2.2.1 x.2.2.2.2.1 (fun y1 => ke.1 (y1, ())) (ke.2.1 ())⟩
noncomputable def e7 (F19 : FT19) (F25 : FT25) (F26 : FT26) (F27 : FT27) (L14 : LT7_14) (R : Type) : Env R := ⟨TT, EQT, 0, 131, ownOf [], callOf [en19 F19, en25 F25, en26 F26, en27 F27] R, loopOf [le7_14 L14] R, [], inlOf []⟩
def p7 (F19 : FT19) (F25 : FT25) (F26 : FT26) (L14 : LT7_14) : FT7 := fun R a0 a1 a2 k =>
F25 R  fun y1 =>
(match (!y1) with
| true => k false
| false => let v2 : Int := (List.length a2 : Int);
let v3 : Bool := (decide (v2 > (60 : Int)));
(match v3 with
| true => k true
| false => let v4 : Int := (List.getD a1 0 (0 : Int));
let v5 : Int := (Int.tmod v4 (12 : Int));
let v6 : Int := (IntKind.i64.wrap v5);
let v7 : Int := (IntKind.i64.wrap ((1 : Int) + v6));
let v8 : Int := (List.getD a1 1 (0 : Int));
let v9 : Int := (Int.tmod v8 (5 : Int));
let v10 : Int := (IntKind.i64.wrap v9);
let v11 : Int := (IntKind.i64.wrap (v7 + v10));
F26 R a0 v7 (64 : Int) a2 fun y12 y13 =>
F26 R a0 v11 (64 : Int) a2 fun y14 y15 =>
let v16 : Bool := (y13 != (0 : Int));
(match v16 with
| true => let v17 : Bool := (y15 == y13);
(match v17 with
| true => let v18 : Int := (List.length y12 : Int);
let v19 : Int := (List.length y14 : Int);
let v20 : Int := (IntKind.i64.wrap (v18 + v19));
let v21 : Bool := (v20 == (0 : Int));
k v21
| false => k false)
| false => let v22 : Bool := (y15 != (0 : Int));
(match v22 with
| true => k false
| false => let v23 : Int := (List.length y12 : Int);
let v24 : Bool := (v23 != v7);
(match v24 with
| true => k false
| false => let v25 : Int := (List.length y14 : Int);
let v26 : Bool := (v25 != v11);
(match v26 with
| true => k false
| false => (match (decide (0 ≤ (0 : Int) ∧ (0 : Int) ≤ v7 ∧ v7 ≤ v7 ∧ v7 ≤ (List.length y14 : Int))) with
| true => let v27 : (List Int) := (List.take (Int.toNat (v7 - (0 : Int))) (List.drop 0 y14));
F19 R y12 v27 fun y28 =>
(match (!y28) with
| true => k false
| false => L14 R a2 v7 y12 (0 : Int) a0 (fun x29 =>
k x29) (k true))
| false => none)))))))
end Go.PG
namespace Go.PG
end Go.PG
namespace Go.PG
def U32 (x : Int) : Prop := 0 ≤ x ∧ x < 4294967296
def U8 (x : Int) : Prop := 0 ≤ x ∧ x < 256
theorem ofInt_toNat32 {x : Int} (h : U32 x) : (BitVec.ofInt 32 x).toNat = x.toNat := by
  rw [BitVec.toNat_ofInt]
  unfold U32 at h
  have : x % ((2 ^ 32 : Nat) : Int) = x := by omega
  rw [this]
theorem wrap_bv32 (b : BitVec 32) : IntKind.u32.wrap ((b.toNat : Nat) : Int) = (b.toNat : Int) := by
  have := b.isLt
  exact wrap_u32 (by omega) (by omega)
theorem iand_u32 (a b : Int) : iand .u32 a b = ((BitVec.ofInt 32 a &&& BitVec.ofInt 32 b).toNat : Int) := wrap_bv32 _
theorem ior_u32 (a b : Int) : ior .u32 a b = ((BitVec.ofInt 32 a ||| BitVec.ofInt 32 b).toNat : Int) := wrap_bv32 _
theorem ixor_u32 (a b : Int) : ixor .u32 a b = ((BitVec.ofInt 32 a ^^^ BitVec.ofInt 32 b).toNat : Int) := wrap_bv32 _
theorem wrap_lt32 (a : Int) : U32 (IntKind.u32.wrap a) := by rw [wrap_u32_mod]; unfold U32; omega
theorem ofInt_natCast32 (b : BitVec 32) : BitVec.ofInt 32 ((b.toNat : Nat) : Int) = b := by
  rw [BitVec.ofInt_natCast, BitVec.ofNat_toNat, BitVec.setWidth_eq]
theorem choice_eq {a : Int} (b c : Int) (ha : U32 a) : ixor .u32 (iand .u32 a b) (iand .u32 (ixor .u32 4294967295 a) c) = ior .u32 (iand .u32 a b) (iand .u32 (IntKind.u32.wrap (4294967295 - a)) c) := by
  have h1 : IntKind.u32.wrap (4294967295 - a) = ixor .u32 4294967295 a := by
    rw [ixor_u32, wrap_u32 (by unfold U32 at ha; omega) (by unfold U32 at ha; omega)]
    have e : BitVec.ofInt 32 4294967295 = BitVec.allOnes 32 := by decide
    rw [e, BitVec.allOnes_xor, BitVec.toNat_not, ofInt_toNat32 ha]
    unfold U32 at ha
    omega
  rw [h1]
  simp only [iand_u32, ior_u32, ixor_u32, ofInt_natCast32]
  congr 2
  have e : BitVec.ofInt 32 4294967295 = BitVec.allOnes 32 := by decide
  rw [e]
  ext i hi
  simp only [BitVec.getElem_xor, BitVec.getElem_and, BitVec.getElem_or, BitVec.getElem_allOnes]
  cases (BitVec.ofInt 32 a)[i] <;> simp
theorem majority_eq (a b c : Int) : ixor .u32 (ixor .u32 (iand .u32 a b) (iand .u32 a c)) (iand .u32 b c) = ior .u32 (ior .u32 (iand .u32 a b) (iand .u32 a c)) (iand .u32 b c) := by
  simp only [iand_u32, ior_u32, ixor_u32, ofInt_natCast32]
  congr 2
  ext i hi
  simp
  cases (BitVec.ofInt 32 a)[i] <;> cases (BitVec.ofInt 32 b)[i] <;> cases (BitVec.ofInt 32 c)[i] <;> rfl
def rotS (x : Int) (r : Nat) : Int := x / 2 ^ r + (x % 2 ^ r) * 2 ^ (32 - r)
theorem two_pow_pos (r : Nat) : (0 : Int) < 2 ^ r := Int.pow_pos (by decide)
theorem rot_or {x : Int} (hx : U32 x) {r : Nat} (h0 : 0 < r) (hr : r < 32) : ior .u32 (ishr .u32 x r) (ishl .u32 x ((32 : Int) - r)) = rotS x r := by
  unfold U32 at hx
  obtain ⟨n, rfl⟩ : ∃ n : Nat, x = n := ⟨x.toNat, by omega⟩
  have hn : n < 2 ^ 32 := by omega
  have e1 : ishr .u32 (n : Int) r = ((n / 2 ^ r : Nat) : Int) := by
    unfold ishr
    rw [show IntKind.u32.bits = 32 from rfl, show ((r : Int).toNat) = r by simp, Nat.min_eq_left (by omega), Int.fdiv_eq_ediv_of_nonneg _ (by have := two_pow_pos r; omega)]
    simp
  have e2 : ishl .u32 (n : Int) ((32 : Int) - r) = ((n * 2 ^ (32 - r) % 2 ^ 32 : Nat) : Int) := by
    unfold ishl
    rw [show IntKind.u32.bits = 32 from rfl, show ((32 : Int) - r).toNat = 32 - r by omega, Nat.min_eq_left (by omega), wrap_u32_mod]
    simp
  rw [e1, e2, ior_u32, BitVec.ofInt_natCast, BitVec.ofInt_natCast, BitVec.toNat_or, BitVec.toNat_ofNat, BitVec.toNat_ofNat]
  have hd : n / 2 ^ r < 2 ^ (32 - r) := by
    rw [Nat.div_lt_iff_lt_mul (Nat.two_pow_pos r), ← Nat.pow_add, show 32 - r + r = 32 by omega]; exact hn
  have h3 : n * 2 ^ (32 - r) % 2 ^ 32 = (n % 2 ^ r) * 2 ^ (32 - r) := by
    have : 2 ^ 32 = 2 ^ r * 2 ^ (32 - r) := by rw [← Nat.pow_add, show r + (32 - r) = 32 by omega]
    rw [this, Nat.mul_mod_mul_right]
  have h4 : n / 2 ^ r < 2 ^ 32 := Nat.lt_of_le_of_lt (Nat.div_le_self _ _) hn
  rw [h3, Nat.mod_eq_of_lt h4, Nat.mod_eq_of_lt (by
    have : n % 2 ^ r < 2 ^ r := Nat.mod_lt _ (Nat.two_pow_pos r)
    have h5 : 2 ^ 32 = 2 ^ r * 2 ^ (32 - r) := by rw [← Nat.pow_add, show r + (32 - r) = 32 by omega]
    rw [h5]; exact Nat.mul_lt_mul_of_pos_right this (Nat.two_pow_pos _)), Nat.or_comm]
  have h6 := Nat.shiftLeft_add_eq_or_of_lt hd (n % 2 ^ r)
  rw [Nat.shiftLeft_eq] at h6
  rw [← h6]
  unfold rotS
  simp
  omega
end Go.PG
namespace Go.PG
theorem F134_eq (R : Type) {x : Int} (hx : U32 x) {r : Nat} (h0 : 0 < r) (hr : r < 32) (k : Int → Option R) : F134 R x (r : Int) k = k (rotS x r) := by
  simp only [F134, p134]
  rw [wrap_u64 (n := (r : Int)) (by omega) (by omega), Int.tmod_eq_of_lt (by omega) (by omega), wrap_u64 (by omega) (by omega)]
  rw [show decide (0 ≤ (r : Int)) = true by simp, show decide (0 ≤ (32 : Int) - r) = true by simp; omega]
  simp only
  rw [rot_or hx h0 hr]
def shrS (x : Int) (r : Nat) : Int := x / 2 ^ r
theorem shr_eq {x : Int} (hx : U32 x) {r : Nat} (hr : r ≤ 32) : ishr .u32 x r = shrS x r := by
  unfold ishr shrS
  rw [show IntKind.u32.bits = 32 from rfl, show ((r : Int).toNat) = r by simp, Nat.min_eq_left hr, Int.fdiv_eq_ediv_of_nonneg _ (by have := two_pow_pos r; omega)]
theorem F135_eq (R : Type) {x : Int} (hx : U32 x) {r : Nat} (hr : r ≤ 32) (k : Int → Option R) : F135 R x (r : Int) k = k (shrS x r) := by
  simp only [F135, p135]
  have e : (if (0 : Int) > (r : Int) then (0 : Int) else (r : Int)) = r := by split <;> omega
  rw [e, wrap_u64 (by omega) (by omega), shr_eq hx hr]
  have hd : decide ((0 : Int) ≤ (r : Int)) = true := by simp
  simp only [hd]
theorem shrS_lt {x : Int} (hx : U32 x) (r : Nat) : U32 (shrS x r) := by
  unfold shrS U32 at *
  have hp := two_pow_pos r
  exact ⟨Int.ediv_nonneg hx.1 (by omega), Int.lt_of_le_of_lt (Int.ediv_le_self _ hx.1) hx.2⟩
theorem shrS_step (x : Int) (r : Nat) : shrS x (r + 1) = shrS x r / 2 := by
  unfold shrS
  rw [Int.pow_succ, Int.ediv_ediv_of_nonneg (by have := two_pow_pos r; omega)]
theorem G31_eq (R : Type) {x : Int} (hx : U32 x) {r : Nat} (hr : r ≤ 32) (k : Int → Option R) : ∀ (m i : Nat), i ≤ r → r - i < m → G31_4 m R (shrS x i) (r : Int) (i : Int) k = k (shrS x r)
  | 0, i, _, h => by omega
  | m + 1, i, h1, h2 => by
    simp only [G31_4, p31_4]
    by_cases hi : i < r
    · have hd : decide ((i : Int) < (r : Int)) = true := by simpa using hi
      have hu := shrS_lt hx i
      simp only [hd]
      have ih := G31_eq R hx hr k m (i + 1) (by omega) (by omega)
      rw [shrS_step] at ih
      rw [← ih]
      unfold U32 at hu
      rw [Int.tdiv_eq_ediv_of_nonneg hu.1, wrap_u32 (by omega) (by omega), wrap_i64 (by omega) (by omega)]
      rfl
    · have hd : decide ((i : Int) < (r : Int)) = false := by simpa using hi
      have : i = r := by omega
      subst this
      simp only [hd]
theorem F31_eq (R : Type) {x : Int} (hx : U32 x) {r : Nat} (hr : r < 32) (k : Int → Option R) : F31 R x (r : Int) k = k (shrS x r) := by
  simp only [F31, p31]
  have hd : decide ((r : Int) > 31) = false := by simp; omega
  simp only [hd]
  have := G31_eq R hx (r := r) (by omega) k FUEL 0 (by omega) (by rw [FUEL_eq]; omega)
  rw [show shrS x 0 = x by simp [shrS]] at this
  exact this
theorem F134_lit (R : Type) {x : Int} (hx : U32 x) {n : Int} (r : Nat) (e : n = (r : Int)) (h0 : 0 < r) (hr : r < 32) (k : Int → Option R) : F134 R x n k = k (rotS x r) := by rw [e]; exact F134_eq R hx h0 hr k
theorem F135_lit (R : Type) {x : Int} (hx : U32 x) {n : Int} (r : Nat) (e : n = (r : Int)) (hr : r ≤ 32) (k : Int → Option R) : F135 R x n k = k (shrS x r) := by rw [e]; exact F135_eq R hx hr k
def sig3 (x : Int) (a b c : Nat) : Int := ixor .u32 (ixor .u32 (rotS x a) (rotS x b)) (rotS x c)
def sig2 (x : Int) (a b c : Nat) : Int := ixor .u32 (ixor .u32 (rotS x a) (rotS x b)) (shrS x c)
theorem F128_eq (R : Type) {x : Int} (hx : U32 x) (k : Int → Option R) : F128 R x k = k (sig2 x 17 19 10) := by
  simp only [F128, p128, F132, p132]
  rw [F134_lit R hx (n := 17) 17 rfl (by omega) (by omega), F134_lit R hx (n := 19) 19 rfl (by omega) (by omega), F135_lit R hx (n := 10) 10 rfl (by omega)]
  simp only [sig2]
theorem F129_eq (R : Type) {x : Int} (hx : U32 x) (k : Int → Option R) : F129 R x k = k (sig2 x 7 18 3) := by
  simp only [F129, p129, F132, p132]
  rw [F134_lit R hx (n := 7) 7 rfl (by omega) (by omega), F134_lit R hx (n := 18) 18 rfl (by omega) (by omega), F135_lit R hx (n := 3) 3 rfl (by omega)]
  simp only [sig2]
def chS (a b c : Int) : Int := ior .u32 (iand .u32 a b) (iand .u32 (IntKind.u32.wrap (4294967295 - a)) c)
def majS (a b c : Int) : Int := ior .u32 (ior .u32 (iand .u32 a b) (iand .u32 a c)) (iand .u32 b c)
theorem F130_eq (R : Type) {a : Int} (ha : U32 a) (b c : Int) (k : Int → Option R) : F130 R a b c k = k (IntKind.u32.wrap (sig3 a 6 11 25 + chS a b c)) := by
  simp only [F130, p130, F133, p133]
  rw [F134_lit R ha (n := 6) 6 rfl (by omega) (by omega), F134_lit R ha (n := 11) 11 rfl (by omega) (by omega), F134_lit R ha (n := 25) 25 rfl (by omega) (by omega)]
  simp only [sig3, chS, choice_eq b c ha]
theorem F131_eq (R : Type) {a : Int} (ha : U32 a) (b c : Int) (k : Int → Option R) : F131 R a b c k = k (IntKind.u32.wrap (sig3 a 2 13 22 + majS a b c)) := by
  simp only [F131, p131, F133, p133]
  rw [F134_lit R ha (n := 2) 2 rfl (by omega) (by omega), F134_lit R ha (n := 13) 13 rfl (by omega) (by omega), F134_lit R ha (n := 22) 22 rfl (by omega) (by omega)]
  simp only [sig3, majS, majority_eq]
def roundS (s : List Int) (w c : Int) : List Int :=
  let t := IntKind.u32.wrap (s.getD 7 0 + sig3 (s.getD 4 0) 6 11 25 + chS (s.getD 4 0) (s.getD 5 0) (s.getD 6 0) + c + w)
  [IntKind.u32.wrap (t + (sig3 (s.getD 0 0) 2 13 22 + majS (s.getD 0 0) (s.getD 1 0) (s.getD 2 0))), s.getD 0 0, s.getD 1 0, s.getD 2 0, IntKind.u32.wrap (s.getD 3 0 + t), s.getD 4 0, s.getD 5 0, s.getD 6 0]
theorem F126_eq (R : Type) {a0 a1 a2 a3 a4 a5 a6 a7 : Int} (h0 : U32 a0) (h4 : U32 a4) (w c : Int) (k : List Int → Option R) : F126 R [a0, a1, a2, a3, a4, a5, a6, a7] w c k = k (roundS [a0, a1, a2, a3, a4, a5, a6, a7] w c) := by
  simp only [F126, p126, List.getD_cons_zero, List.getD_cons_succ]
  rw [F130_eq R h4, F131_eq R h0]
  congr 1
  simp [roundS, lay, List.replicate]
  simp only [wrap_u32_mod]
  refine ⟨?_, ?_⟩ <;> omega
end Go.PG
namespace Go.PG
theorem list8 {l : List Int} (h : l.length = 8) : ∃ a b c d e f g i, l = [a, b, c, d, e, f, g, i] := by
  match l, h with
  | [a, b, c, d, e, f, g, i], _ => exact ⟨a, b, c, d, e, f, g, i, rfl⟩
def AllU8 (l : List Int) : Prop := ∀ x ∈ l, U8 x
def AllU32 (l : List Int) : Prop := ∀ x ∈ l, U32 x
def get32S (a b c d : Int) : Int := ((a * 256 + b) * 256 + c) * 256 + d
theorem FUEL_succ (n : Nat) (h : n ≤ 1000) : ∃ m, FUEL = m + n := ⟨FUEL - n, by rw [FUEL_eq]; omega⟩
theorem ior_shl8 {x b : Int} (hx : 0 ≤ x ∧ x < 16777216) (hb : U8 b) : ior .u32 (ishl .u32 x 8) b = x * 256 + b := by
  unfold U8 at hb
  obtain ⟨n, rfl⟩ : ∃ n : Nat, x = n := ⟨x.toNat, by omega⟩
  obtain ⟨c, rfl⟩ : ∃ c : Nat, b = c := ⟨b.toNat, by omega⟩
  have e2 : ishl .u32 (n : Int) 8 = ((n * 256 : Nat) : Int) := by
    unfold ishl
    rw [show (2 : Int) ^ (min (8 : Int).toNat IntKind.u32.bits) = 256 by decide, wrap_u32 (by omega) (by omega)]
    simp
  rw [e2, ior_u32, BitVec.ofInt_natCast, BitVec.ofInt_natCast, BitVec.toNat_or, BitVec.toNat_ofNat, BitVec.toNat_ofNat, Nat.mod_eq_of_lt (by omega), Nat.mod_eq_of_lt (by omega)]
  have h6 := Nat.shiftLeft_add_eq_or_of_lt (i := 8) (b := c) (by omega) n
  rw [Nat.shiftLeft_eq] at h6
  rw [show n * 256 = n * 2 ^ 8 by rfl, ← h6]
  simp
theorem F127_eq (R : Type) {a b c d : Int} (ha : U8 a) (hb : U8 b) (hc : U8 c) (hd : U8 d) (k : Int → Option R) : F127 R [a, b, c, d] k = k (get32S a b c d) := by
  obtain ⟨m, hm⟩ := FUEL_succ 5 (by omega)
  simp only [F127, p127, hm, G127_2, p127_2]
  have w : ∀ x, U8 x → IntKind.u32.wrap x = x := fun x h => wrap_u32 h.1 (by unfold U8 at h; omega)
  simp [bnd, wrap_i64_def, w a ha, w b hb, w c hc, w d hd]
  have u := ha; have v := hb; have y := hc; have z := hd
  unfold U8 at u v y z
  rw [ior_shl8 (x := 0) (by omega) ha, ior_shl8 (by omega) hb, ior_shl8 (by omega) hc, ior_shl8 (by omega) hd]
  simp [get32S]
theorem get32S_lt {a b c d : Int} (ha : U8 a) (hb : U8 b) (hc : U8 c) (hd : U8 d) : U32 (get32S a b c d) := by
  unfold U8 U32 get32S at *; omega
def word4 (blk : List Int) (i : Nat) : Int := get32S (blk.getD (4 * i) 0) (blk.getD (4 * i + 1) 0) (blk.getD (4 * i + 2) 0) (blk.getD (4 * i + 3) 0)
def planW (l : List Int) (i : Nat) : Int := IntKind.u32.wrap (IntKind.u32.wrap (IntKind.u32.wrap (sig2 (l.getD (i - 2) 0) 17 19 10 + l.getD (i - 7) 0) + sig2 (l.getD (i - 15) 0) 7 18 3) + l.getD (i - 16) 0)
def planStep (blk l : List Int) (i : Nat) : List Int := l.set i (if i < 16 then word4 blk i else planW l i)
def planS (blk : List Int) : List Int := (List.range' 0 64).foldl (planStep blk) (List.replicate 64 0)
theorem getD_all {p : Int → Prop} {l : List Int} (h : ∀ x ∈ l, p x) (h0 : p 0) (i : Nat) : p (l.getD i 0) := by
  rw [List.getD_eq_getElem?_getD]
  cases hi : l[i]? with
  | none => exact h0
  | some x => exact h x (List.mem_of_getElem? hi)
theorem u8_0 : U8 0 := by unfold U8; omega
theorem u32_0 : U32 0 := by unfold U32; omega
theorem AllU32.set {l : List Int} (h : AllU32 l) {i : Nat} {x : Int} (hx : U32 x) : AllU32 (l.set i x) := fun y hy => by
  rcases List.mem_or_eq_of_mem_set hy with h1 | h1
  · exact h y h1
  · rw [h1]; exact hx
theorem AllU32.rep (n : Nat) : AllU32 (List.replicate n 0) := fun y hy => by rw [List.eq_of_mem_replicate hy]; exact u32_0
theorem word4_lt {blk : List Int} (h : AllU8 blk) (i : Nat) : U32 (word4 blk i) := get32S_lt (getD_all h u8_0 _) (getD_all h u8_0 _) (getD_all h u8_0 _) (getD_all h u8_0 _)
theorem planStep_ok {blk l : List Int} (hb : AllU8 blk) (hl : l.length = 64) (h : AllU32 l) (i : Nat) : (planStep blk l i).length = 64 ∧ AllU32 (planStep blk l i) := by
  unfold planStep
  refine ⟨by simpa using hl, h.set ?_⟩
  split
  · exact word4_lt hb i
  · exact wrap_lt32 _
theorem take4 {l : List Int} {i : Nat} (h : i + 4 ≤ l.length) : List.take 4 (List.drop i l) = [l.getD i 0, l.getD (i + 1) 0, l.getD (i + 2) 0, l.getD (i + 3) 0] := by
  have e0 : List.drop i l = l[i] :: List.drop (i + 1) l := List.drop_eq_getElem_cons (by omega)
  have e1 : List.drop (i + 1) l = l[i + 1] :: List.drop (i + 1 + 1) l := List.drop_eq_getElem_cons (by omega)
  have e2 : List.drop (i + 1 + 1) l = l[i + 1 + 1] :: List.drop (i + 1 + 1 + 1) l := List.drop_eq_getElem_cons (by omega)
  have e3 : List.drop (i + 1 + 1 + 1) l = l[i + 1 + 1 + 1] :: List.drop (i + 1 + 1 + 1 + 1) l := List.drop_eq_getElem_cons (by omega)
  rw [e0, e1, e2, e3]
  show [l[i], l[i + 1], l[i + 1 + 1], l[i + 1 + 1 + 1]] = _
  simp [show i < l.length by omega, show i + 1 < l.length by omega, show i + 2 < l.length by omega, show i + 3 < l.length by omega]
theorem range'_step {i n : Nat} (h : i < n) : List.range' i (n - i) = i :: List.range' (i + 1) (n - (i + 1)) := by
  rw [show n - i = (n - (i + 1)) + 1 by omega, List.range'_succ]
theorem G125_eq (R : Type) {blk : List Int} (hb : blk.length = 64) (h8 : AllU8 blk) (k0 : List Int → Option R) : ∀ (m i : Nat) (l : List Int), i ≤ 64 → 64 - i < m → l.length = 64 → AllU32 l →
    G125_2 m R (i : Int) blk l k0 = k0 ((List.range' i (64 - i)).foldl (planStep blk) l)
  | 0, i, l, _, h, _, _ => by omega
  | m + 1, i, l, h1, h2, hl, hu => by
    simp only [G125_2, p125_2]
    by_cases hi : i < 64
    · have ok := planStep_ok h8 hl hu i
      have ih := G125_eq R hb h8 k0 m (i + 1) (planStep blk l i) (by omega) (by omega) ok.1 ok.2
      rw [range'_step hi, List.foldl_cons, ← ih]
      rw [wrap_i64 (n := 4 * (i : Int)) (by omega) (by omega), wrap_i64 (n := (i : Int) + 1) (by omega) (by omega), wrap_i64 (n := 4 * (i : Int) + 4) (by omega) (by omega)]
      have hd : decide ((i : Int) < 64) = true := by simp; omega
      have hbn : bnd (i : Int) 64 = true := by unfold bnd; simp; omega
      by_cases h16 : i < 16
      · have c1 : decide (4 * (i : Int) < 64) = true := by simp; omega
        have c2 : decide (0 ≤ 4 * (i : Int) ∧ 4 * (i : Int) ≤ 4 * (i : Int) + 4 ∧ 4 * (i : Int) + 4 ≤ 64) = true := by simp; omega
        have c3 : decide ((4 : Int) ≤ ((Int.toNat (4 * (i : Int) + 4 - 4 * (i : Int)) : Nat) : Int)) = true := by simp; omega
        have e1 : (4 * (i : Int)).toNat = 4 * i := by omega
        simp only [hd, c1, c2, c3, e1, hbn]
        rw [take4 (by omega), F127_eq R (getD_all h8 u8_0 _) (getD_all h8 u8_0 _) (getD_all h8 u8_0 _) (getD_all h8 u8_0 _)]
        simp only [planStep, if_pos h16, word4, Int.toNat_natCast]
        rfl
      · have c1 : decide (4 * (i : Int) < 64) = false := by simp; omega
        rw [wrap_i64 (n := (i : Int) - 2) (by omega) (by omega), wrap_i64 (n := (i : Int) - 7) (by omega) (by omega), wrap_i64 (n := (i : Int) - 15) (by omega) (by omega), wrap_i64 (n := (i : Int) - 16) (by omega) (by omega)]
        have b2 : bnd ((i : Int) - 2) 64 = true := by unfold bnd; simp; omega
        have b7 : bnd ((i : Int) - 7) 64 = true := by unfold bnd; simp; omega
        have b15 : bnd ((i : Int) - 15) 64 = true := by unfold bnd; simp; omega
        have b16 : bnd ((i : Int) - 16) 64 = true := by unfold bnd; simp; omega
        have n2 : ((i : Int) - 2).toNat = i - 2 := by omega
        have n7 : ((i : Int) - 7).toNat = i - 7 := by omega
        have n15 : ((i : Int) - 15).toNat = i - 15 := by omega
        have n16 : ((i : Int) - 16).toNat = i - 16 := by omega
        simp only [hd, c1, hbn, b2, b7, b15, b16, n2, n7, n15, n16]
        rw [F128_eq R (getD_all hu u32_0 _), F129_eq R (getD_all hu u32_0 _)]
        simp only [planStep, if_neg h16, planW, Int.toNat_natCast]
        rfl
    · have : i = 64 := by omega
      subst this
      rfl
theorem F125_eq (R : Type) {blk : List Int} (hb : blk.length = 64) (h8 : AllU8 blk) (k : List Int → Option R) : F125 R blk k = k (planS blk) := by
  simp only [F125, p125]
  exact G125_eq R hb h8 _ FUEL 0 (List.replicate 64 0) (by omega) (by rw [FUEL_eq]; omega) (by simp) (AllU32.rep 64)
end Go.PG
namespace Go.PG
def KS : List Int := [1116352408, 1899447441, 3049323471, 3921009573, 961987163, 1508970993, 2453635748, 2870763221, 3624381080, 310598401, 607225278, 1426881987, 1925078388, 2162078206, 2614888103, 3248222580, 3835390401, 4022224774, 264347078, 604807628, 770255983, 1249150122, 1555081692, 1996064986, 2554220882, 2821834349, 2952996808, 3210313671, 3336571891, 3584528711, 113926993, 338241895, 666307205, 773529912, 1294757372, 1396182291, 1695183700, 1986661051, 2177026350, 2456956037, 2730485921, 2820302411, 3259730800, 3345764771, 3516065817, 3600352804, 4094571909, 275423344, 430227734, 506948616, 659060556, 883997877, 958139571, 1322822218, 1537002063, 1747873779, 1955562222, 2024104815, 2227730452, 2361852424, 2428436474, 2756734187, 3204031479, 3329325298]
theorem F124_eq (R : Type) (k : List Int → Option R) : F124 R k = k KS := by kernel_rfl
def roundsStep (plan s : List Int) (i : Nat) : List Int := roundS s (plan.getD i 0) (KS.getD i 0)
theorem roundS_ok {s : List Int} (h : AllU32 s) (w c : Int) : (roundS s w c).length = 8 ∧ AllU32 (roundS s w c) := by
  refine ⟨rfl, fun x hx => ?_⟩
  have g := fun i => getD_all h u32_0 i
  simp only [roundS, List.mem_cons, List.not_mem_nil, or_false] at hx
  rcases hx with rfl | rfl | rfl | rfl | rfl | rfl | rfl | rfl
  · exact wrap_lt32 _
  · exact g 0
  · exact g 1
  · exact g 2
  · exact wrap_lt32 _
  · exact g 4
  · exact g 5
  · exact g 6
theorem F126_eq' (R : Type) {s : List Int} (hl : s.length = 8) (h : AllU32 s) (w c : Int) (k : List Int → Option R) : F126 R s w c k = k (roundS s w c) := by
  obtain ⟨a0, a1, a2, a3, a4, a5, a6, a7, rfl⟩ := list8 hl
  exact F126_eq R (h a0 (by simp)) (h a4 (by simp)) w c k
theorem G122_3_eq (R : Type) (plan : List Int) (x3 x4 : List Int) (k0 : List Int → List Int → List Int → Option R) : ∀ (m i : Nat) (s : List Int), i ≤ 64 → 64 - i < m → s.length = 8 → AllU32 s →
    G122_3 m R plan (i : Int) x3 x4 s KS k0 = k0 x3 x4 ((List.range' i (64 - i)).foldl (roundsStep plan) s)
  | 0, i, s, _, h, _, _ => by omega
  | m + 1, i, s, h1, h2, hl, hu => by
    simp only [G122_3, p122_3]
    by_cases hi : i < 64
    · have ok := roundS_ok hu (plan.getD i 0) (KS.getD i 0)
      have ih := G122_3_eq R plan x3 x4 k0 m (i + 1) (roundsStep plan s i) (by omega) (by omega) ok.1 ok.2
      rw [range'_step hi, List.foldl_cons, ← ih, wrap_i64 (n := (i : Int) + 1) (by omega) (by omega)]
      have hd : decide ((i : Int) < 64) = true := by simp; omega
      have hbn : bnd (i : Int) 64 = true := by unfold bnd; simp; omega
      simp only [hd, hbn, Int.toNat_natCast]
      rw [F126_eq' R hl hu]
      rfl
    · have : i = 64 := by omega
      subst this
      rfl
def addStep (a l : List Int) (i : Nat) : List Int := l.set i (IntKind.u32.wrap (l.getD i 0 + a.getD i 0))
theorem addStep_ok {a l : List Int} (hl : l.length = 8) (h : AllU32 l) (i : Nat) : (addStep a l i).length = 8 ∧ AllU32 (addStep a l i) := ⟨by simpa [addStep] using hl, h.set (wrap_lt32 _)⟩
theorem G122_8_eq (R : Type) (a x3 : List Int) (k0 : List Int → List Int → Option R) : ∀ (m i : Nat) (l : List Int), i ≤ 8 → 8 - i < m → G122_8 m R (i : Int) a x3 l k0 = k0 x3 ((List.range' i (8 - i)).foldl (addStep a) l)
  | 0, i, l, _, h => by omega
  | m + 1, i, l, h1, h2 => by
    simp only [G122_8, p122_8]
    by_cases hi : i < 8
    · have ih := G122_8_eq R a x3 k0 m (i + 1) (addStep a l i) (by omega) (by omega)
      rw [range'_step hi, List.foldl_cons, ← ih, wrap_i64 (n := (i : Int) + 1) (by omega) (by omega)]
      have hd : decide ((i : Int) < 8) = true := by simp; omega
      have hbn : bnd (i : Int) 8 = true := by unfold bnd; simp; omega
      simp only [hd, hbn, Int.toNat_natCast]
      rfl
    · have : i = 8 := by omega
      subst this
      rfl
def takeS (st blk : List Int) : List Int := (List.range' 0 8).foldl (addStep st) ((List.range' 0 64).foldl (roundsStep (planS blk)) st)
theorem F122_eq (R : Type) {st blk : List Int} (hl : st.length = 8) (hu : AllU32 st) (hb : blk.length = 64) (h8 : AllU8 blk) (k : List Int → Option R) : F122 R st blk k = k (takeS st blk) := by
  simp only [F122, p122]
  rw [F124_eq, F125_eq R hb h8]
  refine (G122_3_eq R (planS blk) st (List.replicate 8 0) (fun x3 x4 x5 => G122_8 FUEL R 0 x3 x4 x5 fun x6 x7 => k x7) FUEL 0 st (by omega) (by rw [FUEL_eq]; omega) hl hu).trans ?_
  exact G122_8_eq R st (List.replicate 8 0) (fun _ x7 => k x7) FUEL 0 _ (by omega) (by rw [FUEL_eq]; omega)
theorem roundsFold_ok (plan : List Int) : ∀ (is : List Nat) (s : List Int), s.length = 8 → AllU32 s → (is.foldl (roundsStep plan) s).length = 8 ∧ AllU32 (is.foldl (roundsStep plan) s)
  | [], s, h1, h2 => ⟨h1, h2⟩
  | i :: is, s, h1, h2 => by
    have ok := roundS_ok h2 (plan.getD i 0) (KS.getD i 0)
    exact roundsFold_ok plan is _ ok.1 ok.2
theorem addFold_ok (a : List Int) : ∀ (is : List Nat) (s : List Int), s.length = 8 → AllU32 s → (is.foldl (addStep a) s).length = 8 ∧ AllU32 (is.foldl (addStep a) s)
  | [], s, h1, h2 => ⟨h1, h2⟩
  | i :: is, s, h1, h2 => by
    have ok := addStep_ok (a := a) h1 h2 i
    exact addFold_ok a is _ ok.1 ok.2
theorem takeS_ok {st : List Int} (blk : List Int) (hl : st.length = 8) (hu : AllU32 st) : (takeS st blk).length = 8 ∧ AllU32 (takeS st blk) := by
  have h := roundsFold_ok (planS blk) (List.range' 0 64) st hl hu
  exact addFold_ok st _ _ h.1 h.2
end Go.PG
namespace Go.PG
def blkF : Nat → List Int → List (List Int)
  | 0, _ => []
  | n + 1, b => if 64 ≤ b.length then b.take 64 :: blkF n (b.drop 64) else []
def tailF : Nat → List Int → List Int
  | 0, b => b
  | n + 1, b => if 64 ≤ b.length then tailF n (b.drop 64) else b
def blkS (b : List Int) : List (List Int) := blkF (b.length / 64 + 1) b
def tailS (b : List Int) : List Int := tailF (b.length / 64 + 1) b
theorem blkF_big : ∀ (n m : Nat) (b : List Int), b.length / 64 < n → b.length / 64 < m → blkF n b = blkF m b
  | 0, _, _, h, _ => by omega
  | _, 0, _, _, h => by omega
  | n + 1, m + 1, b, h1, h2 => by
    simp only [blkF]
    by_cases h : 64 ≤ b.length
    · rw [if_pos h, if_pos h, blkF_big n m (b.drop 64) (by rw [List.length_drop]; omega) (by rw [List.length_drop]; omega)]
    · rw [if_neg h, if_neg h]
theorem tailF_big : ∀ (n m : Nat) (b : List Int), b.length / 64 < n → b.length / 64 < m → tailF n b = tailF m b
  | 0, _, _, h, _ => by omega
  | _, 0, _, _, h => by omega
  | n + 1, m + 1, b, h1, h2 => by
    simp only [tailF]
    by_cases h : 64 ≤ b.length
    · rw [if_pos h, if_pos h, tailF_big n m (b.drop 64) (by rw [List.length_drop]; omega) (by rw [List.length_drop]; omega)]
    · rw [if_neg h, if_neg h]
theorem blkS_step {b : List Int} (h : 64 ≤ b.length) : blkS b = b.take 64 :: blkS (b.drop 64) := by
  unfold blkS
  rw [show blkF (b.length / 64 + 1) b = b.take 64 :: blkF (b.length / 64) (b.drop 64) by simp only [blkF, if_pos h]]
  rw [blkF_big (b.length / 64) ((b.drop 64).length / 64 + 1) (b.drop 64) (by rw [List.length_drop]; omega) (by omega)]
theorem blkS_end {b : List Int} (h : b.length < 64) : blkS b = [] := by
  unfold blkS; simp only [blkF, if_neg (show ¬ 64 ≤ b.length by omega)]
theorem tailS_step {b : List Int} (h : 64 ≤ b.length) : tailS b = tailS (b.drop 64) := by
  unfold tailS
  rw [show tailF (b.length / 64 + 1) b = tailF (b.length / 64) (b.drop 64) by simp only [tailF, if_pos h]]
  rw [tailF_big (b.length / 64) ((b.drop 64).length / 64 + 1) (b.drop 64) (by rw [List.length_drop]; omega) (by omega)]
theorem tailS_end {b : List Int} (h : b.length < 64) : tailS b = b := by
  unfold tailS; simp only [tailF, if_neg (show ¬ 64 ≤ b.length by omega)]
theorem tailS_len : ∀ (n : Nat) (b : List Int), b.length ≤ n → (tailS b).length = b.length % 64 ∧ (blkS b).length = b.length / 64
  | 0, b, h => by
    rw [tailS_end (by omega), blkS_end (by omega)]
    simp; omega
  | n + 1, b, h => by
    by_cases h6 : 64 ≤ b.length
    · have ih := tailS_len n (b.drop 64) (by rw [List.length_drop]; omega)
      rw [tailS_step h6, blkS_step h6, ih.1, List.length_cons, ih.2, List.length_drop]
      omega
    · rw [tailS_end (by omega), blkS_end (by omega)]
      simp; omega
theorem blk_append : ∀ (n : Nat) (a b : List Int), a.length ≤ n → blkS (a ++ b) = blkS a ++ blkS (tailS a ++ b) ∧ tailS (a ++ b) = tailS (tailS a ++ b)
  | 0, a, b, h => by
    rw [blkS_end (show a.length < 64 by omega), tailS_end (show a.length < 64 by omega)]
    exact ⟨rfl, rfl⟩
  | n + 1, a, b, h => by
    by_cases h6 : 64 ≤ a.length
    · have ih := blk_append n (a.drop 64) b (by rw [List.length_drop]; omega)
      have hl : 64 ≤ (a ++ b).length := by rw [List.length_append]; omega
      rw [blkS_step hl, blkS_step h6, tailS_step hl, tailS_step h6, List.take_append_of_le_length h6, List.drop_append_of_le_length h6, ih.1, ih.2]
      exact ⟨rfl, rfl⟩
    · rw [blkS_end (show a.length < 64 by omega), tailS_end (show a.length < 64 by omega)]
      exact ⟨rfl, rfl⟩
theorem G121_eq (R : Type) (k0 : List Int → List (List Int) → Option R) : ∀ (m : Nat) (b : List Int) (acc : List (List Int)), b.length / 64 < m → acc.length + b.length / 64 ≤ 1000000000 → b.length ≤ 100000000000 →
    G121_1 m R b acc k0 = k0 (tailS b) (acc ++ blkS b)
  | 0, b, acc, h, _, _ => by omega
  | m + 1, b, acc, h1, h2, h3 => by
    simp only [G121_1, p121_1]
    by_cases h6 : 64 ≤ b.length
    · have ih := G121_eq R k0 m (b.drop 64) (acc ++ [b.take 64]) (by rw [List.length_drop]; omega) (by rw [List.length_drop, List.length_append]; simp; omega) (by rw [List.length_drop]; omega)
      have c1 : decide ((b.length : Int) ≥ 64) = true := by simp; omega
      have c2 : decide ((64 : Int) ≤ (b.length : Int)) = true := by simp; omega
      have c3 : decide (acc.length + [b.take 64].length ≤ 2199023255552) = true := by simp; omega
      have c4 : decide (0 ≤ (64 : Int) ∧ (64 : Int) ≤ (b.length : Int) ∧ (b.length : Int) ≤ (b.length : Int) ∧ (b.length : Int) ≤ (b.length : Int)) = true := by simp; omega
      have e1 : List.take (Int.toNat ((b.length : Int) - 64)) (List.drop 64 b) = List.drop 64 b := List.take_of_length_le (by rw [List.length_drop]; omega)
      simp only [c1, c2, c3, c4, e1]
      rw [ih, blkS_step h6, tailS_step h6, List.append_assoc]
      rfl
    · have c1 : decide ((b.length : Int) ≥ 64) = false := by simp; omega
      simp only [c1]
      rw [blkS_end (by omega), tailS_end (by omega), List.append_nil]
theorem F121_eq (R : Type) {b : List Int} (h : b.length ≤ 1000000000) (k : List (List Int) → List Int → Option R) : F121 R b k = k (blkS b) (tailS b) := by
  simp only [F121, p121]
  refine (G121_eq R (fun x1 x2 => k x2 x1) FUEL b [] (by rw [FUEL_eq]; omega) (by simp; omega) (by omega)).trans ?_
  rw [List.nil_append]
end Go.PG
namespace Go.PG
abbrev Wr := List Int × List Int × Int × Unit
def foldB (st : List Int) (bs : List (List Int)) : List Int := bs.foldl takeS st
theorem blkS_ok : ∀ (n : Nat) (b : List Int), b.length ≤ n → AllU8 b → (∀ x ∈ blkS b, x.length = 64 ∧ AllU8 x) ∧ AllU8 (tailS b)
  | 0, b, h, h8 => by
    rw [blkS_end (by omega), tailS_end (by omega)]
    exact ⟨fun x hx => (by cases hx), h8⟩
  | n + 1, b, h, h8 => by
    by_cases h6 : 64 ≤ b.length
    · have ih := blkS_ok n (b.drop 64) (by rw [List.length_drop]; omega) (fun x hx => h8 x (List.mem_of_mem_drop hx))
      rw [blkS_step h6, tailS_step h6]
      refine ⟨fun x hx => ?_, ih.2⟩
      rcases List.mem_cons.1 hx with rfl | hx
      · exact ⟨by rw [List.length_take]; omega, fun y hy => h8 y (List.mem_of_mem_take hy)⟩
      · exact ih.1 x hx
    · rw [blkS_end (by omega), tailS_end (by omega)]
      exact ⟨fun x hx => (by cases hx), h8⟩
theorem foldB_ok : ∀ (bs : List (List Int)) {st : List Int}, st.length = 8 → AllU32 st → (foldB st bs).length = 8 ∧ AllU32 (foldB st bs)
  | [], st, h1, h2 => ⟨h1, h2⟩
  | b :: bs, st, h1, h2 => by
    have ok := takeS_ok b h1 h2
    exact foldB_ok bs ok.1 ok.2
theorem G117_eq (R : Type) (rest : List Int) (bs : List (List Int)) (hb : ∀ x ∈ bs, x.length = 64 ∧ AllU8 x) (hn : bs.length ≤ 1000000000) (u : List Int × Int × Unit) (k0 : List Int → (Wr × Unit) → Option R) :
    ∀ (m i : Nat) (st : List Int), i ≤ bs.length → bs.length - i < m → st.length = 8 → AllU32 st → G117_3 m R rest bs (bs.length : Int) (i : Int) ((st, u), ()) k0 = k0 rest ((foldB st (bs.drop i), u), ())
  | 0, i, st, _, h, _, _ => by omega
  | m + 1, i, st, h1, h2, hl, hu => by
    simp only [G117_3, p117_3]
    by_cases hi : i < bs.length
    · have hd : decide ((i : Int) < (bs.length : Int)) = true := by simpa using hi
      have hbn : bnd (i : Int) (bs.length : Int) = true := by unfold bnd; simp; omega
      have hx := hb bs[i] (List.getElem_mem hi)
      have hg : List.getD bs i (List.replicate 64 0) = bs[i] := by simp [hi]
      simp only [hd, hbn, Int.toNat_natCast, hg]
      rw [F122_eq R hl hu hx.1 hx.2, wrap_i64 (by omega) (by omega)]
      have ok := takeS_ok bs[i] hl hu
      have ih := G117_eq R rest bs hb hn u k0 m (i + 1) (takeS st bs[i]) (by omega) (by omega) ok.1 ok.2
      rw [List.drop_eq_getElem_cons hi]
      exact ih
    · have : i = bs.length := by omega
      subst this
      have hd : decide ((bs.length : Int) < (bs.length : Int)) = false := by simp
      simp only [hd]
      rw [List.drop_of_length_le (Nat.le_refl _)]
      rfl
theorem F117_eq (R : Type) {st : List Int} (u : List Int × Int × Unit) {b : List Int} (hl : st.length = 8) (hu : AllU32 st) (h8 : AllU8 b) (hn : b.length ≤ 1000000000) (k : List Int → (Wr × Unit) → Option R) :
    F117 R ((st, u), ()) b k = k (tailS b) ((foldB st (blkS b), u), ()) := by
  simp only [F117, p117]
  rw [F121_eq R hn]
  have ok := blkS_ok b.length b (Nat.le_refl _) h8
  have hlen := (tailS_len b.length b (Nat.le_refl _)).2
  exact G117_eq R (tailS b) (blkS b) ok.1 (by omega) u (fun x4 x5 => k x4 x5) FUEL 0 st (by omega) (by rw [FUEL_eq]; omega) hl hu
theorem F114_eq (R : Type) {st rest part : List Int} {n : Nat} (hl : st.length = 8) (hu : AllU32 st) (hr : AllU8 rest) (hp : AllU8 part) (hlen : rest.length + part.length ≤ 1000000000) (hn : n + part.length ≤ 1000000000) (k : (Wr × Unit) → Option R) :
    F114 R ((st, rest, (n : Int), ()), ()) part k = k ((foldB st (blkS (rest ++ part)), tailS (rest ++ part), ((n + part.length : Nat) : Int), ()), ()) := by
  simp only [F114, p114, F119]
  rw [wrap_u64 (n := (part.length : Int)) (by omega) (by omega), wrap_u64 (by omega) (by omega)]
  have c1 : decide (([] : List Int).length + rest.length ≤ 140737488355328) = true := by simp; omega
  have c2 : decide (rest.length + part.length ≤ 140737488355328) = true := by simp; omega
  simp only [c1, c2]
  have h8 : AllU8 (rest ++ part) := fun x hx => by
    rcases List.mem_append.1 hx with h | h
    · exact hr x h
    · exact hp x h
  rw [F117_eq R _ hl hu h8 (by rw [List.length_append]; omega)]
  congr 1
def wrS (st m : List Int) : Wr := (foldB st (blkS m), tailS m, (m.length : Int), ())
theorem AllU8.append {a b : List Int} (ha : AllU8 a) (hb : AllU8 b) : AllU8 (a ++ b) := fun x hx => by
  rcases List.mem_append.1 hx with h | h
  · exact ha x h
  · exact hb x h
theorem wrS_append (st m p : List Int) : foldB (foldB st (blkS m)) (blkS (tailS m ++ p)) = foldB st (blkS (m ++ p)) ∧ tailS (tailS m ++ p) = tailS (m ++ p) := by
  obtain ⟨h1, h2⟩ := blk_append m.length m p (Nat.le_refl _)
  rw [h1, h2]
  refine ⟨?_, rfl⟩
  unfold foldB
  rw [List.foldl_append]
theorem G110_eq (R : Type) {st : List Int} (hl : st.length = 8) (hu : AllU32 st) (x4 : Wr) (k0 : Int → Wr → Option R) (k1 : Wr → (Wr × Unit) → Option R) : ∀ (n : Nat) (ps done : List (List Int)) (m : List Int), m = done.flatten → AllU8 m → (∀ p ∈ ps, AllU8 p) →
    m.length + ps.flatten.length ≤ 500000000 → (done ++ ps).length ≤ 1000000000 → ps.length < n → G110_5 n R (done ++ ps) ((done ++ ps).length : Int) (done.length : Int) x4 (wrS st m, ()) k0 k1 = k1 x4 (wrS st (m ++ ps.flatten), ())
  | 0, ps, done, m, _, _, _, _, _, h => by omega
  | n + 1, [], done, m, hm, h8, hps, hlen, hnum, h => by
    simp only [G110_5, p110_5]
    have hd : decide ((done.length : Int) < ((done ++ []).length : Int)) = false := by simp
    simp only [hd]
    simp
  | n + 1, p :: ps, done, m, hm, h8, hps, hlen, hnum, h => by
    simp only [G110_5, p110_5]
    have hlt : done.length < (done ++ p :: ps).length := by simp
    have hd : decide ((done.length : Int) < ((done ++ p :: ps).length : Int)) = true := by simp; omega
    have hbn : bnd (done.length : Int) ((done ++ p :: ps).length : Int) = true := by unfold bnd; simp; omega
    have hg : List.getD (done ++ p :: ps) done.length [] = p := by simp
    have hp8 := hps p (by simp)
    have hfl : (p :: ps).flatten = p ++ ps.flatten := by simp
    rw [hfl, List.length_append] at hlen
    have ok := foldB_ok (blkS m) hl hu
    have ok2 := blkS_ok m.length m (Nat.le_refl _) h8
    have tl := (tailS_len m.length m (Nat.le_refl _)).1
    simp only [hd, hbn, Int.toNat_natCast, hg]
    unfold wrS
    rw [F114_eq R ok.1 ok.2 ok2.2 hp8 (by omega) (by omega)]
    obtain ⟨a1, a2⟩ := wrS_append st m p
    rw [a1, a2, ← List.length_append]
    have hb : decide (((m ++ p).length : Int) ≥ 2305843009213693952) = false := by simp; omega
    simp only [hb]
    rw [wrap_i64 (by omega) (by simp at hnum; omega)]
    have ih := G110_eq R hl hu x4 k0 k1 n ps (done ++ [p]) (m ++ p) (by rw [hm]; simp) (h8.append hp8) (fun q hq => hps q (by simp [hq])) (by rw [List.length_append]; omega) (by simpa using hnum) (by simp at h; omega)
    unfold wrS at ih
    rw [hfl, ← List.append_assoc]
    have e1 : done ++ [p] ++ ps = done ++ p :: ps := by simp
    have e2 : (((done ++ [p]).length : Nat) : Int) = (done.length : Int) + 1 := by simp
    rw [e1, e2] at ih
    exact ih
theorem F110_eq (R : Type) {st : List Int} (hl : st.length = 8) (hu : AllU32 st) {ps : List (List Int)} (h8 : ∀ p ∈ ps, AllU8 p) (hlen : ps.flatten.length ≤ 500000000) (hnum : ps.length ≤ 1000000000) (k : Wr → Int → Option R) :
    F110 R (st, [], (0 : Int), ()) ps k = k (wrS st ps.flatten) 0 := by
  have hr : F113 R (st, [], (0 : Int), ()) = fun k => k true := by
    funext k
    simp only [F113, p113]
    rfl
  simp only [F110, p110]
  rw [hr]
  have := G110_eq R hl hu (List.replicate 8 0, [], 0, ()) (fun x3 x4 => k x4 x3) (fun _ x6 => k x6.1 0) FUEL ps [] [] rfl (fun x hx => by cases hx) h8 (by simpa using hlen) (by simpa using hnum) (by rw [FUEL_eq]; omega)
  rw [List.nil_append] at this
  refine Eq.trans ?_ this
  unfold wrS
  rw [blkS_end (by simp), tailS_end (by simp)]
  rfl
end Go.PG
namespace Go.PG
def putS (x : Int) : List Int := [x / 72057594037927936 % 256, x / 281474976710656 % 256, x / 1099511627776 % 256, x / 4294967296 % 256, x / 16777216 % 256, x / 65536 % 256, x / 256 % 256, x % 256]
theorem shr64 {x : Int} (r : Nat) (hr : r ≤ 64) : ishr .u64 x (r : Int) = x / 2 ^ r := by
  unfold ishr
  rw [show IntKind.u64.bits = 64 from rfl, show ((r : Int).toNat) = r by simp, Nat.min_eq_left hr, Int.fdiv_eq_ediv_of_nonneg _ (by have := two_pow_pos r; omega)]
theorem G108_eq (R : Type) (x : Int) (k0 : List Int → Option R) : ∀ (m i : Nat) (l : List Int), i ≤ 8 → 8 - i < m → G108_2 m R x (i : Int) l k0 = k0 ((List.range' i (8 - i)).foldl (fun l i => l.set i (x / 2 ^ (8 * (7 - i)) % 256)) l)
  | 0, i, l, _, h => by omega
  | m + 1, i, l, h1, h2 => by
    simp only [G108_2, p108_2]
    by_cases hi : i < 8
    · have ih := G108_eq R x k0 m (i + 1) (l.set i (x / 2 ^ (8 * (7 - i)) % 256)) (by omega) (by omega)
      rw [range'_step hi, List.foldl_cons, ← ih]
      have hd : decide ((i : Int) < 8) = true := by simp; omega
      have hbn : bnd (i : Int) 8 = true := by unfold bnd; simp; omega
      rw [wrap_i64 (n := 7 - (i : Int)) (by omega) (by omega), wrap_i64 (n := 8 * (7 - (i : Int))) (by omega) (by omega), wrap_u64 (n := 8 * (7 - (i : Int))) (by omega) (by omega), wrap_i64 (n := (i : Int) + 1) (by omega) (by omega)]
      have e1 : 8 * (7 - (i : Int)) = ((8 * (7 - i) : Nat) : Int) := by omega
      have hp : decide ((0 : Int) ≤ ((8 * (7 - i) : Nat) : Int)) = true := decide_eq_true (by omega)
      rw [e1, shr64 _ (by omega), wrap_u8_mod]
      simp only [hd, hbn, hp, Int.toNat_natCast]
      rfl
    · have : i = 8 := by omega
      subst this
      rfl
theorem F108_eq (R : Type) (x : Int) (k : List Int → Option R) : F108 R x k = k (putS x) := by
  simp only [F108, p108]
  refine (G108_eq R x (fun x1 => k x1) FUEL 0 (List.replicate 8 0) (by omega) (by rw [FUEL_eq]; omega)).trans ?_
  congr 1
  simp [List.range'_succ, putS, List.replicate]
end Go.PG
namespace Go.PG
def zerosN (n : Nat) : Nat := (119 - n % 64) % 64
def padT (rest : List Int) (n : Nat) : List Int := rest ++ 128 :: (List.replicate (zerosN n) 0 ++ putS (8 * (n : Int)))
theorem F120_eq (R : Type) {n : Nat} (hn : n ≤ 1000000000) (k : Int → Option R) : F120 R (n : Int) k = k (((n + 72) / 64 : Nat) : Int) := by
  simp only [F120, p120]
  have c0 : decide ((n : Int) ≥ 2305843009213693952) = false := by simp; omega
  simp only [c0]
  rw [wrap_u64 (n := (n : Int) + 8) (by omega) (by omega), wrap_u64 (n := (n : Int) + 8 + 64) (by omega) (by omega), Int.tdiv_eq_ediv_of_nonneg (by omega), wrap_u64 (by omega) (by omega)]
  congr 1
theorem lay_mid {a b c xs : List Int} (h : xs.length = b.length) : lay (a ++ b ++ c) a.length xs = a ++ xs ++ c := by
  unfold lay
  have e1 : List.take a.length (a ++ b ++ c) = a := by rw [List.append_assoc, List.take_left]
  have e2 : List.drop (a.length + xs.length) (a ++ b ++ c) = c := by
    rw [h, show a.length + b.length = (a ++ b).length by simp, List.drop_left]
  rw [e1, e2]
theorem F116_eq (R : Type) {rest : List Int} {n : Nat} (hr : rest.length = n % 64) (hn : n ≤ 1000000000) (k : List Int → Bool → Option R) : F116 R rest (n : Int) k = k (padT rest n) true := by
  simp only [F116, p116]
  have c0 : decide ((n : Int) ≥ 2305843009213693952) = false := by simp; omega
  have c1 : (IntKind.u64.wrap (rest.length : Int) != Int.tmod (n : Int) 64) = false := by
    rw [wrap_u64 (by omega) (by omega), Int.tmod_eq_emod_of_nonneg (by omega)]
    simp; omega
  simp only [c0, c1]
  rw [F120_eq R hn, Int.tdiv_eq_ediv_of_nonneg (by omega), wrap_u64 (n := (n : Int) / 64) (by omega) (by omega), wrap_u64 (by omega) (by omega), wrap_i64 (n := (((n + 72) / 64 : Nat) : Int) - (n : Int) / 64) (by omega) (by omega), wrap_i64 (n := _ * 64) (by omega) (by omega)]
  obtain ⟨sz, hsz⟩ : ∃ sz : Nat, ((((n + 72) / 64 : Nat) : Int) - (n : Int) / 64) * 64 = sz := ⟨((n + 72) / 64 - n / 64) * 64, by omega⟩
  have hz : sz = rest.length + 1 + zerosN n + 8 := by unfold zerosN; omega
  rw [hsz]
  have l1 : lay (List.replicate sz (0 : Int)) 0 (List.take (List.replicate sz (0 : Int)).length rest) = rest ++ List.replicate (1 + zerosN n + 8) 0 := by
    unfold lay
    rw [List.take_of_length_le (l := rest) (by simp; omega)]
    simp
    omega
  have l2 : List.set (rest ++ List.replicate (1 + zerosN n + 8) 0) rest.length 128 = (rest ++ 128 :: List.replicate (zerosN n) 0) ++ List.replicate 8 0 ++ [] := by
    rw [List.set_append_right _ _ (Nat.le_refl _), Nat.sub_self, show 1 + zerosN n + 8 = (zerosN n + 8) + 1 by omega, List.replicate_succ, List.set_cons_zero, ← List.replicate_append_replicate]
    simp
  have sh : ishl .u64 (n : Int) 3 = 8 * (n : Int) := by
    unfold ishl
    rw [show (2 : Int) ^ (min (3 : Int).toNat IntKind.u64.bits) = 8 by decide, wrap_u64 (by omega) (by omega)]
    omega
  have hl3 : ((rest ++ 128 :: List.replicate (zerosN n) 0) ++ List.replicate 8 (0 : Int) ++ []).length = sz := by simp; omega
  have d1 : decide (0 ≤ (sz : Int) ∧ (sz : Int) ≤ (sz : Int) ∧ (sz : Int) ≤ 140737488355328) = true := decide_eq_true (by omega)
  have d2 : bnd (rest.length : Int) ((rest ++ List.replicate (1 + zerosN n + 8) (0 : Int)).length : Int) = true := by unfold bnd; simp; omega
  have d3 : decide (0 ≤ (sz : Int) - 8 ∧ (sz : Int) - 8 ≤ (sz : Int) ∧ (sz : Int) ≤ (sz : Int) ∧ (sz : Int) ≤ (sz : Int)) = true := decide_eq_true (by omega)
  have e8 : ((sz : Int) - 8).toNat = (rest ++ 128 :: List.replicate (zerosN n) 0).length := by simp; omega
  have e9 : List.take ((sz : Int) - ((sz : Int) - 8)).toNat (List.take 8 (List.drop 0 (putS (8 * (n : Int))))) = putS (8 * (n : Int)) := by
    rw [show ((sz : Int) - ((sz : Int) - 8)).toNat = 8 by omega]; rfl
  simp only [d1, Int.toNat_natCast, l1, d2, l2, sh]
  rw [F108_eq, wrap_i64 (by omega) (by omega)]
  simp only [hl3, d3, e9, e8]
  rw [lay_mid (by rfl)]
  congr 1
  simp [padT]
end Go.PG
namespace Go.PG
def put32S (a : Int) : List Int := [a / 16777216 % 256, a / 65536 % 256, a / 256 % 256, a % 256]
theorem F123_eq (R : Type) {a : Int} (ha : U32 a) (k : List Int → Option R) : F123 R a k = k (put32S a) := by
  have e24 : ishr .u32 a 24 = a / 16777216 := shr_eq ha (r := 24) (by omega)
  have e16 : ishr .u32 a 16 = a / 65536 := shr_eq ha (r := 16) (by omega)
  have e8 : ishr .u32 a 8 = a / 256 := shr_eq ha (r := 8) (by omega)
  simp only [F123, p123, e24, e16, e8, wrap_u8_mod]
  rfl
def H0 : List Int := [1779033703, 3144134277, 1013904242, 2773480762, 1359893119, 2600822924, 528734635, 1541459225]
theorem F111_eq (R : Type) (k : Wr → Option R) : F111 R k = k (H0, [], 0, ()) := by kernel_rfl
theorem H0_ok : H0.length = 8 ∧ AllU32 H0 := ⟨rfl, fun x hx => by
  simp only [H0, List.mem_cons, List.not_mem_nil, or_false] at hx
  unfold U32
  omega⟩
def layStep (st l : List Int) (i : Nat) : List Int := lay l (4 * i) (put32S (st.getD i 0))
theorem lay_len {l xs : List Int} {lo : Nat} (h : lo + xs.length ≤ l.length) : (lay l lo xs).length = l.length := by
  unfold lay; simp; omega
theorem G118_eq (R : Type) {st : List Int} (hu : AllU32 st) (w : Wr × Unit) (k0 : (Wr × Unit) → List Int → Option R) : ∀ (m i : Nat) (l : List Int), i ≤ 8 → 8 - i < m → G118_2 m R st (i : Int) w l k0 = k0 w ((List.range' i (8 - i)).foldl (layStep st) l)
  | 0, i, l, _, h => by omega
  | m + 1, i, l, h1, h2 => by
    simp only [G118_2, p118_2]
    by_cases hi : i < 8
    · have ih := G118_eq R hu w k0 m (i + 1) (layStep st l i) (by omega) (by omega)
      rw [range'_step hi, List.foldl_cons, ← ih]
      have hd : decide ((i : Int) < 8) = true := by simp; omega
      have hbn : bnd (i : Int) 8 = true := by unfold bnd; simp; omega
      rw [wrap_i64 (n := 4 * (i : Int)) (by omega) (by omega), wrap_i64 (n := (i : Int) + 1) (by omega) (by omega)]
      have c : decide (0 ≤ 4 * (i : Int) ∧ 4 * (i : Int) ≤ 32 ∧ (32 : Int) ≤ 32) = true := decide_eq_true (by omega)
      have e1 : (4 * (i : Int)).toNat = 4 * i := by omega
      have e2 : ∀ a, List.take (Int.toNat (32 - 4 * (i : Int))) (List.take 4 (List.drop 0 (put32S a))) = put32S a := fun a => by
        rw [List.take_of_length_le (l := List.take 4 (List.drop 0 (put32S a))) (by simp [put32S]; omega)]
        rfl
      simp only [hd, hbn, c, Int.toNat_natCast]
      rw [F123_eq R (getD_all hu u32_0 _)]
      simp only [c, e1, e2]
      rfl
    · have : i = 8 := by omega
      subst this
      rfl
end Go.PG
namespace Go.PG
def padM (m : List Int) : List Int := m ++ 128 :: (List.replicate (zerosN m.length) 0 ++ putS (8 * (m.length : Int)))
end Go.PG
namespace Go.PG
def hashS (st : List Int) : List Int := (List.range' 0 8).foldl (layStep st) (List.replicate 32 0)
theorem F118_eq (R : Type) {st : List Int} (u : List Int × Int × Unit) (hu : AllU32 st) (k : List Int → (Wr × Unit) → Option R) : F118 R ((st, u), ()) k = k (hashS st) ((st, u), ()) := by
  simp only [F118, p118]
  exact G118_eq R hu ((st, u), ()) (fun x1 x2 => k x2 x1) FUEL 0 (List.replicate 32 0) (by omega) (by rw [FUEL_eq]; omega)
def SHA (m : List Int) : List Int := hashS (foldB H0 (blkS (padM m)))
theorem putS_u8 (x : Int) : AllU8 (putS x) := fun y hy => by
  simp only [putS, List.mem_cons, List.not_mem_nil, or_false] at hy
  unfold U8
  omega
theorem padT_u8 {rest : List Int} (h : AllU8 rest) (n : Nat) : AllU8 (padT rest n) := fun y hy => by
  unfold padT at hy
  rcases List.mem_append.1 hy with h1 | h1
  · exact h y h1
  · rcases List.mem_cons.1 h1 with rfl | h1
    · unfold U8; omega
    · rcases List.mem_append.1 h1 with h1 | h1
      · rw [List.eq_of_mem_replicate h1]; exact u8_0
      · exact putS_u8 _ y h1
theorem padM_blk (m : List Int) : blkS (padM m) = blkS m ++ blkS (padT (tailS m) m.length) := (blk_append m.length m _ (Nat.le_refl _)).1
theorem F112_eq (R : Type) {m : List Int} (h8 : AllU8 m) (hm : m.length ≤ 500000000) (k : List Int → Int → Option R) : F112 R (wrS H0 m) k = k (SHA m) 0 := by
  have tl := (tailS_len m.length m (Nat.le_refl _)).1
  have ok := blkS_ok m.length m (Nat.le_refl _) h8
  have hf := foldB_ok (blkS m) H0_ok.1 H0_ok.2
  have hp := padT_u8 ok.2 m.length
  simp only [F112, p112, wrS]
  rw [F116_eq R tl (by omega)]
  simp only [Bool.not_true]
  rw [F117_eq R (tailS m, (m.length : Int), ()) hf.1 hf.2 hp (by simp [padT, putS]; unfold zerosN; omega)]
  have hf2 := foldB_ok (blkS (padT (tailS m) m.length)) hf.1 hf.2
  rw [F118_eq R _ hf2.2]
  unfold SHA
  rw [padM_blk]
  unfold foldB
  rw [List.foldl_append]
theorem F109_eq (R : Type) {ps : List (List Int)} (h8 : ∀ p ∈ ps, AllU8 p) (hlen : ps.flatten.length ≤ 500000000) (hnum : ps.length ≤ 1000000000) (k : List Int → Option R) : F109 R ps k = k (SHA ps.flatten) := by
  simp only [F109, p109]
  rw [F111_eq, F110_eq R H0_ok.1 H0_ok.2 h8 hlen hnum]
  refine F112_eq R (fun x hx => ?_) hlen _
  obtain ⟨p, h1, h2⟩ := List.mem_flatten.1 hx
  exact h8 p h1 x h2
end Go.PG
namespace Go.PG
end Go.PG
namespace Go.PG
end Go.PG
namespace Go.PG
theorem wrap_bv8 (b : BitVec 8) : IntKind.u8.wrap ((b.toNat : Nat) : Int) = (b.toNat : Int) := by
  have := b.isLt
  exact wrap_u8 (by omega) (by omega)
def zero32 : List Int := List.replicate 32 0
def H32 (l : List Int) : Prop := l.length = 32 ∧ AllU8 l
theorem zero32_ok : H32 zero32 := ⟨by simp [zero32], fun x hx => by rw [List.eq_of_mem_replicate hx]; exact u8_0⟩
end Go.PG
namespace Go.PG
theorem putS_len (x : Int) : (putS x).length = 8 := rfl
theorem take32 {l : List Int} (h : H32 l) : List.take 32 (List.drop 0 l) = l := by
  rw [List.drop_zero, List.take_of_length_le (by rw [h.1]; omega)]
theorem take8 (x : Int) : List.take 8 (List.drop 0 (putS x)) = putS x := rfl
theorem AllU8.app {a b : List Int} (ha : AllU8 a) (hb : AllU8 b) : AllU8 (a ++ b) := fun x hx => (List.mem_append.1 hx).elim (ha x) (hb x)
theorem fit_h32 {x : List Int} (h : Fit (.arr 32 (.int .u8)) x) : H32 x := ⟨h.1, fun y hy => by have := fit_u8 (h.2 y hy); unfold U8; omega⟩
end Go.PG
namespace Go.PG
end Go.PG
namespace Go.PG
theorem layStep_ok {st l : List Int} (hl : H32 l) {i : Nat} (hi : i < 8) : H32 (layStep st l i) := by
  refine ⟨by unfold layStep; rw [lay_len (by simp [put32S, hl.1]; omega)]; exact hl.1, ?_⟩
  unfold layStep lay
  refine AllU8.app (AllU8.app (fun x hx => hl.2 x (List.mem_of_mem_take hx)) ?_) (fun x hx => hl.2 x (List.mem_of_mem_drop hx))
  intro y hy
  simp only [put32S, List.mem_cons, List.not_mem_nil, or_false] at hy
  unfold U8
  omega
theorem layFold_ok (st : List Int) : ∀ (is : List Nat) {l : List Int}, (∀ i ∈ is, i < 8) → H32 l → H32 (is.foldl (layStep st) l)
  | [], _, _, hl => hl
  | i :: is, _, h, hl => layFold_ok st is (fun j hj => h j (List.mem_cons_of_mem _ hj)) (layStep_ok hl (h i List.mem_cons_self))
theorem SHA_ok (m : List Int) : H32 (SHA m) := by
  unfold SHA hashS
  refine layFold_ok _ _ (fun i hi => ?_) zero32_ok
  rw [List.mem_range'] at hi
  obtain ⟨j, hj, rfl⟩ := hi
  omega
def blockS (a : List Int) (d i : Int) : List Int := SHA (a ++ (putS d ++ putS i))
theorem blockS_ok (a : List Int) (d i : Int) : H32 (blockS a d i) := SHA_ok _
theorem F106_eq (R : Type) {a : List Int} (ha : H32 a) (d i : Int) (k : List Int → Option R) : F106 R a d i k = k (blockS a d i) := by
  simp only [F106, p106]
  rw [F108_eq, F108_eq]
  simp only [take32 ha, take8]
  rw [F109_eq R (fun p hp => by
    simp only [List.mem_cons, List.not_mem_nil, or_false] at hp
    rcases hp with rfl | rfl | rfl
    · exact ha.2
    · exact putS_u8 d
    · exact putS_u8 i) (by simp [ha.1, putS_len]) (by simp)]
  simp [blockS]
def U64 (x : Int) : Prop := 0 ≤ x ∧ x < 18446744073709551616
theorem wrap_bv64 (b : BitVec 64) : IntKind.u64.wrap ((b.toNat : Nat) : Int) = (b.toNat : Int) := by
  have := b.isLt
  exact wrap_u64 (by omega) (by omega)
theorem iand_u64 (a b : Int) : iand .u64 a b = ((BitVec.ofInt 64 a &&& BitVec.ofInt 64 b).toNat : Int) := wrap_bv64 _
theorem ior_u64 (a b : Int) : ior .u64 a b = ((BitVec.ofInt 64 a ||| BitVec.ofInt 64 b).toNat : Int) := wrap_bv64 _
theorem iand_mask {x : Int} (hx : U64 x) (n : Nat) (hn : n < 64) : iand .u64 x ((2 ^ n - 1 : Nat) : Int) = x % 2 ^ n := by
  unfold U64 at hx
  obtain ⟨y, rfl⟩ : ∃ y : Nat, x = y := ⟨x.toNat, by omega⟩
  have h1 : (2 : Nat) ^ n < 2 ^ 64 := Nat.pow_lt_pow_right (by omega) hn
  have h0 : 0 < (2 : Nat) ^ n := Nat.pow_pos (by omega)
  rw [iand_u64, BitVec.ofInt_natCast, BitVec.ofInt_natCast, BitVec.toNat_and, BitVec.toNat_ofNat, BitVec.toNat_ofNat, Nat.mod_eq_of_lt (by omega), Nat.mod_eq_of_lt (by omega), Nat.and_two_pow_sub_one_eq_mod]
  simp
def bitS (a : List Int) (d n : Int) : Int := (blockS a d (n / 256)).getD (n % 256 / 8).toNat 0 / 2 ^ (7 - n % 8).toNat % 2
end Go.PG
namespace Go.PG
end Go.PG
namespace Go.PG
abbrev Src := Int × (List Int × (Int × (List Int × (Int × (Int × Unit)))))
abbrev Rdr := Src × (List Int × (Int × (Bool × Unit)))
def atS (s : Src) : Int := s.2.2.2.2.2.1
def setAt (s : Src) (n : Int) : Src := (s.1, s.2.1, s.2.2.1, s.2.2.2.1, s.2.2.2.2.1, n, ())
structure SOK (s : Src) : Prop where
  tape : AllU8 s.2.1
  len : s.2.1.length ≤ 1000000
  bits : U64 s.2.2.1
  seed : H32 s.2.2.2.1
  dom : U64 s.2.2.2.2.1
  at_ : U64 s.2.2.2.2.2.1
theorem SOK.set {s : Src} (h : SOK s) {n : Int} (hn : U64 n) : SOK (setAt s n) := ⟨h.tape, h.len, h.bits, h.seed, h.dom, hn⟩
def rightS' (s : Src) : Bool := if s.1 = 1 then decide (s.2.2.1 ≤ 8 * (s.2.1.length : Int) ∧ s.2.2.2.2.2.1 ≤ s.2.2.1) else decide (s.1 = 2 ∧ s.2.2.2.2.2.1 ≤ 4611686018427387904)
def endS (s : Src) : Int := if s.1 = 1 then s.2.2.1 else 4611686018427387904
def leftS (s : Src) : Int := if rightS' s = true then endS s - s.2.2.2.2.2.1 else 0
def bitAt (s : Src) (n : Int) : Int := if s.1 = 1 then s.2.1.getD (n / 8).toNat 0 / 2 ^ (7 - n % 8).toNat % 2 else bitS s.2.2.2.1 s.2.2.2.2.1 n
theorem F95_eq (R : Type) {s : Src} (h : SOK s) (k : Int → Bool → Option R) : F95 R s k = (if s.1 = 1 then k s.2.2.1 (decide (s.2.2.1 ≤ 8 * (s.2.1.length : Int))) else if s.1 = 2 then k 4611686018427387904 true else k 0 false) := by
  have hl := h.len
  simp only [F95, p95]
  rw [wrap_u64 (n := (s.2.1.length : Int)) (by omega) (by omega), wrap_u64 (n := (s.2.1.length : Int) * 8) (by omega) (by omega), Int.mul_comm]
  by_cases h1 : s.1 = 1
  · simp [h1]
  · by_cases h2 : s.1 = 2
    · simp [h2]
    · simp only [beq_eq_false_iff_ne.2 h1, beq_eq_false_iff_ne.2 h2, if_neg h1, if_neg h2]
theorem F75_eq (R : Type) {s : Src} (h : SOK s) (k : Bool → Option R) : F75 R s k = k (rightS' s) := by
  simp only [F75, p75]
  rw [F95_eq R h]
  unfold rightS'
  by_cases h1 : s.1 = 1
  · simp only [h1, if_true]
    by_cases h2 : s.2.2.1 ≤ 8 * (s.2.1.length : Int)
    · simp [h2]
    · simp [h2]
  · simp only [h1, if_false]
    by_cases h2 : s.1 = 2
    · simp [h2]
    · simp [h2]
theorem right_spec {s : Src} (h : rightS' s = true) : (s.1 = 1 ∧ s.2.2.1 ≤ 8 * (s.2.1.length : Int) ∧ s.2.2.2.2.2.1 ≤ s.2.2.1 ∧ endS s = s.2.2.1) ∨ (s.1 = 2 ∧ s.2.2.2.2.2.1 ≤ 4611686018427387904 ∧ endS s = 4611686018427387904) := by
  unfold rightS' at h
  unfold endS
  by_cases h1 : s.1 = 1
  · rw [if_pos h1] at h ⊢
    have := of_decide_eq_true h
    exact .inl ⟨h1, this.1, this.2, rfl⟩
  · rw [if_neg h1] at h ⊢
    have := of_decide_eq_true h
    exact .inr ⟨this.1, this.2, rfl⟩
theorem left_ok {s : Src} (hs : SOK s) : 0 ≤ leftS s ∧ leftS s ≤ 4611686018427387904 ∧ (rightS' s = true → s.2.2.2.2.2.1 + leftS s = endS s) := by
  have h1 := hs.at_; have h2 := hs.bits; have h3 := hs.len
  unfold U64 at h1 h2
  unfold leftS
  by_cases h : rightS' s = true
  · rw [if_pos h]
    rcases right_spec h with ⟨_, a2, a3, a4⟩ | ⟨_, a2, a3⟩
    · rw [a4]; omega
    · rw [a3]; omega
  · rw [if_neg h]
    exact ⟨by omega, by omega, fun e => absurd e h⟩
theorem F84_eq (R : Type) {s : Src} (h : SOK s) (k : Int → Option R) : F84 R s k = k (leftS s) := by
  have hl := left_ok h
  simp only [F84, p84]
  rw [F75_eq R h, F95_eq R h]
  unfold leftS at *
  by_cases hr : rightS' s = true
  · have hr' := hr
    simp only [hr, Bool.not_true, if_true] at hl ⊢
    rcases right_spec hr' with ⟨a1, a2, a3, a4⟩ | ⟨a1, a2, a3⟩
    · rw [if_pos a1, a4, wrap_u64 (by rw [a4] at hl; omega) (by rw [a4] at hl; omega)]
    · rw [if_neg (by omega), if_pos a1, a3, wrap_u64 (by rw [a3] at hl; omega) (by rw [a3] at hl; omega)]
  · simp only [Bool.not_eq_true] at hr
    simp [hr]
theorem bit_range (s : Src) (n : Int) : 0 ≤ bitAt s n ∧ bitAt s n ≤ 1 := by
  unfold bitAt bitS
  split <;> omega
def RI (r : Rdr) : Prop := r.2.2.2.1 = true → r.2.1 = blockS r.1.2.2.2.1 r.1.2.2.2.2.1 r.2.2.1
theorem iand_u8_1 {x : Int} (hx : U8 x) : iand .u8 x 1 = x % 2 := by
  unfold U8 at hx
  obtain ⟨y, rfl⟩ : ∃ y : Nat, x = y := ⟨x.toNat, by omega⟩
  have e : iand .u8 (y : Int) 1 = ((BitVec.ofInt 8 (y : Int) &&& BitVec.ofInt 8 ((1 : Nat) : Int)).toNat : Int) := wrap_bv8 _
  rw [e, BitVec.ofInt_natCast, BitVec.ofInt_natCast, BitVec.toNat_and, BitVec.toNat_ofNat, BitVec.toNat_ofNat, Nat.mod_eq_of_lt (by omega), Nat.mod_eq_of_lt (by omega), show (1 : Nat) = 2 ^ 1 - 1 by rfl, Nat.and_two_pow_sub_one_eq_mod]
  simp
theorem u85_eq (R : Type) (r : Rdr) {y : Int} (hy : U8 y) (hat : 0 ≤ atS r.1 ∧ atS r.1 < 9000000000000000000) (q : List Int × (Int × (Bool × Unit))) (k : Int → Rdr → Option R) :
    u85 R r y q k = k (y / 2 ^ (7 - atS r.1 % 8).toNat % 2) (setAt r.1 (atS r.1 + 1), q) := by
  unfold atS at *
  simp only [u85]
  unfold setAt
  generalize r.1.2.2.2.2.2.1 = n at *
  rw [Int.tmod_eq_emod_of_nonneg hat.1, wrap_u64 (n := 7 - n % 8) (by omega) (by omega), wrap_u64 (n := n + 1) (by omega) (by omega)]
  obtain ⟨m, hm⟩ : ∃ m : Nat, 7 - n % 8 = m := ⟨(7 - n % 8).toNat, by omega⟩
  rw [hm, Int.toNat_natCast]
  have e8 : ishr .u8 y (m : Int) = y / 2 ^ m := by
    unfold ishr
    rw [show IntKind.u8.bits = 8 from rfl, Int.toNat_natCast, Nat.min_eq_left (by omega), Int.fdiv_eq_ediv_of_nonneg _ (by have := two_pow_pos m; omega)]
  unfold U8 at hy
  have hp : (0 : Int) < 2 ^ m := Int.pow_pos (by decide)
  have hq : 0 ≤ y / 2 ^ m ∧ y / 2 ^ m ≤ y := ⟨Int.ediv_nonneg hy.1 (by omega), Int.ediv_le_self _ hy.1⟩
  rw [e8, iand_u8_1 (by unfold U8; omega), wrap_u64 (by omega) (by omega)]
theorem F85_eq (R : Type) {r : Rdr} (h : SOK r.1) (hi : RI r) (hk : (r.1.1 = 1 ∧ atS r.1 < 8 * (r.1.2.1.length : Int)) ∨ r.1.1 = 2) (hat : atS r.1 < 9000000000000000000) (k : Int → Rdr → Option R) :
    ∃ q, RI (setAt r.1 (atS r.1 + 1), q) ∧ F85 R r k = k (bitAt r.1 (atS r.1)) (setAt r.1 (atS r.1 + 1), q) := by
  have hl := h.len
  have ha := h.at_
  have hat' : 0 ≤ atS r.1 ∧ atS r.1 < 9000000000000000000 := ⟨ha.1, hat⟩
  simp only [F85]
  show ∃ q, RI (setAt r.1 (atS r.1 + 1), q) ∧ (F102 R r (IntKind.u64.wrap (Int.tdiv (atS r.1) 8)) fun y2 p3 => match decide (0 ≤ IntKind.u64.wrap (7 - Int.tmod (atS r.1) 8)) with | true => u85 R r y2 p3.2 k | false => none) = _
  have hdc : decide (0 ≤ IntKind.u64.wrap (7 - Int.tmod (atS r.1) 8)) = true := by
    rw [wrap_u64_mod]; exact decide_eq_true (by omega)
  simp only [hdc]
  rw [Int.tdiv_eq_ediv_of_nonneg hat'.1, wrap_u64 (n := atS r.1 / 8) (by omega) (by omega)]
  simp only [F102, p102]
  generalize hn : atS r.1 = n at *
  unfold bitAt
  rcases hk with ⟨a1, a2⟩ | a1
  · have e1 : (r.1.1 == 1) = true := by simp [a1]
    have hb : bnd (n / 8) (r.1.2.1.length : Int) = true := by unfold bnd; simp; omega
    simp only [e1, hb]
    refine ⟨r.2, hi, ?_⟩
    rw [if_pos a1, u85_eq R r (getD_all h.tape u8_0 _) (by rw [hn]; exact hat'), hn]
  · have e1 : (r.1.1 == 1) = false := by simp [a1]
    simp only [e1]
    rw [if_neg (by omega), Int.tdiv_eq_ediv_of_nonneg (by omega), wrap_u64 (n := n / 8 / 32) (by omega) (by omega), Int.tmod_eq_emod_of_nonneg (by omega)]
    have hb : bnd (n / 8 % 32) 32 = true := by unfold bnd; simp; omega
    have hbit : (blockS r.1.2.2.2.1 r.1.2.2.2.2.1 (n / 8 / 32)).getD (n / 8 % 32).toNat 0 / 2 ^ (7 - n % 8).toNat % 2 = bitS r.1.2.2.2.1 r.1.2.2.2.2.1 n := by
      unfold bitS
      rw [show n / 8 / 32 = n / 256 by omega, show n / 8 % 32 = n % 256 / 8 by omega]
    have hu := fun i => getD_all (blockS_ok r.1.2.2.2.1 r.1.2.2.2.2.1 (n / 8 / 32)).2 u8_0 i
    have go : ∀ q, u85 R r ((blockS r.1.2.2.2.1 r.1.2.2.2.2.1 (n / 8 / 32)).getD (n / 8 % 32).toNat 0) q k = k (bitS r.1.2.2.2.1 r.1.2.2.2.2.1 n) (setAt r.1 (n + 1), q) := fun q => by
      rw [u85_eq R r (hu _) (by rw [hn]; exact hat'), hn, hbit]
    have fresh : (F106 R r.1.2.2.2.1 r.1.2.2.2.2.1 (n / 8 / 32) fun y5 => match bnd (n / 8 % 32) 32 with
        | true => u85 R r (y5.getD (n / 8 % 32).toNat 0) (r.1, y5, n / 8 / 32, true, r.2.2.2.2).2 k
        | false => none) = k (bitS r.1.2.2.2.1 r.1.2.2.2.2.1 n) (setAt r.1 (n + 1), (blockS r.1.2.2.2.1 r.1.2.2.2.2.1 (n / 8 / 32), n / 8 / 32, true, ())) := by
      rw [F106_eq R h.seed]
      simp only [hb]
      exact go _
    cases hs : r.2.2.2.1 with
    | false =>
      simp only [Bool.not_false]
      exact ⟨_, fun _ => rfl, fresh⟩
    | true =>
      simp only [Bool.not_true]
      by_cases hne : n / 8 / 32 = r.2.2.1
      · have e2 : (n / 8 / 32 != r.2.2.1) = false := by simp [hne]
        simp only [e2, hb]
        refine ⟨r.2, fun e => hi e, ?_⟩
        have := hi hs
        rw [← hne] at this
        rw [this]
        exact go _
      · have e2 : (n / 8 / 32 != r.2.2.1) = true := by simp [hne]
        simp only [e2]
        exact ⟨_, fun _ => rfl, fresh⟩
end Go.PG
namespace Go.PG
def takeV (s : Src) (a : Int) : Nat → Int
  | 0 => 0
  | n + 1 => 2 * takeV s a n + bitAt s (a + n)
theorem takeV_range (s : Src) (a : Int) : ∀ n : Nat, 0 ≤ takeV s a n ∧ takeV s a n < 2 ^ n
  | 0 => by simp [takeV]
  | n + 1 => by
    have ih := takeV_range s a n
    have hb := bit_range s (a + n)
    simp only [takeV]
    rw [Int.pow_succ]
    omega
theorem takeV_set (s : Src) (x a : Int) : ∀ n : Nat, takeV (setAt s x) a n = takeV s a n
  | 0 => rfl
  | n + 1 => by simp only [takeV, takeV_set s x a n]; rfl
theorem ior_shl1 {x b : Int} (hx : 0 ≤ x ∧ x < 9223372036854775808) (hb : 0 ≤ b ∧ b ≤ 1) : ior .u64 (ishl .u64 x 1) b = 2 * x + b := by
  obtain ⟨n, rfl⟩ : ∃ n : Nat, x = n := ⟨x.toNat, by omega⟩
  obtain ⟨c, rfl⟩ : ∃ c : Nat, b = c := ⟨b.toNat, by omega⟩
  have e2 : ishl .u64 (n : Int) 1 = ((n * 2 : Nat) : Int) := by
    unfold ishl
    rw [show (2 : Int) ^ (min (1 : Int).toNat IntKind.u64.bits) = 2 by decide, wrap_u64 (by omega) (by omega)]
    simp
  rw [e2, ior_u64, BitVec.ofInt_natCast, BitVec.ofInt_natCast, BitVec.toNat_or, BitVec.toNat_ofNat, BitVec.toNat_ofNat, Nat.mod_eq_of_lt (by omega), Nat.mod_eq_of_lt (by omega)]
  have h6 := Nat.shiftLeft_add_eq_or_of_lt (i := 1) (b := c) (by omega) n
  rw [Nat.shiftLeft_eq] at h6
  rw [show n * 2 = n * 2 ^ 1 by rfl, ← h6]
  simp; omega
theorem setAt_set (s : Src) (x y : Int) : setAt (setAt s x) y = setAt s y := rfl
theorem atS_set (s : Src) (x : Int) : atS (setAt s x) = x := rfl
theorem G59_eq (R : Type) {s : Src} (h : SOK s) {K : Nat} (hK : K ≤ 64) (hk : (s.1 = 1 ∧ atS s + K ≤ 8 * (s.2.1.length : Int)) ∨ s.1 = 2) (hat : atS s + K < 9000000000000000000) (x4 : Src) (k0 : Int → Src → Rdr → Option R) :
    ∀ (m i : Nat) (r : Rdr), i ≤ K → K - i < m → r.1 = setAt s (atS s + i) → RI r → ∃ q, G59_7 m R (takeV s (atS s) i) (K : Int) (i : Int) x4 r k0 = k0 (takeV s (atS s) K) x4 (setAt s (atS s + K), q)
  | 0, i, _, _, h, _, _ => by omega
  | m + 1, i, r, h1, h2, hr, hi => by
    simp only [G59_7, p59_7]
    have h0 := h.at_
    unfold U64 at h0
    have h0' : 0 ≤ atS s := h0.1
    by_cases hlt : i < K
    · have hd : decide ((i : Int) < (K : Int)) = true := by simpa using hlt
      simp only [hd]
      have hra : atS r.1 = atS s + i := by rw [hr]; rfl
      have hlen : r.1.2.1 = s.2.1 := by rw [hr]; rfl
      have hknd : r.1.1 = s.1 := by rw [hr]; rfl
      obtain ⟨q, g1, g2⟩ := F85_eq R (r := r) (by rw [hr]; exact h.set (by unfold U64; omega)) hi (by
        rw [hra, hlen, hknd]
        rcases hk with ⟨b1, b2⟩ | b1
        · exact .inl ⟨b1, by omega⟩
        · exact .inr b1) (by rw [hra]; omega) (fun y8 p9 => G59_7 m R (ior .u64 (ishl .u64 (takeV s (atS s) i) 1) y8) (K : Int) (IntKind.i64.wrap ((i : Int) + 1)) x4 p9 k0)
      have hv := takeV_range s (atS s) i
      have hp : (2 : Int) ^ i ≤ 9223372036854775808 := by
        have : (2 : Nat) ^ i ≤ 2 ^ 63 := Nat.pow_le_pow_right (by omega) (by omega)
        have e : ((2 ^ i : Nat) : Int) = (2 : Int) ^ i := by simp
        omega
      have hbt : bitAt r.1 (atS r.1) = bitAt s (atS s + i) := by rw [hra, hr]; rfl
      obtain ⟨q2, g3⟩ := G59_eq R h hK hk hat x4 k0 m (i + 1) (setAt r.1 (atS r.1 + 1), q) (by omega) (by omega) (by
        show setAt r.1 (atS r.1 + 1) = _
        rw [hra, hr, setAt_set]
        congr 1
        omega) g1
      refine ⟨q2, ?_⟩
      rw [g2, ior_shl1 ⟨hv.1, by omega⟩ (bit_range _ _), hbt, wrap_i64 (n := (i : Int) + 1) (by omega) (by omega)]
      exact g3
    · have : i = K := by omega
      subst this
      have hd : decide ((i : Int) < (i : Int)) = false := by simp
      simp only [hd]
      refine ⟨r.2, ?_⟩
      rw [← hr]
def takeR (s : Src) (k : Int) : Int × Src × Int :=
  if rightS' s = true ∧ 0 ≤ k ∧ k ≤ 64 then (if k ≤ leftS s then (takeV s (atS s) k.toNat, setAt s (atS s + k), 0) else (0, s, 8)) else (0, s, 1)
theorem right_room {s : Src} (hs : SOK s) (hr : rightS' s = true) {k : Nat} (hk : (k : Int) ≤ leftS s) : ((s.1 = 1 ∧ atS s + k ≤ 8 * (s.2.1.length : Int)) ∨ s.1 = 2) ∧ atS s + k < 9000000000000000000 := by
  have hl := left_ok hs
  have := hl.2.2 hr
  have hln := hs.len
  unfold atS
  rcases right_spec hr with ⟨a1, a2, a3, a4⟩ | ⟨a1, a2, a3⟩
  · rw [a4] at this
    exact ⟨.inl ⟨a1, by omega⟩, by omega⟩
  · exact ⟨.inr a1, by omega⟩
theorem F59_eq (R : Type) {s : Src} (hs : SOK s) {n : Int} (k : Int → Src → Int → Option R) : F59 R s n k = k (takeR s n).1 (takeR s n).2.1 (takeR s n).2.2 := by
  simp only [F59, p59]
  rw [F75_eq R hs]
  unfold takeR
  by_cases hr : rightS' s = true
  · simp only [hr, Bool.not_true, true_and]
    by_cases h1 : n < 0
    · rw [if_neg (by omega)]
      simp only [decide_eq_true h1]
    · simp only [decide_eq_false h1]
      by_cases h2 : n > 64
      · rw [if_neg (by omega)]
        simp only [decide_eq_true h2]
      · rw [if_pos (by omega)]
        simp only [decide_eq_false h2]
        rw [wrap_u64 (n := n) (by omega) (by omega), F84_eq R hs]
        by_cases h3 : n > leftS s
        · rw [if_neg (by omega)]
          simp only [decide_eq_true h3]
        · rw [if_pos (by omega)]
          simp only [decide_eq_false h3]
          obtain ⟨m, rfl⟩ : ∃ m : Nat, n = m := ⟨n.toNat, by omega⟩
          have hroom := right_room hs hr (k := m) (by omega)
          obtain ⟨q, g⟩ := G59_eq R hs (K := m) (by omega) hroom.1 hroom.2 (0, [], 0, List.replicate 32 0, 0, 0, ()) (fun x7 x8 x9 => k x7 x9.1 0) FUEL 0 (s, List.replicate 32 0, 0, false, ()) (by omega) (by rw [FUEL_eq]; omega) (by simp only [Int.natCast_zero, Int.add_zero]; rfl) (fun e => by cases e)
          refine g.trans ?_
          rw [Int.toNat_natCast]
  · simp only [Bool.not_eq_true] at hr
    simp [hr]
end Go.PG
namespace Go.PG
structure SFit (s : Src) : Prop where
  tape : AllU8 s.2.1
  bits : U64 s.2.2.1
  seed : H32 s.2.2.2.1
  dom : U64 s.2.2.2.2.1
  at_ : U64 s.2.2.2.2.2.1
theorem SFit.ok {s : Src} (h : SFit s) (hl : s.2.1.length ≤ 1000000) : SOK s := ⟨h.tape, hl, h.bits, h.seed, h.dom, h.at_⟩
theorem fit_src {s : Src} (h : Fit (.pair (.int .i64) (.pair (.sl (.int .u8)) (.pair (.int .u64) (.pair (.arr 32 (.int .u8)) (.pair (.int .u64) (.pair (.int .u64) .unit)))))) s) : SFit s := by
  obtain ⟨_, ⟨_, h2⟩, h3, h4, h5, h6, _⟩ := h
  refine ⟨fun y hy => ?_, ?_, fit_h32 h4, ?_, ?_⟩
  · have := fit_u8 (h2 y hy); unfold U8; omega
  · have := fit_u64 h3; unfold U64; omega
  · have := fit_u64 h5; unfold U64; omega
  · have := fit_u64 h6; unfold U64; omega
def zeroSrc : Src := (0, [], 0, List.replicate 32 0, 0, 0, ())
def tapeSrc (b : List Int) (n : Int) : Src := (1, b, n, List.replicate 32 0, 0, 0, ())
theorem tapeSrc_ok {b : List Int} (hb : AllU8 b) (hl : b.length ≤ 1000000) {n : Int} (hn : U64 n) : SOK (tapeSrc b n) := ⟨hb, hl, hn, zero32_ok, by unfold U64 tapeSrc; simp, by unfold U64 tapeSrc; simp⟩
def tapeR (b : List Int) (n : Int) : Src × Int := if n ≤ 8 * (b.length : Int) then (tapeSrc b n, 0) else (zeroSrc, 1)
theorem F12_eq (R : Type) {b : List Int} (hl : b.length ≤ 1000000) (n : Int) (k : Src → Int → Option R) : F12 R b n k = k (tapeR b n).1 (tapeR b n).2 := by
  simp only [F12, p12]
  have hc : decide (List.length ([] : List Int) + b.length ≤ 140737488355328) = true := by simp; omega
  simp only [hc, List.nil_append]
  rw [wrap_u64 (n := (b.length : Int)) (by omega) (by omega), wrap_u64 (n := 8 * (b.length : Int)) (by omega) (by omega)]
  unfold tapeR
  by_cases h : n ≤ 8 * (b.length : Int)
  · have h' : ¬ n > 8 * (b.length : Int) := by omega
    rw [if_pos h]
    simp only [decide_eq_false h']
    rfl
  · have h' : n > 8 * (b.length : Int) := by omega
    rw [if_neg h]
    simp only [decide_eq_true h']
    rfl
theorem takeR_ok {s : Src} {n : Nat} (hr : rightS' s = true) (h1 : n ≤ 64) (h2 : (n : Int) ≤ leftS s) : takeR s n = (takeV s (atS s) n, setAt s (atS s + n), 0) := by
  unfold takeR
  rw [if_pos ⟨hr, by omega, by omega⟩, if_pos h2, Int.toNat_natCast]
end Go.PG
namespace Go.PG
def blenF : Nat → Nat → Nat
  | 0, _ => 0
  | f + 1, x => if x = 0 then 0 else blenF f (x / 2) + 1
theorem blenF_spec : ∀ (f x : Nat), x < 2 ^ f → x < 2 ^ blenF f x ∧ (x ≠ 0 → 2 ^ (blenF f x - 1) ≤ x) ∧ blenF f x ≤ f
  | 0, x, h => by simp at h; subst h; simp [blenF]
  | f + 1, x, h => by
    rw [Nat.pow_succ] at h
    simp only [blenF]
    by_cases h0 : x = 0
    · subst h0; simp
    · rw [if_neg h0]
      obtain ⟨h1, h2, h3⟩ := blenF_spec f (x / 2) (by omega)
      refine ⟨?_, fun _ => ?_, by omega⟩
      · rw [Nat.pow_succ]; omega
      · rw [Nat.add_sub_cancel]
        by_cases hx : x / 2 = 0
        · have e : blenF f (x / 2) = 0 := by
            rw [hx]
            cases f with
            | zero => rfl
            | succ f => simp [blenF]
          rw [e, Nat.pow_zero]; omega
        · have := h2 hx
          have hb : blenF f (x / 2) ≠ 0 := fun e => by rw [e, Nat.pow_zero] at h1; omega
          obtain ⟨b, hb⟩ : ∃ b, blenF f (x / 2) = b + 1 := ⟨blenF f (x / 2) - 1, by omega⟩
          rw [hb, Nat.add_sub_cancel] at this
          rw [hb, Nat.pow_succ]
          omega
theorem G86_eq (R : Type) (k0 : Int → Option R) : ∀ (f m x c : Nat), x < 2 ^ f → f ≤ 64 → f < m → c + f ≤ 1000 → G86_1 m R (x : Int) (c : Int) k0 = k0 ((c + blenF f x : Nat) : Int)
  | _, 0, _, _, _, _, h, _ => by omega
  | 0, m + 1, x, c, h, _, _, _ => by
    simp at h; subst h
    simp only [G86_1, p86_1, blenF]
    rfl
  | f + 1, m + 1, x, c, h, hf, hm, hc => by
    simp only [G86_1, p86_1, blenF]
    rw [Nat.pow_succ] at h
    by_cases h0 : x = 0
    · subst h0
      simp
    · have e : ((x : Int) != 0) = true := by simp [h0]
      have e2 : ishr .u64 (x : Int) 1 = ((x / 2 : Nat) : Int) := by
        have := shr64 (x := (x : Int)) 1 (by omega)
        refine this.trans ?_
        omega
      simp only [e, if_neg h0]
      have ih := G86_eq R k0 f m (x / 2) (c + 1) (by omega) (by omega) (by omega) (by omega)
      rw [wrap_i64 (n := (c : Int) + 1) (by omega) (by omega), e2, show c + (blenF f (x / 2) + 1) = c + 1 + blenF f (x / 2) by omega]
      exact ih
theorem G28_eq (R : Type) (k0 : Int → Option R) : ∀ (f m x c : Nat), x < 2 ^ f → f ≤ 64 → f < m → c + f ≤ 1000 → G28_2 m R (x : Int) (c : Int) k0 = k0 ((c + blenF f x : Nat) : Int)
  | _, 0, _, _, _, _, h, _ => by omega
  | 0, m + 1, x, c, h, _, _, _ => by
    simp at h; subst h
    simp only [G28_2, p28_2, blenF]
    rfl
  | f + 1, m + 1, x, c, h, hf, hm, hc => by
    simp only [G28_2, p28_2, blenF]
    have hx64 : x < 2 ^ 64 := Nat.lt_of_lt_of_le h (Nat.pow_le_pow_right (by omega) hf)
    rw [Nat.pow_succ] at h
    by_cases h0 : x = 0
    · subst h0
      simp
    · have e : decide ((x : Int) > 0) = true := decide_eq_true (by omega)
      have e2 : IntKind.u64.wrap (Int.tdiv (x : Int) 2) = ((x / 2 : Nat) : Int) := by
        rw [Int.tdiv_eq_ediv_of_nonneg (by omega), wrap_u64 (by omega) (by omega)]
        omega
      simp only [e, if_neg h0, e2]
      have ih := G28_eq R k0 f m (x / 2) (c + 1) (by omega) (by omega) (by omega) (by omega)
      rw [wrap_i64 (n := (c : Int) + 1) (by omega) (by omega), show c + (blenF f (x / 2) + 1) = c + 1 + blenF f (x / 2) by omega]
      exact ih
def needS (n : Int) : Nat := blenF 64 (n - 1).toNat
theorem need_spec {n : Int} (hn : U64 n) : needS n ≤ 64 ∧ n ≤ 2 ^ needS n ∧ (2 ≤ n → 1 ≤ needS n ∧ (2 : Int) ^ (needS n - 1) < n) := by
  unfold U64 at hn
  obtain ⟨h1, h2, h3⟩ := blenF_spec 64 (n - 1).toNat (by omega)
  unfold needS
  generalize blenF 64 (n - 1).toNat = b at *
  have e : ∀ j : Nat, ((2 ^ j : Nat) : Int) = (2 : Int) ^ j := fun j => by simp
  refine ⟨h3, ?_, fun h => ⟨?_, ?_⟩⟩
  · rw [← e]; omega
  · cases b with
    | zero => rw [Nat.pow_zero] at h1; omega
    | succ b => omega
  · have := h2 (by omega)
    rw [← e]; omega
theorem F60_eq (R : Type) {n : Int} (hn : U64 n) (k : Int → Option R) : F60 R n k = k (needS n : Int) := by
  have hn' := hn
  unfold U64 at hn
  simp only [F60, p60, F86, p86]
  have e : IntKind.u64.wrap ((if (1 : Int) > n then (1 : Int) else n) - 1) = ((n - 1).toNat : Int) := by
    split
    · rw [wrap_u64 (by omega) (by omega)]; omega
    · rw [wrap_u64 (by omega) (by omega)]; omega
  rw [e]
  have := G86_eq R (fun x1 => k x1) 64 FUEL (n - 1).toNat 0 (by omega) (by omega) (by rw [FUEL_eq]; omega) (by omega)
  rw [Nat.zero_add] at this
  exact this
theorem F9_eq (R : Type) {n : Int} (hn : U64 n) (k : Int → Option R) : F9 R n k = k (needS n : Int) := by
  have hn' := hn
  unfold U64 at hn
  simp only [F9, p9, F28, p28]
  by_cases h0 : n = 0
  · subst h0; rfl
  · have e0 : (n == 0) = false := by simp [h0]
    simp only [e0]
    have e : IntKind.u64.wrap (n - 1) = ((n - 1).toNat : Int) := by
      rw [wrap_u64 (by omega) (by omega)]; omega
    rw [e]
    have := G28_eq R (fun x1 => k x1) 64 FUEL (n - 1).toNat 0 (by omega) (by omega) (by rw [FUEL_eq]; omega) (by omega)
    rw [Nat.zero_add] at this
    exact this
def drawF (n : Int) : Nat → Src → Int × Src × Int
  | 0, s => (0, s, 9)
  | m + 1, s => if (takeR s (needS n)).2.2 = 0 then (if (takeR s (needS n)).1 < n then ((takeR s (needS n)).1, (takeR s (needS n)).2.1, 0) else drawF n m (takeR s (needS n)).2.1) else (0, s, (takeR s (needS n)).2.2)
theorem takeR_ok1 {s : Src} (hs : SOK s) (k : Int) : SOK (takeR s k).2.1 := by
  unfold takeR
  split
  · rename_i h
    split
    · rename_i h2
      have hl := left_ok hs
      have h0 : 0 ≤ atS s := hs.at_.1
      have := right_room hs h.1 (k := k.toNat) (by omega)
      refine hs.set ?_
      unfold U64
      omega
    · exact hs
  · exact hs
theorem takeR_zero {s : Src} {k : Nat} (h : (takeR s k).2.2 = 0) : rightS' s = true ∧ k ≤ 64 ∧ (k : Int) ≤ leftS s ∧ takeR s k = (takeV s (atS s) k, setAt s (atS s + k), 0) := by
  unfold takeR at h
  split at h
  · rename_i h1
    split at h
    · rename_i h2
      exact ⟨h1.1, by omega, h2, takeR_ok h1.1 (by omega) h2⟩
    · simp at h
  · simp at h
theorem G34_eq (R : Type) {n : Int} (hn : U64 n) (a : Nat) (ha : a ≤ 64) (x5 : Src) (k0 : Int → Int → Src → Option R) (k1 : Src → Src → Option R) :
    ∀ (m i : Nat) (s : Src), i ≤ a → a - i < m → SOK s → (∀ y : Src, k1 y x5 = k0 0 9 y) → G34_4 m R n (a : Int) (i : Int) s x5 k0 k1 = k0 (drawF n (a - i) s).1 (drawF n (a - i) s).2.2 (drawF n (a - i) s).2.1
  | 0, i, _, _, h, _, _ => by omega
  | m + 1, i, s, h1, h2, hs, hk => by
    simp only [G34_4, p34_4]
    by_cases hi : i < a
    · have hd : decide ((i : Int) < (a : Int)) = true := by simpa using hi
      simp only [hd]
      rw [F60_eq R hn, F59_eq R hs, show a - i = (a - (i + 1)) + 1 by omega]
      simp only [drawF]
      have ih := G34_eq R hn a ha x5 k0 k1 m (i + 1) (takeR s (needS n)).2.1 (by omega) (by omega) (takeR_ok1 hs _) hk
      generalize takeR s (needS n) = t at *
      by_cases he : t.2.2 = 0
      · have e1 : (t.2.2 != 0) = false := by simp [he]
        simp only [e1, if_pos he]
        by_cases hx : t.1 < n
        · simp only [decide_eq_true hx, if_pos hx]
        · simp only [decide_eq_false hx, if_neg hx]
          rw [wrap_i64 (n := (i : Int) + 1) (by omega) (by omega)]
          exact ih
      · have e1 : (t.2.2 != 0) = true := by simp [he]
        simp only [e1, if_neg he]
    · have : i = a := by omega
      subst this
      have hd : decide ((i : Int) < (i : Int)) = false := by simp
      simp only [hd, Nat.sub_self, drawF]
      exact hk s
def drawR (s : Src) (n m : Int) : Int × Src × Int := if rightS' s = true ∧ 0 < n ∧ n < 9223372036854775808 ∧ 0 < m ∧ m ≤ 64 then drawF n m.toNat s else (0, s, 1)
theorem F34_eq (R : Type) {s : Src} (hs : SOK s) {n : Int} (hn : U64 n) (m : Int) (k : Int → Src → Int → Option R) : F34 R s n m k = k (drawR s n m).1 (drawR s n m).2.1 (drawR s n m).2.2 := by
  simp only [F34, p34, F58, p58]
  rw [F75_eq R hs]
  unfold drawR
  by_cases hr : rightS' s = true
  · simp only [hr, true_and]
    by_cases h1 : n > 0
    · simp only [decide_eq_true h1]
      by_cases h2 : n < 9223372036854775808
      · simp only [decide_eq_true h2]
        by_cases h3 : m > 0
        · simp only [decide_eq_true h3]
          by_cases h4 : m ≤ 64
          · simp only [decide_eq_true h4, Bool.not_true]
            rw [if_pos ⟨h1, h2, h3, h4⟩]
            obtain ⟨a, rfl⟩ : ∃ a : Nat, m = a := ⟨m.toNat, by omega⟩
            rw [Int.toNat_natCast]
            exact G34_eq R hn a (by omega) (0, [], 0, List.replicate 32 0, 0, 0, ()) (fun x2 x3 x4 => k x2 x4 x3) (fun x5 x6 => k 0 x5 9) FUEL 0 s (by omega) (by rw [FUEL_eq]; omega) hs (fun y => rfl)
          · rw [if_neg (fun h => h4 h.2.2.2)]
            simp only [decide_eq_false h4, Bool.not_false]
        · rw [if_neg (fun h => h3 h.2.2.1)]
          simp only [decide_eq_false h3, Bool.not_false]
      · rw [if_neg (fun h => h2 h.2.1)]
        simp only [decide_eq_false h2, Bool.not_false]
    · rw [if_neg (fun h => h1 h.1)]
      simp only [decide_eq_false h1, Bool.not_false]
  · simp only [Bool.not_eq_true] at hr
    simp [hr]
end Go.PG
namespace Go.PG
theorem G11_eq (R : Type) {x : Int} {n : Nat} (hn : n ≤ 1000) (hx : ∀ i ≤ n, 0 ≤ x ^ i ∧ x ^ i < 18446744073709551616) (k0 : Int → Option R) : ∀ (m i : Nat), i ≤ n → n - i < m → G11_3 m R x (n : Int) (x ^ i) (i : Int) k0 = k0 (x ^ n)
  | 0, i, _, h => by omega
  | m + 1, i, h1, h2 => by
    simp only [G11_3, p11_3]
    by_cases hi : i < n
    · have hd : decide ((i : Int) < (n : Int)) = true := by simpa using hi
      simp only [hd]
      have h3 := hx (i + 1) (by omega)
      have e : x ^ i * x = x ^ (i + 1) := (Int.pow_succ _ _).symm
      rw [e, wrap_u64 (n := x ^ (i + 1)) (by omega) (by omega), wrap_i64 (n := (i : Int) + 1) (by omega) (by omega)]
      exact G11_eq R hn hx k0 m (i + 1) (by omega) (by omega)
    · have : i = n := by omega
      subst this
      have hd : decide ((i : Int) < (i : Int)) = false := by simp
      simp only [hd]
theorem F11_eq (R : Type) {x : Int} {n : Nat} (hn : n ≤ 1000) (hx : ∀ i ≤ n, 0 ≤ x ^ i ∧ x ^ i < 18446744073709551616) (k : Int → Option R) : F11 R x (n : Int) k = k (x ^ n) := by
  simp only [F11, p11]
  have := G11_eq R hn hx (fun x1 => k x1) FUEL 0 (by omega) (by rw [FUEL_eq]; omega)
  rw [Int.pow_zero] at this
  exact this
theorem two_pow_ok {n : Nat} (hn : n ≤ 63) : ∀ i ≤ n, 0 ≤ (2 : Int) ^ i ∧ (2 : Int) ^ i < 18446744073709551616 := fun i hi => by
  have : (2 : Nat) ^ i ≤ 2 ^ 63 := Nat.pow_le_pow_right (by omega) (by omega)
  have e : ((2 ^ i : Nat) : Int) = (2 : Int) ^ i := by simp
  exact ⟨Int.le_of_lt (Int.pow_pos (by decide)), by omega⟩
theorem drawF_ok {n : Int} : ∀ (m : Nat) (s : Src), (drawF n m s).2.2 = 0 → ∃ j, 1 ≤ j ∧ j ≤ m ∧ (drawF n m s).1 < n ∧ (drawF n m s).2.1 = setAt s (atS s + needS n * j) ∧ (needS n * j : Int) ≤ leftS s ∧ ∀ i < j, drawF n i s = (0, setAt s (atS s + needS n * i), 9)
  | 0, s, h => by simp [drawF] at h
  | m + 1, s, h => by
    simp only [drawF] at h ⊢
    split at h
    · rename_i h1
      obtain ⟨g1, g2, g3, g4⟩ := takeR_zero h1
      rw [if_pos h1]
      split at h
      · rename_i h2
        rw [if_pos h2]
        refine ⟨1, by omega, by omega, h2, ?_, by omega, fun i hi => ?_⟩
        · rw [g4]
          show setAt s (atS s + needS n) = setAt s (atS s + needS n * ((1 : Nat) : Int))
          rw [Int.natCast_one, Int.mul_one]
        · have : i = 0 := by omega
          subst this
          simp only [drawF, Int.natCast_zero, Int.mul_zero, Int.add_zero]
          rfl
      · rename_i h2
        rw [if_neg h2]
        have hmul : ∀ i : Nat, ((needS n : Nat) : Int) * ((i + 1 : Nat) : Int) = needS n + needS n * i := fun i => by
          rw [show ((i + 1 : Nat) : Int) = (i : Int) + 1 by omega, Int.mul_add, Int.mul_one, Int.add_comm]
        obtain ⟨j, j1, j2, j3, j4, j5, j6⟩ := drawF_ok m _ h
        refine ⟨j + 1, by omega, by omega, j3, ?_, ?_, fun i hi => ?_⟩
        · rw [j4, g4]
          show setAt (setAt s (atS s + needS n)) (atS s + needS n + needS n * j) = _
          rw [setAt_set, hmul, Int.add_assoc]
        · rw [g4] at j5
          have hle : leftS (setAt s (atS s + needS n)) ≤ leftS s - needS n := by
            unfold leftS at g3 ⊢
            rw [if_pos g1] at g3 ⊢
            split
            · show endS s - (atS s + needS n) ≤ endS s - atS s - needS n
              omega
            · show 0 ≤ endS s - atS s - needS n
              have : endS s - s.2.2.2.2.2.1 = endS s - atS s := rfl
              omega
          rw [hmul]
          have j5' : (needS n : Int) * j ≤ leftS (setAt s (atS s + needS n)) := j5
          omega
        · cases i with
          | zero =>
            simp only [drawF, Int.natCast_zero, Int.mul_zero, Int.add_zero]
            rfl
          | succ i =>
            have := j6 i (by omega)
            simp only [drawF]
            rw [if_pos h1, if_neg h2, this, g4]
            show (0, setAt (setAt s (atS s + needS n)) (atS s + needS n + needS n * i), 9) = _
            rw [setAt_set, hmul, Int.add_assoc]
    · rename_i h1
      exact absurd h h1
end Go.PG
namespace Go.PG
def outO (b B : Nat) : Nat → Nat → Option Nat
  | 0, _ => none
  | t + 1, y => if y / B ^ t < b then some (y / B ^ t) else outO b B t (y % B ^ t)
def cnt (p : Nat → Bool) (n : Nat) : Nat := (List.range n).countP p
theorem cnt_add (p : Nat → Bool) (a m : Nat) : cnt p (a + m) = cnt p a + cnt (fun r => p (a + r)) m := by
  unfold cnt
  rw [List.range_add, List.countP_append, List.countP_map]
  rfl
theorem cnt_congr {p q : Nat → Bool} {n : Nat} (h : ∀ r, r < n → p r = q r) : cnt p n = cnt q n := by
  unfold cnt
  refine List.countP_congr (fun x hx => ?_)
  rw [h x (by simpa using hx)]
theorem cnt_const (c : Bool) (n : Nat) : cnt (fun _ => c) n = if c then n else 0 := by
  unfold cnt
  cases c
  · simp
  · simp
theorem cnt_succ (p : Nat → Bool) (n : Nat) : cnt p (n + 1) = cnt p n + (if p n then 1 else 0) := by
  unfold cnt
  rw [List.range_succ, List.countP_append]
  simp [List.countP_cons]
theorem out_block {b B t A r : Nat} (hB : 0 < B) (hr : r < B ^ t) : outO b B (t + 1) (A * B ^ t + r) = if A < b then some A else outO b B t r := by
  simp only [outO]
  have hp : 0 < B ^ t := Nat.pow_pos hB
  have e1 : (A * B ^ t + r) / B ^ t = A := by
    rw [Nat.mul_comm, Nat.mul_add_div hp, Nat.div_eq_of_lt hr, Nat.add_zero]
  have e2 : (A * B ^ t + r) % B ^ t = r := by
    rw [Nat.mul_comm, Nat.mul_add_mod, Nat.mod_eq_of_lt hr]
  rw [e1, e2]
theorem cnt_none {b B t : Nat} (hB : 0 < B) : ∀ A : Nat, cnt (fun y => outO b B (t + 1) y == none) (A * B ^ t) = (A - b) * cnt (fun y => outO b B t y == none) (B ^ t)
  | 0 => by simp [cnt]
  | A + 1 => by
    rw [Nat.add_mul, Nat.one_mul, cnt_add, cnt_none hB A]
    by_cases hA : A < b
    · have e : cnt (fun r => outO b B (t + 1) (A * B ^ t + r) == none) (B ^ t) = 0 := by
        rw [cnt_congr (q := fun _ => false) (fun r hr => by rw [out_block hB hr, if_pos hA]; rfl)]
        rw [cnt_const]
        simp
      rw [e, show A - b = 0 by omega, show A + 1 - b = 0 by omega]
      simp
    · have e : cnt (fun r => outO b B (t + 1) (A * B ^ t + r) == none) (B ^ t) = cnt (fun y => outO b B t y == none) (B ^ t) :=
        cnt_congr (fun r hr => by rw [out_block hB hr, if_neg hA])
      rw [e, show A + 1 - b = (A - b) + 1 by omega, Nat.add_mul, Nat.one_mul]
theorem count_none {b B : Nat} (hB : 0 < B) : ∀ t : Nat, cnt (fun y => outO b B t y == none) (B ^ t) = (B - b) ^ t
  | 0 => by simp [cnt, outO]
  | t + 1 => by
    rw [Nat.pow_succ, Nat.mul_comm, cnt_none hB B, count_none hB t, Nat.pow_succ, Nat.mul_comm]
def byteX (x T i q : Nat) : Nat := x / 2 ^ (T - 8 * q - min 8 (i - 8 * q)) % 2 ^ (min 8 (i - 8 * q)) * 2 ^ (8 - min 8 (i - 8 * q))
def bytesX (x T i : Nat) : List Int := (List.range ((i + 7) / 8)).map fun q => (byteX x T i q : Int)
theorem byteX_full {x T i q : Nat} (h : 8 * q + 8 ≤ i) : byteX x T (i + 1) q = byteX x T i q := by
  unfold byteX
  rw [show min 8 (i + 1 - 8 * q) = 8 by omega, show min 8 (i - 8 * q) = 8 by omega]
theorem byteX_step {x T i : Nat} (h : i < T) : byteX x T (i + 1) (i / 8) = byteX x T i (i / 8) + (x / 2 ^ (T - 1 - i) % 2) * 2 ^ (7 - i % 8) := by
  unfold byteX
  rw [show min 8 (i + 1 - 8 * (i / 8)) = i % 8 + 1 by omega, show min 8 (i - 8 * (i / 8)) = i % 8 by omega,
    show T - 8 * (i / 8) - (i % 8 + 1) = T - 1 - i by omega, show T - 8 * (i / 8) - i % 8 = (T - 1 - i) + 1 by omega, show 2 ^ (T - 1 - i + 1) = 2 ^ (T - 1 - i) * 2 by rw [Nat.pow_succ], ← Nat.div_div_eq_div_mul]
  generalize x / 2 ^ (T - 1 - i) = z
  have hc : i % 8 < 8 := Nat.mod_lt _ (by omega)
  generalize i % 8 = c at *
  have : c = 0 ∨ c = 1 ∨ c = 2 ∨ c = 3 ∨ c = 4 ∨ c = 5 ∨ c = 6 ∨ c = 7 := by omega
  rcases this with rfl | rfl | rfl | rfl | rfl | rfl | rfl | rfl <;> simp only [Nat.reduceAdd, Nat.reduceSub, Nat.reducePow] <;> omega
theorem byteX_zero {x T i : Nat} (h : i % 8 = 0) : byteX x T i (i / 8) = 0 := by
  unfold byteX
  rw [show min 8 (i - 8 * (i / 8)) = 0 by omega, Nat.pow_zero, Nat.mod_one, Nat.zero_mul]
theorem byteX_lt (x T i q : Nat) : byteX x T i q < 256 := by
  unfold byteX
  have hc : min 8 (i - 8 * q) ≤ 8 := by omega
  generalize min 8 (i - 8 * q) = c at *
  have h1 : x / 2 ^ (T - 8 * q - c) % 2 ^ c < 2 ^ c := Nat.mod_lt _ (Nat.pow_pos (by omega))
  generalize x / 2 ^ (T - 8 * q - c) % 2 ^ c = z at *
  have : z * 2 ^ (8 - c) < 2 ^ c * 2 ^ (8 - c) := Nat.mul_lt_mul_of_pos_right h1 (Nat.pow_pos (by omega))
  rw [← Nat.pow_add, show c + (8 - c) = 8 by omega] at this
  exact this
def rowX (x T i : Nat) : List Int := (List.range (i / 8 + 1)).map fun q => (byteX x T i q : Int)
theorem rowX_eq (x T i : Nat) : rowX x T i = if i % 8 = 0 then bytesX x T i ++ [0] else bytesX x T i := by
  unfold rowX bytesX
  by_cases h : i % 8 = 0
  · rw [if_pos h, show (i + 7) / 8 = i / 8 by omega, List.range_succ, List.map_append]
    simp [byteX_zero h]
  · rw [if_neg h, show (i + 7) / 8 = i / 8 + 1 by omega]
theorem bytesX_succ {x T i : Nat} (h : i < T) : bytesX x T (i + 1) = (rowX x T i).set (i / 8) (((byteX x T i (i / 8) + (x / 2 ^ (T - 1 - i) % 2) * 2 ^ (7 - i % 8) : Nat)) : Int) := by
  unfold bytesX rowX
  rw [show (i + 1 + 7) / 8 = i / 8 + 1 by omega]
  apply List.ext_getElem?
  intro q
  rw [List.getElem?_set, List.getElem?_map, List.getElem?_map]
  simp only [List.length_map, List.length_range]
  by_cases hq : q < i / 8 + 1
  · rw [List.getElem?_range hq]
    by_cases e : i / 8 = q
    · subst e
      rw [if_pos rfl, if_pos hq, ← byteX_step h]
      rfl
    · rw [if_neg e]
      simp only [Option.map_some]
      rw [byteX_full (by omega)]
  · rw [List.getElem?_eq_none (by simp; omega), if_neg (by omega)]
    rfl
theorem F32_eq (R : Type) {n : Nat} (hn : n ≤ 7) (k : Int → Option R) : F32 R 1 (n : Int) k = k ((2 ^ n : Nat) : Int) := by
  have go : ∀ (m i : Nat), i ≤ n → n - i < m → G32_4 m R ((2 ^ i : Nat) : Int) (n : Int) (i : Int) k = k ((2 ^ n : Nat) : Int) := by
    intro m
    induction m with
    | zero => intro i _ h; omega
    | succ m ih =>
      intro i h1 h2
      simp only [G32_4, p32_4]
      by_cases hi : i < n
      · have hd : decide ((i : Int) < (n : Int)) = true := by simpa using hi
        have hp : 2 ^ i ≤ 2 ^ 7 := Nat.pow_le_pow_right (by omega) (by omega)
        have hp0 : 0 < 2 ^ i := Nat.pow_pos (by omega)
        simp only [hd]
        have := ih (i + 1) (by omega) (by omega)
        rw [wrap_u32 (n := 2 * ((2 ^ i : Nat) : Int)) (by omega) (by omega), wrap_i64 (n := (i : Int) + 1) (by omega) (by omega), show (2 : Int) * ((2 ^ i : Nat) : Int) = ((2 ^ (i + 1) : Nat) : Int) by rw [Nat.pow_succ]; omega]
        exact this
      · have : i = n := by omega
        subst this
        have hd : decide ((i : Int) < (i : Int)) = false := by simp
        simp only [hd]
  simp only [F32, p32]
  have hd : decide ((n : Int) > 31) = false := decide_eq_false (by omega)
  simp only [hd]
  exact go FUEL 0 (by omega) (by rw [FUEL_eq]; omega)
end Go.PG
namespace Go.PG
theorem G13_eq (R : Type) {x T : Nat} (hT : T ≤ 12) (hx : x < 2 ^ T) (k0 : List Int → Option R) : ∀ (m i : Nat), i ≤ T → T - i < m → G13_3 m R (x : Int) (T : Int) (i : Int) (bytesX x T i) k0 = k0 (bytesX x T T)
  | 0, i, _, h => by omega
  | m + 1, i, h1, h2 => by
    simp only [G13_3, p13_3]
    by_cases hi : i < T
    · have hd : decide ((i : Int) < (T : Int)) = true := by simpa using hi
      simp only [hd]
      have h12 : 2 ^ T ≤ 2 ^ 12 := Nat.pow_le_pow_right (by omega) hT
      have ih := G13_eq R hT hx k0 m (i + 1) (by omega) (by omega)
      have em : Int.tmod (i : Int) 8 = ((i % 8 : Nat) : Int) := by rw [Int.tmod_eq_emod_of_nonneg (by omega)]; omega
      have ex : IntKind.u32.wrap (Int.tmod (x : Int) 4294967296) = (x : Int) := by rw [Int.tmod_eq_emod_of_nonneg (by omega), wrap_u32 (by omega) (by omega)]; omega
      have et : IntKind.i64.wrap (IntKind.i64.wrap ((T : Int) - 1) - i) = ((T - 1 - i : Nat) : Int) := by rw [wrap_i64 (n := (T : Int) - 1) (by omega) (by omega), wrap_i64 (by omega) (by omega)]; omega
      have eq : IntKind.i64.wrap (Int.tdiv (i : Int) 8) = ((i / 8 : Nat) : Int) := by rw [Int.tdiv_eq_ediv_of_nonneg (by omega), wrap_i64 (by omega) (by omega)]; omega
      have e7 : IntKind.i64.wrap (7 - ((i % 8 : Nat) : Int)) = ((7 - i % 8 : Nat) : Int) := by rw [wrap_i64 (by omega) (by omega)]; omega
      have ei : IntKind.i64.wrap ((i : Int) + 1) = ((i + 1 : Nat) : Int) := by rw [wrap_i64 (by omega) (by omega)]; omega
      have es : shrS (x : Int) (T - 1 - i) = ((x / 2 ^ (T - 1 - i) : Nat) : Int) := by
        unfold shrS
        rw [Int.natCast_ediv]
        simp
      have e2 : Int.tmod ((x / 2 ^ (T - 1 - i) : Nat) : Int) 2 = ((x / 2 ^ (T - 1 - i) % 2 : Nat) : Int) := by
        have : ∀ z : Nat, Int.tmod (z : Int) 2 = ((z % 2 : Nat) : Int) := fun z => by rw [Int.tmod_eq_emod_of_nonneg (by omega)]; omega
        exact this _
      simp only [em, ex, et, eq, e7, ei]
      have hrl : (rowX x T i).length = i / 8 + 1 := by simp [rowX]
      have hrg : (rowX x T i).getD (i / 8) 0 = (byteX x T i (i / 8) : Int) := by simp [rowX]
      have tail : (F31 R (x : Int) ((T - 1 - i : Nat) : Int) fun y14 =>
          match Int.tmod y14 2 == 1 with
          | true => match bnd ((i / 8 : Nat) : Int) ((rowX x T i).length : Int) with
            | true => F32 R 1 ((7 - i % 8 : Nat) : Int) fun y22 => match bnd ((i / 8 : Nat) : Int) ((rowX x T i).length : Int) with
              | true => G13_3 m R (x : Int) (T : Int) ((i + 1 : Nat) : Int) (List.set (rowX x T i) (Int.toNat ((i / 8 : Nat) : Int)) (IntKind.u8.wrap (List.getD (rowX x T i) (Int.toNat ((i / 8 : Nat) : Int)) 0 + IntKind.u8.wrap y22))) k0
              | false => none
            | false => none
          | false => G13_3 m R (x : Int) (T : Int) ((i + 1 : Nat) : Int) (rowX x T i) k0) = k0 (bytesX x T T) := by
        rw [F31_eq R (x := (x : Int)) (by unfold U32; omega) (by omega), es, e2]
        have hset := bytesX_succ (x := x) hi
        have hstep := byteX_step (x := x) hi
        have hlt := byteX_lt x T (i + 1) (i / 8)
        rw [hset] at ih
        have hb : x / 2 ^ (T - 1 - i) % 2 = 0 ∨ x / 2 ^ (T - 1 - i) % 2 = 1 := by omega
        rcases hb with hb | hb
        · rw [hb] at ih ⊢
          have e0 : (((0 : Nat) : Int) == 1) = false := rfl
          simp only [e0]
          have : (rowX x T i).set (i / 8) ((byteX x T i (i / 8) + 0 * 2 ^ (7 - i % 8) : Nat) : Int) = rowX x T i := by
            rw [Nat.zero_mul, Nat.add_zero, ← hrg]
            apply List.ext_getElem?
            intro q
            rw [List.getElem?_set]
            by_cases e : i / 8 = q
            · subst e
              rw [if_pos rfl, if_pos (by omega)]
              simp [hrl]
            · rw [if_neg e]
          rw [this] at ih
          exact ih
        · rw [hb] at ih hstep ⊢
          have e0 : (((1 : Nat) : Int) == 1) = true := rfl
          have hbn : bnd ((i / 8 : Nat) : Int) ((rowX x T i).length : Int) = true := by rw [hrl]; unfold bnd; simp; omega
          simp only [e0, hbn, Int.toNat_natCast, hrg]
          rw [F32_eq R (by omega)]
          rw [Nat.one_mul] at hstep ih
          have hpp : 0 < 2 ^ (7 - i % 8) := Nat.pow_pos (by omega)
          rw [wrap_u8 (n := ((2 ^ (7 - i % 8) : Nat) : Int)) (by omega) (by omega), wrap_u8 (by omega) (by omega), ← Int.natCast_add]
          exact ih
      by_cases h0 : i % 8 = 0
      · have e0 : (((i % 8 : Nat) : Int) == 0) = true := by rw [h0]; rfl
        have hc : decide (List.length (bytesX x T i) + List.length [(0 : Int)] ≤ 140737488355328) = true := by simp [bytesX]; omega
        have hr : bytesX x T i ++ [0] = rowX x T i := by rw [rowX_eq, if_pos h0]
        simp only [e0, hc, hr]
        exact tail
      · have e0 : (((i % 8 : Nat) : Int) == 0) = false := beq_eq_false_iff_ne.2 (by omega)
        have hr : bytesX x T i = rowX x T i := by rw [rowX_eq, if_neg h0]
        simp only [e0, hr]
        exact tail
    · have : i = T := by omega
      subst this
      have hd : decide ((i : Int) < (i : Int)) = false := by simp
      simp only [hd]
theorem F13_eq (R : Type) {x T : Nat} (hT : T ≤ 12) (hx : x < 2 ^ T) (k : List Int → Option R) : F13 R (x : Int) (T : Int) k = k (bytesX x T T) := by
  simp only [F13, p13]
  exact G13_eq R hT hx (fun x1 => k x1) FUEL 0 (by omega) (by rw [FUEL_eq]; omega)
theorem bytesX_u8 (x T i : Nat) : AllU8 (bytesX x T i) := fun y hy => by
  unfold bytesX at hy
  obtain ⟨q, _, rfl⟩ := List.mem_map.1 hy
  have := byteX_lt x T i q
  unfold U8
  omega
def tapeX (x T : Nat) : Src := tapeSrc (bytesX x T T) (T : Int)
theorem bit_tape {x T n : Nat} (hn : n < T) : bitAt (tapeX x T) (n : Int) = ((x / 2 ^ (T - 1 - n) % 2 : Nat) : Int) := by
  unfold bitAt
  rw [if_pos (show (tapeX x T).1 = 1 from rfl)]
  have e1 : ((n : Int) / 8).toNat = n / 8 := by omega
  have e2 : (7 - (n : Int) % 8).toNat = 7 - n % 8 := by omega
  have e3 : (tapeX x T).2.1.getD (n / 8) 0 = (byteX x T T (n / 8) : Int) := by
    show (bytesX x T T).getD (n / 8) 0 = _
    unfold bytesX
    simp [show n / 8 < (T + 7) / 8 by omega]
  rw [e1, e2, e3]
  have key : byteX x T T (n / 8) / 2 ^ (7 - n % 8) % 2 = x / 2 ^ (T - 1 - n) % 2 := by
    unfold byteX
    have hc : n % 8 < min 8 (T - 8 * (n / 8)) := by omega
    have hc8 : min 8 (T - 8 * (n / 8)) ≤ 8 := by omega
    have he : T - 1 - n = (T - 8 * (n / 8) - min 8 (T - 8 * (n / 8))) + (min 8 (T - 8 * (n / 8)) - 1 - n % 8) := by omega
    rw [he, Nat.pow_add, ← Nat.div_div_eq_div_mul]
    generalize min 8 (T - 8 * (n / 8)) = c at *
    generalize x / 2 ^ (T - 8 * (n / 8) - c) = z
    generalize n % 8 = r at *
    have : c = 1 ∨ c = 2 ∨ c = 3 ∨ c = 4 ∨ c = 5 ∨ c = 6 ∨ c = 7 ∨ c = 8 := by omega
    have : r = 0 ∨ r = 1 ∨ r = 2 ∨ r = 3 ∨ r = 4 ∨ r = 5 ∨ r = 6 ∨ r = 7 := by omega
    rcases ‹c = 1 ∨ _› with rfl | rfl | rfl | rfl | rfl | rfl | rfl | rfl <;> rcases ‹r = 0 ∨ _› with rfl | rfl | rfl | rfl | rfl | rfl | rfl | rfl <;> simp only [Nat.reduceAdd, Nat.reduceSub, Nat.reducePow] <;> omega
  rw [← key, Int.natCast_emod, Int.natCast_ediv]
  simp
theorem take_tape {x T : Nat} : ∀ (n a : Nat), a + n ≤ T → takeV (tapeX x T) (a : Int) n = ((x / 2 ^ (T - a - n) % 2 ^ n : Nat) : Int)
  | 0, a, _ => by simp [takeV, Nat.mod_one]
  | n + 1, a, h => by
    simp only [takeV]
    rw [take_tape n a (by omega), ← Int.natCast_add, bit_tape (n := a + n) (by omega)]
    rw [show T - a - n = (T - 1 - (a + n)) + 1 by omega, show T - a - (n + 1) = T - 1 - (a + n) by omega]
    rw [show 2 ^ (T - 1 - (a + n) + 1) = 2 ^ (T - 1 - (a + n)) * 2 by rw [Nat.pow_succ], ← Nat.div_div_eq_div_mul]
    generalize x / 2 ^ (T - 1 - (a + n)) = z
    have : z % 2 ^ (n + 1) = 2 * (z / 2 % 2 ^ n) + z % 2 := by
      rw [show 2 ^ (n + 1) = 2 * 2 ^ n by rw [Nat.pow_succ, Nat.mul_comm], Nat.mod_mul]
      omega
    rw [this]
    omega
end Go.PG
namespace Go.PG
theorem tapeX_len (x T : Nat) : (bytesX x T T).length = (T + 7) / 8 := by simp [bytesX]
theorem tapeX_ok (x : Nat) {T : Nat} (hT : T ≤ 12) : SOK (tapeX x T) := tapeSrc_ok (bytesX_u8 _ _ _) (by rw [tapeX_len]; omega) (by unfold U64; omega)
theorem tapeX_right (x : Nat) {T a : Nat} (ha : a ≤ T) : rightS' (setAt (tapeX x T) (a : Int)) = true ∧ leftS (setAt (tapeX x T) (a : Int)) = ((T - a : Nat) : Int) := by
  have hr : rightS' (setAt (tapeX x T) (a : Int)) = true := by
    unfold rightS'
    rw [if_pos (show (setAt (tapeX x T) (a : Int)).1 = 1 from rfl)]
    refine decide_eq_true ⟨?_, ?_⟩
    · show (T : Int) ≤ 8 * ((bytesX x T T).length : Int)
      rw [tapeX_len]; omega
    · show (a : Int) ≤ (T : Int)
      omega
  refine ⟨hr, ?_⟩
  unfold leftS
  rw [if_pos hr]
  show (T : Int) - (a : Int) = _
  omega
theorem draw_tape {b k x T : Nat} (hk : needS (b : Int) = k) (hk4 : k ≤ 64) (hT : T ≤ 12) : ∀ (t : Nat), k * t ≤ T →
    (∀ v, outO b (2 ^ k) t (x % (2 ^ k) ^ t) = some v → v < b ∧ ∃ a : Nat, a ≤ T ∧ drawF (b : Int) t (setAt (tapeX x T) ((T - k * t : Nat) : Int)) = ((v : Int), setAt (tapeX x T) (a : Int), 0)) ∧
    (outO b (2 ^ k) t (x % (2 ^ k) ^ t) = none → drawF (b : Int) t (setAt (tapeX x T) ((T - k * t : Nat) : Int)) = (0, setAt (tapeX x T) (T : Int), 9))
  | 0, _ => ⟨fun v h => by simp [outO] at h, fun _ => rfl⟩
  | t + 1, ht => by
    rw [Nat.mul_add, Nat.mul_one] at ht
    obtain ⟨i1, i2⟩ := draw_tape (x := x) hk hk4 hT t (by omega)
    have hr := tapeX_right x (T := T) (a := T - k * (t + 1)) (by omega)
    have hTa : T - (T - k * (t + 1)) = k * t + k := by rw [Nat.mul_add, Nat.mul_one]; omega
    have htk : takeR (setAt (tapeX x T) ((T - k * (t + 1) : Nat) : Int)) (needS (b : Int)) = (((x / (2 ^ k) ^ t % 2 ^ k : Nat) : Int), setAt (tapeX x T) ((T - k * t : Nat) : Int), 0) := by
      rw [hk, takeR_ok hr.1 hk4 (by rw [hr.2, hTa]; omega), atS_set, takeV_set, take_tape k (T - k * (t + 1)) (by rw [Nat.mul_add, Nat.mul_one]; omega), setAt_set, hTa, Nat.add_sub_cancel, ← Nat.pow_mul]
      congr 3
      rw [Nat.mul_add, Nat.mul_one]
      omega
    have hp : 0 < (2 ^ k) ^ t := Nat.pow_pos (Nat.pow_pos (by omega))
    have e1 : x % (2 ^ k) ^ (t + 1) / (2 ^ k) ^ t = x / (2 ^ k) ^ t % 2 ^ k := by
      rw [Nat.pow_succ, Nat.mod_mul_right_div_self]
    have e2 : x % (2 ^ k) ^ (t + 1) % (2 ^ k) ^ t = x % (2 ^ k) ^ t := by
      rw [Nat.pow_succ, Nat.mod_mul_right_mod]
    simp only [outO, e1, e2, drawF, htk]
    generalize x / (2 ^ k) ^ t % 2 ^ k = d at *
    by_cases hd : d < b
    · have hd' : (d : Int) < (b : Int) := by omega
      rw [if_pos hd]
      simp only [hd', if_true]
      refine ⟨fun v h => ?_, fun h => by cases h⟩
      cases h
      exact ⟨hd, T - k * t, by omega, rfl⟩
    · have hd' : ¬ (d : Int) < (b : Int) := by omega
      rw [if_neg hd]
      simp only [hd', if_true, if_false]
      exact ⟨i1, i2⟩
theorem cntX_le (p : Nat → Bool) (n : Nat) : cnt p n ≤ n := by
  unfold cnt
  have := List.countP_le_length (p := p) (l := List.range n)
  simpa using this
end Go.PG
namespace Go.PG
def sumS (l : List Int) (n : Nat) : Int := (l.take n).sum
theorem sumS_zero (l : List Int) : sumS l 0 = 0 := rfl
theorem sumS_succ {l : List Int} {i : Nat} (h : i < l.length) : sumS l (i + 1) = sumS l i + l.getD i 0 := by
  unfold sumS
  have et : l.take (i + 1) = l.take i ++ [l[i]] := by rw [List.take_succ_eq_append_getElem h]
  rw [et, List.sum_append]
  simp [h]
def AllU64 (l : List Int) : Prop := ∀ x ∈ l, U64 x
theorem u64_0 : U64 0 := by unfold U64; omega
theorem sumS_mono {l : List Int} (h : AllU64 l) {a : Nat} : ∀ d : Nat, sumS l a ≤ sumS l (a + d)
  | 0 => Int.le_refl _
  | d + 1 => by
    have ih := sumS_mono h (a := a) d
    by_cases hd : a + d < l.length
    · have := (getD_all h u64_0 (a + d)).1
      rw [← Nat.add_assoc, sumS_succ hd]
      omega
    · have e : sumS l (a + (d + 1)) = sumS l (a + d) := by
        unfold sumS
        rw [List.take_of_length_le (by omega), List.take_of_length_le (by omega)]
      rw [e]; exact ih
theorem sumS_le {l : List Int} (h : AllU64 l) {a b : Nat} (hab : a ≤ b) : sumS l a ≤ sumS l b := by
  have := sumS_mono h (a := a) (b - a)
  rwa [show a + (b - a) = b by omega] at this
theorem sumS_nonneg {l : List Int} (h : AllU64 l) (n : Nat) : 0 ≤ sumS l n := by
  have := sumS_le h (Nat.zero_le n)
  rwa [sumS_zero] at this
def totS (l : List Int) : Int := sumS l l.length
theorem sumS_tot {l : List Int} (h : AllU64 l) (n : Nat) : sumS l n ≤ totS l := by
  by_cases hn : n ≤ l.length
  · exact sumS_le h hn
  · unfold totS sumS
    rw [List.take_of_length_le (by omega), List.take_length]
    exact Int.le_refl _
end Go.PG
namespace Go.PG
theorem F79_eq (R : Type) {a b : Int} (ha : 0 ≤ a ∧ a < 9223372036854775808) (hb : U64 b) (k : Int → Bool → Option R) : F79 R a b k = (if a + b < 9223372036854775808 then k (a + b) true else k 0 false) := by
  unfold U64 at hb
  simp only [F79, p79, F98, F82, p82, F101, p101]
  have hd : decide (0 ≤ a ∧ 0 ≤ b ∧ (0 : Int) ≤ 0 ∧ (0 : Int) ≤ 1) = true := decide_eq_true (by omega)
  simp only [hd, Int.add_zero]
  by_cases h1 : a + b < 9223372036854775808
  · have e1 : (a + b) / 18446744073709551616 = 0 := by omega
    have e2 : (a + b) % 18446744073709551616 = a + b := by omega
    rw [if_pos h1, e1, e2]
    have n0 : ((0 : Int) != 0) = false := rfl
    simp only [n0, decide_eq_true h1, Bool.not_true]
  · rw [if_neg h1]
    by_cases h2 : a + b < 18446744073709551616
    · have e1 : (a + b) / 18446744073709551616 = 0 := by omega
      have e2 : (a + b) % 18446744073709551616 = a + b := by omega
      rw [e1, e2]
      have n0 : ((0 : Int) != 0) = false := rfl
      simp only [n0, decide_eq_false h1, Bool.not_false]
    · have e1 : ((a + b) / 18446744073709551616 != 0) = true := by
        have : ¬ (a + b) / 18446744073709551616 = 0 := by omega
        simp [this]
      simp only [e1]
theorem F54_eq (R : Type) {a b : Int} (ha : 0 ≤ a ∧ a < 9223372036854775808) (hb : U64 b) (k : Int → Bool → Option R) : F54 R a b k = (if a + b < 9223372036854775808 then k (a + b) true else k 0 false) := by
  unfold U64 at hb
  simp only [F54, p54]
  have hd : decide (a ≥ 9223372036854775808) = false := decide_eq_false (by omega)
  simp only [hd]
  rw [wrap_u64 (n := 9223372036854775808 - a) (by omega) (by omega)]
  by_cases h1 : a + b < 9223372036854775808
  · have hd2 : decide (b ≥ 9223372036854775808 - a) = false := decide_eq_false (by omega)
    rw [if_pos h1]
    simp only [hd2]
    rw [wrap_u64 (n := a + b) (by omega) (by omega)]
  · have hd2 : decide (b ≥ 9223372036854775808 - a) = true := decide_eq_true (by omega)
    rw [if_neg h1]
    simp only [hd2]
theorem G65_eq (R : Type) {l : List Int} (h : AllU64 l) (hlen : l.length ≤ 1000000) (k0 : Int → Bool → Option R) (k1 : Int → Option R) : ∀ (m i : Nat), i ≤ l.length → l.length - i < m → sumS l i < 9223372036854775808 →
    G65_2 m R (sumS l i) l (l.length : Int) (i : Int) k0 k1 = (if totS l < 9223372036854775808 then k1 (totS l) else k0 0 false)
  | 0, i, _, h, _ => by omega
  | m + 1, i, h1, h2, h3 => by
    simp only [G65_2, p65_2]
    by_cases hi : i < l.length
    · have hd : decide ((i : Int) < (l.length : Int)) = true := by simpa using hi
      have hbn : bnd (i : Int) (l.length : Int) = true := by unfold bnd; simp; omega
      simp only [hd, hbn, Int.toNat_natCast]
      rw [F79_eq R ⟨sumS_nonneg h i, h3⟩ (getD_all h u64_0 i), ← sumS_succ hi]
      by_cases h4 : sumS l (i + 1) < 9223372036854775808
      · rw [if_pos h4]
        simp only [Bool.not_true]
        rw [wrap_i64 (n := (i : Int) + 1) (by omega) (by omega)]
        exact G65_eq R h hlen k0 k1 m (i + 1) (by omega) (by omega) h4
      · rw [if_neg h4, if_neg (by have := sumS_tot h (i + 1); omega)]
        simp only [Bool.not_false]
    · have : i = l.length := by omega
      subst this
      have hd : decide ((l.length : Int) < (l.length : Int)) = false := by simp
      simp only [hd]
      rw [if_pos (show totS l < _ from h3)]
      rfl
theorem F65_eq (R : Type) {l : List Int} (h : AllU64 l) (hlen : l.length ≤ 1000000) (k : Int → Bool → Option R) : F65 R l k = (if totS l < 9223372036854775808 then k (totS l) true else k 0 false) := by
  simp only [F65, p65]
  exact G65_eq R h hlen (fun x2 x3 => k x2 x3) (fun x4 => k x4 true) FUEL 0 (by omega) (by rw [FUEL_eq]; omega) (by rw [sumS_zero]; decide)
theorem G29_eq' (R : Type) {l : List Int} (h : AllU64 l) (hlen : l.length ≤ 1000000) (k0 : Int → Bool → Option R) (k1 : Int → Option R) : ∀ (m i : Nat), i ≤ l.length → l.length - i < m → sumS l i < 9223372036854775808 →
    G29_3 m R l (sumS l i) (i : Int) k0 k1 = (if totS l < 9223372036854775808 then k1 (totS l) else k0 0 false)
  | 0, i, _, h, _ => by omega
  | m + 1, i, h1, h2, h3 => by
    simp only [G29_3, p29_3]
    by_cases hi : i < l.length
    · have hd : decide ((i : Int) < (l.length : Int)) = true := by simpa using hi
      have hbn : bnd (i : Int) (l.length : Int) = true := by unfold bnd; simp; omega
      simp only [hd, hbn, Int.toNat_natCast]
      rw [F54_eq R ⟨sumS_nonneg h i, h3⟩ (getD_all h u64_0 i), ← sumS_succ hi]
      by_cases h4 : sumS l (i + 1) < 9223372036854775808
      · rw [if_pos h4]
        simp only [Bool.not_true]
        rw [wrap_i64 (n := (i : Int) + 1) (by omega) (by omega)]
        exact G29_eq' R h hlen k0 k1 m (i + 1) (by omega) (by omega) h4
      · rw [if_neg h4, if_neg (by have := sumS_tot h (i + 1); omega)]
        simp only [Bool.not_false]
    · have : i = l.length := by omega
      subst this
      have hd : decide ((l.length : Int) < (l.length : Int)) = false := by simp
      simp only [hd]
      rw [if_pos (show totS l < _ from h3)]
      rfl
theorem F29_eq' (R : Type) {l : List Int} (h : AllU64 l) (hlen : l.length ≤ 1000000) (k : Int → Bool → Option R) : F29 R l k = (if totS l < 9223372036854775808 then k (totS l) true else k 0 false) := by
  simp only [F29, p29]
  exact G29_eq' R h hlen (fun x2 x3 => k x2 x3) (fun x4 => k x4 true) FUEL 0 (by omega) (by rw [FUEL_eq]; omega) (by rw [sumS_zero]; decide)
end Go.PG
namespace Go.PG
theorem drawF_nonneg {n : Int} : ∀ (m : Nat) (s : Src), 0 ≤ (drawF n m s).1
  | 0, s => Int.le_refl _
  | m + 1, s => by
    simp only [drawF]
    split
    · split
      · rename_i h _
        obtain ⟨_, _, _, g⟩ := takeR_zero h
        rw [g]
        exact (takeV_range s (atS s) _).1
      · exact drawF_nonneg m _
    · exact Int.le_refl _
theorem draw_below {s : Src} {n m : Int} (h : (drawR s n m).2.2 = 0) : 0 ≤ (drawR s n m).1 ∧ (drawR s n m).1 < n := by
  unfold drawR at h ⊢
  split at h
  · rename_i hc
    rw [if_pos hc]
    obtain ⟨j, _, _, h3, _⟩ := drawF_ok _ _ h
    exact ⟨drawF_nonneg _ _, h3⟩
  · simp at h
theorem F15_eq' (R : Type) (l : List Int) (s : Src) (k : Bool → Option R) : F15 R l s k = k (decide ((l.length : Int) > 200 ∨ (s.2.1.length : Int) > 500)) := by
  simp only [F15, p15]
  by_cases h1 : (l.length : Int) > 200
  · simp [h1]
  · simp [h1]
end Go.PG
namespace Go.PG
def cntO (b B : Nat) (q : Nat → Bool) (t : Nat) (y : Nat) : Bool := match outO b B t y with | some v => q v | none => false
theorem cntO_block {b B t : Nat} (hB : 0 < B) (q : Nat → Bool) : ∀ A : Nat, cnt (cntO b B q (t + 1)) (A * B ^ t) = cnt q (min A b) * B ^ t + (A - b) * cnt (cntO b B q t) (B ^ t)
  | 0 => by simp [cnt]
  | A + 1 => by
    rw [Nat.add_mul, Nat.one_mul, cnt_add, cntO_block hB q A]
    by_cases hA : A < b
    · have e : cnt (fun r => cntO b B q (t + 1) (A * B ^ t + r)) (B ^ t) = if q A then B ^ t else 0 := by
        rw [cnt_congr (q := fun _ => q A) (fun r hr => by unfold cntO; rw [out_block hB hr, if_pos hA]), cnt_const]
      rw [e, show A - b = 0 by omega, show A + 1 - b = 0 by omega, Nat.zero_mul, Nat.add_zero, Nat.add_zero, show min A b = A by omega, show min (A + 1) b = A + 1 by omega, cnt_succ, Nat.add_mul]
      cases q A <;> simp
    · have e : cnt (fun r => cntO b B q (t + 1) (A * B ^ t + r)) (B ^ t) = cnt (cntO b B q t) (B ^ t) :=
        cnt_congr (fun r hr => by unfold cntO; rw [out_block hB hr, if_neg hA])
      rw [e, show min A b = b by omega, show min (A + 1) b = b by omega, show A + 1 - b = (A - b) + 1 by omega, Nat.add_mul, Nat.one_mul, Nat.add_assoc]
theorem count_q {b B : Nat} (hB : 0 < B) (hb : b ≤ B) (q : Nat → Bool) : ∀ t : Nat, cnt (cntO b B q t) (B ^ t) * b + cnt q b * (B - b) ^ t = cnt q b * B ^ t
  | 0 => by simp [cnt, cntO, outO]
  | t + 1 => by
    have ih := count_q hB hb q t
    have e := cntO_block (t := t) (b := b) hB q B
    rw [show min B b = b by omega] at e
    have e2 : cnt (cntO b B q (t + 1)) (B ^ (t + 1)) = cnt q b * B ^ t + (B - b) * cnt (cntO b B q t) (B ^ t) := by
      rw [Nat.pow_succ, Nat.mul_comm (B ^ t) B]; exact e
    rw [e2]
    generalize cnt (cntO b B q t) (B ^ t) = c at *
    generalize cnt q b = Q at *
    have h1 : (B - b) * (c * b + Q * (B - b) ^ t) = (B - b) * (Q * B ^ t) := by rw [ih]
    rw [Nat.mul_add] at h1
    have h2 : Q * (B - b) ^ (t + 1) = (B - b) * (Q * (B - b) ^ t) := by
      rw [Nat.pow_succ, Nat.mul_comm ((B - b) ^ t), ← Nat.mul_assoc, Nat.mul_comm Q, Nat.mul_assoc]
    have h3 : (B - b) * c * b = (B - b) * (c * b) := Nat.mul_assoc _ _ _
    rw [Nat.add_mul, h2, h3, Nat.add_assoc, h1]
    have h4 : Q * B ^ t * b = b * (Q * B ^ t) := Nat.mul_comm _ _
    have h5 : Q * B ^ (t + 1) = B * (Q * B ^ t) := by rw [Nat.pow_succ, Nat.mul_comm (B ^ t), ← Nat.mul_assoc, Nat.mul_comm Q, Nat.mul_assoc]
    rw [h4, h5, ← Nat.add_mul]
    congr 1
    omega
def gotQ (p : Nat → Nat → Bool) (n x : Nat) : List Int := (List.range n).map fun i => ((cnt (p i) x : Nat) : Int)
theorem gotQ_len (p : Nat → Nat → Bool) (n x : Nat) : (gotQ p n x).length = n := by simp [gotQ]
theorem gotQ_get {p : Nat → Nat → Bool} {n x i : Nat} (h : i < n) : (gotQ p n x).getD i 0 = ((cnt (p i) x : Nat) : Int) := by simp [gotQ, h]
theorem gotQ_zero (p : Nat → Nat → Bool) (n : Nat) : gotQ p n 0 = List.replicate n 0 := by
  unfold gotQ cnt
  apply List.ext_getElem?
  intro i
  rw [List.getElem?_map, List.getElem?_replicate]
  by_cases h : i < n
  · rw [List.getElem?_range h, if_pos h]; rfl
  · rw [List.getElem?_eq_none (by simp; omega), if_neg h]; rfl
theorem gotQ_step {p : Nat → Nat → Bool} {n x i0 : Nat} (hi : i0 < n) (h : ∀ i, i < n → p i x = decide (i = i0)) : gotQ p n (x + 1) = (gotQ p n x).set i0 (((cnt (p i0) x : Nat) : Int) + 1) := by
  unfold gotQ
  apply List.ext_getElem?
  intro j
  rw [List.getElem?_set, List.getElem?_map, List.getElem?_map]
  simp only [List.length_map, List.length_range]
  by_cases hj : j < n
  · rw [List.getElem?_range hj]
    by_cases e : i0 = j
    · subst e
      rw [if_pos rfl, if_pos hj]
      simp only [Option.map_some]
      rw [cnt_succ, h i0 hj]
      simp
    · rw [if_neg e]
      simp only [Option.map_some]
      rw [cnt_succ, h j hj]
      have : ¬ j = i0 := fun hh => e hh.symm
      simp [this]
  · rw [List.getElem?_eq_none (by simp; omega), if_neg (by omega)]
    rfl
theorem gotQ_same {p : Nat → Nat → Bool} {n x : Nat} (h : ∀ i, i < n → p i x = false) : gotQ p n (x + 1) = gotQ p n x := by
  unfold gotQ
  refine List.map_congr_left (fun i hi => ?_)
  rw [cnt_succ, h i (by simpa using hi)]
  simp
theorem tot_append (a : List Int) (y : Int) : totS (a ++ [y]) = totS a + y := by
  unfold totS sumS
  rw [List.take_length, List.take_length, List.sum_append]
  simp
end Go.PG
namespace Go.PG
end Go.PG
namespace Go.PG
theorem and32 {x : Int} (hx : U64 x) : iand .u64 x 4294967295 = x % 4294967296 := by
  have := iand_mask hx 32 (by omega)
  simpa using this
theorem shr32 (x : Int) : ishr .u64 x 32 = x / 4294967296 := by
  unfold ishr
  rw [show (2 : Int) ^ (min (32 : Int).toNat IntKind.u64.bits) = 4294967296 by decide, Int.fdiv_eq_ediv_of_nonneg _ (by omega)]
theorem prod32 {a b : Int} (ha : 0 ≤ a ∧ a < 4294967296) (hb : 0 ≤ b ∧ b < 4294967296) : 0 ≤ a * b ∧ a * b ≤ 18446744065119617025 := by
  refine ⟨Int.mul_nonneg ha.1 hb.1, ?_⟩
  have : a * b ≤ 4294967295 * 4294967295 := Int.mul_le_mul (by omega) (by omega) hb.1 (by omega)
  omega
theorem F81_eq (R : Type) {a b : Int} (ha : U64 a) (hb : U64 b) (k : Int → Int → Option R) : F81 R a b k = k (a * b / 18446744073709551616) (IntKind.u64.wrap (a * b)) := by
  simp only [F81, p81]
  simp only [shr32]
  rw [and32 ha, and32 hb]
  unfold U64 at ha hb
  have hx0 : 0 ≤ a % 4294967296 ∧ a % 4294967296 < 4294967296 := by omega
  have hx1 : 0 ≤ a / 4294967296 ∧ a / 4294967296 < 4294967296 := by omega
  have hy0 : 0 ≤ b % 4294967296 ∧ b % 4294967296 < 4294967296 := by omega
  have hy1 : 0 ≤ b / 4294967296 ∧ b / 4294967296 < 4294967296 := by omega
  have h00 := prod32 hx0 hy0
  have h10 := prod32 hx1 hy0
  have h01 := prod32 hx0 hy1
  have h11 := prod32 hx1 hy1
  have hab : a * b = (a / 4294967296) * (b / 4294967296) * 18446744073709551616 + ((a / 4294967296) * (b % 4294967296) + (a % 4294967296) * (b / 4294967296)) * 4294967296 + (a % 4294967296) * (b % 4294967296) := by
    have e1 : a = a % 4294967296 + 4294967296 * (a / 4294967296) := (Int.emod_add_mul_ediv a 4294967296).symm
    have e2 : b = b % 4294967296 + 4294967296 * (b / 4294967296) := (Int.emod_add_mul_ediv b 4294967296).symm
    generalize a % 4294967296 = x0 at *
    generalize a / 4294967296 = x1 at *
    generalize b % 4294967296 = y0 at *
    generalize b / 4294967296 = y1 at *
    subst e1 e2
    rw [Int.mul_add, Int.add_mul, Int.add_mul, Int.mul_assoc 4294967296 x1 y0, Int.mul_left_comm x0 4294967296 y1, Int.mul_assoc 4294967296 x1, Int.mul_left_comm x1 4294967296 y1]
    omega
  generalize (a % 4294967296) * (b % 4294967296) = p00 at *
  generalize (a / 4294967296) * (b % 4294967296) = p10 at *
  generalize (a % 4294967296) * (b / 4294967296) = p01 at *
  generalize (a / 4294967296) * (b / 4294967296) = p11 at *
  rw [wrap_u64 (n := p00) (by omega) (by omega), wrap_u64 (n := p10) (by omega) (by omega), wrap_u64 (n := p01) (by omega) (by omega), wrap_u64 (n := p11) (by omega) (by omega)]
  rw [wrap_u64 (n := p10 + p00 / 4294967296) (by omega) (by omega), and32 (by unfold U64; omega)]
  rw [wrap_u64 (n := (p10 + p00 / 4294967296) % 4294967296 + p01) (by omega) (by omega)]
  rw [wrap_u64 (n := p11 + (p10 + p00 / 4294967296) / 4294967296) (by omega) (by omega)]
  rw [wrap_u64 (n := p11 + (p10 + p00 / 4294967296) / 4294967296 + ((p10 + p00 / 4294967296) % 4294967296 + p01) / 4294967296) (by omega) (by omega)]
  congr 1
  rw [hab]
  omega
theorem F55_eq (R : Type) {a b : Int} (ha : U64 a) (hb : U64 b) (k : Int → Bool → Option R) : F55 R a b k = (if a * b < 9223372036854775808 then k (a * b) true else k 0 false) := by
  simp only [F55, p55]
  rw [F81_eq R ha hb]
  simp only [F82, p82, F101, p101]
  have h0 : 0 ≤ a * b := Int.mul_nonneg ha.1 hb.1
  generalize a * b = p at *
  by_cases h1 : p < 9223372036854775808
  · have e1 : p / 18446744073709551616 = 0 := by omega
    have n0 : ((0 : Int) != 0) = false := rfl
    rw [if_pos h1, e1, wrap_u64 (by omega) (by omega)]
    simp only [n0, decide_eq_true h1, Bool.not_true]
  · rw [if_neg h1]
    by_cases h2 : p < 18446744073709551616
    · have e1 : p / 18446744073709551616 = 0 := by omega
      have n0 : ((0 : Int) != 0) = false := rfl
      rw [e1, wrap_u64 (by omega) (by omega)]
      simp only [n0, decide_eq_false h1, Bool.not_false]
    · have e1 : (p / 18446744073709551616 != 0) = true := by
        have : ¬ p / 18446744073709551616 = 0 := by omega
        simp [this]
      simp only [e1]
theorem F30_eq (R : Type) {a b : Int} (ha : U64 a) (hb : U64 b) (k : Int → Bool → Option R) : F30 R a b k = (if a * b < 9223372036854775808 then k (a * b) true else k 0 false) := by
  unfold U64 at ha hb
  simp only [F30, p30]
  by_cases h1 : a = 0
  · subst h1; simp
  have e1 : (a == 0) = false := by simp [h1]
  by_cases h2 : b = 0
  · subst h2; simp only [e1]; simp
  have e2 : (b == 0) = false := by simp [h2]
  have hq : (9223372036854775807 : Int).tdiv b = 9223372036854775807 / b := Int.tdiv_eq_ediv_of_nonneg (by omega)
  have hq1 : 0 ≤ 9223372036854775807 / b := Int.ediv_nonneg (by omega) (by omega)
  have hq2 : 9223372036854775807 / b ≤ 9223372036854775807 := Int.ediv_le_self _ (by omega)
  simp only [e1, e2, Bool.not_false]
  rw [hq, wrap_u64 hq1 (by omega)]
  have hkey : a ≤ 9223372036854775807 / b ↔ a * b ≤ 9223372036854775807 := Int.le_ediv_iff_mul_le (by omega)
  by_cases h3 : a * b < 9223372036854775808
  · have hd : decide (a > 9223372036854775807 / b) = false := decide_eq_false (by have := hkey.2 (by omega); omega)
    have h0 : 0 ≤ a * b := Int.mul_nonneg ha.1 hb.1
    rw [if_pos h3, wrap_u64 h0 (by omega)]
    simp only [hd]
  · have hd : decide (a > 9223372036854775807 / b) = true := decide_eq_true (by
      refine Classical.byContradiction fun hh => ?_
      have := hkey.1 (by omega)
      omega)
    rw [if_neg h3]
    simp only [hd]
abbrev CellA := Int × (Int × Unit)
abbrev TabA := Int × (List CellA × Unit)
def badC (t : TabA) (c : CellA) : Bool := decide (c.1 > t.1) || (decide (c.2.1 < 0) || decide (c.2.1 ≥ (t.2.1.length : Int)))
def rightT (t : TabA) : Bool := decide ((t.2.1.length : Int) * t.1 < 9223372036854775808) && (!((t.2.1.length : Int) == 0) && (!(t.1 == 0) && !(t.2.1.any (badC t))))
theorem F57_eq (R : Type) (c : CellA) (t : TabA) (k : Bool → TabA → Option R) : F57 R c t k = k (badC t c) t := by
  simp only [F57, p57, badC]
  cases decide (c.1 > t.1) with
  | true => rfl
  | false =>
    cases decide (c.2.1 < 0) with
    | true => rfl
    | false => rfl
theorem G84057_eq (R : Type) (t : TabA) (l : List CellA) (hlen : l.length ≤ 1000000) (k0 : Int → TabA → Option R) (k1 : TabA → Option R) (K : Bool → TabA → Option R) (h0 : ∀ i : Int, 0 ≤ i → k0 i t = K true t) (h1 : k1 t = K false t) :
    ∀ (m i : Nat), i ≤ l.length → l.length - i < m → G84057_2 m R l (l.length : Int) (i : Int) t k0 k1 = K ((l.drop i).any (badC t)) t
  | 0, i, _, h => by omega
  | m + 1, i, h2, h3 => by
    simp only [G84057_2, p84057_2]
    by_cases hi : i < l.length
    · have hd : decide ((i : Int) < (l.length : Int)) = true := by simpa using hi
      have hbn : bnd (i : Int) (l.length : Int) = true := by unfold bnd; simp; omega
      simp only [hd, hbn, Int.toNat_natCast]
      rw [F57_eq, List.drop_eq_getElem_cons hi, List.any_cons]
      have hg : l.getD i ((0 : Int), (0 : Int), ()) = l[i] := by simp [hi]
      rw [hg]
      cases hb : badC t l[i] with
      | true => simpa using h0 (i : Int) (by omega)
      | false =>
        simp only [Bool.false_or]
        rw [wrap_i64 (n := (i : Int) + 1) (by omega) (by omega)]
        exact G84057_eq R t l hlen k0 k1 K h0 h1 m (i + 1) (by omega) (by omega)
    · have : i = l.length := by omega
      subst this
      have hd : decide ((l.length : Int) < (l.length : Int)) = false := by simp
      simp only [hd]
      rw [h1, List.drop_length]
      rfl
theorem F33_eq (R : Type) {t : TabA} (ht : U64 t.1) (hlen : t.2.1.length ≤ 1000) (k : Bool → Option R) : F33 R t k = k (rightT t) := by
  simp only [F33, p33]
  rw [wrap_u64 (n := (t.2.1.length : Int)) (by omega) (by omega), F55_eq R (by unfold U64; omega) ht]
  unfold rightT
  by_cases h1 : (t.2.1.length : Int) * t.1 < 9223372036854775808
  · rw [if_pos h1]
    simp only [decide_eq_true h1, Bool.not_true, Bool.true_and]
    cases e1 : ((t.2.1.length : Int) == 0) with
    | true => rfl
    | false =>
      cases e2 : (t.1 == 0) with
      | true => rfl
      | false =>
        simp only [Bool.not_false, Bool.true_and, F57057, p57057, F84057, p84057]
        have := G84057_eq R t t.2.1 (by omega) (fun x2 x3 => k !decide (x2 ≥ 0)) (fun x4 => k !decide ((-1 : Int) ≥ 0)) (fun b _ => k !b) (fun i hi => by simp [hi]) (by rfl) FUEL 0 (by omega) (by rw [FUEL_eq]; omega)
        simpa using this
  · rw [if_neg h1]
    simp only [decide_eq_false h1, Bool.not_false, Bool.false_and]
theorem right_T {t : TabA} (h : rightT t = true) : (t.2.1.length : Int) * t.1 < 9223372036854775808 ∧ t.2.1.length ≠ 0 ∧ t.1 ≠ 0 ∧ ∀ c ∈ t.2.1, c.1 ≤ t.1 ∧ 0 ≤ c.2.1 ∧ c.2.1 < (t.2.1.length : Int) := by
  simp only [rightT, Bool.and_eq_true, Bool.not_eq_true', decide_eq_true_eq] at h
  obtain ⟨h1, h2, h3, h4⟩ := h
  refine ⟨h1, fun e => by simp [e] at h2, fun e => by simp [e] at h3, fun c hc => ?_⟩
  have := List.any_eq_false.1 h4 c hc
  simp only [badC, Bool.not_eq_true, Bool.or_eq_false_iff, decide_eq_false_iff_not] at this
  omega
theorem F35_eq (R : Type) {t : TabA} (ht : U64 t.1) (hlen : t.2.1.length ≤ 1000) (k : Int → Option R) : F35 R t k = k (if rightT t = true then (t.2.1.length : Int) * t.1 else 0) := by
  simp only [F35, p35]
  rw [F33_eq R ht hlen]
  cases h : rightT t with
  | false => rfl
  | true =>
    obtain ⟨h1, h2, h3, h4⟩ := right_T h
    have h0 : 0 ≤ (t.2.1.length : Int) * t.1 := Int.mul_nonneg (by omega) ht.1
    simp only [Bool.not_true, if_true]
    rw [wrap_u64 (n := (t.2.1.length : Int)) (by omega) (by omega), wrap_u64 h0 (by omega)]
def ownT (t : TabA) (u : Int) : Int := if u % t.1 < (t.2.1.getD (u / t.1).toNat (0, 0, ())).1 then u / t.1 else (t.2.1.getD (u / t.1).toNat (0, 0, ())).2.1
theorem col_T {t : TabA} (ht : U64 t.1) (h : rightT t = true) {u : Int} (hu : 0 ≤ u ∧ u < (t.2.1.length : Int) * t.1) : 0 ≤ u / t.1 ∧ u / t.1 < (t.2.1.length : Int) ∧ 0 ≤ u % t.1 ∧ u % t.1 < t.1 := by
  obtain ⟨h1, h2, h3, h4⟩ := right_T h
  have hp : 0 < t.1 := by have := ht.1; omega
  exact ⟨Int.ediv_nonneg hu.1 (by omega), Int.ediv_lt_of_lt_mul hp hu.2, Int.emod_nonneg _ h3, Int.emod_lt_of_pos _ hp⟩
theorem F36_eq (R : Type) {t : TabA} (ht : U64 t.1) (hlen : t.2.1.length ≤ 1000) (h : rightT t = true) {u : Int} (hu : 0 ≤ u ∧ u < (t.2.1.length : Int) * t.1) (k : Int → Int → Option R) : F36 R t u k = k (ownT t u) 0 := by
  simp only [F36, p36]
  rw [F33_eq R ht hlen]
  simp only [h, Bool.not_true]
  rw [F35_eq R ht hlen]
  obtain ⟨h1, h2, h3, h4⟩ := right_T h
  obtain ⟨c1, c2, c3, c4⟩ := col_T ht h hu
  have e0 : (t.1 == 0) = false := by simp [h3]
  have ed : decide (u ≥ (t.2.1.length : Int) * t.1) = false := decide_eq_false (by omega)
  simp only [h, if_true, ed, e0, Bool.not_false]
  rw [Int.tdiv_eq_ediv_of_nonneg hu.1, Int.tmod_eq_emod_of_nonneg hu.1, wrap_u64 (n := u / t.1) c1 (by omega), wrap_i64 (n := u / t.1) (by omega) (by omega)]
  simp only [F61, p61, F87, p87]
  rw [F33_eq R ht hlen]
  have d1 : decide (u / t.1 < 0) = false := decide_eq_false (by omega)
  have d2 : decide (u / t.1 ≥ (t.2.1.length : Int)) = false := decide_eq_false (by omega)
  have d3 : decide (u % t.1 ≥ t.1) = false := decide_eq_false (by omega)
  have d4 : bnd (u / t.1) (t.2.1.length : Int) = true := by unfold bnd; simp; omega
  have n0 : ((0 : Int) != 0) = false := rfl
  simp only [h, Bool.not_true, d1, d2, n0, d3, d4]
  unfold ownT
  by_cases hc : u % t.1 < (t.2.1.getD (u / t.1).toNat (0, 0, ())).1
  · rw [if_pos hc]
    simp only [decide_eq_false (show ¬ (u % t.1 ≥ (t.2.1.getD (u / t.1).toNat (0, 0, ())).1) by omega)]
  · rw [if_neg hc]
    simp only [decide_eq_true (show (u % t.1 ≥ (t.2.1.getD (u / t.1).toNat (0, 0, ())).1) by omega)]
def pickR (t : TabA) (s : Src) (m : Int) : Int × Src × Int :=
  if rightT t = true then (if (drawR s ((t.2.1.length : Int) * t.1) m).2.2 = 0 then (ownT t (drawR s ((t.2.1.length : Int) * t.1) m).1, (drawR s ((t.2.1.length : Int) * t.1) m).2.1, 0)
    else (0, (drawR s ((t.2.1.length : Int) * t.1) m).2.1, (drawR s ((t.2.1.length : Int) * t.1) m).2.2)) else (0, s, 1)
theorem F14_eq (R : Type) {t : TabA} (ht : U64 t.1) (hlen : t.2.1.length ≤ 1000) {s : Src} (hs : SOK s) (m : Int) (k : Int → Src → Int → Option R) : F14 R t s m k = k (pickR t s m).1 (pickR t s m).2.1 (pickR t s m).2.2 := by
  simp only [F14, p14]
  rw [F33_eq R ht hlen]
  unfold pickR
  cases h : rightT t with
  | false => rfl
  | true =>
    obtain ⟨h1, h2, h3, h4⟩ := right_T h
    have h0 : 0 ≤ (t.2.1.length : Int) * t.1 := Int.mul_nonneg (by omega) ht.1
    simp only [Bool.not_true, if_true]
    rw [F35_eq R ht hlen]
    simp only [h, if_true]
    rw [F34_eq R hs (show U64 ((t.2.1.length : Int) * t.1) from by unfold U64; omega)]
    by_cases he : (drawR s ((t.2.1.length : Int) * t.1) m).2.2 = 0
    · have e1 : ((drawR s ((t.2.1.length : Int) * t.1) m).2.2 != 0) = false := by simp [he]
      rw [if_pos he]
      simp only [e1]
      rw [F36_eq R ht hlen h (draw_below he)]
    · have e1 : ((drawR s ((t.2.1.length : Int) * t.1) m).2.2 != 0) = true := by simp [he]
      rw [if_neg he]
      simp only [e1]
end Go.PG
namespace Go.PG
def popI (l : List Int) : Int := l.getD (l.length - 1) 0
def cutL (l : List Int) : List Int := l.take (l.length - 1)
theorem pop_snoc (a : List Int) (x : Int) : popI (a ++ [x]) = x := by simp [popI]
theorem cut_snoc (a : List Int) (x : Int) : cutL (a ++ [x]) = a := by simp [cutL]
theorem snoc_of {l : List Int} (h : l.length ≠ 0) : ∃ a x, l = a ++ [x] := by
  rcases List.eq_nil_or_concat l with rfl | ⟨a, x, rfl⟩
  · simp at h
  · exact ⟨a, x, by simp⟩
def stepH (T : Int) (h : List Int) (i k : Int) : List Int := h.set k.toNat (h.getD k.toNat 0 - (T - h.getD i.toNat 0))
def runA (T : Int) : Nat → List Int → List CellA → List Int → List Int → List Int × (List CellA × (List Int × List Int))
  | 0, h, c, sm, la => (h, c, sm, la)
  | f + 1, h, c, sm, la => if sm.length = 0 ∨ la.length = 0 then (h, c, sm, la) else
      if (stepH T h (popI sm) (popI la)).getD (popI la).toNat 0 < T then runA T f (stepH T h (popI sm) (popI la)) (c.set (popI sm).toNat (h.getD (popI sm).toNat 0, popI la, ())) (cutL sm ++ [popI la]) (cutL la)
      else runA T f (stepH T h (popI sm) (popI la)) (c.set (popI sm).toNat (h.getD (popI sm).toNat 0, popI la, ())) (cutL sm) (cutL la ++ [popI la])
structure IA (T : Int) (n : Nat) (h : List Int) (c : List CellA) (sm la : List Int) : Prop where
  hl : h.length = n
  cl : c.length = n
  ix : ∀ x ∈ sm ++ la, 0 ≤ x ∧ x < (n : Int)
  nd : (sm ++ la).Nodup
  sml : ∀ x ∈ sm, 0 ≤ h.getD x.toNat 0 ∧ h.getD x.toNat 0 < T
  lrg : ∀ x ∈ la, T ≤ h.getD x.toNat 0 ∧ h.getD x.toNat 0 < 9223372036854775808
theorem getD_set_ne' (h : List Int) {i j : Nat} (v : Int) (hij : i ≠ j) : (h.set i v).getD j 0 = h.getD j 0 := by
  simp [List.getD_eq_getElem?_getD, List.getElem?_set, hij]
theorem getD_set_eq' (h : List Int) {i : Nat} (v : Int) (hi : i < h.length) : (h.set i v).getD i 0 = v := by
  simp [List.getD_eq_getElem?_getD, hi]
theorem perm1 (s0 l0 : List Int) (i k : Int) : ((s0 ++ [i]) ++ (l0 ++ [k])).Perm (i :: ((s0 ++ [k]) ++ l0)) := by
  rw [List.append_assoc, List.append_assoc]
  refine List.perm_middle.trans (.cons i (List.Perm.append_left s0 ?_))
  exact (List.perm_append_comm : (l0 ++ [k]).Perm ([k] ++ l0))
theorem perm2 (s0 l0 : List Int) (i k : Int) : ((s0 ++ [i]) ++ (l0 ++ [k])).Perm (i :: (s0 ++ (l0 ++ [k]))) := by
  rw [List.append_assoc]
  exact List.perm_middle
theorem IA.facts {T : Int} {n : Nat} {h : List Int} {c : List CellA} {s0 l0 : List Int} {i k : Int} (hI : IA T n h c (s0 ++ [i]) (l0 ++ [k])) :
    (0 ≤ i ∧ i < (n : Int)) ∧ (0 ≤ k ∧ k < (n : Int)) ∧ i ≠ k ∧ (∀ x ∈ s0, x ≠ i ∧ x ≠ k ∧ 0 ≤ x) ∧ (∀ x ∈ l0, x ≠ i ∧ x ≠ k ∧ 0 ≤ x) := by
  have hn := (perm1 s0 l0 i k).nodup_iff.1 hI.nd
  rw [List.nodup_cons] at hn
  obtain ⟨h1, h2⟩ := hn
  have h3 : (k :: (s0 ++ l0)).Nodup := by
    rw [List.append_assoc] at h2
    exact (List.perm_middle (l₁ := s0) (l₂ := l0) (a := k)).nodup_iff.1 h2
  rw [List.nodup_cons] at h3
  have hm : ∀ x, x ∈ s0 ∨ x ∈ l0 → x ≠ i ∧ x ≠ k ∧ 0 ≤ x := fun x hx => by
    refine ⟨fun e => h1 ?_, fun e => h3.1 ?_, (hI.ix x ?_).1⟩
    · subst e; simp; rcases hx with hx | hx <;> simp [hx]
    · subst e; simpa using hx
    · simp; rcases hx with hx | hx <;> simp [hx]
  refine ⟨hI.ix i (by simp), hI.ix k (by simp), fun e => h1 ?_, fun x hx => hm x (.inl hx), fun x hx => hm x (.inr hx)⟩
  subst e; simp
theorem IA.step {T : Int} {n : Nat} {h : List Int} {c : List CellA} {s0 l0 : List Int} {i k : Int} (hI : IA T n h c (s0 ++ [i]) (l0 ++ [k])) :
    (0 ≤ (stepH T h i k).getD k.toNat 0 ∧ (stepH T h i k).getD k.toNat 0 < 9223372036854775808 ∧ (stepH T h i k).getD k.toNat 0 = h.getD k.toNat 0 - (T - h.getD i.toNat 0)) ∧
    ((stepH T h i k).getD k.toNat 0 < T → IA T n (stepH T h i k) (c.set i.toNat (h.getD i.toNat 0, k, ())) (s0 ++ [k]) l0) ∧
    (¬ (stepH T h i k).getD k.toNat 0 < T → IA T n (stepH T h i k) (c.set i.toNat (h.getD i.toNat 0, k, ())) s0 (l0 ++ [k])) := by
  obtain ⟨hi, hk, hik, hs, hl⟩ := hI.facts
  have hkl : k.toNat < h.length := by rw [hI.hl]; omega
  have ek : (stepH T h i k).getD k.toNat 0 = h.getD k.toNat 0 - (T - h.getD i.toNat 0) := getD_set_eq' h _ hkl
  have b1 := hI.sml i (by simp)
  have b2 := hI.lrg k (by simp)
  have same : ∀ x : Int, 0 ≤ x → x ≠ k → (stepH T h i k).getD x.toNat 0 = h.getD x.toNat 0 := fun x h0 hx => getD_set_ne' h _ (by omega)
  have hn1 := ((perm1 s0 l0 i k).nodup_iff.1 hI.nd)
  have hn2 := ((perm2 s0 l0 i k).nodup_iff.1 hI.nd)
  rw [List.nodup_cons] at hn1 hn2
  refine ⟨⟨by omega, by omega, ek⟩, fun hlt => ⟨by simp [stepH, hI.hl], by simp [hI.cl], fun x hx => hI.ix x ?_, hn1.2, fun x hx => ?_, fun x hx => ?_⟩, fun hge => ⟨by simp [stepH, hI.hl], by simp [hI.cl], fun x hx => hI.ix x ?_, hn2.2, fun x hx => ?_, fun x hx => ?_⟩⟩
  · simp at hx ⊢; rcases hx with hx | hx | hx <;> simp [hx]
  · rcases List.mem_append.1 hx with hx | hx
    · have := hs x hx
      rw [same x this.2.2 this.2.1]; exact hI.sml x (by simp [hx])
    · simp at hx; subst hx; omega
  · have := hl x hx
    rw [same x this.2.2 this.2.1]; exact hI.lrg x (by simp [hx])
  · simp at hx ⊢; rcases hx with hx | hx | hx <;> simp [hx]
  · have := hs x hx
    rw [same x this.2.2 this.2.1]; exact hI.sml x (by simp [hx])
  · rcases List.mem_append.1 hx with hx | hx
    · have := hl x hx
      rw [same x this.2.2 this.2.1]; exact hI.lrg x (by simp [hx])
    · simp at hx; subst hx; omega
theorem runA_step {T : Int} {f : Nat} {h : List Int} {c : List CellA} {s0 l0 : List Int} {i k : Int} : runA T (f + 1) h c (s0 ++ [i]) (l0 ++ [k]) =
    if (stepH T h i k).getD k.toNat 0 < T then runA T f (stepH T h i k) (c.set i.toNat (h.getD i.toNat 0, k, ())) (s0 ++ [k]) l0 else runA T f (stepH T h i k) (c.set i.toNat (h.getD i.toNat 0, k, ())) s0 (l0 ++ [k]) := by
  simp only [runA, pop_snoc, cut_snoc]
  rw [if_neg (by simp)]
theorem runA_stop {T : Int} {f : Nat} {h : List Int} {c : List CellA} {sm la : List Int} (hs : sm.length = 0 ∨ la.length = 0) : runA T f h c sm la = (h, c, sm, la) := by
  cases f with
  | zero => rfl
  | succ f => simp only [runA]; rw [if_pos hs]
theorem G37_13_eq (R : Type) {T : Int} {n : Nat} (hT : 0 < T ∧ T < 9223372036854775808) (hn : n ≤ 1000) (x1 : TabA) (k0 : TabA → List Int → List CellA → List Int → List Int → (Int × Unit) → Option R) :
    ∀ (f m : Nat) (h : List Int) (c : List CellA) (sm la : List Int), IA T n h c sm la → sm.length + la.length ≤ f → f ≤ 10000 → f < m →
      G37_13 m R x1 h c sm la (T, ()) k0 = k0 x1 (runA T f h c sm la).1 (runA T f h c sm la).2.1 (runA T f h c sm la).2.2.1 (runA T f h c sm la).2.2.2 (T, ())
  | f, 0, _, _, _, _, _, _, _, hm => by omega
  | f, m + 1, h, c, sm, la, hI, hf, hf2, hm => by
    simp only [G37_13, p37_13]
    by_cases hs : sm.length = 0
    · have hd : decide ((sm.length : Int) > 0) = false := decide_eq_false (by omega)
      simp only [hd]
      rw [runA_stop (.inl hs)]
    · have hd : decide ((sm.length : Int) > 0) = true := decide_eq_true (by omega)
      simp only [hd]
      by_cases hl : la.length = 0
      · have hd : decide ((la.length : Int) > 0) = false := decide_eq_false (by omega)
        simp only [hd]
        rw [runA_stop (.inr hl)]
      · have hd : decide ((la.length : Int) > 0) = true := decide_eq_true (by omega)
        simp only [hd]
        obtain ⟨s0, i, rfl⟩ := snoc_of hs
        obtain ⟨l0, k, rfl⟩ := snoc_of hl
        obtain ⟨hi, hk, hik, hms, hml⟩ := hI.facts
        obtain ⟨⟨e0, e1, e2⟩, st1, st2⟩ := hI.step
        have b1 := hI.sml i (by simp)
        have b2 := hI.lrg k (by simp)
        have ls : ((s0 ++ [i]).length : Int) = (s0.length : Int) + 1 := by simp
        have ll : ((l0 ++ [k]).length : Int) = (l0.length : Int) + 1 := by simp
        simp only [List.length_append, List.length_cons, List.length_nil] at hf
        rw [ls, ll, show (s0.length : Int) + 1 - 1 = (s0.length : Int) by omega, show (l0.length : Int) + 1 - 1 = (l0.length : Int) by omega, wrap_i64 (n := (s0.length : Int)) (by omega) (by omega), wrap_i64 (n := (l0.length : Int)) (by omega) (by omega)]
        have d1 : bnd (s0.length : Int) ((s0.length : Int) + 1) = true := by unfold bnd; simp; omega
        have d2 : bnd (l0.length : Int) ((l0.length : Int) + 1) = true := by unfold bnd; simp; omega
        have d3 : decide (0 ≤ (s0.length : Int) ∧ (s0.length : Int) ≤ (s0.length : Int) + 1) = true := decide_eq_true (by omega)
        have d4 : decide (0 ≤ (l0.length : Int) ∧ (l0.length : Int) ≤ (l0.length : Int) + 1) = true := decide_eq_true (by omega)
        have g1 : (s0 ++ [i]).getD s0.length 0 = i := by simp
        have g2 : (l0 ++ [k]).getD l0.length 0 = k := by simp
        have t1 : (s0 ++ [i]).take s0.length = s0 := by simp
        have t2 : (l0 ++ [k]).take l0.length = l0 := by simp
        have d5 : bnd i (h.length : Int) = true := by rw [hI.hl]; unfold bnd; simp; omega
        have d6 : bnd i (c.length : Int) = true := by rw [hI.cl]; unfold bnd; simp; omega
        have d7 : bnd k (h.length : Int) = true := by rw [hI.hl]; unfold bnd; simp; omega
        simp only [d1, d2, d3, d4, Int.toNat_natCast, g1, g2, t1, t2, d5, d6, d7, List.length_set]
        rw [wrap_u64 (n := T - h.getD i.toNat 0) (by omega) (by omega), wrap_u64 (n := h.getD k.toNat 0 - (T - h.getD i.toNat 0)) (by omega) (by omega)]
        change (match decide ((stepH T h i k).getD k.toNat 0 < T) with
          | true => _
          | false => _) = _
        cases f with
        | zero => omega
        | succ f =>
          rw [runA_step]
          by_cases hlt : (stepH T h i k).getD k.toNat 0 < T
          · have dc : decide (s0.length + [k].length ≤ 17592186044416) = true := decide_eq_true (by simp; omega)
            rw [if_pos hlt]
            simp only [decide_eq_true hlt, dc]
            exact G37_13_eq R hT hn x1 k0 f m _ _ _ _ (st1 hlt) (by simp; omega) (by omega) (by omega)
          · have dc : decide (l0.length + [k].length ≤ 17592186044416) = true := decide_eq_true (by simp; omega)
            rw [if_neg hlt]
            simp only [decide_eq_false hlt, dc]
            exact G37_13_eq R hT hn x1 k0 f m _ _ _ _ (st2 hlt) (by simp; omega) (by omega) (by omega)
theorem G10_23_eq (R : Type) {T : Int} {n : Nat} (hT : 0 < T ∧ T < 9223372036854775808) (hn : n ≤ 1000) (x2 : TabA) (k0 : Int → TabA → List CellA → Option R) :
    ∀ (f m : Nat) (h : List Int) (c : List CellA) (sm la : List Int), IA T n h c sm la → sm.length + la.length ≤ f → f ≤ 10000 → f < m →
      G10_23 m R T x2 h c sm la k0 = k0 T x2 (runA T f h c sm la).2.1
  | f, 0, _, _, _, _, _, _, _, hm => by omega
  | f, m + 1, h, c, sm, la, hI, hf, hf2, hm => by
    simp only [G10_23, p10_23]
    by_cases hs : sm.length = 0
    · have hd : decide ((sm.length : Int) > 0) = false := decide_eq_false (by omega)
      simp only [hd]
      rw [runA_stop (.inl hs)]
    · have hd : decide ((sm.length : Int) > 0) = true := decide_eq_true (by omega)
      simp only [hd]
      by_cases hl : la.length = 0
      · have hd : decide ((la.length : Int) > 0) = false := decide_eq_false (by omega)
        simp only [hd]
        rw [runA_stop (.inr hl)]
      · have hd : decide ((la.length : Int) > 0) = true := decide_eq_true (by omega)
        simp only [hd]
        obtain ⟨s0, i, rfl⟩ := snoc_of hs
        obtain ⟨l0, k, rfl⟩ := snoc_of hl
        obtain ⟨hi, hk, hik, hms, hml⟩ := hI.facts
        obtain ⟨⟨e0, e1, e2⟩, st1, st2⟩ := hI.step
        have b1 := hI.sml i (by simp)
        have b2 := hI.lrg k (by simp)
        have ls : ((s0 ++ [i]).length : Int) = (s0.length : Int) + 1 := by simp
        have ll : ((l0 ++ [k]).length : Int) = (l0.length : Int) + 1 := by simp
        simp only [List.length_append, List.length_cons, List.length_nil] at hf
        rw [ls, ll, show (s0.length : Int) + 1 - 1 = (s0.length : Int) by omega, show (l0.length : Int) + 1 - 1 = (l0.length : Int) by omega, wrap_i64 (n := (s0.length : Int)) (by omega) (by omega), wrap_i64 (n := (l0.length : Int)) (by omega) (by omega)]
        have d1 : bnd (s0.length : Int) ((s0.length : Int) + 1) = true := by unfold bnd; simp; omega
        have d2 : bnd (l0.length : Int) ((l0.length : Int) + 1) = true := by unfold bnd; simp; omega
        have d3 : decide (0 ≤ (s0.length : Int) ∧ (s0.length : Int) ≤ (s0.length : Int) + 1) = true := decide_eq_true (by omega)
        have d4 : decide (0 ≤ (l0.length : Int) ∧ (l0.length : Int) ≤ (l0.length : Int) + 1) = true := decide_eq_true (by omega)
        have g1 : (s0 ++ [i]).getD s0.length 0 = i := by simp
        have g2 : (l0 ++ [k]).getD l0.length 0 = k := by simp
        have t1 : (s0 ++ [i]).take s0.length = s0 := by simp
        have t2 : (l0 ++ [k]).take l0.length = l0 := by simp
        have d5 : bnd i (h.length : Int) = true := by rw [hI.hl]; unfold bnd; simp; omega
        have d6 : bnd i (c.length : Int) = true := by rw [hI.cl]; unfold bnd; simp; omega
        have d7 : bnd k (h.length : Int) = true := by rw [hI.hl]; unfold bnd; simp; omega
        simp only [d1, d2, d3, d4, Int.toNat_natCast, g1, g2, t1, t2, d5, d6, d7, List.length_set]
        rw [wrap_u64 (n := T - h.getD i.toNat 0) (by omega) (by omega), wrap_u64 (n := h.getD k.toNat 0 - (T - h.getD i.toNat 0)) (by omega) (by omega)]
        change (match decide ((stepH T h i k).getD k.toNat 0 < T) with
          | true => _
          | false => _) = _
        cases f with
        | zero => omega
        | succ f =>
          rw [runA_step]
          by_cases hlt : (stepH T h i k).getD k.toNat 0 < T
          · have dc : decide (s0.length + [k].length ≤ 17592186044416) = true := decide_eq_true (by simp; omega)
            rw [if_pos hlt]
            simp only [decide_eq_true hlt, dc]
            exact G10_23_eq R hT hn x2 k0 f m _ _ _ _ (st1 hlt) (by simp; omega) (by omega) (by omega)
          · have dc : decide (l0.length + [k].length ≤ 17592186044416) = true := decide_eq_true (by simp; omega)
            rw [if_neg hlt]
            simp only [decide_eq_false hlt, dc]
            exact G10_23_eq R hT hn x2 k0 f m _ _ _ _ (st2 hlt) (by simp; omega) (by omega) (by omega)
end Go.PG
namespace Go.PG
theorem set_app {α : Type} (A : List α) (z v : α) (m : Nat) {i : Nat} (hi : A.length = i) : (A ++ List.replicate (m + 1) z).set i v = A ++ [v] ++ List.replicate m z := by
  subst hi
  rw [List.set_append_right _ _ (Nat.le_refl _), Nat.sub_self, List.replicate_succ, List.set_cons_zero]
  simp
def hasP (n : Int) (l : List Int) (i : Nat) : List Int := (l.take i).map (fun v => n * v) ++ List.replicate (l.length - i) 0
def ceP (T : Int) (i : Nat) : List CellA := (List.range i).map (fun j : Nat => (T, (j : Int), ()))
def ceQ (T : Int) (N i : Nat) : List CellA := ceP T i ++ List.replicate (N - i) (0, 0, ())
def smP (T n : Int) (l : List Int) (i : Nat) : List Int := ((List.range i).filter (fun j => decide (n * l.getD j 0 < T))).map (fun j : Nat => (j : Int))
def laP (T n : Int) (l : List Int) (i : Nat) : List Int := ((List.range i).filter (fun j => !decide (n * l.getD j 0 < T))).map (fun j : Nat => (j : Int))
theorem hasP_len {n : Int} {l : List Int} {i : Nat} (h : i ≤ l.length) : (hasP n l i).length = l.length := by simp [hasP]; omega
theorem hasP_set {n : Int} {l : List Int} {i : Nat} (h : i < l.length) : (hasP n l i).set i (n * l.getD i 0) = hasP n l (i + 1) := by
  unfold hasP
  rw [show l.length - i = (l.length - (i + 1)) + 1 by omega, set_app _ _ _ _ (by simp; omega), List.take_succ_eq_append_getElem h, List.map_append]
  simp only [List.getD_eq_getElem?_getD, List.getElem?_eq_getElem h, Option.getD_some, List.map_cons, List.map_nil]
theorem ceP_succ (T : Int) (i : Nat) : ceP T i ++ [(T, (i : Int), ())] = ceP T (i + 1) := by simp [ceP, List.range_succ]
theorem ceQ_set {T : Int} {N i : Nat} (h : i < N) : (ceQ T N i).set i (T, (i : Int), ()) = ceQ T N (i + 1) := by
  unfold ceQ
  rw [show N - i = (N - (i + 1)) + 1 by omega, set_app _ _ _ _ (by simp [ceP]), ceP_succ]
theorem smP_lt {T n : Int} {l : List Int} {i : Nat} (h : n * l.getD i 0 < T) : smP T n l i ++ [(i : Int)] = smP T n l (i + 1) ∧ laP T n l i = laP T n l (i + 1) := by
  unfold smP laP
  rw [List.range_succ, List.filter_append, List.filter_append, List.map_append, List.map_append]
  have e1 : [i].filter (fun j => decide (n * l.getD j 0 < T)) = [i] := by rw [List.filter_cons, if_pos (decide_eq_true h)]; rfl
  have e2 : [i].filter (fun j => !decide (n * l.getD j 0 < T)) = [] := by rw [List.filter_cons, if_neg (by simp only [decide_eq_true h]; simp)]; rfl
  rw [e1, e2]
  simp
theorem smP_ge {T n : Int} {l : List Int} {i : Nat} (h : ¬ n * l.getD i 0 < T) : smP T n l i = smP T n l (i + 1) ∧ laP T n l i ++ [(i : Int)] = laP T n l (i + 1) := by
  unfold smP laP
  rw [List.range_succ, List.filter_append, List.filter_append, List.map_append, List.map_append]
  have e1 : [i].filter (fun j => decide (n * l.getD j 0 < T)) = [] := by rw [List.filter_cons, if_neg (by simp only [decide_eq_false h]; simp)]; rfl
  have e2 : [i].filter (fun j => !decide (n * l.getD j 0 < T)) = [i] := by rw [List.filter_cons, if_pos (by simp only [decide_eq_false h]; simp)]; rfl
  rw [e1, e2]
  simp
theorem smP_len (T n : Int) (l : List Int) (i : Nat) : (smP T n l i).length + (laP T n l i).length ≤ i := by
  induction i with
  | zero => simp [smP, laP]
  | succ i ih =>
    by_cases h : n * l.getD i 0 < T
    · obtain ⟨h1, h2⟩ := smP_lt h
      rw [← h1, ← h2]; simp; omega
    · obtain ⟨h1, h2⟩ := smP_ge h
      rw [← h1, ← h2]; simp; omega
theorem get_le_tot {l : List Int} (h : AllU64 l) (i : Nat) : l.getD i 0 ≤ totS l := by
  by_cases hi : i < l.length
  · have h1 := sumS_succ hi
    have h2 := sumS_nonneg h i
    have h3 := sumS_tot h (i + 1)
    omega
  · have : l.getD i 0 = 0 := by simp [List.getD_eq_getElem?_getD, List.getElem?_eq_none (show l.length ≤ i by omega)]
    rw [this]
    exact sumS_nonneg h l.length
theorem prod_ok {l : List Int} (h : AllU64 l) (hb : (l.length : Int) * totS l < 9223372036854775808) (i : Nat) : 0 ≤ (l.length : Int) * l.getD i 0 ∧ (l.length : Int) * l.getD i 0 < 9223372036854775808 := by
  have h1 := (getD_all h u64_0 i).1
  have h2 := get_le_tot h i
  have h3 : (l.length : Int) * l.getD i 0 ≤ (l.length : Int) * totS l := Int.mul_le_mul_of_nonneg_left h2 (by omega)
  exact ⟨Int.mul_nonneg (by omega) h1, by omega⟩
theorem G37_7_eq (R : Type) {l : List Int} (h : AllU64 l) (hlen : l.length ≤ 1000) {T : Int} (hb : (l.length : Int) * totS l < 9223372036854775808) (x6 : TabA) (k0 : TabA → List Int → List CellA → List Int → List Int → (Int × Unit) → Option R) :
    ∀ (m i : Nat), i ≤ l.length → l.length - i < m → G37_7 m R l T l (l.length : Int) (i : Int) x6 (hasP (l.length : Int) l i) (ceP T i) (smP T (l.length : Int) l i) (laP T (l.length : Int) l i) (T, ()) k0 =
      k0 x6 (hasP (l.length : Int) l l.length) (ceP T l.length) (smP T (l.length : Int) l l.length) (laP T (l.length : Int) l l.length) (T, ())
  | 0, i, _, hm => by omega
  | m + 1, i, h1, h2 => by
    simp only [G37_7, p37_7]
    by_cases hi : i < l.length
    · have hd : decide ((i : Int) < (l.length : Int)) = true := by simpa using hi
      have hbn : bnd (i : Int) (l.length : Int) = true := by unfold bnd; simp; omega
      have hp := prod_ok h hb i
      have hsl := smP_len T (l.length : Int) l i
      have cl : (ceP T i).length = i := by simp [ceP]
      have dc : decide ((ceP T i).length + [(T, (i : Int), ())].length ≤ 8796093022208) = true := decide_eq_true (by rw [cl]; simp; omega)
      have ew : IntKind.u64.wrap (l.getD i 0 * IntKind.u64.wrap (l.length : Int)) = (l.length : Int) * l.getD i 0 := by
        rw [wrap_u64 (n := (l.length : Int)) (by omega) (by omega), Int.mul_comm (l.getD i 0), wrap_u64 (n := (l.length : Int) * l.getD i 0) hp.1 (by omega)]
      simp only [hd, hbn, Int.toNat_natCast, hasP_len (n := (l.length : Int)) h1, dc, ew, hasP_set hi, ceP_succ, hasP_len (n := (l.length : Int)) (show i + 1 ≤ l.length by omega)]
      have hg : (hasP (l.length : Int) l (i + 1)).getD i 0 = (l.length : Int) * l.getD i 0 := by
        rw [← hasP_set hi, getD_set_eq' _ _ (by rw [hasP_len h1]; exact hi)]
      simp only [hbn, hg]
      by_cases hlt : (l.length : Int) * l.getD i 0 < T
      · obtain ⟨q1, q2⟩ := smP_lt hlt
        have dd : decide ((smP T (l.length : Int) l i).length + [(i : Int)].length ≤ 17592186044416) = true := decide_eq_true (by simp; omega)
        simp only [decide_eq_true hlt, dd]
        rw [q1, q2, wrap_i64 (n := (i : Int) + 1) (by omega) (by omega)]
        exact G37_7_eq R h hlen hb x6 k0 m (i + 1) (by omega) (by omega)
      · obtain ⟨q1, q2⟩ := smP_ge hlt
        have dd : decide ((laP T (l.length : Int) l i).length + [(i : Int)].length ≤ 17592186044416) = true := decide_eq_true (by simp; omega)
        simp only [decide_eq_false hlt, dd]
        rw [q1, q2, wrap_i64 (n := (i : Int) + 1) (by omega) (by omega)]
        exact G37_7_eq R h hlen hb x6 k0 m (i + 1) (by omega) (by omega)
    · have : i = l.length := by omega
      subst this
      have hd : decide ((l.length : Int) < (l.length : Int)) = false := by simp
      simp only [hd]
theorem G10_16_eq (R : Type) {l : List Int} (h : AllU64 l) (hlen : l.length ≤ 1000) {T : Int} (hb : (l.length : Int) * totS l < 9223372036854775808) (x5 : TabA) (k0 : Int → TabA → List Int → List CellA → List Int → List Int → Option R) :
    ∀ (m i : Nat), i ≤ l.length → l.length - i < m → G10_16 m R l T (l.length : Int) (i : Int) x5 (hasP (l.length : Int) l i) (ceQ T l.length i) (smP T (l.length : Int) l i) (laP T (l.length : Int) l i) k0 =
      k0 T x5 (hasP (l.length : Int) l l.length) (ceP T l.length) (smP T (l.length : Int) l l.length) (laP T (l.length : Int) l l.length)
  | 0, i, _, hm => by omega
  | m + 1, i, h1, h2 => by
    simp only [G10_16, p10_16]
    by_cases hi : i < l.length
    · have hd : decide ((i : Int) < (l.length : Int)) = true := by simpa using hi
      have hbn : bnd (i : Int) (l.length : Int) = true := by unfold bnd; simp; omega
      have hp := prod_ok h hb i
      have hsl := smP_len T (l.length : Int) l i
      have cl : (ceQ T l.length i).length = l.length := by simp [ceQ, ceP]; omega
      have ew : IntKind.u64.wrap ((l.length : Int) * l.getD i 0) = (l.length : Int) * l.getD i 0 := wrap_u64 hp.1 (by omega)
      simp only [hd, hbn, Int.toNat_natCast, hasP_len (n := (l.length : Int)) h1, cl, ew, hasP_set hi, ceQ_set hi, hasP_len (n := (l.length : Int)) (show i + 1 ≤ l.length by omega)]
      have hg : (hasP (l.length : Int) l (i + 1)).getD i 0 = (l.length : Int) * l.getD i 0 := by
        rw [← hasP_set hi, getD_set_eq' _ _ (by rw [hasP_len h1]; exact hi)]
      simp only [hbn, hg]
      by_cases hlt : (l.length : Int) * l.getD i 0 < T
      · obtain ⟨q1, q2⟩ := smP_lt hlt
        have dd : decide ((smP T (l.length : Int) l i).length + [(i : Int)].length ≤ 17592186044416) = true := decide_eq_true (by simp; omega)
        simp only [decide_eq_true hlt, dd]
        rw [q1, q2, wrap_i64 (n := (i : Int) + 1) (by omega) (by omega)]
        exact G10_16_eq R h hlen hb x5 k0 m (i + 1) (by omega) (by omega)
      · obtain ⟨q1, q2⟩ := smP_ge hlt
        have dd : decide ((laP T (l.length : Int) l i).length + [(i : Int)].length ≤ 17592186044416) = true := decide_eq_true (by simp; omega)
        simp only [decide_eq_false hlt, dd]
        rw [q1, q2, wrap_i64 (n := (i : Int) + 1) (by omega) (by omega)]
        exact G10_16_eq R h hlen hb x5 k0 m (i + 1) (by omega) (by omega)
    · have : i = l.length := by omega
      subst this
      have hd : decide ((l.length : Int) < (l.length : Int)) = false := by simp
      simp only [hd]
      have : ceQ T l.length l.length = ceP T l.length := by simp [ceQ]
      rw [this]
theorem hasP_get {n : Int} {l : List Int} {j : Nat} (hj : j < l.length) : (hasP n l l.length).getD j 0 = n * l.getD j 0 := by
  simp [hasP, hj]
theorem mem_smP {T n : Int} {l : List Int} {i : Nat} {x : Int} (h : x ∈ smP T n l i) : ∃ j : Nat, x = (j : Int) ∧ j < i ∧ n * l.getD j 0 < T := by
  simp only [smP, List.mem_map, List.mem_filter, List.mem_range, decide_eq_true_eq] at h
  obtain ⟨j, ⟨h1, h2⟩, rfl⟩ := h
  exact ⟨j, rfl, h1, h2⟩
theorem mem_laP {T n : Int} {l : List Int} {i : Nat} {x : Int} (h : x ∈ laP T n l i) : ∃ j : Nat, x = (j : Int) ∧ j < i ∧ ¬ n * l.getD j 0 < T := by
  simp only [laP, List.mem_map, List.mem_filter, List.mem_range, Bool.not_eq_true', decide_eq_false_iff_not] at h
  obtain ⟨j, ⟨h1, h2⟩, rfl⟩ := h
  exact ⟨j, rfl, h1, h2⟩
theorem nodup_cast {l : List Nat} (h : l.Nodup) : (l.map fun j : Nat => (j : Int)).Nodup := by
  induction l with
  | nil => simp
  | cons a l ih =>
    rw [List.nodup_cons] at h
    rw [List.map_cons, List.nodup_cons]
    refine ⟨fun hm => ?_, ih h.2⟩
    obtain ⟨b, hb, e⟩ := List.mem_map.1 hm
    have : b = a := by omega
    subst this
    exact h.1 hb
theorem IA_start {l : List Int} (h : AllU64 l) {T : Int} (hb : (l.length : Int) * totS l < 9223372036854775808) : IA T l.length (hasP (l.length : Int) l l.length) (ceP T l.length) (smP T (l.length : Int) l l.length) (laP T (l.length : Int) l l.length) := by
  refine ⟨hasP_len (Nat.le_refl _), by simp [ceP], fun x hx => ?_, ?_, fun x hx => ?_, fun x hx => ?_⟩
  · rcases List.mem_append.1 hx with hx | hx
    · obtain ⟨j, rfl, hj, _⟩ := mem_smP hx; omega
    · obtain ⟨j, rfl, hj, _⟩ := mem_laP hx; omega
  · rw [List.nodup_append]
    refine ⟨nodup_cast (List.nodup_range.sublist List.filter_sublist), nodup_cast (List.nodup_range.sublist List.filter_sublist), fun a ha b hb e => ?_⟩
    obtain ⟨j, e1, _, h1⟩ := mem_smP ha
    obtain ⟨j', e2, _, h2⟩ := mem_laP hb
    have : j = j' := by omega
    subst this
    exact h2 h1
  · obtain ⟨j, rfl, hj, h1⟩ := mem_smP hx
    rw [Int.toNat_natCast, hasP_get hj]
    exact ⟨(prod_ok h hb j).1, h1⟩
  · obtain ⟨j, rfl, hj, h1⟩ := mem_laP hx
    rw [Int.toNat_natCast, hasP_get hj]
    exact ⟨by omega, (prod_ok h hb j).2⟩
def tabC (l : List Int) : List CellA := (runA (totS l) l.length (hasP (l.length : Int) l l.length) (ceP (totS l) l.length) (smP (totS l) (l.length : Int) l l.length) (laP (totS l) (l.length : Int) l l.length)).2.1
def tabR (l : List Int) : TabA × Int :=
  if l.length = 0 then ((0, [], ()), 10) else if ¬ totS l < 9223372036854775808 then ((0, [], ()), 11) else if totS l = 0 then ((0, [], ()), 10)
  else if ¬ (l.length : Int) * totS l < 9223372036854775808 then ((0, [], ()), 11) else ((totS l, tabC l, ()), 0)
theorem tabR_len {l : List Int} (h0 : l.length = 0) : tabR l = ((0, [], ()), 10) := by unfold tabR; rw [if_pos h0]
theorem tabR_big {l : List Int} (h0 : l.length ≠ 0) (ht : ¬ totS l < 9223372036854775808) : tabR l = ((0, [], ()), 11) := by unfold tabR; rw [if_neg h0, if_pos ht]
theorem tabR_zero {l : List Int} (h0 : l.length ≠ 0) (hz : totS l = 0) : tabR l = ((0, [], ()), 10) := by unfold tabR; rw [if_neg h0, if_neg (by simp [hz]), if_pos hz]
theorem tabR_prod {l : List Int} (h0 : l.length ≠ 0) (ht : totS l < 9223372036854775808) (hz : totS l ≠ 0) (hb : ¬ (l.length : Int) * totS l < 9223372036854775808) : tabR l = ((0, [], ()), 11) := by
  unfold tabR; rw [if_neg h0, if_neg (by simpa using ht), if_neg hz, if_pos hb]
theorem tabR_ok {l : List Int} (h0 : l.length ≠ 0) (ht : totS l < 9223372036854775808) (hz : totS l ≠ 0) (hb : (l.length : Int) * totS l < 9223372036854775808) : tabR l = ((totS l, tabC l, ()), 0) := by
  unfold tabR; rw [if_neg h0, if_neg (by simpa using ht), if_neg hz, if_neg (by simpa using hb)]
def TabOk (l : List Int) : Prop := l.length ≠ 0 ∧ totS l < 9223372036854775808 ∧ totS l ≠ 0 ∧ (l.length : Int) * totS l < 9223372036854775808
theorem tab_cases (l : List Int) : (TabOk l ∧ tabR l = ((totS l, tabC l, ()), 0)) ∨ (¬ TabOk l ∧ (tabR l = ((0, [], ()), 10) ∨ tabR l = ((0, [], ()), 11))) := by
  unfold TabOk
  by_cases h0 : l.length = 0
  · exact .inr ⟨fun h => h.1 h0, .inl (tabR_len h0)⟩
  by_cases ht : totS l < 9223372036854775808
  · by_cases hz : totS l = 0
    · exact .inr ⟨fun h => h.2.2.1 hz, .inl (tabR_zero h0 hz)⟩
    · by_cases hb : (l.length : Int) * totS l < 9223372036854775808
      · exact .inl ⟨⟨h0, ht, hz, hb⟩, tabR_ok h0 ht hz hb⟩
      · exact .inr ⟨fun h => hb h.2.2.2, .inr (tabR_prod h0 ht hz hb)⟩
  · exact .inr ⟨fun h => ht h.2.1, .inr (tabR_big h0 ht)⟩
theorem F62_eq (R : Type) {l : List Int} (h : AllU64 l) (hlen : l.length ≤ 1000) (k : Int → Int → Option R) (K : TabA → Int → Option R) (h1 : TabOk l → k (totS l) 0 = K (tabR l).1 0) (h2 : ∀ e, e ≠ 0 → k 0 e = K (0, [], ()) e) : F62 R l k = K (tabR l).1 (tabR l).2 := by
  simp only [F62, p62]
  rw [wrap_u64 (n := (l.length : Int)) (by omega) (by omega)]
  by_cases h0 : l.length = 0
  · have e : ((l.length : Int) == 0) = true := by simp [h0]
    simp only [e]
    rw [tabR_len h0]
    exact h2 10 (by omega)
  · have e : ((l.length : Int) == 0) = false := by simp [h0]
    simp only [e]
    rw [F65_eq R h (by omega)]
    have hnn := sumS_nonneg h l.length
    by_cases ht : totS l < 9223372036854775808
    · rw [if_pos ht]
      simp only [Bool.not_true]
      by_cases hz : totS l = 0
      · have e : (totS l == 0) = true := by simp [hz]
        simp only [e]
        rw [tabR_zero h0 hz]
        exact h2 10 (by omega)
      · have e : (totS l == 0) = false := by simp [hz]
        simp only [e]
        rw [F55_eq R (by unfold U64; omega) (show U64 (totS l) from by unfold U64; exact ⟨hnn, by omega⟩)]
        by_cases hb : (l.length : Int) * totS l < 9223372036854775808
        · rw [if_pos hb]
          simp only [Bool.not_true]
          rw [h1 ⟨h0, ht, hz, hb⟩, tabR_ok h0 ht hz hb]
        · rw [if_neg hb, tabR_prod h0 ht hz hb]
          simp only [Bool.not_false]
          exact h2 11 (by omega)
    · rw [if_neg ht, tabR_big h0 ht]
      simp only [Bool.not_false]
      exact h2 11 (by omega)
theorem F37_eq (R : Type) {l : List Int} (h : AllU64 l) (hlen : l.length ≤ 1000) (k : TabA → Int → Option R) : F37 R l k = k (tabR l).1 (tabR l).2 := by
  simp only [F37, p37]
  refine F62_eq R h hlen _ k (fun hc => ?_) (fun e he => ?_)
  · have n0 : ((0 : Int) != 0) = false := rfl
    simp only [n0]
    · obtain ⟨h0, ht, hz, hb⟩ := hc
      have hnn := sumS_nonneg h l.length
      have hpos : 0 < totS l := by have : 0 ≤ totS l := hnn; omega
      rw [tabR_ok h0 ht hz hb]
      have dc : decide (0 ≤ (l.length : Int) ∧ (l.length : Int) ≤ (l.length : Int) ∧ (l.length : Int) ≤ (17592186044416 : Int)) = true := decide_eq_true (by omega)
      simp only [dc, Int.toNat_natCast]
      have g := G37_7_eq R h hlen (T := totS l) hb (0, [], ()) (fun x7 x8 x9 x10 x11 x12 => G37_13 FUEL R x7 x8 x9 x10 x11 (x12.1, ()) (fun x13 x14 x15 x16 x17 x18 => k (x18.1, x15, ()) 0)) FUEL 0 (by omega) (by rw [FUEL_eq]; omega)
      have q0 : hasP (l.length : Int) l 0 = List.replicate l.length 0 := by simp [hasP]
      rw [q0] at g
      refine g.trans ?_
      rw [G37_13_eq R (n := l.length) ⟨hpos, ht⟩ hlen _ _ l.length FUEL _ _ _ _ (IA_start h hb) (smP_len _ _ _ _) (by omega) (by rw [FUEL_eq]; omega)]
      rfl
  · have n1 : (e != 0) = true := by simp [he]
    simp only [n1]
theorem F10_eq (R : Type) {l : List Int} (h : AllU64 l) (hlen : l.length ≤ 1000) (k : TabA → Int → Option R) : F10 R l k = k (tabR l).1 (tabR l).2 := by
  simp only [F10, p10]
  by_cases h0 : l.length = 0
  · have e : ((l.length : Int) == 0) = true := by simp [h0]
    rw [tabR_len h0]
    simp only [e]
  · have e : ((l.length : Int) == 0) = false := by simp [h0]
    simp only [e]
    rw [F29_eq' R h (by omega)]
    have hnn := sumS_nonneg h l.length
    by_cases ht : totS l < 9223372036854775808
    · rw [if_pos ht]
      simp only [Bool.not_true]
      by_cases hz : totS l = 0
      · have e : (totS l == 0) = true := by simp [hz]
        rw [tabR_zero h0 hz]
        simp only [e]
      · have e : (totS l == 0) = false := by simp [hz]
        have hpos : 0 < totS l := by have : 0 ≤ totS l := hnn; omega
        simp only [e]
        rw [wrap_u64 (n := (l.length : Int)) (by omega) (by omega), F30_eq R (by unfold U64; omega) (show U64 (totS l) from by unfold U64; exact ⟨hnn, by omega⟩)]
        by_cases hb : (l.length : Int) * totS l < 9223372036854775808
        · rw [if_pos hb, tabR_ok h0 ht hz hb]
          have dc : decide (0 ≤ (l.length : Int) ∧ (l.length : Int) ≤ (l.length : Int) ∧ (l.length : Int) ≤ (17592186044416 : Int)) = true := decide_eq_true (by omega)
          have dc2 : decide (0 ≤ (l.length : Int) ∧ (l.length : Int) ≤ (l.length : Int) ∧ (l.length : Int) ≤ (8796093022208 : Int)) = true := decide_eq_true (by omega)
          simp only [Bool.not_true, dc, dc2, Int.toNat_natCast]
          have g := G10_16_eq R h hlen (T := totS l) hb (0, [], ()) (fun x14 x15 x16 x17 x18 x19 => G10_23 FUEL R x14 x15 x16 x17 x18 x19 (fun x20 x21 x22 => k (x20, x22, ()) 0)) FUEL 0 (by omega) (by rw [FUEL_eq]; omega)
          have q0 : hasP (l.length : Int) l 0 = List.replicate l.length 0 := by simp [hasP]
          have q1 : ceQ (totS l) l.length 0 = List.replicate l.length (0, 0, ()) := by simp [ceQ, ceP]
          rw [q0, q1] at g
          refine g.trans ?_
          rw [G10_23_eq R (n := l.length) ⟨hpos, ht⟩ hlen _ _ l.length FUEL _ _ _ _ (IA_start h hb) (smP_len _ _ _ _) (by omega) (by rw [FUEL_eq]; omega)]
          rfl
        · rw [if_neg hb, tabR_prod h0 ht hz hb]
          simp only [Bool.not_false]
    · rw [if_neg ht, tabR_big h0 ht]
      simp only [Bool.not_false]
end Go.PG
namespace Go.PG
theorem runA_IA {T : Int} {n : Nat} : ∀ (f : Nat) (h : List Int) (c : List CellA) (sm la : List Int), IA T n h c sm la → IA T n (runA T f h c sm la).1 (runA T f h c sm la).2.1 (runA T f h c sm la).2.2.1 (runA T f h c sm la).2.2.2
  | 0, h, c, sm, la, hI => hI
  | f + 1, h, c, sm, la, hI => by
    by_cases hs : sm.length = 0 ∨ la.length = 0
    · rw [runA_stop hs]; exact hI
    · obtain ⟨s0, i, rfl⟩ := snoc_of (fun e => hs (.inl e))
      obtain ⟨l0, k, rfl⟩ := snoc_of (fun e => hs (.inr e))
      obtain ⟨_, st1, st2⟩ := hI.step
      rw [runA_step]
      by_cases hlt : (stepH T h i k).getD k.toNat 0 < T
      · rw [if_pos hlt]; exact runA_IA f _ _ _ _ (st1 hlt)
      · rw [if_neg hlt]; exact runA_IA f _ _ _ _ (st2 hlt)
theorem tabC_len {l : List Int} (h : AllU64 l) (hb : (l.length : Int) * totS l < 9223372036854775808) : (tabC l).length = l.length := (runA_IA l.length _ _ _ _ (IA_start h hb)).cl
theorem tab_fit {l : List Int} (h : AllU64 l) : U64 (tabR l).1.1 ∧ (tabR l).1.2.1.length ≤ l.length := by
  have hnn := sumS_nonneg h l.length
  rcases tab_cases l with ⟨⟨h0, ht, hz, hb⟩, e⟩ | ⟨hn, e | e⟩
  · rw [e]
    exact ⟨by unfold U64; exact ⟨hnn, by have : totS l < 9223372036854775808 := ht; show totS l < _; omega⟩, by show (tabC l).length ≤ _; rw [tabC_len h hb]; exact Nat.le_refl _⟩
  · rw [e]; exact ⟨by unfold U64; simp, by simp⟩
  · rw [e]; exact ⟨by unfold U64; simp, by simp⟩
def pickL (l : List Int) (s : Src) (m : Int) : Int × Src × Int := if (tabR l).2 = 0 then pickR (tabR l).1 s m else (0, s, (tabR l).2)
theorem F16_eq (R : Type) {l : List Int} (h : AllU64 l) (hlen : l.length ≤ 1000) {s : Src} (hs : SOK s) (m : Int) (k : Int → Src → Int → Option R) : F16 R s m l k = k (pickL l s m).1 (pickL l s m).2.1 (pickL l s m).2.2 := by
  simp only [F16, p16]
  rw [F37_eq R h hlen]
  obtain ⟨f1, f2⟩ := tab_fit h
  unfold pickL
  by_cases he : (tabR l).2 = 0
  · have e1 : ((tabR l).2 != 0) = false := by simp [he]
    rw [if_pos he]
    simp only [e1]
    rw [F14_eq R f1 (by omega) hs]
  · have e1 : ((tabR l).2 != 0) = true := by simp [he]
    rw [if_neg he]
    simp only [e1]
theorem F8_eq (R : Type) (k : Bool → Option R) : F8 R k = k true := by
  have u96 : AllU8 [160] := by unfold AllU8 U8; decide
  have n8 : U64 8 := by unfold U64; decide
  have a1 : AllU64 [3, 1] := by unfold AllU64 U64; decide
  have a0 : AllU64 [] := fun x hx => by simp at hx
  have s1 := tapeSrc_ok u96 (by simp) n8
  have s2 := s1.set (n := 3) (by unfold U64; decide)
  simp only [F8, p8]
  rw [F12_eq R (by simp)]
  have t1 : tapeR [160] 8 = (tapeSrc [160] 8, 0) := by kernel_rfl
  simp only [t1]
  obtain ⟨f1, f2⟩ := tab_fit a1
  have fz : U64 ((0, [], ()) : TabA).1 := by unfold U64; simp
  rw [F10_eq R a1 (by simp), F14_eq R f1 (by simp at f2; omega) s1, F16_eq R a1 (by simp) s1, F14_eq R fz (by simp) s1, F16_eq R a0 (by simp) s1]
  have d1 : pickR (tabR [3, 1]).1 (tapeSrc [160] 8) 1 = (1, setAt (tapeSrc [160] 8) 3, 0) := by kernel_rfl
  have d2 : pickL [3, 1] (tapeSrc [160] 8) 1 = (1, setAt (tapeSrc [160] 8) 3, 0) := by kernel_rfl
  have d3 : pickR (0, [], ()) (tapeSrc [160] 8) 1 = (0, tapeSrc [160] 8, 1) := by kernel_rfl
  have d4 : pickL [] (tapeSrc [160] 8) 1 = (0, tapeSrc [160] 8, 10) := by kernel_rfl
  have d5 : pickR (tabR [3, 1]).1 (setAt (tapeSrc [160] 8) 3) 1 = (0, setAt (tapeSrc [160] 8) 6, 0) := by kernel_rfl
  rw [d1, d2, d3, d4]
  simp only []
  rw [F14_eq R f1 (by simp at f2; omega) s2, d5]
  rfl
end Go.PG
namespace Go.PG
def sumR (f : Nat → Int) : Nat → Int
  | 0 => 0
  | n + 1 => sumR f n + f n
theorem sumR_congr {f g : Nat → Int} : ∀ {n : Nat}, (∀ j, j < n → f j = g j) → sumR f n = sumR g n
  | 0, _ => rfl
  | n + 1, h => by simp only [sumR]; rw [sumR_congr (fun j hj => h j (by omega)), h n (by omega)]
theorem sumR_upd {f g : Nat → Int} {i0 : Nat} : ∀ {n : Nat}, (∀ j, j < n → j ≠ i0 → f j = g j) → i0 < n → sumR f n = sumR g n + (f i0 - g i0)
  | 0, _, h => by omega
  | n + 1, h, hi => by
    simp only [sumR]
    by_cases e : n = i0
    · subst e
      rw [sumR_congr (fun j hj => h j (by omega) (by omega))]
      omega
    · rw [sumR_upd (fun j hj hne => h j (by omega) hne) (by omega), h n (by omega) e]
      omega
def cA (c : List CellA) (j : Nat) : CellA := c.getD j (0, 0, ())
def wC (T : Int) (c : List CellA) (i : Int) (j : Nat) : Int := (if (j : Int) = i then (cA c j).1 else 0) + (if (cA c j).2.1 = i then T - (cA c j).1 else 0)
def ownsC (T : Int) (c : List CellA) (i : Int) : Int := sumR (wC T c i) c.length
def restS (T : Int) (h : List Int) (l : List Int) : Int := (l.map fun x => h.getD x.toNat 0 - T).sum
theorem restS_snoc (T : Int) (h : List Int) (a : List Int) (x : Int) : restS T h (a ++ [x]) = restS T h a + (h.getD x.toNat 0 - T) := by simp [restS]
theorem restS_congr {T : Int} {h h' : List Int} {l : List Int} (hh : ∀ x ∈ l, h'.getD x.toNat 0 = h.getD x.toNat 0) : restS T h' l = restS T h l := by
  unfold restS
  rw [List.map_congr_left (fun x hx => by rw [hh x hx])]
open Classical in
noncomputable def tailC (T : Int) (h sm la : List Int) (x : Int) : Int := if x ∈ sm ∨ x ∈ la then h.getD x.toNat 0 - T else 0
structure JA (T : Int) (n : Nat) (want : Int → Int) (h : List Int) (c : List CellA) (sm la : List Int) : Prop where
  ia : IA T n h c sm la
  new : ∀ x : Int, x ∈ sm ∨ x ∈ la → cA c x.toNat = (T, x, ())
  ok : ∀ j, j < n → 0 ≤ (cA c j).1 ∧ (cA c j).1 ≤ T ∧ 0 ≤ (cA c j).2.1 ∧ (cA c j).2.1 < (n : Int)
  own : ∀ x : Int, 0 ≤ x → x < (n : Int) → ownsC T c x + tailC T h sm la x = want x
  sum : restS T h sm + restS T h la = 0
theorem cA_set_ne {c : List CellA} {i j : Nat} {v : CellA} (h : i ≠ j) : cA (c.set i v) j = cA c j := by simp [cA, List.getD_eq_getElem?_getD, List.getElem?_set, h]
theorem cA_set_eq {c : List CellA} {i : Nat} {v : CellA} (h : i < c.length) : cA (c.set i v) i = v := by simp [cA, List.getD_eq_getElem?_getD, h]
theorem owns_set {T : Int} {c : List CellA} {i k x v : Int} (hi : 0 ≤ i ∧ i < (c.length : Int)) (hc : cA c i.toNat = (T, i, ())) :
    ownsC T (c.set i.toNat (v, k, ())) x = ownsC T c x - (if i = x then T else 0) + ((if i = x then v else 0) + (if k = x then T - v else 0)) := by
  unfold ownsC
  rw [List.length_set]
  have hlt : i.toNat < c.length := by omega
  rw [sumR_upd (f := wC T (c.set i.toNat (v, k, ())) x) (g := wC T c x) (i0 := i.toNat) (fun j _ hne => by unfold wC; rw [cA_set_ne (fun e => hne e.symm)]) hlt]
  have e1 : wC T (c.set i.toNat (v, k, ())) x i.toNat = (if i = x then v else 0) + (if k = x then T - v else 0) := by
    unfold wC
    rw [cA_set_eq hlt, show ((i.toNat : Nat) : Int) = i by omega]
  have e2 : wC T c x i.toNat = (if i = x then T else 0) := by
    unfold wC
    rw [hc, show ((i.toNat : Nat) : Int) = i by omega]
    simp
  rw [e1, e2]
  omega
theorem JA.go {T : Int} {n : Nat} {want : Int → Int} {h : List Int} {c : List CellA} {s0 l0 : List Int} {i k : Int} (hT : 0 < T) (hJ : JA T n want h c (s0 ++ [i]) (l0 ++ [k])) :
    ∀ (sm' la' : List Int), IA T n (stepH T h i k) (c.set i.toNat (h.getD i.toNat 0, k, ())) sm' la' → (∀ x, x ∈ sm' ∨ x ∈ la' ↔ x ∈ s0 ∨ x ∈ l0 ∨ x = k) → restS T (stepH T h i k) sm' + restS T (stepH T h i k) la' = restS T (stepH T h i k) s0 + restS T (stepH T h i k) l0 + ((stepH T h i k).getD k.toNat 0 - T) →
      JA T n want (stepH T h i k) (c.set i.toNat (h.getD i.toNat 0, k, ())) sm' la' := by
  intro sm' la' hI hmem hsum
  obtain ⟨hi, hk, hik, hs, hl⟩ := hJ.ia.facts
  obtain ⟨⟨e0, e1, e2⟩, _, _⟩ := hJ.ia.step
  have b1 := hJ.ia.sml i (by simp)
  have b2 := hJ.ia.lrg k (by simp)
  have same : ∀ x : Int, 0 ≤ x → x ≠ k → (stepH T h i k).getD x.toNat 0 = h.getD x.toNat 0 := fun x h0 hx => getD_set_ne' h _ (by omega)
  have hci := hJ.new i (by simp)
  have hlen : c.length = n := hJ.ia.cl
  refine ⟨hI, fun x hx => ?_, fun j hj => ?_, fun x h0 h1 => ?_, ?_⟩
  · have hx' := (hmem x).1 hx
    have hxi : x ≠ i ∧ 0 ≤ x := by
      rcases hx' with hx | hx | hx
      · exact ⟨(hs x hx).1, (hs x hx).2.2⟩
      · exact ⟨(hl x hx).1, (hl x hx).2.2⟩
      · subst hx; exact ⟨fun e => hik e.symm, hk.1⟩
    rw [cA_set_ne (by omega)]
    exact hJ.new x (by rcases hx' with hx | hx | hx <;> simp [hx])
  · by_cases e : i.toNat = j
    · subst e
      rw [cA_set_eq (by omega)]
      exact ⟨b1.1, by show h.getD i.toNat 0 ≤ T; omega, hk.1, hk.2⟩
    · rw [cA_set_ne e]; exact hJ.ok j hj
  · have ho := hJ.own x h0 h1
    rw [owns_set (by omega) hci]
    unfold tailC at ho ⊢
    by_cases exi : x = i
    · subst exi
      have hn : ¬ (x ∈ sm' ∨ x ∈ la') := fun hx => by
        rcases (hmem x).1 hx with hx | hx | hx
        · exact (hs x hx).1 rfl
        · exact (hl x hx).1 rfl
        · exact hik hx
      rw [if_pos (by simp)] at ho
      rw [if_neg hn, if_pos rfl, if_pos rfl, if_neg (fun e => hik e.symm)]
      omega
    · rw [if_neg (fun e => exi e.symm), if_neg (fun e => exi e.symm)]
      by_cases exk : x = k
      · subst exk
        rw [if_pos (by simp)] at ho
        rw [if_pos rfl, if_pos ((hmem x).2 (.inr (.inr rfl))), e2]
        omega
      · rw [if_neg (fun e => exk e.symm)]
        have hiff : (x ∈ sm' ∨ x ∈ la') ↔ (x ∈ s0 ++ [i] ∨ x ∈ l0 ++ [k]) := by
          rw [hmem x]; simp [exi, exk]
        by_cases hin : x ∈ sm' ∨ x ∈ la'
        · rw [if_pos (hiff.1 hin)] at ho
          rw [if_pos hin, same x h0 exk]
          omega
        · rw [if_neg (fun e => hin (hiff.2 e))] at ho
          rw [if_neg hin]
          omega
  · have hs0 := hJ.sum
    rw [restS_snoc, restS_snoc] at hs0
    rw [hsum, restS_congr (h := h) (l := s0) (fun x hx => same x (hs x hx).2.2 (hs x hx).2.1), restS_congr (h := h) (l := l0) (fun x hx => same x (hl x hx).2.2 (hl x hx).2.1), e2]
    omega
theorem runA_JA {T : Int} {n : Nat} {want : Int → Int} (hT : 0 < T) : ∀ (f : Nat) (h : List Int) (c : List CellA) (sm la : List Int), JA T n want h c sm la → sm.length + la.length ≤ f →
    JA T n want (runA T f h c sm la).1 (runA T f h c sm la).2.1 (runA T f h c sm la).2.2.1 (runA T f h c sm la).2.2.2 ∧ ((runA T f h c sm la).2.2.1.length = 0 ∨ (runA T f h c sm la).2.2.2.length = 0)
  | 0, h, c, sm, la, hJ, hf => ⟨hJ, .inl (by show sm.length = 0; omega)⟩
  | f + 1, h, c, sm, la, hJ, hf => by
    by_cases hs : sm.length = 0 ∨ la.length = 0
    · rw [runA_stop hs]; exact ⟨hJ, hs⟩
    · obtain ⟨s0, i, rfl⟩ := snoc_of (fun e => hs (.inl e))
      obtain ⟨l0, k, rfl⟩ := snoc_of (fun e => hs (.inr e))
      obtain ⟨_, st1, st2⟩ := hJ.ia.step
      simp only [List.length_append, List.length_cons, List.length_nil] at hf
      rw [runA_step]
      by_cases hlt : (stepH T h i k).getD k.toNat 0 < T
      · rw [if_pos hlt]
        refine runA_JA hT f _ _ _ _ (hJ.go hT _ _ (st1 hlt) (fun x => ?_) ?_) (by simp; omega)
        · simp only [List.mem_append, List.mem_singleton]
          constructor
          · rintro ((h | h) | h) <;> simp [h]
          · rintro (h | h | h) <;> simp [h]
        · rw [restS_snoc]; omega
      · rw [if_neg hlt]
        refine runA_JA hT f _ _ _ _ (hJ.go hT _ _ (st2 hlt) (fun x => ?_) ?_) (by simp; omega)
        · simp only [List.mem_append, List.mem_singleton]
        · rw [restS_snoc]; omega
theorem restS_pos {T : Int} {h : List Int} : ∀ {l : List Int}, (∀ x ∈ l, T ≤ h.getD x.toNat 0) → 0 ≤ restS T h l ∧ (restS T h l = 0 → ∀ x ∈ l, h.getD x.toNat 0 = T)
  | [], _ => ⟨Int.le_refl _, fun _ x hx => by cases hx⟩
  | a :: l, hh => by
    have h1 := hh a (by simp)
    obtain ⟨i1, i2⟩ := restS_pos (T := T) (h := h) (l := l) (fun x hx => hh x (by simp [hx]))
    have e : restS T h (a :: l) = (h.getD a.toNat 0 - T) + restS T h l := by simp [restS]
    rw [e]
    refine ⟨by omega, fun h0 x hx => ?_⟩
    rcases List.mem_cons.1 hx with rfl | hx
    · omega
    · exact i2 (by omega) x hx
theorem restS_neg {T : Int} {h : List Int} : ∀ {l : List Int}, (∀ x ∈ l, h.getD x.toNat 0 < T) → restS T h l ≤ 0 ∧ (restS T h l = 0 → l = [])
  | [], _ => ⟨Int.le_refl _, fun _ => rfl⟩
  | a :: l, hh => by
    have h1 := hh a (by simp)
    obtain ⟨i1, _⟩ := restS_neg (T := T) (h := h) (l := l) (fun x hx => hh x (by simp [hx]))
    have e : restS T h (a :: l) = (h.getD a.toNat 0 - T) + restS T h l := by simp [restS]
    rw [e]
    exact ⟨by omega, fun h0 => by omega⟩
theorem JA.final {T : Int} {n : Nat} {want : Int → Int} {h : List Int} {c : List CellA} {sm la : List Int} (hJ : JA T n want h c sm la) (hs : sm.length = 0 ∨ la.length = 0) : ∀ x : Int, 0 ≤ x → x < (n : Int) → ownsC T c x = want x := by
  intro x h0 h1
  have ho := hJ.own x h0 h1
  have ht : tailC T h sm la x = 0 := by
    unfold tailC
    split
    · rename_i hx
      rcases hs with hs | hs
      · have : sm = [] := List.length_eq_zero_iff.1 hs
        subst this
        have hsum := hJ.sum
        have e : restS T h [] = 0 := rfl
        rw [e, Int.zero_add] at hsum
        have := (restS_pos (fun x hx => (hJ.ia.lrg x hx).1)).2 hsum x (by simpa using hx)
        omega
      · have : la = [] := List.length_eq_zero_iff.1 hs
        subst this
        have hsum := hJ.sum
        have e : restS T h [] = 0 := rfl
        rw [e, Int.add_zero] at hsum
        have := (restS_neg (fun x hx => (hJ.ia.sml x hx).2)).2 hsum
        subst this
        simp at hx
    · rfl
  omega
theorem ceP_get {T : Int} {n j : Nat} (h : j < n) : cA (ceP T n) j = (T, (j : Int), ()) := by simp [cA, ceP, h]
theorem owns_start {T : Int} {n : Nat} {x : Int} (h0 : 0 ≤ x) (h1 : x < (n : Int)) : ownsC T (ceP T n) x = T := by
  unfold ownsC
  have hl : (ceP T n).length = n := by simp [ceP]
  rw [hl]
  have hx : ((x.toNat : Nat) : Int) = x := by omega
  rw [sumR_upd (f := wC T (ceP T n) x) (g := fun _ => 0) (i0 := x.toNat) (fun j hj hne => by
    unfold wC
    rw [ceP_get hj, if_neg (by omega), if_neg (by show ¬ ((j : Nat) : Int) = x; omega)]
    rfl) (by omega)]
  have e : ∀ m, sumR (fun _ => (0 : Int)) m = 0 := by
    intro m; induction m with
    | zero => rfl
    | succ m ih => simp only [sumR, ih]; rfl
  rw [e]
  unfold wC
  rw [ceP_get (by omega), hx, if_pos rfl, if_pos rfl]
  simp
theorem rest_start {T n : Int} {l : List Int} : ∀ (i : Nat), i ≤ l.length → restS T (hasP n l l.length) (smP T n l i) + restS T (hasP n l l.length) (laP T n l i) = n * sumS l i - T * (i : Int)
  | 0, _ => by simp [smP, laP, restS, sumS_zero]
  | i + 1, h => by
    have ih := rest_start (T := T) (n := n) (l := l) i (by omega)
    rw [sumS_succ (by omega), Int.mul_add, show T * ((i + 1 : Nat) : Int) = T * (i : Int) + T by rw [Int.natCast_add, Int.mul_add]; simp]
    by_cases hlt : n * l.getD i 0 < T
    · obtain ⟨h1, h2⟩ := smP_lt hlt
      rw [← h1, ← h2, restS_snoc, Int.toNat_natCast, hasP_get (by omega)]
      omega
    · obtain ⟨h1, h2⟩ := smP_ge hlt
      rw [← h1, ← h2, restS_snoc, Int.toNat_natCast, hasP_get (by omega)]
      omega
theorem in_one {T n : Int} {l : List Int} {i j : Nat} (h : j < i) : (j : Int) ∈ smP T n l i ∨ (j : Int) ∈ laP T n l i := by
  unfold smP laP
  by_cases hlt : n * l.getD j 0 < T
  · left
    exact List.mem_map.2 ⟨j, List.mem_filter.2 ⟨by simpa using h, decide_eq_true hlt⟩, rfl⟩
  · right
    exact List.mem_map.2 ⟨j, List.mem_filter.2 ⟨by simpa using h, by simp only [decide_eq_false hlt]; rfl⟩, rfl⟩
theorem JA_start {l : List Int} (h : AllU64 l) (hpos : 0 < totS l) (hb : (l.length : Int) * totS l < 9223372036854775808) : JA (totS l) l.length (fun x => (l.length : Int) * l.getD x.toNat 0) (hasP (l.length : Int) l l.length) (ceP (totS l) l.length) (smP (totS l) (l.length : Int) l l.length) (laP (totS l) (l.length : Int) l l.length) := by
  refine ⟨IA_start h hb, fun x hx => ?_, fun j hj => ?_, fun x h0 h1 => ?_, ?_⟩
  · have hj : ∃ j : Nat, x = (j : Int) ∧ j < l.length := by
      rcases hx with hx | hx
      · obtain ⟨j, e, hj, _⟩ := mem_smP hx; exact ⟨j, e, hj⟩
      · obtain ⟨j, e, hj, _⟩ := mem_laP hx; exact ⟨j, e, hj⟩
    obtain ⟨j, rfl, hj⟩ := hj
    rw [Int.toNat_natCast, ceP_get hj]
  · rw [ceP_get hj]
    exact ⟨by show 0 ≤ totS l; omega, Int.le_refl _, by show (0 : Int) ≤ (j : Int); omega, by show (j : Int) < _; omega⟩
  · obtain ⟨j, rfl⟩ : ∃ j : Nat, x = (j : Int) := ⟨x.toNat, by omega⟩
    rw [owns_start h0 h1]
    unfold tailC
    rw [if_pos (in_one (by omega)), Int.toNat_natCast, hasP_get (by omega)]
    omega
  · rw [rest_start l.length (Nat.le_refl _)]
    show (l.length : Int) * totS l - totS l * (l.length : Int) = 0
    rw [Int.mul_comm]; omega
theorem tab_owns {l : List Int} (h : AllU64 l) (ho : TabOk l) : (∀ x : Int, 0 ≤ x → x < (l.length : Int) → ownsC (totS l) (tabC l) x = (l.length : Int) * l.getD x.toNat 0) ∧ (∀ j, j < l.length → 0 ≤ (cA (tabC l) j).1 ∧ (cA (tabC l) j).1 ≤ totS l ∧ 0 ≤ (cA (tabC l) j).2.1 ∧ (cA (tabC l) j).2.1 < (l.length : Int)) := by
  obtain ⟨h0, ht, hz, hb⟩ := ho
  have hnn := sumS_nonneg h l.length
  have hpos : 0 < totS l := by have : 0 ≤ totS l := hnn; omega
  obtain ⟨j1, j2⟩ := runA_JA hpos l.length _ _ _ _ (JA_start h hpos hb) (smP_len _ _ _ _)
  exact ⟨j1.final j2, j1.ok⟩
theorem tab_right {l : List Int} (h : AllU64 l) (ho : TabOk l) : rightT (totS l, tabC l, ()) = true := by
  obtain ⟨_, h2⟩ := tab_owns h ho
  obtain ⟨h0, ht, hz, hb⟩ := ho
  have hl := tabC_len h hb
  simp only [rightT, Bool.and_eq_true, Bool.not_eq_true', decide_eq_true_eq, hl]
  refine ⟨hb, by simp [h0], by simp [hz], ?_⟩
  rw [List.any_eq_false]
  intro c hc
  obtain ⟨j, hj, rfl⟩ := List.getElem_of_mem hc
  have := h2 j (by omega)
  have e : cA (tabC l) j = (tabC l)[j] := by simp [cA, hj]
  rw [e] at this
  simp only [badC, Bool.not_eq_true, Bool.or_eq_false_iff, decide_eq_false_iff_not, hl]
  omega
theorem own_cnt {t : TabA} {T : Nat} (hT : t.1 = (T : Int)) (hT0 : 0 < T) (hc : ∀ j, j < t.2.1.length → 0 ≤ (cA t.2.1 j).1 ∧ (cA t.2.1 j).1 ≤ (T : Int)) (i : Int) : ∀ m : Nat, m ≤ t.2.1.length → ((cnt (fun u => decide (ownT t (u : Int) = i)) (m * T) : Nat) : Int) = sumR (wC t.1 t.2.1 i) m
  | 0, _ => by simp [cnt, sumR]
  | m + 1, h => by
    have ih := own_cnt hT hT0 hc i m (by omega)
    have hcm := hc m (by omega)
    rw [Nat.add_mul, Nat.one_mul, cnt_add]
    simp only [sumR]
    rw [Int.natCast_add, ih]
    congr 1
    obtain ⟨a, ha⟩ : ∃ a : Nat, (cA t.2.1 m).1 = (a : Int) := ⟨(cA t.2.1 m).1.toNat, by omega⟩
    obtain ⟨b, hb⟩ : ∃ b, T = a + b := ⟨T - a, by omega⟩
    have hdiv : ∀ r : Nat, r < T → ((m * T + r : Nat) : Int) / t.1 = (m : Int) ∧ ((m * T + r : Nat) : Int) % t.1 = (r : Int) := fun r hr => by
      rw [hT]
      have e1 : (m * T + r) / T = m := by
        rw [Nat.mul_comm, Nat.mul_add_div hT0, Nat.div_eq_of_lt hr]; rfl
      have e2 : (m * T + r) % T = r := by
        rw [Nat.mul_comm, Nat.mul_add_mod, Nat.mod_eq_of_lt hr]
      exact ⟨by rw [← Int.natCast_ediv, e1], by rw [← Int.natCast_emod, e2]⟩
    have hval : ∀ r : Nat, r < T → decide (ownT t ((m * T + r : Nat) : Int) = i) = (if r < a then decide ((m : Int) = i) else decide ((cA t.2.1 m).2.1 = i)) := fun r hr => by
      obtain ⟨e1, e2⟩ := hdiv r hr
      unfold ownT
      rw [e1, e2, Int.toNat_natCast]
      change decide ((if (r : Int) < (cA t.2.1 m).1 then (m : Int) else (cA t.2.1 m).2.1) = i) = _
      rw [ha]
      by_cases hra : r < a
      · rw [if_pos (by omega), if_pos hra]
      · rw [if_neg (by omega), if_neg hra]
    rw [cnt_congr (q := fun r => if r < a then decide ((m : Int) = i) else decide ((cA t.2.1 m).2.1 = i)) (fun r hr => hval r hr), hb, cnt_add]
    have e1 : cnt (fun r => if r < a then decide ((m : Int) = i) else decide ((cA t.2.1 m).2.1 = i)) a = if decide ((m : Int) = i) then a else 0 := by
      rw [cnt_congr (q := fun _ => decide ((m : Int) = i)) (fun r hr => by rw [if_pos hr]), cnt_const]
    have e2 : cnt (fun r => if a + r < a then decide ((m : Int) = i) else decide ((cA t.2.1 m).2.1 = i)) b = if decide ((cA t.2.1 m).2.1 = i) then b else 0 := by
      rw [cnt_congr (q := fun _ => decide ((cA t.2.1 m).2.1 = i)) (fun r hr => by rw [if_neg (by omega)]), cnt_const]
    rw [e1, e2]
    unfold wC
    rw [ha, hT, hb]
    by_cases q1 : (m : Int) = i <;> by_cases q2 : (cA t.2.1 m).2.1 = i <;> simp [q1, q2] <;> omega
theorem cnt_pos {p : Nat → Bool} : ∀ {n x : Nat}, x < n → p x = true → 0 < cnt p n
  | 0, _, h, _ => by omega
  | n + 1, x, h, hp => by
    rw [cnt_succ]
    by_cases e : x = n
    · subst e; rw [hp]; simp
    · have := cnt_pos (p := p) (n := n) (x := x) (by omega) hp
      omega
end Go.PG
namespace Go.PG
theorem tab_own {l : List Int} (h : AllU64 l) (ho : TabOk l) {u : Int} (hu : 0 ≤ u ∧ u < (l.length : Int) * totS l) : 0 ≤ ownT (totS l, tabC l, ()) u ∧ ownT (totS l, tabC l, ()) u < (l.length : Int) := by
  obtain ⟨o1, o2⟩ := tab_owns h ho
  obtain ⟨h0, ht, hz, hb⟩ := ho
  have hnn : 0 ≤ totS l := sumS_nonneg h l.length
  have hp : 0 < totS l := by omega
  have d1 : 0 ≤ u / totS l := Int.ediv_nonneg hu.1 hnn
  have d2 : u / totS l < (l.length : Int) := Int.ediv_lt_of_lt_mul hp hu.2
  unfold ownT
  change 0 ≤ (if u % totS l < (cA (tabC l) (u / totS l).toNat).1 then u / totS l else (cA (tabC l) (u / totS l).toNat).2.1) ∧ (if u % totS l < (cA (tabC l) (u / totS l).toNat).1 then u / totS l else (cA (tabC l) (u / totS l).toNat).2.1) < (l.length : Int)
  have := o2 (u / totS l).toNat (by omega)
  split <;> omega
theorem tab_cnt {l : List Int} (h : AllU64 l) (ho : TabOk l) {T : Nat} (hT : totS l = (T : Int)) {i : Int} (hi : 0 ≤ i ∧ i < (l.length : Int)) : ((cnt (fun u => decide (ownT (totS l, tabC l, ()) (u : Int) = i)) (l.length * T) : Nat) : Int) = (l.length : Int) * l.getD i.toNat 0 := by
  obtain ⟨o1, o2⟩ := tab_owns h ho
  obtain ⟨h0, ht, hz, hb⟩ := ho
  have hl := tabC_len h hb
  rw [own_cnt (t := (totS l, tabC l, ())) hT (by omega) (fun j hj => by have := o2 j (by rw [← hl]; exact hj); rw [hT] at this; exact ⟨this.1, this.2.1⟩) i l.length (by rw [← hl]; exact Nat.le_refl _), ← o1 i hi.1 hi.2]
  unfold ownsC
  rw [hl]
theorem tab_stake {l : List Int} (h : AllU64 l) (ho : TabOk l) {u : Int} (hu : 0 ≤ u ∧ u < (l.length : Int) * totS l) : 0 < l.getD (ownT (totS l, tabC l, ()) u).toNat 0 := by
  have ho' := ho
  obtain ⟨h0, ht, hz, hb⟩ := ho'
  have hnn : 0 ≤ totS l := sumS_nonneg h l.length
  obtain ⟨T, hT⟩ : ∃ T : Nat, totS l = (T : Int) := ⟨(totS l).toNat, by omega⟩
  have hc := tab_cnt h ho hT (tab_own h ho hu)
  rw [hT] at hu
  have hu2 : u.toNat < l.length * T := by
    have : (l.length : Int) * (T : Int) = ((l.length * T : Nat) : Int) := by simp
    omega
  have hp := cnt_pos (p := fun w => decide (ownT (totS l, tabC l, ()) (w : Int) = ownT (totS l, tabC l, ()) u)) hu2 (by
    show decide _ = true
    rw [show ((u.toNat : Nat) : Int) = u by omega]; exact decide_eq_true rfl)
  have hgn := (getD_all h u64_0 (ownT (totS l, tabC l, ()) u).toNat).1
  refine Classical.byContradiction fun hh => ?_
  have e : l.getD (ownT (totS l, tabC l, ()) u).toNat 0 = 0 := by omega
  rw [e] at hc
  omega
theorem F4_eq' (R : Type) {l : List Int} (h : AllU64 l) {s : Src} (hs : SFit s) {a : Int} (ha : 0 ≤ a ∧ a ≤ 255) (k : Bool → Option R) : F4 R l s a k = k true := by
  simp only [F4, p4]
  rw [F8_eq]
  simp only [Bool.not_true]
  rw [F15_eq']
  by_cases hg : (l.length : Int) > 200 ∨ (s.2.1.length : Int) > 500
  · simp only [decide_eq_true hg]
  · simp only [decide_eq_false hg]
    have ho := hs.ok (by omega)
    obtain ⟨m, hm⟩ : ∃ q : Nat, 1 + a % 64 = q := ⟨(1 + a % 64).toNat, by omega⟩
    rw [Int.tmod_eq_emod_of_nonneg ha.1, wrap_i64 (n := a % 64) (by omega) (by omega), hm, wrap_i64 (n := (m : Int)) (by omega) (by omega), F16_eq R h (by omega) ho]
    have n0 : ((0 : Int) != 0) = false := rfl
    rcases tab_cases l with ⟨hok, e⟩ | ⟨hn, e | e⟩
    · have hr := tab_right h hok
      unfold pickL
      rw [e]
      simp only [if_true]
      unfold pickR
      rw [if_pos hr]
      have hl : ((tabC l).length : Int) = (l.length : Int) := by rw [tabC_len h hok.2.2.2]
      simp only [hl]
      by_cases he : (drawR s ((l.length : Int) * totS l) m).2.2 = 0
      · have hb := draw_below he
        rw [if_pos he]
        simp only [n0]
        obtain ⟨i1, i2⟩ := tab_own h hok hb
        have i3 := tab_stake h hok hb
        have e1 : decide (ownT (totS l, tabC l, ()) (drawR s ((l.length : Int) * totS l) m).1 ≥ 0) = true := decide_eq_true i1
        have e2 : decide (ownT (totS l, tabC l, ()) (drawR s ((l.length : Int) * totS l) m).1 < (l.length : Int)) = true := decide_eq_true i2
        have e3 : bnd (ownT (totS l, tabC l, ()) (drawR s ((l.length : Int) * totS l) m).1) (l.length : Int) = true := by unfold bnd; simp; omega
        have e4 : decide (l.getD (ownT (totS l, tabC l, ()) (drawR s ((l.length : Int) * totS l) m).1).toNat 0 > 0) = true := decide_eq_true i3
        simp only [e1, e2, e3, e4]
        have e5 : decide ((drawR s ((l.length : Int) * totS l) m).2.1.2.2.2.2.2.1 ≥ s.2.2.2.2.2.1) = true := by
          unfold drawR at he ⊢
          split at he
          · rename_i hc
            rw [if_pos hc]
            obtain ⟨j, _, _, _, j4, _⟩ := drawF_ok _ _ he
            rw [j4]
            refine decide_eq_true ?_
            show s.2.2.2.2.2.1 + (needS ((l.length : Int) * totS l) : Int) * j ≥ s.2.2.2.2.2.1
            have : 0 ≤ (needS ((l.length : Int) * totS l) : Int) * j := Int.mul_nonneg (by omega) (by omega)
            omega
          · simp at he
        simp only [e5]
      · rw [if_neg he]
        have e1 : ((drawR s ((l.length : Int) * totS l) m).2.2 != 0) = true := by simp [he]
        simp only [e1]
        rfl
    · unfold pickL
      rw [e]
      rfl
    · unfold pickL
      rw [e]
      rfl
end Go.PG
namespace Go.PG
def smallF (l : List Int) : List Int := l.map fun v => v % 5
theorem smallF_len (l : List Int) : (smallF l).length = l.length := by simp [smallF]
theorem smallF_range (l : List Int) : ∀ x ∈ smallF l, 0 ≤ x ∧ x ≤ 4 := fun x hx => by
  unfold smallF at hx
  obtain ⟨v, _, rfl⟩ := List.mem_map.1 hx
  omega
theorem smallF_u64 (l : List Int) : AllU64 (smallF l) := fun x hx => by
  have := smallF_range l x hx
  unfold U64; omega
theorem smallF_tot : ∀ (l : List Int), totS (smallF l) ≤ 4 * (l.length : Int)
  | [] => by simp [totS, sumS, smallF]
  | v :: l => by
    have ih := smallF_tot l
    have e : totS (smallF (v :: l)) = v % 5 + totS (smallF l) := by
      unfold totS sumS smallF
      rw [List.take_length, List.take_length]
      simp
    rw [e]
    simp only [List.length_cons]
    omega
theorem G3_8_eq (R : Type) {l : List Int} (h : AllU64 l) (hlen : l.length ≤ 8) (x2 : Int) (k0 : List Int → Int → Int → List Int → Option R) : ∀ (m i : Nat), i ≤ l.length → l.length - i < m →
    G3_8 m R l x2 (totS (smallF (l.take i))) (i : Int) (smallF (l.take i)) k0 = k0 l x2 (totS (smallF l)) (smallF l)
  | 0, i, _, h => by omega
  | m + 1, i, h1, h2 => by
    simp only [G3_8, p3_8]
    by_cases hi : i < l.length
    · have hd : decide ((i : Int) < (l.length : Int)) = true := by simpa using hi
      have hbn : bnd (i : Int) (l.length : Int) = true := by unfold bnd; simp; omega
      have hc : ∀ y : Int, decide (List.length (smallF (l.take i)) + List.length [y] ≤ 17592186044416) = true := fun y => by rw [smallF_len]; simp; omega
      simp only [hd, hbn, hc, Int.toNat_natCast]
      have hv := getD_all h u64_0 i
      unfold U64 at hv
      rw [Int.tmod_eq_emod_of_nonneg hv.1]
      have et : l.take (i + 1) = l.take i ++ [l.getD i 0] := by
        rw [List.take_succ_eq_append_getElem hi]; simp [hi]
      have es : smallF (l.take i) ++ [l.getD i 0 % 5] = smallF (l.take (i + 1)) := by
        rw [et]; simp [smallF]
      have ht : totS (smallF (l.take i)) + l.getD i 0 % 5 = totS (smallF (l.take (i + 1))) := by
        rw [← es, tot_append]
      have h3 := smallF_tot (l.take i)
      have h4 := sumS_nonneg (smallF_u64 (l.take i)) (smallF (l.take i)).length
      have h5 : (l.take i).length ≤ 8 := by simp; omega
      have h6 : 0 ≤ totS (smallF (l.take i)) := h4
      rw [wrap_u64 (n := totS (smallF (l.take i)) + l.getD i 0 % 5) (by omega) (by omega), ht, es, wrap_i64 (n := (i : Int) + 1) (by omega) (by omega)]
      exact G3_8_eq R h hlen x2 k0 m (i + 1) (by omega) (by omega)
    · have : i = l.length := by omega
      subst this
      have hd : decide ((l.length : Int) < (l.length : Int)) = false := by simp
      simp only [hd]
      rw [List.take_length]
def ownU (l : List Int) (b B t : Nat) (i : Nat) : Nat → Bool := cntO b B (fun v => decide (ownT (totS l, tabC l, ()) (v : Int) = (i : Int))) t
theorem G3_22_eq (R : Type) {l : List Int} (h : AllU64 l) (hok : TabOk l) (hlen : l.length ≤ 8) {N b k t : Nat} (hN : l.length = N) (hb : (l.length : Int) * totS l = b) (hb0 : 0 < b) (hb32 : b ≤ 1000) (hk : needS (b : Int) = k) (hk5 : k ≤ 12) (ht0 : 0 < t) (ht : t ≤ 4) (hT : k * t ≤ 12) (x1 x2 : Int) (k0 : Bool → Option R) (k1 : Int → Int → Int → Int → Int → List Int → List Int → Option R) :
    ∀ (m x : Nat), x ≤ 2 ^ (k * t) → 2 ^ (k * t) - x < m → G3_22 m R x1 x2 (t : Int) (k : Int) ((cnt (fun y => outO b (2 ^ k) t y == none) x : Nat) : Int) (x : Int) l (totS l, tabC l, ()) (gotQ (ownU l b (2 ^ k) t) N x) k0 k1 =
      k1 x1 x2 (t : Int) (k : Int) ((cnt (fun y => outO b (2 ^ k) t y == none) (2 ^ (k * t)) : Nat) : Int) l (gotQ (ownU l b (2 ^ k) t) N (2 ^ (k * t)))
  | 0, x, _, hh => by omega
  | m + 1, x, h1, h2 => by
    simp only [G3_22, p3_22]
    have h12 : 2 ^ (k * t) ≤ 2 ^ 12 := Nat.pow_le_pow_right (by omega) hT
    have ekt : IntKind.i64.wrap ((k : Int) * (t : Int)) = ((k * t : Nat) : Int) := by
      rw [← Int.natCast_mul]
      exact wrap_i64 (by omega) (by omega)
    rw [ekt, F11_eq R (n := k * t) (by omega) (two_pow_ok (by omega))]
    have ep : (2 : Int) ^ (k * t) = ((2 ^ (k * t) : Nat) : Int) := by simp
    rw [ep]
    by_cases hx : x < 2 ^ (k * t)
    · have hd : decide ((x : Int) < ((2 ^ (k * t) : Nat) : Int)) = true := decide_eq_true (by omega)
      simp only [hd]
      rw [F13_eq R (by omega) hx, wrap_u64 (n := ((k * t : Nat) : Int)) (by omega) (by omega), F12_eq R (by rw [tapeX_len]; omega)]
      have etr : tapeR (bytesX x (k * t) (k * t)) ((k * t : Nat) : Int) = (tapeX x (k * t), 0) := by
        unfold tapeR
        rw [if_pos (by rw [tapeX_len]; omega)]
        rfl
      simp only [etr]
      have hlC : (tabC l).length = l.length := tabC_len h hok.2.2.2
      rw [F14_eq R (t := (totS l, tabC l, ())) (by unfold U64; exact ⟨sumS_nonneg h l.length, by have := hok.2.1; show totS l < _; omega⟩) (by show (tabC l).length ≤ 1000; omega) (tapeX_ok x (by omega))]
      have hs0 : tapeX x (k * t) = setAt (tapeX x (k * t)) ((k * t - k * t : Nat) : Int) := by rw [Nat.sub_self]; rfl
      have hr0 : rightS' (tapeX x (k * t)) = true := by rw [hs0, Nat.sub_self]; exact (tapeX_right x (Nat.zero_le _)).1
      have edr : drawR (tapeX x (k * t)) ((l.length : Int) * totS l) (t : Int) = drawF (b : Int) t (setAt (tapeX x (k * t)) ((k * t - k * t : Nat) : Int)) := by
        rw [← hs0, hb]
        unfold drawR
        rw [if_pos ⟨hr0, by omega, by omega, by omega, by omega⟩, Int.toNat_natCast]
      have elr : pickR (totS l, tabC l, ()) (tapeX x (k * t)) (t : Int) = (if (drawF (b : Int) t (setAt (tapeX x (k * t)) ((k * t - k * t : Nat) : Int))).2.2 = 0 then (ownT (totS l, tabC l, ()) (drawF (b : Int) t (setAt (tapeX x (k * t)) ((k * t - k * t : Nat) : Int))).1, (drawF (b : Int) t (setAt (tapeX x (k * t)) ((k * t - k * t : Nat) : Int))).2.1, 0) else (0, (drawF (b : Int) t (setAt (tapeX x (k * t)) ((k * t - k * t : Nat) : Int))).2.1, (drawF (b : Int) t (setAt (tapeX x (k * t)) ((k * t - k * t : Nat) : Int))).2.2)) := by
        unfold pickR
        rw [if_pos (tab_right h hok)]
        simp only [hlC]
        rw [edr]
      have hxm : x % (2 ^ k) ^ t = x := Nat.mod_eq_of_lt (by rw [← Nat.pow_mul]; exact hx)
      obtain ⟨d1, d2⟩ := draw_tape (x := x) hk (by omega) (show k * t ≤ 12 by omega) t (Nat.le_refl _)
      rw [hxm] at d1 d2
      rw [elr]
      have ebits : (tapeX x (k * t)).2.2.1 = ((k * t : Nat) : Int) := rfl
      have hat : ∀ a : Int, (setAt (tapeX x (k * t)) a).2.2.2.2.2.1 = a := fun _ => rfl
      cases ho : outO b (2 ^ k) t x with
      | some v =>
        obtain ⟨hv, a, ha, hdr⟩ := d1 v ho
        have hvu : 0 ≤ (v : Int) ∧ (v : Int) < (l.length : Int) * totS l := by omega
        obtain ⟨j, ej⟩ : ∃ j : Nat, ownT (totS l, tabC l, ()) (v : Int) = (j : Int) := ⟨(ownT (totS l, tabC l, ()) (v : Int)).toNat, by have := (tab_own h hok hvu).1; omega⟩
        have hj1 : j < N := by have := (tab_own h hok hvu).2; omega
        have g1 : decide ((a : Int) > ((k * t : Nat) : Int)) = false := decide_eq_false (by omega)
        have g2 : decide ((j : Int) ≥ 0) = true := decide_eq_true (by omega)
        have g4 : decide ((j : Int) < (N : Int)) = true := decide_eq_true (by omega)
        have g3 : bnd (j : Int) (N : Int) = true := by unfold bnd; simp; omega
        simp only [hdr, if_true, ebits, hat, g1, beq_self_eq_true, ej, g2, gotQ_len, g4, g3, Int.toNat_natCast]
        rw [gotQ_get (by omega)]
        have hc := cntX_le (ownU l b (2 ^ k) t j) x
        have hstep := gotQ_step (p := ownU l b (2 ^ k) t) (x := x) hj1 (fun i hi => by
          unfold ownU cntO
          rw [ho]
          simp only [ej]
          by_cases e : j = i
          · simp [e]
          · have e' : ¬ i = j := fun q => e q.symm
            have e2 : ¬ (j : Int) = (i : Int) := by omega
            simp [e', e2])
        rw [wrap_u64 (n := ((cnt (ownU l b (2 ^ k) t j) x : Nat) : Int) + 1) (by omega) (by omega), ← hstep, wrap_u64 (n := (x : Int) + 1) (by omega) (by omega)]
        have e : cnt (fun y => outO b (2 ^ k) t y == none) x = cnt (fun y => outO b (2 ^ k) t y == none) (x + 1) := by
          rw [cnt_succ]
          have : (outO b (2 ^ k) t x == none) = false := by rw [ho]; rfl
          rw [this]; simp
        rw [e]
        exact G3_22_eq R h hok hlen hN hb hb0 hb32 hk hk5 ht0 ht hT x1 x2 k0 k1 m (x + 1) (by omega) (by omega)
      | none =>
        have hdr := d2 ho
        have g1 : decide (((k * t : Nat) : Int) > ((k * t : Nat) : Int)) = false := decide_eq_false (by omega)
        have g2 : ((9 : Int) == 0) = false := rfl
        have g9 : ¬ ((9 : Int) = 0) := by omega
        simp only [hdr, if_neg g9, ebits, hat, g1, beq_self_eq_true, g2]
        have hc := cntX_le (fun y => outO b (2 ^ k) t y == none) x
        have hsame := gotQ_same (p := ownU l b (2 ^ k) t) (n := N) (x := x) (fun i hi => by
          unfold ownU cntO
          rw [ho])
        rw [wrap_u64 (n := ((cnt (fun y => outO b (2 ^ k) t y == none) x : Nat) : Int) + 1) (by omega) (by omega), wrap_u64 (n := (x : Int) + 1) (by omega) (by omega), ← hsame]
        have e : ((cnt (fun y => outO b (2 ^ k) t y == none) x : Nat) : Int) + 1 = ((cnt (fun y => outO b (2 ^ k) t y == none) (x + 1) : Nat) : Int) := by
          rw [cnt_succ]
          have : (outO b (2 ^ k) t x == none) = true := by rw [ho]; rfl
          rw [this]; simp
        rw [e]
        exact G3_22_eq R h hok hlen hN hb hb0 hb32 hk hk5 ht0 ht hT x1 x2 k0 k1 m (x + 1) (by omega) (by omega)
    · have : x = 2 ^ (k * t) := by omega
      have hd : decide ((x : Int) < ((2 ^ (k * t) : Nat) : Int)) = false := decide_eq_false (by omega)
      simp only [hd]
      rw [this]
theorem G3_35_eq (R : Type) {l : List Int} (h : AllU64 l) (hok : TabOk l) (hsm : ∀ i, l.getD i 0 ≤ 5) (hlen : l.length ≤ 8) {N b T k t : Nat} (hN : l.length = N) (hTT : totS l = (T : Int)) (hbT : l.length * T = b) (hT5 : T ≤ 1000) (hbB : b ≤ 2 ^ k) (hT : k * t ≤ 12) (x4 : Int) (k0 : Bool → Option R) (k1 : Int → Int → Option R) :
    ∀ (m i : Nat), i ≤ l.length → l.length - i < m → G3_35 m R (T : Int) (t : Int) (k : Int) x4 (((2 ^ k - b) ^ t : Nat) : Int) (i : Int) l (gotQ (ownU l b (2 ^ k) t) N (2 ^ (k * t))) k0 k1 = k1 x4 (((2 ^ k - b) ^ t : Nat) : Int)
  | 0, i, _, hh => by omega
  | m + 1, i, h1, h2 => by
    simp only [G3_35, p3_35, gotQ_len]
    by_cases hi : i < l.length
    · have hd : decide ((i : Int) < (N : Int)) = true := decide_eq_true (by omega)
      have h12 : 2 ^ (k * t) ≤ 2 ^ 12 := Nat.pow_le_pow_right (by omega) hT
      have g3 : bnd (i : Int) (N : Int) = true := by unfold bnd; simp; omega
      have g3' : bnd (i : Int) (l.length : Int) = true := by unfold bnd; simp; omega
      have ekt : IntKind.i64.wrap ((k : Int) * (t : Int)) = ((k * t : Nat) : Int) := by
        rw [← Int.natCast_mul]
        exact wrap_i64 (by omega) (by omega)
      simp only [hd, g3, g3', Int.toNat_natCast]
      rw [gotQ_get (by omega), ekt, F11_eq R (n := k * t) (by omega) (two_pow_ok (by omega))]
      have hcnt := count_q (B := 2 ^ k) (Nat.pow_pos (by omega)) hbB (fun v => decide (ownT (totS l, tabC l, ()) (v : Int) = (i : Int))) t
      have hown := tab_cnt h hok hTT (i := (i : Int)) (by omega)
      rw [hbT, Int.toNat_natCast] at hown
      rw [← Nat.pow_mul] at hcnt
      have ep : (2 : Int) ^ (k * t) = ((2 ^ (k * t) : Nat) : Int) := by simp
      rw [ep]
      have hc4 := cntX_le (ownU l b (2 ^ k) t i) (2 ^ (k * t))
      have hs5 := hsm i
      have hs0 := (getD_all h u64_0 i).1
      have eo : ownU l b (2 ^ k) t i = cntO b (2 ^ k) (fun v => decide (ownT (totS l, tabC l, ()) (v : Int) = (i : Int))) t := rfl
      rw [eo] at hc4 ⊢
      generalize cnt (cntO b (2 ^ k) (fun v => decide (ownT (totS l, tabC l, ()) (v : Int) = (i : Int)))  t) (2 ^ (k * t)) = c at *
      generalize cnt (fun v => decide (ownT (totS l, tabC l, ()) (v : Int) = (i : Int))) b = Q at *
      obtain ⟨q, hq⟩ : ∃ q : Nat, l.getD i 0 = (q : Int) := ⟨(l.getD i 0).toNat, by omega⟩
      rw [hq] at hown hs5 ⊢
      obtain ⟨lo, hl⟩ : ∃ lo, lo = (2 ^ k - b) ^ t := ⟨_, rfl⟩
      obtain ⟨M, hM⟩ : ∃ M, M = 2 ^ (k * t) := ⟨_, rfl⟩
      have hloN : lo ≤ M := by
        rw [hl, hM, Nat.pow_mul]
        exact Nat.pow_le_pow_left (by omega) t
      rw [← hl, ← hM] at hcnt ⊢
      rw [← hM] at h12 hc4
      have hQ : Q = l.length * q := by
        have : (l.length : Int) * (q : Int) = ((l.length * q : Nat) : Int) := by simp
        omega
      have hcb : c * T ≤ 4096 * 1000 := Nat.mul_le_mul (by omega) hT5
      have hQN : q * (M - lo) ≤ 5 * 4096 := Nat.mul_le_mul (by omega) (by omega)
      have e5 : IntKind.u64.wrap ((c : Int) * (T : Int)) = ((c * T : Nat) : Int) := by
        rw [← Int.natCast_mul]
        exact wrap_u64 (by omega) (by omega)
      have e6 : IntKind.u64.wrap ((M : Int) - (lo : Int)) = ((M - lo : Nat) : Int) := by
        rw [show (M : Int) - (lo : Int) = ((M - lo : Nat) : Int) by omega]
        exact wrap_u64 (by omega) (by omega)
      have e7 : IntKind.u64.wrap ((q : Int) * ((M - lo : Nat) : Int)) = ((q * (M - lo) : Nat) : Int) := by
        rw [← Int.natCast_mul]
        exact wrap_u64 (by omega) (by omega)
      have e8 : c * T = q * (M - lo) := by
        have hlp : 0 < l.length := by omega
        apply Nat.eq_of_mul_eq_mul_left hlp
        rw [← hbT, hQ] at hcnt
        rw [Nat.mul_left_comm, ← Nat.mul_assoc l.length q, Nat.mul_sub]
        omega
      have g4 : (((q * (M - lo) : Nat) : Int) != ((q * (M - lo) : Nat) : Int)) = false := by simp
      simp only [e5, e6, e7, e8, g4]
      rw [wrap_i64 (n := (i : Int) + 1) (by omega) (by omega)]
      have ih := G3_35_eq R h hok hsm hlen (t := t) hN hTT hbT hT5 hbB hT x4 k0 k1 m (i + 1) (by omega) (by omega)
      rw [← hl, ← hM] at ih
      exact ih
    · have : i = l.length := by omega
      subst this
      have hd : decide ((l.length : Int) < (N : Int)) = false := decide_eq_false (by omega)
      simp only [hd]
theorem F3_eq' (R : Type) {l : List Int} (h : AllU64 l) {a : Int} (ha : 0 ≤ a ∧ a ≤ 255) (k : Bool → Option R) : F3 R l a k = k true := by
  simp only [F3, p3]
  rw [F8_eq]
  simp only [Bool.not_true]
  by_cases hlen : (l.length : Int) > 6
  · simp only [decide_eq_true hlen]
  simp only [decide_eq_false hlen]
  have hl8 : l.length ≤ 6 := by omega
  have g0 := G3_8_eq R h (by omega) a (fun x4 x5 x6 x7 =>
      match x6 == 0 with
      | true => k true
      | false => F9 R (IntKind.u64.wrap (IntKind.u64.wrap (x4.length : Int) * x6)) fun y15 => match decide (IntKind.i64.wrap (y15 * IntKind.i64.wrap (1 + IntKind.i64.wrap (Int.tmod x5 2))) > 12) with
          | true => k true
          | false => F10 R x7 fun y18 y19 => match decide (0 ≤ (x4.length : Int) ∧ (x4.length : Int) ≤ (x4.length : Int) ∧ (x4.length : Int) ≤ (17592186044416 : Int)) with
            | true => G3_22 FUEL R x6 (IntKind.u64.wrap (x4.length : Int)) (IntKind.i64.wrap (1 + IntKind.i64.wrap (Int.tmod x5 2))) y15 0 0 x7 y18 (List.replicate (Int.toNat (x4.length : Int)) 0) (fun x19 => k x19) (fun x23 x24 x25 x26 x27 x28 x29 => F11 R 2 x26 fun y30 => F11 R (IntKind.u64.wrap (y30 - IntKind.u64.wrap (x24 * x23))) x25 fun y33 => G3_35 FUEL R x23 x25 x26 x27 y33 0 x28 x29 (fun x34 => k x34) (fun x35 x36 => k (x35 == x36)))
            | false => none) FUEL 0 (by omega) (by rw [FUEL_eq]; omega)
  refine Eq.trans ?_ (g0.trans ?_)
  · rfl
  obtain ⟨t, ht, ht0, ht2⟩ : ∃ q : Nat, 1 + a % 2 = q ∧ 0 < q ∧ q ≤ 2 := ⟨(1 + a % 2).toNat, by omega, by omega, by omega⟩
  rw [Int.tmod_eq_emod_of_nonneg ha.1, wrap_i64 (n := a % 2) (by omega) (by omega), ht, wrap_i64 (n := (t : Int)) (by omega) (by omega)]
  have hs := smallF_u64 l
  have hsl := smallF_len l
  have htn := sumS_nonneg hs (smallF l).length
  have htl := smallF_tot l
  obtain ⟨T, hTT⟩ : ∃ T : Nat, totS (smallF l) = T := ⟨(totS (smallF l)).toNat, by have : 0 ≤ totS (smallF l) := htn; omega⟩
  obtain ⟨N, hN⟩ : ∃ N : Nat, l.length = N := ⟨_, rfl⟩
  rw [hTT]
  by_cases h0 : T = 0
  · subst h0; rfl
  have e0 : ((T : Int) == 0) = false := by simp [h0]
  simp only [e0]
  have hN0 : N ≠ 0 := fun e => by
    have : l = [] := List.length_eq_zero_iff.1 (by omega)
    subst this
    have : totS (smallF []) = 0 := rfl
    omega
  have hT24 : T ≤ 24 := by omega
  have hb144 : N * T ≤ 6 * 24 := Nat.mul_le_mul (by omega) hT24
  have hbp : 0 < N * T := Nat.mul_pos (by omega) (by omega)
  have hok : TabOk (smallF l) := by
    have e : ((smallF l).length : Int) * totS (smallF l) = ((N * T : Nat) : Int) := by rw [hsl, hN, hTT]; simp
    exact ⟨by omega, by omega, by omega, by omega⟩
  rw [hN]
  have ew : IntKind.u64.wrap (N : Int) = (N : Int) := wrap_u64 (by omega) (by omega)
  have ewb : IntKind.u64.wrap ((N : Int) * (T : Int)) = ((N * T : Nat) : Int) := by
    rw [← Int.natCast_mul]
    exact wrap_u64 (by omega) (by omega)
  simp only [ew, ewb]
  obtain ⟨b, hb⟩ : ∃ b, N * T = b := ⟨_, rfl⟩
  rw [hb] at hb144 hbp ewb ⊢
  have hU : U64 (b : Int) := by unfold U64; omega
  rw [F9_eq R hU]
  obtain ⟨s1, s2, s3⟩ := need_spec hU
  generalize hq : needS (b : Int) = q at *
  have hq6 : q ≤ 8 := by
    by_cases h2 : (2 : Int) ≤ b
    · have := (s3 h2).2
      refine Classical.byContradiction fun hh => ?_
      have h16 : (2 : Nat) ^ 8 ≤ 2 ^ (q - 1) := Nat.pow_le_pow_right (by omega) (by omega)
      have e : ((2 ^ (q - 1) : Nat) : Int) = (2 : Int) ^ (q - 1) := by simp
      omega
    · have hb1 : b = 1 := by omega
      subst hb1
      have : needS ((1 : Nat) : Int) = 0 := by kernel_rfl
      omega
  have eqt : IntKind.i64.wrap ((q : Int) * (t : Int)) = ((q * t : Nat) : Int) := by
    rw [← Int.natCast_mul]
    have : q * t ≤ 8 * 2 := Nat.mul_le_mul hq6 ht2
    exact wrap_i64 (by omega) (by omega)
  simp only [eqt]
  by_cases h12 : ((q * t : Nat) : Int) > 12
  · simp only [decide_eq_true h12]
  simp only [decide_eq_false h12]
  have hT : q * t ≤ 12 := by omega
  have hbB : b ≤ 2 ^ q := by
    have e : ((2 ^ q : Nat) : Int) = (2 : Int) ^ q := by simp
    omega
  have hc : decide (0 ≤ (N : Int) ∧ (N : Int) ≤ (N : Int) ∧ (N : Int) ≤ (17592186044416 : Int)) = true := decide_eq_true (by omega)
  have etab : tabR (smallF l) = ((totS (smallF l), tabC (smallF l), ()), 0) := tabR_ok hok.1 hok.2.1 hok.2.2.1 hok.2.2.2
  rw [F10_eq R hs (by omega), etab]
  simp only [hc, Int.toNat_natCast]
  have hbb : ((smallF l).length : Int) * totS (smallF l) = (b : Int) := by rw [hsl, hN, hTT, ← hb]; simp
  have g := G3_22_eq R hs hok (by omega) (N := N) (by omega) hbb (by omega) (by omega) hq (by omega) ht0 (by omega) hT (T : Int) (N : Int) (fun x19 => k x19) (fun x23 x24 x25 x26 x27 x28 x29 => F11 R 2 x26 fun y30 => F11 R (IntKind.u64.wrap (y30 - IntKind.u64.wrap (x24 * x23))) x25 fun y33 => G3_35 FUEL R x23 x25 x26 x27 y33 0 x28 x29 (fun x34 => k x34) (fun x35 x36 => k (x35 == x36))) FUEL 0 (Nat.zero_le _) (by
    have : 2 ^ (q * t) ≤ 2 ^ 12 := Nat.pow_le_pow_right (by omega) hT
    rw [FUEL_eq]; omega)
  have z1 : cnt (fun y => outO b (2 ^ q) t y == none) 0 = 0 := rfl
  rw [z1, gotQ_zero] at g
  refine Eq.trans ?_ (g.trans ?_)
  · rfl
  rw [F11_eq R (n := q) (by omega) (two_pow_ok (by omega))]
  have e : (2 : Int) ^ q = ((2 ^ q : Nat) : Int) := by simp
  have hB16 : 2 ^ q ≤ 2 ^ 8 := Nat.pow_le_pow_right (by omega) hq6
  have ewb' : IntKind.u64.wrap ((N : Int) * (T : Int)) = (b : Int) := by rw [← hb]; exact (by rw [← Int.natCast_mul]; exact wrap_u64 (by omega) (by omega))
  rw [ewb', e, wrap_u64 (n := ((2 ^ q : Nat) : Int) - (b : Int)) (by omega) (by omega), show ((2 ^ q : Nat) : Int) - (b : Int) = ((2 ^ q - b : Nat) : Int) by omega]
  have hpw : ∀ i ≤ t, 0 ≤ ((2 ^ q - b : Nat) : Int) ^ i ∧ ((2 ^ q - b : Nat) : Int) ^ i < 18446744073709551616 := fun i hi => by
    have h1 : (2 ^ q - b) ^ i ≤ (2 ^ 8) ^ i := Nat.pow_le_pow_left (by omega) i
    have h2 : (2 ^ 8) ^ i ≤ (2 ^ 8) ^ 2 := Nat.pow_le_pow_right (by omega) (by omega)
    rw [← Int.natCast_pow]
    omega
  rw [F11_eq R (n := t) (by omega) hpw, ← Int.natCast_pow]
  have hsm : ∀ i, (smallF l).getD i 0 ≤ 5 := fun i => getD_all (p := fun x => x ≤ 5) (fun x hx => by have := (smallF_range l x hx).2; omega) (by omega) i
  have g2 := G3_35_eq R hs hok hsm (by omega) (N := N) (T := T) (by omega) hTT (by rw [hsl, hN]; exact hb) (by omega) hbB hT ((cnt (fun y => outO b (2 ^ q) t y == none) (2 ^ (q * t)) : Nat) : Int) (fun x29 => k x29) (fun x30 x31 => k (x30 == x31)) FUEL 0 (Nat.zero_le _) (by rw [FUEL_eq]; omega)
  refine Eq.trans ?_ (g2.trans ?_)
  · rfl
  rw [Nat.pow_mul, count_none (Nat.pow_pos (by omega))]
  simp
end Go.PG
