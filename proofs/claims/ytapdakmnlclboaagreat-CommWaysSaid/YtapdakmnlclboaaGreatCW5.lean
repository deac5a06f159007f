/- A part of the proof over this seat (own work; the framework that reads a Go function as a pure one, or a use of it). No condition of its own. -/
import Derived.Test.YtapdakmnlclboaaGreatCW4
import Derived.Test.YtapdakmnlclboaaGreatProg
import Derived.KernelRfl
set_option linter.unusedVariables false
set_option linter.unusedSimpArgs false
set_option linter.unusedSectionVars false
set_option maxRecDepth 100000
namespace Go.PG
open Go.Proofs
abbrev FT105 : Type 1 := (R : Type) → (List Int) → (List Int) → ((List Int) → Int → Option R) → Option R
def en105 (F : FT105) : Ent := ⟨105, [(false, (.sl (.int .u32))), (false, (.sl (.int .u32)))], [(false, (.sl (.int .u32))), (false, (.int .i64))], fun R x k => F R x.1 x.2.1 (fun y1 y2 => k (y1, y2, ()) ())⟩
def res105 : List (ResultVar × TypeId × Bool) := [(.tmp 4, 57, false), (.tmp 5, 32, false)]
abbrev LT105_8 : Type 1 := (R : Type) → (List Int) → Int → (List Int) → Int → Int → (List Int) → ((List Int) → Option R) → Option R
def le105_8 (L : LT105_8) : LEnt := ⟨8, [.val 1 (.sl (.int .u32)), .fix 6 (.own 1 0), .val 7 (.int .i64), .val 25 (.sl (.int .u32)), .val 26 (.int .i64), .val 27 (.int .i64), .row 1 (.int .u32) false], 2, [(.exit 1, [.fix 6 (.own 1 0), .row 1 (.int .u32) false])], fun R x ke => L R x.1 x.2.1 x.2.2.1 x.2.2.2.1 x.2.2.2.2.1 x.2.2.2.2.2.1 (fun y1 => ke.1 (y1, ()))⟩
noncomputable def e105 (F130 : FT130) (F131 : FT131) (F132 : FT132) (L8 : LT105_8) (R : Type) : Env R := ⟨TT, EQT, 0, 57, ownOf [], callOf [en130 F130, en131 F131, en132 F132] R, loopOf [le105_8 L8] R, [], inlOf []⟩
def p105_8 : (R : Type) → (List Int) → Int → (List Int) → Int → Int → (List Int) → ((List Int) → Int → (List Int) → Int → Int → (List Int) → Option R) → ((List Int) → Option R) → Option R := fun R x1 x2 x3 x4 x5 x6 kc k0 =>
let v7 := (decide (x5 < x4));
(match v7 with
| true => (match (bnd x5 (List.length x3 : Int)) with
| true => let v8 := (List.getD x3 (Int.toNat x5) (0 : Int));
let v9 := (IntKind.i64.wrap v8);
let v10 := (IntKind.i64.wrap (v9 + x2));
let v11 := (List.length x1 : Int);
let v12 := (decide (x5 < v11));
(match v12 with
| true => (match (bnd x5 (List.length x1 : Int)) with
| true => let v13 := (List.getD x1 (Int.toNat x5) (0 : Int));
let v14 := (IntKind.i64.wrap v13);
let v15 := (IntKind.i64.wrap (v10 - v14));
let v16 := (IntKind.u32.wrap v15);
(match (bnd x5 (List.length x6 : Int)) with
| true => let v17 : (List Int) := (List.set x6 (Int.toNat x5) v16);
let v18 := (ishr .i64 v15 (32 : Int));
let v19 := (IntKind.i64.wrap (x5 + (1 : Int)));
kc x1 v18 x3 x4 v19 v17
| false => none)
| false => none)
| false => let v20 := (IntKind.u32.wrap v10);
(match (bnd x5 (List.length x6 : Int)) with
| true => let v21 : (List Int) := (List.set x6 (Int.toNat x5) v20);
let v22 := (ishr .i64 v10 (32 : Int));
let v23 := (IntKind.i64.wrap (x5 + (1 : Int)));
kc x1 v22 x3 x4 v23 v21
| false => none))
| false => none)
| false => k0 x6)
theorem q105_8 (F130 : FT130) (F131 : FT131) (F132 : FT132) (L8 : LT105_8) (R : Type) (x : HT (le105_8 L8).H) (kc : HT (le105_8 L8).H → Option R) (ke : KT R (le105_8 L8).exs) :
  exec (e105 F130 F131 F132 L8 R) (lcode 8 (codeOf Tryz.f105)) (stOf (le105_8 L8).H x 2) (roundK (le105_8 L8).H (le105_8 L8).exs kc ke) =
    p105_8 R x.1 x.2.1 x.2.2.1 x.2.2.2.1 x.2.2.2.2.1 x.2.2.2.2.2.1 (fun x1 x2 x3 x4 x5 x6 => kc (x1, x2, x3, x4, x5, x6, ())) (fun y1 => ke.1 (y1, ())) := by kernel_rfl
noncomputable def G105_8 : Nat → LT105_8
  | 0 => fun _ _ _ _ _ _ _ _ => none
  | n + 1 => fun R x1 x2 x3 x4 x5 x6 k0 => p105_8 R x1 x2 x3 x4 x5 x6 (fun x1 x2 x3 x4 x5 x6 => G105_8 n R x1 x2 x3 x4 x5 x6 k0) k0
def p105 (F130 : FT130) (F131 : FT131) (F132 : FT132) (L8 : LT105_8) : FT105 := fun R a0 a1 k =>
let v1 : (List (List Int)) := ([a0, a1] : (List (List Int)));
F131 R v1 fun y2 =>
(match (!y2) with
| true => k ([] : (List Int)) (1 : Int)
| false => F132 R a0 a1 fun y3 =>
let v4 := (decide (y3 < (0 : Int)));
(match v4 with
| true => k ([] : (List Int)) (12 : Int)
| false => let v5 := (List.length a0 : Int);
(match (decide (0 ≤ v5 ∧ v5 ≤ v5 ∧ v5 ≤ (35184372088832 : Int))) with
| true => let v6 : (List Int) := (List.replicate (Int.toNat v5) (0 : Int));
let v7 := (List.length a0 : Int);
L8 R a1 (0 : Int) a0 v7 (0 : Int) v6 (fun x8 =>
F130 R x8 fun y9 =>
k y9 (0 : Int))
| false => none)))
theorem q105 (F130 : FT130) (F131 : FT131) (F132 : FT132) (L8 : LT105_8) (F : FT105) (R : Type) (x : AT (en105 F).ins) (k : RT (en105 F).outs → PT (en105 F).ins → Option R) :
  xfun (e105 F130 F131 F132 L8 R) (codeOf Tryz.f105) res105 (avs (en105 F).ins x) (finK (en105 F).outs (en105 F).ins k) = p105 F130 F131 F132 L8 R x.1 x.2.1 (fun y1 y2 => k (y1, y2, ()) ()) := by kernel_rfl
noncomputable def F105 : FT105 := p105 F130 F131 F132 (G105_8 FUEL)
theorem env105 (R : Type) : EnvOK Tryz.prog (e105 F130 F131 F132 (G105_8 FUEL) R) := ⟨tabOK, eqOK, callOf_ok (allE_cons ok130 (allE_cons ok131 (allE_cons ok132 allE_nil))), noIns, inlOK_nil⟩
noncomputable def T105_8 : (R : Type) → HT (le105_8 (G105_8 FUEL)).H → (HT (le105_8 (G105_8 FUEL)).H → Option R) → KT R (le105_8 (G105_8 FUEL)).exs → Option R := fun R x kc ke => p105_8 R x.1 x.2.1 x.2.2.1 x.2.2.2.1 x.2.2.2.2.1 x.2.2.2.2.2.1 (fun x1 x2 x3 x4 x5 x6 => kc (x1, x2, x3, x4, x5, x6, ())) (fun y1 => ke.1 (y1, ()))
theorem it105_8 : ∀ (n : Nat) (R : Type) (x : HT (le105_8 (G105_8 FUEL)).H) (ke : KT R (le105_8 (G105_8 FUEL)).exs), iter T105_8 n R x ke = G105_8 n R x.1 x.2.1 x.2.2.1 x.2.2.2.1 x.2.2.2.2.1 x.2.2.2.2.2.1 (fun y1 => ke.1 (y1, ())) := by
  intro n
  induction n with
  | zero => intro R x ke; rfl
  | succ n ih =>
    intro R x ke
    show T105_8 R x (fun x' => iter T105_8 n R x' ke) ke = _
    rw [show (fun x' => iter T105_8 n R x' ke) = fun x => G105_8 n R x.1 x.2.1 x.2.2.1 x.2.2.2.1 x.2.2.2.2.1 x.2.2.2.2.2.1 (fun y1 => ke.1 (y1, ())) from funext fun x' => ih R x' ke]
    rfl
theorem lok105_8 : (le105_8 (G105_8 FUEL)).OK Tryz.prog 0 57 (lcode 8 (codeOf Tryz.f105)) := fun R x ke r h =>
  iter_sound (fun R => e105 F130 F131 F132 (G105_8 FUEL) R) 0 57 (fun _ => rfl) (fun _ => rfl) (fun R => env105 R) mixed (by
    intro R
    rw [show loopsOf (lcode 8 (codeOf Tryz.f105)) = [] from by kernel_rfl]
    exact allM_nil) (T := T105_8) (fun R x kc ke => q105_8 F130 F131 F132 (G105_8 FUEL) R x kc ke) FUEL R x ke r ((it105_8 FUEL R x ke).trans h)
theorem ok105 : (en105 F105).OK Tryz.prog :=
  ent_ok (Ef := fun R => e105 F130 F131 F132 (G105_8 FUEL) R) (fun R => env105 R) mixed Tryz.func105 (body := codeOf Tryz.f105) (by kernel_rfl) (by kernel_rfl) (np := 0) (nt := 57) (fun _ => rfl) (fun _ => rfl) (by kernel_rfl) (res := res105) (by kernel_rfl) (fun _ => rfl) (fun _ => Nat.le_of_ble_eq_true rfl) (by
    intro R
    rw [show loopsOf (codeOf Tryz.f105) = [lcode 8 (codeOf Tryz.f105)] from by kernel_rfl]
    exact (allM_cons (loop_ok2 (e := le105_8 (G105_8 FUEL)) rfl rfl lok105_8) allM_nil)) (fun R x k => q105 F130 F131 F132 (G105_8 FUEL) F105 R x k)
abbrev FT135 : Type 1 := (R : Type) → (List Int) → (List Int) → ((List Int) → Option R) → Option R
def en135 (F : FT135) : Ent := ⟨135, [(false, (.sl (.int .u32))), (false, (.sl (.int .u32)))], [(false, (.sl (.int .u32)))], fun R x k => F R x.1 x.2.1 (fun y1 => k (y1, ()) ())⟩
def res135 : List (ResultVar × TypeId × Bool) := [(.tmp 4, 57, false)]
abbrev LT135_3 : Type 1 := (R : Type) → (List Int) → (List Int) → Int → Int → (List Int) → ((List Int) → Option R) → Option R
def le135_3 (L : LT135_3) : LEnt := ⟨3, [.val 1 (.sl (.int .u32)), .fix 5 (.own 0 0), .val 17 (.sl (.int .u32)), .val 18 (.int .i64), .val 19 (.int .i64), .row 0 (.int .u32) false], 1, [(.exit 0, [.fix 5 (.own 0 0), .row 0 (.int .u32) false])], fun R x ke => L R x.1 x.2.1 x.2.2.1 x.2.2.2.1 x.2.2.2.2.1 (fun y1 => ke.1 (y1, ()))⟩
abbrev LT135_7 : Type 1 := (R : Type) → (List Int) → Int → Int → Int → (List Int) → Int → Int → (List Int) → Int → Int → (List Int) → ((List Int) → Int → Int → (List Int) → Int → Int → (List Int) → Option R) → Option R
def le135_7 (L : LT135_7) : LEnt := ⟨7, [.val 1 (.sl (.int .u32)), .fix 5 (.own 0 0), .val 6 (.int .i64), .val 7 (.int .u32), .val 8 (.int .u64), .val 17 (.sl (.int .u32)), .val 18 (.int .i64), .val 19 (.int .i64), .val 24 (.sl (.int .u32)), .val 25 (.int .i64), .val 26 (.int .i64), .row 0 (.int .u32) false], 1, [(.exit 2, [.val 1 (.sl (.int .u32)), .fix 5 (.own 0 0), .val 6 (.int .i64), .val 8 (.int .u64), .val 17 (.sl (.int .u32)), .val 18 (.int .i64), .val 19 (.int .i64), .row 0 (.int .u32) false])], fun R x ke => L R x.1 x.2.1 x.2.2.1 x.2.2.2.1 x.2.2.2.2.1 x.2.2.2.2.2.1 x.2.2.2.2.2.2.1 x.2.2.2.2.2.2.2.1 x.2.2.2.2.2.2.2.2.1 x.2.2.2.2.2.2.2.2.2.1 x.2.2.2.2.2.2.2.2.2.2.1 (fun y1 y2 y3 y4 y5 y6 y7 => ke.1 (y1, y2, y3, y4, y5, y6, y7, ()))⟩
noncomputable def e135 (F130 : FT130) (L3 : LT135_3) (L7 : LT135_7) (R : Type) : Env R := ⟨TT, EQT, 0, 67, ownOf [], callOf [en130 F130] R, loopOf [le135_3 L3, le135_7 L7] R, [], inlOf []⟩
def p135_7 : (R : Type) → (List Int) → Int → Int → Int → (List Int) → Int → Int → (List Int) → Int → Int → (List Int) → ((List Int) → Int → Int → Int → (List Int) → Int → Int → (List Int) → Int → Int → (List Int) → Option R) → ((List Int) → Int → Int → (List Int) → Int → Int → (List Int) → Option R) → Option R := fun R x1 x2 x3 x4 x5 x6 x7 x8 x9 x10 x11 kc k0 =>
let v12 := (decide (x10 < x9));
(match v12 with
| true => (match (bnd x10 (List.length x8 : Int)) with
| true => let v13 := (List.getD x8 (Int.toNat x10) (0 : Int));
let v14 := (IntKind.u64.wrap x3);
let v15 := (IntKind.u64.wrap v13);
let v16 := (IntKind.u64.wrap (v14 * v15));
let v17 := (IntKind.i64.wrap (x2 + x10));
(match (bnd v17 (List.length x11 : Int)) with
| true => let v18 := (List.getD x11 (Int.toNat v17) (0 : Int));
let v19 := (IntKind.u64.wrap v18);
let v20 := (IntKind.u64.wrap (v16 + v19));
let v21 := (IntKind.u64.wrap (x4 + v20));
let v22 := (IntKind.i64.wrap (x2 + x10));
let v23 := (IntKind.u32.wrap v21);
(match (bnd v22 (List.length x11 : Int)) with
| true => let v24 : (List Int) := (List.set x11 (Int.toNat v22) v23);
let v25 := (ishr .u64 v21 (32 : Int));
let v26 := (IntKind.i64.wrap (x10 + (1 : Int)));
kc x1 x2 x3 v25 x5 x6 x7 x8 x9 v26 v24
| false => none)
| false => none)
| false => none)
| false => k0 x1 x2 x4 x5 x6 x7 x11)
theorem q135_7 (F130 : FT130) (L3 : LT135_3) (L7 : LT135_7) (R : Type) (x : HT (le135_7 L7).H) (kc : HT (le135_7 L7).H → Option R) (ke : KT R (le135_7 L7).exs) :
  exec (e135 F130 L3 L7 R) (lcode 7 (codeOf Tryz.f135)) (stOf (le135_7 L7).H x 1) (roundK (le135_7 L7).H (le135_7 L7).exs kc ke) =
    p135_7 R x.1 x.2.1 x.2.2.1 x.2.2.2.1 x.2.2.2.2.1 x.2.2.2.2.2.1 x.2.2.2.2.2.2.1 x.2.2.2.2.2.2.2.1 x.2.2.2.2.2.2.2.2.1 x.2.2.2.2.2.2.2.2.2.1 x.2.2.2.2.2.2.2.2.2.2.1 (fun x1 x2 x3 x4 x5 x6 x7 x8 x9 x10 x11 => kc (x1, x2, x3, x4, x5, x6, x7, x8, x9, x10, x11, ())) (fun y1 y2 y3 y4 y5 y6 y7 => ke.1 (y1, y2, y3, y4, y5, y6, y7, ())) := by kernel_rfl
noncomputable def G135_7 : Nat → LT135_7
  | 0 => fun _ _ _ _ _ _ _ _ _ _ _ _ _ => none
  | n + 1 => fun R x1 x2 x3 x4 x5 x6 x7 x8 x9 x10 x11 k0 => p135_7 R x1 x2 x3 x4 x5 x6 x7 x8 x9 x10 x11 (fun x1 x2 x3 x4 x5 x6 x7 x8 x9 x10 x11 => G135_7 n R x1 x2 x3 x4 x5 x6 x7 x8 x9 x10 x11 k0) k0
def p135_3 (L7 : LT135_7) : (R : Type) → (List Int) → (List Int) → Int → Int → (List Int) → ((List Int) → (List Int) → Int → Int → (List Int) → Option R) → ((List Int) → Option R) → Option R := fun R x1 x2 x3 x4 x5 kc k0 =>
let v6 := (decide (x4 < x3));
(match v6 with
| true => (match (bnd x4 (List.length x2 : Int)) with
| true => let v7 := (List.getD x2 (Int.toNat x4) (0 : Int));
let v8 := (List.length x1 : Int);
L7 R x1 x4 v7 (0 : Int) x2 x3 x4 x1 v8 (0 : Int) x5 (fun x9 x10 x11 x12 x13 x14 x15 =>
let v16 := (List.length x9 : Int);
let v17 := (IntKind.i64.wrap (x10 + v16));
let v18 := (IntKind.u32.wrap x11);
(match (bnd v17 (List.length x15 : Int)) with
| true => let v19 : (List Int) := (List.set x15 (Int.toNat v17) v18);
let v20 := (IntKind.i64.wrap (x14 + (1 : Int)));
kc x9 x12 x13 v20 v19
| false => none))
| false => none)
| false => k0 x5)
theorem q135_3 (F130 : FT130) (L3 : LT135_3) (L7 : LT135_7) (R : Type) (x : HT (le135_3 L3).H) (kc : HT (le135_3 L3).H → Option R) (ke : KT R (le135_3 L3).exs) :
  exec (e135 F130 L3 L7 R) (lcode 3 (codeOf Tryz.f135)) (stOf (le135_3 L3).H x 1) (roundK (le135_3 L3).H (le135_3 L3).exs kc ke) =
    p135_3 L7 R x.1 x.2.1 x.2.2.1 x.2.2.2.1 x.2.2.2.2.1 (fun x1 x2 x3 x4 x5 => kc (x1, x2, x3, x4, x5, ())) (fun y1 => ke.1 (y1, ())) := by kernel_rfl
noncomputable def G135_3 : Nat → LT135_3
  | 0 => fun _ _ _ _ _ _ _ => none
  | n + 1 => fun R x1 x2 x3 x4 x5 k0 => p135_3 (G135_7 FUEL) R x1 x2 x3 x4 x5 (fun x1 x2 x3 x4 x5 => G135_3 n R x1 x2 x3 x4 x5 k0) k0
def p135 (F130 : FT130) (L3 : LT135_3) : FT135 := fun R a0 a1 k =>
let v1 := (List.length a0 : Int);
let v2 := (List.length a1 : Int);
let v3 := (IntKind.i64.wrap (v1 + v2));
(match (decide (0 ≤ v3 ∧ v3 ≤ v3 ∧ v3 ≤ (35184372088832 : Int))) with
| true => let v4 : (List Int) := (List.replicate (Int.toNat v3) (0 : Int));
let v5 := (List.length a0 : Int);
L3 R a1 a0 v5 (0 : Int) v4 (fun x6 =>
F130 R x6 fun y7 =>
k y7)
| false => none)
theorem q135 (F130 : FT130) (L3 : LT135_3) (L7 : LT135_7) (F : FT135) (R : Type) (x : AT (en135 F).ins) (k : RT (en135 F).outs → PT (en135 F).ins → Option R) :
  xfun (e135 F130 L3 L7 R) (codeOf Tryz.f135) res135 (avs (en135 F).ins x) (finK (en135 F).outs (en135 F).ins k) = p135 F130 L3 R x.1 x.2.1 (fun y1 => k (y1, ()) ()) := by kernel_rfl
noncomputable def F135 : FT135 := p135 F130 (G135_3 FUEL)
theorem env135 (R : Type) : EnvOK Tryz.prog (e135 F130 (G135_3 FUEL) (G135_7 FUEL) R) := ⟨tabOK, eqOK, callOf_ok (allE_cons ok130 allE_nil), noIns, inlOK_nil⟩
noncomputable def T135_7 : (R : Type) → HT (le135_7 (G135_7 FUEL)).H → (HT (le135_7 (G135_7 FUEL)).H → Option R) → KT R (le135_7 (G135_7 FUEL)).exs → Option R := fun R x kc ke => p135_7 R x.1 x.2.1 x.2.2.1 x.2.2.2.1 x.2.2.2.2.1 x.2.2.2.2.2.1 x.2.2.2.2.2.2.1 x.2.2.2.2.2.2.2.1 x.2.2.2.2.2.2.2.2.1 x.2.2.2.2.2.2.2.2.2.1 x.2.2.2.2.2.2.2.2.2.2.1 (fun x1 x2 x3 x4 x5 x6 x7 x8 x9 x10 x11 => kc (x1, x2, x3, x4, x5, x6, x7, x8, x9, x10, x11, ())) (fun y1 y2 y3 y4 y5 y6 y7 => ke.1 (y1, y2, y3, y4, y5, y6, y7, ()))
theorem it135_7 : ∀ (n : Nat) (R : Type) (x : HT (le135_7 (G135_7 FUEL)).H) (ke : KT R (le135_7 (G135_7 FUEL)).exs), iter T135_7 n R x ke = G135_7 n R x.1 x.2.1 x.2.2.1 x.2.2.2.1 x.2.2.2.2.1 x.2.2.2.2.2.1 x.2.2.2.2.2.2.1 x.2.2.2.2.2.2.2.1 x.2.2.2.2.2.2.2.2.1 x.2.2.2.2.2.2.2.2.2.1 x.2.2.2.2.2.2.2.2.2.2.1 (fun y1 y2 y3 y4 y5 y6 y7 => ke.1 (y1, y2, y3, y4, y5, y6, y7, ())) := by
  intro n
  induction n with
  | zero => intro R x ke; rfl
  | succ n ih =>
    intro R x ke
    show T135_7 R x (fun x' => iter T135_7 n R x' ke) ke = _
    rw [show (fun x' => iter T135_7 n R x' ke) = fun x => G135_7 n R x.1 x.2.1 x.2.2.1 x.2.2.2.1 x.2.2.2.2.1 x.2.2.2.2.2.1 x.2.2.2.2.2.2.1 x.2.2.2.2.2.2.2.1 x.2.2.2.2.2.2.2.2.1 x.2.2.2.2.2.2.2.2.2.1 x.2.2.2.2.2.2.2.2.2.2.1 (fun y1 y2 y3 y4 y5 y6 y7 => ke.1 (y1, y2, y3, y4, y5, y6, y7, ())) from funext fun x' => ih R x' ke]
    rfl
theorem lok135_7 : (le135_7 (G135_7 FUEL)).OK Tryz.prog 0 67 (lcode 7 (codeOf Tryz.f135)) := fun R x ke r h =>
  iter_sound (fun R => e135 F130 (G135_3 FUEL) (G135_7 FUEL) R) 0 67 (fun _ => rfl) (fun _ => rfl) (fun R => env135 R) mixed (by
    intro R
    rw [show loopsOf (lcode 7 (codeOf Tryz.f135)) = [] from by kernel_rfl]
    exact allM_nil) (T := T135_7) (fun R x kc ke => q135_7 F130 (G135_3 FUEL) (G135_7 FUEL) R x kc ke) FUEL R x ke r ((it135_7 FUEL R x ke).trans h)
noncomputable def T135_3 : (R : Type) → HT (le135_3 (G135_3 FUEL)).H → (HT (le135_3 (G135_3 FUEL)).H → Option R) → KT R (le135_3 (G135_3 FUEL)).exs → Option R := fun R x kc ke => p135_3 (G135_7 FUEL) R x.1 x.2.1 x.2.2.1 x.2.2.2.1 x.2.2.2.2.1 (fun x1 x2 x3 x4 x5 => kc (x1, x2, x3, x4, x5, ())) (fun y1 => ke.1 (y1, ()))
theorem it135_3 : ∀ (n : Nat) (R : Type) (x : HT (le135_3 (G135_3 FUEL)).H) (ke : KT R (le135_3 (G135_3 FUEL)).exs), iter T135_3 n R x ke = G135_3 n R x.1 x.2.1 x.2.2.1 x.2.2.2.1 x.2.2.2.2.1 (fun y1 => ke.1 (y1, ())) := by
  intro n
  induction n with
  | zero => intro R x ke; rfl
  | succ n ih =>
    intro R x ke
    show T135_3 R x (fun x' => iter T135_3 n R x' ke) ke = _
    rw [show (fun x' => iter T135_3 n R x' ke) = fun x => G135_3 n R x.1 x.2.1 x.2.2.1 x.2.2.2.1 x.2.2.2.2.1 (fun y1 => ke.1 (y1, ())) from funext fun x' => ih R x' ke]
    rfl
theorem lok135_3 : (le135_3 (G135_3 FUEL)).OK Tryz.prog 0 67 (lcode 3 (codeOf Tryz.f135)) := fun R x ke r h =>
  iter_sound (fun R => e135 F130 (G135_3 FUEL) (G135_7 FUEL) R) 0 67 (fun _ => rfl) (fun _ => rfl) (fun R => env135 R) mixed (by
    intro R
    rw [show loopsOf (lcode 3 (codeOf Tryz.f135)) = [lcode 7 (codeOf Tryz.f135)] from by kernel_rfl]
    exact (allM_cons (loop_ok2 (e := le135_7 (G135_7 FUEL)) rfl rfl lok135_7) allM_nil)) (T := T135_3) (fun R x kc ke => q135_3 F130 (G135_3 FUEL) (G135_7 FUEL) R x kc ke) FUEL R x ke r ((it135_3 FUEL R x ke).trans h)
theorem ok135 : (en135 F135).OK Tryz.prog :=
  ent_ok (Ef := fun R => e135 F130 (G135_3 FUEL) (G135_7 FUEL) R) (fun R => env135 R) mixed Tryz.func135 (body := codeOf Tryz.f135) (by kernel_rfl) (by kernel_rfl) (np := 0) (nt := 67) (fun _ => rfl) (fun _ => rfl) (by kernel_rfl) (res := res135) (by kernel_rfl) (fun _ => rfl) (fun _ => Nat.le_of_ble_eq_true rfl) (by
    intro R
    rw [show loopsOf (codeOf Tryz.f135) = [lcode 3 (codeOf Tryz.f135)] from by kernel_rfl]
    exact (allM_cons (loop_ok2 (e := le135_3 (G135_3 FUEL)) rfl rfl lok135_3) allM_nil)) (fun R x k => q135 F130 (G135_3 FUEL) (G135_7 FUEL) F135 R x k)
abbrev FT134135 : Type 1 := (R : Type) → (List Int) → (List (List Int)) → ((List Int) → Int → Option R) → Option R
def en134135 (F : FT134135) : EntF := ⟨133, 135, [(false, (.sl (.int .u32))), (false, (.sl (.sl (.int .u32))))], [(false, (.sl (.int .u32))), (false, (.int .i64))], fun R x k => F R x.1 x.2.1 (fun y1 y2 => k (y1, y2, ()) ())⟩
def res134135 : List (ResultVar × TypeId × Bool) := [(.tmp 6, 57, false), (.tmp 7, 32, false)]
abbrev LT134135_4 : Type 1 := (R : Type) → (List Int) → (List (List Int)) → Int → Int → (Int → Option R) → ((List Int) → Option R) → Option R
def le134135_4 (L : LT134135_4) : LEnt := ⟨4, [.val 0 (.sl (.int .u32)), .fix 2 (.fn 135), .val 13 (.sl (.sl (.int .u32))), .val 14 (.int .i64), .val 15 (.int .i64)], 0, [(.ret, [.fix 6 .nil, .val 7 (.int .i64)]), (.exit 0, [.val 0 (.sl (.int .u32))])], fun R x ke => L R x.1 x.2.1 x.2.2.1 x.2.2.2.1 (fun y1 => ke.1 (y1, ())) (fun y1 => ke.2.1 (y1, ()))⟩
noncomputable def e134135 (F131 : FT131) (F135 : FT135) (L4 : LT134135_4) (R : Type) : Env R := ⟨TT, EQT, 0, 28, ownOf [], callOf [en131 F131, en135 F135] R, loopOf [le134135_4 L4] R, [], inlOf []⟩
def p134135_4 (F135 : FT135) : (R : Type) → (List Int) → (List (List Int)) → Int → Int → ((List Int) → (List (List Int)) → Int → Int → Option R) → (Int → Option R) → ((List Int) → Option R) → Option R := fun R x1 x2 x3 x4 kc k0 k1 =>
let v5 := (decide (x4 < x3));
(match v5 with
| true => (match (bnd x4 (List.length x2 : Int)) with
| true => let v6 : (List Int) := (List.getD x2 (Int.toNat x4) ([] : (List Int)));
F135 R x1 v6 fun y7 =>
let v8 := (List.length y7 : Int);
let v9 := (decide (v8 > (256 : Int)));
(match v9 with
| true => k0 (11 : Int)
| false => let v10 := (IntKind.i64.wrap (x4 + (1 : Int)));
kc y7 x2 x3 v10)
| false => none)
| false => k1 x1)
theorem q134135_4 (F131 : FT131) (F135 : FT135) (L4 : LT134135_4) (R : Type) (x : HT (le134135_4 L4).H) (kc : HT (le134135_4 L4).H → Option R) (ke : KT R (le134135_4 L4).exs) :
  exec (e134135 F131 F135 L4 R) (lcode 4 (codeOf Tryz.f133)) (stOf (le134135_4 L4).H x 0) (roundK (le134135_4 L4).H (le134135_4 L4).exs kc ke) =
    p134135_4 F135 R x.1 x.2.1 x.2.2.1 x.2.2.2.1 (fun x1 x2 x3 x4 => kc (x1, x2, x3, x4, ())) (fun y1 => ke.1 (y1, ())) (fun y1 => ke.2.1 (y1, ())) := by kernel_rfl
noncomputable def G134135_4 : Nat → LT134135_4
  | 0 => fun _ _ _ _ _ _ _ => none
  | n + 1 => fun R x1 x2 x3 x4 k0 k1 => p134135_4 F135 R x1 x2 x3 x4 (fun x1 x2 x3 x4 => G134135_4 n R x1 x2 x3 x4 k0 k1) k0 k1
def p134135 (F131 : FT131) (L4 : LT134135_4) : FT134135 := fun R a0 a1 k =>
F131 R a1 fun y1 =>
(match (!y1) with
| true => k ([] : (List Int)) (1 : Int)
| false => let v2 := (List.length a1 : Int);
L4 R a0 a1 v2 (0 : Int) (fun x3 =>
k ([] : (List Int)) x3) (fun x4 =>
k x4 (0 : Int)))
theorem q134135 (F131 : FT131) (F135 : FT135) (L4 : LT134135_4) (F : FT134135) (R : Type) (x : AT (en134135 F).ins) (k : RT (en134135 F).outs → PT (en134135 F).ins → Option R) :
  xfun (e134135 F131 F135 L4 R) (codeOf Tryz.f133) res134135 (avs (en134135 F).ins x ++ [AV.fn 135]) (finK (en134135 F).outs (en134135 F).ins k) = p134135 F131 L4 R x.1 x.2.1 (fun y1 y2 => k (y1, y2, ()) ()) := by kernel_rfl
noncomputable def F134135 : FT134135 := p134135 F131 (G134135_4 FUEL)
theorem env134135 (R : Type) : EnvOK Tryz.prog (e134135 F131 F135 (G134135_4 FUEL) R) := ⟨tabOK, eqOK, callOf_ok (allE_cons ok131 (allE_cons ok135 allE_nil)), noIns, inlOK_nil⟩
noncomputable def T134135_4 : (R : Type) → HT (le134135_4 (G134135_4 FUEL)).H → (HT (le134135_4 (G134135_4 FUEL)).H → Option R) → KT R (le134135_4 (G134135_4 FUEL)).exs → Option R := fun R x kc ke => p134135_4 F135 R x.1 x.2.1 x.2.2.1 x.2.2.2.1 (fun x1 x2 x3 x4 => kc (x1, x2, x3, x4, ())) (fun y1 => ke.1 (y1, ())) (fun y1 => ke.2.1 (y1, ()))
theorem it134135_4 : ∀ (n : Nat) (R : Type) (x : HT (le134135_4 (G134135_4 FUEL)).H) (ke : KT R (le134135_4 (G134135_4 FUEL)).exs), iter T134135_4 n R x ke = G134135_4 n R x.1 x.2.1 x.2.2.1 x.2.2.2.1 (fun y1 => ke.1 (y1, ())) (fun y1 => ke.2.1 (y1, ())) := by
  intro n
  induction n with
  | zero => intro R x ke; rfl
  | succ n ih =>
    intro R x ke
    show T134135_4 R x (fun x' => iter T134135_4 n R x' ke) ke = _
    rw [show (fun x' => iter T134135_4 n R x' ke) = fun x => G134135_4 n R x.1 x.2.1 x.2.2.1 x.2.2.2.1 (fun y1 => ke.1 (y1, ())) (fun y1 => ke.2.1 (y1, ())) from funext fun x' => ih R x' ke]
    rfl
theorem lok134135_4 : (le134135_4 (G134135_4 FUEL)).OK Tryz.prog 0 28 (lcode 4 (codeOf Tryz.f133)) := fun R x ke r h =>
  iter_sound (fun R => e134135 F131 F135 (G134135_4 FUEL) R) 0 28 (fun _ => rfl) (fun _ => rfl) (fun R => env134135 R) mixed (by
    intro R
    rw [show loopsOf (lcode 4 (codeOf Tryz.f133)) = [] from by kernel_rfl]
    exact allM_nil) (T := T134135_4) (fun R x kc ke => q134135_4 F131 F135 (G134135_4 FUEL) R x kc ke) FUEL R x ke r ((it134135_4 FUEL R x ke).trans h)
theorem ok134135 : (en134135 F134135).OK Tryz.prog :=
  ent_okF (Ef := fun R => e134135 F131 F135 (G134135_4 FUEL) R) (fun R => env134135 R) mixed Tryz.func133 (body := codeOf Tryz.f133) (by kernel_rfl) (by kernel_rfl) (np := 0) (nt := 28) (fun _ => rfl) (fun _ => rfl) (by kernel_rfl) (res := res134135) (by kernel_rfl) (fun _ => rfl) (fun _ => Nat.le_of_ble_eq_true rfl) (by
    intro R
    rw [show loopsOf (codeOf Tryz.f133) = [lcode 4 (codeOf Tryz.f133)] from by kernel_rfl]
    exact (allM_cons (loop_ok2 (e := le134135_4 (G134135_4 FUEL)) rfl rfl lok134135_4) allM_nil)) (fun R x k => q134135 F131 F135 (G134135_4 FUEL) F134135 R x k)
abbrev FT107 : Type 1 := (R : Type) → (List (List Int)) → ((List Int) → Int → Option R) → Option R
def en107 (F : FT107) : Ent := ⟨107, [(false, (.sl (.sl (.int .u32))))], [(false, (.sl (.int .u32))), (false, (.int .i64))], fun R x k => F R x.1 (fun y1 y2 => k (y1, y2, ()) ())⟩
def res107 : List (ResultVar × TypeId × Bool) := [(.tmp 2, 57, false), (.tmp 3, 32, false)]
noncomputable def e107 (F104 : FT104) (F134135 : FT134135) (R : Type) : Env R := ⟨TT, EQT, 0, 9, ownOf [], callOfF [en134135 F134135] [en104 F104] R, loopOf [] R, [], inlOf []⟩
def p107 (F104 : FT104) (F134135 : FT134135) : FT107 := fun R a0 k =>
F104 R (1 : Int) fun y1 =>
F134135 R y1 a0 fun y2 y3 =>
k y2 y3
theorem q107 (F104 : FT104) (F134135 : FT134135) (F : FT107) (R : Type) (x : AT (en107 F).ins) (k : RT (en107 F).outs → PT (en107 F).ins → Option R) :
  xfun (e107 F104 F134135 R) (codeOf Tryz.f107) res107 (avs (en107 F).ins x) (finK (en107 F).outs (en107 F).ins k) = p107 F104 F134135 R x.1 (fun y1 y2 => k (y1, y2, ()) ()) := by kernel_rfl
noncomputable def F107 : FT107 := p107 F104 F134135
theorem env107 (R : Type) : EnvOK Tryz.prog (e107 F104 F134135 R) := ⟨tabOK, eqOK, callOfF_ok (allF_cons ok134135 allF_nil) (allE_cons ok104 allE_nil), noIns, inlOK_nil⟩
theorem ok107 : (en107 F107).OK Tryz.prog :=
  ent_ok (Ef := fun R => e107 F104 F134135 R) (fun R => env107 R) mixed Tryz.func107 (body := codeOf Tryz.f107) (by kernel_rfl) (by kernel_rfl) (np := 0) (nt := 9) (fun _ => rfl) (fun _ => rfl) (by kernel_rfl) (res := res107) (by kernel_rfl) (fun _ => rfl) (fun _ => Nat.le_of_ble_eq_true rfl) (by
    intro R
    rw [show loopsOf (codeOf Tryz.f107) = [] from by kernel_rfl]
    exact allM_nil) (fun R x k => q107 F104 F134135 F107 R x k)
abbrev FT134 : Type 1 := (R : Type) → (List Int) → (List Int) → ((List Int) → Option R) → Option R
def en134 (F : FT134) : Ent := ⟨134, [(false, (.sl (.int .u32))), (false, (.sl (.int .u32)))], [(false, (.sl (.int .u32)))], fun R x k => F R x.1 x.2.1 (fun y1 => k (y1, ()) ())⟩
def res134 : List (ResultVar × TypeId × Bool) := [(.tmp 4, 57, false)]
abbrev LT134_6 : Type 1 := (R : Type) → (List Int) → (List Int) → Int → (List Int) → Int → Int → (List Int) → ((List Int) → Int → (List Int) → Option R) → Option R
def le134_6 (L : LT134_6) : LEnt := ⟨6, [.val 0 (.sl (.int .u32)), .val 1 (.sl (.int .u32)), .fix 5 (.own 0 0), .val 6 (.int .u64), .val 20 (.sl (.int .u32)), .val 21 (.int .i64), .val 22 (.int .i64), .row 0 (.int .u32) false], 1, [(.exit 0, [.val 0 (.sl (.int .u32)), .fix 5 (.own 0 0), .val 6 (.int .u64), .row 0 (.int .u32) false])], fun R x ke => L R x.1 x.2.1 x.2.2.1 x.2.2.2.1 x.2.2.2.2.1 x.2.2.2.2.2.1 x.2.2.2.2.2.2.1 (fun y1 y2 y3 => ke.1 (y1, y2, y3, ()))⟩
noncomputable def e134 (F130 : FT130) (L6 : LT134_6) (R : Type) : Env R := ⟨TT, EQT, 0, 58, ownOf [], callOf [en130 F130] R, loopOf [le134_6 L6] R, [], inlOf []⟩
def p134_6 : (R : Type) → (List Int) → (List Int) → Int → (List Int) → Int → Int → (List Int) → ((List Int) → (List Int) → Int → (List Int) → Int → Int → (List Int) → Option R) → ((List Int) → Int → (List Int) → Option R) → Option R := fun R x1 x2 x3 x4 x5 x6 x7 kc k0 =>
let v8 := (decide (x6 < x5));
(match v8 with
| true => (match (bnd x6 (List.length x4 : Int)) with
| true => let v9 := (List.getD x4 (Int.toNat x6) (0 : Int));
let v10 := (IntKind.u64.wrap v9);
let v11 := (IntKind.u64.wrap (x3 + v10));
let v12 := (List.length x2 : Int);
let v13 := (decide (x6 < v12));
(match v13 with
| true => (match (bnd x6 (List.length x2 : Int)) with
| true => let v14 := (List.getD x2 (Int.toNat x6) (0 : Int));
let v15 := (IntKind.u64.wrap v14);
let v16 := (IntKind.u64.wrap (v11 + v15));
let v17 := (IntKind.u32.wrap v16);
(match (bnd x6 (List.length x7 : Int)) with
| true => let v18 : (List Int) := (List.set x7 (Int.toNat x6) v17);
let v19 := (ishr .u64 v16 (32 : Int));
let v20 := (IntKind.i64.wrap (x6 + (1 : Int)));
kc x1 x2 v19 x4 x5 v20 v18
| false => none)
| false => none)
| false => let v21 := (IntKind.u32.wrap v11);
(match (bnd x6 (List.length x7 : Int)) with
| true => let v22 : (List Int) := (List.set x7 (Int.toNat x6) v21);
let v23 := (ishr .u64 v11 (32 : Int));
let v24 := (IntKind.i64.wrap (x6 + (1 : Int)));
kc x1 x2 v23 x4 x5 v24 v22
| false => none))
| false => none)
| false => k0 x1 x3 x7)
theorem q134_6 (F130 : FT130) (L6 : LT134_6) (R : Type) (x : HT (le134_6 L6).H) (kc : HT (le134_6 L6).H → Option R) (ke : KT R (le134_6 L6).exs) :
  exec (e134 F130 L6 R) (lcode 6 (codeOf Tryz.f134)) (stOf (le134_6 L6).H x 1) (roundK (le134_6 L6).H (le134_6 L6).exs kc ke) =
    p134_6 R x.1 x.2.1 x.2.2.1 x.2.2.2.1 x.2.2.2.2.1 x.2.2.2.2.2.1 x.2.2.2.2.2.2.1 (fun x1 x2 x3 x4 x5 x6 x7 => kc (x1, x2, x3, x4, x5, x6, x7, ())) (fun y1 y2 y3 => ke.1 (y1, y2, y3, ())) := by kernel_rfl
noncomputable def G134_6 : Nat → LT134_6
  | 0 => fun _ _ _ _ _ _ _ _ _ => none
  | n + 1 => fun R x1 x2 x3 x4 x5 x6 x7 k0 => p134_6 R x1 x2 x3 x4 x5 x6 x7 (fun x1 x2 x3 x4 x5 x6 x7 => G134_6 n R x1 x2 x3 x4 x5 x6 x7 k0) k0
def p134 (F130 : FT130) (L6 : LT134_6) : FT134 := fun R a0 a1 k =>
let v1 := (List.length a0 : Int);
let v2 := (List.length a1 : Int);
let v3 := (decide (v1 < v2));
(match v3 with
| true => let v4 := (List.length a1 : Int);
let v5 := (IntKind.i64.wrap (v4 + (1 : Int)));
(match (decide (0 ≤ v5 ∧ v5 ≤ v5 ∧ v5 ≤ (35184372088832 : Int))) with
| true => let v6 : (List Int) := (List.replicate (Int.toNat v5) (0 : Int));
let v7 := (List.length a1 : Int);
L6 R a1 a0 (0 : Int) a1 v7 (0 : Int) v6 (fun x8 x9 x10 =>
let v11 := (List.length x8 : Int);
let v12 := (IntKind.u32.wrap x9);
(match (bnd v11 (List.length x10 : Int)) with
| true => let v13 : (List Int) := (List.set x10 (Int.toNat v11) v12);
F130 R v13 fun y14 =>
k y14
| false => none))
| false => none)
| false => let v15 := (List.length a0 : Int);
let v16 := (IntKind.i64.wrap (v15 + (1 : Int)));
(match (decide (0 ≤ v16 ∧ v16 ≤ v16 ∧ v16 ≤ (35184372088832 : Int))) with
| true => let v17 : (List Int) := (List.replicate (Int.toNat v16) (0 : Int));
let v18 := (List.length a0 : Int);
L6 R a0 a1 (0 : Int) a0 v18 (0 : Int) v17 (fun x19 x20 x21 =>
let v22 := (List.length x19 : Int);
let v23 := (IntKind.u32.wrap x20);
(match (bnd v22 (List.length x21 : Int)) with
| true => let v24 : (List Int) := (List.set x21 (Int.toNat v22) v23);
F130 R v24 fun y25 =>
k y25
| false => none))
| false => none))
theorem q134 (F130 : FT130) (L6 : LT134_6) (F : FT134) (R : Type) (x : AT (en134 F).ins) (k : RT (en134 F).outs → PT (en134 F).ins → Option R) :
  xfun (e134 F130 L6 R) (codeOf Tryz.f134) res134 (avs (en134 F).ins x) (finK (en134 F).outs (en134 F).ins k) = p134 F130 L6 R x.1 x.2.1 (fun y1 => k (y1, ()) ()) := by kernel_rfl
noncomputable def F134 : FT134 := p134 F130 (G134_6 FUEL)
theorem env134 (R : Type) : EnvOK Tryz.prog (e134 F130 (G134_6 FUEL) R) := ⟨tabOK, eqOK, callOf_ok (allE_cons ok130 allE_nil), noIns, inlOK_nil⟩
noncomputable def T134_6 : (R : Type) → HT (le134_6 (G134_6 FUEL)).H → (HT (le134_6 (G134_6 FUEL)).H → Option R) → KT R (le134_6 (G134_6 FUEL)).exs → Option R := fun R x kc ke => p134_6 R x.1 x.2.1 x.2.2.1 x.2.2.2.1 x.2.2.2.2.1 x.2.2.2.2.2.1 x.2.2.2.2.2.2.1 (fun x1 x2 x3 x4 x5 x6 x7 => kc (x1, x2, x3, x4, x5, x6, x7, ())) (fun y1 y2 y3 => ke.1 (y1, y2, y3, ()))
theorem it134_6 : ∀ (n : Nat) (R : Type) (x : HT (le134_6 (G134_6 FUEL)).H) (ke : KT R (le134_6 (G134_6 FUEL)).exs), iter T134_6 n R x ke = G134_6 n R x.1 x.2.1 x.2.2.1 x.2.2.2.1 x.2.2.2.2.1 x.2.2.2.2.2.1 x.2.2.2.2.2.2.1 (fun y1 y2 y3 => ke.1 (y1, y2, y3, ())) := by
  intro n
  induction n with
  | zero => intro R x ke; rfl
  | succ n ih =>
    intro R x ke
    show T134_6 R x (fun x' => iter T134_6 n R x' ke) ke = _
    rw [show (fun x' => iter T134_6 n R x' ke) = fun x => G134_6 n R x.1 x.2.1 x.2.2.1 x.2.2.2.1 x.2.2.2.2.1 x.2.2.2.2.2.1 x.2.2.2.2.2.2.1 (fun y1 y2 y3 => ke.1 (y1, y2, y3, ())) from funext fun x' => ih R x' ke]
    rfl
theorem lok134_6 : (le134_6 (G134_6 FUEL)).OK Tryz.prog 0 58 (lcode 6 (codeOf Tryz.f134)) := fun R x ke r h =>
  iter_sound (fun R => e134 F130 (G134_6 FUEL) R) 0 58 (fun _ => rfl) (fun _ => rfl) (fun R => env134 R) mixed (by
    intro R
    rw [show loopsOf (lcode 6 (codeOf Tryz.f134)) = [] from by kernel_rfl]
    exact allM_nil) (T := T134_6) (fun R x kc ke => q134_6 F130 (G134_6 FUEL) R x kc ke) FUEL R x ke r ((it134_6 FUEL R x ke).trans h)
theorem ok134 : (en134 F134).OK Tryz.prog :=
  ent_ok (Ef := fun R => e134 F130 (G134_6 FUEL) R) (fun R => env134 R) mixed Tryz.func134 (body := codeOf Tryz.f134) (by kernel_rfl) (by kernel_rfl) (np := 0) (nt := 58) (fun _ => rfl) (fun _ => rfl) (by kernel_rfl) (res := res134) (by kernel_rfl) (fun _ => rfl) (fun _ => Nat.le_of_ble_eq_true rfl) (by
    intro R
    rw [show loopsOf (codeOf Tryz.f134) = [lcode 6 (codeOf Tryz.f134)] from by kernel_rfl]
    exact (allM_cons (loop_ok2 (e := le134_6 (G134_6 FUEL)) rfl rfl lok134_6) allM_nil)) (fun R x k => q134 F130 (G134_6 FUEL) F134 R x k)
abbrev FT134134 : Type 1 := (R : Type) → (List Int) → (List (List Int)) → ((List Int) → Int → Option R) → Option R
def en134134 (F : FT134134) : EntF := ⟨133, 134, [(false, (.sl (.int .u32))), (false, (.sl (.sl (.int .u32))))], [(false, (.sl (.int .u32))), (false, (.int .i64))], fun R x k => F R x.1 x.2.1 (fun y1 y2 => k (y1, y2, ()) ())⟩
def res134134 : List (ResultVar × TypeId × Bool) := [(.tmp 6, 57, false), (.tmp 7, 32, false)]
abbrev LT134134_4 : Type 1 := (R : Type) → (List Int) → (List (List Int)) → Int → Int → (Int → Option R) → ((List Int) → Option R) → Option R
def le134134_4 (L : LT134134_4) : LEnt := ⟨4, [.val 0 (.sl (.int .u32)), .fix 2 (.fn 134), .val 13 (.sl (.sl (.int .u32))), .val 14 (.int .i64), .val 15 (.int .i64)], 0, [(.ret, [.fix 6 .nil, .val 7 (.int .i64)]), (.exit 0, [.val 0 (.sl (.int .u32))])], fun R x ke => L R x.1 x.2.1 x.2.2.1 x.2.2.2.1 (fun y1 => ke.1 (y1, ())) (fun y1 => ke.2.1 (y1, ()))⟩
noncomputable def e134134 (F131 : FT131) (F134 : FT134) (L4 : LT134134_4) (R : Type) : Env R := ⟨TT, EQT, 0, 28, ownOf [], callOf [en131 F131, en134 F134] R, loopOf [le134134_4 L4] R, [], inlOf []⟩
def p134134_4 (F134 : FT134) : (R : Type) → (List Int) → (List (List Int)) → Int → Int → ((List Int) → (List (List Int)) → Int → Int → Option R) → (Int → Option R) → ((List Int) → Option R) → Option R := fun R x1 x2 x3 x4 kc k0 k1 =>
let v5 := (decide (x4 < x3));
(match v5 with
| true => (match (bnd x4 (List.length x2 : Int)) with
| true => let v6 : (List Int) := (List.getD x2 (Int.toNat x4) ([] : (List Int)));
F134 R x1 v6 fun y7 =>
let v8 := (List.length y7 : Int);
let v9 := (decide (v8 > (256 : Int)));
(match v9 with
| true => k0 (11 : Int)
| false => let v10 := (IntKind.i64.wrap (x4 + (1 : Int)));
kc y7 x2 x3 v10)
| false => none)
| false => k1 x1)
theorem q134134_4 (F131 : FT131) (F134 : FT134) (L4 : LT134134_4) (R : Type) (x : HT (le134134_4 L4).H) (kc : HT (le134134_4 L4).H → Option R) (ke : KT R (le134134_4 L4).exs) :
  exec (e134134 F131 F134 L4 R) (lcode 4 (codeOf Tryz.f133)) (stOf (le134134_4 L4).H x 0) (roundK (le134134_4 L4).H (le134134_4 L4).exs kc ke) =
    p134134_4 F134 R x.1 x.2.1 x.2.2.1 x.2.2.2.1 (fun x1 x2 x3 x4 => kc (x1, x2, x3, x4, ())) (fun y1 => ke.1 (y1, ())) (fun y1 => ke.2.1 (y1, ())) := by kernel_rfl
noncomputable def G134134_4 : Nat → LT134134_4
  | 0 => fun _ _ _ _ _ _ _ => none
  | n + 1 => fun R x1 x2 x3 x4 k0 k1 => p134134_4 F134 R x1 x2 x3 x4 (fun x1 x2 x3 x4 => G134134_4 n R x1 x2 x3 x4 k0 k1) k0 k1
def p134134 (F131 : FT131) (L4 : LT134134_4) : FT134134 := fun R a0 a1 k =>
F131 R a1 fun y1 =>
(match (!y1) with
| true => k ([] : (List Int)) (1 : Int)
| false => let v2 := (List.length a1 : Int);
L4 R a0 a1 v2 (0 : Int) (fun x3 =>
k ([] : (List Int)) x3) (fun x4 =>
k x4 (0 : Int)))
theorem q134134 (F131 : FT131) (F134 : FT134) (L4 : LT134134_4) (F : FT134134) (R : Type) (x : AT (en134134 F).ins) (k : RT (en134134 F).outs → PT (en134134 F).ins → Option R) :
  xfun (e134134 F131 F134 L4 R) (codeOf Tryz.f133) res134134 (avs (en134134 F).ins x ++ [AV.fn 134]) (finK (en134134 F).outs (en134134 F).ins k) = p134134 F131 L4 R x.1 x.2.1 (fun y1 y2 => k (y1, y2, ()) ()) := by kernel_rfl
noncomputable def F134134 : FT134134 := p134134 F131 (G134134_4 FUEL)
theorem env134134 (R : Type) : EnvOK Tryz.prog (e134134 F131 F134 (G134134_4 FUEL) R) := ⟨tabOK, eqOK, callOf_ok (allE_cons ok131 (allE_cons ok134 allE_nil)), noIns, inlOK_nil⟩
noncomputable def T134134_4 : (R : Type) → HT (le134134_4 (G134134_4 FUEL)).H → (HT (le134134_4 (G134134_4 FUEL)).H → Option R) → KT R (le134134_4 (G134134_4 FUEL)).exs → Option R := fun R x kc ke => p134134_4 F134 R x.1 x.2.1 x.2.2.1 x.2.2.2.1 (fun x1 x2 x3 x4 => kc (x1, x2, x3, x4, ())) (fun y1 => ke.1 (y1, ())) (fun y1 => ke.2.1 (y1, ()))
theorem it134134_4 : ∀ (n : Nat) (R : Type) (x : HT (le134134_4 (G134134_4 FUEL)).H) (ke : KT R (le134134_4 (G134134_4 FUEL)).exs), iter T134134_4 n R x ke = G134134_4 n R x.1 x.2.1 x.2.2.1 x.2.2.2.1 (fun y1 => ke.1 (y1, ())) (fun y1 => ke.2.1 (y1, ())) := by
  intro n
  induction n with
  | zero => intro R x ke; rfl
  | succ n ih =>
    intro R x ke
    show T134134_4 R x (fun x' => iter T134134_4 n R x' ke) ke = _
    rw [show (fun x' => iter T134134_4 n R x' ke) = fun x => G134134_4 n R x.1 x.2.1 x.2.2.1 x.2.2.2.1 (fun y1 => ke.1 (y1, ())) (fun y1 => ke.2.1 (y1, ())) from funext fun x' => ih R x' ke]
    rfl
theorem lok134134_4 : (le134134_4 (G134134_4 FUEL)).OK Tryz.prog 0 28 (lcode 4 (codeOf Tryz.f133)) := fun R x ke r h =>
  iter_sound (fun R => e134134 F131 F134 (G134134_4 FUEL) R) 0 28 (fun _ => rfl) (fun _ => rfl) (fun R => env134134 R) mixed (by
    intro R
    rw [show loopsOf (lcode 4 (codeOf Tryz.f133)) = [] from by kernel_rfl]
    exact allM_nil) (T := T134134_4) (fun R x kc ke => q134134_4 F131 F134 (G134134_4 FUEL) R x kc ke) FUEL R x ke r ((it134134_4 FUEL R x ke).trans h)
theorem ok134134 : (en134134 F134134).OK Tryz.prog :=
  ent_okF (Ef := fun R => e134134 F131 F134 (G134134_4 FUEL) R) (fun R => env134134 R) mixed Tryz.func133 (body := codeOf Tryz.f133) (by kernel_rfl) (by kernel_rfl) (np := 0) (nt := 28) (fun _ => rfl) (fun _ => rfl) (by kernel_rfl) (res := res134134) (by kernel_rfl) (fun _ => rfl) (fun _ => Nat.le_of_ble_eq_true rfl) (by
    intro R
    rw [show loopsOf (codeOf Tryz.f133) = [lcode 4 (codeOf Tryz.f133)] from by kernel_rfl]
    exact (allM_cons (loop_ok2 (e := le134134_4 (G134134_4 FUEL)) rfl rfl lok134134_4) allM_nil)) (fun R x k => q134134 F131 F134 (G134134_4 FUEL) F134134 R x k)
abbrev FT106 : Type 1 := (R : Type) → (List (List Int)) → ((List Int) → Int → Option R) → Option R
def en106 (F : FT106) : Ent := ⟨106, [(false, (.sl (.sl (.int .u32))))], [(false, (.sl (.int .u32))), (false, (.int .i64))], fun R x k => F R x.1 (fun y1 y2 => k (y1, y2, ()) ())⟩
def res106 : List (ResultVar × TypeId × Bool) := [(.tmp 2, 57, false), (.tmp 3, 32, false)]
noncomputable def e106 (F134134 : FT134134) (R : Type) : Env R := ⟨TT, EQT, 0, 8, ownOf [], callOfF [en134134 F134134] [] R, loopOf [] R, [], inlOf []⟩
def p106 (F134134 : FT134134) : FT106 := fun R a0 k =>
F134134 R ([] : (List Int)) a0 fun y1 y2 =>
k y1 y2
theorem q106 (F134134 : FT134134) (F : FT106) (R : Type) (x : AT (en106 F).ins) (k : RT (en106 F).outs → PT (en106 F).ins → Option R) :
  xfun (e106 F134134 R) (codeOf Tryz.f106) res106 (avs (en106 F).ins x) (finK (en106 F).outs (en106 F).ins k) = p106 F134134 R x.1 (fun y1 y2 => k (y1, y2, ()) ()) := by kernel_rfl
noncomputable def F106 : FT106 := p106 F134134
theorem env106 (R : Type) : EnvOK Tryz.prog (e106 F134134 R) := ⟨tabOK, eqOK, callOfF_ok (allF_cons ok134134 allF_nil) allE_nil, noIns, inlOK_nil⟩
theorem ok106 : (en106 F106).OK Tryz.prog :=
  ent_ok (Ef := fun R => e106 F134134 R) (fun R => env106 R) mixed Tryz.func106 (body := codeOf Tryz.f106) (by kernel_rfl) (by kernel_rfl) (np := 0) (nt := 8) (fun _ => rfl) (fun _ => rfl) (by kernel_rfl) (res := res106) (by kernel_rfl) (fun _ => rfl) (fun _ => Nat.le_of_ble_eq_true rfl) (by
    intro R
    rw [show loopsOf (codeOf Tryz.f106) = [] from by kernel_rfl]
    exact allM_nil) (fun R x k => q106 F134134 F106 R x k)
abbrev FT66 : Type 1 := (R : Type) → Tq22 → (List Tq2) → Tq1 → ((List Int) → Tq22 → (List Tq2) → Option R) → Option R
def en66 (F : FT66) : EntM := ⟨66, [((.int .i64), false), ((.sl (.sl (.int .u32))), false), ((.sl (.int .i64)), false), ((.sl (.sl (.int .u32))), false), (.mp, true), ((.int .i64), false)], Kq1, (.sl (.int .u32)), [(false, Kq1)], (.sl (.int .u32)), fun R s m x k => F R s m x.1 k⟩
abbrev LT66_10 : Type 1 := (R : Type) → (List Int) → (List Int) → Int → Int → Int → Tq22 → (List Tq2) → Tq1 → ((List Int) → Tq22 → (List Tq2) → Tq1 → Option R) → Option R
def le66_10 (L : LT66_10) : LEnt := ⟨10, [.fix 0 (.mptr 0 0 Kq18), .fix 3 (.ptr 2 [] Kq1), .val 7 (.sl (.int .u32)), .val 8 (.sl (.int .u32)), .val 9 (.int .i64), .val 49 (.int .i64), .val 50 (.int .i64), .mix 0 [((.int .i64), none), ((.sl (.sl (.int .u32))), none), ((.sl (.int .i64)), none), ((.sl (.sl (.int .u32))), none), (.mp, some 1), ((.int .i64), none)], .map 1 Kq1 (.sl (.int .u32)), .var 2 Kq1 false], 3, [(.exit 0, [.fix 0 (.mptr 0 0 Kq18), .fix 3 (.ptr 2 [] Kq1), .val 7 (.sl (.int .u32)), .mix 0 [((.int .i64), none), ((.sl (.sl (.int .u32))), none), ((.sl (.int .i64)), none), ((.sl (.sl (.int .u32))), none), (.mp, some 1), ((.int .i64), none)], .map 1 Kq1 (.sl (.int .u32)), .var 2 Kq1 false])], fun R x ke => L R x.1 x.2.1 x.2.2.1 x.2.2.2.1 x.2.2.2.2.1 x.2.2.2.2.2.1 x.2.2.2.2.2.2.1 x.2.2.2.2.2.2.2.1 (fun y1 y2 y3 y4 => ke.1 (y1, y2, y3, y4, ()))⟩
noncomputable def e102i2 (R : Type) : Env R := ⟨TT, EQT, 2, 14, ownOf [], callOf [] R, fun _ _ _ => none, [], inlOf []⟩
theorem env102i2 (R : Type) : EnvOK Tryz.prog (e102i2 R) := ⟨tabOK, eqOK, callOf_ok allE_nil, noIns, inlOK_nil⟩
noncomputable def e66 (F66 : FT66) (F103 : FT103) (F106 : FT106) (F107 : FT107) (L10 : LT66_10) (R : Type) : Env R := ⟨TT, EQT, 2, 113, ownOf [(2, 6), (13, 10), (13, 15), (13, 20), (14, 14)], callOf [en103 F103, en106 F106, en107 F107] R, loopOf [le66_10 L10] R, [], inlOf [(66, inlM 2 (en66 F66) R), (102, xinl (e102i2 R) (codeOf Tryz.f102) [.tmp 6] 3)]⟩
def p66_10 (F66 : FT66) (F106 : FT106) (F107 : FT107) : (R : Type) → (List Int) → (List Int) → Int → Int → Int → Tq22 → (List Tq2) → Tq1 → ((List Int) → (List Int) → Int → Int → Int → Tq22 → (List Tq2) → Tq1 → Option R) → ((List Int) → Tq22 → (List Tq2) → Tq1 → Option R) → Option R := fun R x1 x2 x3 x4 x5 x6 x7 x8 kc k0 =>
let v9 := (decide (x5 < x4));
(match v9 with
| true => (match (bnd x8.1 (List.length x6.2.2.1 : Int)) with
| true => let v10 := (List.getD x6.2.2.1 (Int.toNat x8.1) (0 : Int));
let v11 := (IntKind.i64.wrap (x3 - v10));
let v12 := (decide (v11 < (0 : Int)));
(match v12 with
| true => k0 x1 (x6.1, x6.2.1, x6.2.2.1, x6.2.2.2.1, x6.2.2.2.2.1, ()) x7 x8
| false => let v13 := (List.length x2 : Int);
let v14 := (v13 == (0 : Int));
(match v14 with
| true => k0 x1 (x6.1, x6.2.1, x6.2.2.1, x6.2.2.2.1, x6.2.2.2.2.1, ()) x7 x8
| false => let v15 := (IntKind.i64.wrap (x8.1 + (1 : Int)));
F66 R (x6.1, x6.2.1, x6.2.2.1, x6.2.2.2.1, x6.2.2.2.2.1, ()) x7 (v15, v11, ()) fun y16 s17 m18 =>
let v19 : (List (List Int)) := ([x2, y16] : (List (List Int)));
F107 R v19 fun y20 y21 =>
let v22 := (y21 != (0 : Int));
(match v22 with
| true => let v23 : (List (List Int)) := ([x1, y20] : (List (List Int)));
F106 R v23 fun y24 y25 =>
let v26 := (y25 != (0 : Int));
(match v26 with
| true => (match (bnd x8.1 (List.length s17.2.2.2.1 : Int)) with
| true => let v27 : (List Int) := (List.getD s17.2.2.2.1 (Int.toNat x8.1) ([] : (List Int)));
let v28 : (List (List Int)) := ([x2, v27] : (List (List Int)));
F107 R v28 fun y29 y30 =>
let v31 := (y30 != (0 : Int));
(match v31 with
| true => let v32 := (IntKind.i64.wrap (x5 + (1 : Int)));
kc y24 y29 v11 x4 v32 (s17.1, s17.2.1, s17.2.2.1, s17.2.2.2.1, y30, ()) m18 x8
| false => let v33 := (IntKind.i64.wrap (x5 + (1 : Int)));
kc y24 y29 v11 x4 v33 (s17.1, s17.2.1, s17.2.2.1, s17.2.2.2.1, y25, ()) m18 x8)
| false => none)
| false => (match (bnd x8.1 (List.length s17.2.2.2.1 : Int)) with
| true => let v34 : (List Int) := (List.getD s17.2.2.2.1 (Int.toNat x8.1) ([] : (List Int)));
let v35 : (List (List Int)) := ([x2, v34] : (List (List Int)));
F107 R v35 fun y36 y37 =>
let v38 := (y37 != (0 : Int));
(match v38 with
| true => let v39 := (IntKind.i64.wrap (x5 + (1 : Int)));
kc y24 y36 v11 x4 v39 (s17.1, s17.2.1, s17.2.2.1, s17.2.2.2.1, y37, ()) m18 x8
| false => let v40 := (IntKind.i64.wrap (x5 + (1 : Int)));
kc y24 y36 v11 x4 v40 (s17.1, s17.2.1, s17.2.2.1, s17.2.2.2.1, y21, ()) m18 x8)
| false => none))
| false => let v41 : (List (List Int)) := ([x1, y20] : (List (List Int)));
F106 R v41 fun y42 y43 =>
let v44 := (y43 != (0 : Int));
(match v44 with
| true => (match (bnd x8.1 (List.length s17.2.2.2.1 : Int)) with
| true => let v45 : (List Int) := (List.getD s17.2.2.2.1 (Int.toNat x8.1) ([] : (List Int)));
let v46 : (List (List Int)) := ([x2, v45] : (List (List Int)));
F107 R v46 fun y47 y48 =>
let v49 := (y48 != (0 : Int));
(match v49 with
| true => let v50 := (IntKind.i64.wrap (x5 + (1 : Int)));
kc y42 y47 v11 x4 v50 (s17.1, s17.2.1, s17.2.2.1, s17.2.2.2.1, y48, ()) m18 x8
| false => let v51 := (IntKind.i64.wrap (x5 + (1 : Int)));
kc y42 y47 v11 x4 v51 (s17.1, s17.2.1, s17.2.2.1, s17.2.2.2.1, y43, ()) m18 x8)
| false => none)
| false => (match (bnd x8.1 (List.length s17.2.2.2.1 : Int)) with
| true => let v52 : (List Int) := (List.getD s17.2.2.2.1 (Int.toNat x8.1) ([] : (List Int)));
let v53 : (List (List Int)) := ([x2, v52] : (List (List Int)));
F107 R v53 fun y54 y55 =>
let v56 := (y55 != (0 : Int));
(match v56 with
| true => let v57 := (IntKind.i64.wrap (x5 + (1 : Int)));
kc y42 y54 v11 x4 v57 (s17.1, s17.2.1, s17.2.2.1, s17.2.2.2.1, y55, ()) m18 x8
| false => let v58 := (IntKind.i64.wrap (x5 + (1 : Int)));
kc y42 y54 v11 x4 v58 (s17.1, s17.2.1, s17.2.2.1, s17.2.2.2.1, s17.2.2.2.2.1, ()) m18 x8)
| false => none)))))
| false => none)
| false => k0 x1 (x6.1, x6.2.1, x6.2.2.1, x6.2.2.2.1, x6.2.2.2.2.1, ()) x7 x8)
theorem q66_10 (F66 : FT66) (F103 : FT103) (F106 : FT106) (F107 : FT107) (L10 : LT66_10) (R : Type) (x : HT (le66_10 L10).H) (kc : HT (le66_10 L10).H → Option R) (ke : KT R (le66_10 L10).exs) :
  exec (e66 F66 F103 F106 F107 L10 R) (lcode 10 (codeOf Tryz.f66)) (stOf (le66_10 L10).H x 3) (roundK (le66_10 L10).H (le66_10 L10).exs kc ke) =
    p66_10 F66 F106 F107 R x.1 x.2.1 x.2.2.1 x.2.2.2.1 x.2.2.2.2.1 x.2.2.2.2.2.1 x.2.2.2.2.2.2.1 x.2.2.2.2.2.2.2.1 (fun x1 x2 x3 x4 x5 x6 x7 x8 => kc (x1, x2, x3, x4, x5, x6, x7, x8, ())) (fun y1 y2 y3 y4 => ke.1 (y1, y2, y3, y4, ())) := by kernel_rfl
noncomputable def G66_10 (F66 : FT66) : Nat → LT66_10
  | 0 => fun _ _ _ _ _ _ _ _ _ _ => none
  | n + 1 => fun R x1 x2 x3 x4 x5 x6 x7 x8 k0 => p66_10 F66 F106 F107 R x1 x2 x3 x4 x5 x6 x7 x8 (fun x1 x2 x3 x4 x5 x6 x7 x8 => G66_10 F66 n R x1 x2 x3 x4 x5 x6 x7 x8 k0) k0
def p66 (F103 : FT103) (L10 : LT66_10) : FT66 := fun R s m a1 k =>
let v1 := (List.length s.2.1 : Int);
let v2 := (a1.1 == v1);
(match v2 with
| true => F103 R a1.2.1 fun y3 y4 =>
let v5 := (y4 != (0 : Int));
(match v5 with
| true => k y3 (s.1, s.2.1, s.2.2.1, s.2.2.2.1, y4, ()) m
| false => k y3 (s.1, s.2.1, s.2.2.1, s.2.2.2.1, s.2.2.2.2.1, ()) m)
| false => let v6 : (List Int) := (Option.getD (mfind (Kd.eqv Kq1) m a1) ([] : (List Int)));
let v7 := (Option.isSome (mfind (Kd.eqv Kq1) m a1));
(match v7 with
| true => k v6 (s.1, s.2.1, s.2.2.1, s.2.2.2.1, s.2.2.2.2.1, ()) m
| false => (match (bnd a1.1 (List.length s.2.1 : Int)) with
| true => let v8 : (List Int) := (List.getD s.2.1 (Int.toNat a1.1) ([] : (List Int)));
L10 R ([] : (List Int)) v8 a1.2.1 s.1 (0 : Int) (s.1, s.2.1, s.2.2.1, s.2.2.2.1, s.2.2.2.2.1, ()) m a1 (fun x9 x10 x11 x12 =>
(match (Option.isNone (mfind (Kd.eqv Kq1) x11 x12)) with
| true => let v13 : (List Tq2) := (x11 ++ [(x12, x9)]);
k x9 (x10.1, x10.2.1, x10.2.2.1, x10.2.2.2.1, x10.2.2.2.2.1, ()) v13
| false => none))
| false => none)))
theorem q66 (F66 : FT66) (F103 : FT103) (F106 : FT106) (F107 : FT107) (L10 : LT66_10) (F : FT66) (R : Type) (s : MF (en66 F).fl) (m : List ((en66 F).kk.T × (en66 F).kv.T)) (x : AT (en66 F).ins) (k : (en66 F).out.T → MF (en66 F).fl → List ((en66 F).kk.T × (en66 F).kv.T) → Option R) :
  xfunM (e66 F66 F103 F106 F107 L10 R) (codeOf Tryz.f66) 4 (.sl (.int .u32)) Kq18 (en66 F).fl Kq1 (.sl (.int .u32)) s m (avs (en66 F).ins x) k = p66 F103 L10 R s m x.1 k := by kernel_rfl
theorem env66 (F66 : FT66) (h66 : (en66 F66).OK Tryz.prog) (R : Type) : EnvOK Tryz.prog (e66 F66 F103 F106 F107 (G66_10 F66 FUEL) R) := ⟨tabOK, eqOK, callOf_ok (allE_cons ok103 (allE_cons ok106 (allE_cons ok107 allE_nil))), noIns, (inlOK_consM h66 (inlOK_cons (xinl_sound (env102i2 R) mixed Tryz.func102 (body := codeOf Tryz.f102) (by kernel_rfl) (by kernel_rfl) (by kernel_rfl) (res := [.tmp 6]) (by kernel_rfl) (n := 3) (Nat.le_of_ble_eq_true rfl) (by kernel_rfl)) inlOK_nil))⟩
noncomputable def T66_10 (F66 : FT66) : (R : Type) → HT (le66_10 (G66_10 F66 FUEL)).H → (HT (le66_10 (G66_10 F66 FUEL)).H → Option R) → KT R (le66_10 (G66_10 F66 FUEL)).exs → Option R := fun R x kc ke => p66_10 F66 F106 F107 R x.1 x.2.1 x.2.2.1 x.2.2.2.1 x.2.2.2.2.1 x.2.2.2.2.2.1 x.2.2.2.2.2.2.1 x.2.2.2.2.2.2.2.1 (fun x1 x2 x3 x4 x5 x6 x7 x8 => kc (x1, x2, x3, x4, x5, x6, x7, x8, ())) (fun y1 y2 y3 y4 => ke.1 (y1, y2, y3, y4, ()))
theorem it66_10 (F66 : FT66) : ∀ (n : Nat) (R : Type) (x : HT (le66_10 (G66_10 F66 FUEL)).H) (ke : KT R (le66_10 (G66_10 F66 FUEL)).exs), iter (T66_10 F66) n R x ke = G66_10 F66 n R x.1 x.2.1 x.2.2.1 x.2.2.2.1 x.2.2.2.2.1 x.2.2.2.2.2.1 x.2.2.2.2.2.2.1 x.2.2.2.2.2.2.2.1 (fun y1 y2 y3 y4 => ke.1 (y1, y2, y3, y4, ())) := by
  intro n
  induction n with
  | zero => intro R x ke; rfl
  | succ n ih =>
    intro R x ke
    show T66_10 F66 R x (fun x' => iter (T66_10 F66) n R x' ke) ke = _
    rw [show (fun x' => iter (T66_10 F66) n R x' ke) = fun x => G66_10 F66 n R x.1 x.2.1 x.2.2.1 x.2.2.2.1 x.2.2.2.2.1 x.2.2.2.2.2.1 x.2.2.2.2.2.2.1 x.2.2.2.2.2.2.2.1 (fun y1 y2 y3 y4 => ke.1 (y1, y2, y3, y4, ())) from funext fun x' => ih R x' ke]
    rfl
theorem lok66_10 (F66 : FT66) (h66 : (en66 F66).OK Tryz.prog) : (le66_10 (G66_10 F66 FUEL)).OK Tryz.prog 2 113 (lcode 10 (codeOf Tryz.f66)) := fun R x ke r h =>
  iter_sound (fun R => e66 F66 F103 F106 F107 (G66_10 F66 FUEL) R) 2 113 (fun _ => rfl) (fun _ => rfl) (fun R => env66 F66 h66 R) mixed (by
    intro R
    rw [show loopsOf (lcode 10 (codeOf Tryz.f66)) = [] from by kernel_rfl]
    exact allM_nil) (T := T66_10 F66) (fun R x kc ke => q66_10 F66 F103 F106 F107 (G66_10 F66 FUEL) R x kc ke) FUEL R x ke r ((it66_10 F66 FUEL R x ke).trans h)
noncomputable def W66 : Nat → FT66
  | 0 => fun _ _ _ _ _ => none
  | n + 1 => (fun F66 => p66 F103 (G66_10 F66 FUEL)) (W66 n)
noncomputable def F66 : FT66 := W66 FUEL
theorem okp66 (F66 : FT66) (h66 : (en66 F66).OK Tryz.prog) : (en66 (p66 F103 (G66_10 F66 FUEL))).OK Tryz.prog :=
  ent_okM (Ef := fun R => e66 F66 F103 F106 F107 (G66_10 F66 FUEL) R) (fun R => env66 F66 h66 R) mixed Tryz.func66 (body := codeOf Tryz.f66) (by kernel_rfl) (by kernel_rfl) (nt := 113) (fun _ => rfl) (fun _ => rfl) (by kernel_rfl) (t := 4) (by kernel_rfl) (fun _ => Nat.le_of_ble_eq_true rfl) (by
    intro R
    rw [show loopsOf (codeOf Tryz.f66) = [lcode 10 (codeOf Tryz.f66)] from by kernel_rfl]
    exact (allM_cons (loop_ok2 (e := le66_10 (G66_10 F66 FUEL)) rfl rfl (lok66_10 F66 h66)) allM_nil)) (K0 := Kq18) (by kernel_rfl) (fun R s m x k => q66 F66 F103 F106 F107 (G66_10 F66 FUEL) F66 R s m x k)
theorem okW66 : ∀ n, (en66 (W66 n)).OK Tryz.prog
  | 0 => fun R s m x k r h => by cases h
  | n + 1 => okp66 (W66 n) (okW66 n)
theorem ok66 : (en66 F66).OK Tryz.prog := okW66 FUEL
abbrev FT27 : Type 1 := (R : Type) → (List Int) → Int → Int → (List Int) → ((List Int) → Int → Option R) → Option R
def en27 (F : FT27) : Ent := ⟨27, [(false, (.sl (.int .i64))), (false, (.int .i64)), (false, (.int .i64)), (false, (.sl (.int .u64)))], [(false, (.sl (.int .u32))), (false, (.int .i64))], fun R x k => F R x.1 x.2.1 x.2.2.1 x.2.2.2.1 (fun y1 y2 => k (y1, y2, ()) ())⟩
def res27 : List (ResultVar × TypeId × Bool) := [(.tmp 8, 57, false), (.tmp 9, 32, false)]
abbrev LT27_9 : Type 1 := (R : Type) → Int → (List Int) → (List Int) → Int → Int → (List Tq2) → (List (List Int)) → (List Int) → (List (List Int)) → Tq1 → (Int → Option R) → (Int → (List Tq2) → (List (List Int)) → (List Int) → (List (List Int)) → Tq1 → Option R) → Option R
def le27_9 (L : LT27_9) : LEnt := ⟨9, [.val 1 (.int .i64), .fix 12 (.mptr 4 0 Kq18), .val 13 (.sl (.int .u64)), .val 51 (.sl (.int .i64)), .val 52 (.int .i64), .val 53 (.int .i64), .map 0 Kq1 (.sl (.int .u32)), .row 1 (.sl (.int .u32)) false, .row 2 (.int .i64) false, .row 3 (.sl (.int .u32)) false, .mix 4 [((.int .i64), none), ((.sl (.sl (.int .u32))), some 1), ((.sl (.int .i64)), some 2), ((.sl (.sl (.int .u32))), some 3), (.mp, some 0), ((.int .i64), none)]], 5, [(.ret, [.fix 8 .nil, .val 9 (.int .i64)]), (.exit 0, [.val 1 (.int .i64), .fix 12 (.mptr 4 0 Kq18), .map 0 Kq1 (.sl (.int .u32)), .row 1 (.sl (.int .u32)) false, .row 2 (.int .i64) false, .row 3 (.sl (.int .u32)) false, .mix 4 [((.int .i64), none), ((.sl (.sl (.int .u32))), some 1), ((.sl (.int .i64)), some 2), ((.sl (.sl (.int .u32))), some 3), (.mp, some 0), ((.int .i64), none)]])], fun R x ke => L R x.1 x.2.1 x.2.2.1 x.2.2.2.1 x.2.2.2.2.1 x.2.2.2.2.2.1 x.2.2.2.2.2.2.1 x.2.2.2.2.2.2.2.1 x.2.2.2.2.2.2.2.2.1 x.2.2.2.2.2.2.2.2.2.1 (fun y1 => ke.1 (y1, ())) (fun y1 y2 y3 y4 y5 y6 => ke.2.1 (y1, y2, y3, y4, y5, y6, ()))⟩
noncomputable def e102i0 (R : Type) : Env R := ⟨TT, EQT, 0, 14, ownOf [], callOf [] R, fun _ _ _ => none, [], inlOf []⟩
theorem env102i0 (R : Type) : EnvOK Tryz.prog (e102i0 R) := ⟨tabOK, eqOK, callOf_ok allE_nil, noIns, inlOK_nil⟩
noncomputable def e65i0 (F64 : FT64) (F84 : FT84) (F101 : FT101) (F103 : FT103) (F104 : FT104) (F105 : FT105) (R : Type) : Env R := ⟨TT, EQT, 0, 84, ownOf [(6, 5), (9, 12)], callOf [en64 F64, en84 F84, en101 F101, en103 F103, en104 F104, en105 F105] R, fun _ _ _ => none, [], inlOf [(102, xinl (e102i0 R) (codeOf Tryz.f102) [.tmp 6] 3)]⟩
theorem env65i0 (R : Type) : EnvOK Tryz.prog (e65i0 F64 F84 F101 F103 F104 F105 R) := ⟨tabOK, eqOK, callOf_ok (allE_cons ok64 (allE_cons ok84 (allE_cons ok101 (allE_cons ok103 (allE_cons ok104 (allE_cons ok105 allE_nil)))))), noIns, (inlOK_cons (xinl_sound (env102i0 R) mixed Tryz.func102 (body := codeOf Tryz.f102) (by kernel_rfl) (by kernel_rfl) (by kernel_rfl) (res := [.tmp 6]) (by kernel_rfl) (n := 3) (Nat.le_of_ble_eq_true rfl) (by kernel_rfl)) inlOK_nil)⟩
noncomputable def e27 (F64 : FT64) (F66 : FT66) (F84 : FT84) (F101 : FT101) (F103 : FT103) (F104 : FT104) (F105 : FT105) (L9 : LT27_9) (R : Type) : Env R := ⟨TT, EQT, 0, 77, ownOf [(6, 2), (6, 3), (11, 3), (16, 3)], callOf [en64 F64, en84 F84, en101 F101, en103 F103, en104 F104, en105 F105] R, loopOf [le27_9 L9] R, [], inlOf [(66, inlM 0 (en66 F66) R), (65, xinl (e65i0 F64 F84 F101 F103 F104 F105 R) (codeOf Tryz.f65) [.tmp 6, .tmp 7] 3)]⟩
def p27_9 (F64 : FT64) (F84 : FT84) (F101 : FT101) (F103 : FT103) (F104 : FT104) (F105 : FT105) : (R : Type) → Int → (List Int) → (List Int) → Int → Int → (List Tq2) → (List (List Int)) → (List Int) → (List (List Int)) → Tq1 → (Int → (List Int) → (List Int) → Int → Int → (List Tq2) → (List (List Int)) → (List Int) → (List (List Int)) → Tq1 → Option R) → (Int → Option R) → (Int → (List Tq2) → (List (List Int)) → (List Int) → (List (List Int)) → Tq1 → Option R) → Option R := fun R x1 x2 x3 x4 x5 x6 x7 x8 x9 x10 kc k0 k1 =>
let v11 := (decide (x5 < x4));
(match v11 with
| true => (match (bnd x5 (List.length x3 : Int)) with
| true => let v12 := (List.getD x3 (Int.toNat x5) (0 : Int));
F64 R x2 fun y13 y14 =>
F101 R v12 x2 fun y15 y16 =>
let v17 := (y16 != (0 : Int));
(match v17 with
| true => k0 (0 : Int)
| false => (match (bnd v12 (List.length x2 : Int)) with
| true => let v18 := (List.getD x2 (Int.toNat v12) (0 : Int));
let v19 := (v18 == (0 : Int));
(match v19 with
| true => k0 (0 : Int)
| false => F84 R y13 fun y20 =>
F103 R y20 fun y21 y22 =>
let v23 := (y22 != (0 : Int));
(match v23 with
| true => (match (bnd v12 (List.length x2 : Int)) with
| true => let v24 := (List.getD x2 (Int.toNat v12) (0 : Int));
F104 R v24 fun y25 =>
let v26 : (List (List Int)) := ([y25] : (List (List Int)));
(match (decide (List.length x7 + List.length v26 ≤ 5864062014805)) with
| true => let v27 : (List (List Int)) := (x7 ++ v26);
let v28 : (List Int) := ([y20] : (List Int));
(match (decide (List.length x8 + List.length v28 ≤ 17592186044416)) with
| true => let v29 : (List Int) := (x8 ++ v28);
F104 R y13 fun y30 =>
F105 R y21 y30 fun y31 y32 =>
let v33 := (y32 != (0 : Int));
(match v33 with
| true => let v34 : (List (List Int)) := ([y31] : (List (List Int)));
(match (decide (List.length x9 + List.length v34 ≤ 5864062014805)) with
| true => let v35 : (List (List Int)) := (x9 ++ v34);
none
| false => none)
| false => let v36 : (List (List Int)) := ([y31] : (List (List Int)));
(match (decide (List.length x9 + List.length v36 ≤ 5864062014805)) with
| true => let v37 : (List (List Int)) := (x9 ++ v36);
let v38 := (IntKind.i64.wrap (x5 + (1 : Int)));
kc x1 y15 x3 x4 v38 x6 v27 v29 v37 (x10.1, y22, ())
| false => none))
| false => none)
| false => none)
| false => none)
| false => (match (bnd v12 (List.length x2 : Int)) with
| true => let v39 := (List.getD x2 (Int.toNat v12) (0 : Int));
F104 R v39 fun y40 =>
let v41 : (List (List Int)) := ([y40] : (List (List Int)));
(match (decide (List.length x7 + List.length v41 ≤ 5864062014805)) with
| true => let v42 : (List (List Int)) := (x7 ++ v41);
let v43 : (List Int) := ([y20] : (List Int));
(match (decide (List.length x8 + List.length v43 ≤ 17592186044416)) with
| true => let v44 : (List Int) := (x8 ++ v43);
F104 R y13 fun y45 =>
F105 R y21 y45 fun y46 y47 =>
let v48 := (y47 != (0 : Int));
(match v48 with
| true => let v49 : (List (List Int)) := ([y46] : (List (List Int)));
(match (decide (List.length x9 + List.length v49 ≤ 5864062014805)) with
| true => let v50 : (List (List Int)) := (x9 ++ v49);
none
| false => none)
| false => let v51 : (List (List Int)) := ([y46] : (List (List Int)));
(match (decide (List.length x9 + List.length v51 ≤ 5864062014805)) with
| true => let v52 : (List (List Int)) := (x9 ++ v51);
let v53 := (IntKind.i64.wrap (x5 + (1 : Int)));
kc x1 y15 x3 x4 v53 x6 v42 v44 v52 (x10.1, x10.2.1, ())
| false => none))
| false => none)
| false => none)
| false => none)))
| false => none))
| false => none)
| false => k1 x1 x6 x7 x8 x9 (x10.1, x10.2.1, ()))
theorem q27_9 (F64 : FT64) (F66 : FT66) (F84 : FT84) (F101 : FT101) (F103 : FT103) (F104 : FT104) (F105 : FT105) (L9 : LT27_9) (R : Type) (x : HT (le27_9 L9).H) (kc : HT (le27_9 L9).H → Option R) (ke : KT R (le27_9 L9).exs) :
  exec (e27 F64 F66 F84 F101 F103 F104 F105 L9 R) (lcode 9 (codeOf Tryz.f27)) (stOf (le27_9 L9).H x 5) (roundK (le27_9 L9).H (le27_9 L9).exs kc ke) =
    p27_9 F64 F84 F101 F103 F104 F105 R x.1 x.2.1 x.2.2.1 x.2.2.2.1 x.2.2.2.2.1 x.2.2.2.2.2.1 x.2.2.2.2.2.2.1 x.2.2.2.2.2.2.2.1 x.2.2.2.2.2.2.2.2.1 x.2.2.2.2.2.2.2.2.2.1 (fun x1 x2 x3 x4 x5 x6 x7 x8 x9 x10 => kc (x1, x2, x3, x4, x5, x6, x7, x8, x9, x10, ())) (fun y1 => ke.1 (y1, ())) (fun y1 y2 y3 y4 y5 y6 => ke.2.1 (y1, y2, y3, y4, y5, y6, ())) := by kernel_rfl
noncomputable def G27_9 : Nat → LT27_9
  | 0 => fun _ _ _ _ _ _ _ _ _ _ _ _ _ => none
  | n + 1 => fun R x1 x2 x3 x4 x5 x6 x7 x8 x9 x10 k0 k1 => p27_9 F64 F84 F101 F103 F104 F105 R x1 x2 x3 x4 x5 x6 x7 x8 x9 x10 (fun x1 x2 x3 x4 x5 x6 x7 x8 x9 x10 => G27_9 n R x1 x2 x3 x4 x5 x6 x7 x8 x9 x10 k0 k1) k0 k1
def p27 (F64 : FT64) (F66 : FT66) (L9 : LT27_9) : FT27 := fun R a0 a1 a2 a3 k =>
let v1 := (List.length a0 : Int);
let v2 := (decide (v1 > (16 : Int)));
(match v2 with
| true => k ([] : (List Int)) (1 : Int)
| false => let v3 := (decide (a1 < (0 : Int)));
(match v3 with
| true => k ([] : (List Int)) (1 : Int)
| false => let v4 := (decide (a1 > (256 : Int)));
(match v4 with
| true => k ([] : (List Int)) (1 : Int)
| false => let v5 := (decide (a2 < (1 : Int)));
(match v5 with
| true => k ([] : (List Int)) (1 : Int)
| false => let v6 := (decide (a2 > (8 : Int)));
(match v6 with
| true => k ([] : (List Int)) (1 : Int)
| false => F64 R a3 fun y7 y8 =>
let v9 := (y8 != (0 : Int));
(match v9 with
| true => k ([] : (List Int)) y8
| false => let v10 := (List.length a0 : Int);
L9 R a1 a3 a0 v10 (0 : Int) ([] : List (Tq1 × (List Int))) ([] : (List (List Int))) ([] : (List Int)) ([] : (List (List Int))) (a2, (0 : Int), ()) (fun x11 =>
k ([] : (List Int)) x11) (fun x12 x13 x14 x15 x16 x17 =>
F66 R (x17.1, x14, x15, x16, x17.2.1, ()) x13 ((0 : Int), x12, ()) fun y18 s19 m20 =>
k y18 s19.2.2.2.2.1)))))))
theorem q27 (F64 : FT64) (F66 : FT66) (F84 : FT84) (F101 : FT101) (F103 : FT103) (F104 : FT104) (F105 : FT105) (L9 : LT27_9) (F : FT27) (R : Type) (x : AT (en27 F).ins) (k : RT (en27 F).outs → PT (en27 F).ins → Option R) :
  xfun (e27 F64 F66 F84 F101 F103 F104 F105 L9 R) (codeOf Tryz.f27) res27 (avs (en27 F).ins x) (finK (en27 F).outs (en27 F).ins k) = p27 F64 F66 L9 R x.1 x.2.1 x.2.2.1 x.2.2.2.1 (fun y1 y2 => k (y1, y2, ()) ()) := by kernel_rfl
noncomputable def F27 : FT27 := p27 F64 F66 (G27_9 FUEL)
theorem env27 (R : Type) : EnvOK Tryz.prog (e27 F64 F66 F84 F101 F103 F104 F105 (G27_9 FUEL) R) := ⟨tabOK, eqOK, callOf_ok (allE_cons ok64 (allE_cons ok84 (allE_cons ok101 (allE_cons ok103 (allE_cons ok104 (allE_cons ok105 allE_nil)))))), noIns, (inlOK_consM ok66 (inlOK_cons (xinl_sound (env65i0 R) mixed Tryz.func65 (body := codeOf Tryz.f65) (by kernel_rfl) (by kernel_rfl) (by kernel_rfl) (res := [.tmp 6, .tmp 7]) (by kernel_rfl) (n := 3) (Nat.le_of_ble_eq_true rfl) (by kernel_rfl)) inlOK_nil))⟩
noncomputable def T27_9 : (R : Type) → HT (le27_9 (G27_9 FUEL)).H → (HT (le27_9 (G27_9 FUEL)).H → Option R) → KT R (le27_9 (G27_9 FUEL)).exs → Option R := fun R x kc ke => p27_9 F64 F84 F101 F103 F104 F105 R x.1 x.2.1 x.2.2.1 x.2.2.2.1 x.2.2.2.2.1 x.2.2.2.2.2.1 x.2.2.2.2.2.2.1 x.2.2.2.2.2.2.2.1 x.2.2.2.2.2.2.2.2.1 x.2.2.2.2.2.2.2.2.2.1 (fun x1 x2 x3 x4 x5 x6 x7 x8 x9 x10 => kc (x1, x2, x3, x4, x5, x6, x7, x8, x9, x10, ())) (fun y1 => ke.1 (y1, ())) (fun y1 y2 y3 y4 y5 y6 => ke.2.1 (y1, y2, y3, y4, y5, y6, ()))
theorem it27_9 : ∀ (n : Nat) (R : Type) (x : HT (le27_9 (G27_9 FUEL)).H) (ke : KT R (le27_9 (G27_9 FUEL)).exs), iter T27_9 n R x ke = G27_9 n R x.1 x.2.1 x.2.2.1 x.2.2.2.1 x.2.2.2.2.1 x.2.2.2.2.2.1 x.2.2.2.2.2.2.1 x.2.2.2.2.2.2.2.1 x.2.2.2.2.2.2.2.2.1 x.2.2.2.2.2.2.2.2.2.1 (fun y1 => ke.1 (y1, ())) (fun y1 y2 y3 y4 y5 y6 => ke.2.1 (y1, y2, y3, y4, y5, y6, ())) := by
  intro n
  induction n with
  | zero => intro R x ke; rfl
  | succ n ih =>
    intro R x ke
    show T27_9 R x (fun x' => iter T27_9 n R x' ke) ke = _
    rw [show (fun x' => iter T27_9 n R x' ke) = fun x => G27_9 n R x.1 x.2.1 x.2.2.1 x.2.2.2.1 x.2.2.2.2.1 x.2.2.2.2.2.1 x.2.2.2.2.2.2.1 x.2.2.2.2.2.2.2.1 x.2.2.2.2.2.2.2.2.1 x.2.2.2.2.2.2.2.2.2.1 (fun y1 => ke.1 (y1, ())) (fun y1 y2 y3 y4 y5 y6 => ke.2.1 (y1, y2, y3, y4, y5, y6, ())) from funext fun x' => ih R x' ke]
    rfl
theorem lok27_9 : (le27_9 (G27_9 FUEL)).OK Tryz.prog 0 77 (lcode 9 (codeOf Tryz.f27)) := fun R x ke r h =>
  iter_sound (fun R => e27 F64 F66 F84 F101 F103 F104 F105 (G27_9 FUEL) R) 0 77 (fun _ => rfl) (fun _ => rfl) (fun R => env27 R) mixed (by
    intro R
    rw [show loopsOf (lcode 9 (codeOf Tryz.f27)) = [] from by kernel_rfl]
    exact allM_nil) (T := T27_9) (fun R x kc ke => q27_9 F64 F66 F84 F101 F103 F104 F105 (G27_9 FUEL) R x kc ke) FUEL R x ke r ((it27_9 FUEL R x ke).trans h)
theorem ok27 : (en27 F27).OK Tryz.prog :=
  ent_ok (Ef := fun R => e27 F64 F66 F84 F101 F103 F104 F105 (G27_9 FUEL) R) (fun R => env27 R) mixed Tryz.func27 (body := codeOf Tryz.f27) (by kernel_rfl) (by kernel_rfl) (np := 0) (nt := 77) (fun _ => rfl) (fun _ => rfl) (by kernel_rfl) (res := res27) (by kernel_rfl) (fun _ => rfl) (fun _ => Nat.le_of_ble_eq_true rfl) (by
    intro R
    rw [show loopsOf (codeOf Tryz.f27) = [lcode 9 (codeOf Tryz.f27)] from by kernel_rfl]
    exact (allM_cons (loop_ok2 (e := le27_9 (G27_9 FUEL)) rfl rfl lok27_9) allM_nil)) (fun R x k => q27 F64 F66 F84 F101 F103 F104 F105 (G27_9 FUEL) F27 R x k)
abbrev FT21 : Type 1 := (R : Type) → (List Int) → (List Int) → (Bool → Option R) → Option R
def en21 (F : FT21) : Ent := ⟨21, [(false, (.sl (.int .i64))), (false, (.sl (.int .i64)))], [(false, .bool)], fun R x k => F R x.1 x.2.1 (fun y1 => k (y1, ()) ())⟩
def res21 : List (ResultVar × TypeId × Bool) := [(.tmp 4, 4, false)]
abbrev LT21_4 : Type 1 := (R : Type) → (List Int) → (List Int) → Int → (Bool → Option R) → (Option R) → Option R
def le21_4 (L : LT21_4) : LEnt := ⟨4, [.val 0 (.sl (.int .i64)), .val 1 (.sl (.int .i64)), .val 5 (.int .i64)], 0, [(.ret, [.val 4 .bool]), (.exit 0, [])], fun R x ke => L R x.1 x.2.1 x.2.2.1 (fun y1 => ke.1 (y1, ())) (ke.2.1 ())⟩
noncomputable def e21 (L4 : LT21_4) (R : Type) : Env R := ⟨TT, EQT, 0, 26, ownOf [], callOf [] R, loopOf [le21_4 L4] R, [], inlOf []⟩
def p21_4 : (R : Type) → (List Int) → (List Int) → Int → ((List Int) → (List Int) → Int → Option R) → (Bool → Option R) → (Option R) → Option R := fun R x1 x2 x3 kc k0 k1 =>
let v4 := (List.length x1 : Int);
let v5 := (decide (x3 < v4));
(match v5 with
| true => (match (bnd x3 (List.length x1 : Int)) with
| true => let v6 := (List.getD x1 (Int.toNat x3) (0 : Int));
(match (bnd x3 (List.length x2 : Int)) with
| true => let v7 := (List.getD x2 (Int.toNat x3) (0 : Int));
let v8 := (v6 != v7);
(match v8 with
| true => k0 false
| false => let v9 := (IntKind.i64.wrap (x3 + (1 : Int)));
kc x1 x2 v9)
| false => none)
| false => none)
| false => k1)
theorem q21_4 (L4 : LT21_4) (R : Type) (x : HT (le21_4 L4).H) (kc : HT (le21_4 L4).H → Option R) (ke : KT R (le21_4 L4).exs) :
  exec (e21 L4 R) (lcode 4 (codeOf Tryz.f21)) (stOf (le21_4 L4).H x 0) (roundK (le21_4 L4).H (le21_4 L4).exs kc ke) =
    p21_4 R x.1 x.2.1 x.2.2.1 (fun x1 x2 x3 => kc (x1, x2, x3, ())) (fun y1 => ke.1 (y1, ())) (ke.2.1 ()) := by kernel_rfl
noncomputable def G21_4 : Nat → LT21_4
  | 0 => fun _ _ _ _ _ _ => none
  | n + 1 => fun R x1 x2 x3 k0 k1 => p21_4 R x1 x2 x3 (fun x1 x2 x3 => G21_4 n R x1 x2 x3 k0 k1) k0 k1
def p21 (L4 : LT21_4) : FT21 := fun R a0 a1 k =>
let v1 := (List.length a0 : Int);
let v2 := (List.length a1 : Int);
let v3 := (v1 != v2);
(match v3 with
| true => k false
| false => L4 R a0 a1 (0 : Int) (fun x4 =>
k x4) (k true))
theorem q21 (L4 : LT21_4) (F : FT21) (R : Type) (x : AT (en21 F).ins) (k : RT (en21 F).outs → PT (en21 F).ins → Option R) :
  xfun (e21 L4 R) (codeOf Tryz.f21) res21 (avs (en21 F).ins x) (finK (en21 F).outs (en21 F).ins k) = p21 L4 R x.1 x.2.1 (fun y1 => k (y1, ()) ()) := by kernel_rfl
noncomputable def F21 : FT21 := p21 (G21_4 FUEL)
theorem env21 (R : Type) : EnvOK Tryz.prog (e21 (G21_4 FUEL) R) := ⟨tabOK, eqOK, callOf_ok allE_nil, noIns, inlOK_nil⟩
noncomputable def T21_4 : (R : Type) → HT (le21_4 (G21_4 FUEL)).H → (HT (le21_4 (G21_4 FUEL)).H → Option R) → KT R (le21_4 (G21_4 FUEL)).exs → Option R := fun R x kc ke => p21_4 R x.1 x.2.1 x.2.2.1 (fun x1 x2 x3 => kc (x1, x2, x3, ())) (fun y1 => ke.1 (y1, ())) (ke.2.1 ())
theorem it21_4 : ∀ (n : Nat) (R : Type) (x : HT (le21_4 (G21_4 FUEL)).H) (ke : KT R (le21_4 (G21_4 FUEL)).exs), iter T21_4 n R x ke = G21_4 n R x.1 x.2.1 x.2.2.1 (fun y1 => ke.1 (y1, ())) (ke.2.1 ()) := by
  intro n
  induction n with
  | zero => intro R x ke; rfl
  | succ n ih =>
    intro R x ke
    show T21_4 R x (fun x' => iter T21_4 n R x' ke) ke = _
    rw [show (fun x' => iter T21_4 n R x' ke) = fun x => G21_4 n R x.1 x.2.1 x.2.2.1 (fun y1 => ke.1 (y1, ())) (ke.2.1 ()) from funext fun x' => ih R x' ke]
    rfl
theorem lok21_4 : (le21_4 (G21_4 FUEL)).OK Tryz.prog 0 26 (lcode 4 (codeOf Tryz.f21)) := fun R x ke r h =>
  iter_sound (fun R => e21 (G21_4 FUEL) R) 0 26 (fun _ => rfl) (fun _ => rfl) (fun R => env21 R) mixed (by
    intro R
    rw [show loopsOf (lcode 4 (codeOf Tryz.f21)) = [] from by kernel_rfl]
    exact allM_nil) (T := T21_4) (fun R x kc ke => q21_4 (G21_4 FUEL) R x kc ke) FUEL R x ke r ((it21_4 FUEL R x ke).trans h)
theorem ok21 : (en21 F21).OK Tryz.prog :=
  ent_ok (Ef := fun R => e21 (G21_4 FUEL) R) (fun R => env21 R) mixed Tryz.func21 (body := codeOf Tryz.f21) (by kernel_rfl) (by kernel_rfl) (np := 0) (nt := 26) (fun _ => rfl) (fun _ => rfl) (by kernel_rfl) (res := res21) (by kernel_rfl) (fun _ => rfl) (fun _ => Nat.le_of_ble_eq_true rfl) (by
    intro R
    rw [show loopsOf (codeOf Tryz.f21) = [lcode 4 (codeOf Tryz.f21)] from by kernel_rfl]
    exact (allM_cons (loop_ok2 (e := le21_4 (G21_4 FUEL)) rfl rfl lok21_4) allM_nil)) (fun R x k => q21 (G21_4 FUEL) F21 R x k)
abbrev FT29 : Type 1 := (R : Type) → (List Int) → (List Int) → (Bool → Option R) → Option R
def en29 (F : FT29) : Ent := ⟨29, [(false, (.sl (.int .u32))), (false, (.sl (.int .u32)))], [(false, .bool)], fun R x k => F R x.1 x.2.1 (fun y1 => k (y1, ()) ())⟩
def res29 : List (ResultVar × TypeId × Bool) := [(.tmp 4, 4, false)]
abbrev LT29_4 : Type 1 := (R : Type) → (List Int) → (List Int) → Int → (Bool → Option R) → (Option R) → Option R
def le29_4 (L : LT29_4) : LEnt := ⟨4, [.val 0 (.sl (.int .u32)), .val 1 (.sl (.int .u32)), .val 5 (.int .i64)], 0, [(.ret, [.val 4 .bool]), (.exit 0, [])], fun R x ke => L R x.1 x.2.1 x.2.2.1 (fun y1 => ke.1 (y1, ())) (ke.2.1 ())⟩
noncomputable def e29 (L4 : LT29_4) (R : Type) : Env R := ⟨TT, EQT, 0, 26, ownOf [], callOf [] R, loopOf [le29_4 L4] R, [], inlOf []⟩
def p29_4 : (R : Type) → (List Int) → (List Int) → Int → ((List Int) → (List Int) → Int → Option R) → (Bool → Option R) → (Option R) → Option R := fun R x1 x2 x3 kc k0 k1 =>
let v4 := (List.length x1 : Int);
let v5 := (decide (x3 < v4));
(match v5 with
| true => (match (bnd x3 (List.length x1 : Int)) with
| true => let v6 := (List.getD x1 (Int.toNat x3) (0 : Int));
(match (bnd x3 (List.length x2 : Int)) with
| true => let v7 := (List.getD x2 (Int.toNat x3) (0 : Int));
let v8 := (v6 != v7);
(match v8 with
| true => k0 false
| false => let v9 := (IntKind.i64.wrap (x3 + (1 : Int)));
kc x1 x2 v9)
| false => none)
| false => none)
| false => k1)
theorem q29_4 (L4 : LT29_4) (R : Type) (x : HT (le29_4 L4).H) (kc : HT (le29_4 L4).H → Option R) (ke : KT R (le29_4 L4).exs) :
  exec (e29 L4 R) (lcode 4 (codeOf Tryz.f29)) (stOf (le29_4 L4).H x 0) (roundK (le29_4 L4).H (le29_4 L4).exs kc ke) =
    p29_4 R x.1 x.2.1 x.2.2.1 (fun x1 x2 x3 => kc (x1, x2, x3, ())) (fun y1 => ke.1 (y1, ())) (ke.2.1 ()) := by kernel_rfl
noncomputable def G29_4 : Nat → LT29_4
  | 0 => fun _ _ _ _ _ _ => none
  | n + 1 => fun R x1 x2 x3 k0 k1 => p29_4 R x1 x2 x3 (fun x1 x2 x3 => G29_4 n R x1 x2 x3 k0 k1) k0 k1
def p29 (L4 : LT29_4) : FT29 := fun R a0 a1 k =>
let v1 := (List.length a0 : Int);
let v2 := (List.length a1 : Int);
let v3 := (v1 != v2);
(match v3 with
| true => k false
| false => L4 R a0 a1 (0 : Int) (fun x4 =>
k x4) (k true))
theorem q29 (L4 : LT29_4) (F : FT29) (R : Type) (x : AT (en29 F).ins) (k : RT (en29 F).outs → PT (en29 F).ins → Option R) :
  xfun (e29 L4 R) (codeOf Tryz.f29) res29 (avs (en29 F).ins x) (finK (en29 F).outs (en29 F).ins k) = p29 L4 R x.1 x.2.1 (fun y1 => k (y1, ()) ()) := by kernel_rfl
noncomputable def F29 : FT29 := p29 (G29_4 FUEL)
theorem env29 (R : Type) : EnvOK Tryz.prog (e29 (G29_4 FUEL) R) := ⟨tabOK, eqOK, callOf_ok allE_nil, noIns, inlOK_nil⟩
noncomputable def T29_4 : (R : Type) → HT (le29_4 (G29_4 FUEL)).H → (HT (le29_4 (G29_4 FUEL)).H → Option R) → KT R (le29_4 (G29_4 FUEL)).exs → Option R := fun R x kc ke => p29_4 R x.1 x.2.1 x.2.2.1 (fun x1 x2 x3 => kc (x1, x2, x3, ())) (fun y1 => ke.1 (y1, ())) (ke.2.1 ())
theorem it29_4 : ∀ (n : Nat) (R : Type) (x : HT (le29_4 (G29_4 FUEL)).H) (ke : KT R (le29_4 (G29_4 FUEL)).exs), iter T29_4 n R x ke = G29_4 n R x.1 x.2.1 x.2.2.1 (fun y1 => ke.1 (y1, ())) (ke.2.1 ()) := by
  intro n
  induction n with
  | zero => intro R x ke; rfl
  | succ n ih =>
    intro R x ke
    show T29_4 R x (fun x' => iter T29_4 n R x' ke) ke = _
    rw [show (fun x' => iter T29_4 n R x' ke) = fun x => G29_4 n R x.1 x.2.1 x.2.2.1 (fun y1 => ke.1 (y1, ())) (ke.2.1 ()) from funext fun x' => ih R x' ke]
    rfl
theorem lok29_4 : (le29_4 (G29_4 FUEL)).OK Tryz.prog 0 26 (lcode 4 (codeOf Tryz.f29)) := fun R x ke r h =>
  iter_sound (fun R => e29 (G29_4 FUEL) R) 0 26 (fun _ => rfl) (fun _ => rfl) (fun R => env29 R) mixed (by
    intro R
    rw [show loopsOf (lcode 4 (codeOf Tryz.f29)) = [] from by kernel_rfl]
    exact allM_nil) (T := T29_4) (fun R x kc ke => q29_4 (G29_4 FUEL) R x kc ke) FUEL R x ke r ((it29_4 FUEL R x ke).trans h)
theorem ok29 : (en29 F29).OK Tryz.prog :=
  ent_ok (Ef := fun R => e29 (G29_4 FUEL) R) (fun R => env29 R) mixed Tryz.func29 (body := codeOf Tryz.f29) (by kernel_rfl) (by kernel_rfl) (np := 0) (nt := 26) (fun _ => rfl) (fun _ => rfl) (by kernel_rfl) (res := res29) (by kernel_rfl) (fun _ => rfl) (fun _ => Nat.le_of_ble_eq_true rfl) (by
    intro R
    rw [show loopsOf (codeOf Tryz.f29) = [lcode 4 (codeOf Tryz.f29)] from by kernel_rfl]
    exact (allM_cons (loop_ok2 (e := le29_4 (G29_4 FUEL)) rfl rfl lok29_4) allM_nil)) (fun R x k => q29 (G29_4 FUEL) F29 R x k)
abbrev FT18 : Type 1 := (R : Type) → (Bool → Option R) → Option R
def en18 (F : FT18) : Ent := ⟨18, [], [(false, .bool)], fun R x k => F R  (fun y1 => k (y1, ()) ())⟩
def res18 : List (ResultVar × TypeId × Bool) := [(.tmp 0, 4, false)]
noncomputable def e18 (F19 : FT19) (F21 : FT21) (F23 : FT23) (F26 : FT26) (F27 : FT27) (F29 : FT29) (F39 : FT39) (R : Type) : Env R := ⟨TT, EQT, 0, 138, ownOf [], callOf [en19 F19, en21 F21, en23 F23, en26 F26, en27 F27, en29 F29, en39 F39] R, loopOf [] R, [], inlOf []⟩
def p18 (F19 : FT19) (F21 : FT21) (F23 : FT23) (F26 : FT26) (F27 : FT27) (F29 : FT29) (F39 : FT39) : FT18 := fun R k =>
let v1 : (List Int) := ([(128 : Int)] : (List Int));
F39 R v1 (8 : Int) fun y2 y3 =>
let v4 : (List Int) := ([(1 : Int), (0 : Int), (1 : Int)] : (List Int));
F26 R v4 fun y5 =>
F23 R y5 (2 : Int) y2 (1 : Int) fun y6 y7 y8 =>
let v9 : (List Int) := ([(1 : Int), (0 : Int), (1 : Int)] : (List Int));
F19 R (2 : Int) y2 (1 : Int) v9 fun y10 y11 y12 =>
F23 R y5 (3 : Int) y2 (1 : Int) fun y13 y14 y15 =>
F23 R y5 (257 : Int) y2 (1 : Int) fun y16 y17 y18 =>
let v19 : (List Int) := ([(2 : Int), (0 : Int)] : (List Int));
let v20 : (List Int) := ([(1 : Int), (0 : Int), (1 : Int)] : (List Int));
F27 R v19 (3 : Int) (1 : Int) v20 fun y21 y22 =>
let v23 : (List Int) := ([(0 : Int), (0 : Int)] : (List Int));
let v24 : (List Int) := ([(1 : Int), (0 : Int), (1 : Int)] : (List Int));
F27 R v23 (3 : Int) (1 : Int) v24 fun y25 y26 =>
F23 R y5 (0 : Int) y2 (1 : Int) fun y27 y28 y29 =>
let v30 := (y8 == (0 : Int));
(match v30 with
| true => let v31 := (y12 == (0 : Int));
(match v31 with
| true => let v32 := (y15 == (12 : Int));
(match v32 with
| true => let v33 := (y18 == (1 : Int));
(match v33 with
| true => let v34 := (y22 == (0 : Int));
(match v34 with
| true => let v35 := (y26 == (0 : Int));
(match v35 with
| true => let v36 := (y29 == (0 : Int));
(match v36 with
| true => let v37 : (List Int) := ([(2 : Int), (0 : Int)] : (List Int));
F21 R y6 v37 fun y38 =>
(match y38 with
| true => F21 R y10 y6 fun y39 =>
(match y39 with
| true => let v40 := (y7.2.2.2.2.2.1 == (1 : Int));
(match v40 with
| true => let v41 := (y14.2.2.2.2.2.1 == (0 : Int));
(match v41 with
| true => let v42 : (List Int) := ([(4 : Int)] : (List Int));
F29 R y21 v42 fun y43 =>
(match y43 with
| true => let v44 := (List.length y25 : Int);
let v45 := (v44 == (0 : Int));
(match v45 with
| true => let v46 := (List.length y27 : Int);
let v47 := (v46 == (0 : Int));
k v47
| false => k false)
| false => k false)
| false => k false)
| false => k false)
| false => k false)
| false => k false)
| false => k false)
| false => k false)
| false => k false)
| false => k false)
| false => k false)
| false => k false)
| false => k false)
theorem q18 (F19 : FT19) (F21 : FT21) (F23 : FT23) (F26 : FT26) (F27 : FT27) (F29 : FT29) (F39 : FT39) (F : FT18) (R : Type) (x : AT (en18 F).ins) (k : RT (en18 F).outs → PT (en18 F).ins → Option R) :
  xfun (e18 F19 F21 F23 F26 F27 F29 F39 R) (codeOf Tryz.f18) res18 (avs (en18 F).ins x) (finK (en18 F).outs (en18 F).ins k) = p18 F19 F21 F23 F26 F27 F29 F39 R  (fun y1 => k (y1, ()) ()) := by kernel_rfl
noncomputable def F18 : FT18 := p18 F19 F21 F23 F26 F27 F29 F39
theorem env18 (R : Type) : EnvOK Tryz.prog (e18 F19 F21 F23 F26 F27 F29 F39 R) := ⟨tabOK, eqOK, callOf_ok (allE_cons ok19 (allE_cons ok21 (allE_cons ok23 (allE_cons ok26 (allE_cons ok27 (allE_cons ok29 (allE_cons ok39 allE_nil))))))), noIns, inlOK_nil⟩
theorem ok18 : (en18 F18).OK Tryz.prog :=
  ent_ok (Ef := fun R => e18 F19 F21 F23 F26 F27 F29 F39 R) (fun R => env18 R) mixed Tryz.func18 (body := codeOf Tryz.f18) (by kernel_rfl) (by kernel_rfl) (np := 0) (nt := 138) (fun _ => rfl) (fun _ => rfl) (by kernel_rfl) (res := res18) (by kernel_rfl) (fun _ => rfl) (fun _ => Nat.le_of_ble_eq_true rfl) (by
    intro R
    rw [show loopsOf (codeOf Tryz.f18) = [] from by kernel_rfl]
    exact allM_nil) (fun R x k => q18 F19 F21 F23 F26 F27 F29 F39 F18 R x k)
abbrev FT15 : Type 1 := (R : Type) → (List Int) → Tq7 → (Bool → Option R) → Option R
def en15 (F : FT15) : Ent := ⟨15, [(false, (.sl (.int .u64))), (false, Kq7)], [(false, .bool)], fun R x k => F R x.1 x.2.1 (fun y1 => k (y1, ()) ())⟩
def p15 : FT15 := fun R a0 a1 k =>
let v1 := (List.length a0 : Int);
let v2 := (decide (v1 > (200 : Int)));
(match v2 with
| true => k true
| false => let v3 := (List.length a1.2.1 : Int);
let v4 := (decide (v3 > (500 : Int)));
k v4)
noncomputable def F15 : FT15 := p15
abbrev FT94 : Type 1 := (R : Type) → Int → Int → (Int → Bool → Option R) → Option R
def en94 (F : FT94) : Ent := ⟨94, [(false, (.int .u64)), (false, (.int .u64))], [(false, (.int .u64)), (false, .bool)], fun R x k => F R x.1 x.2.1 (fun y1 y2 => k (y1, y2, ()) ())⟩
def res94 : List (ResultVar × TypeId × Bool) := [(.tmp 4, 22, false), (.tmp 5, 4, false)]
noncomputable def e94 (R : Type) : Env R := ⟨TT, EQT, 0, 17, ownOf [], callOf [] R, loopOf [] R, [], inlOf []⟩
def p94 : FT94 := fun R a0 a1 k =>
let v1 := (decide (a0 ≥ (9223372036854775808 : Int)));
(match v1 with
| true => k (0 : Int) false
| false => let v2 := (IntKind.u64.wrap ((9223372036854775808 : Int) - a0));
let v3 := (decide (a1 ≥ v2));
(match v3 with
| true => k (0 : Int) false
| false => let v4 := (IntKind.u64.wrap (a0 + a1));
k v4 true))
theorem q94 (F : FT94) (R : Type) (x : AT (en94 F).ins) (k : RT (en94 F).outs → PT (en94 F).ins → Option R) :
  xfun (e94 R) (codeOf Tryz.f94) res94 (avs (en94 F).ins x) (finK (en94 F).outs (en94 F).ins k) = p94 R x.1 x.2.1 (fun y1 y2 => k (y1, y2, ()) ()) := by kernel_rfl
noncomputable def F94 : FT94 := p94
theorem env94 (R : Type) : EnvOK Tryz.prog (e94 R) := ⟨tabOK, eqOK, callOf_ok allE_nil, noIns, inlOK_nil⟩
theorem ok94 : (en94 F94).OK Tryz.prog :=
  ent_ok (Ef := fun R => e94 R) (fun R => env94 R) mixed Tryz.func94 (body := codeOf Tryz.f94) (by kernel_rfl) (by kernel_rfl) (np := 0) (nt := 17) (fun _ => rfl) (fun _ => rfl) (by kernel_rfl) (res := res94) (by kernel_rfl) (fun _ => rfl) (fun _ => Nat.le_of_ble_eq_true rfl) (by
    intro R
    rw [show loopsOf (codeOf Tryz.f94) = [] from by kernel_rfl]
    exact allM_nil) (fun R x k => q94 F94 R x k)
abbrev FT52 : Type 1 := (R : Type) → (List Int) → (Int → Bool → Option R) → Option R
def en52 (F : FT52) : Ent := ⟨52, [(false, (.sl (.int .u64)))], [(false, (.int .u64)), (false, .bool)], fun R x k => F R x.1 (fun y1 y2 => k (y1, y2, ()) ())⟩
def res52 : List (ResultVar × TypeId × Bool) := [(.tmp 2, 22, false), (.tmp 3, 4, false)]
abbrev LT52_3 : Type 1 := (R : Type) → (List Int) → Int → Int → (Int → Bool → Option R) → (Int → Option R) → Option R
def le52_3 (L : LT52_3) : LEnt := ⟨3, [.val 0 (.sl (.int .u64)), .val 4 (.int .u64), .val 5 (.int .i64)], 0, [(.ret, [.val 2 (.int .u64), .val 3 .bool]), (.exit 0, [.val 4 (.int .u64)])], fun R x ke => L R x.1 x.2.1 x.2.2.1 (fun y1 y2 => ke.1 (y1, y2, ())) (fun y1 => ke.2.1 (y1, ()))⟩
noncomputable def e52 (F94 : FT94) (L3 : LT52_3) (R : Type) : Env R := ⟨TT, EQT, 0, 27, ownOf [], callOf [en94 F94] R, loopOf [le52_3 L3] R, [], inlOf []⟩
def p52_3 (F94 : FT94) : (R : Type) → (List Int) → Int → Int → ((List Int) → Int → Int → Option R) → (Int → Bool → Option R) → (Int → Option R) → Option R := fun R x1 x2 x3 kc k0 k1 =>
let v4 := (List.length x1 : Int);
let v5 := (decide (x3 < v4));
(match v5 with
| true => (match (bnd x3 (List.length x1 : Int)) with
| true => let v6 := (List.getD x1 (Int.toNat x3) (0 : Int));
F94 R x2 v6 fun y7 y8 =>
(match (!y8) with
| true => k0 (0 : Int) false
| false => let v9 := (IntKind.i64.wrap (x3 + (1 : Int)));
kc x1 y7 v9)
| false => none)
| false => k1 x2)
theorem q52_3 (F94 : FT94) (L3 : LT52_3) (R : Type) (x : HT (le52_3 L3).H) (kc : HT (le52_3 L3).H → Option R) (ke : KT R (le52_3 L3).exs) :
  exec (e52 F94 L3 R) (lcode 3 (codeOf Tryz.f52)) (stOf (le52_3 L3).H x 0) (roundK (le52_3 L3).H (le52_3 L3).exs kc ke) =
    p52_3 F94 R x.1 x.2.1 x.2.2.1 (fun x1 x2 x3 => kc (x1, x2, x3, ())) (fun y1 y2 => ke.1 (y1, y2, ())) (fun y1 => ke.2.1 (y1, ())) := by kernel_rfl
noncomputable def G52_3 : Nat → LT52_3
  | 0 => fun _ _ _ _ _ _ => none
  | n + 1 => fun R x1 x2 x3 k0 k1 => p52_3 F94 R x1 x2 x3 (fun x1 x2 x3 => G52_3 n R x1 x2 x3 k0 k1) k0 k1
def p52 (L3 : LT52_3) : FT52 := fun R a0 k =>
L3 R a0 (0 : Int) (0 : Int) (fun x1 x2 =>
k x1 x2) (fun x3 =>
k x3 true)
theorem q52 (F94 : FT94) (L3 : LT52_3) (F : FT52) (R : Type) (x : AT (en52 F).ins) (k : RT (en52 F).outs → PT (en52 F).ins → Option R) :
  xfun (e52 F94 L3 R) (codeOf Tryz.f52) res52 (avs (en52 F).ins x) (finK (en52 F).outs (en52 F).ins k) = p52 L3 R x.1 (fun y1 y2 => k (y1, y2, ()) ()) := by kernel_rfl
noncomputable def F52 : FT52 := p52 (G52_3 FUEL)
theorem env52 (R : Type) : EnvOK Tryz.prog (e52 F94 (G52_3 FUEL) R) := ⟨tabOK, eqOK, callOf_ok (allE_cons ok94 allE_nil), noIns, inlOK_nil⟩
noncomputable def T52_3 : (R : Type) → HT (le52_3 (G52_3 FUEL)).H → (HT (le52_3 (G52_3 FUEL)).H → Option R) → KT R (le52_3 (G52_3 FUEL)).exs → Option R := fun R x kc ke => p52_3 F94 R x.1 x.2.1 x.2.2.1 (fun x1 x2 x3 => kc (x1, x2, x3, ())) (fun y1 y2 => ke.1 (y1, y2, ())) (fun y1 => ke.2.1 (y1, ()))
theorem it52_3 : ∀ (n : Nat) (R : Type) (x : HT (le52_3 (G52_3 FUEL)).H) (ke : KT R (le52_3 (G52_3 FUEL)).exs), iter T52_3 n R x ke = G52_3 n R x.1 x.2.1 x.2.2.1 (fun y1 y2 => ke.1 (y1, y2, ())) (fun y1 => ke.2.1 (y1, ())) := by
  intro n
  induction n with
  | zero => intro R x ke; rfl
  | succ n ih =>
    intro R x ke
    show T52_3 R x (fun x' => iter T52_3 n R x' ke) ke = _
    rw [show (fun x' => iter T52_3 n R x' ke) = fun x => G52_3 n R x.1 x.2.1 x.2.2.1 (fun y1 y2 => ke.1 (y1, y2, ())) (fun y1 => ke.2.1 (y1, ())) from funext fun x' => ih R x' ke]
    rfl
theorem lok52_3 : (le52_3 (G52_3 FUEL)).OK Tryz.prog 0 27 (lcode 3 (codeOf Tryz.f52)) := fun R x ke r h =>
  iter_sound (fun R => e52 F94 (G52_3 FUEL) R) 0 27 (fun _ => rfl) (fun _ => rfl) (fun R => env52 R) mixed (by
    intro R
    rw [show loopsOf (lcode 3 (codeOf Tryz.f52)) = [] from by kernel_rfl]
    exact allM_nil) (T := T52_3) (fun R x kc ke => q52_3 F94 (G52_3 FUEL) R x kc ke) FUEL R x ke r ((it52_3 FUEL R x ke).trans h)
theorem ok52 : (en52 F52).OK Tryz.prog :=
  ent_ok (Ef := fun R => e52 F94 (G52_3 FUEL) R) (fun R => env52 R) mixed Tryz.func52 (body := codeOf Tryz.f52) (by kernel_rfl) (by kernel_rfl) (np := 0) (nt := 27) (fun _ => rfl) (fun _ => rfl) (by kernel_rfl) (res := res52) (by kernel_rfl) (fun _ => rfl) (fun _ => Nat.le_of_ble_eq_true rfl) (by
    intro R
    rw [show loopsOf (codeOf Tryz.f52) = [lcode 3 (codeOf Tryz.f52)] from by kernel_rfl]
    exact (allM_cons (loop_ok2 (e := le52_3 (G52_3 FUEL)) rfl rfl lok52_3) allM_nil)) (fun R x k => q52 F94 (G52_3 FUEL) F52 R x k)
abbrev FT51 : Type 1 := (R : Type) → (List Int) → (Int → Int → Option R) → Option R
def en51 (F : FT51) : Ent := ⟨51, [(false, (.sl (.int .u64)))], [(false, (.int .u64)), (false, (.int .i64))], fun R x k => F R x.1 (fun y1 y2 => k (y1, y2, ()) ())⟩
def res51 : List (ResultVar × TypeId × Bool) := [(.tmp 2, 22, false), (.tmp 3, 32, false)]
noncomputable def e51 (F52 : FT52) (R : Type) : Env R := ⟨TT, EQT, 0, 14, ownOf [], callOf [en52 F52] R, loopOf [] R, [], inlOf []⟩
def p51 (F52 : FT52) : FT51 := fun R a0 k =>
F52 R a0 fun y1 y2 =>
(match (!y2) with
| true => k (0 : Int) (11 : Int)
| false => k y1 (0 : Int))
theorem q51 (F52 : FT52) (F : FT51) (R : Type) (x : AT (en51 F).ins) (k : RT (en51 F).outs → PT (en51 F).ins → Option R) :
  xfun (e51 F52 R) (codeOf Tryz.f51) res51 (avs (en51 F).ins x) (finK (en51 F).outs (en51 F).ins k) = p51 F52 R x.1 (fun y1 y2 => k (y1, y2, ()) ()) := by kernel_rfl
noncomputable def F51 : FT51 := p51 F52
theorem env51 (R : Type) : EnvOK Tryz.prog (e51 F52 R) := ⟨tabOK, eqOK, callOf_ok (allE_cons ok52 allE_nil), noIns, inlOK_nil⟩
theorem ok51 : (en51 F51).OK Tryz.prog :=
  ent_ok (Ef := fun R => e51 F52 R) (fun R => env51 R) mixed Tryz.func51 (body := codeOf Tryz.f51) (by kernel_rfl) (by kernel_rfl) (np := 0) (nt := 14) (fun _ => rfl) (fun _ => rfl) (by kernel_rfl) (res := res51) (by kernel_rfl) (fun _ => rfl) (fun _ => Nat.le_of_ble_eq_true rfl) (by
    intro R
    rw [show loopsOf (codeOf Tryz.f51) = [] from by kernel_rfl]
    exact allM_nil) (fun R x k => q51 F52 F51 R x k)
abbrev FT58 : Type 1 := (R : Type) → Tq7 → (Bool → Option R) → Option R
def en58 (F : FT58) : Ent := ⟨58, [(false, Kq7)], [(false, .bool)], fun R x k => F R x.1 (fun y1 => k (y1, ()) ())⟩
def p58 : FT58 := fun R a0 k =>
let v1 := (a0.1 == (1 : Int));
(match v1 with
| true => let v2 := (List.length a0.2.1 : Int);
let v3 := (IntKind.u64.wrap v2);
let v4 := (IntKind.u64.wrap ((8 : Int) * v3));
let v5 := (decide (a0.2.2.1 ≤ v4));
(match v5 with
| true => let v6 := (decide (a0.2.2.2.2.2.1 ≤ a0.2.2.1));
k v6
| false => k false)
| false => let v7 := (a0.1 == (2 : Int));
(match v7 with
| true => let v8 := (decide (a0.2.2.2.2.2.1 ≤ (4611686018427387904 : Int)));
k v8
| false => k false))
noncomputable def F58 : FT58 := p58
abbrev FT59 : Type 1 := (R : Type) → (List Int) → (Int → Option R) → Option R
def en59 (F : FT59) : Ent := ⟨59, [(false, (.sl (.int .u64)))], [(false, (.int .i64))], fun R x k => F R x.1 (fun y1 => k (y1, ()) ())⟩
abbrev LT59_3 : Type 1 := (R : Type) → (List Int) → Int → Int → (Int → Option R) → Option R
def p59_3 : (R : Type) → (List Int) → Int → Int → ((List Int) → Int → Int → Option R) → (Int → Option R) → Option R := fun R x1 x2 x3 kc k0 =>
let v4 := (List.length x1 : Int);
let v5 := (decide (x3 < v4));
(match v5 with
| true => (match (bnd x3 (List.length x1 : Int)) with
| true => let v6 := (List.getD x1 (Int.toNat x3) (0 : Int));
let v7 := (decide (v6 > (0 : Int)));
(match v7 with
| true => let v8 := (IntKind.i64.wrap (x2 + (1 : Int)));
let v9 := (IntKind.i64.wrap (x3 + (1 : Int)));
kc x1 v8 v9
| false => let v10 := (IntKind.i64.wrap (x3 + (1 : Int)));
kc x1 x2 v10)
| false => none)
| false => k0 x2)
noncomputable def G59_3 : Nat → LT59_3
  | 0 => fun _ _ _ _ _ => none
  | n + 1 => fun R x1 x2 x3 k0 => p59_3 R x1 x2 x3 (fun x1 x2 x3 => G59_3 n R x1 x2 x3 k0) k0
def p59 (L3 : LT59_3) : FT59 := fun R a0 k =>
L3 R a0 (0 : Int) (0 : Int) (fun x1 =>
k x1)
noncomputable def F59 : FT59 := p59 (G59_3 FUEL)
abbrev FT108 : Type 1 := (R : Type) → Int → (Int → Option R) → Option R
def en108 (F : FT108) : Ent := ⟨108, [(false, (.int .u64))], [(false, (.int .i64))], fun R x k => F R x.1 (fun y1 => k (y1, ()) ())⟩
def res108 : List (ResultVar × TypeId × Bool) := [(.tmp 2, 3, false)]
abbrev LT108_2 : Type 1 := (R : Type) → Int → Int → (Int → Option R) → Option R
def le108_2 (L : LT108_2) : LEnt := ⟨2, [.val 0 (.int .u64), .val 3 (.int .i64)], 0, [(.exit 0, [.val 3 (.int .i64)])], fun R x ke => L R x.1 x.2.1 (fun y1 => ke.1 (y1, ()))⟩
noncomputable def e108 (L2 : LT108_2) (R : Type) : Env R := ⟨TT, EQT, 0, 11, ownOf [], callOf [] R, loopOf [le108_2 L2] R, [], inlOf []⟩
def p108_2 : (R : Type) → Int → Int → (Int → Int → Option R) → (Int → Option R) → Option R := fun R x1 x2 kc k0 =>
let v3 := (decide (x1 > (0 : Int)));
(match v3 with
| true => let v4 := (IntKind.u64.wrap (Int.tdiv x1 (2 : Int)));
let v5 := (IntKind.i64.wrap (x2 + (1 : Int)));
kc v4 v5
| false => k0 x2)
theorem q108_2 (L2 : LT108_2) (R : Type) (x : HT (le108_2 L2).H) (kc : HT (le108_2 L2).H → Option R) (ke : KT R (le108_2 L2).exs) :
  exec (e108 L2 R) (lcode 2 (codeOf Tryz.f108)) (stOf (le108_2 L2).H x 0) (roundK (le108_2 L2).H (le108_2 L2).exs kc ke) =
    p108_2 R x.1 x.2.1 (fun x1 x2 => kc (x1, x2, ())) (fun y1 => ke.1 (y1, ())) := by kernel_rfl
noncomputable def G108_2 : Nat → LT108_2
  | 0 => fun _ _ _ _ => none
  | n + 1 => fun R x1 x2 k0 => p108_2 R x1 x2 (fun x1 x2 => G108_2 n R x1 x2 k0) k0
def p108 (L2 : LT108_2) : FT108 := fun R a0 k =>
L2 R a0 (0 : Int) (fun x1 =>
k x1)
theorem q108 (L2 : LT108_2) (F : FT108) (R : Type) (x : AT (en108 F).ins) (k : RT (en108 F).outs → PT (en108 F).ins → Option R) :
  xfun (e108 L2 R) (codeOf Tryz.f108) res108 (avs (en108 F).ins x) (finK (en108 F).outs (en108 F).ins k) = p108 L2 R x.1 (fun y1 => k (y1, ()) ()) := by kernel_rfl
noncomputable def F108 : FT108 := p108 (G108_2 FUEL)
theorem env108 (R : Type) : EnvOK Tryz.prog (e108 (G108_2 FUEL) R) := ⟨tabOK, eqOK, callOf_ok allE_nil, noIns, inlOK_nil⟩
noncomputable def T108_2 : (R : Type) → HT (le108_2 (G108_2 FUEL)).H → (HT (le108_2 (G108_2 FUEL)).H → Option R) → KT R (le108_2 (G108_2 FUEL)).exs → Option R := fun R x kc ke => p108_2 R x.1 x.2.1 (fun x1 x2 => kc (x1, x2, ())) (fun y1 => ke.1 (y1, ()))
theorem it108_2 : ∀ (n : Nat) (R : Type) (x : HT (le108_2 (G108_2 FUEL)).H) (ke : KT R (le108_2 (G108_2 FUEL)).exs), iter T108_2 n R x ke = G108_2 n R x.1 x.2.1 (fun y1 => ke.1 (y1, ())) := by
  intro n
  induction n with
  | zero => intro R x ke; rfl
  | succ n ih =>
    intro R x ke
    show T108_2 R x (fun x' => iter T108_2 n R x' ke) ke = _
    rw [show (fun x' => iter T108_2 n R x' ke) = fun x => G108_2 n R x.1 x.2.1 (fun y1 => ke.1 (y1, ())) from funext fun x' => ih R x' ke]
    rfl
theorem lok108_2 : (le108_2 (G108_2 FUEL)).OK Tryz.prog 0 11 (lcode 2 (codeOf Tryz.f108)) := fun R x ke r h =>
  iter_sound (fun R => e108 (G108_2 FUEL) R) 0 11 (fun _ => rfl) (fun _ => rfl) (fun R => env108 R) mixed (by
    intro R
    rw [show loopsOf (lcode 2 (codeOf Tryz.f108)) = [] from by kernel_rfl]
    exact allM_nil) (T := T108_2) (fun R x kc ke => q108_2 (G108_2 FUEL) R x kc ke) FUEL R x ke r ((it108_2 FUEL R x ke).trans h)
theorem ok108 : (en108 F108).OK Tryz.prog :=
  ent_ok (Ef := fun R => e108 (G108_2 FUEL) R) (fun R => env108 R) mixed Tryz.func108 (body := codeOf Tryz.f108) (by kernel_rfl) (by kernel_rfl) (np := 0) (nt := 11) (fun _ => rfl) (fun _ => rfl) (by kernel_rfl) (res := res108) (by kernel_rfl) (fun _ => rfl) (fun _ => Nat.le_of_ble_eq_true rfl) (by
    intro R
    rw [show loopsOf (codeOf Tryz.f108) = [lcode 2 (codeOf Tryz.f108)] from by kernel_rfl]
    exact (allM_cons (loop_ok2 (e := le108_2 (G108_2 FUEL)) rfl rfl lok108_2) allM_nil)) (fun R x k => q108 (G108_2 FUEL) F108 R x k)
abbrev FT67 : Type 1 := (R : Type) → Int → (Int → Option R) → Option R
def en67 (F : FT67) : Ent := ⟨67, [(false, (.int .u64))], [(false, (.int .i64))], fun R x k => F R x.1 (fun y1 => k (y1, ()) ())⟩
def res67 : List (ResultVar × TypeId × Bool) := [(.tmp 2, 3, false)]
noncomputable def e67 (F108 : FT108) (R : Type) : Env R := ⟨TT, EQT, 0, 8, ownOf [], callOf [en108 F108] R, loopOf [] R, [], inlOf []⟩
def p67 (F108 : FT108) : FT67 := fun R a0 k =>
let v1 := (a0 == (0 : Int));
(match v1 with
| true => k (0 : Int)
| false => let v2 := (IntKind.u64.wrap (a0 - (1 : Int)));
F108 R v2 fun y3 =>
k y3)
theorem q67 (F108 : FT108) (F : FT67) (R : Type) (x : AT (en67 F).ins) (k : RT (en67 F).outs → PT (en67 F).ins → Option R) :
  xfun (e67 F108 R) (codeOf Tryz.f67) res67 (avs (en67 F).ins x) (finK (en67 F).outs (en67 F).ins k) = p67 F108 R x.1 (fun y1 => k (y1, ()) ()) := by kernel_rfl
noncomputable def F67 : FT67 := p67 F108
theorem env67 (R : Type) : EnvOK Tryz.prog (e67 F108 R) := ⟨tabOK, eqOK, callOf_ok (allE_cons ok108 allE_nil), noIns, inlOK_nil⟩
theorem ok67 : (en67 F67).OK Tryz.prog :=
  ent_ok (Ef := fun R => e67 F108 R) (fun R => env67 R) mixed Tryz.func67 (body := codeOf Tryz.f67) (by kernel_rfl) (by kernel_rfl) (np := 0) (nt := 8) (fun _ => rfl) (fun _ => rfl) (by kernel_rfl) (res := res67) (by kernel_rfl) (fun _ => rfl) (fun _ => Nat.le_of_ble_eq_true rfl) (by
    intro R
    rw [show loopsOf (codeOf Tryz.f67) = [] from by kernel_rfl]
    exact allM_nil) (fun R x k => q67 F108 F67 R x k)
abbrev FT123 : Type 1 := (R : Type) → Tq7 → (Int → Option R) → Option R
def p123 (F58 : FT58) : FT123 := fun R a0 k =>
F58 R a0 fun y1 =>
(match (!y1) with
| true => k (0 : Int)
| false => let v2 := (a0.1 == (1 : Int));
(match v2 with
| true => let v3 := (IntKind.u64.wrap (a0.2.2.1 - a0.2.2.2.2.2.1));
k v3
| false => let v4 := (IntKind.u64.wrap ((4611686018427387904 : Int) - a0.2.2.2.2.2.1));
k v4))
noncomputable def F123 : FT123 := p123 F58
abbrev FT149 : Type 1 := (R : Type) → Int → ((List Int) → Option R) → Option R
abbrev LT149_3 : Type 1 := (R : Type) → Int → Int → (List Int) → (List Int) → ((List Int) → (List Int) → Option R) → Option R
def p149_3 : (R : Type) → Int → Int → (List Int) → (List Int) → (Int → Int → (List Int) → (List Int) → Option R) → ((List Int) → (List Int) → Option R) → Option R := fun R x1 x2 x3 x4 kc k0 =>
let v5 := (decide (x2 ≥ (0 : Int)));
(match v5 with
| true => let v6 := (Int.tmod x1 (256 : Int));
let v7 := (IntKind.u8.wrap v6);
(match (bnd x2 (8 : Int)) with
| true => let v8 : (List Int) := (List.set x4 (Int.toNat x2) v7);
let v9 := (IntKind.u64.wrap (Int.tdiv x1 (256 : Int)));
let v10 := (IntKind.i64.wrap (x2 - (1 : Int)));
kc v9 v10 x3 v8
| false => none)
| false => k0 x3 x4)
noncomputable def G149_3 : Nat → LT149_3
  | 0 => fun _ _ _ _ _ _ => none
  | n + 1 => fun R x1 x2 x3 x4 k0 => p149_3 R x1 x2 x3 x4 (fun x1 x2 x3 x4 => G149_3 n R x1 x2 x3 x4 k0) k0
def p149 (L3 : LT149_3) : FT149 := fun R a0 k =>
L3 R a0 (7 : Int) (List.replicate 8 (0 : Int)) (List.replicate 8 (0 : Int)) (fun x1 x2 =>
k x2)
noncomputable def F149 : FT149 := p149 (G149_3 FUEL)
abbrev FT165 : Type 1 := (R : Type) → (List Int) → Int → ((List Int) → Bool → Option R) → Option R
abbrev LT165_4 : Type 1 := (R : Type) → Int → (List Int) → (Int → (List Int) → Option R) → Option R
abbrev LT165_8 : Type 1 := (R : Type) → Int → (List Int) → (List Int) → ((List Int) → Option R) → Option R
def p165_4 : (R : Type) → Int → (List Int) → (Int → (List Int) → Option R) → (Int → (List Int) → Option R) → Option R := fun R x1 x2 kc k0 =>
let v3 := (List.length x2 : Int);
let v4 := (Int.tmod v3 (64 : Int));
let v5 := (v4 != (56 : Int));
(match v5 with
| true => let v6 : (List Int) := ([(0 : Int)] : (List Int));
(match (decide (List.length x2 + List.length v6 ≤ 140737488355328)) with
| true => let v7 : (List Int) := (x2 ++ v6);
kc x1 v7
| false => none)
| false => k0 x1 x2)
noncomputable def G165_4 : Nat → LT165_4
  | 0 => fun _ _ _ _ => none
  | n + 1 => fun R x1 x2 k0 => p165_4 R x1 x2 (fun x1 x2 => G165_4 n R x1 x2 k0) k0
def p165_8 : (R : Type) → Int → (List Int) → (List Int) → (Int → (List Int) → (List Int) → Option R) → ((List Int) → Option R) → Option R := fun R x1 x2 x3 kc k0 =>
let v4 := (decide (x1 < (8 : Int)));
(match v4 with
| true => (match (bnd x1 (8 : Int)) with
| true => let v5 := (List.getD x3 (Int.toNat x1) (0 : Int));
let v6 : (List Int) := ([v5] : (List Int));
(match (decide (List.length x2 + List.length v6 ≤ 140737488355328)) with
| true => let v7 : (List Int) := (x2 ++ v6);
let v8 := (IntKind.i64.wrap (x1 + (1 : Int)));
kc v8 v7 x3
| false => none)
| false => none)
| false => k0 x2)
noncomputable def G165_8 : Nat → LT165_8
  | 0 => fun _ _ _ _ _ => none
  | n + 1 => fun R x1 x2 x3 k0 => p165_8 R x1 x2 x3 (fun x1 x2 x3 => G165_8 n R x1 x2 x3 k0) k0
def p165 (F149 : FT149) (L4 : LT165_4) (L8 : LT165_8) : FT165 := fun R a0 a1 k =>
let v1 := (decide (a1 ≥ (2305843009213693952 : Int)));
(match v1 with
| true => k ([] : (List Int)) false
| false => let v2 := (List.length a0 : Int);
let v3 := (IntKind.u64.wrap v2);
let v4 := (Int.tmod a1 (64 : Int));
let v5 := (v3 != v4);
(match v5 with
| true => k ([] : (List Int)) false
| false => let v6 : (List Int) := ([] : (List Int));
(match (decide (List.length v6 + List.length a0 ≤ 140737488355328)) with
| true => let v7 : (List Int) := (v6 ++ a0);
let v8 : (List Int) := ([(128 : Int)] : (List Int));
(match (decide (List.length v7 + List.length v8 ≤ 140737488355328)) with
| true => let v9 : (List Int) := (v7 ++ v8);
L4 R a1 v9 (fun x10 x11 =>
let v12 := (IntKind.u64.wrap ((8 : Int) * x10));
F149 R v12 fun y13 =>
L8 R (0 : Int) x11 y13 (fun x14 =>
k x14 true))
| false => none)
| false => none)))
noncomputable def F165 : FT165 := p165 F149 (G165_4 FUEL) (G165_8 FUEL)
abbrev FT155 : Type 1 := (R : Type) → (List Int) → ((List Int) → Option R) → Option R
def p155 (F165 : FT165) : FT155 := fun R a0 k =>
let v1 := (List.length a0 : Int);
let v2 := (List.length a0 : Int);
let v3 := (Int.tmod v2 (64 : Int));
let v4 := (IntKind.i64.wrap (v1 - v3));
(match (decide (0 ≤ v4 ∧ v4 ≤ (List.length a0 : Int) ∧ (List.length a0 : Int) ≤ (List.length a0 : Int) ∧ (List.length a0 : Int) ≤ (List.length a0 : Int))) with
| true => let v5 : (List Int) := (List.take (Int.toNat ((List.length a0 : Int) - v4)) (List.drop (Int.toNat v4) a0));
let v6 := (List.length a0 : Int);
let v7 := (IntKind.u64.wrap v6);
F165 R v5 v7 fun y8 y9 =>
let v10 : (List Int) := ([] : (List Int));
(match (decide (0 ≤ (0 : Int) ∧ (0 : Int) ≤ v4 ∧ v4 ≤ v4 ∧ v4 ≤ (List.length a0 : Int))) with
| true => let v11 : (List Int) := (List.take (Int.toNat (v4 - (0 : Int))) (List.drop 0 a0));
(match (decide (List.length v10 + List.length v11 ≤ 140737488355328)) with
| true => let v12 : (List Int) := (v10 ++ v11);
(match (decide (List.length v12 + List.length y8 ≤ 140737488355328)) with
| true => let v13 : (List Int) := (v12 ++ y8);
k v13
| false => none)
| false => none)
| false => none)
| false => none)
noncomputable def F155 : FT155 := p155 F165
abbrev FT154 : Type 1 := (R : Type) → (List Int) → ((List (List Int)) → (List Int) → Option R) → Option R
abbrev LT154_3 : Type 1 := (R : Type) → (List Int) → Int → (List (List Int)) → ((List Int) → Int → (List (List Int)) → Option R) → Option R
abbrev LT154_6 : Type 1 := (R : Type) → (List Int) → Int → Int → (List (List Int)) → (List Int) → ((List Int) → Int → (List (List Int)) → (List Int) → Option R) → Option R
def p154_6 : (R : Type) → (List Int) → Int → Int → (List (List Int)) → (List Int) → ((List Int) → Int → Int → (List (List Int)) → (List Int) → Option R) → ((List Int) → Int → (List (List Int)) → (List Int) → Option R) → Option R := fun R x1 x2 x3 x4 x5 kc k0 =>
let v6 := (decide (x3 < (64 : Int)));
(match v6 with
| true => let v7 := (IntKind.i64.wrap (x2 + x3));
(match (bnd v7 (List.length x1 : Int)) with
| true => let v8 := (List.getD x1 (Int.toNat v7) (0 : Int));
(match (bnd x3 (64 : Int)) with
| true => let v9 : (List Int) := (List.set x5 (Int.toNat x3) v8);
let v10 := (IntKind.i64.wrap (x3 + (1 : Int)));
kc x1 x2 v10 x4 v9
| false => none)
| false => none)
| false => k0 x1 x2 x4 x5)
noncomputable def G154_6 : Nat → LT154_6
  | 0 => fun _ _ _ _ _ _ _ => none
  | n + 1 => fun R x1 x2 x3 x4 x5 k0 => p154_6 R x1 x2 x3 x4 x5 (fun x1 x2 x3 x4 x5 => G154_6 n R x1 x2 x3 x4 x5 k0) k0
def p154_3 (L6 : LT154_6) : (R : Type) → (List Int) → Int → (List (List Int)) → ((List Int) → Int → (List (List Int)) → Option R) → ((List Int) → Int → (List (List Int)) → Option R) → Option R := fun R x1 x2 x3 kc k0 =>
let v4 := (IntKind.i64.wrap (x2 + (64 : Int)));
let v5 := (List.length x1 : Int);
let v6 := (decide (v4 ≤ v5));
(match v6 with
| true => L6 R x1 x2 (0 : Int) x3 (List.replicate 64 (0 : Int)) (fun x7 x8 x9 x10 =>
let v11 : (List (List Int)) := ([x10] : (List (List Int)));
(match (decide (List.length x9 + List.length v11 ≤ 2199023255552)) with
| true => let v12 : (List (List Int)) := (x9 ++ v11);
let v13 := (IntKind.i64.wrap (x8 + (64 : Int)));
kc x7 v13 v12
| false => none))
| false => k0 x1 x2 x3)
noncomputable def G154_3 : Nat → LT154_3
  | 0 => fun _ _ _ _ _ => none
  | n + 1 => fun R x1 x2 x3 k0 => p154_3 (G154_6 FUEL) R x1 x2 x3 (fun x1 x2 x3 => G154_3 n R x1 x2 x3 k0) k0
def p154 (L3 : LT154_3) : FT154 := fun R a0 k =>
L3 R a0 (0 : Int) ([] : (List (List Int))) (fun x1 x2 x3 =>
(match (decide (0 ≤ x2 ∧ x2 ≤ (List.length x1 : Int) ∧ (List.length x1 : Int) ≤ (List.length x1 : Int) ∧ (List.length x1 : Int) ≤ (List.length x1 : Int))) with
| true => let v4 : (List Int) := (List.take (Int.toNat ((List.length x1 : Int) - x2)) (List.drop (Int.toNat x2) x1));
k x3 v4
| false => none))
noncomputable def F154 : FT154 := p154 (G154_3 FUEL)
abbrev FT158 : Type 1 := (R : Type) → ((List Int) → Option R) → Option R
def p158 : FT158 := fun R k =>
let v1 : (List Int) := (List.set (List.set (List.set (List.set (List.set (List.set (List.set (List.set (List.replicate 8 (0 : Int)) 0 (1779033703 : Int)) 1 (3144134277 : Int)) 2 (1013904242 : Int)) 3 (2773480762 : Int)) 4 (1359893119 : Int)) 5 (2600822924 : Int)) 6 (528734635 : Int)) 7 (1541459225 : Int));
k v1
noncomputable def F158 : FT158 := p158
abbrev FT179 : Type 1 := (R : Type) → (List Int) → (Int → Option R) → Option R
abbrev LT179_3 : Type 1 := (R : Type) → Int → Int → (List Int) → (Int → Option R) → Option R
def p179_3 : (R : Type) → Int → Int → (List Int) → (Int → Int → (List Int) → Option R) → (Int → Option R) → Option R := fun R x1 x2 x3 kc k0 =>
let v4 := (decide (x2 < (4 : Int)));
(match v4 with
| true => let v5 := (IntKind.u32.wrap (x1 * (256 : Int)));
(match (bnd x2 (4 : Int)) with
| true => let v6 := (List.getD x3 (Int.toNat x2) (0 : Int));
let v7 := (IntKind.u32.wrap v6);
let v8 := (IntKind.u32.wrap (v5 + v7));
let v9 := (IntKind.i64.wrap (x2 + (1 : Int)));
kc v8 v9 x3
| false => none)
| false => k0 x1)
noncomputable def G179_3 : Nat → LT179_3
  | 0 => fun _ _ _ _ _ => none
  | n + 1 => fun R x1 x2 x3 k0 => p179_3 R x1 x2 x3 (fun x1 x2 x3 => G179_3 n R x1 x2 x3 k0) k0
def p179 (L3 : LT179_3) : FT179 := fun R a0 k =>
L3 R (0 : Int) (0 : Int) a0 (fun x1 =>
k x1)
noncomputable def F179 : FT179 := p179 (G179_3 FUEL)
abbrev FT190 : Type 1 := (R : Type) → Int → Int → (Int → Option R) → Option R
abbrev LT190_5 : Type 1 := (R : Type) → Int → Int → Int → (Int → Option R) → Option R
def p190_5 : (R : Type) → Int → Int → Int → (Int → Int → Int → Option R) → (Int → Option R) → Option R := fun R x1 x2 x3 kc k0 =>
let v4 := (decide (x3 < x2));
(match v4 with
| true => let v5 := (IntKind.u32.wrap (Int.tdiv x1 (2 : Int)));
let v6 := (Int.tmod x1 (2 : Int));
let v7 := (IntKind.u32.wrap (v6 * (2147483648 : Int)));
let v8 := (IntKind.u32.wrap (v5 + v7));
let v9 := (IntKind.i64.wrap (x3 + (1 : Int)));
kc v8 x2 v9
| false => k0 x1)
noncomputable def G190_5 : Nat → LT190_5
  | 0 => fun _ _ _ _ _ => none
  | n + 1 => fun R x1 x2 x3 k0 => p190_5 R x1 x2 x3 (fun x1 x2 x3 => G190_5 n R x1 x2 x3 k0) k0
def p190 (L5 : LT190_5) : FT190 := fun R a0 a1 k =>
let v1 := (Int.tmod a1 (32 : Int));
let v2 := (decide (v1 < (0 : Int)));
(match v2 with
| true => let v3 := (IntKind.i64.wrap (v1 + (32 : Int)));
L5 R a0 v3 (0 : Int) (fun x4 =>
k x4)
| false => L5 R a0 v1 (0 : Int) (fun x5 =>
k x5))
noncomputable def F190 : FT190 := p190 (G190_5 FUEL)
abbrev FT139 : Type 1 := (R : Type) → Int → Int → (Int → Option R) → Option R
abbrev LT139_4 : Type 1 := (R : Type) → Int → Int → Int → (Int → Option R) → Option R
def p139_4 : (R : Type) → Int → Int → Int → (Int → Int → Int → Option R) → (Int → Option R) → Option R := fun R x1 x2 x3 kc k0 =>
let v4 := (decide (x3 < x2));
(match v4 with
| true => let v5 := (IntKind.u32.wrap (Int.tdiv x1 (2 : Int)));
let v6 := (IntKind.i64.wrap (x3 + (1 : Int)));
kc v5 x2 v6
| false => k0 x1)
noncomputable def G139_4 : Nat → LT139_4
  | 0 => fun _ _ _ _ _ => none
  | n + 1 => fun R x1 x2 x3 k0 => p139_4 R x1 x2 x3 (fun x1 x2 x3 => G139_4 n R x1 x2 x3 k0) k0
def p139 (L4 : LT139_4) : FT139 := fun R a0 a1 k =>
let v1 := (decide (a1 > (31 : Int)));
(match v1 with
| true => k (0 : Int)
| false => L4 R a0 a1 (0 : Int) (fun x2 =>
k x2))
noncomputable def F139 : FT139 := p139 (G139_4 FUEL)
abbrev FT180 : Type 1 := (R : Type) → Int → (Int → Option R) → Option R
def p180 (F139 : FT139) (F190 : FT190) : FT180 := fun R a0 k =>
F190 R a0 (17 : Int) fun y1 =>
F190 R a0 (19 : Int) fun y2 =>
let v3 := (ixor .u32 y1 y2);
F139 R a0 (10 : Int) fun y4 =>
let v5 := (ixor .u32 v3 y4);
k v5
noncomputable def F180 : FT180 := p180 F139 F190
abbrev FT181 : Type 1 := (R : Type) → Int → (Int → Option R) → Option R
def p181 (F139 : FT139) (F190 : FT190) : FT181 := fun R a0 k =>
F190 R a0 (7 : Int) fun y1 =>
F190 R a0 (18 : Int) fun y2 =>
let v3 := (ixor .u32 y1 y2);
F139 R a0 (3 : Int) fun y4 =>
let v5 := (ixor .u32 v3 y4);
k v5
noncomputable def F181 : FT181 := p181 F139 F190
abbrev FT173 : Type 1 := (R : Type) → (List Int) → ((List Int) → Option R) → Option R
abbrev LT173_3 : Type 1 := (R : Type) → Int → (List Int) → (List Int) → (List Int) → ((List Int) → (List Int) → Option R) → Option R
abbrev LT173_7 : Type 1 := (R : Type) → Int → (List Int) → (List Int) → ((List Int) → (List Int) → Option R) → Option R
def p173_3 (F179 : FT179) : (R : Type) → Int → (List Int) → (List Int) → (List Int) → (Int → (List Int) → (List Int) → (List Int) → Option R) → ((List Int) → (List Int) → Option R) → Option R := fun R x1 x2 x3 x4 kc k0 =>
let v5 := (decide (x1 < (16 : Int)));
(match v5 with
| true => let v6 := (IntKind.i64.wrap ((4 : Int) * x1));
(match (bnd v6 (64 : Int)) with
| true => let v7 := (List.getD x2 (Int.toNat v6) (0 : Int));
let v8 := (IntKind.i64.wrap ((4 : Int) * x1));
let v9 := (IntKind.i64.wrap (v8 + (1 : Int)));
(match (bnd v9 (64 : Int)) with
| true => let v10 := (List.getD x2 (Int.toNat v9) (0 : Int));
let v11 := (IntKind.i64.wrap ((4 : Int) * x1));
let v12 := (IntKind.i64.wrap (v11 + (2 : Int)));
(match (bnd v12 (64 : Int)) with
| true => let v13 := (List.getD x2 (Int.toNat v12) (0 : Int));
let v14 := (IntKind.i64.wrap ((4 : Int) * x1));
let v15 := (IntKind.i64.wrap (v14 + (3 : Int)));
(match (bnd v15 (64 : Int)) with
| true => let v16 := (List.getD x2 (Int.toNat v15) (0 : Int));
let v17 : (List Int) := (List.set (List.set (List.set (List.set (List.replicate 4 (0 : Int)) 0 v7) 1 v10) 2 v13) 3 v16);
F179 R v17 fun y18 =>
(match (bnd x1 (64 : Int)) with
| true => let v19 : (List Int) := (List.set x4 (Int.toNat x1) y18);
let v20 := (IntKind.i64.wrap (x1 + (1 : Int)));
kc v20 x2 x3 v19
| false => none)
| false => none)
| false => none)
| false => none)
| false => none)
| false => k0 x3 x4)
noncomputable def G173_3 : Nat → LT173_3
  | 0 => fun _ _ _ _ _ _ => none
  | n + 1 => fun R x1 x2 x3 x4 k0 => p173_3 F179 R x1 x2 x3 x4 (fun x1 x2 x3 x4 => G173_3 n R x1 x2 x3 x4 k0) k0
def p173_7 (F180 : FT180) (F181 : FT181) : (R : Type) → Int → (List Int) → (List Int) → (Int → (List Int) → (List Int) → Option R) → ((List Int) → (List Int) → Option R) → Option R := fun R x1 x2 x3 kc k0 =>
let v4 := (decide (x1 < (64 : Int)));
(match v4 with
| true => let v5 := (IntKind.i64.wrap (x1 - (2 : Int)));
(match (bnd v5 (64 : Int)) with
| true => let v6 := (List.getD x3 (Int.toNat v5) (0 : Int));
F180 R v6 fun y7 =>
let v8 := (IntKind.i64.wrap (x1 - (7 : Int)));
(match (bnd v8 (64 : Int)) with
| true => let v9 := (List.getD x3 (Int.toNat v8) (0 : Int));
let v10 := (IntKind.u32.wrap (y7 + v9));
let v11 := (IntKind.i64.wrap (x1 - (15 : Int)));
(match (bnd v11 (64 : Int)) with
| true => let v12 := (List.getD x3 (Int.toNat v11) (0 : Int));
F181 R v12 fun y13 =>
let v14 := (IntKind.u32.wrap (v10 + y13));
let v15 := (IntKind.i64.wrap (x1 - (16 : Int)));
(match (bnd v15 (64 : Int)) with
| true => let v16 := (List.getD x3 (Int.toNat v15) (0 : Int));
let v17 := (IntKind.u32.wrap (v14 + v16));
(match (bnd x1 (64 : Int)) with
| true => let v18 : (List Int) := (List.set x3 (Int.toNat x1) v17);
let v19 := (IntKind.i64.wrap (x1 + (1 : Int)));
kc v19 x2 v18
| false => none)
| false => none)
| false => none)
| false => none)
| false => none)
| false => k0 x2 x3)
noncomputable def G173_7 : Nat → LT173_7
  | 0 => fun _ _ _ _ _ => none
  | n + 1 => fun R x1 x2 x3 k0 => p173_7 F180 F181 R x1 x2 x3 (fun x1 x2 x3 => G173_7 n R x1 x2 x3 k0) k0
def p173 (L3 : LT173_3) (L7 : LT173_7) : FT173 := fun R a0 k =>
L3 R (0 : Int) a0 (List.replicate 64 (0 : Int)) (List.replicate 64 (0 : Int)) (fun x1 x2 =>
L7 R (16 : Int) x1 x2 (fun x3 x4 =>
k x4))
noncomputable def F173 : FT173 := p173 (G173_3 FUEL) (G173_7 FUEL)
abbrev FT175 : Type 1 := (R : Type) → Int → (Int → Option R) → Option R
def p175 : FT175 := fun R a0 k =>
let v1 := (decide (a0 < (0 : Int)));
(match v1 with
| true => k (0 : Int)
| false => let v2 := (decide (a0 > (63 : Int)));
(match v2 with
| true => k (0 : Int)
| false => let v3 : (List Int) := (List.set (List.set (List.set (List.set (List.set (List.set (List.set (List.set (List.set (List.set (List.set (List.set (List.set (List.set (List.set (List.set (List.set (List.set (List.set (List.set (List.set (List.set (List.set (List.set (List.set (List.set (List.set (List.set (List.set (List.set (List.set (List.set (List.set (List.set (List.set (List.set (List.set (List.set (List.set (List.set (List.set (List.set (List.set (List.set (List.set (List.set (List.set (List.set (List.set (List.set (List.set (List.set (List.set (List.set (List.set (List.set (List.set (List.set (List.set (List.set (List.set (List.set (List.set (List.set (List.replicate 64 (0 : Int)) 0 (1116352408 : Int)) 1 (1899447441 : Int)) 2 (3049323471 : Int)) 3 (3921009573 : Int)) 4 (961987163 : Int)) 5 (1508970993 : Int)) 6 (2453635748 : Int)) 7 (2870763221 : Int)) 8 (3624381080 : Int)) 9 (310598401 : Int)) 10 (607225278 : Int)) 11 (1426881987 : Int)) 12 (1925078388 : Int)) 13 (2162078206 : Int)) 14 (2614888103 : Int)) 15 (3248222580 : Int)) 16 (3835390401 : Int)) 17 (4022224774 : Int)) 18 (264347078 : Int)) 19 (604807628 : Int)) 20 (770255983 : Int)) 21 (1249150122 : Int)) 22 (1555081692 : Int)) 23 (1996064986 : Int)) 24 (2554220882 : Int)) 25 (2821834349 : Int)) 26 (2952996808 : Int)) 27 (3210313671 : Int)) 28 (3336571891 : Int)) 29 (3584528711 : Int)) 30 (113926993 : Int)) 31 (338241895 : Int)) 32 (666307205 : Int)) 33 (773529912 : Int)) 34 (1294757372 : Int)) 35 (1396182291 : Int)) 36 (1695183700 : Int)) 37 (1986661051 : Int)) 38 (2177026350 : Int)) 39 (2456956037 : Int)) 40 (2730485921 : Int)) 41 (2820302411 : Int)) 42 (3259730800 : Int)) 43 (3345764771 : Int)) 44 (3516065817 : Int)) 45 (3600352804 : Int)) 46 (4094571909 : Int)) 47 (275423344 : Int)) 48 (430227734 : Int)) 49 (506948616 : Int)) 50 (659060556 : Int)) 51 (883997877 : Int)) 52 (958139571 : Int)) 53 (1322822218 : Int)) 54 (1537002063 : Int)) 55 (1747873779 : Int)) 56 (1955562222 : Int)) 57 (2024104815 : Int)) 58 (2227730452 : Int)) 59 (2361852424 : Int)) 60 (2428436474 : Int)) 61 (2756734187 : Int)) 62 (3204031479 : Int)) 63 (3329325298 : Int));
(match (bnd a0 (64 : Int)) with
| true => let v4 := (List.getD v3 (Int.toNat a0) (0 : Int));
k v4
| false => none)))
noncomputable def F175 : FT175 := p175
abbrev FT182 : Type 1 := (R : Type) → Int → Int → Int → Int → (Int → Option R) → Option R
def p182 (F190 : FT190) : FT182 := fun R a0 a1 a2 a3 k =>
F190 R a0 a1 fun y1 =>
F190 R a0 a2 fun y2 =>
let v3 := (ixor .u32 y1 y2);
F190 R a0 a3 fun y4 =>
let v5 := (ixor .u32 v3 y4);
k v5
noncomputable def F182 : FT182 := p182 F190
abbrev FT183 : Type 1 := (R : Type) → Int → Int → Int → (Int → Option R) → Option R
def p183 : FT183 := fun R a0 a1 a2 k =>
let v1 := (iand .u32 a0 a1);
let v2 := (IntKind.u32.wrap ((4294967295 : Int) - a0));
let v3 := (iand .u32 v2 a2);
let v4 := (ior .u32 v1 v3);
k v4
noncomputable def F183 : FT183 := p183
abbrev FT184 : Type 1 := (R : Type) → Int → Int → Int → (Int → Option R) → Option R
def p184 : FT184 := fun R a0 a1 a2 k =>
let v1 := (iand .u32 a0 a1);
let v2 := (iand .u32 a0 a2);
let v3 := (ior .u32 v1 v2);
let v4 := (iand .u32 a1 a2);
let v5 := (ior .u32 v3 v4);
k v5
noncomputable def F184 : FT184 := p184
abbrev FT174 : Type 1 := (R : Type) → (List Int) → Int → Int → ((List Int) → Option R) → Option R
def p174 (F182 : FT182) (F183 : FT183) (F184 : FT184) : FT174 := fun R a0 a1 a2 k =>
let v1 := (List.getD a0 7 (0 : Int));
let v2 := (List.getD a0 4 (0 : Int));
F182 R v2 (6 : Int) (11 : Int) (25 : Int) fun y3 =>
let v4 := (IntKind.u32.wrap (v1 + y3));
let v5 := (List.getD a0 4 (0 : Int));
let v6 := (List.getD a0 5 (0 : Int));
let v7 := (List.getD a0 6 (0 : Int));
F183 R v5 v6 v7 fun y8 =>
let v9 := (IntKind.u32.wrap (v4 + y8));
let v10 := (IntKind.u32.wrap (v9 + a2));
let v11 := (IntKind.u32.wrap (v10 + a1));
let v12 := (List.getD a0 0 (0 : Int));
F182 R v12 (2 : Int) (13 : Int) (22 : Int) fun y13 =>
let v14 := (List.getD a0 0 (0 : Int));
let v15 := (List.getD a0 1 (0 : Int));
let v16 := (List.getD a0 2 (0 : Int));
F184 R v14 v15 v16 fun y17 =>
let v18 := (IntKind.u32.wrap (y13 + y17));
let v19 := (IntKind.u32.wrap (v11 + v18));
let v20 := (List.getD a0 0 (0 : Int));
let v21 := (List.getD a0 1 (0 : Int));
let v22 := (List.getD a0 2 (0 : Int));
let v23 := (List.getD a0 3 (0 : Int));
let v24 := (IntKind.u32.wrap (v23 + v11));
let v25 := (List.getD a0 4 (0 : Int));
let v26 := (List.getD a0 5 (0 : Int));
let v27 := (List.getD a0 6 (0 : Int));
let v28 : (List Int) := (List.set (List.set (List.set (List.set (List.set (List.set (List.set (List.set (List.replicate 8 (0 : Int)) 0 v19) 1 v20) 2 v21) 3 v22) 4 v24) 5 v25) 6 v26) 7 v27);
k v28
noncomputable def F174 : FT174 := p174 F182 F183 F184
abbrev FT167 : Type 1 := (R : Type) → (List Int) → (List Int) → ((List Int) → Option R) → Option R
abbrev LT167_4 : Type 1 := (R : Type) → Int → (List Int) → (List Int) → (List Int) → (List Int) → ((List Int) → (List Int) → (List Int) → Option R) → Option R
abbrev LT167_8 : Type 1 := (R : Type) → Int → (List Int) → (List Int) → (List Int) → ((List Int) → (List Int) → Option R) → Option R
def p167_4 (F174 : FT174) (F175 : FT175) : (R : Type) → Int → (List Int) → (List Int) → (List Int) → (List Int) → (Int → (List Int) → (List Int) → (List Int) → (List Int) → Option R) → ((List Int) → (List Int) → (List Int) → Option R) → Option R := fun R x1 x2 x3 x4 x5 kc k0 =>
let v6 := (decide (x1 < (64 : Int)));
(match v6 with
| true => (match (bnd x1 (64 : Int)) with
| true => let v7 := (List.getD x4 (Int.toNat x1) (0 : Int));
F175 R x1 fun y8 =>
F174 R x5 v7 y8 fun y9 =>
let v10 := (IntKind.i64.wrap (x1 + (1 : Int)));
kc v10 x2 x3 x4 y9
| false => none)
| false => k0 x2 x3 x5)
noncomputable def G167_4 : Nat → LT167_4
  | 0 => fun _ _ _ _ _ _ _ => none
  | n + 1 => fun R x1 x2 x3 x4 x5 k0 => p167_4 F174 F175 R x1 x2 x3 x4 x5 (fun x1 x2 x3 x4 x5 => G167_4 n R x1 x2 x3 x4 x5 k0) k0
def p167_8 : (R : Type) → Int → (List Int) → (List Int) → (List Int) → (Int → (List Int) → (List Int) → (List Int) → Option R) → ((List Int) → (List Int) → Option R) → Option R := fun R x1 x2 x3 x4 kc k0 =>
let v5 := (decide (x1 < (8 : Int)));
(match v5 with
| true => (match (bnd x1 (8 : Int)) with
| true => let v6 := (List.getD x4 (Int.toNat x1) (0 : Int));
(match (bnd x1 (8 : Int)) with
| true => let v7 := (List.getD x2 (Int.toNat x1) (0 : Int));
let v8 := (IntKind.u32.wrap (v6 + v7));
(match (bnd x1 (8 : Int)) with
| true => let v9 : (List Int) := (List.set x4 (Int.toNat x1) v8);
let v10 := (IntKind.i64.wrap (x1 + (1 : Int)));
kc v10 x2 x3 v9
| false => none)
| false => none)
| false => none)
| false => k0 x3 x4)
noncomputable def G167_8 : Nat → LT167_8
  | 0 => fun _ _ _ _ _ _ => none
  | n + 1 => fun R x1 x2 x3 x4 k0 => p167_8 R x1 x2 x3 x4 (fun x1 x2 x3 x4 => G167_8 n R x1 x2 x3 x4 k0) k0
def p167 (F173 : FT173) (L4 : LT167_4) (L8 : LT167_8) : FT167 := fun R a0 a1 k =>
F173 R a1 fun y1 =>
L4 R (0 : Int) a0 (List.replicate 8 (0 : Int)) y1 a0 (fun x2 x3 x4 =>
L8 R (0 : Int) x2 x3 x4 (fun x5 x6 =>
k x6))
noncomputable def F167 : FT167 := p167 F173 (G167_4 FUEL) (G167_8 FUEL)
abbrev FT157 : Type 1 := (R : Type) → (List Int) → (List (List Int)) → ((List Int) → Option R) → Option R
abbrev LT157_2 : Type 1 := (R : Type) → (List (List Int)) → Int → (List Int) → (List Int) → ((List Int) → (List Int) → Option R) → Option R
def p157_2 (F167 : FT167) : (R : Type) → (List (List Int)) → Int → (List Int) → (List Int) → ((List (List Int)) → Int → (List Int) → (List Int) → Option R) → ((List Int) → (List Int) → Option R) → Option R := fun R x1 x2 x3 x4 kc k0 =>
let v5 := (List.length x1 : Int);
let v6 := (decide (x2 < v5));
(match v6 with
| true => (match (bnd x2 (List.length x1 : Int)) with
| true => let v7 : (List Int) := (List.getD x1 (Int.toNat x2) (List.replicate 64 (0 : Int)));
F167 R x3 v7 fun y8 =>
let v9 := (IntKind.i64.wrap (x2 + (1 : Int)));
kc x1 v9 y8 x4
| false => none)
| false => k0 x3 x4)
noncomputable def G157_2 : Nat → LT157_2
  | 0 => fun _ _ _ _ _ _ => none
  | n + 1 => fun R x1 x2 x3 x4 k0 => p157_2 F167 R x1 x2 x3 x4 (fun x1 x2 x3 x4 => G157_2 n R x1 x2 x3 x4 k0) k0
def p157 (L2 : LT157_2) : FT157 := fun R a0 a1 k =>
L2 R a1 (0 : Int) a0 (List.replicate 8 (0 : Int)) (fun x1 x2 =>
k x1)
noncomputable def F157 : FT157 := p157 (G157_2 FUEL)
abbrev FT166 : Type 1 := (R : Type) → Int → ((List Int) → Option R) → Option R
def p166 : FT166 := fun R a0 k =>
let v1 := (IntKind.u32.wrap (Int.tdiv a0 (16777216 : Int)));
let v2 := (IntKind.u8.wrap v1);
let v3 := (IntKind.u32.wrap (Int.tdiv a0 (65536 : Int)));
let v4 := (Int.tmod v3 (256 : Int));
let v5 := (IntKind.u8.wrap v4);
let v6 := (IntKind.u32.wrap (Int.tdiv a0 (256 : Int)));
let v7 := (Int.tmod v6 (256 : Int));
let v8 := (IntKind.u8.wrap v7);
let v9 := (Int.tmod a0 (256 : Int));
let v10 := (IntKind.u8.wrap v9);
let v11 : (List Int) := (List.set (List.set (List.set (List.set (List.replicate 4 (0 : Int)) 0 v2) 1 v5) 2 v8) 3 v10);
k v11
noncomputable def F166 : FT166 := p166
abbrev FT156 : Type 1 := (R : Type) → (List Int) → ((List Int) → Option R) → Option R
abbrev LT156_3 : Type 1 := (R : Type) → Int → (List Int) → (List Int) → (List Int) → ((List Int) → (List Int) → Option R) → Option R
abbrev LT156_7 : Type 1 := (R : Type) → Int → Int → (List Int) → (List Int) → (List Int) → (List Int) → (Int → (List Int) → (List Int) → (List Int) → Option R) → Option R
def p156_7 : (R : Type) → Int → Int → (List Int) → (List Int) → (List Int) → (List Int) → (Int → Int → (List Int) → (List Int) → (List Int) → (List Int) → Option R) → (Int → (List Int) → (List Int) → (List Int) → Option R) → Option R := fun R x1 x2 x3 x4 x5 x6 kc k0 =>
let v7 := (decide (x2 < (4 : Int)));
(match v7 with
| true => let v8 := (IntKind.i64.wrap ((4 : Int) * x1));
let v9 := (IntKind.i64.wrap (v8 + x2));
(match (bnd x2 (4 : Int)) with
| true => let v10 := (List.getD x6 (Int.toNat x2) (0 : Int));
(match (bnd v9 (32 : Int)) with
| true => let v11 : (List Int) := (List.set x5 (Int.toNat v9) v10);
let v12 := (IntKind.i64.wrap (x2 + (1 : Int)));
kc x1 v12 x3 x4 v11 x6
| false => none)
| false => none)
| false => k0 x1 x3 x4 x5)
noncomputable def G156_7 : Nat → LT156_7
  | 0 => fun _ _ _ _ _ _ _ _ => none
  | n + 1 => fun R x1 x2 x3 x4 x5 x6 k0 => p156_7 R x1 x2 x3 x4 x5 x6 (fun x1 x2 x3 x4 x5 x6 => G156_7 n R x1 x2 x3 x4 x5 x6 k0) k0
def p156_3 (F166 : FT166) (L7 : LT156_7) : (R : Type) → Int → (List Int) → (List Int) → (List Int) → (Int → (List Int) → (List Int) → (List Int) → Option R) → ((List Int) → (List Int) → Option R) → Option R := fun R x1 x2 x3 x4 kc k0 =>
let v5 := (decide (x1 < (8 : Int)));
(match v5 with
| true => (match (bnd x1 (8 : Int)) with
| true => let v6 := (List.getD x2 (Int.toNat x1) (0 : Int));
F166 R v6 fun y7 =>
L7 R x1 (0 : Int) x2 x3 x4 y7 (fun x8 x9 x10 x11 =>
let v12 := (IntKind.i64.wrap (x8 + (1 : Int)));
kc v12 x9 x10 x11)
| false => none)
| false => k0 x3 x4)
noncomputable def G156_3 : Nat → LT156_3
  | 0 => fun _ _ _ _ _ _ => none
  | n + 1 => fun R x1 x2 x3 x4 k0 => p156_3 F166 (G156_7 FUEL) R x1 x2 x3 x4 (fun x1 x2 x3 x4 => G156_3 n R x1 x2 x3 x4 k0) k0
def p156 (L3 : LT156_3) : FT156 := fun R a0 k =>
L3 R (0 : Int) a0 (List.replicate 32 (0 : Int)) (List.replicate 32 (0 : Int)) (fun x1 x2 =>
k x2)
noncomputable def F156 : FT156 := p156 (G156_3 FUEL)
abbrev FT150 : Type 1 := (R : Type) → (List Int) → ((List Int) → Option R) → Option R
def p150 (F154 : FT154) (F155 : FT155) (F156 : FT156) (F157 : FT157) (F158 : FT158) : FT150 := fun R a0 k =>
F155 R a0 fun y1 =>
F154 R y1 fun y2 y3 =>
F158 R  fun y4 =>
F157 R y4 y2 fun y5 =>
F156 R y5 fun y6 =>
k y6
noncomputable def F150 : FT150 := p150 F154 F155 F156 F157 F158
abbrev FT144 : Type 1 := (R : Type) → (List Int) → Int → Int → ((List Int) → Option R) → Option R
abbrev LT144_3 : Type 1 := (R : Type) → Int → Int → Int → (List Int) → (List Int) → (List Int) → (Int → Int → (List Int) → (List Int) → Option R) → Option R
abbrev LT144_8 : Type 1 := (R : Type) → Int → (List Int) → (List Int) → (List Int) → (List Int) → ((List Int) → (List Int) → (List Int) → Option R) → Option R
abbrev LT144_12 : Type 1 := (R : Type) → Int → (List Int) → (List Int) → (List Int) → ((List Int) → (List Int) → Option R) → Option R
def p144_3 : (R : Type) → Int → Int → Int → (List Int) → (List Int) → (List Int) → (Int → Int → Int → (List Int) → (List Int) → (List Int) → Option R) → (Int → Int → (List Int) → (List Int) → Option R) → Option R := fun R x1 x2 x3 x4 x5 x6 kc k0 =>
let v7 := (decide (x3 < (32 : Int)));
(match v7 with
| true => (match (bnd x3 (32 : Int)) with
| true => let v8 := (List.getD x4 (Int.toNat x3) (0 : Int));
let v9 : (List Int) := ([v8] : (List Int));
(match (decide (List.length x6 + List.length v9 ≤ 140737488355328)) with
| true => let v10 : (List Int) := (x6 ++ v9);
let v11 := (IntKind.i64.wrap (x3 + (1 : Int)));
kc x1 x2 v11 x4 x5 v10
| false => none)
| false => none)
| false => k0 x1 x2 x5 x6)
noncomputable def G144_3 : Nat → LT144_3
  | 0 => fun _ _ _ _ _ _ _ _ => none
  | n + 1 => fun R x1 x2 x3 x4 x5 x6 k0 => p144_3 R x1 x2 x3 x4 x5 x6 (fun x1 x2 x3 x4 x5 x6 => G144_3 n R x1 x2 x3 x4 x5 x6 k0) k0
def p144_8 : (R : Type) → Int → (List Int) → (List Int) → (List Int) → (List Int) → (Int → (List Int) → (List Int) → (List Int) → (List Int) → Option R) → ((List Int) → (List Int) → (List Int) → Option R) → Option R := fun R x1 x2 x3 x4 x5 kc k0 =>
let v6 := (decide (x1 < (8 : Int)));
(match v6 with
| true => (match (bnd x1 (8 : Int)) with
| true => let v7 := (List.getD x4 (Int.toNat x1) (0 : Int));
let v8 : (List Int) := ([v7] : (List Int));
(match (decide (List.length x3 + List.length v8 ≤ 140737488355328)) with
| true => let v9 : (List Int) := (x3 ++ v8);
let v10 := (IntKind.i64.wrap (x1 + (1 : Int)));
kc v10 x2 v9 x4 x5
| false => none)
| false => none)
| false => k0 x2 x3 x5)
noncomputable def G144_8 : Nat → LT144_8
  | 0 => fun _ _ _ _ _ _ _ => none
  | n + 1 => fun R x1 x2 x3 x4 x5 k0 => p144_8 R x1 x2 x3 x4 x5 (fun x1 x2 x3 x4 x5 => G144_8 n R x1 x2 x3 x4 x5 k0) k0
def p144_12 : (R : Type) → Int → (List Int) → (List Int) → (List Int) → (Int → (List Int) → (List Int) → (List Int) → Option R) → ((List Int) → (List Int) → Option R) → Option R := fun R x1 x2 x3 x4 kc k0 =>
let v5 := (decide (x1 < (8 : Int)));
(match v5 with
| true => (match (bnd x1 (8 : Int)) with
| true => let v6 := (List.getD x4 (Int.toNat x1) (0 : Int));
let v7 : (List Int) := ([v6] : (List Int));
(match (decide (List.length x3 + List.length v7 ≤ 140737488355328)) with
| true => let v8 : (List Int) := (x3 ++ v7);
let v9 := (IntKind.i64.wrap (x1 + (1 : Int)));
kc v9 x2 v8 x4
| false => none)
| false => none)
| false => k0 x2 x3)
noncomputable def G144_12 : Nat → LT144_12
  | 0 => fun _ _ _ _ _ _ => none
  | n + 1 => fun R x1 x2 x3 x4 k0 => p144_12 R x1 x2 x3 x4 (fun x1 x2 x3 x4 => G144_12 n R x1 x2 x3 x4 k0) k0
def p144 (F149 : FT149) (F150 : FT150) (L3 : LT144_3) (L8 : LT144_8) (L12 : LT144_12) : FT144 := fun R a0 a1 a2 k =>
L3 R a1 a2 (0 : Int) a0 (List.replicate 32 (0 : Int)) ([] : (List Int)) (fun x1 x2 x3 x4 =>
F149 R x1 fun y5 =>
F149 R x2 fun y6 =>
L8 R (0 : Int) x3 x4 y5 y6 (fun x7 x8 x9 =>
L12 R (0 : Int) x7 x8 x9 (fun x10 x11 =>
F150 R x11 fun y12 =>
k y12)))
noncomputable def F144 : FT144 := p144 F149 F150 (G144_3 FUEL) (G144_8 FUEL) (G144_12 FUEL)
abbrev FT145 : Type 1 := (R : Type) → Int → (Int → Option R) → Option R
abbrev LT145_3 : Type 1 := (R : Type) → Int → Int → Int → (Int → Option R) → Option R
def p145_3 : (R : Type) → Int → Int → Int → (Int → Int → Int → Option R) → (Int → Option R) → Option R := fun R x1 x2 x3 kc k0 =>
let v4 := (decide (x3 < x1));
(match v4 with
| true => let v5 := (IntKind.u64.wrap ((2 : Int) * x2));
let v6 := (IntKind.u64.wrap (x3 + (1 : Int)));
kc x1 v5 v6
| false => k0 x2)
noncomputable def G145_3 : Nat → LT145_3
  | 0 => fun _ _ _ _ _ => none
  | n + 1 => fun R x1 x2 x3 k0 => p145_3 R x1 x2 x3 (fun x1 x2 x3 => G145_3 n R x1 x2 x3 k0) k0
def p145 (L3 : LT145_3) : FT145 := fun R a0 k =>
L3 R a0 (1 : Int) (0 : Int) (fun x1 =>
k x1)
noncomputable def F145 : FT145 := p145 (G145_3 FUEL)
abbrev FT138 : Type 1 := (R : Type) → (List Int) → Int → Int → (Int → Option R) → Option R
def p138 (F144 : FT144) (F145 : FT145) : FT138 := fun R a0 a1 a2 k =>
let v1 := (IntKind.u64.wrap (Int.tdiv a2 (256 : Int)));
F144 R a0 a1 v1 fun y2 =>
let v3 := (Int.tmod a2 (256 : Int));
let v4 := (IntKind.u64.wrap (Int.tdiv v3 (8 : Int)));
(match (bnd v4 (32 : Int)) with
| true => let v5 := (List.getD y2 (Int.toNat v4) (0 : Int));
let v6 := (IntKind.u64.wrap v5);
let v7 := (Int.tmod a2 (8 : Int));
let v8 := (IntKind.u64.wrap ((7 : Int) - v7));
F145 R v8 fun y9 =>
(match (!(y9 == 0)) with
| true => let v10 := (IntKind.u64.wrap (Int.tdiv v6 y9));
let v11 := (Int.tmod v10 (2 : Int));
k v11
| false => none)
| false => none)
noncomputable def F138 : FT138 := p138 F144 F145
abbrev FT124 : Type 1 := (R : Type) → Tq7 → Int → (Int → Option R) → Option R
def p124 (F138 : FT138) (F139 : FT139) : FT124 := fun R a0 a1 k =>
let v1 := (a0.1 == (2 : Int));
(match v1 with
| true => F138 R a0.2.2.2.1 a0.2.2.2.2.1 a1 fun y2 =>
k y2
| false => let v3 := (IntKind.u64.wrap (Int.tdiv a1 (8 : Int)));
(match (bnd v3 (List.length a0.2.1 : Int)) with
| true => let v4 := (List.getD a0.2.1 (Int.toNat v3) (0 : Int));
let v5 := (IntKind.u32.wrap v4);
let v6 := (Int.tmod a1 (8 : Int));
let v7 := (IntKind.i64.wrap v6);
let v8 := (IntKind.i64.wrap ((7 : Int) - v7));
F139 R v5 v8 fun y9 =>
let v10 := (Int.tmod y9 (2 : Int));
let v11 := (IntKind.u64.wrap v10);
k v11
| false => none))
noncomputable def F124 : FT124 := p124 F138 F139
abbrev FT86 : Type 1 := (R : Type) → Tq7 → Int → (Int → Tq7 → Int → Option R) → Option R
abbrev LT86_7 : Type 1 := (R : Type) → Int → Int → Int → Tq7 → Tq7 → (Int → Tq7 → Tq7 → Option R) → Option R
def p86_7 (F124 : FT124) : (R : Type) → Int → Int → Int → Tq7 → Tq7 → (Int → Int → Int → Tq7 → Tq7 → Option R) → (Int → Tq7 → Tq7 → Option R) → Option R := fun R x1 x2 x3 x4 x5 kc k0 =>
let v6 := (decide (x3 < x1));
(match v6 with
| true => let v7 := (IntKind.u64.wrap ((2 : Int) * x2));
F124 R x4 x4.2.2.2.2.2.1 fun y8 =>
let v9 := (IntKind.u64.wrap (v7 + y8));
let v10 := (IntKind.u64.wrap (x4.2.2.2.2.2.1 + (1 : Int)));
let v11 := (IntKind.i64.wrap (x3 + (1 : Int)));
kc x1 v9 v11 (x4.1, x4.2.1, x4.2.2.1, x4.2.2.2.1, x4.2.2.2.2.1, v10, x4.2.2.2.2.2.2) x5
| false => k0 x2 x4 x5)
noncomputable def G86_7 : Nat → LT86_7
  | 0 => fun _ _ _ _ _ _ _ => none
  | n + 1 => fun R x1 x2 x3 x4 x5 k0 => p86_7 F124 R x1 x2 x3 x4 x5 (fun x1 x2 x3 x4 x5 => G86_7 n R x1 x2 x3 x4 x5 k0) k0
def p86 (F58 : FT58) (F123 : FT123) (L7 : LT86_7) : FT86 := fun R a0 a1 k =>
F58 R a0 fun y1 =>
(match (!y1) with
| true => k (0 : Int) a0 (1 : Int)
| false => let v2 := (decide (a1 < (0 : Int)));
(match v2 with
| true => k (0 : Int) a0 (1 : Int)
| false => let v3 := (decide (a1 > (64 : Int)));
(match v3 with
| true => k (0 : Int) a0 (1 : Int)
| false => let v4 := (IntKind.u64.wrap a1);
F123 R a0 fun y5 =>
let v6 := (decide (v4 > y5));
(match v6 with
| true => k (0 : Int) a0 (8 : Int)
| false => L7 R a1 (0 : Int) (0 : Int) a0 ((0 : Int), ([] : (List Int)), (0 : Int), (List.replicate 32 (0 : Int)), (0 : Int), (0 : Int), ()) (fun x7 x8 x9 =>
k x7 x8 (0 : Int))))))
noncomputable def F86 : FT86 := p86 F58 F123 (G86_7 FUEL)
abbrev FT46 : Type 1 := (R : Type) → Tq7 → Int → Int → (Int → Tq7 → Int → Option R) → Option R
def en46 (F : FT46) : Ent := ⟨46, [(false, Kq7), (false, (.int .u64)), (false, (.int .i64))], [(false, (.int .u64)), (false, Kq7), (false, (.int .i64))], fun R x k => F R x.1 x.2.1 x.2.2.1 (fun y1 y2 y3 => k (y1, y2, y3, ()) ())⟩
abbrev LT46_4 : Type 1 := (R : Type) → Int → Int → Int → Tq7 → Tq7 → (Int → Int → Tq7 → Option R) → (Tq7 → Tq7 → Option R) → Option R
def p46_4 (F67 : FT67) (F86 : FT86) : (R : Type) → Int → Int → Int → Tq7 → Tq7 → (Int → Int → Int → Tq7 → Tq7 → Option R) → (Int → Int → Tq7 → Option R) → (Tq7 → Tq7 → Option R) → Option R := fun R x1 x2 x3 x4 x5 kc k0 k1 =>
let v6 := (decide (x3 < x2));
(match v6 with
| true => F67 R x1 fun y7 =>
F86 R x4 y7 fun y8 y9 y10 =>
let v11 := (y10 != (0 : Int));
(match v11 with
| true => k0 (0 : Int) y10 x4
| false => let v12 := (decide (y8 < x1));
(match v12 with
| true => k0 y8 (0 : Int) y9
| false => let v13 := (IntKind.i64.wrap (x3 + (1 : Int)));
kc x1 x2 v13 y9 x5))
| false => k1 x4 x5)
noncomputable def G46_4 : Nat → LT46_4
  | 0 => fun _ _ _ _ _ _ _ _ => none
  | n + 1 => fun R x1 x2 x3 x4 x5 k0 k1 => p46_4 F67 F86 R x1 x2 x3 x4 x5 (fun x1 x2 x3 x4 x5 => G46_4 n R x1 x2 x3 x4 x5 k0 k1) k0 k1
def p46 (F58 : FT58) (L4 : LT46_4) : FT46 := fun R a0 a1 a2 k =>
F58 R a0 fun y1 =>
(match (!y1) with
| true => k (0 : Int) a0 (1 : Int)
| false => let v2 := (decide (a1 < (1 : Int)));
(match v2 with
| true => k (0 : Int) a0 (1 : Int)
| false => let v3 := (decide (a1 ≥ (9223372036854775808 : Int)));
(match v3 with
| true => k (0 : Int) a0 (1 : Int)
| false => let v4 := (decide (a2 < (1 : Int)));
(match v4 with
| true => k (0 : Int) a0 (1 : Int)
| false => let v5 := (decide (a2 > (64 : Int)));
(match v5 with
| true => k (0 : Int) a0 (1 : Int)
| false => L4 R a1 a2 (0 : Int) a0 ((0 : Int), ([] : (List Int)), (0 : Int), (List.replicate 32 (0 : Int)), (0 : Int), (0 : Int), ()) (fun x6 x7 x8 =>
k x6 x8 x7) (fun x9 x10 =>
k (0 : Int) x9 (9 : Int)))))))
noncomputable def F46 : FT46 := p46 F58 (G46_4 FUEL)
abbrev FT100 : Type 1 := (R : Type) → (List Int) → Int → (Int → Int → Option R) → Option R
def en100 (F : FT100) : Ent := ⟨100, [(false, (.sl (.int .u64))), (false, (.int .u64))], [(false, (.int .i64)), (false, (.int .i64))], fun R x k => F R x.1 x.2.1 (fun y1 y2 => k (y1, y2, ()) ())⟩
abbrev LT100_2 : Type 1 := (R : Type) → (List Int) → Int → Int → (Int → Int → Option R) → (Option R) → Option R
def p100_2 : (R : Type) → (List Int) → Int → Int → ((List Int) → Int → Int → Option R) → (Int → Int → Option R) → (Option R) → Option R := fun R x1 x2 x3 kc k0 k1 =>
let v4 := (List.length x1 : Int);
let v5 := (decide (x3 < v4));
(match v5 with
| true => (match (bnd x3 (List.length x1 : Int)) with
| true => let v6 := (List.getD x1 (Int.toNat x3) (0 : Int));
let v7 := (decide (x2 < v6));
(match v7 with
| true => k0 x3 (0 : Int)
| false => (match (bnd x3 (List.length x1 : Int)) with
| true => let v8 := (List.getD x1 (Int.toNat x3) (0 : Int));
let v9 := (IntKind.u64.wrap (x2 - v8));
let v10 := (IntKind.i64.wrap (x3 + (1 : Int)));
kc x1 v9 v10
| false => none))
| false => none)
| false => k1)
noncomputable def G100_2 : Nat → LT100_2
  | 0 => fun _ _ _ _ _ _ => none
  | n + 1 => fun R x1 x2 x3 k0 k1 => p100_2 R x1 x2 x3 (fun x1 x2 x3 => G100_2 n R x1 x2 x3 k0 k1) k0 k1
def p100 (L2 : LT100_2) : FT100 := fun R a0 a1 k =>
L2 R a0 a1 (0 : Int) (fun x1 x2 =>
k x1 x2) (k (0 : Int) (3 : Int))
noncomputable def F100 : FT100 := p100 (G100_2 FUEL)
abbrev FT24 : Type 1 := (R : Type) → (List Int) → Int → Tq7 → Int → ((List Int) → Tq7 → Int → Option R) → Option R
def en24 (F : FT24) : Ent := ⟨24, [(false, (.sl (.int .u64))), (false, (.int .i64)), (false, Kq7), (false, (.int .i64))], [(false, (.sl (.int .i64))), (false, Kq7), (false, (.int .i64))], fun R x k => F R x.1 x.2.1 x.2.2.1 x.2.2.2.1 (fun y1 y2 y3 => k (y1, y2, y3, ()) ())⟩
abbrev LT24_7 : Type 1 := (R : Type) → Int → Int → Tq7 → Tq7 → (List Int) → (List Int) → (Int → Tq7 → Option R) → (Tq7 → Tq7 → (List Int) → Option R) → Option R
def le24_7 (L : LT24_7) : LEnt := ⟨7, [.val 1 (.int .i64), .val 3 (.int .i64), .fix 6 (.ptr 0 [] Kq7), .fix 9 (.ptr 1 [] Kq7), .fix 11 (.own 2 0), .fix 12 (.own 3 0), .var 0 Kq7 false, .var 1 Kq7 false, .row 2 (.int .u64) false, .row 3 (.int .i64) false], 4, [(.ret, [.fix 8 .nil, .fix 9 (.ptr 1 [] Kq7), .val 10 (.int .i64), .var 1 Kq7 false]), (.exit 0, [.fix 6 (.ptr 0 [] Kq7), .fix 9 (.ptr 1 [] Kq7), .fix 12 (.own 3 0), .var 0 Kq7 false, .var 1 Kq7 false, .row 3 (.int .i64) false])], fun R x ke => L R x.1 x.2.1 x.2.2.1 x.2.2.2.1 x.2.2.2.2.1 x.2.2.2.2.2.1 (fun y1 y2 => ke.1 (y1, y2, ())) (fun y1 y2 y3 => ke.2.1 (y1, y2, y3, ()))⟩
noncomputable def e60i0 (F46 : FT46) (F52 : FT52) (F100 : FT100) (R : Type) : Env R := ⟨TT, EQT, 0, 47, ownOf [], callOf [en46 F46, en52 F52, en100 F100] R, fun _ _ _ => none, [], inlOf []⟩
noncomputable def e24 (F46 : FT46) (F52 : FT52) (F58 : FT58) (F59 : FT59) (F100 : FT100) (L7 : LT24_7) (R : Type) : Env R := ⟨TT, EQT, 0, 70, ownOf [(5, 0), (6, 0), (8, 3)], callOf [en46 F46, en52 F52, en58 F58, en59 F59, en100 F100] R, loopOf [le24_7 L7] R, [], inlOf [(60, xinl (e60i0 F46 F52 F100 R) (codeOf Tryz.f60) [.tmp 6, .cell 7 30, .tmp 8] 3)]⟩
def p24_7 (F46 : FT46) (F52 : FT52) (F100 : FT100) : (R : Type) → Int → Int → Tq7 → Tq7 → (List Int) → (List Int) → (Int → Int → Tq7 → Tq7 → (List Int) → (List Int) → Option R) → (Int → Tq7 → Option R) → (Tq7 → Tq7 → (List Int) → Option R) → Option R := fun R x1 x2 x3 x4 x5 x6 kc k0 k1 =>
let v7 := (List.length x6 : Int);
let v8 := (decide (v7 < x1));
(match v8 with
| true => F52 R x5 fun y9 y10 =>
(match (!y10) with
| true => k0 (11 : Int) x3
| false => let v11 := (y9 == (0 : Int));
(match v11 with
| true => k0 (10 : Int) x3
| false => F46 R x3 y9 x2 fun y12 y13 y14 =>
let v15 := (y14 != (0 : Int));
(match v15 with
| true => let v16 := (y14 != (0 : Int));
(match v16 with
| true => k0 y14 y13
| false => (match (bnd (0 : Int) (List.length x5 : Int)) with
| true => let v17 : (List Int) := (List.set x5 0 (0 : Int));
let v18 : (List Int) := ([(0 : Int)] : (List Int));
(match (decide (List.length x6 + List.length v18 ≤ 17592186044416)) with
| true => let v19 : (List Int) := (x6 ++ v18);
kc x1 x2 y13 x4 v17 v19
| false => none)
| false => none))
| false => F100 R x5 y12 fun y20 y21 =>
(match (bnd y20 (List.length x5 : Int)) with
| true => let v22 : (List Int) := (List.set x5 (Int.toNat y20) (0 : Int));
let v23 : (List Int) := ([y20] : (List Int));
(match (decide (List.length x6 + List.length v23 ≤ 17592186044416)) with
| true => let v24 : (List Int) := (x6 ++ v23);
kc x1 x2 y13 x4 v22 v24
| false => none)
| false => none))))
| false => k1 x3 x4 x6)
noncomputable def G24_7 : Nat → LT24_7
  | 0 => fun _ _ _ _ _ _ _ _ _ => none
  | n + 1 => fun R x1 x2 x3 x4 x5 x6 k0 k1 => p24_7 F46 F52 F100 R x1 x2 x3 x4 x5 x6 (fun x1 x2 x3 x4 x5 x6 => G24_7 n R x1 x2 x3 x4 x5 x6 k0 k1) k0 k1
def p24 (F58 : FT58) (F59 : FT59) (L7 : LT24_7) : FT24 := fun R a0 a1 a2 a3 k =>
let v1 := (decide (a1 < (0 : Int)));
(match v1 with
| true => k ([] : (List Int)) a2 (1 : Int)
| false => let v2 := (decide (a1 > (256 : Int)));
(match v2 with
| true => k ([] : (List Int)) a2 (1 : Int)
| false => F58 R a2 fun y3 =>
(match (!y3) with
| true => k ([] : (List Int)) a2 (1 : Int)
| false => let v4 := (decide (a3 < (1 : Int)));
(match v4 with
| true => k ([] : (List Int)) a2 (1 : Int)
| false => let v5 := (decide (a3 > (64 : Int)));
(match v5 with
| true => k ([] : (List Int)) a2 (1 : Int)
| false => F59 R a0 fun y6 =>
let v7 := (decide (y6 < a1));
(match v7 with
| true => k ([] : (List Int)) a2 (12 : Int)
| false => let v8 : (List Int) := ([] : (List Int));
(match (decide (List.length v8 + List.length a0 ≤ 17592186044416)) with
| true => let v9 : (List Int) := (v8 ++ a0);
L7 R a1 a3 a2 ((0 : Int), ([] : (List Int)), (0 : Int), (List.replicate 32 (0 : Int)), (0 : Int), (0 : Int), ()) v9 ([] : (List Int)) (fun x10 x11 =>
k ([] : (List Int)) x11 x10) (fun x12 x13 x14 =>
k x14 x12 (0 : Int))
| false => none)))))))
noncomputable def F24 : FT24 := p24 F58 F59 (G24_7 FUEL)
abbrev FT20 : Type 1 := (R : Type) → (List Int) → Int → Tq7 → Int → ((List Int) → Tq7 → Int → Option R) → Option R
def en20 (F : FT20) : Ent := ⟨20, [(false, (.sl (.int .u64))), (false, (.int .i64)), (false, Kq7), (false, (.int .i64))], [(false, (.sl (.int .i64))), (false, Kq7), (false, (.int .i64))], fun R x k => F R x.1 x.2.1 x.2.2.1 x.2.2.2.1 (fun y1 y2 y3 => k (y1, y2, y3, ()) ())⟩
def p20 (F24 : FT24) (F51 : FT51) : FT20 := fun R a0 a1 a2 a3 k =>
F51 R a0 fun y1 y2 =>
let v3 := (y2 != (0 : Int));
(match v3 with
| true => k ([] : (List Int)) a2 y2
| false => F24 R a0 a1 a2 a3 fun y4 y5 y6 =>
k y4 y5 y6)
noncomputable def F20 : FT20 := p20 F24 F51
abbrev FT14 : Type 1 := (R : Type) → Tq7 → Tq7 → (Bool → Option R) → Option R
def en14 (F : FT14) : Ent := ⟨14, [(false, Kq7), (false, Kq7)], [(false, .bool)], fun R x k => F R x.1 x.2.1 (fun y1 => k (y1, ()) ())⟩
def p14 : FT14 := fun R a0 a1 k =>
let v1 := (a0.1 == a1.1);
(match v1 with
| true => let v2 : ByteArray := (strOf a0.2.1);
let v3 : ByteArray := (strOf a1.2.1);
let v4 := (ByteArray.toList v2 == ByteArray.toList v3);
(match v4 with
| true => let v5 := (a0.2.2.1 == a1.2.2.1);
(match v5 with
| true => let v6 := (Kd.eqv (.arr 32 (.int .u8)) a0.2.2.2.1 a1.2.2.2.1);
(match v6 with
| true => let v7 := (a0.2.2.2.2.1 == a1.2.2.2.2.1);
(match v7 with
| true => let v8 := (a0.2.2.2.2.2.1 == a1.2.2.2.2.2.1);
k v8
| false => k false)
| false => k false)
| false => k false)
| false => k false)
| false => k false)
noncomputable def F14 : FT14 := p14
end Go.PG
set_option maxRecDepth 100000
namespace Go.PG
open Go.Proofs
abbrev FT5 : Type 1 := (R : Type) → (List Int) → Int → Tq7 → (Bool → Option R) → Option R
def en5 (F : FT5) : Ent := ⟨5, [(false, (.sl (.int .u64))), (false, (.int .i64)), (false, Kq7)], [(false, .bool)], fun R x k => F R x.1 x.2.1 x.2.2.1 (fun y1 => k (y1, ()) ())⟩
def res5 : List (ResultVar × TypeId × Bool) := [(.tmp 6, 4, false)]
abbrev LT5_7 : Type 1 := (R : Type) → (List Int) → Int → Int → Tq7 → (List Int) → (Bool → Option R) → ((List Int) → (List Int) → Option R) → Option R
def le5_7 (L : LT5_7) : LEnt := ⟨7, [.val 0 (.sl (.int .u64)), .val 1 (.int .i64), .fix 5 (.ptr 0 [] Kq7), .fix 7 (.own 1 0), .val 8 (.int .i64), .var 0 Kq7 false, .row 1 (.int .u64) true], 2, [(.ret, [.val 6 .bool]), (.exit 0, [.val 0 (.sl (.int .u64)), .fix 7 (.own 1 0), .row 1 (.int .u64) true])], fun R x ke => L R x.1 x.2.1 x.2.2.1 x.2.2.2.1 x.2.2.2.2.1 (fun y1 => ke.1 (y1, ())) (fun y1 y2 => ke.2.1 (y1, y2, ()))⟩
abbrev LT5_14 : Type 1 := (R : Type) → (List Int) → Int → (List Int) → (Bool → Option R) → (Option R) → Option R
def le5_14 (L : LT5_14) : LEnt := ⟨14, [.val 0 (.sl (.int .u64)), .fix 7 (.own 1 0), .val 15 (.int .i64), .row 1 (.int .u64) true], 2, [(.ret, [.val 6 .bool]), (.exit 2, [])], fun R x ke => L R x.1 x.2.1 x.2.2.1 (fun y1 => ke.1 (y1, ())) (ke.2.1 ())⟩
noncomputable def e5 (F14 : FT14) (F15 : FT15) (F18 : FT18) (F19 : FT19) (F20 : FT20) (F21 : FT21) (L7 : LT5_7) (L14 : LT5_14) (R : Type) : Env R := ⟨TT, EQT, 0, 76, ownOf [(5, 0)], callOf [en14 F14, en15 F15, en18 F18, en19 F19, en20 F20, en21 F21] R, loopOf [le5_7 L7, le5_14 L14] R, [], inlOf []⟩
def p5 (F15 : FT15) (F18 : FT18) (L7 : LT5_7) (L14 : LT5_14) : FT5 := fun R a0 a1 a2 k =>
F18 R  fun y1 =>
(match (!y1) with
| true => k false
| false => F15 R a0 a2 fun y2 =>
(match y2 with
| true => k true
| false => let v3 : (List Int) := ([] : (List Int));
(match (decide (List.length v3 + List.length a0 ≤ 17592186044416)) with
| true => let v4 : (List Int) := (v3 ++ a0);
L7 R a0 a1 (0 : Int) a2 v4 (fun x5 =>
k x5) (fun x6 x7 =>
L14 R x6 (0 : Int) x7 (fun x8 =>
k x8) (k true))
| false => none)))
theorem q5 (F14 : FT14) (F15 : FT15) (F18 : FT18) (F19 : FT19) (F20 : FT20) (F21 : FT21) (L7 : LT5_7) (L14 : LT5_14) (F : FT5) (R : Type) (x : AT (en5 F).ins) (k : RT (en5 F).outs → PT (en5 F).ins → Option R) :
  xfun (e5 F14 F15 F18 F19 F20 F21 L7 L14 R) (codeOf Tryz.f5) res5 (avs (en5 F).ins x) (finK (en5 F).outs (en5 F).ins k) = p5 F15 F18 L7 L14 R x.1 x.2.1 x.2.2.1 (fun y1 => k (y1, ()) ()) := by kernel_rfl
abbrev FT22 : Type 1 := (R : Type) → (List Int) → (((List Int) × Unit) → Int → Option R) → Option R
def en22 (F : FT22) : Ent := ⟨22, [(false, (.sl (.int .u64)))], [(false, (.pair (.sl (.int .u64)) .unit)), (false, (.int .i64))], fun R x k => F R x.1 (fun y1 y2 => k (y1, y2, ()) ())⟩
def p22 (F26 : FT26) (F52 : FT52) : FT22 := fun R a0 k =>
let v1 := (List.length a0 : Int);
let v2 := (decide (v1 > (1048576 : Int)));
(match v2 with
| true => k (([] : (List Int)), ()) (14 : Int)
| false => F52 R a0 fun y3 y4 =>
(match (!y4) with
| true => k (([] : (List Int)), ()) (11 : Int)
| false => F26 R a0 fun y5 =>
k y5 (0 : Int)))
noncomputable def F22 : FT22 := p22 F26 F52
abbrev FT61 : Type 1 := (R : Type) → (List Int) → (List Int) → (Bool → Option R) → Option R
abbrev LT61_4 : Type 1 := (R : Type) → (List Int) → (List Int) → Int → (Bool → Option R) → (Option R) → Option R
def p61_4 : (R : Type) → (List Int) → (List Int) → Int → ((List Int) → (List Int) → Int → Option R) → (Bool → Option R) → (Option R) → Option R := fun R x1 x2 x3 kc k0 k1 =>
let v4 := (List.length x1 : Int);
let v5 := (decide (x3 < v4));
(match v5 with
| true => (match (bnd x3 (List.length x1 : Int)) with
| true => let v6 := (List.getD x1 (Int.toNat x3) (0 : Int));
(match (bnd x3 (List.length x2 : Int)) with
| true => let v7 := (List.getD x2 (Int.toNat x3) (0 : Int));
let v8 := (v6 != v7);
(match v8 with
| true => k0 false
| false => let v9 := (IntKind.i64.wrap (x3 + (1 : Int)));
kc x1 x2 v9)
| false => none)
| false => none)
| false => k1)
noncomputable def G61_4 : Nat → LT61_4
  | 0 => fun _ _ _ _ _ _ => none
  | n + 1 => fun R x1 x2 x3 k0 k1 => p61_4 R x1 x2 x3 (fun x1 x2 x3 => G61_4 n R x1 x2 x3 k0 k1) k0 k1
def p61 (L4 : LT61_4) : FT61 := fun R a0 a1 k =>
let v1 := (List.length a0 : Int);
let v2 := (List.length a1 : Int);
let v3 := (v1 != v2);
(match v3 with
| true => k false
| false => L4 R a0 a1 (0 : Int) (fun x4 =>
k x4) (k true))
noncomputable def F61 : FT61 := p61 (G61_4 FUEL)
abbrev FT25 : Type 1 := (R : Type) → ((List Int) × Unit) → ((List Int) × Unit) → (Bool → Option R) → Option R
def en25 (F : FT25) : Ent := ⟨25, [(false, (.pair (.sl (.int .u64)) .unit)), (false, (.pair (.sl (.int .u64)) .unit))], [(false, .bool)], fun R x k => F R x.1 x.2.1 (fun y1 => k (y1, ()) ())⟩
def p25 (F61 : FT61) : FT25 := fun R a0 a1 k =>
F61 R a0.1 a1.1 fun y1 =>
k y1
noncomputable def F25 : FT25 := p25 F61
abbrev FT6 : Type 1 := (R : Type) → (List Int) → Int → Tq7 → (Bool → Option R) → Option R
def en6 (F : FT6) : Ent := ⟨6, [(false, (.sl (.int .u64))), (false, (.int .i64)), (false, Kq7)], [(false, .bool)], fun R x k => F R x.1 x.2.1 x.2.2.1 (fun y1 => k (y1, ()) ())⟩
def res6 : List (ResultVar × TypeId × Bool) := [(.tmp 6, 4, false)]
noncomputable def e6 (F14 : FT14) (F15 : FT15) (F18 : FT18) (F21 : FT21) (F22 : FT22) (F23 : FT23) (F24 : FT24) (F25 : FT25) (F26 : FT26) (R : Type) : Env R := ⟨TT, EQT, 0, 62, ownOf [], callOf [en14 F14, en15 F15, en18 F18, en21 F21, en22 F22, en23 F23, en24 F24, en25 F25, en26 F26] R, loopOf [] R, [], inlOf []⟩
def p6 (F14 : FT14) (F15 : FT15) (F18 : FT18) (F21 : FT21) (F22 : FT22) (F23 : FT23) (F24 : FT24) (F25 : FT25) (F26 : FT26) : FT6 := fun R a0 a1 a2 k =>
F18 R  fun y1 =>
(match (!y1) with
| true => k false
| false => F15 R a0 a2 fun y2 =>
(match y2 with
| true => k true
| false => F22 R a0 fun y3 y4 =>
let v5 := (y4 != (0 : Int));
(match v5 with
| true => k true
| false => F23 R y3 a1 a2 (64 : Int) fun y6 y7 y8 =>
F24 R a0 a1 a2 (64 : Int) fun y9 y10 y11 =>
F21 R y6 y9 fun y12 =>
(match y12 with
| true => F14 R y7 y10 fun y13 =>
(match y13 with
| true => let v14 := (y8 == y11);
(match v14 with
| true => F26 R a0 fun y15 =>
F25 R y3 y15 fun y16 =>
k y16
| false => k false)
| false => k false)
| false => k false))))
theorem q6 (F14 : FT14) (F15 : FT15) (F18 : FT18) (F21 : FT21) (F22 : FT22) (F23 : FT23) (F24 : FT24) (F25 : FT25) (F26 : FT26) (F : FT6) (R : Type) (x : AT (en6 F).ins) (k : RT (en6 F).outs → PT (en6 F).ins → Option R) :
  xfun (e6 F14 F15 F18 F21 F22 F23 F24 F25 F26 R) (codeOf Tryz.f6) res6 (avs (en6 F).ins x) (finK (en6 F).outs (en6 F).ins k) = p6 F14 F15 F18 F21 F22 F23 F24 F25 F26 R x.1 x.2.1 x.2.2.1 (fun y1 => k (y1, ()) ()) := by kernel_rfl
abbrev FT68 : Type 1 := (R : Type) → Int → ((List Int) → Int → Option R) → Option R
def en68 (F : FT68) : Ent := ⟨68, [(false, (.int .i64))], [(false, (.sl (.int .u32))), (false, (.int .i64))], fun R x k => F R x.1 (fun y1 y2 => k (y1, y2, ()) ())⟩
def res68 : List (ResultVar × TypeId × Bool) := [(.tmp 2, 57, false), (.tmp 3, 32, false)]
abbrev LT68_6 : Type 1 := (R : Type) → Int → Int → Int → (List Int) → (Int → Int → (List Int) → Option R) → Option R
def le68_6 (L : LT68_6) : LEnt := ⟨6, [.val 0 (.int .i64), .fix 4 (.own 0 0), .val 5 (.int .u32), .val 6 (.int .i64), .row 0 (.int .u32) false], 1, [(.exit 0, [.val 0 (.int .i64), .fix 4 (.own 0 0), .val 5 (.int .u32), .row 0 (.int .u32) false])], fun R x ke => L R x.1 x.2.1 x.2.2.1 x.2.2.2.1 (fun y1 y2 y3 => ke.1 (y1, y2, y3, ()))⟩
noncomputable def e68 (L6 : LT68_6) (R : Type) : Env R := ⟨TT, EQT, 0, 31, ownOf [], callOf [] R, loopOf [le68_6 L6] R, [], inlOf []⟩
def p68_6 : (R : Type) → Int → Int → Int → (List Int) → (Int → Int → Int → (List Int) → Option R) → (Int → Int → (List Int) → Option R) → Option R := fun R x1 x2 x3 x4 kc k0 =>
let v5 := (Int.tmod x1 (32 : Int));
let v6 := (decide (x3 < v5));
(match v6 with
| true => let v7 := (IntKind.u32.wrap ((2 : Int) * x2));
let v8 := (IntKind.i64.wrap (x3 + (1 : Int)));
kc x1 v7 v8 x4
| false => k0 x1 x2 x4)
theorem q68_6 (L6 : LT68_6) (R : Type) (x : HT (le68_6 L6).H) (kc : HT (le68_6 L6).H → Option R) (ke : KT R (le68_6 L6).exs) :
  exec (e68 L6 R) (lcode 6 (codeOf Tryz.f68)) (stOf (le68_6 L6).H x 1) (roundK (le68_6 L6).H (le68_6 L6).exs kc ke) =
    p68_6 R x.1 x.2.1 x.2.2.1 x.2.2.2.1 (fun x1 x2 x3 x4 => kc (x1, x2, x3, x4, ())) (fun y1 y2 y3 => ke.1 (y1, y2, y3, ())) := by kernel_rfl
noncomputable def G68_6 : Nat → LT68_6
  | 0 => fun _ _ _ _ _ _ => none
  | n + 1 => fun R x1 x2 x3 x4 k0 => p68_6 R x1 x2 x3 x4 (fun x1 x2 x3 x4 => G68_6 n R x1 x2 x3 x4 k0) k0
def p68 (L6 : LT68_6) : FT68 := fun R a0 k =>
let v1 := (decide (a0 < (0 : Int)));
(match v1 with
| true => k ([] : (List Int)) (1 : Int)
| false => let v2 := (decide (a0 > (8191 : Int)));
(match v2 with
| true => k ([] : (List Int)) (1 : Int)
| false => let v3 := (IntKind.i64.wrap (Int.tdiv a0 (32 : Int)));
let v4 := (IntKind.i64.wrap (v3 + (1 : Int)));
(match (decide (0 ≤ v4 ∧ v4 ≤ v4 ∧ v4 ≤ (35184372088832 : Int))) with
| true => let v5 : (List Int) := (List.replicate (Int.toNat v4) (0 : Int));
L6 R a0 (1 : Int) (0 : Int) v5 (fun x6 x7 x8 =>
let v9 := (IntKind.i64.wrap (Int.tdiv x6 (32 : Int)));
(match (bnd v9 (List.length x8 : Int)) with
| true => let v10 : (List Int) := (List.set x8 (Int.toNat v9) x7);
k v10 (0 : Int)
| false => none))
| false => none)))
theorem q68 (L6 : LT68_6) (F : FT68) (R : Type) (x : AT (en68 F).ins) (k : RT (en68 F).outs → PT (en68 F).ins → Option R) :
  xfun (e68 L6 R) (codeOf Tryz.f68) res68 (avs (en68 F).ins x) (finK (en68 F).outs (en68 F).ins k) = p68 L6 R x.1 (fun y1 y2 => k (y1, y2, ()) ()) := by kernel_rfl
noncomputable def F68 : FT68 := p68 (G68_6 FUEL)
theorem env68 (R : Type) : EnvOK Tryz.prog (e68 (G68_6 FUEL) R) := ⟨tabOK, eqOK, callOf_ok allE_nil, noIns, inlOK_nil⟩
noncomputable def T68_6 : (R : Type) → HT (le68_6 (G68_6 FUEL)).H → (HT (le68_6 (G68_6 FUEL)).H → Option R) → KT R (le68_6 (G68_6 FUEL)).exs → Option R := fun R x kc ke => p68_6 R x.1 x.2.1 x.2.2.1 x.2.2.2.1 (fun x1 x2 x3 x4 => kc (x1, x2, x3, x4, ())) (fun y1 y2 y3 => ke.1 (y1, y2, y3, ()))
theorem it68_6 : ∀ (n : Nat) (R : Type) (x : HT (le68_6 (G68_6 FUEL)).H) (ke : KT R (le68_6 (G68_6 FUEL)).exs), iter T68_6 n R x ke = G68_6 n R x.1 x.2.1 x.2.2.1 x.2.2.2.1 (fun y1 y2 y3 => ke.1 (y1, y2, y3, ())) := by
  intro n
  induction n with
  | zero => intro R x ke; rfl
  | succ n ih =>
    intro R x ke
    show T68_6 R x (fun x' => iter T68_6 n R x' ke) ke = _
    rw [show (fun x' => iter T68_6 n R x' ke) = fun x => G68_6 n R x.1 x.2.1 x.2.2.1 x.2.2.2.1 (fun y1 y2 y3 => ke.1 (y1, y2, y3, ())) from funext fun x' => ih R x' ke]
    rfl
theorem lok68_6 : (le68_6 (G68_6 FUEL)).OK Tryz.prog 0 31 (lcode 6 (codeOf Tryz.f68)) := fun R x ke r h =>
  iter_sound (fun R => e68 (G68_6 FUEL) R) 0 31 (fun _ => rfl) (fun _ => rfl) (fun R => env68 R) mixed (by
    intro R
    rw [show loopsOf (lcode 6 (codeOf Tryz.f68)) = [] from by kernel_rfl]
    exact allM_nil) (T := T68_6) (fun R x kc ke => q68_6 (G68_6 FUEL) R x kc ke) FUEL R x ke r ((it68_6 FUEL R x ke).trans h)
theorem ok68 : (en68 F68).OK Tryz.prog :=
  ent_ok (Ef := fun R => e68 (G68_6 FUEL) R) (fun R => env68 R) mixed Tryz.func68 (body := codeOf Tryz.f68) (by kernel_rfl) (by kernel_rfl) (np := 0) (nt := 31) (fun _ => rfl) (fun _ => rfl) (by kernel_rfl) (res := res68) (by kernel_rfl) (fun _ => rfl) (fun _ => Nat.le_of_ble_eq_true rfl) (by
    intro R
    rw [show loopsOf (codeOf Tryz.f68) = [lcode 6 (codeOf Tryz.f68)] from by kernel_rfl]
    exact (allM_cons (loop_ok2 (e := le68_6 (G68_6 FUEL)) rfl rfl lok68_6) allM_nil)) (fun R x k => q68 (G68_6 FUEL) F68 R x k)
abbrev FT112 : Type 1 := (R : Type) → (List Int) → ((List Int) → Option R) → Option R
def en112 (F : FT112) : Ent := ⟨112, [(false, (.sl (.int .u32)))], [(false, (.sl (.int .u32)))], fun R x k => F R x.1 (fun y1 => k (y1, ()) ())⟩
def res112 : List (ResultVar × TypeId × Bool) := [(.tmp 2, 57, false)]
abbrev LT112_1 : Type 1 := (R : Type) → (List Int) → ((List Int) → Option R) → Option R
def le112_1 (L : LT112_1) : LEnt := ⟨1, [.val 0 (.sl (.int .u32))], 0, [(.exit 0, [.val 0 (.sl (.int .u32))])], fun R x ke => L R x.1 (fun y1 => ke.1 (y1, ()))⟩
noncomputable def e112 (L1 : LT112_1) (R : Type) : Env R := ⟨TT, EQT, 0, 21, ownOf [], callOf [] R, loopOf [le112_1 L1] R, [], inlOf []⟩
def p112_1 : (R : Type) → (List Int) → ((List Int) → Option R) → ((List Int) → Option R) → Option R := fun R x1 kc k0 =>
let v2 := (List.length x1 : Int);
let v3 := (decide (v2 > (0 : Int)));
(match v3 with
| true => let v4 := (List.length x1 : Int);
let v5 := (IntKind.i64.wrap (v4 - (1 : Int)));
(match (bnd v5 (List.length x1 : Int)) with
| true => let v6 := (List.getD x1 (Int.toNat v5) (0 : Int));
let v7 := (v6 == (0 : Int));
(match v7 with
| true => let v8 := (List.length x1 : Int);
let v9 := (IntKind.i64.wrap (v8 - (1 : Int)));
(match (decide (0 ≤ (0 : Int) ∧ (0 : Int) ≤ v9 ∧ v9 ≤ v9 ∧ v9 ≤ (List.length x1 : Int))) with
| true => let v10 : (List Int) := (List.take (Int.toNat (v9 - (0 : Int))) (List.drop 0 x1));
kc v10
| false => none)
| false => k0 x1)
| false => none)
| false => k0 x1)
theorem q112_1 (L1 : LT112_1) (R : Type) (x : HT (le112_1 L1).H) (kc : HT (le112_1 L1).H → Option R) (ke : KT R (le112_1 L1).exs) :
  exec (e112 L1 R) (lcode 1 (codeOf Tryz.f112)) (stOf (le112_1 L1).H x 0) (roundK (le112_1 L1).H (le112_1 L1).exs kc ke) =
    p112_1 R x.1 (fun x1 => kc (x1, ())) (fun y1 => ke.1 (y1, ())) := by kernel_rfl
noncomputable def G112_1 : Nat → LT112_1
  | 0 => fun _ _ _ => none
  | n + 1 => fun R x1 k0 => p112_1 R x1 (fun x1 => G112_1 n R x1 k0) k0
def p112 (L1 : LT112_1) : FT112 := fun R a0 k =>
L1 R a0 (fun x1 =>
k x1)
theorem q112 (L1 : LT112_1) (F : FT112) (R : Type) (x : AT (en112 F).ins) (k : RT (en112 F).outs → PT (en112 F).ins → Option R) :
  xfun (e112 L1 R) (codeOf Tryz.f112) res112 (avs (en112 F).ins x) (finK (en112 F).outs (en112 F).ins k) = p112 L1 R x.1 (fun y1 => k (y1, ()) ()) := by kernel_rfl
noncomputable def F112 : FT112 := p112 (G112_1 FUEL)
theorem env112 (R : Type) : EnvOK Tryz.prog (e112 (G112_1 FUEL) R) := ⟨tabOK, eqOK, callOf_ok allE_nil, noIns, inlOK_nil⟩
noncomputable def T112_1 : (R : Type) → HT (le112_1 (G112_1 FUEL)).H → (HT (le112_1 (G112_1 FUEL)).H → Option R) → KT R (le112_1 (G112_1 FUEL)).exs → Option R := fun R x kc ke => p112_1 R x.1 (fun x1 => kc (x1, ())) (fun y1 => ke.1 (y1, ()))
theorem it112_1 : ∀ (n : Nat) (R : Type) (x : HT (le112_1 (G112_1 FUEL)).H) (ke : KT R (le112_1 (G112_1 FUEL)).exs), iter T112_1 n R x ke = G112_1 n R x.1 (fun y1 => ke.1 (y1, ())) := by
  intro n
  induction n with
  | zero => intro R x ke; rfl
  | succ n ih =>
    intro R x ke
    show T112_1 R x (fun x' => iter T112_1 n R x' ke) ke = _
    rw [show (fun x' => iter T112_1 n R x' ke) = fun x => G112_1 n R x.1 (fun y1 => ke.1 (y1, ())) from funext fun x' => ih R x' ke]
    rfl
theorem lok112_1 : (le112_1 (G112_1 FUEL)).OK Tryz.prog 0 21 (lcode 1 (codeOf Tryz.f112)) := fun R x ke r h =>
  iter_sound (fun R => e112 (G112_1 FUEL) R) 0 21 (fun _ => rfl) (fun _ => rfl) (fun R => env112 R) mixed (by
    intro R
    rw [show loopsOf (lcode 1 (codeOf Tryz.f112)) = [] from by kernel_rfl]
    exact allM_nil) (T := T112_1) (fun R x kc ke => q112_1 (G112_1 FUEL) R x kc ke) FUEL R x ke r ((it112_1 FUEL R x ke).trans h)
theorem ok112 : (en112 F112).OK Tryz.prog :=
  ent_ok (Ef := fun R => e112 (G112_1 FUEL) R) (fun R => env112 R) mixed Tryz.func112 (body := codeOf Tryz.f112) (by kernel_rfl) (by kernel_rfl) (np := 0) (nt := 21) (fun _ => rfl) (fun _ => rfl) (by kernel_rfl) (res := res112) (by kernel_rfl) (fun _ => rfl) (fun _ => Nat.le_of_ble_eq_true rfl) (by
    intro R
    rw [show loopsOf (codeOf Tryz.f112) = [lcode 1 (codeOf Tryz.f112)] from by kernel_rfl]
    exact (allM_cons (loop_ok2 (e := le112_1 (G112_1 FUEL)) rfl rfl lok112_1) allM_nil)) (fun R x k => q112 (G112_1 FUEL) F112 R x k)
abbrev FT70 : Type 1 := (R : Type) → Int → ((List Int) → Option R) → Option R
def en70 (F : FT70) : Ent := ⟨70, [(false, (.int .u64))], [(false, (.sl (.int .u32)))], fun R x k => F R x.1 (fun y1 => k (y1, ()) ())⟩
def res70 : List (ResultVar × TypeId × Bool) := [(.tmp 2, 57, false)]
noncomputable def e70 (F112 : FT112) (R : Type) : Env R := ⟨TT, EQT, 0, 11, ownOf [], callOf [en112 F112] R, loopOf [] R, [], inlOf []⟩
def p70 (F112 : FT112) : FT70 := fun R a0 k =>
let v1 := (Int.tmod a0 (4294967296 : Int));
let v2 := (IntKind.u32.wrap v1);
let v3 := (IntKind.u64.wrap (Int.tdiv a0 (4294967296 : Int)));
let v4 := (IntKind.u32.wrap v3);
let v5 : (List Int) := ([v2, v4] : (List Int));
F112 R v5 fun y6 =>
k y6
theorem q70 (F112 : FT112) (F : FT70) (R : Type) (x : AT (en70 F).ins) (k : RT (en70 F).outs → PT (en70 F).ins → Option R) :
  xfun (e70 F112 R) (codeOf Tryz.f70) res70 (avs (en70 F).ins x) (finK (en70 F).outs (en70 F).ins k) = p70 F112 R x.1 (fun y1 => k (y1, ()) ()) := by kernel_rfl
noncomputable def F70 : FT70 := p70 F112
theorem env70 (R : Type) : EnvOK Tryz.prog (e70 F112 R) := ⟨tabOK, eqOK, callOf_ok (allE_cons ok112 allE_nil), noIns, inlOK_nil⟩
theorem ok70 : (en70 F70).OK Tryz.prog :=
  ent_ok (Ef := fun R => e70 F112 R) (fun R => env70 R) mixed Tryz.func70 (body := codeOf Tryz.f70) (by kernel_rfl) (by kernel_rfl) (np := 0) (nt := 11) (fun _ => rfl) (fun _ => rfl) (by kernel_rfl) (res := res70) (by kernel_rfl) (fun _ => rfl) (fun _ => Nat.le_of_ble_eq_true rfl) (by
    intro R
    rw [show loopsOf (codeOf Tryz.f70) = [] from by kernel_rfl]
    exact allM_nil) (fun R x k => q70 F112 F70 R x k)
abbrev FT109 : Type 1 := (R : Type) → (List Int) → (Bool → Option R) → Option R
def en109 (F : FT109) : Ent := ⟨109, [(false, (.sl (.int .u32)))], [(false, .bool)], fun R x k => F R x.1 (fun y1 => k (y1, ()) ())⟩
def res109 : List (ResultVar × TypeId × Bool) := [(.tmp 2, 4, false)]
noncomputable def e109 (R : Type) : Env R := ⟨TT, EQT, 0, 20, ownOf [], callOf [] R, loopOf [] R, [], inlOf []⟩
def p109 : FT109 := fun R a0 k =>
let v1 := (List.length a0 : Int);
let v2 := (decide (v1 ≤ (256 : Int)));
(match v2 with
| true => let v3 := (List.length a0 : Int);
let v4 := (v3 == (0 : Int));
(match v4 with
| true => k true
| false => let v5 := (List.length a0 : Int);
let v6 := (IntKind.i64.wrap (v5 - (1 : Int)));
(match (bnd v6 (List.length a0 : Int)) with
| true => let v7 := (List.getD a0 (Int.toNat v6) (0 : Int));
let v8 := (v7 != (0 : Int));
k v8
| false => none))
| false => k false)
theorem q109 (F : FT109) (R : Type) (x : AT (en109 F).ins) (k : RT (en109 F).outs → PT (en109 F).ins → Option R) :
  xfun (e109 R) (codeOf Tryz.f109) res109 (avs (en109 F).ins x) (finK (en109 F).outs (en109 F).ins k) = p109 R x.1 (fun y1 => k (y1, ()) ()) := by kernel_rfl
noncomputable def F109 : FT109 := p109
theorem env109 (R : Type) : EnvOK Tryz.prog (e109 R) := ⟨tabOK, eqOK, callOf_ok allE_nil, noIns, inlOK_nil⟩
theorem ok109 : (en109 F109).OK Tryz.prog :=
  ent_ok (Ef := fun R => e109 R) (fun R => env109 R) mixed Tryz.func109 (body := codeOf Tryz.f109) (by kernel_rfl) (by kernel_rfl) (np := 0) (nt := 20) (fun _ => rfl) (fun _ => rfl) (by kernel_rfl) (res := res109) (by kernel_rfl) (fun _ => rfl) (fun _ => Nat.le_of_ble_eq_true rfl) (by
    intro R
    rw [show loopsOf (codeOf Tryz.f109) = [] from by kernel_rfl]
    exact allM_nil) (fun R x k => q109 F109 R x k)
abbrev FT110 : Type 1 := (R : Type) → (List Int) → (List Int) → (Int → Option R) → Option R
def en110 (F : FT110) : Ent := ⟨110, [(false, (.sl (.int .u32))), (false, (.sl (.int .u32)))], [(false, (.int .i64))], fun R x k => F R x.1 x.2.1 (fun y1 => k (y1, ()) ())⟩
def res110 : List (ResultVar × TypeId × Bool) := [(.tmp 4, 3, false)]
abbrev LT110_8 : Type 1 := (R : Type) → (List Int) → (List Int) → Int → (Int → Option R) → (Option R) → Option R
def le110_8 (L : LT110_8) : LEnt := ⟨8, [.val 0 (.sl (.int .u32)), .val 1 (.sl (.int .u32)), .val 5 (.int .i64)], 0, [(.ret, [.val 4 (.int .i64)]), (.exit 0, [])], fun R x ke => L R x.1 x.2.1 x.2.2.1 (fun y1 => ke.1 (y1, ())) (ke.2.1 ())⟩
noncomputable def e110 (F109 : FT109) (L8 : LT110_8) (R : Type) : Env R := ⟨TT, EQT, 0, 49, ownOf [], callOf [en109 F109] R, loopOf [le110_8 L8] R, [], inlOf []⟩
def p110_8 : (R : Type) → (List Int) → (List Int) → Int → ((List Int) → (List Int) → Int → Option R) → (Int → Option R) → (Option R) → Option R := fun R x1 x2 x3 kc k0 k1 =>
let v4 := (decide (x3 ≥ (0 : Int)));
(match v4 with
| true => (match (bnd x3 (List.length x1 : Int)) with
| true => let v5 := (List.getD x1 (Int.toNat x3) (0 : Int));
(match (bnd x3 (List.length x2 : Int)) with
| true => let v6 := (List.getD x2 (Int.toNat x3) (0 : Int));
let v7 := (decide (v5 < v6));
(match v7 with
| true => k0 (-1 : Int)
| false => (match (bnd x3 (List.length x1 : Int)) with
| true => let v8 := (List.getD x1 (Int.toNat x3) (0 : Int));
(match (bnd x3 (List.length x2 : Int)) with
| true => let v9 := (List.getD x2 (Int.toNat x3) (0 : Int));
let v10 := (decide (v8 > v9));
(match v10 with
| true => k0 (1 : Int)
| false => let v11 := (IntKind.i64.wrap (x3 - (1 : Int)));
kc x1 x2 v11)
| false => none)
| false => none))
| false => none)
| false => none)
| false => k1)
theorem q110_8 (F109 : FT109) (L8 : LT110_8) (R : Type) (x : HT (le110_8 L8).H) (kc : HT (le110_8 L8).H → Option R) (ke : KT R (le110_8 L8).exs) :
  exec (e110 F109 L8 R) (lcode 8 (codeOf Tryz.f110)) (stOf (le110_8 L8).H x 0) (roundK (le110_8 L8).H (le110_8 L8).exs kc ke) =
    p110_8 R x.1 x.2.1 x.2.2.1 (fun x1 x2 x3 => kc (x1, x2, x3, ())) (fun y1 => ke.1 (y1, ())) (ke.2.1 ()) := by kernel_rfl
noncomputable def G110_8 : Nat → LT110_8
  | 0 => fun _ _ _ _ _ _ => none
  | n + 1 => fun R x1 x2 x3 k0 k1 => p110_8 R x1 x2 x3 (fun x1 x2 x3 => G110_8 n R x1 x2 x3 k0 k1) k0 k1
def p110 (F109 : FT109) (L8 : LT110_8) : FT110 := fun R a0 a1 k =>
F109 R a0 fun y1 =>
(match (!y1) with
| true => k (0 : Int)
| false => F109 R a1 fun y2 =>
(match (!y2) with
| true => k (0 : Int)
| false => let v3 := (List.length a0 : Int);
let v4 := (List.length a1 : Int);
let v5 := (v3 != v4);
(match v5 with
| true => let v6 := (List.length a0 : Int);
let v7 := (List.length a1 : Int);
let v8 := (decide (v6 < v7));
(match v8 with
| true => k (-1 : Int)
| false => k (1 : Int))
| false => let v9 := (List.length a0 : Int);
let v10 := (IntKind.i64.wrap (v9 - (1 : Int)));
L8 R a0 a1 v10 (fun x11 =>
k x11) (k (0 : Int)))))
theorem q110 (F109 : FT109) (L8 : LT110_8) (F : FT110) (R : Type) (x : AT (en110 F).ins) (k : RT (en110 F).outs → PT (en110 F).ins → Option R) :
  xfun (e110 F109 L8 R) (codeOf Tryz.f110) res110 (avs (en110 F).ins x) (finK (en110 F).outs (en110 F).ins k) = p110 F109 L8 R x.1 x.2.1 (fun y1 => k (y1, ()) ()) := by kernel_rfl
noncomputable def F110 : FT110 := p110 F109 (G110_8 FUEL)
theorem env110 (R : Type) : EnvOK Tryz.prog (e110 F109 (G110_8 FUEL) R) := ⟨tabOK, eqOK, callOf_ok (allE_cons ok109 allE_nil), noIns, inlOK_nil⟩
noncomputable def T110_8 : (R : Type) → HT (le110_8 (G110_8 FUEL)).H → (HT (le110_8 (G110_8 FUEL)).H → Option R) → KT R (le110_8 (G110_8 FUEL)).exs → Option R := fun R x kc ke => p110_8 R x.1 x.2.1 x.2.2.1 (fun x1 x2 x3 => kc (x1, x2, x3, ())) (fun y1 => ke.1 (y1, ())) (ke.2.1 ())
theorem it110_8 : ∀ (n : Nat) (R : Type) (x : HT (le110_8 (G110_8 FUEL)).H) (ke : KT R (le110_8 (G110_8 FUEL)).exs), iter T110_8 n R x ke = G110_8 n R x.1 x.2.1 x.2.2.1 (fun y1 => ke.1 (y1, ())) (ke.2.1 ()) := by
  intro n
  induction n with
  | zero => intro R x ke; rfl
  | succ n ih =>
    intro R x ke
    show T110_8 R x (fun x' => iter T110_8 n R x' ke) ke = _
    rw [show (fun x' => iter T110_8 n R x' ke) = fun x => G110_8 n R x.1 x.2.1 x.2.2.1 (fun y1 => ke.1 (y1, ())) (ke.2.1 ()) from funext fun x' => ih R x' ke]
    rfl
theorem lok110_8 : (le110_8 (G110_8 FUEL)).OK Tryz.prog 0 49 (lcode 8 (codeOf Tryz.f110)) := fun R x ke r h =>
  iter_sound (fun R => e110 F109 (G110_8 FUEL) R) 0 49 (fun _ => rfl) (fun _ => rfl) (fun R => env110 R) mixed (by
    intro R
    rw [show loopsOf (lcode 8 (codeOf Tryz.f110)) = [] from by kernel_rfl]
    exact allM_nil) (T := T110_8) (fun R x kc ke => q110_8 F109 (G110_8 FUEL) R x kc ke) FUEL R x ke r ((it110_8 FUEL R x ke).trans h)
theorem ok110 : (en110 F110).OK Tryz.prog :=
  ent_ok (Ef := fun R => e110 F109 (G110_8 FUEL) R) (fun R => env110 R) mixed Tryz.func110 (body := codeOf Tryz.f110) (by kernel_rfl) (by kernel_rfl) (np := 0) (nt := 49) (fun _ => rfl) (fun _ => rfl) (by kernel_rfl) (res := res110) (by kernel_rfl) (fun _ => rfl) (fun _ => Nat.le_of_ble_eq_true rfl) (by
    intro R
    rw [show loopsOf (codeOf Tryz.f110) = [lcode 8 (codeOf Tryz.f110)] from by kernel_rfl]
    exact (allM_cons (loop_ok2 (e := le110_8 (G110_8 FUEL)) rfl rfl lok110_8) allM_nil)) (fun R x k => q110 F109 (G110_8 FUEL) F110 R x k)
abbrev FT111 : Type 1 := (R : Type) → (List Int) → Int → (Int → Option R) → Option R
def en111 (F : FT111) : Ent := ⟨111, [(false, (.sl (.int .u32))), (false, (.int .i64))], [(false, (.int .u64))], fun R x k => F R x.1 x.2.1 (fun y1 => k (y1, ()) ())⟩
def res111 : List (ResultVar × TypeId × Bool) := [(.tmp 4, 22, false)]
noncomputable def e111 (R : Type) : Env R := ⟨TT, EQT, 0, 14, ownOf [], callOf [] R, loopOf [] R, [], inlOf []⟩
def p111 : FT111 := fun R a0 a1 k =>
let v1 := (List.length a0 : Int);
let v2 := (decide (a1 < v1));
(match v2 with
| true => (match (bnd a1 (List.length a0 : Int)) with
| true => let v3 := (List.getD a0 (Int.toNat a1) (0 : Int));
let v4 := (IntKind.u64.wrap v3);
k v4
| false => none)
| false => k (0 : Int))
theorem q111 (F : FT111) (R : Type) (x : AT (en111 F).ins) (k : RT (en111 F).outs → PT (en111 F).ins → Option R) :
  xfun (e111 R) (codeOf Tryz.f111) res111 (avs (en111 F).ins x) (finK (en111 F).outs (en111 F).ins k) = p111 R x.1 x.2.1 (fun y1 => k (y1, ()) ()) := by kernel_rfl
noncomputable def F111 : FT111 := p111
theorem env111 (R : Type) : EnvOK Tryz.prog (e111 R) := ⟨tabOK, eqOK, callOf_ok allE_nil, noIns, inlOK_nil⟩
theorem ok111 : (en111 F111).OK Tryz.prog :=
  ent_ok (Ef := fun R => e111 R) (fun R => env111 R) mixed Tryz.func111 (body := codeOf Tryz.f111) (by kernel_rfl) (by kernel_rfl) (np := 0) (nt := 14) (fun _ => rfl) (fun _ => rfl) (by kernel_rfl) (res := res111) (by kernel_rfl) (fun _ => rfl) (fun _ => Nat.le_of_ble_eq_true rfl) (by
    intro R
    rw [show loopsOf (codeOf Tryz.f111) = [] from by kernel_rfl]
    exact allM_nil) (fun R x k => q111 F111 R x k)
abbrev FT69 : Type 1 := (R : Type) → (List Int) → (List Int) → ((List Int) → Int → Option R) → Option R
def en69 (F : FT69) : Ent := ⟨69, [(false, (.sl (.int .u32))), (false, (.sl (.int .u32)))], [(false, (.sl (.int .u32))), (false, (.int .i64))], fun R x k => F R x.1 x.2.1 (fun y1 y2 => k (y1, y2, ()) ())⟩
def res69 : List (ResultVar × TypeId × Bool) := [(.tmp 4, 57, false), (.tmp 5, 32, false)]
abbrev LT69_8 : Type 1 := (R : Type) → (List Int) → (List Int) → Int → Int → (List Int) → ((List Int) → Option R) → Option R
def le69_8 (L : LT69_8) : LEnt := ⟨8, [.val 0 (.sl (.int .u32)), .val 1 (.sl (.int .u32)), .fix 6 (.own 0 0), .val 7 (.int .u64), .val 8 (.int .i64), .row 0 (.int .u32) false], 1, [(.exit 0, [.fix 6 (.own 0 0), .row 0 (.int .u32) false])], fun R x ke => L R x.1 x.2.1 x.2.2.1 x.2.2.2.1 x.2.2.2.2.1 (fun y1 => ke.1 (y1, ()))⟩
noncomputable def e69 (F109 : FT109) (F110 : FT110) (F111 : FT111) (F112 : FT112) (L8 : LT69_8) (R : Type) : Env R := ⟨TT, EQT, 0, 51, ownOf [(5, 0)], callOf [en109 F109, en110 F110, en111 F111, en112 F112] R, loopOf [le69_8 L8] R, [], inlOf []⟩
def p69_8 (F111 : FT111) : (R : Type) → (List Int) → (List Int) → Int → Int → (List Int) → ((List Int) → (List Int) → Int → Int → (List Int) → Option R) → ((List Int) → Option R) → Option R := fun R x1 x2 x3 x4 x5 kc k0 =>
let v6 := (List.length x1 : Int);
let v7 := (decide (x4 < v6));
(match v7 with
| true => F111 R x1 x4 fun y8 =>
F111 R x2 x4 fun y9 =>
let v10 := (IntKind.u64.wrap (y9 + x3));
let v11 := (decide (v10 > y8));
(match v11 with
| true => let v12 := (IntKind.u64.wrap (y8 + (4294967296 : Int)));
let v13 := (IntKind.u64.wrap (v12 - v10));
let v14 := (IntKind.u32.wrap v13);
let v15 : (List Int) := ([v14] : (List Int));
(match (decide (List.length x5 + List.length v15 ≤ 35184372088832)) with
| true => let v16 : (List Int) := (x5 ++ v15);
let v17 := (IntKind.i64.wrap (x4 + (1 : Int)));
kc x1 x2 (1 : Int) v17 v16
| false => none)
| false => let v18 := (IntKind.u64.wrap (y8 - v10));
let v19 := (IntKind.u32.wrap v18);
let v20 : (List Int) := ([v19] : (List Int));
(match (decide (List.length x5 + List.length v20 ≤ 35184372088832)) with
| true => let v21 : (List Int) := (x5 ++ v20);
let v22 := (IntKind.i64.wrap (x4 + (1 : Int)));
kc x1 x2 (0 : Int) v22 v21
| false => none))
| false => k0 x5)
theorem q69_8 (F109 : FT109) (F110 : FT110) (F111 : FT111) (F112 : FT112) (L8 : LT69_8) (R : Type) (x : HT (le69_8 L8).H) (kc : HT (le69_8 L8).H → Option R) (ke : KT R (le69_8 L8).exs) :
  exec (e69 F109 F110 F111 F112 L8 R) (lcode 8 (codeOf Tryz.f69)) (stOf (le69_8 L8).H x 1) (roundK (le69_8 L8).H (le69_8 L8).exs kc ke) =
    p69_8 F111 R x.1 x.2.1 x.2.2.1 x.2.2.2.1 x.2.2.2.2.1 (fun x1 x2 x3 x4 x5 => kc (x1, x2, x3, x4, x5, ())) (fun y1 => ke.1 (y1, ())) := by kernel_rfl
noncomputable def G69_8 : Nat → LT69_8
  | 0 => fun _ _ _ _ _ _ _ => none
  | n + 1 => fun R x1 x2 x3 x4 x5 k0 => p69_8 F111 R x1 x2 x3 x4 x5 (fun x1 x2 x3 x4 x5 => G69_8 n R x1 x2 x3 x4 x5 k0) k0
def p69 (F109 : FT109) (F110 : FT110) (F112 : FT112) (L8 : LT69_8) : FT69 := fun R a0 a1 k =>
F109 R a0 fun y1 =>
(match (!y1) with
| true => k ([] : (List Int)) (1 : Int)
| false => F109 R a1 fun y2 =>
(match (!y2) with
| true => k ([] : (List Int)) (1 : Int)
| false => F110 R a0 a1 fun y3 =>
let v4 := (decide (y3 < (0 : Int)));
(match v4 with
| true => k ([] : (List Int)) (12 : Int)
| false => L8 R a0 a1 (0 : Int) (0 : Int) ([] : (List Int)) (fun x5 =>
F112 R x5 fun y6 =>
k y6 (0 : Int)))))
theorem q69 (F109 : FT109) (F110 : FT110) (F111 : FT111) (F112 : FT112) (L8 : LT69_8) (F : FT69) (R : Type) (x : AT (en69 F).ins) (k : RT (en69 F).outs → PT (en69 F).ins → Option R) :
  xfun (e69 F109 F110 F111 F112 L8 R) (codeOf Tryz.f69) res69 (avs (en69 F).ins x) (finK (en69 F).outs (en69 F).ins k) = p69 F109 F110 F112 L8 R x.1 x.2.1 (fun y1 y2 => k (y1, y2, ()) ()) := by kernel_rfl
noncomputable def F69 : FT69 := p69 F109 F110 F112 (G69_8 FUEL)
theorem env69 (R : Type) : EnvOK Tryz.prog (e69 F109 F110 F111 F112 (G69_8 FUEL) R) := ⟨tabOK, eqOK, callOf_ok (allE_cons ok109 (allE_cons ok110 (allE_cons ok111 (allE_cons ok112 allE_nil)))), noIns, inlOK_nil⟩
noncomputable def T69_8 : (R : Type) → HT (le69_8 (G69_8 FUEL)).H → (HT (le69_8 (G69_8 FUEL)).H → Option R) → KT R (le69_8 (G69_8 FUEL)).exs → Option R := fun R x kc ke => p69_8 F111 R x.1 x.2.1 x.2.2.1 x.2.2.2.1 x.2.2.2.2.1 (fun x1 x2 x3 x4 x5 => kc (x1, x2, x3, x4, x5, ())) (fun y1 => ke.1 (y1, ()))
theorem it69_8 : ∀ (n : Nat) (R : Type) (x : HT (le69_8 (G69_8 FUEL)).H) (ke : KT R (le69_8 (G69_8 FUEL)).exs), iter T69_8 n R x ke = G69_8 n R x.1 x.2.1 x.2.2.1 x.2.2.2.1 x.2.2.2.2.1 (fun y1 => ke.1 (y1, ())) := by
  intro n
  induction n with
  | zero => intro R x ke; rfl
  | succ n ih =>
    intro R x ke
    show T69_8 R x (fun x' => iter T69_8 n R x' ke) ke = _
    rw [show (fun x' => iter T69_8 n R x' ke) = fun x => G69_8 n R x.1 x.2.1 x.2.2.1 x.2.2.2.1 x.2.2.2.2.1 (fun y1 => ke.1 (y1, ())) from funext fun x' => ih R x' ke]
    rfl
theorem lok69_8 : (le69_8 (G69_8 FUEL)).OK Tryz.prog 0 51 (lcode 8 (codeOf Tryz.f69)) := fun R x ke r h =>
  iter_sound (fun R => e69 F109 F110 F111 F112 (G69_8 FUEL) R) 0 51 (fun _ => rfl) (fun _ => rfl) (fun R => env69 R) mixed (by
    intro R
    rw [show loopsOf (lcode 8 (codeOf Tryz.f69)) = [] from by kernel_rfl]
    exact allM_nil) (T := T69_8) (fun R x kc ke => q69_8 F109 F110 F111 F112 (G69_8 FUEL) R x kc ke) FUEL R x ke r ((it69_8 FUEL R x ke).trans h)
theorem ok69 : (en69 F69).OK Tryz.prog :=
  ent_ok (Ef := fun R => e69 F109 F110 F111 F112 (G69_8 FUEL) R) (fun R => env69 R) mixed Tryz.func69 (body := codeOf Tryz.f69) (by kernel_rfl) (by kernel_rfl) (np := 0) (nt := 51) (fun _ => rfl) (fun _ => rfl) (by kernel_rfl) (res := res69) (by kernel_rfl) (fun _ => rfl) (fun _ => Nat.le_of_ble_eq_true rfl) (by
    intro R
    rw [show loopsOf (codeOf Tryz.f69) = [lcode 8 (codeOf Tryz.f69)] from by kernel_rfl]
    exact (allM_cons (loop_ok2 (e := le69_8 (G69_8 FUEL)) rfl rfl lok69_8) allM_nil)) (fun R x k => q69 F109 F110 F111 F112 (G69_8 FUEL) F69 R x k)
abbrev FT71 : Type 1 := (R : Type) → (List Int) → (List Int) → ((List Int) → Option R) → Option R
def en71 (F : FT71) : Ent := ⟨71, [(false, (.sl (.int .u32))), (false, (.sl (.int .u32)))], [(false, (.sl (.int .u32)))], fun R x k => F R x.1 x.2.1 (fun y1 => k (y1, ()) ())⟩
def res71 : List (ResultVar × TypeId × Bool) := [(.tmp 4, 57, false)]
abbrev LT71_3 : Type 1 := (R : Type) → (List Int) → (List Int) → Int → (List Int) → ((List Int) → Option R) → Option R
def le71_3 (L : LT71_3) : LEnt := ⟨3, [.val 0 (.sl (.int .u32)), .val 1 (.sl (.int .u32)), .fix 5 (.own 0 0), .val 6 (.int .i64), .row 0 (.int .u32) false], 1, [(.exit 0, [.fix 5 (.own 0 0), .row 0 (.int .u32) false])], fun R x ke => L R x.1 x.2.1 x.2.2.1 x.2.2.2.1 (fun y1 => ke.1 (y1, ()))⟩
abbrev LT71_7 : Type 1 := (R : Type) → (List Int) → (List Int) → Int → Int → Int → (List Int) → ((List Int) → (List Int) → Int → (List Int) → Option R) → Option R
def le71_7 (L : LT71_7) : LEnt := ⟨7, [.val 0 (.sl (.int .u32)), .val 1 (.sl (.int .u32)), .fix 5 (.own 0 0), .val 6 (.int .i64), .val 7 (.int .u64), .val 8 (.int .i64), .row 0 (.int .u32) false], 1, [(.exit 2, [.val 0 (.sl (.int .u32)), .val 1 (.sl (.int .u32)), .fix 5 (.own 0 0), .val 6 (.int .i64), .row 0 (.int .u32) false])], fun R x ke => L R x.1 x.2.1 x.2.2.1 x.2.2.2.1 x.2.2.2.2.1 x.2.2.2.2.2.1 (fun y1 y2 y3 y4 => ke.1 (y1, y2, y3, y4, ()))⟩
noncomputable def e71 (F111 : FT111) (F112 : FT112) (L3 : LT71_3) (L7 : LT71_7) (R : Type) : Env R := ⟨TT, EQT, 0, 63, ownOf [], callOf [en111 F111, en112 F112] R, loopOf [le71_3 L3, le71_7 L7] R, [], inlOf []⟩
def p71_7 (F111 : FT111) : (R : Type) → (List Int) → (List Int) → Int → Int → Int → (List Int) → ((List Int) → (List Int) → Int → Int → Int → (List Int) → Option R) → ((List Int) → (List Int) → Int → (List Int) → Option R) → Option R := fun R x1 x2 x3 x4 x5 x6 kc k0 =>
let v7 := (List.length x2 : Int);
let v8 := (decide (x5 < v7));
(match v8 with
| true => let v9 := (IntKind.i64.wrap (x3 + x5));
(match (bnd v9 (List.length x6 : Int)) with
| true => let v10 := (List.getD x6 (Int.toNat v9) (0 : Int));
let v11 := (IntKind.u64.wrap v10);
(match (bnd x3 (List.length x1 : Int)) with
| true => let v12 := (List.getD x1 (Int.toNat x3) (0 : Int));
let v13 := (IntKind.u64.wrap v12);
F111 R x2 x5 fun y14 =>
let v15 := (IntKind.u64.wrap (v13 * y14));
let v16 := (IntKind.u64.wrap (v11 + v15));
let v17 := (IntKind.u64.wrap (v16 + x4));
let v18 := (IntKind.i64.wrap (x3 + x5));
let v19 := (Int.tmod v17 (4294967296 : Int));
let v20 := (IntKind.u32.wrap v19);
let v21 := (IntKind.u64.wrap (Int.tdiv v17 (4294967296 : Int)));
(match (bnd v18 (List.length x6 : Int)) with
| true => let v22 : (List Int) := (List.set x6 (Int.toNat v18) v20);
let v23 := (IntKind.i64.wrap (x5 + (1 : Int)));
kc x1 x2 x3 v21 v23 v22
| false => none)
| false => none)
| false => none)
| false => let v24 := (decide (x4 > (0 : Int)));
(match v24 with
| true => let v25 := (IntKind.i64.wrap (x3 + x5));
(match (bnd v25 (List.length x6 : Int)) with
| true => let v26 := (List.getD x6 (Int.toNat v25) (0 : Int));
let v27 := (IntKind.u64.wrap v26);
(match (bnd x3 (List.length x1 : Int)) with
| true => let v28 := (List.getD x1 (Int.toNat x3) (0 : Int));
let v29 := (IntKind.u64.wrap v28);
F111 R x2 x5 fun y30 =>
let v31 := (IntKind.u64.wrap (v29 * y30));
let v32 := (IntKind.u64.wrap (v27 + v31));
let v33 := (IntKind.u64.wrap (v32 + x4));
let v34 := (IntKind.i64.wrap (x3 + x5));
let v35 := (Int.tmod v33 (4294967296 : Int));
let v36 := (IntKind.u32.wrap v35);
let v37 := (IntKind.u64.wrap (Int.tdiv v33 (4294967296 : Int)));
(match (bnd v34 (List.length x6 : Int)) with
| true => let v38 : (List Int) := (List.set x6 (Int.toNat v34) v36);
let v39 := (IntKind.i64.wrap (x5 + (1 : Int)));
kc x1 x2 x3 v37 v39 v38
| false => none)
| false => none)
| false => none)
| false => k0 x1 x2 x3 x6))
theorem q71_7 (F111 : FT111) (F112 : FT112) (L3 : LT71_3) (L7 : LT71_7) (R : Type) (x : HT (le71_7 L7).H) (kc : HT (le71_7 L7).H → Option R) (ke : KT R (le71_7 L7).exs) :
  exec (e71 F111 F112 L3 L7 R) (lcode 7 (codeOf Tryz.f71)) (stOf (le71_7 L7).H x 1) (roundK (le71_7 L7).H (le71_7 L7).exs kc ke) =
    p71_7 F111 R x.1 x.2.1 x.2.2.1 x.2.2.2.1 x.2.2.2.2.1 x.2.2.2.2.2.1 (fun x1 x2 x3 x4 x5 x6 => kc (x1, x2, x3, x4, x5, x6, ())) (fun y1 y2 y3 y4 => ke.1 (y1, y2, y3, y4, ())) := by kernel_rfl
noncomputable def G71_7 : Nat → LT71_7
  | 0 => fun _ _ _ _ _ _ _ _ => none
  | n + 1 => fun R x1 x2 x3 x4 x5 x6 k0 => p71_7 F111 R x1 x2 x3 x4 x5 x6 (fun x1 x2 x3 x4 x5 x6 => G71_7 n R x1 x2 x3 x4 x5 x6 k0) k0
def p71_3 (L7 : LT71_7) : (R : Type) → (List Int) → (List Int) → Int → (List Int) → ((List Int) → (List Int) → Int → (List Int) → Option R) → ((List Int) → Option R) → Option R := fun R x1 x2 x3 x4 kc k0 =>
let v5 := (List.length x1 : Int);
let v6 := (decide (x3 < v5));
(match v6 with
| true => L7 R x1 x2 x3 (0 : Int) (0 : Int) x4 (fun x7 x8 x9 x10 =>
let v11 := (IntKind.i64.wrap (x9 + (1 : Int)));
kc x7 x8 v11 x10)
| false => k0 x4)
theorem q71_3 (F111 : FT111) (F112 : FT112) (L3 : LT71_3) (L7 : LT71_7) (R : Type) (x : HT (le71_3 L3).H) (kc : HT (le71_3 L3).H → Option R) (ke : KT R (le71_3 L3).exs) :
  exec (e71 F111 F112 L3 L7 R) (lcode 3 (codeOf Tryz.f71)) (stOf (le71_3 L3).H x 1) (roundK (le71_3 L3).H (le71_3 L3).exs kc ke) =
    p71_3 L7 R x.1 x.2.1 x.2.2.1 x.2.2.2.1 (fun x1 x2 x3 x4 => kc (x1, x2, x3, x4, ())) (fun y1 => ke.1 (y1, ())) := by kernel_rfl
noncomputable def G71_3 : Nat → LT71_3
  | 0 => fun _ _ _ _ _ _ => none
  | n + 1 => fun R x1 x2 x3 x4 k0 => p71_3 (G71_7 FUEL) R x1 x2 x3 x4 (fun x1 x2 x3 x4 => G71_3 n R x1 x2 x3 x4 k0) k0
def p71 (F112 : FT112) (L3 : LT71_3) : FT71 := fun R a0 a1 k =>
let v1 := (List.length a0 : Int);
let v2 := (List.length a1 : Int);
let v3 := (IntKind.i64.wrap (v1 + v2));
(match (decide (0 ≤ v3 ∧ v3 ≤ v3 ∧ v3 ≤ (35184372088832 : Int))) with
| true => let v4 : (List Int) := (List.replicate (Int.toNat v3) (0 : Int));
L3 R a0 a1 (0 : Int) v4 (fun x5 =>
F112 R x5 fun y6 =>
k y6)
| false => none)
theorem q71 (F111 : FT111) (F112 : FT112) (L3 : LT71_3) (L7 : LT71_7) (F : FT71) (R : Type) (x : AT (en71 F).ins) (k : RT (en71 F).outs → PT (en71 F).ins → Option R) :
  xfun (e71 F111 F112 L3 L7 R) (codeOf Tryz.f71) res71 (avs (en71 F).ins x) (finK (en71 F).outs (en71 F).ins k) = p71 F112 L3 R x.1 x.2.1 (fun y1 => k (y1, ()) ()) := by kernel_rfl
noncomputable def F71 : FT71 := p71 F112 (G71_3 FUEL)
theorem env71 (R : Type) : EnvOK Tryz.prog (e71 F111 F112 (G71_3 FUEL) (G71_7 FUEL) R) := ⟨tabOK, eqOK, callOf_ok (allE_cons ok111 (allE_cons ok112 allE_nil)), noIns, inlOK_nil⟩
noncomputable def T71_7 : (R : Type) → HT (le71_7 (G71_7 FUEL)).H → (HT (le71_7 (G71_7 FUEL)).H → Option R) → KT R (le71_7 (G71_7 FUEL)).exs → Option R := fun R x kc ke => p71_7 F111 R x.1 x.2.1 x.2.2.1 x.2.2.2.1 x.2.2.2.2.1 x.2.2.2.2.2.1 (fun x1 x2 x3 x4 x5 x6 => kc (x1, x2, x3, x4, x5, x6, ())) (fun y1 y2 y3 y4 => ke.1 (y1, y2, y3, y4, ()))
theorem it71_7 : ∀ (n : Nat) (R : Type) (x : HT (le71_7 (G71_7 FUEL)).H) (ke : KT R (le71_7 (G71_7 FUEL)).exs), iter T71_7 n R x ke = G71_7 n R x.1 x.2.1 x.2.2.1 x.2.2.2.1 x.2.2.2.2.1 x.2.2.2.2.2.1 (fun y1 y2 y3 y4 => ke.1 (y1, y2, y3, y4, ())) := by
  intro n
  induction n with
  | zero => intro R x ke; rfl
  | succ n ih =>
    intro R x ke
    show T71_7 R x (fun x' => iter T71_7 n R x' ke) ke = _
    rw [show (fun x' => iter T71_7 n R x' ke) = fun x => G71_7 n R x.1 x.2.1 x.2.2.1 x.2.2.2.1 x.2.2.2.2.1 x.2.2.2.2.2.1 (fun y1 y2 y3 y4 => ke.1 (y1, y2, y3, y4, ())) from funext fun x' => ih R x' ke]
    rfl
theorem lok71_7 : (le71_7 (G71_7 FUEL)).OK Tryz.prog 0 63 (lcode 7 (codeOf Tryz.f71)) := fun R x ke r h =>
  iter_sound (fun R => e71 F111 F112 (G71_3 FUEL) (G71_7 FUEL) R) 0 63 (fun _ => rfl) (fun _ => rfl) (fun R => env71 R) mixed (by
    intro R
    rw [show loopsOf (lcode 7 (codeOf Tryz.f71)) = [] from by kernel_rfl]
    exact allM_nil) (T := T71_7) (fun R x kc ke => q71_7 F111 F112 (G71_3 FUEL) (G71_7 FUEL) R x kc ke) FUEL R x ke r ((it71_7 FUEL R x ke).trans h)
noncomputable def T71_3 : (R : Type) → HT (le71_3 (G71_3 FUEL)).H → (HT (le71_3 (G71_3 FUEL)).H → Option R) → KT R (le71_3 (G71_3 FUEL)).exs → Option R := fun R x kc ke => p71_3 (G71_7 FUEL) R x.1 x.2.1 x.2.2.1 x.2.2.2.1 (fun x1 x2 x3 x4 => kc (x1, x2, x3, x4, ())) (fun y1 => ke.1 (y1, ()))
theorem it71_3 : ∀ (n : Nat) (R : Type) (x : HT (le71_3 (G71_3 FUEL)).H) (ke : KT R (le71_3 (G71_3 FUEL)).exs), iter T71_3 n R x ke = G71_3 n R x.1 x.2.1 x.2.2.1 x.2.2.2.1 (fun y1 => ke.1 (y1, ())) := by
  intro n
  induction n with
  | zero => intro R x ke; rfl
  | succ n ih =>
    intro R x ke
    show T71_3 R x (fun x' => iter T71_3 n R x' ke) ke = _
    rw [show (fun x' => iter T71_3 n R x' ke) = fun x => G71_3 n R x.1 x.2.1 x.2.2.1 x.2.2.2.1 (fun y1 => ke.1 (y1, ())) from funext fun x' => ih R x' ke]
    rfl
theorem lok71_3 : (le71_3 (G71_3 FUEL)).OK Tryz.prog 0 63 (lcode 3 (codeOf Tryz.f71)) := fun R x ke r h =>
  iter_sound (fun R => e71 F111 F112 (G71_3 FUEL) (G71_7 FUEL) R) 0 63 (fun _ => rfl) (fun _ => rfl) (fun R => env71 R) mixed (by
    intro R
    rw [show loopsOf (lcode 3 (codeOf Tryz.f71)) = [lcode 7 (codeOf Tryz.f71)] from by kernel_rfl]
    exact (allM_cons (loop_ok2 (e := le71_7 (G71_7 FUEL)) rfl rfl lok71_7) allM_nil)) (T := T71_3) (fun R x kc ke => q71_3 F111 F112 (G71_3 FUEL) (G71_7 FUEL) R x kc ke) FUEL R x ke r ((it71_3 FUEL R x ke).trans h)
theorem ok71 : (en71 F71).OK Tryz.prog :=
  ent_ok (Ef := fun R => e71 F111 F112 (G71_3 FUEL) (G71_7 FUEL) R) (fun R => env71 R) mixed Tryz.func71 (body := codeOf Tryz.f71) (by kernel_rfl) (by kernel_rfl) (np := 0) (nt := 63) (fun _ => rfl) (fun _ => rfl) (by kernel_rfl) (res := res71) (by kernel_rfl) (fun _ => rfl) (fun _ => Nat.le_of_ble_eq_true rfl) (by
    intro R
    rw [show loopsOf (codeOf Tryz.f71) = [lcode 3 (codeOf Tryz.f71)] from by kernel_rfl]
    exact (allM_cons (loop_ok2 (e := le71_3 (G71_3 FUEL)) rfl rfl lok71_3) allM_nil)) (fun R x k => q71 F111 F112 (G71_3 FUEL) (G71_7 FUEL) F71 R x k)
abbrev FT72 : Type 1 := (R : Type) → (List Int) → (List Int) → ((List Int) → Option R) → Option R
def en72 (F : FT72) : Ent := ⟨72, [(false, (.sl (.int .u32))), (false, (.sl (.int .u32)))], [(false, (.sl (.int .u32)))], fun R x k => F R x.1 x.2.1 (fun y1 => k (y1, ()) ())⟩
def res72 : List (ResultVar × TypeId × Bool) := [(.tmp 4, 57, false)]
abbrev LT72_4 : Type 1 := (R : Type) → (List Int) → (List Int) → Int → Int → (List Int) → ((List Int) → Option R) → Option R
def le72_4 (L : LT72_4) : LEnt := ⟨4, [.val 0 (.sl (.int .u32)), .val 1 (.sl (.int .u32)), .fix 5 (.own 0 0), .val 6 (.int .u64), .val 7 (.int .i64), .row 0 (.int .u32) false], 1, [(.exit 0, [.fix 5 (.own 0 0), .row 0 (.int .u32) false])], fun R x ke => L R x.1 x.2.1 x.2.2.1 x.2.2.2.1 x.2.2.2.2.1 (fun y1 => ke.1 (y1, ()))⟩
noncomputable def e72 (F111 : FT111) (F112 : FT112) (L4 : LT72_4) (R : Type) : Env R := ⟨TT, EQT, 0, 44, ownOf [(1, 0)], callOf [en111 F111, en112 F112] R, loopOf [le72_4 L4] R, [], inlOf []⟩
def p72_4 (F111 : FT111) : (R : Type) → (List Int) → (List Int) → Int → Int → (List Int) → ((List Int) → (List Int) → Int → Int → (List Int) → Option R) → ((List Int) → Option R) → Option R := fun R x1 x2 x3 x4 x5 kc k0 =>
let v6 := (List.length x1 : Int);
let v7 := (decide (x4 < v6));
(match v7 with
| true => F111 R x1 x4 fun y8 =>
F111 R x2 x4 fun y9 =>
let v10 := (IntKind.u64.wrap (y8 + y9));
let v11 := (IntKind.u64.wrap (v10 + x3));
let v12 := (Int.tmod v11 (4294967296 : Int));
let v13 := (IntKind.u32.wrap v12);
let v14 : (List Int) := ([v13] : (List Int));
(match (decide (List.length x5 + List.length v14 ≤ 35184372088832)) with
| true => let v15 : (List Int) := (x5 ++ v14);
let v16 := (IntKind.u64.wrap (Int.tdiv v11 (4294967296 : Int)));
let v17 := (IntKind.i64.wrap (x4 + (1 : Int)));
kc x1 x2 v16 v17 v15
| false => none)
| false => let v18 := (List.length x2 : Int);
let v19 := (decide (x4 < v18));
(match v19 with
| true => F111 R x1 x4 fun y20 =>
F111 R x2 x4 fun y21 =>
let v22 := (IntKind.u64.wrap (y20 + y21));
let v23 := (IntKind.u64.wrap (v22 + x3));
let v24 := (Int.tmod v23 (4294967296 : Int));
let v25 := (IntKind.u32.wrap v24);
let v26 : (List Int) := ([v25] : (List Int));
(match (decide (List.length x5 + List.length v26 ≤ 35184372088832)) with
| true => let v27 : (List Int) := (x5 ++ v26);
let v28 := (IntKind.u64.wrap (Int.tdiv v23 (4294967296 : Int)));
let v29 := (IntKind.i64.wrap (x4 + (1 : Int)));
kc x1 x2 v28 v29 v27
| false => none)
| false => let v30 := (decide (x3 > (0 : Int)));
(match v30 with
| true => F111 R x1 x4 fun y31 =>
F111 R x2 x4 fun y32 =>
let v33 := (IntKind.u64.wrap (y31 + y32));
let v34 := (IntKind.u64.wrap (v33 + x3));
let v35 := (Int.tmod v34 (4294967296 : Int));
let v36 := (IntKind.u32.wrap v35);
let v37 : (List Int) := ([v36] : (List Int));
(match (decide (List.length x5 + List.length v37 ≤ 35184372088832)) with
| true => let v38 : (List Int) := (x5 ++ v37);
let v39 := (IntKind.u64.wrap (Int.tdiv v34 (4294967296 : Int)));
let v40 := (IntKind.i64.wrap (x4 + (1 : Int)));
kc x1 x2 v39 v40 v38
| false => none)
| false => k0 x5)))
theorem q72_4 (F111 : FT111) (F112 : FT112) (L4 : LT72_4) (R : Type) (x : HT (le72_4 L4).H) (kc : HT (le72_4 L4).H → Option R) (ke : KT R (le72_4 L4).exs) :
  exec (e72 F111 F112 L4 R) (lcode 4 (codeOf Tryz.f72)) (stOf (le72_4 L4).H x 1) (roundK (le72_4 L4).H (le72_4 L4).exs kc ke) =
    p72_4 F111 R x.1 x.2.1 x.2.2.1 x.2.2.2.1 x.2.2.2.2.1 (fun x1 x2 x3 x4 x5 => kc (x1, x2, x3, x4, x5, ())) (fun y1 => ke.1 (y1, ())) := by kernel_rfl
noncomputable def G72_4 : Nat → LT72_4
  | 0 => fun _ _ _ _ _ _ _ => none
  | n + 1 => fun R x1 x2 x3 x4 x5 k0 => p72_4 F111 R x1 x2 x3 x4 x5 (fun x1 x2 x3 x4 x5 => G72_4 n R x1 x2 x3 x4 x5 k0) k0
def p72 (F112 : FT112) (L4 : LT72_4) : FT72 := fun R a0 a1 k =>
L4 R a0 a1 (0 : Int) (0 : Int) ([] : (List Int)) (fun x1 =>
F112 R x1 fun y2 =>
k y2)
theorem q72 (F111 : FT111) (F112 : FT112) (L4 : LT72_4) (F : FT72) (R : Type) (x : AT (en72 F).ins) (k : RT (en72 F).outs → PT (en72 F).ins → Option R) :
  xfun (e72 F111 F112 L4 R) (codeOf Tryz.f72) res72 (avs (en72 F).ins x) (finK (en72 F).outs (en72 F).ins k) = p72 F112 L4 R x.1 x.2.1 (fun y1 => k (y1, ()) ()) := by kernel_rfl
noncomputable def F72 : FT72 := p72 F112 (G72_4 FUEL)
theorem env72 (R : Type) : EnvOK Tryz.prog (e72 F111 F112 (G72_4 FUEL) R) := ⟨tabOK, eqOK, callOf_ok (allE_cons ok111 (allE_cons ok112 allE_nil)), noIns, inlOK_nil⟩
noncomputable def T72_4 : (R : Type) → HT (le72_4 (G72_4 FUEL)).H → (HT (le72_4 (G72_4 FUEL)).H → Option R) → KT R (le72_4 (G72_4 FUEL)).exs → Option R := fun R x kc ke => p72_4 F111 R x.1 x.2.1 x.2.2.1 x.2.2.2.1 x.2.2.2.2.1 (fun x1 x2 x3 x4 x5 => kc (x1, x2, x3, x4, x5, ())) (fun y1 => ke.1 (y1, ()))
theorem it72_4 : ∀ (n : Nat) (R : Type) (x : HT (le72_4 (G72_4 FUEL)).H) (ke : KT R (le72_4 (G72_4 FUEL)).exs), iter T72_4 n R x ke = G72_4 n R x.1 x.2.1 x.2.2.1 x.2.2.2.1 x.2.2.2.2.1 (fun y1 => ke.1 (y1, ())) := by
  intro n
  induction n with
  | zero => intro R x ke; rfl
  | succ n ih =>
    intro R x ke
    show T72_4 R x (fun x' => iter T72_4 n R x' ke) ke = _
    rw [show (fun x' => iter T72_4 n R x' ke) = fun x => G72_4 n R x.1 x.2.1 x.2.2.1 x.2.2.2.1 x.2.2.2.2.1 (fun y1 => ke.1 (y1, ())) from funext fun x' => ih R x' ke]
    rfl
theorem lok72_4 : (le72_4 (G72_4 FUEL)).OK Tryz.prog 0 44 (lcode 4 (codeOf Tryz.f72)) := fun R x ke r h =>
  iter_sound (fun R => e72 F111 F112 (G72_4 FUEL) R) 0 44 (fun _ => rfl) (fun _ => rfl) (fun R => env72 R) mixed (by
    intro R
    rw [show loopsOf (lcode 4 (codeOf Tryz.f72)) = [] from by kernel_rfl]
    exact allM_nil) (T := T72_4) (fun R x kc ke => q72_4 F111 F112 (G72_4 FUEL) R x kc ke) FUEL R x ke r ((it72_4 FUEL R x ke).trans h)
theorem ok72 : (en72 F72).OK Tryz.prog :=
  ent_ok (Ef := fun R => e72 F111 F112 (G72_4 FUEL) R) (fun R => env72 R) mixed Tryz.func72 (body := codeOf Tryz.f72) (by kernel_rfl) (by kernel_rfl) (np := 0) (nt := 44) (fun _ => rfl) (fun _ => rfl) (by kernel_rfl) (res := res72) (by kernel_rfl) (fun _ => rfl) (fun _ => Nat.le_of_ble_eq_true rfl) (by
    intro R
    rw [show loopsOf (codeOf Tryz.f72) = [lcode 4 (codeOf Tryz.f72)] from by kernel_rfl]
    exact (allM_cons (loop_ok2 (e := le72_4 (G72_4 FUEL)) rfl rfl lok72_4) allM_nil)) (fun R x k => q72 F111 F112 (G72_4 FUEL) F72 R x k)
abbrev FT28 : Type 1 := (R : Type) → (List Int) → Int → Int → (List Int) → ((List Int) → Int → Option R) → Option R
def en28 (F : FT28) : Ent := ⟨28, [(false, (.sl (.int .i64))), (false, (.int .i64)), (false, (.int .i64)), (false, (.sl (.int .u64)))], [(false, (.sl (.int .u32))), (false, (.int .i64))], fun R x k => F R x.1 x.2.1 x.2.2.1 x.2.2.2.1 (fun y1 y2 => k (y1, y2, ()) ())⟩
def res28 : List (ResultVar × TypeId × Bool) := [(.tmp 8, 57, false), (.tmp 9, 32, false)]
abbrev LT28_10 : Type 1 := (R : Type) → (List Int) → Int → Int → (List (List Int)) → Int → (List Int) → (Int → Option R) → (Int → (List (List Int)) → Option R) → Option R
def le28_10 (L : LT28_10) : LEnt := ⟨10, [.val 0 (.sl (.int .i64)), .val 1 (.int .i64), .val 2 (.int .i64), .fix 12 (.own 0 0), .val 13 (.sl (.sl (.int .u32))), .val 14 (.int .i64), .row 0 (.int .u64) false], 1, [(.ret, [.fix 8 .nil, .val 9 (.int .i64)]), (.exit 0, [.val 1 (.int .i64), .val 13 (.sl (.sl (.int .u32)))])], fun R x ke => L R x.1 x.2.1 x.2.2.1 x.2.2.2.1 x.2.2.2.2.1 x.2.2.2.2.2.1 (fun y1 => ke.1 (y1, ())) (fun y1 y2 => ke.2.1 (y1, y2, ()))⟩
abbrev LT28_21 : Type 1 := (R : Type) → (List Int) → Int → Int → (List (List Int)) → Int → Int → Int → (List Int) → Int → (List Int) → (List (List Int)) → ((List Int) → Int → Int → Int → Int → (List Int) → (List (List Int)) → Option R) → Option R
def le28_21 (L : LT28_21) : LEnt := ⟨21, [.val 0 (.sl (.int .i64)), .val 1 (.int .i64), .val 2 (.int .i64), .fix 12 (.own 0 0), .val 13 (.sl (.sl (.int .u32))), .val 14 (.int .i64), .val 15 (.int .i64), .val 18 (.int .i64), .val 21 (.sl (.int .u32)), .fix 23 (.own 1 0), .val 24 (.int .i64), .row 0 (.int .u64) false, .row 1 (.sl (.int .u32)) false], 2, [(.exit 2, [.val 0 (.sl (.int .i64)), .val 1 (.int .i64), .val 2 (.int .i64), .fix 12 (.own 0 0), .val 14 (.int .i64), .val 15 (.int .i64), .fix 23 (.own 1 0), .row 0 (.int .u64) false, .row 1 (.sl (.int .u32)) false])], fun R x ke => L R x.1 x.2.1 x.2.2.1 x.2.2.2.1 x.2.2.2.2.1 x.2.2.2.2.2.1 x.2.2.2.2.2.2.1 x.2.2.2.2.2.2.2.1 x.2.2.2.2.2.2.2.2.1 x.2.2.2.2.2.2.2.2.2.1 x.2.2.2.2.2.2.2.2.2.2.1 (fun y1 y2 y3 y4 y5 y6 y7 => ke.1 (y1, y2, y3, y4, y5, y6, y7, ()))⟩
abbrev LT28_25 : Type 1 := (R : Type) → (List Int) → Int → Int → (List (List Int)) → Int → Int → Int → (List Int) → Int → (List Int) → Int → (List Int) → (List (List Int)) → ((List Int) → Int → Int → (List (List Int)) → Int → Int → Int → (List Int) → Int → (List Int) → (List (List Int)) → Option R) → Option R
def le28_25 (L : LT28_25) : LEnt := ⟨25, [.val 0 (.sl (.int .i64)), .val 1 (.int .i64), .val 2 (.int .i64), .fix 12 (.own 0 0), .val 13 (.sl (.sl (.int .u32))), .val 14 (.int .i64), .val 15 (.int .i64), .val 18 (.int .i64), .val 21 (.sl (.int .u32)), .fix 23 (.own 1 0), .val 24 (.int .i64), .val 25 (.sl (.int .u32)), .val 26 (.int .i64), .row 0 (.int .u64) false, .row 1 (.sl (.int .u32)) false], 2, [(.exit 4, [.val 0 (.sl (.int .i64)), .val 1 (.int .i64), .val 2 (.int .i64), .fix 12 (.own 0 0), .val 13 (.sl (.sl (.int .u32))), .val 14 (.int .i64), .val 15 (.int .i64), .val 18 (.int .i64), .val 21 (.sl (.int .u32)), .fix 23 (.own 1 0), .val 24 (.int .i64), .row 0 (.int .u64) false, .row 1 (.sl (.int .u32)) false])], fun R x ke => L R x.1 x.2.1 x.2.2.1 x.2.2.2.1 x.2.2.2.2.1 x.2.2.2.2.2.1 x.2.2.2.2.2.2.1 x.2.2.2.2.2.2.2.1 x.2.2.2.2.2.2.2.2.1 x.2.2.2.2.2.2.2.2.2.1 x.2.2.2.2.2.2.2.2.2.2.1 x.2.2.2.2.2.2.2.2.2.2.2.1 x.2.2.2.2.2.2.2.2.2.2.2.2.1 (fun y1 y2 y3 y4 y5 y6 y7 y8 y9 y10 y11 => ke.1 (y1, y2, y3, y4, y5, y6, y7, y8, y9, y10, y11, ()))⟩
abbrev LT28_32 : Type 1 := (R : Type) → Int → (List (List Int)) → (List Int) → Int → ((List Int) → Option R) → Option R
def le28_32 (L : LT28_32) : LEnt := ⟨32, [.val 1 (.int .i64), .val 13 (.sl (.sl (.int .u32))), .val 27 (.sl (.int .u32)), .val 28 (.int .i64)], 0, [(.exit 6, [.val 27 (.sl (.int .u32))])], fun R x ke => L R x.1 x.2.1 x.2.2.1 x.2.2.2.1 (fun y1 => ke.1 (y1, ()))⟩
noncomputable def e28 (F51 : FT51) (F67 : FT67) (F68 : FT68) (F69 : FT69) (F70 : FT70) (F71 : FT71) (F72 : FT72) (L10 : LT28_10) (L21 : LT28_21) (L25 : LT28_25) (L32 : LT28_32) (R : Type) : Env R := ⟨TT, EQT, 0, 188, ownOf [(6, 0)], callOf [en51 F51, en67 F67, en68 F68, en69 F69, en70 F70, en71 F71, en72 F72] R, loopOf [le28_10 L10, le28_21 L21, le28_25 L25, le28_32 L32] R, [], inlOf []⟩
def p28_25 (F71 : FT71) (F72 : FT72) : (R : Type) → (List Int) → Int → Int → (List (List Int)) → Int → Int → Int → (List Int) → Int → (List Int) → Int → (List Int) → (List (List Int)) → ((List Int) → Int → Int → (List (List Int)) → Int → Int → Int → (List Int) → Int → (List Int) → Int → (List Int) → (List (List Int)) → Option R) → ((List Int) → Int → Int → (List (List Int)) → Int → Int → Int → (List Int) → Int → (List Int) → (List (List Int)) → Option R) → Option R := fun R x1 x2 x3 x4 x5 x6 x7 x8 x9 x10 x11 x12 x13 kc k0 =>
let v14 := (decide (x11 ≤ x3));
(match v14 with
| true => let v15 := (IntKind.i64.wrap (x7 * x11));
let v16 := (IntKind.i64.wrap (x9 + v15));
let v17 := (decide (v16 ≤ x2));
(match v17 with
| true => let v18 := (IntKind.i64.wrap (x7 * x11));
let v19 := (IntKind.i64.wrap (x9 + v18));
let v20 := (IntKind.i64.wrap (x7 * x11));
let v21 := (IntKind.i64.wrap (x9 + v20));
(match (bnd v21 (List.length x13 : Int)) with
| true => let v22 : (List Int) := (List.getD x13 (Int.toNat v21) ([] : (List Int)));
F72 R v22 x10 fun y23 =>
(match (bnd v19 (List.length x13 : Int)) with
| true => let v24 : (List (List Int)) := (List.set x13 (Int.toNat v19) y23);
F71 R x10 x8 fun y25 =>
let v26 := (IntKind.i64.wrap (x11 + (1 : Int)));
kc x1 x2 x3 x4 x5 x6 x7 x8 x9 y25 v26 x12 v24
| false => none)
| false => none)
| false => k0 x1 x2 x3 x4 x5 x6 x7 x8 x9 x12 x13)
| false => k0 x1 x2 x3 x4 x5 x6 x7 x8 x9 x12 x13)
theorem q28_25 (F51 : FT51) (F67 : FT67) (F68 : FT68) (F69 : FT69) (F70 : FT70) (F71 : FT71) (F72 : FT72) (L10 : LT28_10) (L21 : LT28_21) (L25 : LT28_25) (L32 : LT28_32) (R : Type) (x : HT (le28_25 L25).H) (kc : HT (le28_25 L25).H → Option R) (ke : KT R (le28_25 L25).exs) :
  exec (e28 F51 F67 F68 F69 F70 F71 F72 L10 L21 L25 L32 R) (lcode 25 (codeOf Tryz.f28)) (stOf (le28_25 L25).H x 2) (roundK (le28_25 L25).H (le28_25 L25).exs kc ke) =
    p28_25 F71 F72 R x.1 x.2.1 x.2.2.1 x.2.2.2.1 x.2.2.2.2.1 x.2.2.2.2.2.1 x.2.2.2.2.2.2.1 x.2.2.2.2.2.2.2.1 x.2.2.2.2.2.2.2.2.1 x.2.2.2.2.2.2.2.2.2.1 x.2.2.2.2.2.2.2.2.2.2.1 x.2.2.2.2.2.2.2.2.2.2.2.1 x.2.2.2.2.2.2.2.2.2.2.2.2.1 (fun x1 x2 x3 x4 x5 x6 x7 x8 x9 x10 x11 x12 x13 => kc (x1, x2, x3, x4, x5, x6, x7, x8, x9, x10, x11, x12, x13, ())) (fun y1 y2 y3 y4 y5 y6 y7 y8 y9 y10 y11 => ke.1 (y1, y2, y3, y4, y5, y6, y7, y8, y9, y10, y11, ())) := by kernel_rfl
noncomputable def G28_25 : Nat → LT28_25
  | 0 => fun _ _ _ _ _ _ _ _ _ _ _ _ _ _ _ => none
  | n + 1 => fun R x1 x2 x3 x4 x5 x6 x7 x8 x9 x10 x11 x12 x13 k0 => p28_25 F71 F72 R x1 x2 x3 x4 x5 x6 x7 x8 x9 x10 x11 x12 x13 (fun x1 x2 x3 x4 x5 x6 x7 x8 x9 x10 x11 x12 x13 => G28_25 n R x1 x2 x3 x4 x5 x6 x7 x8 x9 x10 x11 x12 x13 k0) k0
def p28_21 (F70 : FT70) (F71 : FT71) (L25 : LT28_25) : (R : Type) → (List Int) → Int → Int → (List (List Int)) → Int → Int → Int → (List Int) → Int → (List Int) → (List (List Int)) → ((List Int) → Int → Int → (List (List Int)) → Int → Int → Int → (List Int) → Int → (List Int) → (List (List Int)) → Option R) → ((List Int) → Int → Int → Int → Int → (List Int) → (List (List Int)) → Option R) → Option R := fun R x1 x2 x3 x4 x5 x6 x7 x8 x9 x10 x11 kc k0 =>
let v12 := (decide (x9 ≤ x2));
(match v12 with
| true => (match (bnd x9 (List.length x4 : Int)) with
| true => let v13 : (List Int) := (List.getD x4 (Int.toNat x9) ([] : (List Int)));
(match (bnd x6 (List.length x10 : Int)) with
| true => let v14 := (List.getD x10 (Int.toNat x6) (0 : Int));
F70 R v14 fun y15 =>
F71 R v13 y15 fun y16 =>
L25 R x1 x2 x3 x4 x5 x6 x7 x8 x9 y16 (1 : Int) x10 x11 (fun x17 x18 x19 x20 x21 x22 x23 x24 x25 x26 x27 =>
let v28 := (IntKind.i64.wrap (x25 + (1 : Int)));
kc x17 x18 x19 x20 x21 x22 x23 x24 v28 x26 x27)
| false => none)
| false => none)
| false => k0 x1 x2 x3 x5 x6 x10 x11)
theorem q28_21 (F51 : FT51) (F67 : FT67) (F68 : FT68) (F69 : FT69) (F70 : FT70) (F71 : FT71) (F72 : FT72) (L10 : LT28_10) (L21 : LT28_21) (L25 : LT28_25) (L32 : LT28_32) (R : Type) (x : HT (le28_21 L21).H) (kc : HT (le28_21 L21).H → Option R) (ke : KT R (le28_21 L21).exs) :
  exec (e28 F51 F67 F68 F69 F70 F71 F72 L10 L21 L25 L32 R) (lcode 21 (codeOf Tryz.f28)) (stOf (le28_21 L21).H x 2) (roundK (le28_21 L21).H (le28_21 L21).exs kc ke) =
    p28_21 F70 F71 L25 R x.1 x.2.1 x.2.2.1 x.2.2.2.1 x.2.2.2.2.1 x.2.2.2.2.2.1 x.2.2.2.2.2.2.1 x.2.2.2.2.2.2.2.1 x.2.2.2.2.2.2.2.2.1 x.2.2.2.2.2.2.2.2.2.1 x.2.2.2.2.2.2.2.2.2.2.1 (fun x1 x2 x3 x4 x5 x6 x7 x8 x9 x10 x11 => kc (x1, x2, x3, x4, x5, x6, x7, x8, x9, x10, x11, ())) (fun y1 y2 y3 y4 y5 y6 y7 => ke.1 (y1, y2, y3, y4, y5, y6, y7, ())) := by kernel_rfl
noncomputable def G28_21 : Nat → LT28_21
  | 0 => fun _ _ _ _ _ _ _ _ _ _ _ _ _ => none
  | n + 1 => fun R x1 x2 x3 x4 x5 x6 x7 x8 x9 x10 x11 k0 => p28_21 F70 F71 (G28_25 FUEL) R x1 x2 x3 x4 x5 x6 x7 x8 x9 x10 x11 (fun x1 x2 x3 x4 x5 x6 x7 x8 x9 x10 x11 => G28_21 n R x1 x2 x3 x4 x5 x6 x7 x8 x9 x10 x11 k0) k0
def p28_10 (F51 : FT51) (F67 : FT67) (F68 : FT68) (F69 : FT69) (F70 : FT70) (L21 : LT28_21) : (R : Type) → (List Int) → Int → Int → (List (List Int)) → Int → (List Int) → ((List Int) → Int → Int → (List (List Int)) → Int → (List Int) → Option R) → (Int → Option R) → (Int → (List (List Int)) → Option R) → Option R := fun R x1 x2 x3 x4 x5 x6 kc k0 k1 =>
let v7 := (List.length x1 : Int);
let v8 := (decide (x5 < v7));
(match v8 with
| true => (match (bnd x5 (List.length x1 : Int)) with
| true => let v9 := (List.getD x1 (Int.toNat x5) (0 : Int));
let v10 := (decide (v9 < (0 : Int)));
(match v10 with
| true => k0 (0 : Int)
| false => let v11 := (List.length x6 : Int);
let v12 := (decide (v9 ≥ v11));
(match v12 with
| true => k0 (0 : Int)
| false => (match (bnd v9 (List.length x6 : Int)) with
| true => let v13 := (List.getD x6 (Int.toNat v9) (0 : Int));
let v14 := (v13 == (0 : Int));
(match v14 with
| true => k0 (0 : Int)
| false => F51 R x6 fun y15 y16 =>
F67 R y15 fun y17 =>
F68 R y17 fun y18 y19 =>
F70 R y15 fun y20 =>
F69 R y18 y20 fun y21 y22 =>
let v23 := (IntKind.i64.wrap (x2 + (1 : Int)));
(match (decide (0 ≤ v23 ∧ v23 ≤ v23 ∧ v23 ≤ (5864062014805 : Int))) with
| true => let v24 : (List (List Int)) := (List.replicate (Int.toNat v23) ([] : (List Int)));
L21 R x1 x2 x3 x4 x5 v9 y17 y21 (0 : Int) x6 v24 (fun x25 x26 x27 x28 x29 x30 x31 =>
(match (bnd x29 (List.length x30 : Int)) with
| true => let v32 : (List Int) := (List.set x30 (Int.toNat x29) (0 : Int));
let v33 := (IntKind.i64.wrap (x28 + (1 : Int)));
kc x25 x26 x27 x31 v33 v32
| false => none))
| false => none))
| false => none)))
| false => none)
| false => k1 x2 x4)
theorem q28_10 (F51 : FT51) (F67 : FT67) (F68 : FT68) (F69 : FT69) (F70 : FT70) (F71 : FT71) (F72 : FT72) (L10 : LT28_10) (L21 : LT28_21) (L25 : LT28_25) (L32 : LT28_32) (R : Type) (x : HT (le28_10 L10).H) (kc : HT (le28_10 L10).H → Option R) (ke : KT R (le28_10 L10).exs) :
  exec (e28 F51 F67 F68 F69 F70 F71 F72 L10 L21 L25 L32 R) (lcode 10 (codeOf Tryz.f28)) (stOf (le28_10 L10).H x 1) (roundK (le28_10 L10).H (le28_10 L10).exs kc ke) =
    p28_10 F51 F67 F68 F69 F70 L21 R x.1 x.2.1 x.2.2.1 x.2.2.2.1 x.2.2.2.2.1 x.2.2.2.2.2.1 (fun x1 x2 x3 x4 x5 x6 => kc (x1, x2, x3, x4, x5, x6, ())) (fun y1 => ke.1 (y1, ())) (fun y1 y2 => ke.2.1 (y1, y2, ())) := by kernel_rfl
noncomputable def G28_10 : Nat → LT28_10
  | 0 => fun _ _ _ _ _ _ _ _ _ => none
  | n + 1 => fun R x1 x2 x3 x4 x5 x6 k0 k1 => p28_10 F51 F67 F68 F69 F70 (G28_21 FUEL) R x1 x2 x3 x4 x5 x6 (fun x1 x2 x3 x4 x5 x6 => G28_10 n R x1 x2 x3 x4 x5 x6 k0 k1) k0 k1
def p28_32 (F68 : FT68) (F71 : FT71) (F72 : FT72) : (R : Type) → Int → (List (List Int)) → (List Int) → Int → (Int → (List (List Int)) → (List Int) → Int → Option R) → ((List Int) → Option R) → Option R := fun R x1 x2 x3 x4 kc k0 =>
let v5 := (decide (x4 ≤ x1));
(match v5 with
| true => let v6 := (IntKind.i64.wrap (x1 - x4));
F68 R v6 fun y7 y8 =>
(match (bnd x4 (List.length x2 : Int)) with
| true => let v9 : (List Int) := (List.getD x2 (Int.toNat x4) ([] : (List Int)));
F71 R v9 y7 fun y10 =>
F72 R x3 y10 fun y11 =>
let v12 := (IntKind.i64.wrap (x4 + (1 : Int)));
kc x1 x2 y11 v12
| false => none)
| false => k0 x3)
theorem q28_32 (F51 : FT51) (F67 : FT67) (F68 : FT68) (F69 : FT69) (F70 : FT70) (F71 : FT71) (F72 : FT72) (L10 : LT28_10) (L21 : LT28_21) (L25 : LT28_25) (L32 : LT28_32) (R : Type) (x : HT (le28_32 L32).H) (kc : HT (le28_32 L32).H → Option R) (ke : KT R (le28_32 L32).exs) :
  exec (e28 F51 F67 F68 F69 F70 F71 F72 L10 L21 L25 L32 R) (lcode 32 (codeOf Tryz.f28)) (stOf (le28_32 L32).H x 0) (roundK (le28_32 L32).H (le28_32 L32).exs kc ke) =
    p28_32 F68 F71 F72 R x.1 x.2.1 x.2.2.1 x.2.2.2.1 (fun x1 x2 x3 x4 => kc (x1, x2, x3, x4, ())) (fun y1 => ke.1 (y1, ())) := by kernel_rfl
noncomputable def G28_32 : Nat → LT28_32
  | 0 => fun _ _ _ _ _ _ => none
  | n + 1 => fun R x1 x2 x3 x4 k0 => p28_32 F68 F71 F72 R x1 x2 x3 x4 (fun x1 x2 x3 x4 => G28_32 n R x1 x2 x3 x4 k0) k0
def p28 (F51 : FT51) (L10 : LT28_10) (L32 : LT28_32) : FT28 := fun R a0 a1 a2 a3 k =>
let v1 := (List.length a0 : Int);
let v2 := (decide (v1 > (16 : Int)));
(match v2 with
| true => k ([] : (List Int)) (1 : Int)
| false => let v3 := (decide (a1 < (0 : Int)));
(match v3 with
| true => k ([] : (List Int)) (1 : Int)
| false => let v4 := (decide (a1 > (256 : Int)));
(match v4 with
| true => k ([] : (List Int)) (1 : Int)
| false => let v5 := (decide (a2 < (1 : Int)));
(match v5 with
| true => k ([] : (List Int)) (1 : Int)
| false => let v6 := (decide (a2 > (8 : Int)));
(match v6 with
| true => k ([] : (List Int)) (1 : Int)
| false => F51 R a3 fun y7 y8 =>
let v9 := (y8 != (0 : Int));
(match v9 with
| true => k ([] : (List Int)) y8
| false => let v10 : (List Int) := ([] : (List Int));
(match (decide (List.length v10 + List.length a3 ≤ 17592186044416)) with
| true => let v11 : (List Int) := (v10 ++ a3);
let v12 := (IntKind.i64.wrap (a1 + (1 : Int)));
(match (decide (0 ≤ v12 ∧ v12 ≤ v12 ∧ v12 ≤ (5864062014805 : Int))) with
| true => let v13 : (List (List Int)) := (List.replicate (Int.toNat v12) ([] : (List Int)));
let v14 : (List Int) := ([(1 : Int)] : (List Int));
(match (bnd (0 : Int) (List.length v13 : Int)) with
| true => let v15 : (List (List Int)) := (List.set v13 0 v14);
L10 R a0 a1 a2 v15 (0 : Int) v11 (fun x16 =>
k ([] : (List Int)) x16) (fun x17 x18 =>
L32 R x17 x18 ([] : (List Int)) (0 : Int) (fun x19 =>
k x19 (0 : Int)))
| false => none)
| false => none)
| false => none)))))))
theorem q28 (F51 : FT51) (F67 : FT67) (F68 : FT68) (F69 : FT69) (F70 : FT70) (F71 : FT71) (F72 : FT72) (L10 : LT28_10) (L21 : LT28_21) (L25 : LT28_25) (L32 : LT28_32) (F : FT28) (R : Type) (x : AT (en28 F).ins) (k : RT (en28 F).outs → PT (en28 F).ins → Option R) :
  xfun (e28 F51 F67 F68 F69 F70 F71 F72 L10 L21 L25 L32 R) (codeOf Tryz.f28) res28 (avs (en28 F).ins x) (finK (en28 F).outs (en28 F).ins k) = p28 F51 L10 L32 R x.1 x.2.1 x.2.2.1 x.2.2.2.1 (fun y1 y2 => k (y1, y2, ()) ()) := by kernel_rfl
noncomputable def F28 : FT28 := p28 F51 (G28_10 FUEL) (G28_32 FUEL)
theorem env28 (R : Type) : EnvOK Tryz.prog (e28 F51 F67 F68 F69 F70 F71 F72 (G28_10 FUEL) (G28_21 FUEL) (G28_25 FUEL) (G28_32 FUEL) R) := ⟨tabOK, eqOK, callOf_ok (allE_cons ok51 (allE_cons ok67 (allE_cons ok68 (allE_cons ok69 (allE_cons ok70 (allE_cons ok71 (allE_cons ok72 allE_nil))))))), noIns, inlOK_nil⟩
noncomputable def T28_25 : (R : Type) → HT (le28_25 (G28_25 FUEL)).H → (HT (le28_25 (G28_25 FUEL)).H → Option R) → KT R (le28_25 (G28_25 FUEL)).exs → Option R := fun R x kc ke => p28_25 F71 F72 R x.1 x.2.1 x.2.2.1 x.2.2.2.1 x.2.2.2.2.1 x.2.2.2.2.2.1 x.2.2.2.2.2.2.1 x.2.2.2.2.2.2.2.1 x.2.2.2.2.2.2.2.2.1 x.2.2.2.2.2.2.2.2.2.1 x.2.2.2.2.2.2.2.2.2.2.1 x.2.2.2.2.2.2.2.2.2.2.2.1 x.2.2.2.2.2.2.2.2.2.2.2.2.1 (fun x1 x2 x3 x4 x5 x6 x7 x8 x9 x10 x11 x12 x13 => kc (x1, x2, x3, x4, x5, x6, x7, x8, x9, x10, x11, x12, x13, ())) (fun y1 y2 y3 y4 y5 y6 y7 y8 y9 y10 y11 => ke.1 (y1, y2, y3, y4, y5, y6, y7, y8, y9, y10, y11, ()))
theorem it28_25 : ∀ (n : Nat) (R : Type) (x : HT (le28_25 (G28_25 FUEL)).H) (ke : KT R (le28_25 (G28_25 FUEL)).exs), iter T28_25 n R x ke = G28_25 n R x.1 x.2.1 x.2.2.1 x.2.2.2.1 x.2.2.2.2.1 x.2.2.2.2.2.1 x.2.2.2.2.2.2.1 x.2.2.2.2.2.2.2.1 x.2.2.2.2.2.2.2.2.1 x.2.2.2.2.2.2.2.2.2.1 x.2.2.2.2.2.2.2.2.2.2.1 x.2.2.2.2.2.2.2.2.2.2.2.1 x.2.2.2.2.2.2.2.2.2.2.2.2.1 (fun y1 y2 y3 y4 y5 y6 y7 y8 y9 y10 y11 => ke.1 (y1, y2, y3, y4, y5, y6, y7, y8, y9, y10, y11, ())) := by
  intro n
  induction n with
  | zero => intro R x ke; rfl
  | succ n ih =>
    intro R x ke
    show T28_25 R x (fun x' => iter T28_25 n R x' ke) ke = _
    rw [show (fun x' => iter T28_25 n R x' ke) = fun x => G28_25 n R x.1 x.2.1 x.2.2.1 x.2.2.2.1 x.2.2.2.2.1 x.2.2.2.2.2.1 x.2.2.2.2.2.2.1 x.2.2.2.2.2.2.2.1 x.2.2.2.2.2.2.2.2.1 x.2.2.2.2.2.2.2.2.2.1 x.2.2.2.2.2.2.2.2.2.2.1 x.2.2.2.2.2.2.2.2.2.2.2.1 x.2.2.2.2.2.2.2.2.2.2.2.2.1 (fun y1 y2 y3 y4 y5 y6 y7 y8 y9 y10 y11 => ke.1 (y1, y2, y3, y4, y5, y6, y7, y8, y9, y10, y11, ())) from funext fun x' => ih R x' ke]
    rfl
theorem lok28_25 : (le28_25 (G28_25 FUEL)).OK Tryz.prog 0 188 (lcode 25 (codeOf Tryz.f28)) := fun R x ke r h =>
  iter_sound (fun R => e28 F51 F67 F68 F69 F70 F71 F72 (G28_10 FUEL) (G28_21 FUEL) (G28_25 FUEL) (G28_32 FUEL) R) 0 188 (fun _ => rfl) (fun _ => rfl) (fun R => env28 R) mixed (by
    intro R
    rw [show loopsOf (lcode 25 (codeOf Tryz.f28)) = [] from by kernel_rfl]
    exact allM_nil) (T := T28_25) (fun R x kc ke => q28_25 F51 F67 F68 F69 F70 F71 F72 (G28_10 FUEL) (G28_21 FUEL) (G28_25 FUEL) (G28_32 FUEL) R x kc ke) FUEL R x ke r ((it28_25 FUEL R x ke).trans h)
noncomputable def T28_21 : (R : Type) → HT (le28_21 (G28_21 FUEL)).H → (HT (le28_21 (G28_21 FUEL)).H → Option R) → KT R (le28_21 (G28_21 FUEL)).exs → Option R := fun R x kc ke => p28_21 F70 F71 (G28_25 FUEL) R x.1 x.2.1 x.2.2.1 x.2.2.2.1 x.2.2.2.2.1 x.2.2.2.2.2.1 x.2.2.2.2.2.2.1 x.2.2.2.2.2.2.2.1 x.2.2.2.2.2.2.2.2.1 x.2.2.2.2.2.2.2.2.2.1 x.2.2.2.2.2.2.2.2.2.2.1 (fun x1 x2 x3 x4 x5 x6 x7 x8 x9 x10 x11 => kc (x1, x2, x3, x4, x5, x6, x7, x8, x9, x10, x11, ())) (fun y1 y2 y3 y4 y5 y6 y7 => ke.1 (y1, y2, y3, y4, y5, y6, y7, ()))
theorem it28_21 : ∀ (n : Nat) (R : Type) (x : HT (le28_21 (G28_21 FUEL)).H) (ke : KT R (le28_21 (G28_21 FUEL)).exs), iter T28_21 n R x ke = G28_21 n R x.1 x.2.1 x.2.2.1 x.2.2.2.1 x.2.2.2.2.1 x.2.2.2.2.2.1 x.2.2.2.2.2.2.1 x.2.2.2.2.2.2.2.1 x.2.2.2.2.2.2.2.2.1 x.2.2.2.2.2.2.2.2.2.1 x.2.2.2.2.2.2.2.2.2.2.1 (fun y1 y2 y3 y4 y5 y6 y7 => ke.1 (y1, y2, y3, y4, y5, y6, y7, ())) := by
  intro n
  induction n with
  | zero => intro R x ke; rfl
  | succ n ih =>
    intro R x ke
    show T28_21 R x (fun x' => iter T28_21 n R x' ke) ke = _
    rw [show (fun x' => iter T28_21 n R x' ke) = fun x => G28_21 n R x.1 x.2.1 x.2.2.1 x.2.2.2.1 x.2.2.2.2.1 x.2.2.2.2.2.1 x.2.2.2.2.2.2.1 x.2.2.2.2.2.2.2.1 x.2.2.2.2.2.2.2.2.1 x.2.2.2.2.2.2.2.2.2.1 x.2.2.2.2.2.2.2.2.2.2.1 (fun y1 y2 y3 y4 y5 y6 y7 => ke.1 (y1, y2, y3, y4, y5, y6, y7, ())) from funext fun x' => ih R x' ke]
    rfl
theorem lok28_21 : (le28_21 (G28_21 FUEL)).OK Tryz.prog 0 188 (lcode 21 (codeOf Tryz.f28)) := fun R x ke r h =>
  iter_sound (fun R => e28 F51 F67 F68 F69 F70 F71 F72 (G28_10 FUEL) (G28_21 FUEL) (G28_25 FUEL) (G28_32 FUEL) R) 0 188 (fun _ => rfl) (fun _ => rfl) (fun R => env28 R) mixed (by
    intro R
    rw [show loopsOf (lcode 21 (codeOf Tryz.f28)) = [lcode 25 (codeOf Tryz.f28)] from by kernel_rfl]
    exact (allM_cons (loop_ok2 (e := le28_25 (G28_25 FUEL)) rfl rfl lok28_25) allM_nil)) (T := T28_21) (fun R x kc ke => q28_21 F51 F67 F68 F69 F70 F71 F72 (G28_10 FUEL) (G28_21 FUEL) (G28_25 FUEL) (G28_32 FUEL) R x kc ke) FUEL R x ke r ((it28_21 FUEL R x ke).trans h)
noncomputable def T28_10 : (R : Type) → HT (le28_10 (G28_10 FUEL)).H → (HT (le28_10 (G28_10 FUEL)).H → Option R) → KT R (le28_10 (G28_10 FUEL)).exs → Option R := fun R x kc ke => p28_10 F51 F67 F68 F69 F70 (G28_21 FUEL) R x.1 x.2.1 x.2.2.1 x.2.2.2.1 x.2.2.2.2.1 x.2.2.2.2.2.1 (fun x1 x2 x3 x4 x5 x6 => kc (x1, x2, x3, x4, x5, x6, ())) (fun y1 => ke.1 (y1, ())) (fun y1 y2 => ke.2.1 (y1, y2, ()))
theorem it28_10 : ∀ (n : Nat) (R : Type) (x : HT (le28_10 (G28_10 FUEL)).H) (ke : KT R (le28_10 (G28_10 FUEL)).exs), iter T28_10 n R x ke = G28_10 n R x.1 x.2.1 x.2.2.1 x.2.2.2.1 x.2.2.2.2.1 x.2.2.2.2.2.1 (fun y1 => ke.1 (y1, ())) (fun y1 y2 => ke.2.1 (y1, y2, ())) := by
  intro n
  induction n with
  | zero => intro R x ke; rfl
  | succ n ih =>
    intro R x ke
    show T28_10 R x (fun x' => iter T28_10 n R x' ke) ke = _
    rw [show (fun x' => iter T28_10 n R x' ke) = fun x => G28_10 n R x.1 x.2.1 x.2.2.1 x.2.2.2.1 x.2.2.2.2.1 x.2.2.2.2.2.1 (fun y1 => ke.1 (y1, ())) (fun y1 y2 => ke.2.1 (y1, y2, ())) from funext fun x' => ih R x' ke]
    rfl
theorem lok28_10 : (le28_10 (G28_10 FUEL)).OK Tryz.prog 0 188 (lcode 10 (codeOf Tryz.f28)) := fun R x ke r h =>
  iter_sound (fun R => e28 F51 F67 F68 F69 F70 F71 F72 (G28_10 FUEL) (G28_21 FUEL) (G28_25 FUEL) (G28_32 FUEL) R) 0 188 (fun _ => rfl) (fun _ => rfl) (fun R => env28 R) mixed (by
    intro R
    rw [show loopsOf (lcode 10 (codeOf Tryz.f28)) = [lcode 21 (codeOf Tryz.f28)] from by kernel_rfl]
    exact (allM_cons (loop_ok2 (e := le28_21 (G28_21 FUEL)) rfl rfl lok28_21) allM_nil)) (T := T28_10) (fun R x kc ke => q28_10 F51 F67 F68 F69 F70 F71 F72 (G28_10 FUEL) (G28_21 FUEL) (G28_25 FUEL) (G28_32 FUEL) R x kc ke) FUEL R x ke r ((it28_10 FUEL R x ke).trans h)
noncomputable def T28_32 : (R : Type) → HT (le28_32 (G28_32 FUEL)).H → (HT (le28_32 (G28_32 FUEL)).H → Option R) → KT R (le28_32 (G28_32 FUEL)).exs → Option R := fun R x kc ke => p28_32 F68 F71 F72 R x.1 x.2.1 x.2.2.1 x.2.2.2.1 (fun x1 x2 x3 x4 => kc (x1, x2, x3, x4, ())) (fun y1 => ke.1 (y1, ()))
theorem it28_32 : ∀ (n : Nat) (R : Type) (x : HT (le28_32 (G28_32 FUEL)).H) (ke : KT R (le28_32 (G28_32 FUEL)).exs), iter T28_32 n R x ke = G28_32 n R x.1 x.2.1 x.2.2.1 x.2.2.2.1 (fun y1 => ke.1 (y1, ())) := by
  intro n
  induction n with
  | zero => intro R x ke; rfl
  | succ n ih =>
    intro R x ke
    show T28_32 R x (fun x' => iter T28_32 n R x' ke) ke = _
    rw [show (fun x' => iter T28_32 n R x' ke) = fun x => G28_32 n R x.1 x.2.1 x.2.2.1 x.2.2.2.1 (fun y1 => ke.1 (y1, ())) from funext fun x' => ih R x' ke]
    rfl
theorem lok28_32 : (le28_32 (G28_32 FUEL)).OK Tryz.prog 0 188 (lcode 32 (codeOf Tryz.f28)) := fun R x ke r h =>
  iter_sound (fun R => e28 F51 F67 F68 F69 F70 F71 F72 (G28_10 FUEL) (G28_21 FUEL) (G28_25 FUEL) (G28_32 FUEL) R) 0 188 (fun _ => rfl) (fun _ => rfl) (fun R => env28 R) mixed (by
    intro R
    rw [show loopsOf (lcode 32 (codeOf Tryz.f28)) = [] from by kernel_rfl]
    exact allM_nil) (T := T28_32) (fun R x kc ke => q28_32 F51 F67 F68 F69 F70 F71 F72 (G28_10 FUEL) (G28_21 FUEL) (G28_25 FUEL) (G28_32 FUEL) R x kc ke) FUEL R x ke r ((it28_32 FUEL R x ke).trans h)
theorem ok28 : (en28 F28).OK Tryz.prog :=
  ent_ok (Ef := fun R => e28 F51 F67 F68 F69 F70 F71 F72 (G28_10 FUEL) (G28_21 FUEL) (G28_25 FUEL) (G28_32 FUEL) R) (fun R => env28 R) mixed Tryz.func28 (body := codeOf Tryz.f28) (by kernel_rfl) (by kernel_rfl) (np := 0) (nt := 188) (fun _ => rfl) (fun _ => rfl) (by kernel_rfl) (res := res28) (by kernel_rfl) (fun _ => rfl) (fun _ => Nat.le_of_ble_eq_true rfl) (by
    intro R
    rw [show loopsOf (codeOf Tryz.f28) = [lcode 10 (codeOf Tryz.f28), lcode 32 (codeOf Tryz.f28)] from by kernel_rfl]
    exact (allM_cons (loop_ok2 (e := le28_10 (G28_10 FUEL)) rfl rfl lok28_10) (allM_cons (loop_ok2 (e := le28_32 (G28_32 FUEL)) rfl rfl lok28_32) allM_nil))) (fun R x k => q28 F51 F67 F68 F69 F70 F71 F72 (G28_10 FUEL) (G28_21 FUEL) (G28_25 FUEL) (G28_32 FUEL) F28 R x k)
abbrev FT7 : Type 1 := (R : Type) → (List Int) → (List Int) → (List Int) → (Bool → Option R) → Option R
def en7 (F : FT7) : Ent := ⟨7, [(false, (.sl (.int .i64))), (false, (.arr 2 (.int .i64))), (false, (.sl (.int .u64)))], [(false, .bool)], fun R x k => F R x.1 x.2.1 x.2.2.1 (fun y1 => k (y1, ()) ())⟩
def res7 : List (ResultVar × TypeId × Bool) := [(.tmp 6, 4, false)]
noncomputable def e7 (F18 : FT18) (F21 : FT21) (F27 : FT27) (F28 : FT28) (F29 : FT29) (R : Type) : Env R := ⟨TT, EQT, 0, 58, ownOf [(5, 0)], callOf [en18 F18, en21 F21, en27 F27, en28 F28, en29 F29] R, loopOf [] R, [], inlOf []⟩
def p7 (F18 : FT18) (F21 : FT21) (F27 : FT27) (F28 : FT28) (F29 : FT29) : FT7 := fun R a0 a1 a2 k =>
F18 R  fun y1 =>
(match (!y1) with
| true => k false
| false => let v2 := (List.length a2 : Int);
let v3 := (decide (v2 > (60 : Int)));
(match v3 with
| true => k true
| false => let v4 := (List.length a0 : Int);
let v5 := (decide (v4 > (30 : Int)));
(match v5 with
| true => k true
| false => let v6 : (List Int) := ([] : (List Int));
(match (decide (List.length v6 + List.length a0 ≤ 17592186044416)) with
| true => let v7 : (List Int) := (v6 ++ a0);
let v8 := (List.getD a1 0 (0 : Int));
let v9 := (List.getD a1 1 (0 : Int));
F27 R v7 v8 v9 a2 fun y10 y11 =>
let v12 := (List.getD a1 0 (0 : Int));
let v13 := (List.getD a1 1 (0 : Int));
F28 R a0 v12 v13 a2 fun y14 y15 =>
F29 R y10 y14 fun y16 =>
(match y16 with
| true => let v17 := (y11 == y15);
(match v17 with
| true => F21 R v7 a0 fun y18 =>
k y18
| false => k false)
| false => k false)
| false => none))))
theorem q7 (F18 : FT18) (F21 : FT21) (F27 : FT27) (F28 : FT28) (F29 : FT29) (F : FT7) (R : Type) (x : AT (en7 F).ins) (k : RT (en7 F).outs → PT (en7 F).ins → Option R) :
  xfun (e7 F18 F21 F27 F28 F29 R) (codeOf Tryz.f7) res7 (avs (en7 F).ins x) (finK (en7 F).outs (en7 F).ins k) = p7 F18 F21 F27 F28 F29 R x.1 x.2.1 x.2.2.1 (fun y1 => k (y1, ()) ()) := by kernel_rfl
noncomputable def F7 : FT7 := p7 F18 F21 F27 F28 F29
theorem env7 (R : Type) : EnvOK Tryz.prog (e7 F18 F21 F27 F28 F29 R) := ⟨tabOK, eqOK, callOf_ok (allE_cons ok18 (allE_cons ok21 (allE_cons ok27 (allE_cons ok28 (allE_cons ok29 allE_nil))))), noIns, inlOK_nil⟩
theorem ok7 : (en7 F7).OK Tryz.prog :=
  ent_ok (Ef := fun R => e7 F18 F21 F27 F28 F29 R) (fun R => env7 R) mixed Tryz.func7 (body := codeOf Tryz.f7) (by kernel_rfl) (by kernel_rfl) (np := 0) (nt := 58) (fun _ => rfl) (fun _ => rfl) (by kernel_rfl) (res := res7) (by kernel_rfl) (fun _ => rfl) (fun _ => Nat.le_of_ble_eq_true rfl) (by
    intro R
    rw [show loopsOf (codeOf Tryz.f7) = [] from by kernel_rfl]
    exact allM_nil) (fun R x k => q7 F18 F21 F27 F28 F29 F7 R x k)
end Go.PG
namespace Go.PG
end Go.PG
namespace Go.PG
theorem F193_eq (R : Type) {x : Int} (hx : U32 x) {r : Nat} (h0 : 0 < r) (hr : r < 32) (k : Int → Option R) : F193 R x (r : Int) k = k (rotS x r) := by
  simp only [F193, p193]
  rw [wrap_u64 (n := (r : Int)) (by omega) (by omega), Int.tmod_eq_of_lt (by omega) (by omega), wrap_u64 (by omega) (by omega)]
  rw [show decide (0 ≤ (r : Int)) = true by simp, show decide (0 ≤ (32 : Int) - r) = true by simp; omega]
  simp only
  rw [rot_or hx h0 hr]
def shrS (x : Int) (r : Nat) : Int := x / 2 ^ r
theorem shr_eq {x : Int} (hx : U32 x) {r : Nat} (hr : r ≤ 32) : ishr .u32 x r = shrS x r := by
  unfold ishr shrS
  rw [show IntKind.u32.bits = 32 from rfl, show ((r : Int).toNat) = r by simp, Nat.min_eq_left hr, Int.fdiv_eq_ediv_of_nonneg _ (by have := two_pow_pos r; omega)]
theorem F194_eq (R : Type) {x : Int} (hx : U32 x) {r : Nat} (hr : r ≤ 32) (k : Int → Option R) : F194 R x (r : Int) k = k (shrS x r) := by
  simp only [F194, p194]
  have e : (if (0 : Int) > (r : Int) then (0 : Int) else (r : Int)) = r := by split <;> omega
  rw [e, wrap_u64 (by omega) (by omega), shr_eq hx hr]
  have hd : decide ((0 : Int) ≤ (r : Int)) = true := by simp
  simp only [hd]
theorem F193_lit (R : Type) {x : Int} (hx : U32 x) {n : Int} (r : Nat) (e : n = (r : Int)) (h0 : 0 < r) (hr : r < 32) (k : Int → Option R) : F193 R x n k = k (rotS x r) := by rw [e]; exact F193_eq R hx h0 hr k
theorem F194_lit (R : Type) {x : Int} (hx : U32 x) {n : Int} (r : Nat) (e : n = (r : Int)) (hr : r ≤ 32) (k : Int → Option R) : F194 R x n k = k (shrS x r) := by rw [e]; exact F194_eq R hx hr k
def sig3 (x : Int) (a b c : Nat) : Int := ixor .u32 (ixor .u32 (rotS x a) (rotS x b)) (rotS x c)
def sig2 (x : Int) (a b c : Nat) : Int := ixor .u32 (ixor .u32 (rotS x a) (rotS x b)) (shrS x c)
theorem F186_eq (R : Type) {x : Int} (hx : U32 x) (k : Int → Option R) : F186 R x k = k (sig2 x 17 19 10) := by
  simp only [F186, p186, F191, p191]
  rw [F193_lit R hx (n := 17) 17 rfl (by omega) (by omega), F193_lit R hx (n := 19) 19 rfl (by omega) (by omega), F194_lit R hx (n := 10) 10 rfl (by omega)]
  simp only [sig2]
theorem F187_eq (R : Type) {x : Int} (hx : U32 x) (k : Int → Option R) : F187 R x k = k (sig2 x 7 18 3) := by
  simp only [F187, p187, F191, p191]
  rw [F193_lit R hx (n := 7) 7 rfl (by omega) (by omega), F193_lit R hx (n := 18) 18 rfl (by omega) (by omega), F194_lit R hx (n := 3) 3 rfl (by omega)]
  simp only [sig2]
def chS (a b c : Int) : Int := ior .u32 (iand .u32 a b) (iand .u32 (IntKind.u32.wrap (4294967295 - a)) c)
def majS (a b c : Int) : Int := ior .u32 (ior .u32 (iand .u32 a b) (iand .u32 a c)) (iand .u32 b c)
theorem F188_eq (R : Type) {a : Int} (ha : U32 a) (b c : Int) (k : Int → Option R) : F188 R a b c k = k (IntKind.u32.wrap (sig3 a 6 11 25 + chS a b c)) := by
  simp only [F188, p188, F192, p192]
  rw [F193_lit R ha (n := 6) 6 rfl (by omega) (by omega), F193_lit R ha (n := 11) 11 rfl (by omega) (by omega), F193_lit R ha (n := 25) 25 rfl (by omega) (by omega)]
  simp only [sig3, chS, choice_eq b c ha]
theorem F189_eq (R : Type) {a : Int} (ha : U32 a) (b c : Int) (k : Int → Option R) : F189 R a b c k = k (IntKind.u32.wrap (sig3 a 2 13 22 + majS a b c)) := by
  simp only [F189, p189, F192, p192]
  rw [F193_lit R ha (n := 2) 2 rfl (by omega) (by omega), F193_lit R ha (n := 13) 13 rfl (by omega) (by omega), F193_lit R ha (n := 22) 22 rfl (by omega) (by omega)]
  simp only [sig3, majS, majority_eq]
def roundS (s : List Int) (w c : Int) : List Int :=
  let t := IntKind.u32.wrap (s.getD 7 0 + sig3 (s.getD 4 0) 6 11 25 + chS (s.getD 4 0) (s.getD 5 0) (s.getD 6 0) + c + w)
  [IntKind.u32.wrap (t + (sig3 (s.getD 0 0) 2 13 22 + majS (s.getD 0 0) (s.getD 1 0) (s.getD 2 0))), s.getD 0 0, s.getD 1 0, s.getD 2 0, IntKind.u32.wrap (s.getD 3 0 + t), s.getD 4 0, s.getD 5 0, s.getD 6 0]
theorem F178_eq (R : Type) {a0 a1 a2 a3 a4 a5 a6 a7 : Int} (h0 : U32 a0) (h4 : U32 a4) (w c : Int) (k : List Int → Option R) : F178 R [a0, a1, a2, a3, a4, a5, a6, a7] w c k = k (roundS [a0, a1, a2, a3, a4, a5, a6, a7] w c) := by
  simp only [F178, p178, List.getD_cons_zero, List.getD_cons_succ]
  rw [F188_eq R h4, F189_eq R h0]
  congr 1
  simp [roundS, lay, List.replicate]
  simp only [wrap_u32_mod]
  refine ⟨?_, ?_⟩ <;> omega
end Go.PG
namespace Go.PG
theorem list8 {l : List Int} (h : l.length = 8) : ∃ a b c d e f g i, l = [a, b, c, d, e, f, g, i] := by
  match l, h with
  | [a, b, c, d, e, f, g, i], _ => exact ⟨a, b, c, d, e, f, g, i, rfl⟩
def AllU8 (l : List Int) : Prop := ∀ x ∈ l, U8 x
def AllU32 (l : List Int) : Prop := ∀ x ∈ l, U32 x
def get32S (a b c d : Int) : Int := ((a * 256 + b) * 256 + c) * 256 + d
theorem FUEL_succ (n : Nat) (h : n ≤ 1000) : ∃ m, FUEL = m + n := ⟨FUEL - n, by rw [FUEL_eq]; omega⟩
theorem ior_shl8 {x b : Int} (hx : 0 ≤ x ∧ x < 16777216) (hb : U8 b) : ior .u32 (ishl .u32 x 8) b = x * 256 + b := by
  unfold U8 at hb
  obtain ⟨n, rfl⟩ : ∃ n : Nat, x = n := ⟨x.toNat, by omega⟩
  obtain ⟨c, rfl⟩ : ∃ c : Nat, b = c := ⟨b.toNat, by omega⟩
  have e2 : ishl .u32 (n : Int) 8 = ((n * 256 : Nat) : Int) := by
    unfold ishl
    rw [show (2 : Int) ^ (min (8 : Int).toNat IntKind.u32.bits) = 256 by decide, wrap_u32 (by omega) (by omega)]
    simp
  rw [e2, ior_u32, BitVec.ofInt_natCast, BitVec.ofInt_natCast, BitVec.toNat_or, BitVec.toNat_ofNat, BitVec.toNat_ofNat, Nat.mod_eq_of_lt (by omega), Nat.mod_eq_of_lt (by omega)]
  have h6 := Nat.shiftLeft_add_eq_or_of_lt (i := 8) (b := c) (by omega) n
  rw [Nat.shiftLeft_eq] at h6
  rw [show n * 256 = n * 2 ^ 8 by rfl, ← h6]
  simp
theorem F185_eq (R : Type) {a b c d : Int} (ha : U8 a) (hb : U8 b) (hc : U8 c) (hd : U8 d) (k : Int → Option R) : F185 R [a, b, c, d] k = k (get32S a b c d) := by
  obtain ⟨m, hm⟩ := FUEL_succ 5 (by omega)
  simp only [F185, p185, hm, G185_2, p185_2]
  have w : ∀ x, U8 x → IntKind.u32.wrap x = x := fun x h => wrap_u32 h.1 (by unfold U8 at h; omega)
  simp [bnd, wrap_i64_def, w a ha, w b hb, w c hc, w d hd]
  have u := ha; have v := hb; have y := hc; have z := hd
  unfold U8 at u v y z
  rw [ior_shl8 (x := 0) (by omega) ha, ior_shl8 (by omega) hb, ior_shl8 (by omega) hc, ior_shl8 (by omega) hd]
  simp [get32S]
theorem get32S_lt {a b c d : Int} (ha : U8 a) (hb : U8 b) (hc : U8 c) (hd : U8 d) : U32 (get32S a b c d) := by
  unfold U8 U32 get32S at *; omega
def word4 (blk : List Int) (i : Nat) : Int := get32S (blk.getD (4 * i) 0) (blk.getD (4 * i + 1) 0) (blk.getD (4 * i + 2) 0) (blk.getD (4 * i + 3) 0)
def planW (l : List Int) (i : Nat) : Int := IntKind.u32.wrap (IntKind.u32.wrap (IntKind.u32.wrap (sig2 (l.getD (i - 2) 0) 17 19 10 + l.getD (i - 7) 0) + sig2 (l.getD (i - 15) 0) 7 18 3) + l.getD (i - 16) 0)
def planStep (blk l : List Int) (i : Nat) : List Int := l.set i (if i < 16 then word4 blk i else planW l i)
def planS (blk : List Int) : List Int := (List.range' 0 64).foldl (planStep blk) (List.replicate 64 0)
theorem getD_all {p : Int → Prop} {l : List Int} (h : ∀ x ∈ l, p x) (h0 : p 0) (i : Nat) : p (l.getD i 0) := by
  rw [List.getD_eq_getElem?_getD]
  cases hi : l[i]? with
  | none => exact h0
  | some x => exact h x (List.mem_of_getElem? hi)
theorem u8_0 : U8 0 := by unfold U8; omega
theorem u32_0 : U32 0 := by unfold U32; omega
theorem AllU32.set {l : List Int} (h : AllU32 l) {i : Nat} {x : Int} (hx : U32 x) : AllU32 (l.set i x) := fun y hy => by
  rcases List.mem_or_eq_of_mem_set hy with h1 | h1
  · exact h y h1
  · rw [h1]; exact hx
theorem AllU32.rep (n : Nat) : AllU32 (List.replicate n 0) := fun y hy => by rw [List.eq_of_mem_replicate hy]; exact u32_0
theorem word4_lt {blk : List Int} (h : AllU8 blk) (i : Nat) : U32 (word4 blk i) := get32S_lt (getD_all h u8_0 _) (getD_all h u8_0 _) (getD_all h u8_0 _) (getD_all h u8_0 _)
theorem planStep_ok {blk l : List Int} (hb : AllU8 blk) (hl : l.length = 64) (h : AllU32 l) (i : Nat) : (planStep blk l i).length = 64 ∧ AllU32 (planStep blk l i) := by
  unfold planStep
  refine ⟨by simpa using hl, h.set ?_⟩
  split
  · exact word4_lt hb i
  · exact wrap_lt32 _
theorem take4 {l : List Int} {i : Nat} (h : i + 4 ≤ l.length) : List.take 4 (List.drop i l) = [l.getD i 0, l.getD (i + 1) 0, l.getD (i + 2) 0, l.getD (i + 3) 0] := by
  have e0 : List.drop i l = l[i] :: List.drop (i + 1) l := List.drop_eq_getElem_cons (by omega)
  have e1 : List.drop (i + 1) l = l[i + 1] :: List.drop (i + 1 + 1) l := List.drop_eq_getElem_cons (by omega)
  have e2 : List.drop (i + 1 + 1) l = l[i + 1 + 1] :: List.drop (i + 1 + 1 + 1) l := List.drop_eq_getElem_cons (by omega)
  have e3 : List.drop (i + 1 + 1 + 1) l = l[i + 1 + 1 + 1] :: List.drop (i + 1 + 1 + 1 + 1) l := List.drop_eq_getElem_cons (by omega)
  rw [e0, e1, e2, e3]
  show [l[i], l[i + 1], l[i + 1 + 1], l[i + 1 + 1 + 1]] = _
  simp [show i < l.length by omega, show i + 1 < l.length by omega, show i + 2 < l.length by omega, show i + 3 < l.length by omega]
theorem range'_step {i n : Nat} (h : i < n) : List.range' i (n - i) = i :: List.range' (i + 1) (n - (i + 1)) := by
  rw [show n - i = (n - (i + 1)) + 1 by omega, List.range'_succ]
theorem G177_eq (R : Type) {blk : List Int} (hb : blk.length = 64) (h8 : AllU8 blk) (k0 : List Int → Option R) : ∀ (m i : Nat) (l : List Int), i ≤ 64 → 64 - i < m → l.length = 64 → AllU32 l →
    G177_2 m R (i : Int) blk l k0 = k0 ((List.range' i (64 - i)).foldl (planStep blk) l)
  | 0, i, l, _, h, _, _ => by omega
  | m + 1, i, l, h1, h2, hl, hu => by
    simp only [G177_2, p177_2]
    by_cases hi : i < 64
    · have ok := planStep_ok h8 hl hu i
      have ih := G177_eq R hb h8 k0 m (i + 1) (planStep blk l i) (by omega) (by omega) ok.1 ok.2
      rw [range'_step hi, List.foldl_cons, ← ih]
      rw [wrap_i64 (n := 4 * (i : Int)) (by omega) (by omega), wrap_i64 (n := (i : Int) + 1) (by omega) (by omega), wrap_i64 (n := 4 * (i : Int) + 4) (by omega) (by omega)]
      have hd : decide ((i : Int) < 64) = true := by simp; omega
      have hbn : bnd (i : Int) 64 = true := by unfold bnd; simp; omega
      by_cases h16 : i < 16
      · have c1 : decide (4 * (i : Int) < 64) = true := by simp; omega
        have c2 : decide (0 ≤ 4 * (i : Int) ∧ 4 * (i : Int) ≤ 4 * (i : Int) + 4 ∧ 4 * (i : Int) + 4 ≤ 64) = true := by simp; omega
        have c3 : decide ((4 : Int) ≤ ((Int.toNat (4 * (i : Int) + 4 - 4 * (i : Int)) : Nat) : Int)) = true := by simp; omega
        have e1 : (4 * (i : Int)).toNat = 4 * i := by omega
        simp only [hd, c1, c2, c3, e1, hbn]
        rw [take4 (by omega), F185_eq R (getD_all h8 u8_0 _) (getD_all h8 u8_0 _) (getD_all h8 u8_0 _) (getD_all h8 u8_0 _)]
        simp only [planStep, if_pos h16, word4, Int.toNat_natCast]
        rfl
      · have c1 : decide (4 * (i : Int) < 64) = false := by simp; omega
        rw [wrap_i64 (n := (i : Int) - 2) (by omega) (by omega), wrap_i64 (n := (i : Int) - 7) (by omega) (by omega), wrap_i64 (n := (i : Int) - 15) (by omega) (by omega), wrap_i64 (n := (i : Int) - 16) (by omega) (by omega)]
        have b2 : bnd ((i : Int) - 2) 64 = true := by unfold bnd; simp; omega
        have b7 : bnd ((i : Int) - 7) 64 = true := by unfold bnd; simp; omega
        have b15 : bnd ((i : Int) - 15) 64 = true := by unfold bnd; simp; omega
        have b16 : bnd ((i : Int) - 16) 64 = true := by unfold bnd; simp; omega
        have n2 : ((i : Int) - 2).toNat = i - 2 := by omega
        have n7 : ((i : Int) - 7).toNat = i - 7 := by omega
        have n15 : ((i : Int) - 15).toNat = i - 15 := by omega
        have n16 : ((i : Int) - 16).toNat = i - 16 := by omega
        simp only [hd, c1, hbn, b2, b7, b15, b16, n2, n7, n15, n16]
        rw [F186_eq R (getD_all hu u32_0 _), F187_eq R (getD_all hu u32_0 _)]
        simp only [planStep, if_neg h16, planW, Int.toNat_natCast]
        rfl
    · have : i = 64 := by omega
      subst this
      rfl
theorem F177_eq (R : Type) {blk : List Int} (hb : blk.length = 64) (h8 : AllU8 blk) (k : List Int → Option R) : F177 R blk k = k (planS blk) := by
  simp only [F177, p177]
  exact G177_eq R hb h8 _ FUEL 0 (List.replicate 64 0) (by omega) (by rw [FUEL_eq]; omega) (by simp) (AllU32.rep 64)
end Go.PG
namespace Go.PG
def KS : List Int := [1116352408, 1899447441, 3049323471, 3921009573, 961987163, 1508970993, 2453635748, 2870763221, 3624381080, 310598401, 607225278, 1426881987, 1925078388, 2162078206, 2614888103, 3248222580, 3835390401, 4022224774, 264347078, 604807628, 770255983, 1249150122, 1555081692, 1996064986, 2554220882, 2821834349, 2952996808, 3210313671, 3336571891, 3584528711, 113926993, 338241895, 666307205, 773529912, 1294757372, 1396182291, 1695183700, 1986661051, 2177026350, 2456956037, 2730485921, 2820302411, 3259730800, 3345764771, 3516065817, 3600352804, 4094571909, 275423344, 430227734, 506948616, 659060556, 883997877, 958139571, 1322822218, 1537002063, 1747873779, 1955562222, 2024104815, 2227730452, 2361852424, 2428436474, 2756734187, 3204031479, 3329325298]
theorem F176_eq (R : Type) (k : List Int → Option R) : F176 R k = k KS := by kernel_rfl
def roundsStep (plan s : List Int) (i : Nat) : List Int := roundS s (plan.getD i 0) (KS.getD i 0)
theorem roundS_ok {s : List Int} (h : AllU32 s) (w c : Int) : (roundS s w c).length = 8 ∧ AllU32 (roundS s w c) := by
  refine ⟨rfl, fun x hx => ?_⟩
  have g := fun i => getD_all h u32_0 i
  simp only [roundS, List.mem_cons, List.not_mem_nil, or_false] at hx
  rcases hx with rfl | rfl | rfl | rfl | rfl | rfl | rfl | rfl
  · exact wrap_lt32 _
  · exact g 0
  · exact g 1
  · exact g 2
  · exact wrap_lt32 _
  · exact g 4
  · exact g 5
  · exact g 6
theorem F178_eq' (R : Type) {s : List Int} (hl : s.length = 8) (h : AllU32 s) (w c : Int) (k : List Int → Option R) : F178 R s w c k = k (roundS s w c) := by
  obtain ⟨a0, a1, a2, a3, a4, a5, a6, a7, rfl⟩ := list8 hl
  exact F178_eq R (h a0 (by simp)) (h a4 (by simp)) w c k
theorem G171_3_eq (R : Type) (plan : List Int) (x3 x4 : List Int) (k0 : List Int → List Int → List Int → Option R) : ∀ (m i : Nat) (s : List Int), i ≤ 64 → 64 - i < m → s.length = 8 → AllU32 s →
    G171_3 m R plan (i : Int) x3 x4 s KS k0 = k0 x3 x4 ((List.range' i (64 - i)).foldl (roundsStep plan) s)
  | 0, i, s, _, h, _, _ => by omega
  | m + 1, i, s, h1, h2, hl, hu => by
    simp only [G171_3, p171_3]
    by_cases hi : i < 64
    · have ok := roundS_ok hu (plan.getD i 0) (KS.getD i 0)
      have ih := G171_3_eq R plan x3 x4 k0 m (i + 1) (roundsStep plan s i) (by omega) (by omega) ok.1 ok.2
      rw [range'_step hi, List.foldl_cons, ← ih, wrap_i64 (n := (i : Int) + 1) (by omega) (by omega)]
      have hd : decide ((i : Int) < 64) = true := by simp; omega
      have hbn : bnd (i : Int) 64 = true := by unfold bnd; simp; omega
      simp only [hd, hbn, Int.toNat_natCast]
      rw [F178_eq' R hl hu]
      rfl
    · have : i = 64 := by omega
      subst this
      rfl
def addStep (a l : List Int) (i : Nat) : List Int := l.set i (IntKind.u32.wrap (l.getD i 0 + a.getD i 0))
theorem addStep_ok {a l : List Int} (hl : l.length = 8) (h : AllU32 l) (i : Nat) : (addStep a l i).length = 8 ∧ AllU32 (addStep a l i) := ⟨by simpa [addStep] using hl, h.set (wrap_lt32 _)⟩
theorem G171_8_eq (R : Type) (a x3 : List Int) (k0 : List Int → List Int → Option R) : ∀ (m i : Nat) (l : List Int), i ≤ 8 → 8 - i < m → G171_8 m R (i : Int) a x3 l k0 = k0 x3 ((List.range' i (8 - i)).foldl (addStep a) l)
  | 0, i, l, _, h => by omega
  | m + 1, i, l, h1, h2 => by
    simp only [G171_8, p171_8]
    by_cases hi : i < 8
    · have ih := G171_8_eq R a x3 k0 m (i + 1) (addStep a l i) (by omega) (by omega)
      rw [range'_step hi, List.foldl_cons, ← ih, wrap_i64 (n := (i : Int) + 1) (by omega) (by omega)]
      have hd : decide ((i : Int) < 8) = true := by simp; omega
      have hbn : bnd (i : Int) 8 = true := by unfold bnd; simp; omega
      simp only [hd, hbn, Int.toNat_natCast]
      rfl
    · have : i = 8 := by omega
      subst this
      rfl
def takeS (st blk : List Int) : List Int := (List.range' 0 8).foldl (addStep st) ((List.range' 0 64).foldl (roundsStep (planS blk)) st)
theorem F171_eq (R : Type) {st blk : List Int} (hl : st.length = 8) (hu : AllU32 st) (hb : blk.length = 64) (h8 : AllU8 blk) (k : List Int → Option R) : F171 R st blk k = k (takeS st blk) := by
  simp only [F171, p171]
  rw [F176_eq, F177_eq R hb h8]
  refine (G171_3_eq R (planS blk) st (List.replicate 8 0) (fun x3 x4 x5 => G171_8 FUEL R 0 x3 x4 x5 fun x6 x7 => k x7) FUEL 0 st (by omega) (by rw [FUEL_eq]; omega) hl hu).trans ?_
  exact G171_8_eq R st (List.replicate 8 0) (fun _ x7 => k x7) FUEL 0 _ (by omega) (by rw [FUEL_eq]; omega)
theorem roundsFold_ok (plan : List Int) : ∀ (is : List Nat) (s : List Int), s.length = 8 → AllU32 s → (is.foldl (roundsStep plan) s).length = 8 ∧ AllU32 (is.foldl (roundsStep plan) s)
  | [], s, h1, h2 => ⟨h1, h2⟩
  | i :: is, s, h1, h2 => by
    have ok := roundS_ok h2 (plan.getD i 0) (KS.getD i 0)
    exact roundsFold_ok plan is _ ok.1 ok.2
theorem addFold_ok (a : List Int) : ∀ (is : List Nat) (s : List Int), s.length = 8 → AllU32 s → (is.foldl (addStep a) s).length = 8 ∧ AllU32 (is.foldl (addStep a) s)
  | [], s, h1, h2 => ⟨h1, h2⟩
  | i :: is, s, h1, h2 => by
    have ok := addStep_ok (a := a) h1 h2 i
    exact addFold_ok a is _ ok.1 ok.2
theorem takeS_ok {st : List Int} (blk : List Int) (hl : st.length = 8) (hu : AllU32 st) : (takeS st blk).length = 8 ∧ AllU32 (takeS st blk) := by
  have h := roundsFold_ok (planS blk) (List.range' 0 64) st hl hu
  exact addFold_ok st _ _ h.1 h.2
end Go.PG
namespace Go.PG
def blkF : Nat → List Int → List (List Int)
  | 0, _ => []
  | n + 1, b => if 64 ≤ b.length then b.take 64 :: blkF n (b.drop 64) else []
def tailF : Nat → List Int → List Int
  | 0, b => b
  | n + 1, b => if 64 ≤ b.length then tailF n (b.drop 64) else b
def blkS (b : List Int) : List (List Int) := blkF (b.length / 64 + 1) b
def tailS (b : List Int) : List Int := tailF (b.length / 64 + 1) b
theorem blkF_big : ∀ (n m : Nat) (b : List Int), b.length / 64 < n → b.length / 64 < m → blkF n b = blkF m b
  | 0, _, _, h, _ => by omega
  | _, 0, _, _, h => by omega
  | n + 1, m + 1, b, h1, h2 => by
    simp only [blkF]
    by_cases h : 64 ≤ b.length
    · rw [if_pos h, if_pos h, blkF_big n m (b.drop 64) (by rw [List.length_drop]; omega) (by rw [List.length_drop]; omega)]
    · rw [if_neg h, if_neg h]
theorem tailF_big : ∀ (n m : Nat) (b : List Int), b.length / 64 < n → b.length / 64 < m → tailF n b = tailF m b
  | 0, _, _, h, _ => by omega
  | _, 0, _, _, h => by omega
  | n + 1, m + 1, b, h1, h2 => by
    simp only [tailF]
    by_cases h : 64 ≤ b.length
    · rw [if_pos h, if_pos h, tailF_big n m (b.drop 64) (by rw [List.length_drop]; omega) (by rw [List.length_drop]; omega)]
    · rw [if_neg h, if_neg h]
theorem blkS_step {b : List Int} (h : 64 ≤ b.length) : blkS b = b.take 64 :: blkS (b.drop 64) := by
  unfold blkS
  rw [show blkF (b.length / 64 + 1) b = b.take 64 :: blkF (b.length / 64) (b.drop 64) by simp only [blkF, if_pos h]]
  rw [blkF_big (b.length / 64) ((b.drop 64).length / 64 + 1) (b.drop 64) (by rw [List.length_drop]; omega) (by omega)]
theorem blkS_end {b : List Int} (h : b.length < 64) : blkS b = [] := by
  unfold blkS; simp only [blkF, if_neg (show ¬ 64 ≤ b.length by omega)]
theorem tailS_step {b : List Int} (h : 64 ≤ b.length) : tailS b = tailS (b.drop 64) := by
  unfold tailS
  rw [show tailF (b.length / 64 + 1) b = tailF (b.length / 64) (b.drop 64) by simp only [tailF, if_pos h]]
  rw [tailF_big (b.length / 64) ((b.drop 64).length / 64 + 1) (b.drop 64) (by rw [List.length_drop]; omega) (by omega)]
theorem tailS_end {b : List Int} (h : b.length < 64) : tailS b = b := by
  unfold tailS; simp only [tailF, if_neg (show ¬ 64 ≤ b.length by omega)]
theorem tailS_len : ∀ (n : Nat) (b : List Int), b.length ≤ n → (tailS b).length = b.length % 64 ∧ (blkS b).length = b.length / 64
  | 0, b, h => by
    rw [tailS_end (by omega), blkS_end (by omega)]
    simp; omega
  | n + 1, b, h => by
    by_cases h6 : 64 ≤ b.length
    · have ih := tailS_len n (b.drop 64) (by rw [List.length_drop]; omega)
      rw [tailS_step h6, blkS_step h6, ih.1, List.length_cons, ih.2, List.length_drop]
      omega
    · rw [tailS_end (by omega), blkS_end (by omega)]
      simp; omega
theorem blk_append : ∀ (n : Nat) (a b : List Int), a.length ≤ n → blkS (a ++ b) = blkS a ++ blkS (tailS a ++ b) ∧ tailS (a ++ b) = tailS (tailS a ++ b)
  | 0, a, b, h => by
    rw [blkS_end (show a.length < 64 by omega), tailS_end (show a.length < 64 by omega)]
    exact ⟨rfl, rfl⟩
  | n + 1, a, b, h => by
    by_cases h6 : 64 ≤ a.length
    · have ih := blk_append n (a.drop 64) b (by rw [List.length_drop]; omega)
      have hl : 64 ≤ (a ++ b).length := by rw [List.length_append]; omega
      rw [blkS_step hl, blkS_step h6, tailS_step hl, tailS_step h6, List.take_append_of_le_length h6, List.drop_append_of_le_length h6, ih.1, ih.2]
      exact ⟨rfl, rfl⟩
    · rw [blkS_end (show a.length < 64 by omega), tailS_end (show a.length < 64 by omega)]
      exact ⟨rfl, rfl⟩
theorem G170_eq (R : Type) (k0 : List Int → List (List Int) → Option R) : ∀ (m : Nat) (b : List Int) (acc : List (List Int)), b.length / 64 < m → acc.length + b.length / 64 ≤ 1000000000 → b.length ≤ 100000000000 →
    G170_1 m R b acc k0 = k0 (tailS b) (acc ++ blkS b)
  | 0, b, acc, h, _, _ => by omega
  | m + 1, b, acc, h1, h2, h3 => by
    simp only [G170_1, p170_1]
    by_cases h6 : 64 ≤ b.length
    · have ih := G170_eq R k0 m (b.drop 64) (acc ++ [b.take 64]) (by rw [List.length_drop]; omega) (by rw [List.length_drop, List.length_append]; simp; omega) (by rw [List.length_drop]; omega)
      have c1 : decide ((b.length : Int) ≥ 64) = true := by simp; omega
      have c2 : decide ((64 : Int) ≤ (b.length : Int)) = true := by simp; omega
      have c3 : decide (acc.length + [b.take 64].length ≤ 2199023255552) = true := by simp; omega
      have c4 : decide (0 ≤ (64 : Int) ∧ (64 : Int) ≤ (b.length : Int) ∧ (b.length : Int) ≤ (b.length : Int) ∧ (b.length : Int) ≤ (b.length : Int)) = true := by simp; omega
      have e1 : List.take (Int.toNat ((b.length : Int) - 64)) (List.drop 64 b) = List.drop 64 b := List.take_of_length_le (by rw [List.length_drop]; omega)
      simp only [c1, c2, c3, c4, e1]
      rw [ih, blkS_step h6, tailS_step h6, List.append_assoc]
      rfl
    · have c1 : decide ((b.length : Int) ≥ 64) = false := by simp; omega
      simp only [c1]
      rw [blkS_end (by omega), tailS_end (by omega), List.append_nil]
theorem F170_eq (R : Type) {b : List Int} (h : b.length ≤ 1000000000) (k : List (List Int) → List Int → Option R) : F170 R b k = k (blkS b) (tailS b) := by
  simp only [F170, p170]
  refine (G170_eq R (fun x1 x2 => k x2 x1) FUEL b [] (by rw [FUEL_eq]; omega) (by simp; omega) (by omega)).trans ?_
  rw [List.nil_append]
end Go.PG
namespace Go.PG
abbrev Wr := List Int × List Int × Int × Unit
def foldB (st : List Int) (bs : List (List Int)) : List Int := bs.foldl takeS st
theorem blkS_ok : ∀ (n : Nat) (b : List Int), b.length ≤ n → AllU8 b → (∀ x ∈ blkS b, x.length = 64 ∧ AllU8 x) ∧ AllU8 (tailS b)
  | 0, b, h, h8 => by
    rw [blkS_end (by omega), tailS_end (by omega)]
    exact ⟨fun x hx => (by cases hx), h8⟩
  | n + 1, b, h, h8 => by
    by_cases h6 : 64 ≤ b.length
    · have ih := blkS_ok n (b.drop 64) (by rw [List.length_drop]; omega) (fun x hx => h8 x (List.mem_of_mem_drop hx))
      rw [blkS_step h6, tailS_step h6]
      refine ⟨fun x hx => ?_, ih.2⟩
      rcases List.mem_cons.1 hx with rfl | hx
      · exact ⟨by rw [List.length_take]; omega, fun y hy => h8 y (List.mem_of_mem_take hy)⟩
      · exact ih.1 x hx
    · rw [blkS_end (by omega), tailS_end (by omega)]
      exact ⟨fun x hx => (by cases hx), h8⟩
theorem foldB_ok : ∀ (bs : List (List Int)) {st : List Int}, st.length = 8 → AllU32 st → (foldB st bs).length = 8 ∧ AllU32 (foldB st bs)
  | [], st, h1, h2 => ⟨h1, h2⟩
  | b :: bs, st, h1, h2 => by
    have ok := takeS_ok b h1 h2
    exact foldB_ok bs ok.1 ok.2
theorem G163_eq (R : Type) (rest : List Int) (bs : List (List Int)) (hb : ∀ x ∈ bs, x.length = 64 ∧ AllU8 x) (hn : bs.length ≤ 1000000000) (u : List Int × Int × Unit) (k0 : List Int → (Wr × Unit) → Option R) :
    ∀ (m i : Nat) (st : List Int), i ≤ bs.length → bs.length - i < m → st.length = 8 → AllU32 st → G163_3 m R rest bs (bs.length : Int) (i : Int) ((st, u), ()) k0 = k0 rest ((foldB st (bs.drop i), u), ())
  | 0, i, st, _, h, _, _ => by omega
  | m + 1, i, st, h1, h2, hl, hu => by
    simp only [G163_3, p163_3]
    by_cases hi : i < bs.length
    · have hd : decide ((i : Int) < (bs.length : Int)) = true := by simpa using hi
      have hbn : bnd (i : Int) (bs.length : Int) = true := by unfold bnd; simp; omega
      have hx := hb bs[i] (List.getElem_mem hi)
      have hg : List.getD bs i (List.replicate 64 0) = bs[i] := by simp [hi]
      simp only [hd, hbn, Int.toNat_natCast, hg]
      rw [F171_eq R hl hu hx.1 hx.2, wrap_i64 (by omega) (by omega)]
      have ok := takeS_ok bs[i] hl hu
      have ih := G163_eq R rest bs hb hn u k0 m (i + 1) (takeS st bs[i]) (by omega) (by omega) ok.1 ok.2
      rw [List.drop_eq_getElem_cons hi]
      exact ih
    · have : i = bs.length := by omega
      subst this
      have hd : decide ((bs.length : Int) < (bs.length : Int)) = false := by simp
      simp only [hd]
      rw [List.drop_of_length_le (Nat.le_refl _)]
      rfl
theorem F163_eq (R : Type) {st : List Int} (u : List Int × Int × Unit) {b : List Int} (hl : st.length = 8) (hu : AllU32 st) (h8 : AllU8 b) (hn : b.length ≤ 1000000000) (k : List Int → (Wr × Unit) → Option R) :
    F163 R ((st, u), ()) b k = k (tailS b) ((foldB st (blkS b), u), ()) := by
  simp only [F163, p163]
  rw [F170_eq R hn]
  have ok := blkS_ok b.length b (Nat.le_refl _) h8
  have hlen := (tailS_len b.length b (Nat.le_refl _)).2
  exact G163_eq R (tailS b) (blkS b) ok.1 (by omega) u (fun x4 x5 => k x4 x5) FUEL 0 st (by omega) (by rw [FUEL_eq]; omega) hl hu
theorem F160_eq (R : Type) {st rest part : List Int} {n : Nat} (hl : st.length = 8) (hu : AllU32 st) (hr : AllU8 rest) (hp : AllU8 part) (hlen : rest.length + part.length ≤ 1000000000) (hn : n + part.length ≤ 1000000000) (k : (Wr × Unit) → Option R) :
    F160 R ((st, rest, (n : Int), ()), ()) part k = k ((foldB st (blkS (rest ++ part)), tailS (rest ++ part), ((n + part.length : Nat) : Int), ()), ()) := by
  simp only [F160, p160, F168]
  rw [wrap_u64 (n := (part.length : Int)) (by omega) (by omega), wrap_u64 (by omega) (by omega)]
  have c1 : decide (([] : List Int).length + rest.length ≤ 140737488355328) = true := by simp; omega
  have c2 : decide (rest.length + part.length ≤ 140737488355328) = true := by simp; omega
  simp only [c1, c2]
  have h8 : AllU8 (rest ++ part) := fun x hx => by
    rcases List.mem_append.1 hx with h | h
    · exact hr x h
    · exact hp x h
  rw [F163_eq R _ hl hu h8 (by rw [List.length_append]; omega)]
  congr 1
def wrS (st m : List Int) : Wr := (foldB st (blkS m), tailS m, (m.length : Int), ())
theorem AllU8.append {a b : List Int} (ha : AllU8 a) (hb : AllU8 b) : AllU8 (a ++ b) := fun x hx => by
  rcases List.mem_append.1 hx with h | h
  · exact ha x h
  · exact hb x h
theorem wrS_append (st m p : List Int) : foldB (foldB st (blkS m)) (blkS (tailS m ++ p)) = foldB st (blkS (m ++ p)) ∧ tailS (tailS m ++ p) = tailS (m ++ p) := by
  obtain ⟨h1, h2⟩ := blk_append m.length m p (Nat.le_refl _)
  rw [h1, h2]
  refine ⟨?_, rfl⟩
  unfold foldB
  rw [List.foldl_append]
theorem G151_eq (R : Type) {st : List Int} (hl : st.length = 8) (hu : AllU32 st) (x4 : Wr) (k0 : Int → Wr → Option R) (k1 : Wr → (Wr × Unit) → Option R) : ∀ (n : Nat) (ps done : List (List Int)) (m : List Int), m = done.flatten → AllU8 m → (∀ p ∈ ps, AllU8 p) →
    m.length + ps.flatten.length ≤ 500000000 → (done ++ ps).length ≤ 1000000000 → ps.length < n → G151_5 n R (done ++ ps) ((done ++ ps).length : Int) (done.length : Int) x4 (wrS st m, ()) k0 k1 = k1 x4 (wrS st (m ++ ps.flatten), ())
  | 0, ps, done, m, _, _, _, _, _, h => by omega
  | n + 1, [], done, m, hm, h8, hps, hlen, hnum, h => by
    simp only [G151_5, p151_5]
    have hd : decide ((done.length : Int) < ((done ++ []).length : Int)) = false := by simp
    simp only [hd]
    simp
  | n + 1, p :: ps, done, m, hm, h8, hps, hlen, hnum, h => by
    simp only [G151_5, p151_5]
    have hlt : done.length < (done ++ p :: ps).length := by simp
    have hd : decide ((done.length : Int) < ((done ++ p :: ps).length : Int)) = true := by simp; omega
    have hbn : bnd (done.length : Int) ((done ++ p :: ps).length : Int) = true := by unfold bnd; simp; omega
    have hg : List.getD (done ++ p :: ps) done.length [] = p := by simp
    have hp8 := hps p (by simp)
    have hfl : (p :: ps).flatten = p ++ ps.flatten := by simp
    rw [hfl, List.length_append] at hlen
    have ok := foldB_ok (blkS m) hl hu
    have ok2 := blkS_ok m.length m (Nat.le_refl _) h8
    have tl := (tailS_len m.length m (Nat.le_refl _)).1
    simp only [hd, hbn, Int.toNat_natCast, hg]
    unfold wrS
    rw [F160_eq R ok.1 ok.2 ok2.2 hp8 (by omega) (by omega)]
    obtain ⟨a1, a2⟩ := wrS_append st m p
    rw [a1, a2, ← List.length_append]
    have hb : decide (((m ++ p).length : Int) ≥ 2305843009213693952) = false := by simp; omega
    simp only [hb]
    rw [wrap_i64 (by omega) (by simp at hnum; omega)]
    have ih := G151_eq R hl hu x4 k0 k1 n ps (done ++ [p]) (m ++ p) (by rw [hm]; simp) (h8.append hp8) (fun q hq => hps q (by simp [hq])) (by rw [List.length_append]; omega) (by simpa using hnum) (by simp at h; omega)
    unfold wrS at ih
    rw [hfl, ← List.append_assoc]
    have e1 : done ++ [p] ++ ps = done ++ p :: ps := by simp
    have e2 : (((done ++ [p]).length : Nat) : Int) = (done.length : Int) + 1 := by simp
    rw [e1, e2] at ih
    exact ih
theorem F151_eq (R : Type) {st : List Int} (hl : st.length = 8) (hu : AllU32 st) {ps : List (List Int)} (h8 : ∀ p ∈ ps, AllU8 p) (hlen : ps.flatten.length ≤ 500000000) (hnum : ps.length ≤ 1000000000) (k : Wr → Int → Option R) :
    F151 R (st, [], (0 : Int), ()) ps k = k (wrS st ps.flatten) 0 := by
  have hr : F159 R (st, [], (0 : Int), ()) = fun k => k true := by
    funext k
    simp only [F159, p159]
    rfl
  simp only [F151, p151]
  rw [hr]
  have := G151_eq R hl hu (List.replicate 8 0, [], 0, ()) (fun x3 x4 => k x4 x3) (fun _ x6 => k x6.1 0) FUEL ps [] [] rfl (fun x hx => by cases hx) h8 (by simpa using hlen) (by simpa using hnum) (by rw [FUEL_eq]; omega)
  rw [List.nil_append] at this
  refine Eq.trans ?_ this
  unfold wrS
  rw [blkS_end (by simp), tailS_end (by simp)]
  rfl
end Go.PG
namespace Go.PG
def putS (x : Int) : List Int := [x / 72057594037927936 % 256, x / 281474976710656 % 256, x / 1099511627776 % 256, x / 4294967296 % 256, x / 16777216 % 256, x / 65536 % 256, x / 256 % 256, x % 256]
theorem shr64 {x : Int} (r : Nat) (hr : r ≤ 64) : ishr .u64 x (r : Int) = x / 2 ^ r := by
  unfold ishr
  rw [show IntKind.u64.bits = 64 from rfl, show ((r : Int).toNat) = r by simp, Nat.min_eq_left hr, Int.fdiv_eq_ediv_of_nonneg _ (by have := two_pow_pos r; omega)]
theorem G147_eq (R : Type) (x : Int) (k0 : List Int → Option R) : ∀ (m i : Nat) (l : List Int), i ≤ 8 → 8 - i < m → G147_2 m R x (i : Int) l k0 = k0 ((List.range' i (8 - i)).foldl (fun l i => l.set i (x / 2 ^ (8 * (7 - i)) % 256)) l)
  | 0, i, l, _, h => by omega
  | m + 1, i, l, h1, h2 => by
    simp only [G147_2, p147_2]
    by_cases hi : i < 8
    · have ih := G147_eq R x k0 m (i + 1) (l.set i (x / 2 ^ (8 * (7 - i)) % 256)) (by omega) (by omega)
      rw [range'_step hi, List.foldl_cons, ← ih]
      have hd : decide ((i : Int) < 8) = true := by simp; omega
      have hbn : bnd (i : Int) 8 = true := by unfold bnd; simp; omega
      rw [wrap_i64 (n := 7 - (i : Int)) (by omega) (by omega), wrap_i64 (n := 8 * (7 - (i : Int))) (by omega) (by omega), wrap_u64 (n := 8 * (7 - (i : Int))) (by omega) (by omega), wrap_i64 (n := (i : Int) + 1) (by omega) (by omega)]
      have e1 : 8 * (7 - (i : Int)) = ((8 * (7 - i) : Nat) : Int) := by omega
      have hp : decide ((0 : Int) ≤ ((8 * (7 - i) : Nat) : Int)) = true := decide_eq_true (by omega)
      rw [e1, shr64 _ (by omega), wrap_u8_mod]
      simp only [hd, hbn, hp, Int.toNat_natCast]
      rfl
    · have : i = 8 := by omega
      subst this
      rfl
theorem F147_eq (R : Type) (x : Int) (k : List Int → Option R) : F147 R x k = k (putS x) := by
  simp only [F147, p147]
  refine (G147_eq R x (fun x1 => k x1) FUEL 0 (List.replicate 8 0) (by omega) (by rw [FUEL_eq]; omega)).trans ?_
  congr 1
  simp [List.range'_succ, putS, List.replicate]
end Go.PG
namespace Go.PG
def zerosN (n : Nat) : Nat := (119 - n % 64) % 64
def padT (rest : List Int) (n : Nat) : List Int := rest ++ 128 :: (List.replicate (zerosN n) 0 ++ putS (8 * (n : Int)))
theorem F169_eq (R : Type) {n : Nat} (hn : n ≤ 1000000000) (k : Int → Option R) : F169 R (n : Int) k = k (((n + 72) / 64 : Nat) : Int) := by
  simp only [F169, p169]
  have c0 : decide ((n : Int) ≥ 2305843009213693952) = false := by simp; omega
  simp only [c0]
  rw [wrap_u64 (n := (n : Int) + 8) (by omega) (by omega), wrap_u64 (n := (n : Int) + 8 + 64) (by omega) (by omega), Int.tdiv_eq_ediv_of_nonneg (by omega), wrap_u64 (by omega) (by omega)]
  congr 1
theorem lay_mid {a b c xs : List Int} (h : xs.length = b.length) : lay (a ++ b ++ c) a.length xs = a ++ xs ++ c := by
  unfold lay
  have e1 : List.take a.length (a ++ b ++ c) = a := by rw [List.append_assoc, List.take_left]
  have e2 : List.drop (a.length + xs.length) (a ++ b ++ c) = c := by
    rw [h, show a.length + b.length = (a ++ b).length by simp, List.drop_left]
  rw [e1, e2]
theorem F162_eq (R : Type) {rest : List Int} {n : Nat} (hr : rest.length = n % 64) (hn : n ≤ 1000000000) (k : List Int → Bool → Option R) : F162 R rest (n : Int) k = k (padT rest n) true := by
  simp only [F162, p162]
  have c0 : decide ((n : Int) ≥ 2305843009213693952) = false := by simp; omega
  have c1 : (IntKind.u64.wrap (rest.length : Int) != Int.tmod (n : Int) 64) = false := by
    rw [wrap_u64 (by omega) (by omega), Int.tmod_eq_emod_of_nonneg (by omega)]
    simp; omega
  simp only [c0, c1]
  rw [F169_eq R hn, Int.tdiv_eq_ediv_of_nonneg (by omega), wrap_u64 (n := (n : Int) / 64) (by omega) (by omega), wrap_u64 (by omega) (by omega), wrap_i64 (n := (((n + 72) / 64 : Nat) : Int) - (n : Int) / 64) (by omega) (by omega), wrap_i64 (n := _ * 64) (by omega) (by omega)]
  obtain ⟨sz, hsz⟩ : ∃ sz : Nat, ((((n + 72) / 64 : Nat) : Int) - (n : Int) / 64) * 64 = sz := ⟨((n + 72) / 64 - n / 64) * 64, by omega⟩
  have hz : sz = rest.length + 1 + zerosN n + 8 := by unfold zerosN; omega
  rw [hsz]
  have l1 : lay (List.replicate sz (0 : Int)) 0 (List.take (List.replicate sz (0 : Int)).length rest) = rest ++ List.replicate (1 + zerosN n + 8) 0 := by
    unfold lay
    rw [List.take_of_length_le (l := rest) (by simp; omega)]
    simp
    omega
  have l2 : List.set (rest ++ List.replicate (1 + zerosN n + 8) 0) rest.length 128 = (rest ++ 128 :: List.replicate (zerosN n) 0) ++ List.replicate 8 0 ++ [] := by
    rw [List.set_append_right _ _ (Nat.le_refl _), Nat.sub_self, show 1 + zerosN n + 8 = (zerosN n + 8) + 1 by omega, List.replicate_succ, List.set_cons_zero, ← List.replicate_append_replicate]
    simp
  have sh : ishl .u64 (n : Int) 3 = 8 * (n : Int) := by
    unfold ishl
    rw [show (2 : Int) ^ (min (3 : Int).toNat IntKind.u64.bits) = 8 by decide, wrap_u64 (by omega) (by omega)]
    omega
  have hl3 : ((rest ++ 128 :: List.replicate (zerosN n) 0) ++ List.replicate 8 (0 : Int) ++ []).length = sz := by simp; omega
  have d1 : decide (0 ≤ (sz : Int) ∧ (sz : Int) ≤ (sz : Int) ∧ (sz : Int) ≤ 140737488355328) = true := decide_eq_true (by omega)
  have d2 : bnd (rest.length : Int) ((rest ++ List.replicate (1 + zerosN n + 8) (0 : Int)).length : Int) = true := by unfold bnd; simp; omega
  have d3 : decide (0 ≤ (sz : Int) - 8 ∧ (sz : Int) - 8 ≤ (sz : Int) ∧ (sz : Int) ≤ (sz : Int) ∧ (sz : Int) ≤ (sz : Int)) = true := decide_eq_true (by omega)
  have e8 : ((sz : Int) - 8).toNat = (rest ++ 128 :: List.replicate (zerosN n) 0).length := by simp; omega
  have e9 : List.take ((sz : Int) - ((sz : Int) - 8)).toNat (List.take 8 (List.drop 0 (putS (8 * (n : Int))))) = putS (8 * (n : Int)) := by
    rw [show ((sz : Int) - ((sz : Int) - 8)).toNat = 8 by omega]; rfl
  simp only [d1, Int.toNat_natCast, l1, d2, l2, sh]
  rw [F147_eq, wrap_i64 (by omega) (by omega)]
  simp only [hl3, d3, e9, e8]
  rw [lay_mid (by rfl)]
  congr 1
  simp [padT]
end Go.PG
namespace Go.PG
def put32S (a : Int) : List Int := [a / 16777216 % 256, a / 65536 % 256, a / 256 % 256, a % 256]
theorem F172_eq (R : Type) {a : Int} (ha : U32 a) (k : List Int → Option R) : F172 R a k = k (put32S a) := by
  have e24 : ishr .u32 a 24 = a / 16777216 := shr_eq ha (r := 24) (by omega)
  have e16 : ishr .u32 a 16 = a / 65536 := shr_eq ha (r := 16) (by omega)
  have e8 : ishr .u32 a 8 = a / 256 := shr_eq ha (r := 8) (by omega)
  simp only [F172, p172, e24, e16, e8, wrap_u8_mod]
  rfl
def H0 : List Int := [1779033703, 3144134277, 1013904242, 2773480762, 1359893119, 2600822924, 528734635, 1541459225]
theorem F152_eq (R : Type) (k : Wr → Option R) : F152 R k = k (H0, [], 0, ()) := by kernel_rfl
theorem H0_ok : H0.length = 8 ∧ AllU32 H0 := ⟨rfl, fun x hx => by
  simp only [H0, List.mem_cons, List.not_mem_nil, or_false] at hx
  unfold U32
  omega⟩
def layStep (st l : List Int) (i : Nat) : List Int := lay l (4 * i) (put32S (st.getD i 0))
theorem lay_len {l xs : List Int} {lo : Nat} (h : lo + xs.length ≤ l.length) : (lay l lo xs).length = l.length := by
  unfold lay; simp; omega
theorem G164_eq (R : Type) {st : List Int} (hu : AllU32 st) (w : Wr × Unit) (k0 : (Wr × Unit) → List Int → Option R) : ∀ (m i : Nat) (l : List Int), i ≤ 8 → 8 - i < m → G164_2 m R st (i : Int) w l k0 = k0 w ((List.range' i (8 - i)).foldl (layStep st) l)
  | 0, i, l, _, h => by omega
  | m + 1, i, l, h1, h2 => by
    simp only [G164_2, p164_2]
    by_cases hi : i < 8
    · have ih := G164_eq R hu w k0 m (i + 1) (layStep st l i) (by omega) (by omega)
      rw [range'_step hi, List.foldl_cons, ← ih]
      have hd : decide ((i : Int) < 8) = true := by simp; omega
      have hbn : bnd (i : Int) 8 = true := by unfold bnd; simp; omega
      rw [wrap_i64 (n := 4 * (i : Int)) (by omega) (by omega), wrap_i64 (n := (i : Int) + 1) (by omega) (by omega)]
      have c : decide (0 ≤ 4 * (i : Int) ∧ 4 * (i : Int) ≤ 32 ∧ (32 : Int) ≤ 32) = true := decide_eq_true (by omega)
      have e1 : (4 * (i : Int)).toNat = 4 * i := by omega
      have e2 : ∀ a, List.take (Int.toNat (32 - 4 * (i : Int))) (List.take 4 (List.drop 0 (put32S a))) = put32S a := fun a => by
        rw [List.take_of_length_le (l := List.take 4 (List.drop 0 (put32S a))) (by simp [put32S]; omega)]
        rfl
      simp only [hd, hbn, c, Int.toNat_natCast]
      rw [F172_eq R (getD_all hu u32_0 _)]
      simp only [c, e1, e2]
      rfl
    · have : i = 8 := by omega
      subst this
      rfl
end Go.PG
namespace Go.PG
def padM (m : List Int) : List Int := m ++ 128 :: (List.replicate (zerosN m.length) 0 ++ putS (8 * (m.length : Int)))
end Go.PG
namespace Go.PG
def hashS (st : List Int) : List Int := (List.range' 0 8).foldl (layStep st) (List.replicate 32 0)
theorem F164_eq (R : Type) {st : List Int} (u : List Int × Int × Unit) (hu : AllU32 st) (k : List Int → (Wr × Unit) → Option R) : F164 R ((st, u), ()) k = k (hashS st) ((st, u), ()) := by
  simp only [F164, p164]
  exact G164_eq R hu ((st, u), ()) (fun x1 x2 => k x2 x1) FUEL 0 (List.replicate 32 0) (by omega) (by rw [FUEL_eq]; omega)
def SHA (m : List Int) : List Int := hashS (foldB H0 (blkS (padM m)))
theorem putS_u8 (x : Int) : AllU8 (putS x) := fun y hy => by
  simp only [putS, List.mem_cons, List.not_mem_nil, or_false] at hy
  unfold U8
  omega
theorem padT_u8 {rest : List Int} (h : AllU8 rest) (n : Nat) : AllU8 (padT rest n) := fun y hy => by
  unfold padT at hy
  rcases List.mem_append.1 hy with h1 | h1
  · exact h y h1
  · rcases List.mem_cons.1 h1 with rfl | h1
    · unfold U8; omega
    · rcases List.mem_append.1 h1 with h1 | h1
      · rw [List.eq_of_mem_replicate h1]; exact u8_0
      · exact putS_u8 _ y h1
theorem padM_blk (m : List Int) : blkS (padM m) = blkS m ++ blkS (padT (tailS m) m.length) := (blk_append m.length m _ (Nat.le_refl _)).1
theorem F153_eq (R : Type) {m : List Int} (h8 : AllU8 m) (hm : m.length ≤ 500000000) (k : List Int → Int → Option R) : F153 R (wrS H0 m) k = k (SHA m) 0 := by
  have tl := (tailS_len m.length m (Nat.le_refl _)).1
  have ok := blkS_ok m.length m (Nat.le_refl _) h8
  have hf := foldB_ok (blkS m) H0_ok.1 H0_ok.2
  have hp := padT_u8 ok.2 m.length
  simp only [F153, p153, wrS]
  rw [F162_eq R tl (by omega)]
  simp only [Bool.not_true]
  rw [F163_eq R (tailS m, (m.length : Int), ()) hf.1 hf.2 hp (by simp [padT, putS]; unfold zerosN; omega)]
  have hf2 := foldB_ok (blkS (padT (tailS m) m.length)) hf.1 hf.2
  rw [F164_eq R _ hf2.2]
  unfold SHA
  rw [padM_blk]
  unfold foldB
  rw [List.foldl_append]
theorem F148_eq (R : Type) {ps : List (List Int)} (h8 : ∀ p ∈ ps, AllU8 p) (hlen : ps.flatten.length ≤ 500000000) (hnum : ps.length ≤ 1000000000) (k : List Int → Option R) : F148 R ps k = k (SHA ps.flatten) := by
  simp only [F148, p148]
  rw [F152_eq, F151_eq R H0_ok.1 H0_ok.2 h8 hlen hnum]
  refine F153_eq R (fun x hx => ?_) hlen _
  obtain ⟨p, h1, h2⟩ := List.mem_flatten.1 hx
  exact h8 p h1 x h2
end Go.PG
namespace Go.PG
end Go.PG
namespace Go.PG
end Go.PG
namespace Go.PG
theorem wrap_bv8 (b : BitVec 8) : IntKind.u8.wrap ((b.toNat : Nat) : Int) = (b.toNat : Int) := by
  have := b.isLt
  exact wrap_u8 (by omega) (by omega)
def zero32 : List Int := List.replicate 32 0
def H32 (l : List Int) : Prop := l.length = 32 ∧ AllU8 l
theorem zero32_ok : H32 zero32 := ⟨by simp [zero32], fun x hx => by rw [List.eq_of_mem_replicate hx]; exact u8_0⟩
end Go.PG
namespace Go.PG
theorem putS_len (x : Int) : (putS x).length = 8 := rfl
theorem take32 {l : List Int} (h : H32 l) : List.take 32 (List.drop 0 l) = l := by
  rw [List.drop_zero, List.take_of_length_le (by rw [h.1]; omega)]
theorem take8 (x : Int) : List.take 8 (List.drop 0 (putS x)) = putS x := rfl
theorem AllU8.app {a b : List Int} (ha : AllU8 a) (hb : AllU8 b) : AllU8 (a ++ b) := fun x hx => (List.mem_append.1 hx).elim (ha x) (hb x)
end Go.PG
namespace Go.PG
end Go.PG
namespace Go.PG
theorem layStep_ok {st l : List Int} (hl : H32 l) {i : Nat} (hi : i < 8) : H32 (layStep st l i) := by
  refine ⟨by unfold layStep; rw [lay_len (by simp [put32S, hl.1]; omega)]; exact hl.1, ?_⟩
  unfold layStep lay
  refine AllU8.app (AllU8.app (fun x hx => hl.2 x (List.mem_of_mem_take hx)) ?_) (fun x hx => hl.2 x (List.mem_of_mem_drop hx))
  intro y hy
  simp only [put32S, List.mem_cons, List.not_mem_nil, or_false] at hy
  unfold U8
  omega
theorem layFold_ok (st : List Int) : ∀ (is : List Nat) {l : List Int}, (∀ i ∈ is, i < 8) → H32 l → H32 (is.foldl (layStep st) l)
  | [], _, _, hl => hl
  | i :: is, _, h, hl => layFold_ok st is (fun j hj => h j (List.mem_cons_of_mem _ hj)) (layStep_ok hl (h i List.mem_cons_self))
theorem SHA_ok (m : List Int) : H32 (SHA m) := by
  unfold SHA hashS
  refine layFold_ok _ _ (fun i hi => ?_) zero32_ok
  rw [List.mem_range'] at hi
  obtain ⟨j, hj, rfl⟩ := hi
  omega
def blockS (a : List Int) (d i : Int) : List Int := SHA (a ++ (putS d ++ putS i))
theorem blockS_ok (a : List Int) (d i : Int) : H32 (blockS a d i) := SHA_ok _
theorem F143_eq (R : Type) {a : List Int} (ha : H32 a) (d i : Int) (k : List Int → Option R) : F143 R a d i k = k (blockS a d i) := by
  simp only [F143, p143]
  rw [F147_eq, F147_eq]
  simp only [take32 ha, take8]
  rw [F148_eq R (fun p hp => by
    simp only [List.mem_cons, List.not_mem_nil, or_false] at hp
    rcases hp with rfl | rfl | rfl
    · exact ha.2
    · exact putS_u8 d
    · exact putS_u8 i) (by simp [ha.1, putS_len]) (by simp)]
  simp [blockS]
def U64 (x : Int) : Prop := 0 ≤ x ∧ x < 18446744073709551616
theorem wrap_bv64 (b : BitVec 64) : IntKind.u64.wrap ((b.toNat : Nat) : Int) = (b.toNat : Int) := by
  have := b.isLt
  exact wrap_u64 (by omega) (by omega)
theorem ior_u64 (a b : Int) : ior .u64 a b = ((BitVec.ofInt 64 a ||| BitVec.ofInt 64 b).toNat : Int) := wrap_bv64 _
def bitS (a : List Int) (d n : Int) : Int := (blockS a d (n / 256)).getD (n % 256 / 8).toNat 0 / 2 ^ (7 - n % 8).toNat % 2
end Go.PG
namespace Go.PG
end Go.PG
namespace Go.PG
abbrev Src := Int × (List Int × (Int × (List Int × (Int × (Int × Unit)))))
abbrev Rdr := Src × (List Int × (Int × (Bool × Unit)))
def atS (s : Src) : Int := s.2.2.2.2.2.1
def setAt (s : Src) (n : Int) : Src := (s.1, s.2.1, s.2.2.1, s.2.2.2.1, s.2.2.2.2.1, n, ())
structure SOK (s : Src) : Prop where
  tape : AllU8 s.2.1
  len : s.2.1.length ≤ 1000000
  bits : U64 s.2.2.1
  seed : H32 s.2.2.2.1
  dom : U64 s.2.2.2.2.1
  at_ : U64 s.2.2.2.2.2.1
theorem SOK.set {s : Src} (h : SOK s) {n : Int} (hn : U64 n) : SOK (setAt s n) := ⟨h.tape, h.len, h.bits, h.seed, h.dom, hn⟩
def rightS' (s : Src) : Bool := if s.1 = 1 then decide (s.2.2.1 ≤ 8 * (s.2.1.length : Int) ∧ s.2.2.2.2.2.1 ≤ s.2.2.1) else decide (s.1 = 2 ∧ s.2.2.2.2.2.1 ≤ 4611686018427387904)
def endS (s : Src) : Int := if s.1 = 1 then s.2.2.1 else 4611686018427387904
def leftS (s : Src) : Int := if rightS' s = true then endS s - s.2.2.2.2.2.1 else 0
def bitAt (s : Src) (n : Int) : Int := if s.1 = 1 then s.2.1.getD (n / 8).toNat 0 / 2 ^ (7 - n % 8).toNat % 2 else bitS s.2.2.2.1 s.2.2.2.2.1 n
theorem F126_eq (R : Type) {s : Src} (h : SOK s) (k : Int → Bool → Option R) : F126 R s k = (if s.1 = 1 then k s.2.2.1 (decide (s.2.2.1 ≤ 8 * (s.2.1.length : Int))) else if s.1 = 2 then k 4611686018427387904 true else k 0 false) := by
  have hl := h.len
  simp only [F126, p126]
  rw [wrap_u64 (n := (s.2.1.length : Int)) (by omega) (by omega), wrap_u64 (n := (s.2.1.length : Int) * 8) (by omega) (by omega), Int.mul_comm]
  by_cases h1 : s.1 = 1
  · simp [h1]
  · by_cases h2 : s.1 = 2
    · simp [h2]
    · simp only [beq_eq_false_iff_ne.2 h1, beq_eq_false_iff_ne.2 h2, if_neg h1, if_neg h2]
theorem F95_eq (R : Type) {s : Src} (h : SOK s) (k : Bool → Option R) : F95 R s k = k (rightS' s) := by
  simp only [F95, p95]
  rw [F126_eq R h]
  unfold rightS'
  by_cases h1 : s.1 = 1
  · simp only [h1, if_true]
    by_cases h2 : s.2.2.1 ≤ 8 * (s.2.1.length : Int)
    · simp [h2]
    · simp [h2]
  · simp only [h1, if_false]
    by_cases h2 : s.1 = 2
    · simp [h2]
    · simp [h2]
theorem right_spec {s : Src} (h : rightS' s = true) : (s.1 = 1 ∧ s.2.2.1 ≤ 8 * (s.2.1.length : Int) ∧ s.2.2.2.2.2.1 ≤ s.2.2.1 ∧ endS s = s.2.2.1) ∨ (s.1 = 2 ∧ s.2.2.2.2.2.1 ≤ 4611686018427387904 ∧ endS s = 4611686018427387904) := by
  unfold rightS' at h
  unfold endS
  by_cases h1 : s.1 = 1
  · rw [if_pos h1] at h ⊢
    have := of_decide_eq_true h
    exact .inl ⟨h1, this.1, this.2, rfl⟩
  · rw [if_neg h1] at h ⊢
    have := of_decide_eq_true h
    exact .inr ⟨this.1, this.2, rfl⟩
theorem left_ok {s : Src} (hs : SOK s) : 0 ≤ leftS s ∧ leftS s ≤ 4611686018427387904 ∧ (rightS' s = true → s.2.2.2.2.2.1 + leftS s = endS s) := by
  have h1 := hs.at_; have h2 := hs.bits; have h3 := hs.len
  unfold U64 at h1 h2
  unfold leftS
  by_cases h : rightS' s = true
  · rw [if_pos h]
    rcases right_spec h with ⟨_, a2, a3, a4⟩ | ⟨_, a2, a3⟩
    · rw [a4]; omega
    · rw [a3]; omega
  · rw [if_neg h]
    exact ⟨by omega, by omega, fun e => absurd e h⟩
theorem F119_eq (R : Type) {s : Src} (h : SOK s) (k : Int → Option R) : F119 R s k = k (leftS s) := by
  have hl := left_ok h
  simp only [F119, p119]
  rw [F95_eq R h, F126_eq R h]
  unfold leftS at *
  by_cases hr : rightS' s = true
  · have hr' := hr
    simp only [hr, Bool.not_true, if_true] at hl ⊢
    rcases right_spec hr' with ⟨a1, a2, a3, a4⟩ | ⟨a1, a2, a3⟩
    · rw [if_pos a1, a4, wrap_u64 (by rw [a4] at hl; omega) (by rw [a4] at hl; omega)]
    · rw [if_neg (by omega), if_pos a1, a3, wrap_u64 (by rw [a3] at hl; omega) (by rw [a3] at hl; omega)]
  · simp only [Bool.not_eq_true] at hr
    simp [hr]
theorem bit_range (s : Src) (n : Int) : 0 ≤ bitAt s n ∧ bitAt s n ≤ 1 := by
  unfold bitAt bitS
  split <;> omega
def RI (r : Rdr) : Prop := r.2.2.2.1 = true → r.2.1 = blockS r.1.2.2.2.1 r.1.2.2.2.2.1 r.2.2.1
theorem iand_u8_1 {x : Int} (hx : U8 x) : iand .u8 x 1 = x % 2 := by
  unfold U8 at hx
  obtain ⟨y, rfl⟩ : ∃ y : Nat, x = y := ⟨x.toNat, by omega⟩
  have e : iand .u8 (y : Int) 1 = ((BitVec.ofInt 8 (y : Int) &&& BitVec.ofInt 8 ((1 : Nat) : Int)).toNat : Int) := wrap_bv8 _
  rw [e, BitVec.ofInt_natCast, BitVec.ofInt_natCast, BitVec.toNat_and, BitVec.toNat_ofNat, BitVec.toNat_ofNat, Nat.mod_eq_of_lt (by omega), Nat.mod_eq_of_lt (by omega), show (1 : Nat) = 2 ^ 1 - 1 by rfl, Nat.and_two_pow_sub_one_eq_mod]
  simp
theorem u120_eq (R : Type) (r : Rdr) {y : Int} (hy : U8 y) (hat : 0 ≤ atS r.1 ∧ atS r.1 < 9000000000000000000) (q : List Int × (Int × (Bool × Unit))) (k : Int → Rdr → Option R) :
    u120 R r y q k = k (y / 2 ^ (7 - atS r.1 % 8).toNat % 2) (setAt r.1 (atS r.1 + 1), q) := by
  unfold atS at *
  simp only [u120]
  unfold setAt
  generalize r.1.2.2.2.2.2.1 = n at *
  rw [Int.tmod_eq_emod_of_nonneg hat.1, wrap_u64 (n := 7 - n % 8) (by omega) (by omega), wrap_u64 (n := n + 1) (by omega) (by omega)]
  obtain ⟨m, hm⟩ : ∃ m : Nat, 7 - n % 8 = m := ⟨(7 - n % 8).toNat, by omega⟩
  rw [hm, Int.toNat_natCast]
  have e8 : ishr .u8 y (m : Int) = y / 2 ^ m := by
    unfold ishr
    rw [show IntKind.u8.bits = 8 from rfl, Int.toNat_natCast, Nat.min_eq_left (by omega), Int.fdiv_eq_ediv_of_nonneg _ (by have := two_pow_pos m; omega)]
  unfold U8 at hy
  have hp : (0 : Int) < 2 ^ m := Int.pow_pos (by decide)
  have hq : 0 ≤ y / 2 ^ m ∧ y / 2 ^ m ≤ y := ⟨Int.ediv_nonneg hy.1 (by omega), Int.ediv_le_self _ hy.1⟩
  rw [e8, iand_u8_1 (by unfold U8; omega), wrap_u64 (by omega) (by omega)]
theorem F120_eq (R : Type) {r : Rdr} (h : SOK r.1) (hi : RI r) (hk : (r.1.1 = 1 ∧ atS r.1 < 8 * (r.1.2.1.length : Int)) ∨ r.1.1 = 2) (hat : atS r.1 < 9000000000000000000) (k : Int → Rdr → Option R) :
    ∃ q, RI (setAt r.1 (atS r.1 + 1), q) ∧ F120 R r k = k (bitAt r.1 (atS r.1)) (setAt r.1 (atS r.1 + 1), q) := by
  have hl := h.len
  have ha := h.at_
  have hat' : 0 ≤ atS r.1 ∧ atS r.1 < 9000000000000000000 := ⟨ha.1, hat⟩
  simp only [F120]
  show ∃ q, RI (setAt r.1 (atS r.1 + 1), q) ∧ (F137 R r (IntKind.u64.wrap (Int.tdiv (atS r.1) 8)) fun y2 p3 => match decide (0 ≤ IntKind.u64.wrap (7 - Int.tmod (atS r.1) 8)) with | true => u120 R r y2 p3.2 k | false => none) = _
  have hdc : decide (0 ≤ IntKind.u64.wrap (7 - Int.tmod (atS r.1) 8)) = true := by
    rw [wrap_u64_mod]; exact decide_eq_true (by omega)
  simp only [hdc]
  rw [Int.tdiv_eq_ediv_of_nonneg hat'.1, wrap_u64 (n := atS r.1 / 8) (by omega) (by omega)]
  simp only [F137, p137]
  generalize hn : atS r.1 = n at *
  unfold bitAt
  rcases hk with ⟨a1, a2⟩ | a1
  · have e1 : (r.1.1 == 1) = true := by simp [a1]
    have hb : bnd (n / 8) (r.1.2.1.length : Int) = true := by unfold bnd; simp; omega
    simp only [e1, hb]
    refine ⟨r.2, hi, ?_⟩
    rw [if_pos a1, u120_eq R r (getD_all h.tape u8_0 _) (by rw [hn]; exact hat'), hn]
  · have e1 : (r.1.1 == 1) = false := by simp [a1]
    simp only [e1]
    rw [if_neg (by omega), Int.tdiv_eq_ediv_of_nonneg (by omega), wrap_u64 (n := n / 8 / 32) (by omega) (by omega), Int.tmod_eq_emod_of_nonneg (by omega)]
    have hb : bnd (n / 8 % 32) 32 = true := by unfold bnd; simp; omega
    have hbit : (blockS r.1.2.2.2.1 r.1.2.2.2.2.1 (n / 8 / 32)).getD (n / 8 % 32).toNat 0 / 2 ^ (7 - n % 8).toNat % 2 = bitS r.1.2.2.2.1 r.1.2.2.2.2.1 n := by
      unfold bitS
      rw [show n / 8 / 32 = n / 256 by omega, show n / 8 % 32 = n % 256 / 8 by omega]
    have hu := fun i => getD_all (blockS_ok r.1.2.2.2.1 r.1.2.2.2.2.1 (n / 8 / 32)).2 u8_0 i
    have go : ∀ q, u120 R r ((blockS r.1.2.2.2.1 r.1.2.2.2.2.1 (n / 8 / 32)).getD (n / 8 % 32).toNat 0) q k = k (bitS r.1.2.2.2.1 r.1.2.2.2.2.1 n) (setAt r.1 (n + 1), q) := fun q => by
      rw [u120_eq R r (hu _) (by rw [hn]; exact hat'), hn, hbit]
    have fresh : (F143 R r.1.2.2.2.1 r.1.2.2.2.2.1 (n / 8 / 32) fun y5 => match bnd (n / 8 % 32) 32 with
        | true => u120 R r (y5.getD (n / 8 % 32).toNat 0) (r.1, y5, n / 8 / 32, true, r.2.2.2.2).2 k
        | false => none) = k (bitS r.1.2.2.2.1 r.1.2.2.2.2.1 n) (setAt r.1 (n + 1), (blockS r.1.2.2.2.1 r.1.2.2.2.2.1 (n / 8 / 32), n / 8 / 32, true, ())) := by
      rw [F143_eq R h.seed]
      simp only [hb]
      exact go _
    cases hs : r.2.2.2.1 with
    | false =>
      simp only [Bool.not_false]
      exact ⟨_, fun _ => rfl, fresh⟩
    | true =>
      simp only [Bool.not_true]
      by_cases hne : n / 8 / 32 = r.2.2.1
      · have e2 : (n / 8 / 32 != r.2.2.1) = false := by simp [hne]
        simp only [e2, hb]
        refine ⟨r.2, fun e => hi e, ?_⟩
        have := hi hs
        rw [← hne] at this
        rw [this]
        exact go _
      · have e2 : (n / 8 / 32 != r.2.2.1) = true := by simp [hne]
        simp only [e2]
        exact ⟨_, fun _ => rfl, fresh⟩
end Go.PG
namespace Go.PG
def takeV (s : Src) (a : Int) : Nat → Int
  | 0 => 0
  | n + 1 => 2 * takeV s a n + bitAt s (a + n)
theorem takeV_range (s : Src) (a : Int) : ∀ n : Nat, 0 ≤ takeV s a n ∧ takeV s a n < 2 ^ n
  | 0 => by simp [takeV]
  | n + 1 => by
    have ih := takeV_range s a n
    have hb := bit_range s (a + n)
    simp only [takeV]
    rw [Int.pow_succ]
    omega
theorem ior_shl1 {x b : Int} (hx : 0 ≤ x ∧ x < 9223372036854775808) (hb : 0 ≤ b ∧ b ≤ 1) : ior .u64 (ishl .u64 x 1) b = 2 * x + b := by
  obtain ⟨n, rfl⟩ : ∃ n : Nat, x = n := ⟨x.toNat, by omega⟩
  obtain ⟨c, rfl⟩ : ∃ c : Nat, b = c := ⟨b.toNat, by omega⟩
  have e2 : ishl .u64 (n : Int) 1 = ((n * 2 : Nat) : Int) := by
    unfold ishl
    rw [show (2 : Int) ^ (min (1 : Int).toNat IntKind.u64.bits) = 2 by decide, wrap_u64 (by omega) (by omega)]
    simp
  rw [e2, ior_u64, BitVec.ofInt_natCast, BitVec.ofInt_natCast, BitVec.toNat_or, BitVec.toNat_ofNat, BitVec.toNat_ofNat, Nat.mod_eq_of_lt (by omega), Nat.mod_eq_of_lt (by omega)]
  have h6 := Nat.shiftLeft_add_eq_or_of_lt (i := 1) (b := c) (by omega) n
  rw [Nat.shiftLeft_eq] at h6
  rw [show n * 2 = n * 2 ^ 1 by rfl, ← h6]
  simp; omega
theorem setAt_set (s : Src) (x y : Int) : setAt (setAt s x) y = setAt s y := rfl
theorem atS_set (s : Src) (x : Int) : atS (setAt s x) = x := rfl
theorem G83_eq (R : Type) {s : Src} (h : SOK s) {K : Nat} (hK : K ≤ 64) (hk : (s.1 = 1 ∧ atS s + K ≤ 8 * (s.2.1.length : Int)) ∨ s.1 = 2) (hat : atS s + K < 9000000000000000000) (x4 : Src) (k0 : Int → Src → Rdr → Option R) :
    ∀ (m i : Nat) (r : Rdr), i ≤ K → K - i < m → r.1 = setAt s (atS s + i) → RI r → ∃ q, G83_7 m R (takeV s (atS s) i) (K : Int) (i : Int) x4 r k0 = k0 (takeV s (atS s) K) x4 (setAt s (atS s + K), q)
  | 0, i, _, _, h, _, _ => by omega
  | m + 1, i, r, h1, h2, hr, hi => by
    simp only [G83_7, p83_7]
    have h0 := h.at_
    unfold U64 at h0
    have h0' : 0 ≤ atS s := h0.1
    by_cases hlt : i < K
    · have hd : decide ((i : Int) < (K : Int)) = true := by simpa using hlt
      simp only [hd]
      have hra : atS r.1 = atS s + i := by rw [hr]; rfl
      have hlen : r.1.2.1 = s.2.1 := by rw [hr]; rfl
      have hknd : r.1.1 = s.1 := by rw [hr]; rfl
      obtain ⟨q, g1, g2⟩ := F120_eq R (r := r) (by rw [hr]; exact h.set (by unfold U64; omega)) hi (by
        rw [hra, hlen, hknd]
        rcases hk with ⟨b1, b2⟩ | b1
        · exact .inl ⟨b1, by omega⟩
        · exact .inr b1) (by rw [hra]; omega) (fun y8 p9 => G83_7 m R (ior .u64 (ishl .u64 (takeV s (atS s) i) 1) y8) (K : Int) (IntKind.i64.wrap ((i : Int) + 1)) x4 p9 k0)
      have hv := takeV_range s (atS s) i
      have hp : (2 : Int) ^ i ≤ 9223372036854775808 := by
        have : (2 : Nat) ^ i ≤ 2 ^ 63 := Nat.pow_le_pow_right (by omega) (by omega)
        have e : ((2 ^ i : Nat) : Int) = (2 : Int) ^ i := by simp
        omega
      have hbt : bitAt r.1 (atS r.1) = bitAt s (atS s + i) := by rw [hra, hr]; rfl
      obtain ⟨q2, g3⟩ := G83_eq R h hK hk hat x4 k0 m (i + 1) (setAt r.1 (atS r.1 + 1), q) (by omega) (by omega) (by
        show setAt r.1 (atS r.1 + 1) = _
        rw [hra, hr, setAt_set]
        congr 1
        omega) g1
      refine ⟨q2, ?_⟩
      rw [g2, ior_shl1 ⟨hv.1, by omega⟩ (bit_range _ _), hbt, wrap_i64 (n := (i : Int) + 1) (by omega) (by omega)]
      exact g3
    · have : i = K := by omega
      subst this
      have hd : decide ((i : Int) < (i : Int)) = false := by simp
      simp only [hd]
      refine ⟨r.2, ?_⟩
      rw [← hr]
def takeR (s : Src) (k : Int) : Int × Src × Int :=
  if rightS' s = true ∧ 0 ≤ k ∧ k ≤ 64 then (if k ≤ leftS s then (takeV s (atS s) k.toNat, setAt s (atS s + k), 0) else (0, s, 8)) else (0, s, 1)
theorem right_room {s : Src} (hs : SOK s) (hr : rightS' s = true) {k : Nat} (hk : (k : Int) ≤ leftS s) : ((s.1 = 1 ∧ atS s + k ≤ 8 * (s.2.1.length : Int)) ∨ s.1 = 2) ∧ atS s + k < 9000000000000000000 := by
  have hl := left_ok hs
  have := hl.2.2 hr
  have hln := hs.len
  unfold atS
  rcases right_spec hr with ⟨a1, a2, a3, a4⟩ | ⟨a1, a2, a3⟩
  · rw [a4] at this
    exact ⟨.inl ⟨a1, by omega⟩, by omega⟩
  · exact ⟨.inr a1, by omega⟩
theorem F83_eq (R : Type) {s : Src} (hs : SOK s) {n : Int} (k : Int → Src → Int → Option R) : F83 R s n k = k (takeR s n).1 (takeR s n).2.1 (takeR s n).2.2 := by
  simp only [F83, p83]
  rw [F95_eq R hs]
  unfold takeR
  by_cases hr : rightS' s = true
  · simp only [hr, Bool.not_true, true_and]
    by_cases h1 : n < 0
    · rw [if_neg (by omega)]
      simp only [decide_eq_true h1]
    · simp only [decide_eq_false h1]
      by_cases h2 : n > 64
      · rw [if_neg (by omega)]
        simp only [decide_eq_true h2]
      · rw [if_pos (by omega)]
        simp only [decide_eq_false h2]
        rw [wrap_u64 (n := n) (by omega) (by omega), F119_eq R hs]
        by_cases h3 : n > leftS s
        · rw [if_neg (by omega)]
          simp only [decide_eq_true h3]
        · rw [if_pos (by omega)]
          simp only [decide_eq_false h3]
          obtain ⟨m, rfl⟩ : ∃ m : Nat, n = m := ⟨n.toNat, by omega⟩
          have hroom := right_room hs hr (k := m) (by omega)
          obtain ⟨q, g⟩ := G83_eq R hs (K := m) (by omega) hroom.1 hroom.2 (0, [], 0, List.replicate 32 0, 0, 0, ()) (fun x7 x8 x9 => k x7 x9.1 0) FUEL 0 (s, List.replicate 32 0, 0, false, ()) (by omega) (by rw [FUEL_eq]; omega) (by simp only [Int.natCast_zero, Int.add_zero]; rfl) (fun e => by cases e)
          refine g.trans ?_
          rw [Int.toNat_natCast]
  · simp only [Bool.not_eq_true] at hr
    simp [hr]
end Go.PG
