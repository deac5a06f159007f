/- A part of the proof over this seat (own work; the framework that reads a Go function as a pure one, or a use of it). No condition of its own. -/
import Derived.Test.YtapdakmnlclboaaGreatCT4
import Derived.Test.YtapdakmnlclboaaGreatProg
import Derived.KernelRfl
set_option linter.unusedVariables false
set_option linter.unusedSimpArgs false
set_option linter.unusedSectionVars false
set_option maxRecDepth 100000
namespace Go.PG
open Go.Proofs
abbrev FT105 : Type 1 := (R : Type) → (List Int) → (List Int) → ((List Int) → Int → Option R) → Option R
def en105 (F : FT105) : Ent := ⟨105, [(false, (.sl (.int .u32))), (false, (.sl (.int .u32)))], [(false, (.sl (.int .u32))), (false, (.int .i64))], fun R x k => F R x.1 x.2.1 (fun y1 y2 => k (y1, y2, ()) ())⟩
def res105 : List (ResultVar × TypeId × Bool) := [(.tmp 4, 57, false), (.tmp 5, 32, false)]
abbrev LT105_8 : Type 1 := (R : Type) → (List Int) → Int → (List Int) → Int → Int → (List Int) → ((List Int) → Option R) → Option R
def le105_8 (L : LT105_8) : LEnt := ⟨8, [.val 1 (.sl (.int .u32)), .fix 6 (.own 1 0), .val 7 (.int .i64), .val 25 (.sl (.int .u32)), .val 26 (.int .i64), .val 27 (.int .i64), .row 1 (.int .u32) false], 2, [(.exit 1, [.fix 6 (.own 1 0), .row 1 (.int .u32) false])], fun R x ke => L R x.1 x.2.1 x.2.2.1 x.2.2.2.1 x.2.2.2.2.1 x.2.2.2.2.2.1 (fun y1 => ke.1 (y1, ()))⟩
noncomputable def e105 (F130 : FT130) (F131 : FT131) (F132 : FT132) (L8 : LT105_8) (R : Type) : Env R := ⟨TT, EQT, 0, 57, ownOf [], callOf [en130 F130, en131 F131, en132 F132] R, loopOf [le105_8 L8] R, [], inlOf []⟩
def p105_8 : (R : Type) → (List Int) → Int → (List Int) → Int → Int → (List Int) → ((List Int) → Int → (List Int) → Int → Int → (List Int) → Option R) → ((List Int) → Option R) → Option R := fun R x1 x2 x3 x4 x5 x6 kc k0 =>
let v7 := (decide (x5 < x4));
(match v7 with
| true => (match (bnd x5 (List.length x3 : Int)) with
| true => let v8 := (List.getD x3 (Int.toNat x5) (0 : Int));
let v9 := (IntKind.i64.wrap v8);
let v10 := (IntKind.i64.wrap (v9 + x2));
let v11 := (List.length x1 : Int);
let v12 := (decide (x5 < v11));
(match v12 with
| true => (match (bnd x5 (List.length x1 : Int)) with
| true => let v13 := (List.getD x1 (Int.toNat x5) (0 : Int));
let v14 := (IntKind.i64.wrap v13);
let v15 := (IntKind.i64.wrap (v10 - v14));
let v16 := (IntKind.u32.wrap v15);
(match (bnd x5 (List.length x6 : Int)) with
| true => let v17 : (List Int) := (List.set x6 (Int.toNat x5) v16);
let v18 := (ishr .i64 v15 (32 : Int));
let v19 := (IntKind.i64.wrap (x5 + (1 : Int)));
kc x1 v18 x3 x4 v19 v17
| false => none)
| false => none)
| false => let v20 := (IntKind.u32.wrap v10);
(match (bnd x5 (List.length x6 : Int)) with
| true => let v21 : (List Int) := (List.set x6 (Int.toNat x5) v20);
let v22 := (ishr .i64 v10 (32 : Int));
let v23 := (IntKind.i64.wrap (x5 + (1 : Int)));
kc x1 v22 x3 x4 v23 v21
| false => none))
| false => none)
| false => k0 x6)
theorem q105_8 (F130 : FT130) (F131 : FT131) (F132 : FT132) (L8 : LT105_8) (R : Type) (x : HT (le105_8 L8).H) (kc : HT (le105_8 L8).H → Option R) (ke : KT R (le105_8 L8).exs) :
  exec (e105 F130 F131 F132 L8 R) (lcode 8 (codeOf Tryz.f105)) (stOf (le105_8 L8).H x 2) (roundK (le105_8 L8).H (le105_8 L8).exs kc ke) =
    p105_8 R x.1 x.2.1 x.2.2.1 x.2.2.2.1 x.2.2.2.2.1 x.2.2.2.2.2.1 (fun x1 x2 x3 x4 x5 x6 => kc (x1, x2, x3, x4, x5, x6, ())) (fun y1 => ke.1 (y1, ())) := by kernel_rfl
noncomputable def G105_8 : Nat → LT105_8
  | 0 => fun _ _ _ _ _ _ _ _ => none
  | n + 1 => fun R x1 x2 x3 x4 x5 x6 k0 => p105_8 R x1 x2 x3 x4 x5 x6 (fun x1 x2 x3 x4 x5 x6 => G105_8 n R x1 x2 x3 x4 x5 x6 k0) k0
def p105 (F130 : FT130) (F131 : FT131) (F132 : FT132) (L8 : LT105_8) : FT105 := fun R a0 a1 k =>
let v1 : (List (List Int)) := ([a0, a1] : (List (List Int)));
F131 R v1 fun y2 =>
(match (!y2) with
| true => k ([] : (List Int)) (1 : Int)
| false => F132 R a0 a1 fun y3 =>
let v4 := (decide (y3 < (0 : Int)));
(match v4 with
| true => k ([] : (List Int)) (12 : Int)
| false => let v5 := (List.length a0 : Int);
(match (decide (0 ≤ v5 ∧ v5 ≤ v5 ∧ v5 ≤ (35184372088832 : Int))) with
| true => let v6 : (List Int) := (List.replicate (Int.toNat v5) (0 : Int));
let v7 := (List.length a0 : Int);
L8 R a1 (0 : Int) a0 v7 (0 : Int) v6 (fun x8 =>
F130 R x8 fun y9 =>
k y9 (0 : Int))
| false => none)))
theorem q105 (F130 : FT130) (F131 : FT131) (F132 : FT132) (L8 : LT105_8) (F : FT105) (R : Type) (x : AT (en105 F).ins) (k : RT (en105 F).outs → PT (en105 F).ins → Option R) :
  xfun (e105 F130 F131 F132 L8 R) (codeOf Tryz.f105) res105 (avs (en105 F).ins x) (finK (en105 F).outs (en105 F).ins k) = p105 F130 F131 F132 L8 R x.1 x.2.1 (fun y1 y2 => k (y1, y2, ()) ()) := by kernel_rfl
noncomputable def F105 : FT105 := p105 F130 F131 F132 (G105_8 FUEL)
theorem env105 (R : Type) : EnvOK Tryz.prog (e105 F130 F131 F132 (G105_8 FUEL) R) := ⟨tabOK, eqOK, callOf_ok (allE_cons ok130 (allE_cons ok131 (allE_cons ok132 allE_nil))), noIns, inlOK_nil⟩
noncomputable def T105_8 : (R : Type) → HT (le105_8 (G105_8 FUEL)).H → (HT (le105_8 (G105_8 FUEL)).H → Option R) → KT R (le105_8 (G105_8 FUEL)).exs → Option R := fun R x kc ke => p105_8 R x.1 x.2.1 x.2.2.1 x.2.2.2.1 x.2.2.2.2.1 x.2.2.2.2.2.1 (fun x1 x2 x3 x4 x5 x6 => kc (x1, x2, x3, x4, x5, x6, ())) (fun y1 => ke.1 (y1, ()))
theorem it105_8 : ∀ (n : Nat) (R : Type) (x : HT (le105_8 (G105_8 FUEL)).H) (ke : KT R (le105_8 (G105_8 FUEL)).exs), iter T105_8 n R x ke = G105_8 n R x.1 x.2.1 x.2.2.1 x.2.2.2.1 x.2.2.2.2.1 x.2.2.2.2.2.1 (fun y1 => ke.1 (y1, ())) := by
  intro n
  induction n with
  | zero => intro R x ke; rfl
  | succ n ih =>
    intro R x ke
    show T105_8 R x (fun x' => iter T105_8 n R x' ke) ke = _
    rw [show (fun x' => iter T105_8 n R x' ke) = fun x => G105_8 n R x.1 x.2.1 x.2.2.1 x.2.2.2.1 x.2.2.2.2.1 x.2.2.2.2.2.1 (fun y1 => ke.1 (y1, ())) from funext fun x' => ih R x' ke]
    rfl
theorem lok105_8 : (le105_8 (G105_8 FUEL)).OK Tryz.prog 0 57 (lcode 8 (codeOf Tryz.f105)) := fun R x ke r h =>
  iter_sound (fun R => e105 F130 F131 F132 (G105_8 FUEL) R) 0 57 (fun _ => rfl) (fun _ => rfl) (fun R => env105 R) mixed (by
    intro R
    rw [show loopsOf (lcode 8 (codeOf Tryz.f105)) = [] from by kernel_rfl]
    exact allM_nil) (T := T105_8) (fun R x kc ke => q105_8 F130 F131 F132 (G105_8 FUEL) R x kc ke) FUEL R x ke r ((it105_8 FUEL R x ke).trans h)
theorem ok105 : (en105 F105).OK Tryz.prog :=
  ent_ok (Ef := fun R => e105 F130 F131 F132 (G105_8 FUEL) R) (fun R => env105 R) mixed Tryz.func105 (body := codeOf Tryz.f105) (by kernel_rfl) (by kernel_rfl) (np := 0) (nt := 57) (fun _ => rfl) (fun _ => rfl) (by kernel_rfl) (res := res105) (by kernel_rfl) (fun _ => rfl) (fun _ => Nat.le_of_ble_eq_true rfl) (by
    intro R
    rw [show loopsOf (codeOf Tryz.f105) = [lcode 8 (codeOf Tryz.f105)] from by kernel_rfl]
    exact (allM_cons (loop_ok2 (e := le105_8 (G105_8 FUEL)) rfl rfl lok105_8) allM_nil)) (fun R x k => q105 F130 F131 F132 (G105_8 FUEL) F105 R x k)
abbrev FT135 : Type 1 := (R : Type) → (List Int) → (List Int) → ((List Int) → Option R) → Option R
def en135 (F : FT135) : Ent := ⟨135, [(false, (.sl (.int .u32))), (false, (.sl (.int .u32)))], [(false, (.sl (.int .u32)))], fun R x k => F R x.1 x.2.1 (fun y1 => k (y1, ()) ())⟩
def res135 : List (ResultVar × TypeId × Bool) := [(.tmp 4, 57, false)]
abbrev LT135_3 : Type 1 := (R : Type) → (List Int) → (List Int) → Int → Int → (List Int) → ((List Int) → Option R) → Option R
def le135_3 (L : LT135_3) : LEnt := ⟨3, [.val 1 (.sl (.int .u32)), .fix 5 (.own 0 0), .val 17 (.sl (.int .u32)), .val 18 (.int .i64), .val 19 (.int .i64), .row 0 (.int .u32) false], 1, [(.exit 0, [.fix 5 (.own 0 0), .row 0 (.int .u32) false])], fun R x ke => L R x.1 x.2.1 x.2.2.1 x.2.2.2.1 x.2.2.2.2.1 (fun y1 => ke.1 (y1, ()))⟩
abbrev LT135_7 : Type 1 := (R : Type) → (List Int) → Int → Int → Int → (List Int) → Int → Int → (List Int) → Int → Int → (List Int) → ((List Int) → Int → Int → (List Int) → Int → Int → (List Int) → Option R) → Option R
def le135_7 (L : LT135_7) : LEnt := ⟨7, [.val 1 (.sl (.int .u32)), .fix 5 (.own 0 0), .val 6 (.int .i64), .val 7 (.int .u32), .val 8 (.int .u64), .val 17 (.sl (.int .u32)), .val 18 (.int .i64), .val 19 (.int .i64), .val 24 (.sl (.int .u32)), .val 25 (.int .i64), .val 26 (.int .i64), .row 0 (.int .u32) false], 1, [(.exit 2, [.val 1 (.sl (.int .u32)), .fix 5 (.own 0 0), .val 6 (.int .i64), .val 8 (.int .u64), .val 17 (.sl (.int .u32)), .val 18 (.int .i64), .val 19 (.int .i64), .row 0 (.int .u32) false])], fun R x ke => L R x.1 x.2.1 x.2.2.1 x.2.2.2.1 x.2.2.2.2.1 x.2.2.2.2.2.1 x.2.2.2.2.2.2.1 x.2.2.2.2.2.2.2.1 x.2.2.2.2.2.2.2.2.1 x.2.2.2.2.2.2.2.2.2.1 x.2.2.2.2.2.2.2.2.2.2.1 (fun y1 y2 y3 y4 y5 y6 y7 => ke.1 (y1, y2, y3, y4, y5, y6, y7, ()))⟩
noncomputable def e135 (F130 : FT130) (L3 : LT135_3) (L7 : LT135_7) (R : Type) : Env R := ⟨TT, EQT, 0, 67, ownOf [], callOf [en130 F130] R, loopOf [le135_3 L3, le135_7 L7] R, [], inlOf []⟩
def p135_7 : (R : Type) → (List Int) → Int → Int → Int → (List Int) → Int → Int → (List Int) → Int → Int → (List Int) → ((List Int) → Int → Int → Int → (List Int) → Int → Int → (List Int) → Int → Int → (List Int) → Option R) → ((List Int) → Int → Int → (List Int) → Int → Int → (List Int) → Option R) → Option R := fun R x1 x2 x3 x4 x5 x6 x7 x8 x9 x10 x11 kc k0 =>
let v12 := (decide (x10 < x9));
(match v12 with
| true => (match (bnd x10 (List.length x8 : Int)) with
| true => let v13 := (List.getD x8 (Int.toNat x10) (0 : Int));
let v14 := (IntKind.u64.wrap x3);
let v15 := (IntKind.u64.wrap v13);
let v16 := (IntKind.u64.wrap (v14 * v15));
let v17 := (IntKind.i64.wrap (x2 + x10));
(match (bnd v17 (List.length x11 : Int)) with
| true => let v18 := (List.getD x11 (Int.toNat v17) (0 : Int));
let v19 := (IntKind.u64.wrap v18);
let v20 := (IntKind.u64.wrap (v16 + v19));
let v21 := (IntKind.u64.wrap (x4 + v20));
let v22 := (IntKind.i64.wrap (x2 + x10));
let v23 := (IntKind.u32.wrap v21);
(match (bnd v22 (List.length x11 : Int)) with
| true => let v24 : (List Int) := (List.set x11 (Int.toNat v22) v23);
let v25 := (ishr .u64 v21 (32 : Int));
let v26 := (IntKind.i64.wrap (x10 + (1 : Int)));
kc x1 x2 x3 v25 x5 x6 x7 x8 x9 v26 v24
| false => none)
| false => none)
| false => none)
| false => k0 x1 x2 x4 x5 x6 x7 x11)
theorem q135_7 (F130 : FT130) (L3 : LT135_3) (L7 : LT135_7) (R : Type) (x : HT (le135_7 L7).H) (kc : HT (le135_7 L7).H → Option R) (ke : KT R (le135_7 L7).exs) :
  exec (e135 F130 L3 L7 R) (lcode 7 (codeOf Tryz.f135)) (stOf (le135_7 L7).H x 1) (roundK (le135_7 L7).H (le135_7 L7).exs kc ke) =
    p135_7 R x.1 x.2.1 x.2.2.1 x.2.2.2.1 x.2.2.2.2.1 x.2.2.2.2.2.1 x.2.2.2.2.2.2.1 x.2.2.2.2.2.2.2.1 x.2.2.2.2.2.2.2.2.1 x.2.2.2.2.2.2.2.2.2.1 x.2.2.2.2.2.2.2.2.2.2.1 (fun x1 x2 x3 x4 x5 x6 x7 x8 x9 x10 x11 => kc (x1, x2, x3, x4, x5, x6, x7, x8, x9, x10, x11, ())) (fun y1 y2 y3 y4 y5 y6 y7 => ke.1 (y1, y2, y3, y4, y5, y6, y7, ())) := by kernel_rfl
noncomputable def G135_7 : Nat → LT135_7
  | 0 => fun _ _ _ _ _ _ _ _ _ _ _ _ _ => none
  | n + 1 => fun R x1 x2 x3 x4 x5 x6 x7 x8 x9 x10 x11 k0 => p135_7 R x1 x2 x3 x4 x5 x6 x7 x8 x9 x10 x11 (fun x1 x2 x3 x4 x5 x6 x7 x8 x9 x10 x11 => G135_7 n R x1 x2 x3 x4 x5 x6 x7 x8 x9 x10 x11 k0) k0
def p135_3 (L7 : LT135_7) : (R : Type) → (List Int) → (List Int) → Int → Int → (List Int) → ((List Int) → (List Int) → Int → Int → (List Int) → Option R) → ((List Int) → Option R) → Option R := fun R x1 x2 x3 x4 x5 kc k0 =>
let v6 := (decide (x4 < x3));
(match v6 with
| true => (match (bnd x4 (List.length x2 : Int)) with
| true => let v7 := (List.getD x2 (Int.toNat x4) (0 : Int));
let v8 := (List.length x1 : Int);
L7 R x1 x4 v7 (0 : Int) x2 x3 x4 x1 v8 (0 : Int) x5 (fun x9 x10 x11 x12 x13 x14 x15 =>
let v16 := (List.length x9 : Int);
let v17 := (IntKind.i64.wrap (x10 + v16));
let v18 := (IntKind.u32.wrap x11);
(match (bnd v17 (List.length x15 : Int)) with
| true => let v19 : (List Int) := (List.set x15 (Int.toNat v17) v18);
let v20 := (IntKind.i64.wrap (x14 + (1 : Int)));
kc x9 x12 x13 v20 v19
| false => none))
| false => none)
| false => k0 x5)
theorem q135_3 (F130 : FT130) (L3 : LT135_3) (L7 : LT135_7) (R : Type) (x : HT (le135_3 L3).H) (kc : HT (le135_3 L3).H → Option R) (ke : KT R (le135_3 L3).exs) :
  exec (e135 F130 L3 L7 R) (lcode 3 (codeOf Tryz.f135)) (stOf (le135_3 L3).H x 1) (roundK (le135_3 L3).H (le135_3 L3).exs kc ke) =
    p135_3 L7 R x.1 x.2.1 x.2.2.1 x.2.2.2.1 x.2.2.2.2.1 (fun x1 x2 x3 x4 x5 => kc (x1, x2, x3, x4, x5, ())) (fun y1 => ke.1 (y1, ())) := by kernel_rfl
noncomputable def G135_3 : Nat → LT135_3
  | 0 => fun _ _ _ _ _ _ _ => none
  | n + 1 => fun R x1 x2 x3 x4 x5 k0 => p135_3 (G135_7 FUEL) R x1 x2 x3 x4 x5 (fun x1 x2 x3 x4 x5 => G135_3 n R x1 x2 x3 x4 x5 k0) k0
def p135 (F130 : FT130) (L3 : LT135_3) : FT135 := fun R a0 a1 k =>
let v1 := (List.length a0 : Int);
let v2 := (List.length a1 : Int);
let v3 := (IntKind.i64.wrap (v1 + v2));
(match (decide (0 ≤ v3 ∧ v3 ≤ v3 ∧ v3 ≤ (35184372088832 : Int))) with
| true => let v4 : (List Int) := (List.replicate (Int.toNat v3) (0 : Int));
let v5 := (List.length a0 : Int);
L3 R a1 a0 v5 (0 : Int) v4 (fun x6 =>
F130 R x6 fun y7 =>
k y7)
| false => none)
theorem q135 (F130 : FT130) (L3 : LT135_3) (L7 : LT135_7) (F : FT135) (R : Type) (x : AT (en135 F).ins) (k : RT (en135 F).outs → PT (en135 F).ins → Option R) :
  xfun (e135 F130 L3 L7 R) (codeOf Tryz.f135) res135 (avs (en135 F).ins x) (finK (en135 F).outs (en135 F).ins k) = p135 F130 L3 R x.1 x.2.1 (fun y1 => k (y1, ()) ()) := by kernel_rfl
noncomputable def F135 : FT135 := p135 F130 (G135_3 FUEL)
theorem env135 (R : Type) : EnvOK Tryz.prog (e135 F130 (G135_3 FUEL) (G135_7 FUEL) R) := ⟨tabOK, eqOK, callOf_ok (allE_cons ok130 allE_nil), noIns, inlOK_nil⟩
noncomputable def T135_7 : (R : Type) → HT (le135_7 (G135_7 FUEL)).H → (HT (le135_7 (G135_7 FUEL)).H → Option R) → KT R (le135_7 (G135_7 FUEL)).exs → Option R := fun R x kc ke => p135_7 R x.1 x.2.1 x.2.2.1 x.2.2.2.1 x.2.2.2.2.1 x.2.2.2.2.2.1 x.2.2.2.2.2.2.1 x.2.2.2.2.2.2.2.1 x.2.2.2.2.2.2.2.2.1 x.2.2.2.2.2.2.2.2.2.1 x.2.2.2.2.2.2.2.2.2.2.1 (fun x1 x2 x3 x4 x5 x6 x7 x8 x9 x10 x11 => kc (x1, x2, x3, x4, x5, x6, x7, x8, x9, x10, x11, ())) (fun y1 y2 y3 y4 y5 y6 y7 => ke.1 (y1, y2, y3, y4, y5, y6, y7, ()))
theorem it135_7 : ∀ (n : Nat) (R : Type) (x : HT (le135_7 (G135_7 FUEL)).H) (ke : KT R (le135_7 (G135_7 FUEL)).exs), iter T135_7 n R x ke = G135_7 n R x.1 x.2.1 x.2.2.1 x.2.2.2.1 x.2.2.2.2.1 x.2.2.2.2.2.1 x.2.2.2.2.2.2.1 x.2.2.2.2.2.2.2.1 x.2.2.2.2.2.2.2.2.1 x.2.2.2.2.2.2.2.2.2.1 x.2.2.2.2.2.2.2.2.2.2.1 (fun y1 y2 y3 y4 y5 y6 y7 => ke.1 (y1, y2, y3, y4, y5, y6, y7, ())) := by
  intro n
  induction n with
  | zero => intro R x ke; rfl
  | succ n ih =>
    intro R x ke
    show T135_7 R x (fun x' => iter T135_7 n R x' ke) ke = _
    rw [show (fun x' => iter T135_7 n R x' ke) = fun x => G135_7 n R x.1 x.2.1 x.2.2.1 x.2.2.2.1 x.2.2.2.2.1 x.2.2.2.2.2.1 x.2.2.2.2.2.2.1 x.2.2.2.2.2.2.2.1 x.2.2.2.2.2.2.2.2.1 x.2.2.2.2.2.2.2.2.2.1 x.2.2.2.2.2.2.2.2.2.2.1 (fun y1 y2 y3 y4 y5 y6 y7 => ke.1 (y1, y2, y3, y4, y5, y6, y7, ())) from funext fun x' => ih R x' ke]
    rfl
theorem lok135_7 : (le135_7 (G135_7 FUEL)).OK Tryz.prog 0 67 (lcode 7 (codeOf Tryz.f135)) := fun R x ke r h =>
  iter_sound (fun R => e135 F130 (G135_3 FUEL) (G135_7 FUEL) R) 0 67 (fun _ => rfl) (fun _ => rfl) (fun R => env135 R) mixed (by
    intro R
    rw [show loopsOf (lcode 7 (codeOf Tryz.f135)) = [] from by kernel_rfl]
    exact allM_nil) (T := T135_7) (fun R x kc ke => q135_7 F130 (G135_3 FUEL) (G135_7 FUEL) R x kc ke) FUEL R x ke r ((it135_7 FUEL R x ke).trans h)
noncomputable def T135_3 : (R : Type) → HT (le135_3 (G135_3 FUEL)).H → (HT (le135_3 (G135_3 FUEL)).H → Option R) → KT R (le135_3 (G135_3 FUEL)).exs → Option R := fun R x kc ke => p135_3 (G135_7 FUEL) R x.1 x.2.1 x.2.2.1 x.2.2.2.1 x.2.2.2.2.1 (fun x1 x2 x3 x4 x5 => kc (x1, x2, x3, x4, x5, ())) (fun y1 => ke.1 (y1, ()))
theorem it135_3 : ∀ (n : Nat) (R : Type) (x : HT (le135_3 (G135_3 FUEL)).H) (ke : KT R (le135_3 (G135_3 FUEL)).exs), iter T135_3 n R x ke = G135_3 n R x.1 x.2.1 x.2.2.1 x.2.2.2.1 x.2.2.2.2.1 (fun y1 => ke.1 (y1, ())) := by
  intro n
  induction n with
  | zero => intro R x ke; rfl
  | succ n ih =>
    intro R x ke
    show T135_3 R x (fun x' => iter T135_3 n R x' ke) ke = _
    rw [show (fun x' => iter T135_3 n R x' ke) = fun x => G135_3 n R x.1 x.2.1 x.2.2.1 x.2.2.2.1 x.2.2.2.2.1 (fun y1 => ke.1 (y1, ())) from funext fun x' => ih R x' ke]
    rfl
theorem lok135_3 : (le135_3 (G135_3 FUEL)).OK Tryz.prog 0 67 (lcode 3 (codeOf Tryz.f135)) := fun R x ke r h =>
  iter_sound (fun R => e135 F130 (G135_3 FUEL) (G135_7 FUEL) R) 0 67 (fun _ => rfl) (fun _ => rfl) (fun R => env135 R) mixed (by
    intro R
    rw [show loopsOf (lcode 3 (codeOf Tryz.f135)) = [lcode 7 (codeOf Tryz.f135)] from by kernel_rfl]
    exact (allM_cons (loop_ok2 (e := le135_7 (G135_7 FUEL)) rfl rfl lok135_7) allM_nil)) (T := T135_3) (fun R x kc ke => q135_3 F130 (G135_3 FUEL) (G135_7 FUEL) R x kc ke) FUEL R x ke r ((it135_3 FUEL R x ke).trans h)
theorem ok135 : (en135 F135).OK Tryz.prog :=
  ent_ok (Ef := fun R => e135 F130 (G135_3 FUEL) (G135_7 FUEL) R) (fun R => env135 R) mixed Tryz.func135 (body := codeOf Tryz.f135) (by kernel_rfl) (by kernel_rfl) (np := 0) (nt := 67) (fun _ => rfl) (fun _ => rfl) (by kernel_rfl) (res := res135) (by kernel_rfl) (fun _ => rfl) (fun _ => Nat.le_of_ble_eq_true rfl) (by
    intro R
    rw [show loopsOf (codeOf Tryz.f135) = [lcode 3 (codeOf Tryz.f135)] from by kernel_rfl]
    exact (allM_cons (loop_ok2 (e := le135_3 (G135_3 FUEL)) rfl rfl lok135_3) allM_nil)) (fun R x k => q135 F130 (G135_3 FUEL) (G135_7 FUEL) F135 R x k)
abbrev FT134135 : Type 1 := (R : Type) → (List Int) → (List (List Int)) → ((List Int) → Int → Option R) → Option R
def en134135 (F : FT134135) : EntF := ⟨133, 135, [(false, (.sl (.int .u32))), (false, (.sl (.sl (.int .u32))))], [(false, (.sl (.int .u32))), (false, (.int .i64))], fun R x k => F R x.1 x.2.1 (fun y1 y2 => k (y1, y2, ()) ())⟩
def res134135 : List (ResultVar × TypeId × Bool) := [(.tmp 6, 57, false), (.tmp 7, 32, false)]
abbrev LT134135_4 : Type 1 := (R : Type) → (List Int) → (List (List Int)) → Int → Int → (Int → Option R) → ((List Int) → Option R) → Option R
def le134135_4 (L : LT134135_4) : LEnt := ⟨4, [.val 0 (.sl (.int .u32)), .fix 2 (.fn 135), .val 13 (.sl (.sl (.int .u32))), .val 14 (.int .i64), .val 15 (.int .i64)], 0, [(.ret, [.fix 6 .nil, .val 7 (.int .i64)]), (.exit 0, [.val 0 (.sl (.int .u32))])], fun R x ke => L R x.1 x.2.1 x.2.2.1 x.2.2.2.1 (fun y1 => ke.1 (y1, ())) (fun y1 => ke.2.1 (y1, ()))⟩
noncomputable def e134135 (F131 : FT131) (F135 : FT135) (L4 : LT134135_4) (R : Type) : Env R := ⟨TT, EQT, 0, 28, ownOf [], callOf [en131 F131, en135 F135] R, loopOf [le134135_4 L4] R, [], inlOf []⟩
def p134135_4 (F135 : FT135) : (R : Type) → (List Int) → (List (List Int)) → Int → Int → ((List Int) → (List (List Int)) → Int → Int → Option R) → (Int → Option R) → ((List Int) → Option R) → Option R := fun R x1 x2 x3 x4 kc k0 k1 =>
let v5 := (decide (x4 < x3));
(match v5 with
| true => (match (bnd x4 (List.length x2 : Int)) with
| true => let v6 : (List Int) := (List.getD x2 (Int.toNat x4) ([] : (List Int)));
F135 R x1 v6 fun y7 =>
let v8 := (List.length y7 : Int);
let v9 := (decide (v8 > (256 : Int)));
(match v9 with
| true => k0 (11 : Int)
| false => let v10 := (IntKind.i64.wrap (x4 + (1 : Int)));
kc y7 x2 x3 v10)
| false => none)
| false => k1 x1)
theorem q134135_4 (F131 : FT131) (F135 : FT135) (L4 : LT134135_4) (R : Type) (x : HT (le134135_4 L4).H) (kc : HT (le134135_4 L4).H → Option R) (ke : KT R (le134135_4 L4).exs) :
  exec (e134135 F131 F135 L4 R) (lcode 4 (codeOf Tryz.f133)) (stOf (le134135_4 L4).H x 0) (roundK (le134135_4 L4).H (le134135_4 L4).exs kc ke) =
    p134135_4 F135 R x.1 x.2.1 x.2.2.1 x.2.2.2.1 (fun x1 x2 x3 x4 => kc (x1, x2, x3, x4, ())) (fun y1 => ke.1 (y1, ())) (fun y1 => ke.2.1 (y1, ())) := by kernel_rfl
noncomputable def G134135_4 : Nat → LT134135_4
  | 0 => fun _ _ _ _ _ _ _ => none
  | n + 1 => fun R x1 x2 x3 x4 k0 k1 => p134135_4 F135 R x1 x2 x3 x4 (fun x1 x2 x3 x4 => G134135_4 n R x1 x2 x3 x4 k0 k1) k0 k1
def p134135 (F131 : FT131) (L4 : LT134135_4) : FT134135 := fun R a0 a1 k =>
F131 R a1 fun y1 =>
(match (!y1) with
| true => k ([] : (List Int)) (1 : Int)
| false => let v2 := (List.length a1 : Int);
L4 R a0 a1 v2 (0 : Int) (fun x3 =>
k ([] : (List Int)) x3) (fun x4 =>
k x4 (0 : Int)))
theorem q134135 (F131 : FT131) (F135 : FT135) (L4 : LT134135_4) (F : FT134135) (R : Type) (x : AT (en134135 F).ins) (k : RT (en134135 F).outs → PT (en134135 F).ins → Option R) :
  xfun (e134135 F131 F135 L4 R) (codeOf Tryz.f133) res134135 (avs (en134135 F).ins x ++ [AV.fn 135]) (finK (en134135 F).outs (en134135 F).ins k) = p134135 F131 L4 R x.1 x.2.1 (fun y1 y2 => k (y1, y2, ()) ()) := by kernel_rfl
noncomputable def F134135 : FT134135 := p134135 F131 (G134135_4 FUEL)
theorem env134135 (R : Type) : EnvOK Tryz.prog (e134135 F131 F135 (G134135_4 FUEL) R) := ⟨tabOK, eqOK, callOf_ok (allE_cons ok131 (allE_cons ok135 allE_nil)), noIns, inlOK_nil⟩
noncomputable def T134135_4 : (R : Type) → HT (le134135_4 (G134135_4 FUEL)).H → (HT (le134135_4 (G134135_4 FUEL)).H → Option R) → KT R (le134135_4 (G134135_4 FUEL)).exs → Option R := fun R x kc ke => p134135_4 F135 R x.1 x.2.1 x.2.2.1 x.2.2.2.1 (fun x1 x2 x3 x4 => kc (x1, x2, x3, x4, ())) (fun y1 => ke.1 (y1, ())) (fun y1 => ke.2.1 (y1, ()))
theorem it134135_4 : ∀ (n : Nat) (R : Type) (x : HT (le134135_4 (G134135_4 FUEL)).H) (ke : KT R (le134135_4 (G134135_4 FUEL)).exs), iter T134135_4 n R x ke = G134135_4 n R x.1 x.2.1 x.2.2.1 x.2.2.2.1 (fun y1 => ke.1 (y1, ())) (fun y1 => ke.2.1 (y1, ())) := by
  intro n
  induction n with
  | zero => intro R x ke; rfl
  | succ n ih =>
    intro R x ke
    show T134135_4 R x (fun x' => iter T134135_4 n R x' ke) ke = _
    rw [show (fun x' => iter T134135_4 n R x' ke) = fun x => G134135_4 n R x.1 x.2.1 x.2.2.1 x.2.2.2.1 (fun y1 => ke.1 (y1, ())) (fun y1 => ke.2.1 (y1, ())) from funext fun x' => ih R x' ke]
    rfl
theorem lok134135_4 : (le134135_4 (G134135_4 FUEL)).OK Tryz.prog 0 28 (lcode 4 (codeOf Tryz.f133)) := fun R x ke r h =>
  iter_sound (fun R => e134135 F131 F135 (G134135_4 FUEL) R) 0 28 (fun _ => rfl) (fun _ => rfl) (fun R => env134135 R) mixed (by
    intro R
    rw [show loopsOf (lcode 4 (codeOf Tryz.f133)) = [] from by kernel_rfl]
    exact allM_nil) (T := T134135_4) (fun R x kc ke => q134135_4 F131 F135 (G134135_4 FUEL) R x kc ke) FUEL R x ke r ((it134135_4 FUEL R x ke).trans h)
theorem ok134135 : (en134135 F134135).OK Tryz.prog :=
  ent_okF (Ef := fun R => e134135 F131 F135 (G134135_4 FUEL) R) (fun R => env134135 R) mixed Tryz.func133 (body := codeOf Tryz.f133) (by kernel_rfl) (by kernel_rfl) (np := 0) (nt := 28) (fun _ => rfl) (fun _ => rfl) (by kernel_rfl) (res := res134135) (by kernel_rfl) (fun _ => rfl) (fun _ => Nat.le_of_ble_eq_true rfl) (by
    intro R
    rw [show loopsOf (codeOf Tryz.f133) = [lcode 4 (codeOf Tryz.f133)] from by kernel_rfl]
    exact (allM_cons (loop_ok2 (e := le134135_4 (G134135_4 FUEL)) rfl rfl lok134135_4) allM_nil)) (fun R x k => q134135 F131 F135 (G134135_4 FUEL) F134135 R x k)
abbrev FT107 : Type 1 := (R : Type) → (List (List Int)) → ((List Int) → Int → Option R) → Option R
def en107 (F : FT107) : Ent := ⟨107, [(false, (.sl (.sl (.int .u32))))], [(false, (.sl (.int .u32))), (false, (.int .i64))], fun R x k => F R x.1 (fun y1 y2 => k (y1, y2, ()) ())⟩
def res107 : List (ResultVar × TypeId × Bool) := [(.tmp 2, 57, false), (.tmp 3, 32, false)]
noncomputable def e107 (F104 : FT104) (F134135 : FT134135) (R : Type) : Env R := ⟨TT, EQT, 0, 9, ownOf [], callOfF [en134135 F134135] [en104 F104] R, loopOf [] R, [], inlOf []⟩
def p107 (F104 : FT104) (F134135 : FT134135) : FT107 := fun R a0 k =>
F104 R (1 : Int) fun y1 =>
F134135 R y1 a0 fun y2 y3 =>
k y2 y3
theorem q107 (F104 : FT104) (F134135 : FT134135) (F : FT107) (R : Type) (x : AT (en107 F).ins) (k : RT (en107 F).outs → PT (en107 F).ins → Option R) :
  xfun (e107 F104 F134135 R) (codeOf Tryz.f107) res107 (avs (en107 F).ins x) (finK (en107 F).outs (en107 F).ins k) = p107 F104 F134135 R x.1 (fun y1 y2 => k (y1, y2, ()) ()) := by kernel_rfl
noncomputable def F107 : FT107 := p107 F104 F134135
theorem env107 (R : Type) : EnvOK Tryz.prog (e107 F104 F134135 R) := ⟨tabOK, eqOK, callOfF_ok (allF_cons ok134135 allF_nil) (allE_cons ok104 allE_nil), noIns, inlOK_nil⟩
theorem ok107 : (en107 F107).OK Tryz.prog :=
  ent_ok (Ef := fun R => e107 F104 F134135 R) (fun R => env107 R) mixed Tryz.func107 (body := codeOf Tryz.f107) (by kernel_rfl) (by kernel_rfl) (np := 0) (nt := 9) (fun _ => rfl) (fun _ => rfl) (by kernel_rfl) (res := res107) (by kernel_rfl) (fun _ => rfl) (fun _ => Nat.le_of_ble_eq_true rfl) (by
    intro R
    rw [show loopsOf (codeOf Tryz.f107) = [] from by kernel_rfl]
    exact allM_nil) (fun R x k => q107 F104 F134135 F107 R x k)
abbrev FT134 : Type 1 := (R : Type) → (List Int) → (List Int) → ((List Int) → Option R) → Option R
def en134 (F : FT134) : Ent := ⟨134, [(false, (.sl (.int .u32))), (false, (.sl (.int .u32)))], [(false, (.sl (.int .u32)))], fun R x k => F R x.1 x.2.1 (fun y1 => k (y1, ()) ())⟩
def res134 : List (ResultVar × TypeId × Bool) := [(.tmp 4, 57, false)]
abbrev LT134_6 : Type 1 := (R : Type) → (List Int) → (List Int) → Int → (List Int) → Int → Int → (List Int) → ((List Int) → Int → (List Int) → Option R) → Option R
def le134_6 (L : LT134_6) : LEnt := ⟨6, [.val 0 (.sl (.int .u32)), .val 1 (.sl (.int .u32)), .fix 5 (.own 0 0), .val 6 (.int .u64), .val 20 (.sl (.int .u32)), .val 21 (.int .i64), .val 22 (.int .i64), .row 0 (.int .u32) false], 1, [(.exit 0, [.val 0 (.sl (.int .u32)), .fix 5 (.own 0 0), .val 6 (.int .u64), .row 0 (.int .u32) false])], fun R x ke => L R x.1 x.2.1 x.2.2.1 x.2.2.2.1 x.2.2.2.2.1 x.2.2.2.2.2.1 x.2.2.2.2.2.2.1 (fun y1 y2 y3 => ke.1 (y1, y2, y3, ()))⟩
noncomputable def e134 (F130 : FT130) (L6 : LT134_6) (R : Type) : Env R := ⟨TT, EQT, 0, 58, ownOf [], callOf [en130 F130] R, loopOf [le134_6 L6] R, [], inlOf []⟩
def p134_6 : (R : Type) → (List Int) → (List Int) → Int → (List Int) → Int → Int → (List Int) → ((List Int) → (List Int) → Int → (List Int) → Int → Int → (List Int) → Option R) → ((List Int) → Int → (List Int) → Option R) → Option R := fun R x1 x2 x3 x4 x5 x6 x7 kc k0 =>
let v8 := (decide (x6 < x5));
(match v8 with
| true => (match (bnd x6 (List.length x4 : Int)) with
| true => let v9 := (List.getD x4 (Int.toNat x6) (0 : Int));
let v10 := (IntKind.u64.wrap v9);
let v11 := (IntKind.u64.wrap (x3 + v10));
let v12 := (List.length x2 : Int);
let v13 := (decide (x6 < v12));
(match v13 with
| true => (match (bnd x6 (List.length x2 : Int)) with
| true => let v14 := (List.getD x2 (Int.toNat x6) (0 : Int));
let v15 := (IntKind.u64.wrap v14);
let v16 := (IntKind.u64.wrap (v11 + v15));
let v17 := (IntKind.u32.wrap v16);
(match (bnd x6 (List.length x7 : Int)) with
| true => let v18 : (List Int) := (List.set x7 (Int.toNat x6) v17);
let v19 := (ishr .u64 v16 (32 : Int));
let v20 := (IntKind.i64.wrap (x6 + (1 : Int)));
kc x1 x2 v19 x4 x5 v20 v18
| false => none)
| false => none)
| false => let v21 := (IntKind.u32.wrap v11);
(match (bnd x6 (List.length x7 : Int)) with
| true => let v22 : (List Int) := (List.set x7 (Int.toNat x6) v21);
let v23 := (ishr .u64 v11 (32 : Int));
let v24 := (IntKind.i64.wrap (x6 + (1 : Int)));
kc x1 x2 v23 x4 x5 v24 v22
| false => none))
| false => none)
| false => k0 x1 x3 x7)
theorem q134_6 (F130 : FT130) (L6 : LT134_6) (R : Type) (x : HT (le134_6 L6).H) (kc : HT (le134_6 L6).H → Option R) (ke : KT R (le134_6 L6).exs) :
  exec (e134 F130 L6 R) (lcode 6 (codeOf Tryz.f134)) (stOf (le134_6 L6).H x 1) (roundK (le134_6 L6).H (le134_6 L6).exs kc ke) =
    p134_6 R x.1 x.2.1 x.2.2.1 x.2.2.2.1 x.2.2.2.2.1 x.2.2.2.2.2.1 x.2.2.2.2.2.2.1 (fun x1 x2 x3 x4 x5 x6 x7 => kc (x1, x2, x3, x4, x5, x6, x7, ())) (fun y1 y2 y3 => ke.1 (y1, y2, y3, ())) := by kernel_rfl
noncomputable def G134_6 : Nat → LT134_6
  | 0 => fun _ _ _ _ _ _ _ _ _ => none
  | n + 1 => fun R x1 x2 x3 x4 x5 x6 x7 k0 => p134_6 R x1 x2 x3 x4 x5 x6 x7 (fun x1 x2 x3 x4 x5 x6 x7 => G134_6 n R x1 x2 x3 x4 x5 x6 x7 k0) k0
def p134 (F130 : FT130) (L6 : LT134_6) : FT134 := fun R a0 a1 k =>
let v1 := (List.length a0 : Int);
let v2 := (List.length a1 : Int);
let v3 := (decide (v1 < v2));
(match v3 with
| true => let v4 := (List.length a1 : Int);
let v5 := (IntKind.i64.wrap (v4 + (1 : Int)));
(match (decide (0 ≤ v5 ∧ v5 ≤ v5 ∧ v5 ≤ (35184372088832 : Int))) with
| true => let v6 : (List Int) := (List.replicate (Int.toNat v5) (0 : Int));
let v7 := (List.length a1 : Int);
L6 R a1 a0 (0 : Int) a1 v7 (0 : Int) v6 (fun x8 x9 x10 =>
let v11 := (List.length x8 : Int);
let v12 := (IntKind.u32.wrap x9);
(match (bnd v11 (List.length x10 : Int)) with
| true => let v13 : (List Int) := (List.set x10 (Int.toNat v11) v12);
F130 R v13 fun y14 =>
k y14
| false => none))
| false => none)
| false => let v15 := (List.length a0 : Int);
let v16 := (IntKind.i64.wrap (v15 + (1 : Int)));
(match (decide (0 ≤ v16 ∧ v16 ≤ v16 ∧ v16 ≤ (35184372088832 : Int))) with
| true => let v17 : (List Int) := (List.replicate (Int.toNat v16) (0 : Int));
let v18 := (List.length a0 : Int);
L6 R a0 a1 (0 : Int) a0 v18 (0 : Int) v17 (fun x19 x20 x21 =>
let v22 := (List.length x19 : Int);
let v23 := (IntKind.u32.wrap x20);
(match (bnd v22 (List.length x21 : Int)) with
| true => let v24 : (List Int) := (List.set x21 (Int.toNat v22) v23);
F130 R v24 fun y25 =>
k y25
| false => none))
| false => none))
theorem q134 (F130 : FT130) (L6 : LT134_6) (F : FT134) (R : Type) (x : AT (en134 F).ins) (k : RT (en134 F).outs → PT (en134 F).ins → Option R) :
  xfun (e134 F130 L6 R) (codeOf Tryz.f134) res134 (avs (en134 F).ins x) (finK (en134 F).outs (en134 F).ins k) = p134 F130 L6 R x.1 x.2.1 (fun y1 => k (y1, ()) ()) := by kernel_rfl
noncomputable def F134 : FT134 := p134 F130 (G134_6 FUEL)
theorem env134 (R : Type) : EnvOK Tryz.prog (e134 F130 (G134_6 FUEL) R) := ⟨tabOK, eqOK, callOf_ok (allE_cons ok130 allE_nil), noIns, inlOK_nil⟩
noncomputable def T134_6 : (R : Type) → HT (le134_6 (G134_6 FUEL)).H → (HT (le134_6 (G134_6 FUEL)).H → Option R) → KT R (le134_6 (G134_6 FUEL)).exs → Option R := fun R x kc ke => p134_6 R x.1 x.2.1 x.2.2.1 x.2.2.2.1 x.2.2.2.2.1 x.2.2.2.2.2.1 x.2.2.2.2.2.2.1 (fun x1 x2 x3 x4 x5 x6 x7 => kc (x1, x2, x3, x4, x5, x6, x7, ())) (fun y1 y2 y3 => ke.1 (y1, y2, y3, ()))
theorem it134_6 : ∀ (n : Nat) (R : Type) (x : HT (le134_6 (G134_6 FUEL)).H) (ke : KT R (le134_6 (G134_6 FUEL)).exs), iter T134_6 n R x ke = G134_6 n R x.1 x.2.1 x.2.2.1 x.2.2.2.1 x.2.2.2.2.1 x.2.2.2.2.2.1 x.2.2.2.2.2.2.1 (fun y1 y2 y3 => ke.1 (y1, y2, y3, ())) := by
  intro n
  induction n with
  | zero => intro R x ke; rfl
  | succ n ih =>
    intro R x ke
    show T134_6 R x (fun x' => iter T134_6 n R x' ke) ke = _
    rw [show (fun x' => iter T134_6 n R x' ke) = fun x => G134_6 n R x.1 x.2.1 x.2.2.1 x.2.2.2.1 x.2.2.2.2.1 x.2.2.2.2.2.1 x.2.2.2.2.2.2.1 (fun y1 y2 y3 => ke.1 (y1, y2, y3, ())) from funext fun x' => ih R x' ke]
    rfl
theorem lok134_6 : (le134_6 (G134_6 FUEL)).OK Tryz.prog 0 58 (lcode 6 (codeOf Tryz.f134)) := fun R x ke r h =>
  iter_sound (fun R => e134 F130 (G134_6 FUEL) R) 0 58 (fun _ => rfl) (fun _ => rfl) (fun R => env134 R) mixed (by
    intro R
    rw [show loopsOf (lcode 6 (codeOf Tryz.f134)) = [] from by kernel_rfl]
    exact allM_nil) (T := T134_6) (fun R x kc ke => q134_6 F130 (G134_6 FUEL) R x kc ke) FUEL R x ke r ((it134_6 FUEL R x ke).trans h)
theorem ok134 : (en134 F134).OK Tryz.prog :=
  ent_ok (Ef := fun R => e134 F130 (G134_6 FUEL) R) (fun R => env134 R) mixed Tryz.func134 (body := codeOf Tryz.f134) (by kernel_rfl) (by kernel_rfl) (np := 0) (nt := 58) (fun _ => rfl) (fun _ => rfl) (by kernel_rfl) (res := res134) (by kernel_rfl) (fun _ => rfl) (fun _ => Nat.le_of_ble_eq_true rfl) (by
    intro R
    rw [show loopsOf (codeOf Tryz.f134) = [lcode 6 (codeOf Tryz.f134)] from by kernel_rfl]
    exact (allM_cons (loop_ok2 (e := le134_6 (G134_6 FUEL)) rfl rfl lok134_6) allM_nil)) (fun R x k => q134 F130 (G134_6 FUEL) F134 R x k)
abbrev FT134134 : Type 1 := (R : Type) → (List Int) → (List (List Int)) → ((List Int) → Int → Option R) → Option R
def en134134 (F : FT134134) : EntF := ⟨133, 134, [(false, (.sl (.int .u32))), (false, (.sl (.sl (.int .u32))))], [(false, (.sl (.int .u32))), (false, (.int .i64))], fun R x k => F R x.1 x.2.1 (fun y1 y2 => k (y1, y2, ()) ())⟩
def res134134 : List (ResultVar × TypeId × Bool) := [(.tmp 6, 57, false), (.tmp 7, 32, false)]
abbrev LT134134_4 : Type 1 := (R : Type) → (List Int) → (List (List Int)) → Int → Int → (Int → Option R) → ((List Int) → Option R) → Option R
def le134134_4 (L : LT134134_4) : LEnt := ⟨4, [.val 0 (.sl (.int .u32)), .fix 2 (.fn 134), .val 13 (.sl (.sl (.int .u32))), .val 14 (.int .i64), .val 15 (.int .i64)], 0, [(.ret, [.fix 6 .nil, .val 7 (.int .i64)]), (.exit 0, [.val 0 (.sl (.int .u32))])], fun R x ke => L R x.1 x.2.1 x.2.2.1 x.2.2.2.1 (fun y1 => ke.1 (y1, ())) (fun y1 => ke.2.1 (y1, ()))⟩
noncomputable def e134134 (F131 : FT131) (F134 : FT134) (L4 : LT134134_4) (R : Type) : Env R := ⟨TT, EQT, 0, 28, ownOf [], callOf [en131 F131, en134 F134] R, loopOf [le134134_4 L4] R, [], inlOf []⟩
def p134134_4 (F134 : FT134) : (R : Type) → (List Int) → (List (List Int)) → Int → Int → ((List Int) → (List (List Int)) → Int → Int → Option R) → (Int → Option R) → ((List Int) → Option R) → Option R := fun R x1 x2 x3 x4 kc k0 k1 =>
let v5 := (decide (x4 < x3));
(match v5 with
| true => (match (bnd x4 (List.length x2 : Int)) with
| true => let v6 : (List Int) := (List.getD x2 (Int.toNat x4) ([] : (List Int)));
F134 R x1 v6 fun y7 =>
let v8 := (List.length y7 : Int);
let v9 := (decide (v8 > (256 : Int)));
(match v9 with
| true => k0 (11 : Int)
| false => let v10 := (IntKind.i64.wrap (x4 + (1 : Int)));
kc y7 x2 x3 v10)
| false => none)
| false => k1 x1)
theorem q134134_4 (F131 : FT131) (F134 : FT134) (L4 : LT134134_4) (R : Type) (x : HT (le134134_4 L4).H) (kc : HT (le134134_4 L4).H → Option R) (ke : KT R (le134134_4 L4).exs) :
  exec (e134134 F131 F134 L4 R) (lcode 4 (codeOf Tryz.f133)) (stOf (le134134_4 L4).H x 0) (roundK (le134134_4 L4).H (le134134_4 L4).exs kc ke) =
    p134134_4 F134 R x.1 x.2.1 x.2.2.1 x.2.2.2.1 (fun x1 x2 x3 x4 => kc (x1, x2, x3, x4, ())) (fun y1 => ke.1 (y1, ())) (fun y1 => ke.2.1 (y1, ())) := by kernel_rfl
noncomputable def G134134_4 : Nat → LT134134_4
  | 0 => fun _ _ _ _ _ _ _ => none
  | n + 1 => fun R x1 x2 x3 x4 k0 k1 => p134134_4 F134 R x1 x2 x3 x4 (fun x1 x2 x3 x4 => G134134_4 n R x1 x2 x3 x4 k0 k1) k0 k1
def p134134 (F131 : FT131) (L4 : LT134134_4) : FT134134 := fun R a0 a1 k =>
F131 R a1 fun y1 =>
(match (!y1) with
| true => k ([] : (List Int)) (1 : Int)
| false => let v2 := (List.length a1 : Int);
L4 R a0 a1 v2 (0 : Int) (fun x3 =>
k ([] : (List Int)) x3) (fun x4 =>
k x4 (0 : Int)))
theorem q134134 (F131 : FT131) (F134 : FT134) (L4 : LT134134_4) (F : FT134134) (R : Type) (x : AT (en134134 F).ins) (k : RT (en134134 F).outs → PT (en134134 F).ins → Option R) :
  xfun (e134134 F131 F134 L4 R) (codeOf Tryz.f133) res134134 (avs (en134134 F).ins x ++ [AV.fn 134]) (finK (en134134 F).outs (en134134 F).ins k) = p134134 F131 L4 R x.1 x.2.1 (fun y1 y2 => k (y1, y2, ()) ()) := by kernel_rfl
noncomputable def F134134 : FT134134 := p134134 F131 (G134134_4 FUEL)
theorem env134134 (R : Type) : EnvOK Tryz.prog (e134134 F131 F134 (G134134_4 FUEL) R) := ⟨tabOK, eqOK, callOf_ok (allE_cons ok131 (allE_cons ok134 allE_nil)), noIns, inlOK_nil⟩
noncomputable def T134134_4 : (R : Type) → HT (le134134_4 (G134134_4 FUEL)).H → (HT (le134134_4 (G134134_4 FUEL)).H → Option R) → KT R (le134134_4 (G134134_4 FUEL)).exs → Option R := fun R x kc ke => p134134_4 F134 R x.1 x.2.1 x.2.2.1 x.2.2.2.1 (fun x1 x2 x3 x4 => kc (x1, x2, x3, x4, ())) (fun y1 => ke.1 (y1, ())) (fun y1 => ke.2.1 (y1, ()))
theorem it134134_4 : ∀ (n : Nat) (R : Type) (x : HT (le134134_4 (G134134_4 FUEL)).H) (ke : KT R (le134134_4 (G134134_4 FUEL)).exs), iter T134134_4 n R x ke = G134134_4 n R x.1 x.2.1 x.2.2.1 x.2.2.2.1 (fun y1 => ke.1 (y1, ())) (fun y1 => ke.2.1 (y1, ())) := by
  intro n
  induction n with
  | zero => intro R x ke; rfl
  | succ n ih =>
    intro R x ke
    show T134134_4 R x (fun x' => iter T134134_4 n R x' ke) ke = _
    rw [show (fun x' => iter T134134_4 n R x' ke) = fun x => G134134_4 n R x.1 x.2.1 x.2.2.1 x.2.2.2.1 (fun y1 => ke.1 (y1, ())) (fun y1 => ke.2.1 (y1, ())) from funext fun x' => ih R x' ke]
    rfl
theorem lok134134_4 : (le134134_4 (G134134_4 FUEL)).OK Tryz.prog 0 28 (lcode 4 (codeOf Tryz.f133)) := fun R x ke r h =>
  iter_sound (fun R => e134134 F131 F134 (G134134_4 FUEL) R) 0 28 (fun _ => rfl) (fun _ => rfl) (fun R => env134134 R) mixed (by
    intro R
    rw [show loopsOf (lcode 4 (codeOf Tryz.f133)) = [] from by kernel_rfl]
    exact allM_nil) (T := T134134_4) (fun R x kc ke => q134134_4 F131 F134 (G134134_4 FUEL) R x kc ke) FUEL R x ke r ((it134134_4 FUEL R x ke).trans h)
theorem ok134134 : (en134134 F134134).OK Tryz.prog :=
  ent_okF (Ef := fun R => e134134 F131 F134 (G134134_4 FUEL) R) (fun R => env134134 R) mixed Tryz.func133 (body := codeOf Tryz.f133) (by kernel_rfl) (by kernel_rfl) (np := 0) (nt := 28) (fun _ => rfl) (fun _ => rfl) (by kernel_rfl) (res := res134134) (by kernel_rfl) (fun _ => rfl) (fun _ => Nat.le_of_ble_eq_true rfl) (by
    intro R
    rw [show loopsOf (codeOf Tryz.f133) = [lcode 4 (codeOf Tryz.f133)] from by kernel_rfl]
    exact (allM_cons (loop_ok2 (e := le134134_4 (G134134_4 FUEL)) rfl rfl lok134134_4) allM_nil)) (fun R x k => q134134 F131 F134 (G134134_4 FUEL) F134134 R x k)
abbrev FT106 : Type 1 := (R : Type) → (List (List Int)) → ((List Int) → Int → Option R) → Option R
def en106 (F : FT106) : Ent := ⟨106, [(false, (.sl (.sl (.int .u32))))], [(false, (.sl (.int .u32))), (false, (.int .i64))], fun R x k => F R x.1 (fun y1 y2 => k (y1, y2, ()) ())⟩
def res106 : List (ResultVar × TypeId × Bool) := [(.tmp 2, 57, false), (.tmp 3, 32, false)]
noncomputable def e106 (F134134 : FT134134) (R : Type) : Env R := ⟨TT, EQT, 0, 8, ownOf [], callOfF [en134134 F134134] [] R, loopOf [] R, [], inlOf []⟩
def p106 (F134134 : FT134134) : FT106 := fun R a0 k =>
F134134 R ([] : (List Int)) a0 fun y1 y2 =>
k y1 y2
theorem q106 (F134134 : FT134134) (F : FT106) (R : Type) (x : AT (en106 F).ins) (k : RT (en106 F).outs → PT (en106 F).ins → Option R) :
  xfun (e106 F134134 R) (codeOf Tryz.f106) res106 (avs (en106 F).ins x) (finK (en106 F).outs (en106 F).ins k) = p106 F134134 R x.1 (fun y1 y2 => k (y1, y2, ()) ()) := by kernel_rfl
noncomputable def F106 : FT106 := p106 F134134
theorem env106 (R : Type) : EnvOK Tryz.prog (e106 F134134 R) := ⟨tabOK, eqOK, callOfF_ok (allF_cons ok134134 allF_nil) allE_nil, noIns, inlOK_nil⟩
theorem ok106 : (en106 F106).OK Tryz.prog :=
  ent_ok (Ef := fun R => e106 F134134 R) (fun R => env106 R) mixed Tryz.func106 (body := codeOf Tryz.f106) (by kernel_rfl) (by kernel_rfl) (np := 0) (nt := 8) (fun _ => rfl) (fun _ => rfl) (by kernel_rfl) (res := res106) (by kernel_rfl) (fun _ => rfl) (fun _ => Nat.le_of_ble_eq_true rfl) (by
    intro R
    rw [show loopsOf (codeOf Tryz.f106) = [] from by kernel_rfl]
    exact allM_nil) (fun R x k => q106 F134134 F106 R x k)
abbrev FT66 : Type 1 := (R : Type) → Tq22 → (List Tq2) → Tq1 → ((List Int) → Tq22 → (List Tq2) → Option R) → Option R
def en66 (F : FT66) : EntM := ⟨66, [((.int .i64), false), ((.sl (.sl (.int .u32))), false), ((.sl (.int .i64)), false), ((.sl (.sl (.int .u32))), false), (.mp, true), ((.int .i64), false)], Kq1, (.sl (.int .u32)), [(false, Kq1)], (.sl (.int .u32)), fun R s m x k => F R s m x.1 k⟩
abbrev LT66_10 : Type 1 := (R : Type) → (List Int) → (List Int) → Int → Int → Int → Tq22 → (List Tq2) → Tq1 → ((List Int) → Tq22 → (List Tq2) → Tq1 → Option R) → Option R
def le66_10 (L : LT66_10) : LEnt := ⟨10, [.fix 0 (.mptr 0 0 Kq18), .fix 3 (.ptr 2 [] Kq1), .val 7 (.sl (.int .u32)), .val 8 (.sl (.int .u32)), .val 9 (.int .i64), .val 49 (.int .i64), .val 50 (.int .i64), .mix 0 [((.int .i64), none), ((.sl (.sl (.int .u32))), none), ((.sl (.int .i64)), none), ((.sl (.sl (.int .u32))), none), (.mp, some 1), ((.int .i64), none)], .map 1 Kq1 (.sl (.int .u32)), .var 2 Kq1 false], 3, [(.exit 0, [.fix 0 (.mptr 0 0 Kq18), .fix 3 (.ptr 2 [] Kq1), .val 7 (.sl (.int .u32)), .mix 0 [((.int .i64), none), ((.sl (.sl (.int .u32))), none), ((.sl (.int .i64)), none), ((.sl (.sl (.int .u32))), none), (.mp, some 1), ((.int .i64), none)], .map 1 Kq1 (.sl (.int .u32)), .var 2 Kq1 false])], fun R x ke => L R x.1 x.2.1 x.2.2.1 x.2.2.2.1 x.2.2.2.2.1 x.2.2.2.2.2.1 x.2.2.2.2.2.2.1 x.2.2.2.2.2.2.2.1 (fun y1 y2 y3 y4 => ke.1 (y1, y2, y3, y4, ()))⟩
noncomputable def e102i2 (R : Type) : Env R := ⟨TT, EQT, 2, 14, ownOf [], callOf [] R, fun _ _ _ => none, [], inlOf []⟩
theorem env102i2 (R : Type) : EnvOK Tryz.prog (e102i2 R) := ⟨tabOK, eqOK, callOf_ok allE_nil, noIns, inlOK_nil⟩
noncomputable def e66 (F66 : FT66) (F103 : FT103) (F106 : FT106) (F107 : FT107) (L10 : LT66_10) (R : Type) : Env R := ⟨TT, EQT, 2, 113, ownOf [(2, 6), (13, 10), (13, 15), (13, 20), (14, 14)], callOf [en103 F103, en106 F106, en107 F107] R, loopOf [le66_10 L10] R, [], inlOf [(66, inlM 2 (en66 F66) R), (102, xinl (e102i2 R) (codeOf Tryz.f102) [.tmp 6] 3)]⟩
def p66_10 (F66 : FT66) (F106 : FT106) (F107 : FT107) : (R : Type) → (List Int) → (List Int) → Int → Int → Int → Tq22 → (List Tq2) → Tq1 → ((List Int) → (List Int) → Int → Int → Int → Tq22 → (List Tq2) → Tq1 → Option R) → ((List Int) → Tq22 → (List Tq2) → Tq1 → Option R) → Option R := fun R x1 x2 x3 x4 x5 x6 x7 x8 kc k0 =>
let v9 := (decide (x5 < x4));
(match v9 with
| true => (match (bnd x8.1 (List.length x6.2.2.1 : Int)) with
| true => let v10 := (List.getD x6.2.2.1 (Int.toNat x8.1) (0 : Int));
let v11 := (IntKind.i64.wrap (x3 - v10));
let v12 := (decide (v11 < (0 : Int)));
(match v12 with
| true => k0 x1 (x6.1, x6.2.1, x6.2.2.1, x6.2.2.2.1, x6.2.2.2.2.1, ()) x7 x8
| false => let v13 := (List.length x2 : Int);
let v14 := (v13 == (0 : Int));
(match v14 with
| true => k0 x1 (x6.1, x6.2.1, x6.2.2.1, x6.2.2.2.1, x6.2.2.2.2.1, ()) x7 x8
| false => let v15 := (IntKind.i64.wrap (x8.1 + (1 : Int)));
F66 R (x6.1, x6.2.1, x6.2.2.1, x6.2.2.2.1, x6.2.2.2.2.1, ()) x7 (v15, v11, ()) fun y16 s17 m18 =>
let v19 : (List (List Int)) := ([x2, y16] : (List (List Int)));
F107 R v19 fun y20 y21 =>
let v22 := (y21 != (0 : Int));
(match v22 with
| true => let v23 : (List (List Int)) := ([x1, y20] : (List (List Int)));
F106 R v23 fun y24 y25 =>
let v26 := (y25 != (0 : Int));
(match v26 with
| true => (match (bnd x8.1 (List.length s17.2.2.2.1 : Int)) with
| true => let v27 : (List Int) := (List.getD s17.2.2.2.1 (Int.toNat x8.1) ([] : (List Int)));
let v28 : (List (List Int)) := ([x2, v27] : (List (List Int)));
F107 R v28 fun y29 y30 =>
let v31 := (y30 != (0 : Int));
(match v31 with
| true => let v32 := (IntKind.i64.wrap (x5 + (1 : Int)));
kc y24 y29 v11 x4 v32 (s17.1, s17.2.1, s17.2.2.1, s17.2.2.2.1, y30, ()) m18 x8
| false => let v33 := (IntKind.i64.wrap (x5 + (1 : Int)));
kc y24 y29 v11 x4 v33 (s17.1, s17.2.1, s17.2.2.1, s17.2.2.2.1, y25, ()) m18 x8)
| false => none)
| false => (match (bnd x8.1 (List.length s17.2.2.2.1 : Int)) with
| true => let v34 : (List Int) := (List.getD s17.2.2.2.1 (Int.toNat x8.1) ([] : (List Int)));
let v35 : (List (List Int)) := ([x2, v34] : (List (List Int)));
F107 R v35 fun y36 y37 =>
let v38 := (y37 != (0 : Int));
(match v38 with
| true => let v39 := (IntKind.i64.wrap (x5 + (1 : Int)));
kc y24 y36 v11 x4 v39 (s17.1, s17.2.1, s17.2.2.1, s17.2.2.2.1, y37, ()) m18 x8
| false => let v40 := (IntKind.i64.wrap (x5 + (1 : Int)));
kc y24 y36 v11 x4 v40 (s17.1, s17.2.1, s17.2.2.1, s17.2.2.2.1, y21, ()) m18 x8)
| false => none))
| false => let v41 : (List (List Int)) := ([x1, y20] : (List (List Int)));
F106 R v41 fun y42 y43 =>
let v44 := (y43 != (0 : Int));
(match v44 with
| true => (match (bnd x8.1 (List.length s17.2.2.2.1 : Int)) with
| true => let v45 : (List Int) := (List.getD s17.2.2.2.1 (Int.toNat x8.1) ([] : (List Int)));
let v46 : (List (List Int)) := ([x2, v45] : (List (List Int)));
F107 R v46 fun y47 y48 =>
let v49 := (y48 != (0 : Int));
(match v49 with
| true => let v50 := (IntKind.i64.wrap (x5 + (1 : Int)));
kc y42 y47 v11 x4 v50 (s17.1, s17.2.1, s17.2.2.1, s17.2.2.2.1, y48, ()) m18 x8
| false => let v51 := (IntKind.i64.wrap (x5 + (1 : Int)));
kc y42 y47 v11 x4 v51 (s17.1, s17.2.1, s17.2.2.1, s17.2.2.2.1, y43, ()) m18 x8)
| false => none)
| false => (match (bnd x8.1 (List.length s17.2.2.2.1 : Int)) with
| true => let v52 : (List Int) := (List.getD s17.2.2.2.1 (Int.toNat x8.1) ([] : (List Int)));
let v53 : (List (List Int)) := ([x2, v52] : (List (List Int)));
F107 R v53 fun y54 y55 =>
let v56 := (y55 != (0 : Int));
(match v56 with
| true => let v57 := (IntKind.i64.wrap (x5 + (1 : Int)));
kc y42 y54 v11 x4 v57 (s17.1, s17.2.1, s17.2.2.1, s17.2.2.2.1, y55, ()) m18 x8
| false => let v58 := (IntKind.i64.wrap (x5 + (1 : Int)));
kc y42 y54 v11 x4 v58 (s17.1, s17.2.1, s17.2.2.1, s17.2.2.2.1, s17.2.2.2.2.1, ()) m18 x8)
| false => none)))))
| false => none)
| false => k0 x1 (x6.1, x6.2.1, x6.2.2.1, x6.2.2.2.1, x6.2.2.2.2.1, ()) x7 x8)
theorem q66_10 (F66 : FT66) (F103 : FT103) (F106 : FT106) (F107 : FT107) (L10 : LT66_10) (R : Type) (x : HT (le66_10 L10).H) (kc : HT (le66_10 L10).H → Option R) (ke : KT R (le66_10 L10).exs) :
  exec (e66 F66 F103 F106 F107 L10 R) (lcode 10 (codeOf Tryz.f66)) (stOf (le66_10 L10).H x 3) (roundK (le66_10 L10).H (le66_10 L10).exs kc ke) =
    p66_10 F66 F106 F107 R x.1 x.2.1 x.2.2.1 x.2.2.2.1 x.2.2.2.2.1 x.2.2.2.2.2.1 x.2.2.2.2.2.2.1 x.2.2.2.2.2.2.2.1 (fun x1 x2 x3 x4 x5 x6 x7 x8 => kc (x1, x2, x3, x4, x5, x6, x7, x8, ())) (fun y1 y2 y3 y4 => ke.1 (y1, y2, y3, y4, ())) := by kernel_rfl
noncomputable def G66_10 (F66 : FT66) : Nat → LT66_10
  | 0 => fun _ _ _ _ _ _ _ _ _ _ => none
  | n + 1 => fun R x1 x2 x3 x4 x5 x6 x7 x8 k0 => p66_10 F66 F106 F107 R x1 x2 x3 x4 x5 x6 x7 x8 (fun x1 x2 x3 x4 x5 x6 x7 x8 => G66_10 F66 n R x1 x2 x3 x4 x5 x6 x7 x8 k0) k0
def p66 (F103 : FT103) (L10 : LT66_10) : FT66 := fun R s m a1 k =>
let v1 := (List.length s.2.1 : Int);
let v2 := (a1.1 == v1);
(match v2 with
| true => F103 R a1.2.1 fun y3 y4 =>
let v5 := (y4 != (0 : Int));
(match v5 with
| true => k y3 (s.1, s.2.1, s.2.2.1, s.2.2.2.1, y4, ()) m
| false => k y3 (s.1, s.2.1, s.2.2.1, s.2.2.2.1, s.2.2.2.2.1, ()) m)
| false => let v6 : (List Int) := (Option.getD (mfind (Kd.eqv Kq1) m a1) ([] : (List Int)));
let v7 := (Option.isSome (mfind (Kd.eqv Kq1) m a1));
(match v7 with
| true => k v6 (s.1, s.2.1, s.2.2.1, s.2.2.2.1, s.2.2.2.2.1, ()) m
| false => (match (bnd a1.1 (List.length s.2.1 : Int)) with
| true => let v8 : (List Int) := (List.getD s.2.1 (Int.toNat a1.1) ([] : (List Int)));
L10 R ([] : (List Int)) v8 a1.2.1 s.1 (0 : Int) (s.1, s.2.1, s.2.2.1, s.2.2.2.1, s.2.2.2.2.1, ()) m a1 (fun x9 x10 x11 x12 =>
(match (Option.isNone (mfind (Kd.eqv Kq1) x11 x12)) with
| true => let v13 : (List Tq2) := (x11 ++ [(x12, x9)]);
k x9 (x10.1, x10.2.1, x10.2.2.1, x10.2.2.2.1, x10.2.2.2.2.1, ()) v13
| false => none))
| false => none)))
theorem q66 (F66 : FT66) (F103 : FT103) (F106 : FT106) (F107 : FT107) (L10 : LT66_10) (F : FT66) (R : Type) (s : MF (en66 F).fl) (m : List ((en66 F).kk.T × (en66 F).kv.T)) (x : AT (en66 F).ins) (k : (en66 F).out.T → MF (en66 F).fl → List ((en66 F).kk.T × (en66 F).kv.T) → Option R) :
  xfunM (e66 F66 F103 F106 F107 L10 R) (codeOf Tryz.f66) 4 (.sl (.int .u32)) Kq18 (en66 F).fl Kq1 (.sl (.int .u32)) s m (avs (en66 F).ins x) k = p66 F103 L10 R s m x.1 k := by kernel_rfl
theorem env66 (F66 : FT66) (h66 : (en66 F66).OK Tryz.prog) (R : Type) : EnvOK Tryz.prog (e66 F66 F103 F106 F107 (G66_10 F66 FUEL) R) := ⟨tabOK, eqOK, callOf_ok (allE_cons ok103 (allE_cons ok106 (allE_cons ok107 allE_nil))), noIns, (inlOK_consM h66 (inlOK_cons (xinl_sound (env102i2 R) mixed Tryz.func102 (body := codeOf Tryz.f102) (by kernel_rfl) (by kernel_rfl) (by kernel_rfl) (res := [.tmp 6]) (by kernel_rfl) (n := 3) (Nat.le_of_ble_eq_true rfl) (by kernel_rfl)) inlOK_nil))⟩
noncomputable def T66_10 (F66 : FT66) : (R : Type) → HT (le66_10 (G66_10 F66 FUEL)).H → (HT (le66_10 (G66_10 F66 FUEL)).H → Option R) → KT R (le66_10 (G66_10 F66 FUEL)).exs → Option R := fun R x kc ke => p66_10 F66 F106 F107 R x.1 x.2.1 x.2.2.1 x.2.2.2.1 x.2.2.2.2.1 x.2.2.2.2.2.1 x.2.2.2.2.2.2.1 x.2.2.2.2.2.2.2.1 (fun x1 x2 x3 x4 x5 x6 x7 x8 => kc (x1, x2, x3, x4, x5, x6, x7, x8, ())) (fun y1 y2 y3 y4 => ke.1 (y1, y2, y3, y4, ()))
theorem it66_10 (F66 : FT66) : ∀ (n : Nat) (R : Type) (x : HT (le66_10 (G66_10 F66 FUEL)).H) (ke : KT R (le66_10 (G66_10 F66 FUEL)).exs), iter (T66_10 F66) n R x ke = G66_10 F66 n R x.1 x.2.1 x.2.2.1 x.2.2.2.1 x.2.2.2.2.1 x.2.2.2.2.2.1 x.2.2.2.2.2.2.1 x.2.2.2.2.2.2.2.1 (fun y1 y2 y3 y4 => ke.1 (y1, y2, y3, y4, ())) := by
  intro n
  induction n with
  | zero => intro R x ke; rfl
  | succ n ih =>
    intro R x ke
    show T66_10 F66 R x (fun x' => iter (T66_10 F66) n R x' ke) ke = _
    rw [show (fun x' => iter (T66_10 F66) n R x' ke) = fun x => G66_10 F66 n R x.1 x.2.1 x.2.2.1 x.2.2.2.1 x.2.2.2.2.1 x.2.2.2.2.2.1 x.2.2.2.2.2.2.1 x.2.2.2.2.2.2.2.1 (fun y1 y2 y3 y4 => ke.1 (y1, y2, y3, y4, ())) from funext fun x' => ih R x' ke]
    rfl
theorem lok66_10 (F66 : FT66) (h66 : (en66 F66).OK Tryz.prog) : (le66_10 (G66_10 F66 FUEL)).OK Tryz.prog 2 113 (lcode 10 (codeOf Tryz.f66)) := fun R x ke r h =>
  iter_sound (fun R => e66 F66 F103 F106 F107 (G66_10 F66 FUEL) R) 2 113 (fun _ => rfl) (fun _ => rfl) (fun R => env66 F66 h66 R) mixed (by
    intro R
    rw [show loopsOf (lcode 10 (codeOf Tryz.f66)) = [] from by kernel_rfl]
    exact allM_nil) (T := T66_10 F66) (fun R x kc ke => q66_10 F66 F103 F106 F107 (G66_10 F66 FUEL) R x kc ke) FUEL R x ke r ((it66_10 F66 FUEL R x ke).trans h)
noncomputable def W66 : Nat → FT66
  | 0 => fun _ _ _ _ _ => none
  | n + 1 => (fun F66 => p66 F103 (G66_10 F66 FUEL)) (W66 n)
noncomputable def F66 : FT66 := W66 FUEL
theorem okp66 (F66 : FT66) (h66 : (en66 F66).OK Tryz.prog) : (en66 (p66 F103 (G66_10 F66 FUEL))).OK Tryz.prog :=
  ent_okM (Ef := fun R => e66 F66 F103 F106 F107 (G66_10 F66 FUEL) R) (fun R => env66 F66 h66 R) mixed Tryz.func66 (body := codeOf Tryz.f66) (by kernel_rfl) (by kernel_rfl) (nt := 113) (fun _ => rfl) (fun _ => rfl) (by kernel_rfl) (t := 4) (by kernel_rfl) (fun _ => Nat.le_of_ble_eq_true rfl) (by
    intro R
    rw [show loopsOf (codeOf Tryz.f66) = [lcode 10 (codeOf Tryz.f66)] from by kernel_rfl]
    exact (allM_cons (loop_ok2 (e := le66_10 (G66_10 F66 FUEL)) rfl rfl (lok66_10 F66 h66)) allM_nil)) (K0 := Kq18) (by kernel_rfl) (fun R s m x k => q66 F66 F103 F106 F107 (G66_10 F66 FUEL) F66 R s m x k)
theorem okW66 : ∀ n, (en66 (W66 n)).OK Tryz.prog
  | 0 => fun R s m x k r h => by cases h
  | n + 1 => okp66 (W66 n) (okW66 n)
theorem ok66 : (en66 F66).OK Tryz.prog := okW66 FUEL
abbrev FT27 : Type 1 := (R : Type) → (List Int) → Int → Int → (List Int) → ((List Int) → Int → Option R) → Option R
def en27 (F : FT27) : Ent := ⟨27, [(false, (.sl (.int .i64))), (false, (.int .i64)), (false, (.int .i64)), (false, (.sl (.int .u64)))], [(false, (.sl (.int .u32))), (false, (.int .i64))], fun R x k => F R x.1 x.2.1 x.2.2.1 x.2.2.2.1 (fun y1 y2 => k (y1, y2, ()) ())⟩
def res27 : List (ResultVar × TypeId × Bool) := [(.tmp 8, 57, false), (.tmp 9, 32, false)]
abbrev LT27_9 : Type 1 := (R : Type) → Int → (List Int) → (List Int) → Int → Int → (List Tq2) → (List (List Int)) → (List Int) → (List (List Int)) → Tq1 → (Int → Option R) → (Int → (List Tq2) → (List (List Int)) → (List Int) → (List (List Int)) → Tq1 → Option R) → Option R
def le27_9 (L : LT27_9) : LEnt := ⟨9, [.val 1 (.int .i64), .fix 12 (.mptr 4 0 Kq18), .val 13 (.sl (.int .u64)), .val 51 (.sl (.int .i64)), .val 52 (.int .i64), .val 53 (.int .i64), .map 0 Kq1 (.sl (.int .u32)), .row 1 (.sl (.int .u32)) false, .row 2 (.int .i64) false, .row 3 (.sl (.int .u32)) false, .mix 4 [((.int .i64), none), ((.sl (.sl (.int .u32))), some 1), ((.sl (.int .i64)), some 2), ((.sl (.sl (.int .u32))), some 3), (.mp, some 0), ((.int .i64), none)]], 5, [(.ret, [.fix 8 .nil, .val 9 (.int .i64)]), (.exit 0, [.val 1 (.int .i64), .fix 12 (.mptr 4 0 Kq18), .map 0 Kq1 (.sl (.int .u32)), .row 1 (.sl (.int .u32)) false, .row 2 (.int .i64) false, .row 3 (.sl (.int .u32)) false, .mix 4 [((.int .i64), none), ((.sl (.sl (.int .u32))), some 1), ((.sl (.int .i64)), some 2), ((.sl (.sl (.int .u32))), some 3), (.mp, some 0), ((.int .i64), none)]])], fun R x ke => L R x.1 x.2.1 x.2.2.1 x.2.2.2.1 x.2.2.2.2.1 x.2.2.2.2.2.1 x.2.2.2.2.2.2.1 x.2.2.2.2.2.2.2.1 x.2.2.2.2.2.2.2.2.1 x.2.2.2.2.2.2.2.2.2.1 (fun y1 => ke.1 (y1, ())) (fun y1 y2 y3 y4 y5 y6 => ke.2.1 (y1, y2, y3, y4, y5, y6, ()))⟩
noncomputable def e102i0 (R : Type) : Env R := ⟨TT, EQT, 0, 14, ownOf [], callOf [] R, fun _ _ _ => none, [], inlOf []⟩
theorem env102i0 (R : Type) : EnvOK Tryz.prog (e102i0 R) := ⟨tabOK, eqOK, callOf_ok allE_nil, noIns, inlOK_nil⟩
noncomputable def e65i0 (F64 : FT64) (F84 : FT84) (F101 : FT101) (F103 : FT103) (F104 : FT104) (F105 : FT105) (R : Type) : Env R := ⟨TT, EQT, 0, 84, ownOf [(6, 5), (9, 12)], callOf [en64 F64, en84 F84, en101 F101, en103 F103, en104 F104, en105 F105] R, fun _ _ _ => none, [], inlOf [(102, xinl (e102i0 R) (codeOf Tryz.f102) [.tmp 6] 3)]⟩
theorem env65i0 (R : Type) : EnvOK Tryz.prog (e65i0 F64 F84 F101 F103 F104 F105 R) := ⟨tabOK, eqOK, callOf_ok (allE_cons ok64 (allE_cons ok84 (allE_cons ok101 (allE_cons ok103 (allE_cons ok104 (allE_cons ok105 allE_nil)))))), noIns, (inlOK_cons (xinl_sound (env102i0 R) mixed Tryz.func102 (body := codeOf Tryz.f102) (by kernel_rfl) (by kernel_rfl) (by kernel_rfl) (res := [.tmp 6]) (by kernel_rfl) (n := 3) (Nat.le_of_ble_eq_true rfl) (by kernel_rfl)) inlOK_nil)⟩
noncomputable def e27 (F64 : FT64) (F66 : FT66) (F84 : FT84) (F101 : FT101) (F103 : FT103) (F104 : FT104) (F105 : FT105) (L9 : LT27_9) (R : Type) : Env R := ⟨TT, EQT, 0, 77, ownOf [(6, 2), (6, 3), (11, 3), (16, 3)], callOf [en64 F64, en84 F84, en101 F101, en103 F103, en104 F104, en105 F105] R, loopOf [le27_9 L9] R, [], inlOf [(66, inlM 0 (en66 F66) R), (65, xinl (e65i0 F64 F84 F101 F103 F104 F105 R) (codeOf Tryz.f65) [.tmp 6, .tmp 7] 3)]⟩
def p27_9 (F64 : FT64) (F84 : FT84) (F101 : FT101) (F103 : FT103) (F104 : FT104) (F105 : FT105) : (R : Type) → Int → (List Int) → (List Int) → Int → Int → (List Tq2) → (List (List Int)) → (List Int) → (List (List Int)) → Tq1 → (Int → (List Int) → (List Int) → Int → Int → (List Tq2) → (List (List Int)) → (List Int) → (List (List Int)) → Tq1 → Option R) → (Int → Option R) → (Int → (List Tq2) → (List (List Int)) → (List Int) → (List (List Int)) → Tq1 → Option R) → Option R := fun R x1 x2 x3 x4 x5 x6 x7 x8 x9 x10 kc k0 k1 =>
let v11 := (decide (x5 < x4));
(match v11 with
| true => (match (bnd x5 (List.length x3 : Int)) with
| true => let v12 := (List.getD x3 (Int.toNat x5) (0 : Int));
F64 R x2 fun y13 y14 =>
F101 R v12 x2 fun y15 y16 =>
let v17 := (y16 != (0 : Int));
(match v17 with
| true => k0 (0 : Int)
| false => (match (bnd v12 (List.length x2 : Int)) with
| true => let v18 := (List.getD x2 (Int.toNat v12) (0 : Int));
let v19 := (v18 == (0 : Int));
(match v19 with
| true => k0 (0 : Int)
| false => F84 R y13 fun y20 =>
F103 R y20 fun y21 y22 =>
let v23 := (y22 != (0 : Int));
(match v23 with
| true => (match (bnd v12 (List.length x2 : Int)) with
| true => let v24 := (List.getD x2 (Int.toNat v12) (0 : Int));
F104 R v24 fun y25 =>
let v26 : (List (List Int)) := ([y25] : (List (List Int)));
(match (decide (List.length x7 + List.length v26 ≤ 5864062014805)) with
| true => let v27 : (List (List Int)) := (x7 ++ v26);
let v28 : (List Int) := ([y20] : (List Int));
(match (decide (List.length x8 + List.length v28 ≤ 17592186044416)) with
| true => let v29 : (List Int) := (x8 ++ v28);
F104 R y13 fun y30 =>
F105 R y21 y30 fun y31 y32 =>
let v33 := (y32 != (0 : Int));
(match v33 with
| true => let v34 : (List (List Int)) := ([y31] : (List (List Int)));
(match (decide (List.length x9 + List.length v34 ≤ 5864062014805)) with
| true => let v35 : (List (List Int)) := (x9 ++ v34);
none
| false => none)
| false => let v36 : (List (List Int)) := ([y31] : (List (List Int)));
(match (decide (List.length x9 + List.length v36 ≤ 5864062014805)) with
| true => let v37 : (List (List Int)) := (x9 ++ v36);
let v38 := (IntKind.i64.wrap (x5 + (1 : Int)));
kc x1 y15 x3 x4 v38 x6 v27 v29 v37 (x10.1, y22, ())
| false => none))
| false => none)
| false => none)
| false => none)
| false => (match (bnd v12 (List.length x2 : Int)) with
| true => let v39 := (List.getD x2 (Int.toNat v12) (0 : Int));
F104 R v39 fun y40 =>
let v41 : (List (List Int)) := ([y40] : (List (List Int)));
(match (decide (List.length x7 + List.length v41 ≤ 5864062014805)) with
| true => let v42 : (List (List Int)) := (x7 ++ v41);
let v43 : (List Int) := ([y20] : (List Int));
(match (decide (List.length x8 + List.length v43 ≤ 17592186044416)) with
| true => let v44 : (List Int) := (x8 ++ v43);
F104 R y13 fun y45 =>
F105 R y21 y45 fun y46 y47 =>
let v48 := (y47 != (0 : Int));
(match v48 with
| true => let v49 : (List (List Int)) := ([y46] : (List (List Int)));
(match (decide (List.length x9 + List.length v49 ≤ 5864062014805)) with
| true => let v50 : (List (List Int)) := (x9 ++ v49);
none
| false => none)
| false => let v51 : (List (List Int)) := ([y46] : (List (List Int)));
(match (decide (List.length x9 + List.length v51 ≤ 5864062014805)) with
| true => let v52 : (List (List Int)) := (x9 ++ v51);
let v53 := (IntKind.i64.wrap (x5 + (1 : Int)));
kc x1 y15 x3 x4 v53 x6 v42 v44 v52 (x10.1, x10.2.1, ())
| false => none))
| false => none)
| false => none)
| false => none)))
| false => none))
| false => none)
| false => k1 x1 x6 x7 x8 x9 (x10.1, x10.2.1, ()))
theorem q27_9 (F64 : FT64) (F66 : FT66) (F84 : FT84) (F101 : FT101) (F103 : FT103) (F104 : FT104) (F105 : FT105) (L9 : LT27_9) (R : Type) (x : HT (le27_9 L9).H) (kc : HT (le27_9 L9).H → Option R) (ke : KT R (le27_9 L9).exs) :
  exec (e27 F64 F66 F84 F101 F103 F104 F105 L9 R) (lcode 9 (codeOf Tryz.f27)) (stOf (le27_9 L9).H x 5) (roundK (le27_9 L9).H (le27_9 L9).exs kc ke) =
    p27_9 F64 F84 F101 F103 F104 F105 R x.1 x.2.1 x.2.2.1 x.2.2.2.1 x.2.2.2.2.1 x.2.2.2.2.2.1 x.2.2.2.2.2.2.1 x.2.2.2.2.2.2.2.1 x.2.2.2.2.2.2.2.2.1 x.2.2.2.2.2.2.2.2.2.1 (fun x1 x2 x3 x4 x5 x6 x7 x8 x9 x10 => kc (x1, x2, x3, x4, x5, x6, x7, x8, x9, x10, ())) (fun y1 => ke.1 (y1, ())) (fun y1 y2 y3 y4 y5 y6 => ke.2.1 (y1, y2, y3, y4, y5, y6, ())) := by kernel_rfl
noncomputable def G27_9 : Nat → LT27_9
  | 0 => fun _ _ _ _ _ _ _ _ _ _ _ _ _ => none
  | n + 1 => fun R x1 x2 x3 x4 x5 x6 x7 x8 x9 x10 k0 k1 => p27_9 F64 F84 F101 F103 F104 F105 R x1 x2 x3 x4 x5 x6 x7 x8 x9 x10 (fun x1 x2 x3 x4 x5 x6 x7 x8 x9 x10 => G27_9 n R x1 x2 x3 x4 x5 x6 x7 x8 x9 x10 k0 k1) k0 k1
def p27 (F64 : FT64) (F66 : FT66) (L9 : LT27_9) : FT27 := fun R a0 a1 a2 a3 k =>
let v1 := (List.length a0 : Int);
let v2 := (decide (v1 > (16 : Int)));
(match v2 with
| true => k ([] : (List Int)) (1 : Int)
| false => let v3 := (decide (a1 < (0 : Int)));
(match v3 with
| true => k ([] : (List Int)) (1 : Int)
| false => let v4 := (decide (a1 > (256 : Int)));
(match v4 with
| true => k ([] : (List Int)) (1 : Int)
| false => let v5 := (decide (a2 < (1 : Int)));
(match v5 with
| true => k ([] : (List Int)) (1 : Int)
| false => let v6 := (decide (a2 > (8 : Int)));
(match v6 with
| true => k ([] : (List Int)) (1 : Int)
| false => F64 R a3 fun y7 y8 =>
let v9 := (y8 != (0 : Int));
(match v9 with
| true => k ([] : (List Int)) y8
| false => let v10 := (List.length a0 : Int);
L9 R a1 a3 a0 v10 (0 : Int) ([] : List (Tq1 × (List Int))) ([] : (List (List Int))) ([] : (List Int)) ([] : (List (List Int))) (a2, (0 : Int), ()) (fun x11 =>
k ([] : (List Int)) x11) (fun x12 x13 x14 x15 x16 x17 =>
F66 R (x17.1, x14, x15, x16, x17.2.1, ()) x13 ((0 : Int), x12, ()) fun y18 s19 m20 =>
k y18 s19.2.2.2.2.1)))))))
theorem q27 (F64 : FT64) (F66 : FT66) (F84 : FT84) (F101 : FT101) (F103 : FT103) (F104 : FT104) (F105 : FT105) (L9 : LT27_9) (F : FT27) (R : Type) (x : AT (en27 F).ins) (k : RT (en27 F).outs → PT (en27 F).ins → Option R) :
  xfun (e27 F64 F66 F84 F101 F103 F104 F105 L9 R) (codeOf Tryz.f27) res27 (avs (en27 F).ins x) (finK (en27 F).outs (en27 F).ins k) = p27 F64 F66 L9 R x.1 x.2.1 x.2.2.1 x.2.2.2.1 (fun y1 y2 => k (y1, y2, ()) ()) := by kernel_rfl
noncomputable def F27 : FT27 := p27 F64 F66 (G27_9 FUEL)
theorem env27 (R : Type) : EnvOK Tryz.prog (e27 F64 F66 F84 F101 F103 F104 F105 (G27_9 FUEL) R) := ⟨tabOK, eqOK, callOf_ok (allE_cons ok64 (allE_cons ok84 (allE_cons ok101 (allE_cons ok103 (allE_cons ok104 (allE_cons ok105 allE_nil)))))), noIns, (inlOK_consM ok66 (inlOK_cons (xinl_sound (env65i0 R) mixed Tryz.func65 (body := codeOf Tryz.f65) (by kernel_rfl) (by kernel_rfl) (by kernel_rfl) (res := [.tmp 6, .tmp 7]) (by kernel_rfl) (n := 3) (Nat.le_of_ble_eq_true rfl) (by kernel_rfl)) inlOK_nil))⟩
noncomputable def T27_9 : (R : Type) → HT (le27_9 (G27_9 FUEL)).H → (HT (le27_9 (G27_9 FUEL)).H → Option R) → KT R (le27_9 (G27_9 FUEL)).exs → Option R := fun R x kc ke => p27_9 F64 F84 F101 F103 F104 F105 R x.1 x.2.1 x.2.2.1 x.2.2.2.1 x.2.2.2.2.1 x.2.2.2.2.2.1 x.2.2.2.2.2.2.1 x.2.2.2.2.2.2.2.1 x.2.2.2.2.2.2.2.2.1 x.2.2.2.2.2.2.2.2.2.1 (fun x1 x2 x3 x4 x5 x6 x7 x8 x9 x10 => kc (x1, x2, x3, x4, x5, x6, x7, x8, x9, x10, ())) (fun y1 => ke.1 (y1, ())) (fun y1 y2 y3 y4 y5 y6 => ke.2.1 (y1, y2, y3, y4, y5, y6, ()))
theorem it27_9 : ∀ (n : Nat) (R : Type) (x : HT (le27_9 (G27_9 FUEL)).H) (ke : KT R (le27_9 (G27_9 FUEL)).exs), iter T27_9 n R x ke = G27_9 n R x.1 x.2.1 x.2.2.1 x.2.2.2.1 x.2.2.2.2.1 x.2.2.2.2.2.1 x.2.2.2.2.2.2.1 x.2.2.2.2.2.2.2.1 x.2.2.2.2.2.2.2.2.1 x.2.2.2.2.2.2.2.2.2.1 (fun y1 => ke.1 (y1, ())) (fun y1 y2 y3 y4 y5 y6 => ke.2.1 (y1, y2, y3, y4, y5, y6, ())) := by
  intro n
  induction n with
  | zero => intro R x ke; rfl
  | succ n ih =>
    intro R x ke
    show T27_9 R x (fun x' => iter T27_9 n R x' ke) ke = _
    rw [show (fun x' => iter T27_9 n R x' ke) = fun x => G27_9 n R x.1 x.2.1 x.2.2.1 x.2.2.2.1 x.2.2.2.2.1 x.2.2.2.2.2.1 x.2.2.2.2.2.2.1 x.2.2.2.2.2.2.2.1 x.2.2.2.2.2.2.2.2.1 x.2.2.2.2.2.2.2.2.2.1 (fun y1 => ke.1 (y1, ())) (fun y1 y2 y3 y4 y5 y6 => ke.2.1 (y1, y2, y3, y4, y5, y6, ())) from funext fun x' => ih R x' ke]
    rfl
theorem lok27_9 : (le27_9 (G27_9 FUEL)).OK Tryz.prog 0 77 (lcode 9 (codeOf Tryz.f27)) := fun R x ke r h =>
  iter_sound (fun R => e27 F64 F66 F84 F101 F103 F104 F105 (G27_9 FUEL) R) 0 77 (fun _ => rfl) (fun _ => rfl) (fun R => env27 R) mixed (by
    intro R
    rw [show loopsOf (lcode 9 (codeOf Tryz.f27)) = [] from by kernel_rfl]
    exact allM_nil) (T := T27_9) (fun R x kc ke => q27_9 F64 F66 F84 F101 F103 F104 F105 (G27_9 FUEL) R x kc ke) FUEL R x ke r ((it27_9 FUEL R x ke).trans h)
theorem ok27 : (en27 F27).OK Tryz.prog :=
  ent_ok (Ef := fun R => e27 F64 F66 F84 F101 F103 F104 F105 (G27_9 FUEL) R) (fun R => env27 R) mixed Tryz.func27 (body := codeOf Tryz.f27) (by kernel_rfl) (by kernel_rfl) (np := 0) (nt := 77) (fun _ => rfl) (fun _ => rfl) (by kernel_rfl) (res := res27) (by kernel_rfl) (fun _ => rfl) (fun _ => Nat.le_of_ble_eq_true rfl) (by
    intro R
    rw [show loopsOf (codeOf Tryz.f27) = [lcode 9 (codeOf Tryz.f27)] from by kernel_rfl]
    exact (allM_cons (loop_ok2 (e := le27_9 (G27_9 FUEL)) rfl rfl lok27_9) allM_nil)) (fun R x k => q27 F64 F66 F84 F101 F103 F104 F105 (G27_9 FUEL) F27 R x k)
abbrev FT21 : Type 1 := (R : Type) → (List Int) → (List Int) → (Bool → Option R) → Option R
def en21 (F : FT21) : Ent := ⟨21, [(false, (.sl (.int .i64))), (false, (.sl (.int .i64)))], [(false, .bool)], fun R x k => F R x.1 x.2.1 (fun y1 => k (y1, ()) ())⟩
def res21 : List (ResultVar × TypeId × Bool) := [(.tmp 4, 4, false)]
abbrev LT21_4 : Type 1 := (R : Type) → (List Int) → (List Int) → Int → (Bool → Option R) → (Option R) → Option R
def le21_4 (L : LT21_4) : LEnt := ⟨4, [.val 0 (.sl (.int .i64)), .val 1 (.sl (.int .i64)), .val 5 (.int .i64)], 0, [(.ret, [.val 4 .bool]), (.exit 0, [])], fun R x ke => L R x.1 x.2.1 x.2.2.1 (fun y1 => ke.1 (y1, ())) (ke.2.1 ())⟩
noncomputable def e21 (L4 : LT21_4) (R : Type) : Env R := ⟨TT, EQT, 0, 26, ownOf [], callOf [] R, loopOf [le21_4 L4] R, [], inlOf []⟩
def p21_4 : (R : Type) → (List Int) → (List Int) → Int → ((List Int) → (List Int) → Int → Option R) → (Bool → Option R) → (Option R) → Option R := fun R x1 x2 x3 kc k0 k1 =>
let v4 := (List.length x1 : Int);
let v5 := (decide (x3 < v4));
(match v5 with
| true => (match (bnd x3 (List.length x1 : Int)) with
| true => let v6 := (List.getD x1 (Int.toNat x3) (0 : Int));
(match (bnd x3 (List.length x2 : Int)) with
| true => let v7 := (List.getD x2 (Int.toNat x3) (0 : Int));
let v8 := (v6 != v7);
(match v8 with
| true => k0 false
| false => let v9 := (IntKind.i64.wrap (x3 + (1 : Int)));
kc x1 x2 v9)
| false => none)
| false => none)
| false => k1)
theorem q21_4 (L4 : LT21_4) (R : Type) (x : HT (le21_4 L4).H) (kc : HT (le21_4 L4).H → Option R) (ke : KT R (le21_4 L4).exs) :
  exec (e21 L4 R) (lcode 4 (codeOf Tryz.f21)) (stOf (le21_4 L4).H x 0) (roundK (le21_4 L4).H (le21_4 L4).exs kc ke) =
    p21_4 R x.1 x.2.1 x.2.2.1 (fun x1 x2 x3 => kc (x1, x2, x3, ())) (fun y1 => ke.1 (y1, ())) (ke.2.1 ()) := by kernel_rfl
noncomputable def G21_4 : Nat → LT21_4
  | 0 => fun _ _ _ _ _ _ => none
  | n + 1 => fun R x1 x2 x3 k0 k1 => p21_4 R x1 x2 x3 (fun x1 x2 x3 => G21_4 n R x1 x2 x3 k0 k1) k0 k1
def p21 (L4 : LT21_4) : FT21 := fun R a0 a1 k =>
let v1 := (List.length a0 : Int);
let v2 := (List.length a1 : Int);
let v3 := (v1 != v2);
(match v3 with
| true => k false
| false => L4 R a0 a1 (0 : Int) (fun x4 =>
k x4) (k true))
theorem q21 (L4 : LT21_4) (F : FT21) (R : Type) (x : AT (en21 F).ins) (k : RT (en21 F).outs → PT (en21 F).ins → Option R) :
  xfun (e21 L4 R) (codeOf Tryz.f21) res21 (avs (en21 F).ins x) (finK (en21 F).outs (en21 F).ins k) = p21 L4 R x.1 x.2.1 (fun y1 => k (y1, ()) ()) := by kernel_rfl
noncomputable def F21 : FT21 := p21 (G21_4 FUEL)
theorem env21 (R : Type) : EnvOK Tryz.prog (e21 (G21_4 FUEL) R) := ⟨tabOK, eqOK, callOf_ok allE_nil, noIns, inlOK_nil⟩
noncomputable def T21_4 : (R : Type) → HT (le21_4 (G21_4 FUEL)).H → (HT (le21_4 (G21_4 FUEL)).H → Option R) → KT R (le21_4 (G21_4 FUEL)).exs → Option R := fun R x kc ke => p21_4 R x.1 x.2.1 x.2.2.1 (fun x1 x2 x3 => kc (x1, x2, x3, ())) (fun y1 => ke.1 (y1, ())) (ke.2.1 ())
theorem it21_4 : ∀ (n : Nat) (R : Type) (x : HT (le21_4 (G21_4 FUEL)).H) (ke : KT R (le21_4 (G21_4 FUEL)).exs), iter T21_4 n R x ke = G21_4 n R x.1 x.2.1 x.2.2.1 (fun y1 => ke.1 (y1, ())) (ke.2.1 ()) := by
  intro n
  induction n with
  | zero => intro R x ke; rfl
  | succ n ih =>
    intro R x ke
    show T21_4 R x (fun x' => iter T21_4 n R x' ke) ke = _
    rw [show (fun x' => iter T21_4 n R x' ke) = fun x => G21_4 n R x.1 x.2.1 x.2.2.1 (fun y1 => ke.1 (y1, ())) (ke.2.1 ()) from funext fun x' => ih R x' ke]
    rfl
theorem lok21_4 : (le21_4 (G21_4 FUEL)).OK Tryz.prog 0 26 (lcode 4 (codeOf Tryz.f21)) := fun R x ke r h =>
  iter_sound (fun R => e21 (G21_4 FUEL) R) 0 26 (fun _ => rfl) (fun _ => rfl) (fun R => env21 R) mixed (by
    intro R
    rw [show loopsOf (lcode 4 (codeOf Tryz.f21)) = [] from by kernel_rfl]
    exact allM_nil) (T := T21_4) (fun R x kc ke => q21_4 (G21_4 FUEL) R x kc ke) FUEL R x ke r ((it21_4 FUEL R x ke).trans h)
theorem ok21 : (en21 F21).OK Tryz.prog :=
  ent_ok (Ef := fun R => e21 (G21_4 FUEL) R) (fun R => env21 R) mixed Tryz.func21 (body := codeOf Tryz.f21) (by kernel_rfl) (by kernel_rfl) (np := 0) (nt := 26) (fun _ => rfl) (fun _ => rfl) (by kernel_rfl) (res := res21) (by kernel_rfl) (fun _ => rfl) (fun _ => Nat.le_of_ble_eq_true rfl) (by
    intro R
    rw [show loopsOf (codeOf Tryz.f21) = [lcode 4 (codeOf Tryz.f21)] from by kernel_rfl]
    exact (allM_cons (loop_ok2 (e := le21_4 (G21_4 FUEL)) rfl rfl lok21_4) allM_nil)) (fun R x k => q21 (G21_4 FUEL) F21 R x k)
abbrev FT29 : Type 1 := (R : Type) → (List Int) → (List Int) → (Bool → Option R) → Option R
def en29 (F : FT29) : Ent := ⟨29, [(false, (.sl (.int .u32))), (false, (.sl (.int .u32)))], [(false, .bool)], fun R x k => F R x.1 x.2.1 (fun y1 => k (y1, ()) ())⟩
def res29 : List (ResultVar × TypeId × Bool) := [(.tmp 4, 4, false)]
abbrev LT29_4 : Type 1 := (R : Type) → (List Int) → (List Int) → Int → (Bool → Option R) → (Option R) → Option R
def le29_4 (L : LT29_4) : LEnt := ⟨4, [.val 0 (.sl (.int .u32)), .val 1 (.sl (.int .u32)), .val 5 (.int .i64)], 0, [(.ret, [.val 4 .bool]), (.exit 0, [])], fun R x ke => L R x.1 x.2.1 x.2.2.1 (fun y1 => ke.1 (y1, ())) (ke.2.1 ())⟩
noncomputable def e29 (L4 : LT29_4) (R : Type) : Env R := ⟨TT, EQT, 0, 26, ownOf [], callOf [] R, loopOf [le29_4 L4] R, [], inlOf []⟩
def p29_4 : (R : Type) → (List Int) → (List Int) → Int → ((List Int) → (List Int) → Int → Option R) → (Bool → Option R) → (Option R) → Option R := fun R x1 x2 x3 kc k0 k1 =>
let v4 := (List.length x1 : Int);
let v5 := (decide (x3 < v4));
(match v5 with
| true => (match (bnd x3 (List.length x1 : Int)) with
| true => let v6 := (List.getD x1 (Int.toNat x3) (0 : Int));
(match (bnd x3 (List.length x2 : Int)) with
| true => let v7 := (List.getD x2 (Int.toNat x3) (0 : Int));
let v8 := (v6 != v7);
(match v8 with
| true => k0 false
| false => let v9 := (IntKind.i64.wrap (x3 + (1 : Int)));
kc x1 x2 v9)
| false => none)
| false => none)
| false => k1)
theorem q29_4 (L4 : LT29_4) (R : Type) (x : HT (le29_4 L4).H) (kc : HT (le29_4 L4).H → Option R) (ke : KT R (le29_4 L4).exs) :
  exec (e29 L4 R) (lcode 4 (codeOf Tryz.f29)) (stOf (le29_4 L4).H x 0) (roundK (le29_4 L4).H (le29_4 L4).exs kc ke) =
    p29_4 R x.1 x.2.1 x.2.2.1 (fun x1 x2 x3 => kc (x1, x2, x3, ())) (fun y1 => ke.1 (y1, ())) (ke.2.1 ()) := by kernel_rfl
noncomputable def G29_4 : Nat → LT29_4
  | 0 => fun _ _ _ _ _ _ => none
  | n + 1 => fun R x1 x2 x3 k0 k1 => p29_4 R x1 x2 x3 (fun x1 x2 x3 => G29_4 n R x1 x2 x3 k0 k1) k0 k1
def p29 (L4 : LT29_4) : FT29 := fun R a0 a1 k =>
let v1 := (List.length a0 : Int);
let v2 := (List.length a1 : Int);
let v3 := (v1 != v2);
(match v3 with
| true => k false
| false => L4 R a0 a1 (0 : Int) (fun x4 =>
k x4) (k true))
theorem q29 (L4 : LT29_4) (F : FT29) (R : Type) (x : AT (en29 F).ins) (k : RT (en29 F).outs → PT (en29 F).ins → Option R) :
  xfun (e29 L4 R) (codeOf Tryz.f29) res29 (avs (en29 F).ins x) (finK (en29 F).outs (en29 F).ins k) = p29 L4 R x.1 x.2.1 (fun y1 => k (y1, ()) ()) := by kernel_rfl
noncomputable def F29 : FT29 := p29 (G29_4 FUEL)
theorem env29 (R : Type) : EnvOK Tryz.prog (e29 (G29_4 FUEL) R) := ⟨tabOK, eqOK, callOf_ok allE_nil, noIns, inlOK_nil⟩
noncomputable def T29_4 : (R : Type) → HT (le29_4 (G29_4 FUEL)).H → (HT (le29_4 (G29_4 FUEL)).H → Option R) → KT R (le29_4 (G29_4 FUEL)).exs → Option R := fun R x kc ke => p29_4 R x.1 x.2.1 x.2.2.1 (fun x1 x2 x3 => kc (x1, x2, x3, ())) (fun y1 => ke.1 (y1, ())) (ke.2.1 ())
theorem it29_4 : ∀ (n : Nat) (R : Type) (x : HT (le29_4 (G29_4 FUEL)).H) (ke : KT R (le29_4 (G29_4 FUEL)).exs), iter T29_4 n R x ke = G29_4 n R x.1 x.2.1 x.2.2.1 (fun y1 => ke.1 (y1, ())) (ke.2.1 ()) := by
  intro n
  induction n with
  | zero => intro R x ke; rfl
  | succ n ih =>
    intro R x ke
    show T29_4 R x (fun x' => iter T29_4 n R x' ke) ke = _
    rw [show (fun x' => iter T29_4 n R x' ke) = fun x => G29_4 n R x.1 x.2.1 x.2.2.1 (fun y1 => ke.1 (y1, ())) (ke.2.1 ()) from funext fun x' => ih R x' ke]
    rfl
theorem lok29_4 : (le29_4 (G29_4 FUEL)).OK Tryz.prog 0 26 (lcode 4 (codeOf Tryz.f29)) := fun R x ke r h =>
  iter_sound (fun R => e29 (G29_4 FUEL) R) 0 26 (fun _ => rfl) (fun _ => rfl) (fun R => env29 R) mixed (by
    intro R
    rw [show loopsOf (lcode 4 (codeOf Tryz.f29)) = [] from by kernel_rfl]
    exact allM_nil) (T := T29_4) (fun R x kc ke => q29_4 (G29_4 FUEL) R x kc ke) FUEL R x ke r ((it29_4 FUEL R x ke).trans h)
theorem ok29 : (en29 F29).OK Tryz.prog :=
  ent_ok (Ef := fun R => e29 (G29_4 FUEL) R) (fun R => env29 R) mixed Tryz.func29 (body := codeOf Tryz.f29) (by kernel_rfl) (by kernel_rfl) (np := 0) (nt := 26) (fun _ => rfl) (fun _ => rfl) (by kernel_rfl) (res := res29) (by kernel_rfl) (fun _ => rfl) (fun _ => Nat.le_of_ble_eq_true rfl) (by
    intro R
    rw [show loopsOf (codeOf Tryz.f29) = [lcode 4 (codeOf Tryz.f29)] from by kernel_rfl]
    exact (allM_cons (loop_ok2 (e := le29_4 (G29_4 FUEL)) rfl rfl lok29_4) allM_nil)) (fun R x k => q29 (G29_4 FUEL) F29 R x k)
abbrev FT18 : Type 1 := (R : Type) → (Bool → Option R) → Option R
def en18 (F : FT18) : Ent := ⟨18, [], [(false, .bool)], fun R x k => F R  (fun y1 => k (y1, ()) ())⟩
def res18 : List (ResultVar × TypeId × Bool) := [(.tmp 0, 4, false)]
noncomputable def e18 (F19 : FT19) (F21 : FT21) (F23 : FT23) (F26 : FT26) (F27 : FT27) (F29 : FT29) (F39 : FT39) (R : Type) : Env R := ⟨TT, EQT, 0, 138, ownOf [], callOf [en19 F19, en21 F21, en23 F23, en26 F26, en27 F27, en29 F29, en39 F39] R, loopOf [] R, [], inlOf []⟩
def p18 (F19 : FT19) (F21 : FT21) (F23 : FT23) (F26 : FT26) (F27 : FT27) (F29 : FT29) (F39 : FT39) : FT18 := fun R k =>
let v1 : (List Int) := ([(128 : Int)] : (List Int));
F39 R v1 (8 : Int) fun y2 y3 =>
let v4 : (List Int) := ([(1 : Int), (0 : Int), (1 : Int)] : (List Int));
F26 R v4 fun y5 =>
F23 R y5 (2 : Int) y2 (1 : Int) fun y6 y7 y8 =>
let v9 : (List Int) := ([(1 : Int), (0 : Int), (1 : Int)] : (List Int));
F19 R (2 : Int) y2 (1 : Int) v9 fun y10 y11 y12 =>
F23 R y5 (3 : Int) y2 (1 : Int) fun y13 y14 y15 =>
F23 R y5 (257 : Int) y2 (1 : Int) fun y16 y17 y18 =>
let v19 : (List Int) := ([(2 : Int), (0 : Int)] : (List Int));
let v20 : (List Int) := ([(1 : Int), (0 : Int), (1 : Int)] : (List Int));
F27 R v19 (3 : Int) (1 : Int) v20 fun y21 y22 =>
let v23 : (List Int) := ([(0 : Int), (0 : Int)] : (List Int));
let v24 : (List Int) := ([(1 : Int), (0 : Int), (1 : Int)] : (List Int));
F27 R v23 (3 : Int) (1 : Int) v24 fun y25 y26 =>
F23 R y5 (0 : Int) y2 (1 : Int) fun y27 y28 y29 =>
let v30 := (y8 == (0 : Int));
(match v30 with
| true => let v31 := (y12 == (0 : Int));
(match v31 with
| true => let v32 := (y15 == (12 : Int));
(match v32 with
| true => let v33 := (y18 == (1 : Int));
(match v33 with
| true => let v34 := (y22 == (0 : Int));
(match v34 with
| true => let v35 := (y26 == (0 : Int));
(match v35 with
| true => let v36 := (y29 == (0 : Int));
(match v36 with
| true => let v37 : (List Int) := ([(2 : Int), (0 : Int)] : (List Int));
F21 R y6 v37 fun y38 =>
(match y38 with
| true => F21 R y10 y6 fun y39 =>
(match y39 with
| true => let v40 := (y7.2.2.2.2.2.1 == (1 : Int));
(match v40 with
| true => let v41 := (y14.2.2.2.2.2.1 == (0 : Int));
(match v41 with
| true => let v42 : (List Int) := ([(4 : Int)] : (List Int));
F29 R y21 v42 fun y43 =>
(match y43 with
| true => let v44 := (List.length y25 : Int);
let v45 := (v44 == (0 : Int));
(match v45 with
| true => let v46 := (List.length y27 : Int);
let v47 := (v46 == (0 : Int));
k v47
| false => k false)
| false => k false)
| false => k false)
| false => k false)
| false => k false)
| false => k false)
| false => k false)
| false => k false)
| false => k false)
| false => k false)
| false => k false)
| false => k false)
| false => k false)
theorem q18 (F19 : FT19) (F21 : FT21) (F23 : FT23) (F26 : FT26) (F27 : FT27) (F29 : FT29) (F39 : FT39) (F : FT18) (R : Type) (x : AT (en18 F).ins) (k : RT (en18 F).outs → PT (en18 F).ins → Option R) :
  xfun (e18 F19 F21 F23 F26 F27 F29 F39 R) (codeOf Tryz.f18) res18 (avs (en18 F).ins x) (finK (en18 F).outs (en18 F).ins k) = p18 F19 F21 F23 F26 F27 F29 F39 R  (fun y1 => k (y1, ()) ()) := by kernel_rfl
noncomputable def F18 : FT18 := p18 F19 F21 F23 F26 F27 F29 F39
theorem env18 (R : Type) : EnvOK Tryz.prog (e18 F19 F21 F23 F26 F27 F29 F39 R) := ⟨tabOK, eqOK, callOf_ok (allE_cons ok19 (allE_cons ok21 (allE_cons ok23 (allE_cons ok26 (allE_cons ok27 (allE_cons ok29 (allE_cons ok39 allE_nil))))))), noIns, inlOK_nil⟩
theorem ok18 : (en18 F18).OK Tryz.prog :=
  ent_ok (Ef := fun R => e18 F19 F21 F23 F26 F27 F29 F39 R) (fun R => env18 R) mixed Tryz.func18 (body := codeOf Tryz.f18) (by kernel_rfl) (by kernel_rfl) (np := 0) (nt := 138) (fun _ => rfl) (fun _ => rfl) (by kernel_rfl) (res := res18) (by kernel_rfl) (fun _ => rfl) (fun _ => Nat.le_of_ble_eq_true rfl) (by
    intro R
    rw [show loopsOf (codeOf Tryz.f18) = [] from by kernel_rfl]
    exact allM_nil) (fun R x k => q18 F19 F21 F23 F26 F27 F29 F39 F18 R x k)
abbrev FT15 : Type 1 := (R : Type) → (List Int) → Tq7 → (Bool → Option R) → Option R
def en15 (F : FT15) : Ent := ⟨15, [(false, (.sl (.int .u64))), (false, Kq7)], [(false, .bool)], fun R x k => F R x.1 x.2.1 (fun y1 => k (y1, ()) ())⟩
def res15 : List (ResultVar × TypeId × Bool) := [(.tmp 4, 4, false)]
noncomputable def e15 (R : Type) : Env R := ⟨TT, EQT, 0, 14, ownOf [], callOf [] R, loopOf [] R, [], inlOf []⟩
def p15 : FT15 := fun R a0 a1 k =>
let v1 := (List.length a0 : Int);
let v2 := (decide (v1 > (200 : Int)));
(match v2 with
| true => k true
| false => let v3 := (List.length a1.2.1 : Int);
let v4 := (decide (v3 > (500 : Int)));
k v4)
theorem q15 (F : FT15) (R : Type) (x : AT (en15 F).ins) (k : RT (en15 F).outs → PT (en15 F).ins → Option R) :
  xfun (e15 R) (codeOf Tryz.f15) res15 (avs (en15 F).ins x) (finK (en15 F).outs (en15 F).ins k) = p15 R x.1 x.2.1 (fun y1 => k (y1, ()) ()) := by kernel_rfl
noncomputable def F15 : FT15 := p15
theorem env15 (R : Type) : EnvOK Tryz.prog (e15 R) := ⟨tabOK, eqOK, callOf_ok allE_nil, noIns, inlOK_nil⟩
theorem ok15 : (en15 F15).OK Tryz.prog :=
  ent_ok (Ef := fun R => e15 R) (fun R => env15 R) mixed Tryz.func15 (body := codeOf Tryz.f15) (by kernel_rfl) (by kernel_rfl) (np := 0) (nt := 14) (fun _ => rfl) (fun _ => rfl) (by kernel_rfl) (res := res15) (by kernel_rfl) (fun _ => rfl) (fun _ => Nat.le_of_ble_eq_true rfl) (by
    intro R
    rw [show loopsOf (codeOf Tryz.f15) = [] from by kernel_rfl]
    exact allM_nil) (fun R x k => q15 F15 R x k)
abbrev FT94 : Type 1 := (R : Type) → Int → Int → (Int → Bool → Option R) → Option R
def en94 (F : FT94) : Ent := ⟨94, [(false, (.int .u64)), (false, (.int .u64))], [(false, (.int .u64)), (false, .bool)], fun R x k => F R x.1 x.2.1 (fun y1 y2 => k (y1, y2, ()) ())⟩
def res94 : List (ResultVar × TypeId × Bool) := [(.tmp 4, 22, false), (.tmp 5, 4, false)]
noncomputable def e94 (R : Type) : Env R := ⟨TT, EQT, 0, 17, ownOf [], callOf [] R, loopOf [] R, [], inlOf []⟩
def p94 : FT94 := fun R a0 a1 k =>
let v1 := (decide (a0 ≥ (9223372036854775808 : Int)));
(match v1 with
| true => k (0 : Int) false
| false => let v2 := (IntKind.u64.wrap ((9223372036854775808 : Int) - a0));
let v3 := (decide (a1 ≥ v2));
(match v3 with
| true => k (0 : Int) false
| false => let v4 := (IntKind.u64.wrap (a0 + a1));
k v4 true))
theorem q94 (F : FT94) (R : Type) (x : AT (en94 F).ins) (k : RT (en94 F).outs → PT (en94 F).ins → Option R) :
  xfun (e94 R) (codeOf Tryz.f94) res94 (avs (en94 F).ins x) (finK (en94 F).outs (en94 F).ins k) = p94 R x.1 x.2.1 (fun y1 y2 => k (y1, y2, ()) ()) := by kernel_rfl
noncomputable def F94 : FT94 := p94
theorem env94 (R : Type) : EnvOK Tryz.prog (e94 R) := ⟨tabOK, eqOK, callOf_ok allE_nil, noIns, inlOK_nil⟩
theorem ok94 : (en94 F94).OK Tryz.prog :=
  ent_ok (Ef := fun R => e94 R) (fun R => env94 R) mixed Tryz.func94 (body := codeOf Tryz.f94) (by kernel_rfl) (by kernel_rfl) (np := 0) (nt := 17) (fun _ => rfl) (fun _ => rfl) (by kernel_rfl) (res := res94) (by kernel_rfl) (fun _ => rfl) (fun _ => Nat.le_of_ble_eq_true rfl) (by
    intro R
    rw [show loopsOf (codeOf Tryz.f94) = [] from by kernel_rfl]
    exact allM_nil) (fun R x k => q94 F94 R x k)
abbrev FT52 : Type 1 := (R : Type) → (List Int) → (Int → Bool → Option R) → Option R
def en52 (F : FT52) : Ent := ⟨52, [(false, (.sl (.int .u64)))], [(false, (.int .u64)), (false, .bool)], fun R x k => F R x.1 (fun y1 y2 => k (y1, y2, ()) ())⟩
def res52 : List (ResultVar × TypeId × Bool) := [(.tmp 2, 22, false), (.tmp 3, 4, false)]
abbrev LT52_3 : Type 1 := (R : Type) → (List Int) → Int → Int → (Int → Bool → Option R) → (Int → Option R) → Option R
def le52_3 (L : LT52_3) : LEnt := ⟨3, [.val 0 (.sl (.int .u64)), .val 4 (.int .u64), .val 5 (.int .i64)], 0, [(.ret, [.val 2 (.int .u64), .val 3 .bool]), (.exit 0, [.val 4 (.int .u64)])], fun R x ke => L R x.1 x.2.1 x.2.2.1 (fun y1 y2 => ke.1 (y1, y2, ())) (fun y1 => ke.2.1 (y1, ()))⟩
noncomputable def e52 (F94 : FT94) (L3 : LT52_3) (R : Type) : Env R := ⟨TT, EQT, 0, 27, ownOf [], callOf [en94 F94] R, loopOf [le52_3 L3] R, [], inlOf []⟩
def p52_3 (F94 : FT94) : (R : Type) → (List Int) → Int → Int → ((List Int) → Int → Int → Option R) → (Int → Bool → Option R) → (Int → Option R) → Option R := fun R x1 x2 x3 kc k0 k1 =>
let v4 := (List.length x1 : Int);
let v5 := (decide (x3 < v4));
(match v5 with
| true => (match (bnd x3 (List.length x1 : Int)) with
| true => let v6 := (List.getD x1 (Int.toNat x3) (0 : Int));
F94 R x2 v6 fun y7 y8 =>
(match (!y8) with
| true => k0 (0 : Int) false
| false => let v9 := (IntKind.i64.wrap (x3 + (1 : Int)));
kc x1 y7 v9)
| false => none)
| false => k1 x2)
theorem q52_3 (F94 : FT94) (L3 : LT52_3) (R : Type) (x : HT (le52_3 L3).H) (kc : HT (le52_3 L3).H → Option R) (ke : KT R (le52_3 L3).exs) :
  exec (e52 F94 L3 R) (lcode 3 (codeOf Tryz.f52)) (stOf (le52_3 L3).H x 0) (roundK (le52_3 L3).H (le52_3 L3).exs kc ke) =
    p52_3 F94 R x.1 x.2.1 x.2.2.1 (fun x1 x2 x3 => kc (x1, x2, x3, ())) (fun y1 y2 => ke.1 (y1, y2, ())) (fun y1 => ke.2.1 (y1, ())) := by kernel_rfl
noncomputable def G52_3 : Nat → LT52_3
  | 0 => fun _ _ _ _ _ _ => none
  | n + 1 => fun R x1 x2 x3 k0 k1 => p52_3 F94 R x1 x2 x3 (fun x1 x2 x3 => G52_3 n R x1 x2 x3 k0 k1) k0 k1
def p52 (L3 : LT52_3) : FT52 := fun R a0 k =>
L3 R a0 (0 : Int) (0 : Int) (fun x1 x2 =>
k x1 x2) (fun x3 =>
k x3 true)
theorem q52 (F94 : FT94) (L3 : LT52_3) (F : FT52) (R : Type) (x : AT (en52 F).ins) (k : RT (en52 F).outs → PT (en52 F).ins → Option R) :
  xfun (e52 F94 L3 R) (codeOf Tryz.f52) res52 (avs (en52 F).ins x) (finK (en52 F).outs (en52 F).ins k) = p52 L3 R x.1 (fun y1 y2 => k (y1, y2, ()) ()) := by kernel_rfl
noncomputable def F52 : FT52 := p52 (G52_3 FUEL)
theorem env52 (R : Type) : EnvOK Tryz.prog (e52 F94 (G52_3 FUEL) R) := ⟨tabOK, eqOK, callOf_ok (allE_cons ok94 allE_nil), noIns, inlOK_nil⟩
noncomputable def T52_3 : (R : Type) → HT (le52_3 (G52_3 FUEL)).H → (HT (le52_3 (G52_3 FUEL)).H → Option R) → KT R (le52_3 (G52_3 FUEL)).exs → Option R := fun R x kc ke => p52_3 F94 R x.1 x.2.1 x.2.2.1 (fun x1 x2 x3 => kc (x1, x2, x3, ())) (fun y1 y2 => ke.1 (y1, y2, ())) (fun y1 => ke.2.1 (y1, ()))
theorem it52_3 : ∀ (n : Nat) (R : Type) (x : HT (le52_3 (G52_3 FUEL)).H) (ke : KT R (le52_3 (G52_3 FUEL)).exs), iter T52_3 n R x ke = G52_3 n R x.1 x.2.1 x.2.2.1 (fun y1 y2 => ke.1 (y1, y2, ())) (fun y1 => ke.2.1 (y1, ())) := by
  intro n
  induction n with
  | zero => intro R x ke; rfl
  | succ n ih =>
    intro R x ke
    show T52_3 R x (fun x' => iter T52_3 n R x' ke) ke = _
    rw [show (fun x' => iter T52_3 n R x' ke) = fun x => G52_3 n R x.1 x.2.1 x.2.2.1 (fun y1 y2 => ke.1 (y1, y2, ())) (fun y1 => ke.2.1 (y1, ())) from funext fun x' => ih R x' ke]
    rfl
theorem lok52_3 : (le52_3 (G52_3 FUEL)).OK Tryz.prog 0 27 (lcode 3 (codeOf Tryz.f52)) := fun R x ke r h =>
  iter_sound (fun R => e52 F94 (G52_3 FUEL) R) 0 27 (fun _ => rfl) (fun _ => rfl) (fun R => env52 R) mixed (by
    intro R
    rw [show loopsOf (lcode 3 (codeOf Tryz.f52)) = [] from by kernel_rfl]
    exact allM_nil) (T := T52_3) (fun R x kc ke => q52_3 F94 (G52_3 FUEL) R x kc ke) FUEL R x ke r ((it52_3 FUEL R x ke).trans h)
theorem ok52 : (en52 F52).OK Tryz.prog :=
  ent_ok (Ef := fun R => e52 F94 (G52_3 FUEL) R) (fun R => env52 R) mixed Tryz.func52 (body := codeOf Tryz.f52) (by kernel_rfl) (by kernel_rfl) (np := 0) (nt := 27) (fun _ => rfl) (fun _ => rfl) (by kernel_rfl) (res := res52) (by kernel_rfl) (fun _ => rfl) (fun _ => Nat.le_of_ble_eq_true rfl) (by
    intro R
    rw [show loopsOf (codeOf Tryz.f52) = [lcode 3 (codeOf Tryz.f52)] from by kernel_rfl]
    exact (allM_cons (loop_ok2 (e := le52_3 (G52_3 FUEL)) rfl rfl lok52_3) allM_nil)) (fun R x k => q52 F94 (G52_3 FUEL) F52 R x k)
abbrev FT51 : Type 1 := (R : Type) → (List Int) → (Int → Int → Option R) → Option R
def p51 (F52 : FT52) : FT51 := fun R a0 k =>
F52 R a0 fun y1 y2 =>
(match (!y2) with
| true => k (0 : Int) (11 : Int)
| false => k y1 (0 : Int))
noncomputable def F51 : FT51 := p51 F52
abbrev FT58 : Type 1 := (R : Type) → Tq7 → (Bool → Option R) → Option R
def en58 (F : FT58) : Ent := ⟨58, [(false, Kq7)], [(false, .bool)], fun R x k => F R x.1 (fun y1 => k (y1, ()) ())⟩
def res58 : List (ResultVar × TypeId × Bool) := [(.tmp 2, 4, false)]
noncomputable def e58 (R : Type) : Env R := ⟨TT, EQT, 0, 29, ownOf [], callOf [] R, loopOf [] R, [], inlOf []⟩
def p58 : FT58 := fun R a0 k =>
let v1 := (a0.1 == (1 : Int));
(match v1 with
| true => let v2 := (List.length a0.2.1 : Int);
let v3 := (IntKind.u64.wrap v2);
let v4 := (IntKind.u64.wrap ((8 : Int) * v3));
let v5 := (decide (a0.2.2.1 ≤ v4));
(match v5 with
| true => let v6 := (decide (a0.2.2.2.2.2.1 ≤ a0.2.2.1));
k v6
| false => k false)
| false => let v7 := (a0.1 == (2 : Int));
(match v7 with
| true => let v8 := (decide (a0.2.2.2.2.2.1 ≤ (4611686018427387904 : Int)));
k v8
| false => k false))
theorem q58 (F : FT58) (R : Type) (x : AT (en58 F).ins) (k : RT (en58 F).outs → PT (en58 F).ins → Option R) :
  xfun (e58 R) (codeOf Tryz.f58) res58 (avs (en58 F).ins x) (finK (en58 F).outs (en58 F).ins k) = p58 R x.1 (fun y1 => k (y1, ()) ()) := by kernel_rfl
noncomputable def F58 : FT58 := p58
theorem env58 (R : Type) : EnvOK Tryz.prog (e58 R) := ⟨tabOK, eqOK, callOf_ok allE_nil, noIns, inlOK_nil⟩
theorem ok58 : (en58 F58).OK Tryz.prog :=
  ent_ok (Ef := fun R => e58 R) (fun R => env58 R) mixed Tryz.func58 (body := codeOf Tryz.f58) (by kernel_rfl) (by kernel_rfl) (np := 0) (nt := 29) (fun _ => rfl) (fun _ => rfl) (by kernel_rfl) (res := res58) (by kernel_rfl) (fun _ => rfl) (fun _ => Nat.le_of_ble_eq_true rfl) (by
    intro R
    rw [show loopsOf (codeOf Tryz.f58) = [] from by kernel_rfl]
    exact allM_nil) (fun R x k => q58 F58 R x k)
abbrev FT59 : Type 1 := (R : Type) → (List Int) → (Int → Option R) → Option R
def en59 (F : FT59) : Ent := ⟨59, [(false, (.sl (.int .u64)))], [(false, (.int .i64))], fun R x k => F R x.1 (fun y1 => k (y1, ()) ())⟩
def res59 : List (ResultVar × TypeId × Bool) := [(.tmp 2, 3, false)]
abbrev LT59_3 : Type 1 := (R : Type) → (List Int) → Int → Int → (Int → Option R) → Option R
def le59_3 (L : LT59_3) : LEnt := ⟨3, [.val 0 (.sl (.int .u64)), .val 3 (.int .i64), .val 4 (.int .i64)], 0, [(.exit 0, [.val 3 (.int .i64)])], fun R x ke => L R x.1 x.2.1 x.2.2.1 (fun y1 => ke.1 (y1, ()))⟩
noncomputable def e59 (L3 : LT59_3) (R : Type) : Env R := ⟨TT, EQT, 0, 19, ownOf [], callOf [] R, loopOf [le59_3 L3] R, [], inlOf []⟩
def p59_3 : (R : Type) → (List Int) → Int → Int → ((List Int) → Int → Int → Option R) → (Int → Option R) → Option R := fun R x1 x2 x3 kc k0 =>
let v4 := (List.length x1 : Int);
let v5 := (decide (x3 < v4));
(match v5 with
| true => (match (bnd x3 (List.length x1 : Int)) with
| true => let v6 := (List.getD x1 (Int.toNat x3) (0 : Int));
let v7 := (decide (v6 > (0 : Int)));
(match v7 with
| true => let v8 := (IntKind.i64.wrap (x2 + (1 : Int)));
let v9 := (IntKind.i64.wrap (x3 + (1 : Int)));
kc x1 v8 v9
| false => let v10 := (IntKind.i64.wrap (x3 + (1 : Int)));
kc x1 x2 v10)
| false => none)
| false => k0 x2)
theorem q59_3 (L3 : LT59_3) (R : Type) (x : HT (le59_3 L3).H) (kc : HT (le59_3 L3).H → Option R) (ke : KT R (le59_3 L3).exs) :
  exec (e59 L3 R) (lcode 3 (codeOf Tryz.f59)) (stOf (le59_3 L3).H x 0) (roundK (le59_3 L3).H (le59_3 L3).exs kc ke) =
    p59_3 R x.1 x.2.1 x.2.2.1 (fun x1 x2 x3 => kc (x1, x2, x3, ())) (fun y1 => ke.1 (y1, ())) := by kernel_rfl
noncomputable def G59_3 : Nat → LT59_3
  | 0 => fun _ _ _ _ _ => none
  | n + 1 => fun R x1 x2 x3 k0 => p59_3 R x1 x2 x3 (fun x1 x2 x3 => G59_3 n R x1 x2 x3 k0) k0
def p59 (L3 : LT59_3) : FT59 := fun R a0 k =>
L3 R a0 (0 : Int) (0 : Int) (fun x1 =>
k x1)
theorem q59 (L3 : LT59_3) (F : FT59) (R : Type) (x : AT (en59 F).ins) (k : RT (en59 F).outs → PT (en59 F).ins → Option R) :
  xfun (e59 L3 R) (codeOf Tryz.f59) res59 (avs (en59 F).ins x) (finK (en59 F).outs (en59 F).ins k) = p59 L3 R x.1 (fun y1 => k (y1, ()) ()) := by kernel_rfl
noncomputable def F59 : FT59 := p59 (G59_3 FUEL)
theorem env59 (R : Type) : EnvOK Tryz.prog (e59 (G59_3 FUEL) R) := ⟨tabOK, eqOK, callOf_ok allE_nil, noIns, inlOK_nil⟩
noncomputable def T59_3 : (R : Type) → HT (le59_3 (G59_3 FUEL)).H → (HT (le59_3 (G59_3 FUEL)).H → Option R) → KT R (le59_3 (G59_3 FUEL)).exs → Option R := fun R x kc ke => p59_3 R x.1 x.2.1 x.2.2.1 (fun x1 x2 x3 => kc (x1, x2, x3, ())) (fun y1 => ke.1 (y1, ()))
theorem it59_3 : ∀ (n : Nat) (R : Type) (x : HT (le59_3 (G59_3 FUEL)).H) (ke : KT R (le59_3 (G59_3 FUEL)).exs), iter T59_3 n R x ke = G59_3 n R x.1 x.2.1 x.2.2.1 (fun y1 => ke.1 (y1, ())) := by
  intro n
  induction n with
  | zero => intro R x ke; rfl
  | succ n ih =>
    intro R x ke
    show T59_3 R x (fun x' => iter T59_3 n R x' ke) ke = _
    rw [show (fun x' => iter T59_3 n R x' ke) = fun x => G59_3 n R x.1 x.2.1 x.2.2.1 (fun y1 => ke.1 (y1, ())) from funext fun x' => ih R x' ke]
    rfl
theorem lok59_3 : (le59_3 (G59_3 FUEL)).OK Tryz.prog 0 19 (lcode 3 (codeOf Tryz.f59)) := fun R x ke r h =>
  iter_sound (fun R => e59 (G59_3 FUEL) R) 0 19 (fun _ => rfl) (fun _ => rfl) (fun R => env59 R) mixed (by
    intro R
    rw [show loopsOf (lcode 3 (codeOf Tryz.f59)) = [] from by kernel_rfl]
    exact allM_nil) (T := T59_3) (fun R x kc ke => q59_3 (G59_3 FUEL) R x kc ke) FUEL R x ke r ((it59_3 FUEL R x ke).trans h)
theorem ok59 : (en59 F59).OK Tryz.prog :=
  ent_ok (Ef := fun R => e59 (G59_3 FUEL) R) (fun R => env59 R) mixed Tryz.func59 (body := codeOf Tryz.f59) (by kernel_rfl) (by kernel_rfl) (np := 0) (nt := 19) (fun _ => rfl) (fun _ => rfl) (by kernel_rfl) (res := res59) (by kernel_rfl) (fun _ => rfl) (fun _ => Nat.le_of_ble_eq_true rfl) (by
    intro R
    rw [show loopsOf (codeOf Tryz.f59) = [lcode 3 (codeOf Tryz.f59)] from by kernel_rfl]
    exact (allM_cons (loop_ok2 (e := le59_3 (G59_3 FUEL)) rfl rfl lok59_3) allM_nil)) (fun R x k => q59 (G59_3 FUEL) F59 R x k)
abbrev FT108 : Type 1 := (R : Type) → Int → (Int → Option R) → Option R
def en108 (F : FT108) : Ent := ⟨108, [(false, (.int .u64))], [(false, (.int .i64))], fun R x k => F R x.1 (fun y1 => k (y1, ()) ())⟩
def res108 : List (ResultVar × TypeId × Bool) := [(.tmp 2, 3, false)]
abbrev LT108_2 : Type 1 := (R : Type) → Int → Int → (Int → Option R) → Option R
def le108_2 (L : LT108_2) : LEnt := ⟨2, [.val 0 (.int .u64), .val 3 (.int .i64)], 0, [(.exit 0, [.val 3 (.int .i64)])], fun R x ke => L R x.1 x.2.1 (fun y1 => ke.1 (y1, ()))⟩
noncomputable def e108 (L2 : LT108_2) (R : Type) : Env R := ⟨TT, EQT, 0, 11, ownOf [], callOf [] R, loopOf [le108_2 L2] R, [], inlOf []⟩
def p108_2 : (R : Type) → Int → Int → (Int → Int → Option R) → (Int → Option R) → Option R := fun R x1 x2 kc k0 =>
let v3 := (decide (x1 > (0 : Int)));
(match v3 with
| true => let v4 := (IntKind.u64.wrap (Int.tdiv x1 (2 : Int)));
let v5 := (IntKind.i64.wrap (x2 + (1 : Int)));
kc v4 v5
| false => k0 x2)
theorem q108_2 (L2 : LT108_2) (R : Type) (x : HT (le108_2 L2).H) (kc : HT (le108_2 L2).H → Option R) (ke : KT R (le108_2 L2).exs) :
  exec (e108 L2 R) (lcode 2 (codeOf Tryz.f108)) (stOf (le108_2 L2).H x 0) (roundK (le108_2 L2).H (le108_2 L2).exs kc ke) =
    p108_2 R x.1 x.2.1 (fun x1 x2 => kc (x1, x2, ())) (fun y1 => ke.1 (y1, ())) := by kernel_rfl
noncomputable def G108_2 : Nat → LT108_2
  | 0 => fun _ _ _ _ => none
  | n + 1 => fun R x1 x2 k0 => p108_2 R x1 x2 (fun x1 x2 => G108_2 n R x1 x2 k0) k0
def p108 (L2 : LT108_2) : FT108 := fun R a0 k =>
L2 R a0 (0 : Int) (fun x1 =>
k x1)
theorem q108 (L2 : LT108_2) (F : FT108) (R : Type) (x : AT (en108 F).ins) (k : RT (en108 F).outs → PT (en108 F).ins → Option R) :
  xfun (e108 L2 R) (codeOf Tryz.f108) res108 (avs (en108 F).ins x) (finK (en108 F).outs (en108 F).ins k) = p108 L2 R x.1 (fun y1 => k (y1, ()) ()) := by kernel_rfl
noncomputable def F108 : FT108 := p108 (G108_2 FUEL)
theorem env108 (R : Type) : EnvOK Tryz.prog (e108 (G108_2 FUEL) R) := ⟨tabOK, eqOK, callOf_ok allE_nil, noIns, inlOK_nil⟩
noncomputable def T108_2 : (R : Type) → HT (le108_2 (G108_2 FUEL)).H → (HT (le108_2 (G108_2 FUEL)).H → Option R) → KT R (le108_2 (G108_2 FUEL)).exs → Option R := fun R x kc ke => p108_2 R x.1 x.2.1 (fun x1 x2 => kc (x1, x2, ())) (fun y1 => ke.1 (y1, ()))
theorem it108_2 : ∀ (n : Nat) (R : Type) (x : HT (le108_2 (G108_2 FUEL)).H) (ke : KT R (le108_2 (G108_2 FUEL)).exs), iter T108_2 n R x ke = G108_2 n R x.1 x.2.1 (fun y1 => ke.1 (y1, ())) := by
  intro n
  induction n with
  | zero => intro R x ke; rfl
  | succ n ih =>
    intro R x ke
    show T108_2 R x (fun x' => iter T108_2 n R x' ke) ke = _
    rw [show (fun x' => iter T108_2 n R x' ke) = fun x => G108_2 n R x.1 x.2.1 (fun y1 => ke.1 (y1, ())) from funext fun x' => ih R x' ke]
    rfl
theorem lok108_2 : (le108_2 (G108_2 FUEL)).OK Tryz.prog 0 11 (lcode 2 (codeOf Tryz.f108)) := fun R x ke r h =>
  iter_sound (fun R => e108 (G108_2 FUEL) R) 0 11 (fun _ => rfl) (fun _ => rfl) (fun R => env108 R) mixed (by
    intro R
    rw [show loopsOf (lcode 2 (codeOf Tryz.f108)) = [] from by kernel_rfl]
    exact allM_nil) (T := T108_2) (fun R x kc ke => q108_2 (G108_2 FUEL) R x kc ke) FUEL R x ke r ((it108_2 FUEL R x ke).trans h)
theorem ok108 : (en108 F108).OK Tryz.prog :=
  ent_ok (Ef := fun R => e108 (G108_2 FUEL) R) (fun R => env108 R) mixed Tryz.func108 (body := codeOf Tryz.f108) (by kernel_rfl) (by kernel_rfl) (np := 0) (nt := 11) (fun _ => rfl) (fun _ => rfl) (by kernel_rfl) (res := res108) (by kernel_rfl) (fun _ => rfl) (fun _ => Nat.le_of_ble_eq_true rfl) (by
    intro R
    rw [show loopsOf (codeOf Tryz.f108) = [lcode 2 (codeOf Tryz.f108)] from by kernel_rfl]
    exact (allM_cons (loop_ok2 (e := le108_2 (G108_2 FUEL)) rfl rfl lok108_2) allM_nil)) (fun R x k => q108 (G108_2 FUEL) F108 R x k)
abbrev FT67 : Type 1 := (R : Type) → Int → (Int → Option R) → Option R
def en67 (F : FT67) : Ent := ⟨67, [(false, (.int .u64))], [(false, (.int .i64))], fun R x k => F R x.1 (fun y1 => k (y1, ()) ())⟩
def res67 : List (ResultVar × TypeId × Bool) := [(.tmp 2, 3, false)]
noncomputable def e67 (F108 : FT108) (R : Type) : Env R := ⟨TT, EQT, 0, 8, ownOf [], callOf [en108 F108] R, loopOf [] R, [], inlOf []⟩
def p67 (F108 : FT108) : FT67 := fun R a0 k =>
let v1 := (a0 == (0 : Int));
(match v1 with
| true => k (0 : Int)
| false => let v2 := (IntKind.u64.wrap (a0 - (1 : Int)));
F108 R v2 fun y3 =>
k y3)
theorem q67 (F108 : FT108) (F : FT67) (R : Type) (x : AT (en67 F).ins) (k : RT (en67 F).outs → PT (en67 F).ins → Option R) :
  xfun (e67 F108 R) (codeOf Tryz.f67) res67 (avs (en67 F).ins x) (finK (en67 F).outs (en67 F).ins k) = p67 F108 R x.1 (fun y1 => k (y1, ()) ()) := by kernel_rfl
noncomputable def F67 : FT67 := p67 F108
theorem env67 (R : Type) : EnvOK Tryz.prog (e67 F108 R) := ⟨tabOK, eqOK, callOf_ok (allE_cons ok108 allE_nil), noIns, inlOK_nil⟩
theorem ok67 : (en67 F67).OK Tryz.prog :=
  ent_ok (Ef := fun R => e67 F108 R) (fun R => env67 R) mixed Tryz.func67 (body := codeOf Tryz.f67) (by kernel_rfl) (by kernel_rfl) (np := 0) (nt := 8) (fun _ => rfl) (fun _ => rfl) (by kernel_rfl) (res := res67) (by kernel_rfl) (fun _ => rfl) (fun _ => Nat.le_of_ble_eq_true rfl) (by
    intro R
    rw [show loopsOf (codeOf Tryz.f67) = [] from by kernel_rfl]
    exact allM_nil) (fun R x k => q67 F108 F67 R x k)
abbrev FT123 : Type 1 := (R : Type) → Tq7 → (Int → Option R) → Option R
def en123 (F : FT123) : Ent := ⟨123, [(false, Kq7)], [(false, (.int .u64))], fun R x k => F R x.1 (fun y1 => k (y1, ()) ())⟩
def res123 : List (ResultVar × TypeId × Bool) := [(.tmp 2, 22, false)]
noncomputable def e123 (F58 : FT58) (R : Type) : Env R := ⟨TT, EQT, 0, 17, ownOf [], callOf [en58 F58] R, loopOf [] R, [], inlOf []⟩
def p123 (F58 : FT58) : FT123 := fun R a0 k =>
F58 R a0 fun y1 =>
(match (!y1) with
| true => k (0 : Int)
| false => let v2 := (a0.1 == (1 : Int));
(match v2 with
| true => let v3 := (IntKind.u64.wrap (a0.2.2.1 - a0.2.2.2.2.2.1));
k v3
| false => let v4 := (IntKind.u64.wrap ((4611686018427387904 : Int) - a0.2.2.2.2.2.1));
k v4))
theorem q123 (F58 : FT58) (F : FT123) (R : Type) (x : AT (en123 F).ins) (k : RT (en123 F).outs → PT (en123 F).ins → Option R) :
  xfun (e123 F58 R) (codeOf Tryz.f123) res123 (avs (en123 F).ins x) (finK (en123 F).outs (en123 F).ins k) = p123 F58 R x.1 (fun y1 => k (y1, ()) ()) := by kernel_rfl
noncomputable def F123 : FT123 := p123 F58
theorem env123 (R : Type) : EnvOK Tryz.prog (e123 F58 R) := ⟨tabOK, eqOK, callOf_ok (allE_cons ok58 allE_nil), noIns, inlOK_nil⟩
theorem ok123 : (en123 F123).OK Tryz.prog :=
  ent_ok (Ef := fun R => e123 F58 R) (fun R => env123 R) mixed Tryz.func123 (body := codeOf Tryz.f123) (by kernel_rfl) (by kernel_rfl) (np := 0) (nt := 17) (fun _ => rfl) (fun _ => rfl) (by kernel_rfl) (res := res123) (by kernel_rfl) (fun _ => rfl) (fun _ => Nat.le_of_ble_eq_true rfl) (by
    intro R
    rw [show loopsOf (codeOf Tryz.f123) = [] from by kernel_rfl]
    exact allM_nil) (fun R x k => q123 F58 F123 R x k)
abbrev FT149 : Type 1 := (R : Type) → Int → ((List Int) → Option R) → Option R
def en149 (F : FT149) : Ent := ⟨149, [(false, (.int .u64))], [(false, (.arr 8 (.int .u8)))], fun R x k => F R x.1 (fun y1 => k (y1, ()) ())⟩
def res149 : List (ResultVar × TypeId × Bool) := [(.cell 2 180, 180, false)]
abbrev LT149_3 : Type 1 := (R : Type) → Int → Int → (List Int) → (List Int) → ((List Int) → (List Int) → Option R) → Option R
def le149_3 (L : LT149_3) : LEnt := ⟨3, [.val 0 (.int .u64), .fix 2 (.ptr 0 [] (.arr 8 (.int .u8))), .fix 3 (.ptr 1 [] (.arr 8 (.int .u8))), .val 4 (.int .i64), .var 0 (.arr 8 (.int .u8)) false, .var 1 (.arr 8 (.int .u8)) false], 2, [(.exit 0, [.fix 2 (.ptr 0 [] (.arr 8 (.int .u8))), .fix 3 (.ptr 1 [] (.arr 8 (.int .u8))), .var 0 (.arr 8 (.int .u8)) false, .var 1 (.arr 8 (.int .u8)) false])], fun R x ke => L R x.1 x.2.1 x.2.2.1 x.2.2.2.1 (fun y1 y2 => ke.1 (y1, y2, ()))⟩
noncomputable def e149 (L3 : LT149_3) (R : Type) : Env R := ⟨TT, EQT, 0, 17, ownOf [], callOf [] R, loopOf [le149_3 L3] R, [], inlOf []⟩
def p149_3 : (R : Type) → Int → Int → (List Int) → (List Int) → (Int → Int → (List Int) → (List Int) → Option R) → ((List Int) → (List Int) → Option R) → Option R := fun R x1 x2 x3 x4 kc k0 =>
let v5 := (decide (x2 ≥ (0 : Int)));
(match v5 with
| true => let v6 := (Int.tmod x1 (256 : Int));
let v7 := (IntKind.u8.wrap v6);
(match (bnd x2 (8 : Int)) with
| true => let v8 : (List Int) := (List.set x4 (Int.toNat x2) v7);
let v9 := (IntKind.u64.wrap (Int.tdiv x1 (256 : Int)));
let v10 := (IntKind.i64.wrap (x2 - (1 : Int)));
kc v9 v10 x3 v8
| false => none)
| false => k0 x3 x4)
theorem q149_3 (L3 : LT149_3) (R : Type) (x : HT (le149_3 L3).H) (kc : HT (le149_3 L3).H → Option R) (ke : KT R (le149_3 L3).exs) :
  exec (e149 L3 R) (lcode 3 (codeOf Tryz.f149)) (stOf (le149_3 L3).H x 2) (roundK (le149_3 L3).H (le149_3 L3).exs kc ke) =
    p149_3 R x.1 x.2.1 x.2.2.1 x.2.2.2.1 (fun x1 x2 x3 x4 => kc (x1, x2, x3, x4, ())) (fun y1 y2 => ke.1 (y1, y2, ())) := by kernel_rfl
noncomputable def G149_3 : Nat → LT149_3
  | 0 => fun _ _ _ _ _ _ => none
  | n + 1 => fun R x1 x2 x3 x4 k0 => p149_3 R x1 x2 x3 x4 (fun x1 x2 x3 x4 => G149_3 n R x1 x2 x3 x4 k0) k0
def p149 (L3 : LT149_3) : FT149 := fun R a0 k =>
L3 R a0 (7 : Int) (List.replicate 8 (0 : Int)) (List.replicate 8 (0 : Int)) (fun x1 x2 =>
k x2)
theorem q149 (L3 : LT149_3) (F : FT149) (R : Type) (x : AT (en149 F).ins) (k : RT (en149 F).outs → PT (en149 F).ins → Option R) :
  xfun (e149 L3 R) (codeOf Tryz.f149) res149 (avs (en149 F).ins x) (finK (en149 F).outs (en149 F).ins k) = p149 L3 R x.1 (fun y1 => k (y1, ()) ()) := by kernel_rfl
noncomputable def F149 : FT149 := p149 (G149_3 FUEL)
theorem env149 (R : Type) : EnvOK Tryz.prog (e149 (G149_3 FUEL) R) := ⟨tabOK, eqOK, callOf_ok allE_nil, noIns, inlOK_nil⟩
noncomputable def T149_3 : (R : Type) → HT (le149_3 (G149_3 FUEL)).H → (HT (le149_3 (G149_3 FUEL)).H → Option R) → KT R (le149_3 (G149_3 FUEL)).exs → Option R := fun R x kc ke => p149_3 R x.1 x.2.1 x.2.2.1 x.2.2.2.1 (fun x1 x2 x3 x4 => kc (x1, x2, x3, x4, ())) (fun y1 y2 => ke.1 (y1, y2, ()))
theorem it149_3 : ∀ (n : Nat) (R : Type) (x : HT (le149_3 (G149_3 FUEL)).H) (ke : KT R (le149_3 (G149_3 FUEL)).exs), iter T149_3 n R x ke = G149_3 n R x.1 x.2.1 x.2.2.1 x.2.2.2.1 (fun y1 y2 => ke.1 (y1, y2, ())) := by
  intro n
  induction n with
  | zero => intro R x ke; rfl
  | succ n ih =>
    intro R x ke
    show T149_3 R x (fun x' => iter T149_3 n R x' ke) ke = _
    rw [show (fun x' => iter T149_3 n R x' ke) = fun x => G149_3 n R x.1 x.2.1 x.2.2.1 x.2.2.2.1 (fun y1 y2 => ke.1 (y1, y2, ())) from funext fun x' => ih R x' ke]
    rfl
theorem lok149_3 : (le149_3 (G149_3 FUEL)).OK Tryz.prog 0 17 (lcode 3 (codeOf Tryz.f149)) := fun R x ke r h =>
  iter_sound (fun R => e149 (G149_3 FUEL) R) 0 17 (fun _ => rfl) (fun _ => rfl) (fun R => env149 R) mixed (by
    intro R
    rw [show loopsOf (lcode 3 (codeOf Tryz.f149)) = [] from by kernel_rfl]
    exact allM_nil) (T := T149_3) (fun R x kc ke => q149_3 (G149_3 FUEL) R x kc ke) FUEL R x ke r ((it149_3 FUEL R x ke).trans h)
theorem ok149 : (en149 F149).OK Tryz.prog :=
  ent_ok (Ef := fun R => e149 (G149_3 FUEL) R) (fun R => env149 R) mixed Tryz.func149 (body := codeOf Tryz.f149) (by kernel_rfl) (by kernel_rfl) (np := 0) (nt := 17) (fun _ => rfl) (fun _ => rfl) (by kernel_rfl) (res := res149) (by kernel_rfl) (fun _ => rfl) (fun _ => Nat.le_of_ble_eq_true rfl) (by
    intro R
    rw [show loopsOf (codeOf Tryz.f149) = [lcode 3 (codeOf Tryz.f149)] from by kernel_rfl]
    exact (allM_cons (loop_ok2 (e := le149_3 (G149_3 FUEL)) rfl rfl lok149_3) allM_nil)) (fun R x k => q149 (G149_3 FUEL) F149 R x k)
abbrev FT165 : Type 1 := (R : Type) → (List Int) → Int → ((List Int) → Bool → Option R) → Option R
def en165 (F : FT165) : Ent := ⟨165, [(false, (.sl (.int .u8))), (false, (.int .u64))], [(false, (.sl (.int .u8))), (false, .bool)], fun R x k => F R x.1 x.2.1 (fun y1 y2 => k (y1, y2, ()) ())⟩
def res165 : List (ResultVar × TypeId × Bool) := [(.tmp 4, 26, false), (.tmp 5, 4, false)]
abbrev LT165_4 : Type 1 := (R : Type) → Int → (List Int) → (Int → (List Int) → Option R) → Option R
def le165_4 (L : LT165_4) : LEnt := ⟨4, [.val 1 (.int .u64), .fix 6 (.own 0 0), .row 0 (.int .u8) false], 1, [(.exit 0, [.val 1 (.int .u64), .fix 6 (.own 0 0), .row 0 (.int .u8) false])], fun R x ke => L R x.1 x.2.1 (fun y1 y2 => ke.1 (y1, y2, ()))⟩
abbrev LT165_8 : Type 1 := (R : Type) → Int → (List Int) → (List Int) → ((List Int) → Option R) → Option R
def le165_8 (L : LT165_8) : LEnt := ⟨8, [.fix 6 (.own 0 0), .fix 7 (.ptr 1 [] (.arr 8 (.int .u8))), .val 8 (.int .i64), .row 0 (.int .u8) false, .var 1 (.arr 8 (.int .u8)) false], 2, [(.exit 2, [.fix 6 (.own 0 0), .row 0 (.int .u8) false])], fun R x ke => L R x.1 x.2.1 x.2.2.1 (fun y1 => ke.1 (y1, ()))⟩
noncomputable def e165 (F149 : FT149) (L4 : LT165_4) (L8 : LT165_8) (R : Type) : Env R := ⟨TT, EQT, 0, 45, ownOf [(3, 0)], callOf [en149 F149] R, loopOf [le165_4 L4, le165_8 L8] R, [], inlOf []⟩
def p165_4 : (R : Type) → Int → (List Int) → (Int → (List Int) → Option R) → (Int → (List Int) → Option R) → Option R := fun R x1 x2 kc k0 =>
let v3 := (List.length x2 : Int);
let v4 := (Int.tmod v3 (64 : Int));
let v5 := (v4 != (56 : Int));
(match v5 with
| true => let v6 : (List Int) := ([(0 : Int)] : (List Int));
(match (decide (List.length x2 + List.length v6 ≤ 140737488355328)) with
| true => let v7 : (List Int) := (x2 ++ v6);
kc x1 v7
| false => none)
| false => k0 x1 x2)
theorem q165_4 (F149 : FT149) (L4 : LT165_4) (L8 : LT165_8) (R : Type) (x : HT (le165_4 L4).H) (kc : HT (le165_4 L4).H → Option R) (ke : KT R (le165_4 L4).exs) :
  exec (e165 F149 L4 L8 R) (lcode 4 (codeOf Tryz.f165)) (stOf (le165_4 L4).H x 1) (roundK (le165_4 L4).H (le165_4 L4).exs kc ke) =
    p165_4 R x.1 x.2.1 (fun x1 x2 => kc (x1, x2, ())) (fun y1 y2 => ke.1 (y1, y2, ())) := by kernel_rfl
noncomputable def G165_4 : Nat → LT165_4
  | 0 => fun _ _ _ _ => none
  | n + 1 => fun R x1 x2 k0 => p165_4 R x1 x2 (fun x1 x2 => G165_4 n R x1 x2 k0) k0
def p165_8 : (R : Type) → Int → (List Int) → (List Int) → (Int → (List Int) → (List Int) → Option R) → ((List Int) → Option R) → Option R := fun R x1 x2 x3 kc k0 =>
let v4 := (decide (x1 < (8 : Int)));
(match v4 with
| true => (match (bnd x1 (8 : Int)) with
| true => let v5 := (List.getD x3 (Int.toNat x1) (0 : Int));
let v6 : (List Int) := ([v5] : (List Int));
(match (decide (List.length x2 + List.length v6 ≤ 140737488355328)) with
| true => let v7 : (List Int) := (x2 ++ v6);
let v8 := (IntKind.i64.wrap (x1 + (1 : Int)));
kc v8 v7 x3
| false => none)
| false => none)
| false => k0 x2)
theorem q165_8 (F149 : FT149) (L4 : LT165_4) (L8 : LT165_8) (R : Type) (x : HT (le165_8 L8).H) (kc : HT (le165_8 L8).H → Option R) (ke : KT R (le165_8 L8).exs) :
  exec (e165 F149 L4 L8 R) (lcode 8 (codeOf Tryz.f165)) (stOf (le165_8 L8).H x 2) (roundK (le165_8 L8).H (le165_8 L8).exs kc ke) =
    p165_8 R x.1 x.2.1 x.2.2.1 (fun x1 x2 x3 => kc (x1, x2, x3, ())) (fun y1 => ke.1 (y1, ())) := by kernel_rfl
noncomputable def G165_8 : Nat → LT165_8
  | 0 => fun _ _ _ _ _ => none
  | n + 1 => fun R x1 x2 x3 k0 => p165_8 R x1 x2 x3 (fun x1 x2 x3 => G165_8 n R x1 x2 x3 k0) k0
def p165 (F149 : FT149) (L4 : LT165_4) (L8 : LT165_8) : FT165 := fun R a0 a1 k =>
let v1 := (decide (a1 ≥ (2305843009213693952 : Int)));
(match v1 with
| true => k ([] : (List Int)) false
| false => let v2 := (List.length a0 : Int);
let v3 := (IntKind.u64.wrap v2);
let v4 := (Int.tmod a1 (64 : Int));
let v5 := (v3 != v4);
(match v5 with
| true => k ([] : (List Int)) false
| false => let v6 : (List Int) := ([] : (List Int));
(match (decide (List.length v6 + List.length a0 ≤ 140737488355328)) with
| true => let v7 : (List Int) := (v6 ++ a0);
let v8 : (List Int) := ([(128 : Int)] : (List Int));
(match (decide (List.length v7 + List.length v8 ≤ 140737488355328)) with
| true => let v9 : (List Int) := (v7 ++ v8);
L4 R a1 v9 (fun x10 x11 =>
let v12 := (IntKind.u64.wrap ((8 : Int) * x10));
F149 R v12 fun y13 =>
L8 R (0 : Int) x11 y13 (fun x14 =>
k x14 true))
| false => none)
| false => none)))
theorem q165 (F149 : FT149) (L4 : LT165_4) (L8 : LT165_8) (F : FT165) (R : Type) (x : AT (en165 F).ins) (k : RT (en165 F).outs → PT (en165 F).ins → Option R) :
  xfun (e165 F149 L4 L8 R) (codeOf Tryz.f165) res165 (avs (en165 F).ins x) (finK (en165 F).outs (en165 F).ins k) = p165 F149 L4 L8 R x.1 x.2.1 (fun y1 y2 => k (y1, y2, ()) ()) := by kernel_rfl
noncomputable def F165 : FT165 := p165 F149 (G165_4 FUEL) (G165_8 FUEL)
theorem env165 (R : Type) : EnvOK Tryz.prog (e165 F149 (G165_4 FUEL) (G165_8 FUEL) R) := ⟨tabOK, eqOK, callOf_ok (allE_cons ok149 allE_nil), noIns, inlOK_nil⟩
noncomputable def T165_4 : (R : Type) → HT (le165_4 (G165_4 FUEL)).H → (HT (le165_4 (G165_4 FUEL)).H → Option R) → KT R (le165_4 (G165_4 FUEL)).exs → Option R := fun R x kc ke => p165_4 R x.1 x.2.1 (fun x1 x2 => kc (x1, x2, ())) (fun y1 y2 => ke.1 (y1, y2, ()))
theorem it165_4 : ∀ (n : Nat) (R : Type) (x : HT (le165_4 (G165_4 FUEL)).H) (ke : KT R (le165_4 (G165_4 FUEL)).exs), iter T165_4 n R x ke = G165_4 n R x.1 x.2.1 (fun y1 y2 => ke.1 (y1, y2, ())) := by
  intro n
  induction n with
  | zero => intro R x ke; rfl
  | succ n ih =>
    intro R x ke
    show T165_4 R x (fun x' => iter T165_4 n R x' ke) ke = _
    rw [show (fun x' => iter T165_4 n R x' ke) = fun x => G165_4 n R x.1 x.2.1 (fun y1 y2 => ke.1 (y1, y2, ())) from funext fun x' => ih R x' ke]
    rfl
theorem lok165_4 : (le165_4 (G165_4 FUEL)).OK Tryz.prog 0 45 (lcode 4 (codeOf Tryz.f165)) := fun R x ke r h =>
  iter_sound (fun R => e165 F149 (G165_4 FUEL) (G165_8 FUEL) R) 0 45 (fun _ => rfl) (fun _ => rfl) (fun R => env165 R) mixed (by
    intro R
    rw [show loopsOf (lcode 4 (codeOf Tryz.f165)) = [] from by kernel_rfl]
    exact allM_nil) (T := T165_4) (fun R x kc ke => q165_4 F149 (G165_4 FUEL) (G165_8 FUEL) R x kc ke) FUEL R x ke r ((it165_4 FUEL R x ke).trans h)
noncomputable def T165_8 : (R : Type) → HT (le165_8 (G165_8 FUEL)).H → (HT (le165_8 (G165_8 FUEL)).H → Option R) → KT R (le165_8 (G165_8 FUEL)).exs → Option R := fun R x kc ke => p165_8 R x.1 x.2.1 x.2.2.1 (fun x1 x2 x3 => kc (x1, x2, x3, ())) (fun y1 => ke.1 (y1, ()))
theorem it165_8 : ∀ (n : Nat) (R : Type) (x : HT (le165_8 (G165_8 FUEL)).H) (ke : KT R (le165_8 (G165_8 FUEL)).exs), iter T165_8 n R x ke = G165_8 n R x.1 x.2.1 x.2.2.1 (fun y1 => ke.1 (y1, ())) := by
  intro n
  induction n with
  | zero => intro R x ke; rfl
  | succ n ih =>
    intro R x ke
    show T165_8 R x (fun x' => iter T165_8 n R x' ke) ke = _
    rw [show (fun x' => iter T165_8 n R x' ke) = fun x => G165_8 n R x.1 x.2.1 x.2.2.1 (fun y1 => ke.1 (y1, ())) from funext fun x' => ih R x' ke]
    rfl
theorem lok165_8 : (le165_8 (G165_8 FUEL)).OK Tryz.prog 0 45 (lcode 8 (codeOf Tryz.f165)) := fun R x ke r h =>
  iter_sound (fun R => e165 F149 (G165_4 FUEL) (G165_8 FUEL) R) 0 45 (fun _ => rfl) (fun _ => rfl) (fun R => env165 R) mixed (by
    intro R
    rw [show loopsOf (lcode 8 (codeOf Tryz.f165)) = [] from by kernel_rfl]
    exact allM_nil) (T := T165_8) (fun R x kc ke => q165_8 F149 (G165_4 FUEL) (G165_8 FUEL) R x kc ke) FUEL R x ke r ((it165_8 FUEL R x ke).trans h)
theorem ok165 : (en165 F165).OK Tryz.prog :=
  ent_ok (Ef := fun R => e165 F149 (G165_4 FUEL) (G165_8 FUEL) R) (fun R => env165 R) mixed Tryz.func165 (body := codeOf Tryz.f165) (by kernel_rfl) (by kernel_rfl) (np := 0) (nt := 45) (fun _ => rfl) (fun _ => rfl) (by kernel_rfl) (res := res165) (by kernel_rfl) (fun _ => rfl) (fun _ => Nat.le_of_ble_eq_true rfl) (by
    intro R
    rw [show loopsOf (codeOf Tryz.f165) = [lcode 4 (codeOf Tryz.f165), lcode 8 (codeOf Tryz.f165)] from by kernel_rfl]
    exact (allM_cons (loop_ok2 (e := le165_4 (G165_4 FUEL)) rfl rfl lok165_4) (allM_cons (loop_ok2 (e := le165_8 (G165_8 FUEL)) rfl rfl lok165_8) allM_nil))) (fun R x k => q165 F149 (G165_4 FUEL) (G165_8 FUEL) F165 R x k)
abbrev FT155 : Type 1 := (R : Type) → (List Int) → ((List Int) → Option R) → Option R
def en155 (F : FT155) : Ent := ⟨155, [(false, (.sl (.int .u8)))], [(false, (.sl (.int .u8)))], fun R x k => F R x.1 (fun y1 => k (y1, ()) ())⟩
def res155 : List (ResultVar × TypeId × Bool) := [(.tmp 2, 26, false)]
noncomputable def e155 (F165 : FT165) (R : Type) : Env R := ⟨TT, EQT, 0, 29, ownOf [(3, 0)], callOf [en165 F165] R, loopOf [] R, [], inlOf []⟩
def p155 (F165 : FT165) : FT155 := fun R a0 k =>
let v1 := (List.length a0 : Int);
let v2 := (List.length a0 : Int);
let v3 := (Int.tmod v2 (64 : Int));
let v4 := (IntKind.i64.wrap (v1 - v3));
(match (decide (0 ≤ v4 ∧ v4 ≤ (List.length a0 : Int) ∧ (List.length a0 : Int) ≤ (List.length a0 : Int) ∧ (List.length a0 : Int) ≤ (List.length a0 : Int))) with
| true => let v5 : (List Int) := (List.take (Int.toNat ((List.length a0 : Int) - v4)) (List.drop (Int.toNat v4) a0));
let v6 := (List.length a0 : Int);
let v7 := (IntKind.u64.wrap v6);
F165 R v5 v7 fun y8 y9 =>
let v10 : (List Int) := ([] : (List Int));
(match (decide (0 ≤ (0 : Int) ∧ (0 : Int) ≤ v4 ∧ v4 ≤ v4 ∧ v4 ≤ (List.length a0 : Int))) with
| true => let v11 : (List Int) := (List.take (Int.toNat (v4 - (0 : Int))) (List.drop 0 a0));
(match (decide (List.length v10 + List.length v11 ≤ 140737488355328)) with
| true => let v12 : (List Int) := (v10 ++ v11);
(match (decide (List.length v12 + List.length y8 ≤ 140737488355328)) with
| true => let v13 : (List Int) := (v12 ++ y8);
k v13
| false => none)
| false => none)
| false => none)
| false => none)
theorem q155 (F165 : FT165) (F : FT155) (R : Type) (x : AT (en155 F).ins) (k : RT (en155 F).outs → PT (en155 F).ins → Option R) :
  xfun (e155 F165 R) (codeOf Tryz.f155) res155 (avs (en155 F).ins x) (finK (en155 F).outs (en155 F).ins k) = p155 F165 R x.1 (fun y1 => k (y1, ()) ()) := by kernel_rfl
noncomputable def F155 : FT155 := p155 F165
theorem env155 (R : Type) : EnvOK Tryz.prog (e155 F165 R) := ⟨tabOK, eqOK, callOf_ok (allE_cons ok165 allE_nil), noIns, inlOK_nil⟩
theorem ok155 : (en155 F155).OK Tryz.prog :=
  ent_ok (Ef := fun R => e155 F165 R) (fun R => env155 R) mixed Tryz.func155 (body := codeOf Tryz.f155) (by kernel_rfl) (by kernel_rfl) (np := 0) (nt := 29) (fun _ => rfl) (fun _ => rfl) (by kernel_rfl) (res := res155) (by kernel_rfl) (fun _ => rfl) (fun _ => Nat.le_of_ble_eq_true rfl) (by
    intro R
    rw [show loopsOf (codeOf Tryz.f155) = [] from by kernel_rfl]
    exact allM_nil) (fun R x k => q155 F165 F155 R x k)
abbrev FT154 : Type 1 := (R : Type) → (List Int) → ((List (List Int)) → (List Int) → Option R) → Option R
def en154 (F : FT154) : Ent := ⟨154, [(false, (.sl (.int .u8)))], [(false, (.sl (.arr 64 (.int .u8)))), (false, (.sl (.int .u8)))], fun R x k => F R x.1 (fun y1 y2 => k (y1, y2, ()) ())⟩
def res154 : List (ResultVar × TypeId × Bool) := [(.tmp 2, 194, false), (.tmp 3, 26, false)]
abbrev LT154_3 : Type 1 := (R : Type) → (List Int) → Int → (List (List Int)) → ((List Int) → Int → (List (List Int)) → Option R) → Option R
def le154_3 (L : LT154_3) : LEnt := ⟨3, [.val 0 (.sl (.int .u8)), .fix 4 (.own 0 0), .val 5 (.int .i64), .row 0 (.arr 64 (.int .u8)) false], 1, [(.exit 0, [.val 0 (.sl (.int .u8)), .fix 4 (.own 0 0), .val 5 (.int .i64), .row 0 (.arr 64 (.int .u8)) false])], fun R x ke => L R x.1 x.2.1 x.2.2.1 (fun y1 y2 y3 => ke.1 (y1, y2, y3, ()))⟩
abbrev LT154_6 : Type 1 := (R : Type) → (List Int) → Int → Int → (List (List Int)) → (List Int) → ((List Int) → Int → (List (List Int)) → (List Int) → Option R) → Option R
def le154_6 (L : LT154_6) : LEnt := ⟨6, [.val 0 (.sl (.int .u8)), .fix 4 (.own 0 0), .val 5 (.int .i64), .fix 6 (.ptr 1 [] (.arr 64 (.int .u8))), .val 7 (.int .i64), .row 0 (.arr 64 (.int .u8)) false, .var 1 (.arr 64 (.int .u8)) false], 2, [(.exit 2, [.val 0 (.sl (.int .u8)), .fix 4 (.own 0 0), .val 5 (.int .i64), .fix 6 (.ptr 1 [] (.arr 64 (.int .u8))), .row 0 (.arr 64 (.int .u8)) false, .var 1 (.arr 64 (.int .u8)) false])], fun R x ke => L R x.1 x.2.1 x.2.2.1 x.2.2.2.1 x.2.2.2.2.1 (fun y1 y2 y3 y4 => ke.1 (y1, y2, y3, y4, ()))⟩
noncomputable def e154 (L3 : LT154_3) (L6 : LT154_6) (R : Type) : Env R := ⟨TT, EQT, 0, 35, ownOf [(1, 0)], callOf [] R, loopOf [le154_3 L3, le154_6 L6] R, [], inlOf []⟩
def p154_6 : (R : Type) → (List Int) → Int → Int → (List (List Int)) → (List Int) → ((List Int) → Int → Int → (List (List Int)) → (List Int) → Option R) → ((List Int) → Int → (List (List Int)) → (List Int) → Option R) → Option R := fun R x1 x2 x3 x4 x5 kc k0 =>
let v6 := (decide (x3 < (64 : Int)));
(match v6 with
| true => let v7 := (IntKind.i64.wrap (x2 + x3));
(match (bnd v7 (List.length x1 : Int)) with
| true => let v8 := (List.getD x1 (Int.toNat v7) (0 : Int));
(match (bnd x3 (64 : Int)) with
| true => let v9 : (List Int) := (List.set x5 (Int.toNat x3) v8);
let v10 := (IntKind.i64.wrap (x3 + (1 : Int)));
kc x1 x2 v10 x4 v9
| false => none)
| false => none)
| false => k0 x1 x2 x4 x5)
theorem q154_6 (L3 : LT154_3) (L6 : LT154_6) (R : Type) (x : HT (le154_6 L6).H) (kc : HT (le154_6 L6).H → Option R) (ke : KT R (le154_6 L6).exs) :
  exec (e154 L3 L6 R) (lcode 6 (codeOf Tryz.f154)) (stOf (le154_6 L6).H x 2) (roundK (le154_6 L6).H (le154_6 L6).exs kc ke) =
    p154_6 R x.1 x.2.1 x.2.2.1 x.2.2.2.1 x.2.2.2.2.1 (fun x1 x2 x3 x4 x5 => kc (x1, x2, x3, x4, x5, ())) (fun y1 y2 y3 y4 => ke.1 (y1, y2, y3, y4, ())) := by kernel_rfl
noncomputable def G154_6 : Nat → LT154_6
  | 0 => fun _ _ _ _ _ _ _ => none
  | n + 1 => fun R x1 x2 x3 x4 x5 k0 => p154_6 R x1 x2 x3 x4 x5 (fun x1 x2 x3 x4 x5 => G154_6 n R x1 x2 x3 x4 x5 k0) k0
def p154_3 (L6 : LT154_6) : (R : Type) → (List Int) → Int → (List (List Int)) → ((List Int) → Int → (List (List Int)) → Option R) → ((List Int) → Int → (List (List Int)) → Option R) → Option R := fun R x1 x2 x3 kc k0 =>
let v4 := (IntKind.i64.wrap (x2 + (64 : Int)));
let v5 := (List.length x1 : Int);
let v6 := (decide (v4 ≤ v5));
(match v6 with
| true => L6 R x1 x2 (0 : Int) x3 (List.replicate 64 (0 : Int)) (fun x7 x8 x9 x10 =>
let v11 : (List (List Int)) := ([x10] : (List (List Int)));
(match (decide (List.length x9 + List.length v11 ≤ 2199023255552)) with
| true => let v12 : (List (List Int)) := (x9 ++ v11);
let v13 := (IntKind.i64.wrap (x8 + (64 : Int)));
kc x7 v13 v12
| false => none))
| false => k0 x1 x2 x3)
theorem q154_3 (L3 : LT154_3) (L6 : LT154_6) (R : Type) (x : HT (le154_3 L3).H) (kc : HT (le154_3 L3).H → Option R) (ke : KT R (le154_3 L3).exs) :
  exec (e154 L3 L6 R) (lcode 3 (codeOf Tryz.f154)) (stOf (le154_3 L3).H x 1) (roundK (le154_3 L3).H (le154_3 L3).exs kc ke) =
    p154_3 L6 R x.1 x.2.1 x.2.2.1 (fun x1 x2 x3 => kc (x1, x2, x3, ())) (fun y1 y2 y3 => ke.1 (y1, y2, y3, ())) := by kernel_rfl
noncomputable def G154_3 : Nat → LT154_3
  | 0 => fun _ _ _ _ _ => none
  | n + 1 => fun R x1 x2 x3 k0 => p154_3 (G154_6 FUEL) R x1 x2 x3 (fun x1 x2 x3 => G154_3 n R x1 x2 x3 k0) k0
def p154 (L3 : LT154_3) : FT154 := fun R a0 k =>
L3 R a0 (0 : Int) ([] : (List (List Int))) (fun x1 x2 x3 =>
(match (decide (0 ≤ x2 ∧ x2 ≤ (List.length x1 : Int) ∧ (List.length x1 : Int) ≤ (List.length x1 : Int) ∧ (List.length x1 : Int) ≤ (List.length x1 : Int))) with
| true => let v4 : (List Int) := (List.take (Int.toNat ((List.length x1 : Int) - x2)) (List.drop (Int.toNat x2) x1));
k x3 v4
| false => none))
theorem q154 (L3 : LT154_3) (L6 : LT154_6) (F : FT154) (R : Type) (x : AT (en154 F).ins) (k : RT (en154 F).outs → PT (en154 F).ins → Option R) :
  xfun (e154 L3 L6 R) (codeOf Tryz.f154) res154 (avs (en154 F).ins x) (finK (en154 F).outs (en154 F).ins k) = p154 L3 R x.1 (fun y1 y2 => k (y1, y2, ()) ()) := by kernel_rfl
noncomputable def F154 : FT154 := p154 (G154_3 FUEL)
theorem env154 (R : Type) : EnvOK Tryz.prog (e154 (G154_3 FUEL) (G154_6 FUEL) R) := ⟨tabOK, eqOK, callOf_ok allE_nil, noIns, inlOK_nil⟩
noncomputable def T154_6 : (R : Type) → HT (le154_6 (G154_6 FUEL)).H → (HT (le154_6 (G154_6 FUEL)).H → Option R) → KT R (le154_6 (G154_6 FUEL)).exs → Option R := fun R x kc ke => p154_6 R x.1 x.2.1 x.2.2.1 x.2.2.2.1 x.2.2.2.2.1 (fun x1 x2 x3 x4 x5 => kc (x1, x2, x3, x4, x5, ())) (fun y1 y2 y3 y4 => ke.1 (y1, y2, y3, y4, ()))
theorem it154_6 : ∀ (n : Nat) (R : Type) (x : HT (le154_6 (G154_6 FUEL)).H) (ke : KT R (le154_6 (G154_6 FUEL)).exs), iter T154_6 n R x ke = G154_6 n R x.1 x.2.1 x.2.2.1 x.2.2.2.1 x.2.2.2.2.1 (fun y1 y2 y3 y4 => ke.1 (y1, y2, y3, y4, ())) := by
  intro n
  induction n with
  | zero => intro R x ke; rfl
  | succ n ih =>
    intro R x ke
    show T154_6 R x (fun x' => iter T154_6 n R x' ke) ke = _
    rw [show (fun x' => iter T154_6 n R x' ke) = fun x => G154_6 n R x.1 x.2.1 x.2.2.1 x.2.2.2.1 x.2.2.2.2.1 (fun y1 y2 y3 y4 => ke.1 (y1, y2, y3, y4, ())) from funext fun x' => ih R x' ke]
    rfl
theorem lok154_6 : (le154_6 (G154_6 FUEL)).OK Tryz.prog 0 35 (lcode 6 (codeOf Tryz.f154)) := fun R x ke r h =>
  iter_sound (fun R => e154 (G154_3 FUEL) (G154_6 FUEL) R) 0 35 (fun _ => rfl) (fun _ => rfl) (fun R => env154 R) mixed (by
    intro R
    rw [show loopsOf (lcode 6 (codeOf Tryz.f154)) = [] from by kernel_rfl]
    exact allM_nil) (T := T154_6) (fun R x kc ke => q154_6 (G154_3 FUEL) (G154_6 FUEL) R x kc ke) FUEL R x ke r ((it154_6 FUEL R x ke).trans h)
noncomputable def T154_3 : (R : Type) → HT (le154_3 (G154_3 FUEL)).H → (HT (le154_3 (G154_3 FUEL)).H → Option R) → KT R (le154_3 (G154_3 FUEL)).exs → Option R := fun R x kc ke => p154_3 (G154_6 FUEL) R x.1 x.2.1 x.2.2.1 (fun x1 x2 x3 => kc (x1, x2, x3, ())) (fun y1 y2 y3 => ke.1 (y1, y2, y3, ()))
theorem it154_3 : ∀ (n : Nat) (R : Type) (x : HT (le154_3 (G154_3 FUEL)).H) (ke : KT R (le154_3 (G154_3 FUEL)).exs), iter T154_3 n R x ke = G154_3 n R x.1 x.2.1 x.2.2.1 (fun y1 y2 y3 => ke.1 (y1, y2, y3, ())) := by
  intro n
  induction n with
  | zero => intro R x ke; rfl
  | succ n ih =>
    intro R x ke
    show T154_3 R x (fun x' => iter T154_3 n R x' ke) ke = _
    rw [show (fun x' => iter T154_3 n R x' ke) = fun x => G154_3 n R x.1 x.2.1 x.2.2.1 (fun y1 y2 y3 => ke.1 (y1, y2, y3, ())) from funext fun x' => ih R x' ke]
    rfl
theorem lok154_3 : (le154_3 (G154_3 FUEL)).OK Tryz.prog 0 35 (lcode 3 (codeOf Tryz.f154)) := fun R x ke r h =>
  iter_sound (fun R => e154 (G154_3 FUEL) (G154_6 FUEL) R) 0 35 (fun _ => rfl) (fun _ => rfl) (fun R => env154 R) mixed (by
    intro R
    rw [show loopsOf (lcode 3 (codeOf Tryz.f154)) = [lcode 6 (codeOf Tryz.f154)] from by kernel_rfl]
    exact (allM_cons (loop_ok2 (e := le154_6 (G154_6 FUEL)) rfl rfl lok154_6) allM_nil)) (T := T154_3) (fun R x kc ke => q154_3 (G154_3 FUEL) (G154_6 FUEL) R x kc ke) FUEL R x ke r ((it154_3 FUEL R x ke).trans h)
theorem ok154 : (en154 F154).OK Tryz.prog :=
  ent_ok (Ef := fun R => e154 (G154_3 FUEL) (G154_6 FUEL) R) (fun R => env154 R) mixed Tryz.func154 (body := codeOf Tryz.f154) (by kernel_rfl) (by kernel_rfl) (np := 0) (nt := 35) (fun _ => rfl) (fun _ => rfl) (by kernel_rfl) (res := res154) (by kernel_rfl) (fun _ => rfl) (fun _ => Nat.le_of_ble_eq_true rfl) (by
    intro R
    rw [show loopsOf (codeOf Tryz.f154) = [lcode 3 (codeOf Tryz.f154)] from by kernel_rfl]
    exact (allM_cons (loop_ok2 (e := le154_3 (G154_3 FUEL)) rfl rfl lok154_3) allM_nil)) (fun R x k => q154 (G154_3 FUEL) (G154_6 FUEL) F154 R x k)
abbrev FT158 : Type 1 := (R : Type) → ((List Int) → Option R) → Option R
def en158 (F : FT158) : Ent := ⟨158, [], [(false, (.arr 8 (.int .u32)))], fun R x k => F R  (fun y1 => k (y1, ()) ())⟩
def res158 : List (ResultVar × TypeId × Bool) := [(.cell 0 186, 186, false)]
noncomputable def e158 (R : Type) : Env R := ⟨TT, EQT, 0, 2, ownOf [], callOf [] R, loopOf [] R, [], inlOf []⟩
def p158 : FT158 := fun R k =>
let v1 : (List Int) := (List.set (List.set (List.set (List.set (List.set (List.set (List.set (List.set (List.replicate 8 (0 : Int)) 0 (1779033703 : Int)) 1 (3144134277 : Int)) 2 (1013904242 : Int)) 3 (2773480762 : Int)) 4 (1359893119 : Int)) 5 (2600822924 : Int)) 6 (528734635 : Int)) 7 (1541459225 : Int));
k v1
theorem q158 (F : FT158) (R : Type) (x : AT (en158 F).ins) (k : RT (en158 F).outs → PT (en158 F).ins → Option R) :
  xfun (e158 R) (codeOf Tryz.f158) res158 (avs (en158 F).ins x) (finK (en158 F).outs (en158 F).ins k) = p158 R  (fun y1 => k (y1, ()) ()) := by kernel_rfl
noncomputable def F158 : FT158 := p158
theorem env158 (R : Type) : EnvOK Tryz.prog (e158 R) := ⟨tabOK, eqOK, callOf_ok allE_nil, noIns, inlOK_nil⟩
theorem ok158 : (en158 F158).OK Tryz.prog :=
  ent_ok (Ef := fun R => e158 R) (fun R => env158 R) mixed Tryz.func158 (body := codeOf Tryz.f158) (by kernel_rfl) (by kernel_rfl) (np := 0) (nt := 2) (fun _ => rfl) (fun _ => rfl) (by kernel_rfl) (res := res158) (by kernel_rfl) (fun _ => rfl) (fun _ => Nat.le_of_ble_eq_true rfl) (by
    intro R
    rw [show loopsOf (codeOf Tryz.f158) = [] from by kernel_rfl]
    exact allM_nil) (fun R x k => q158 F158 R x k)
abbrev FT179 : Type 1 := (R : Type) → (List Int) → (Int → Option R) → Option R
def en179 (F : FT179) : Ent := ⟨179, [(false, (.arr 4 (.int .u8)))], [(false, (.int .u32))], fun R x k => F R x.1 (fun y1 => k (y1, ()) ())⟩
def res179 : List (ResultVar × TypeId × Bool) := [(.tmp 2, 84, false)]
abbrev LT179_3 : Type 1 := (R : Type) → Int → Int → (List Int) → (Int → Option R) → Option R
def le179_3 (L : LT179_3) : LEnt := ⟨3, [.fix 1 (.ptr 0 [] (.arr 4 (.int .u8))), .val 3 (.int .u32), .val 4 (.int .i64), .var 0 (.arr 4 (.int .u8)) false], 1, [(.exit 0, [.val 3 (.int .u32)])], fun R x ke => L R x.1 x.2.1 x.2.2.1 (fun y1 => ke.1 (y1, ()))⟩
noncomputable def e179 (L3 : LT179_3) (R : Type) : Env R := ⟨TT, EQT, 0, 17, ownOf [], callOf [] R, loopOf [le179_3 L3] R, [], inlOf []⟩
def p179_3 : (R : Type) → Int → Int → (List Int) → (Int → Int → (List Int) → Option R) → (Int → Option R) → Option R := fun R x1 x2 x3 kc k0 =>
let v4 := (decide (x2 < (4 : Int)));
(match v4 with
| true => let v5 := (IntKind.u32.wrap (x1 * (256 : Int)));
(match (bnd x2 (4 : Int)) with
| true => let v6 := (List.getD x3 (Int.toNat x2) (0 : Int));
let v7 := (IntKind.u32.wrap v6);
let v8 := (IntKind.u32.wrap (v5 + v7));
let v9 := (IntKind.i64.wrap (x2 + (1 : Int)));
kc v8 v9 x3
| false => none)
| false => k0 x1)
theorem q179_3 (L3 : LT179_3) (R : Type) (x : HT (le179_3 L3).H) (kc : HT (le179_3 L3).H → Option R) (ke : KT R (le179_3 L3).exs) :
  exec (e179 L3 R) (lcode 3 (codeOf Tryz.f179)) (stOf (le179_3 L3).H x 1) (roundK (le179_3 L3).H (le179_3 L3).exs kc ke) =
    p179_3 R x.1 x.2.1 x.2.2.1 (fun x1 x2 x3 => kc (x1, x2, x3, ())) (fun y1 => ke.1 (y1, ())) := by kernel_rfl
noncomputable def G179_3 : Nat → LT179_3
  | 0 => fun _ _ _ _ _ => none
  | n + 1 => fun R x1 x2 x3 k0 => p179_3 R x1 x2 x3 (fun x1 x2 x3 => G179_3 n R x1 x2 x3 k0) k0
def p179 (L3 : LT179_3) : FT179 := fun R a0 k =>
L3 R (0 : Int) (0 : Int) a0 (fun x1 =>
k x1)
theorem q179 (L3 : LT179_3) (F : FT179) (R : Type) (x : AT (en179 F).ins) (k : RT (en179 F).outs → PT (en179 F).ins → Option R) :
  xfun (e179 L3 R) (codeOf Tryz.f179) res179 (avs (en179 F).ins x) (finK (en179 F).outs (en179 F).ins k) = p179 L3 R x.1 (fun y1 => k (y1, ()) ()) := by kernel_rfl
noncomputable def F179 : FT179 := p179 (G179_3 FUEL)
theorem env179 (R : Type) : EnvOK Tryz.prog (e179 (G179_3 FUEL) R) := ⟨tabOK, eqOK, callOf_ok allE_nil, noIns, inlOK_nil⟩
noncomputable def T179_3 : (R : Type) → HT (le179_3 (G179_3 FUEL)).H → (HT (le179_3 (G179_3 FUEL)).H → Option R) → KT R (le179_3 (G179_3 FUEL)).exs → Option R := fun R x kc ke => p179_3 R x.1 x.2.1 x.2.2.1 (fun x1 x2 x3 => kc (x1, x2, x3, ())) (fun y1 => ke.1 (y1, ()))
theorem it179_3 : ∀ (n : Nat) (R : Type) (x : HT (le179_3 (G179_3 FUEL)).H) (ke : KT R (le179_3 (G179_3 FUEL)).exs), iter T179_3 n R x ke = G179_3 n R x.1 x.2.1 x.2.2.1 (fun y1 => ke.1 (y1, ())) := by
  intro n
  induction n with
  | zero => intro R x ke; rfl
  | succ n ih =>
    intro R x ke
    show T179_3 R x (fun x' => iter T179_3 n R x' ke) ke = _
    rw [show (fun x' => iter T179_3 n R x' ke) = fun x => G179_3 n R x.1 x.2.1 x.2.2.1 (fun y1 => ke.1 (y1, ())) from funext fun x' => ih R x' ke]
    rfl
theorem lok179_3 : (le179_3 (G179_3 FUEL)).OK Tryz.prog 0 17 (lcode 3 (codeOf Tryz.f179)) := fun R x ke r h =>
  iter_sound (fun R => e179 (G179_3 FUEL) R) 0 17 (fun _ => rfl) (fun _ => rfl) (fun R => env179 R) mixed (by
    intro R
    rw [show loopsOf (lcode 3 (codeOf Tryz.f179)) = [] from by kernel_rfl]
    exact allM_nil) (T := T179_3) (fun R x kc ke => q179_3 (G179_3 FUEL) R x kc ke) FUEL R x ke r ((it179_3 FUEL R x ke).trans h)
theorem ok179 : (en179 F179).OK Tryz.prog :=
  ent_ok (Ef := fun R => e179 (G179_3 FUEL) R) (fun R => env179 R) mixed Tryz.func179 (body := codeOf Tryz.f179) (by kernel_rfl) (by kernel_rfl) (np := 0) (nt := 17) (fun _ => rfl) (fun _ => rfl) (by kernel_rfl) (res := res179) (by kernel_rfl) (fun _ => rfl) (fun _ => Nat.le_of_ble_eq_true rfl) (by
    intro R
    rw [show loopsOf (codeOf Tryz.f179) = [lcode 3 (codeOf Tryz.f179)] from by kernel_rfl]
    exact (allM_cons (loop_ok2 (e := le179_3 (G179_3 FUEL)) rfl rfl lok179_3) allM_nil)) (fun R x k => q179 (G179_3 FUEL) F179 R x k)
abbrev FT190 : Type 1 := (R : Type) → Int → Int → (Int → Option R) → Option R
def en190 (F : FT190) : Ent := ⟨190, [(false, (.int .u32)), (false, (.int .i64))], [(false, (.int .u32))], fun R x k => F R x.1 x.2.1 (fun y1 => k (y1, ()) ())⟩
def res190 : List (ResultVar × TypeId × Bool) := [(.tmp 4, 84, false)]
abbrev LT190_5 : Type 1 := (R : Type) → Int → Int → Int → (Int → Option R) → Option R
def le190_5 (L : LT190_5) : LEnt := ⟨5, [.val 0 (.int .u32), .val 1 (.int .i64), .val 5 (.int .i64)], 0, [(.exit 0, [.val 0 (.int .u32)])], fun R x ke => L R x.1 x.2.1 x.2.2.1 (fun y1 => ke.1 (y1, ()))⟩
noncomputable def e190 (L5 : LT190_5) (R : Type) : Env R := ⟨TT, EQT, 0, 24, ownOf [], callOf [] R, loopOf [le190_5 L5] R, [], inlOf []⟩
def p190_5 : (R : Type) → Int → Int → Int → (Int → Int → Int → Option R) → (Int → Option R) → Option R := fun R x1 x2 x3 kc k0 =>
let v4 := (decide (x3 < x2));
(match v4 with
| true => let v5 := (IntKind.u32.wrap (Int.tdiv x1 (2 : Int)));
let v6 := (Int.tmod x1 (2 : Int));
let v7 := (IntKind.u32.wrap (v6 * (2147483648 : Int)));
let v8 := (IntKind.u32.wrap (v5 + v7));
let v9 := (IntKind.i64.wrap (x3 + (1 : Int)));
kc v8 x2 v9
| false => k0 x1)
theorem q190_5 (L5 : LT190_5) (R : Type) (x : HT (le190_5 L5).H) (kc : HT (le190_5 L5).H → Option R) (ke : KT R (le190_5 L5).exs) :
  exec (e190 L5 R) (lcode 5 (codeOf Tryz.f190)) (stOf (le190_5 L5).H x 0) (roundK (le190_5 L5).H (le190_5 L5).exs kc ke) =
    p190_5 R x.1 x.2.1 x.2.2.1 (fun x1 x2 x3 => kc (x1, x2, x3, ())) (fun y1 => ke.1 (y1, ())) := by kernel_rfl
noncomputable def G190_5 : Nat → LT190_5
  | 0 => fun _ _ _ _ _ => none
  | n + 1 => fun R x1 x2 x3 k0 => p190_5 R x1 x2 x3 (fun x1 x2 x3 => G190_5 n R x1 x2 x3 k0) k0
def p190 (L5 : LT190_5) : FT190 := fun R a0 a1 k =>
let v1 := (Int.tmod a1 (32 : Int));
let v2 := (decide (v1 < (0 : Int)));
(match v2 with
| true => let v3 := (IntKind.i64.wrap (v1 + (32 : Int)));
L5 R a0 v3 (0 : Int) (fun x4 =>
k x4)
| false => L5 R a0 v1 (0 : Int) (fun x5 =>
k x5))
theorem q190 (L5 : LT190_5) (F : FT190) (R : Type) (x : AT (en190 F).ins) (k : RT (en190 F).outs → PT (en190 F).ins → Option R) :
  xfun (e190 L5 R) (codeOf Tryz.f190) res190 (avs (en190 F).ins x) (finK (en190 F).outs (en190 F).ins k) = p190 L5 R x.1 x.2.1 (fun y1 => k (y1, ()) ()) := by kernel_rfl
noncomputable def F190 : FT190 := p190 (G190_5 FUEL)
theorem env190 (R : Type) : EnvOK Tryz.prog (e190 (G190_5 FUEL) R) := ⟨tabOK, eqOK, callOf_ok allE_nil, noIns, inlOK_nil⟩
noncomputable def T190_5 : (R : Type) → HT (le190_5 (G190_5 FUEL)).H → (HT (le190_5 (G190_5 FUEL)).H → Option R) → KT R (le190_5 (G190_5 FUEL)).exs → Option R := fun R x kc ke => p190_5 R x.1 x.2.1 x.2.2.1 (fun x1 x2 x3 => kc (x1, x2, x3, ())) (fun y1 => ke.1 (y1, ()))
theorem it190_5 : ∀ (n : Nat) (R : Type) (x : HT (le190_5 (G190_5 FUEL)).H) (ke : KT R (le190_5 (G190_5 FUEL)).exs), iter T190_5 n R x ke = G190_5 n R x.1 x.2.1 x.2.2.1 (fun y1 => ke.1 (y1, ())) := by
  intro n
  induction n with
  | zero => intro R x ke; rfl
  | succ n ih =>
    intro R x ke
    show T190_5 R x (fun x' => iter T190_5 n R x' ke) ke = _
    rw [show (fun x' => iter T190_5 n R x' ke) = fun x => G190_5 n R x.1 x.2.1 x.2.2.1 (fun y1 => ke.1 (y1, ())) from funext fun x' => ih R x' ke]
    rfl
theorem lok190_5 : (le190_5 (G190_5 FUEL)).OK Tryz.prog 0 24 (lcode 5 (codeOf Tryz.f190)) := fun R x ke r h =>
  iter_sound (fun R => e190 (G190_5 FUEL) R) 0 24 (fun _ => rfl) (fun _ => rfl) (fun R => env190 R) mixed (by
    intro R
    rw [show loopsOf (lcode 5 (codeOf Tryz.f190)) = [] from by kernel_rfl]
    exact allM_nil) (T := T190_5) (fun R x kc ke => q190_5 (G190_5 FUEL) R x kc ke) FUEL R x ke r ((it190_5 FUEL R x ke).trans h)
theorem ok190 : (en190 F190).OK Tryz.prog :=
  ent_ok (Ef := fun R => e190 (G190_5 FUEL) R) (fun R => env190 R) mixed Tryz.func190 (body := codeOf Tryz.f190) (by kernel_rfl) (by kernel_rfl) (np := 0) (nt := 24) (fun _ => rfl) (fun _ => rfl) (by kernel_rfl) (res := res190) (by kernel_rfl) (fun _ => rfl) (fun _ => Nat.le_of_ble_eq_true rfl) (by
    intro R
    rw [show loopsOf (codeOf Tryz.f190) = [lcode 5 (codeOf Tryz.f190)] from by kernel_rfl]
    exact (allM_cons (loop_ok2 (e := le190_5 (G190_5 FUEL)) rfl rfl lok190_5) allM_nil)) (fun R x k => q190 (G190_5 FUEL) F190 R x k)
abbrev FT139 : Type 1 := (R : Type) → Int → Int → (Int → Option R) → Option R
def en139 (F : FT139) : Ent := ⟨139, [(false, (.int .u32)), (false, (.int .i64))], [(false, (.int .u32))], fun R x k => F R x.1 x.2.1 (fun y1 => k (y1, ()) ())⟩
def res139 : List (ResultVar × TypeId × Bool) := [(.tmp 4, 84, false)]
abbrev LT139_4 : Type 1 := (R : Type) → Int → Int → Int → (Int → Option R) → Option R
def le139_4 (L : LT139_4) : LEnt := ⟨4, [.val 0 (.int .u32), .val 1 (.int .i64), .val 5 (.int .i64)], 0, [(.exit 0, [.val 0 (.int .u32)])], fun R x ke => L R x.1 x.2.1 x.2.2.1 (fun y1 => ke.1 (y1, ()))⟩
noncomputable def e139 (L4 : LT139_4) (R : Type) : Env R := ⟨TT, EQT, 0, 16, ownOf [], callOf [] R, loopOf [le139_4 L4] R, [], inlOf []⟩
def p139_4 : (R : Type) → Int → Int → Int → (Int → Int → Int → Option R) → (Int → Option R) → Option R := fun R x1 x2 x3 kc k0 =>
let v4 := (decide (x3 < x2));
(match v4 with
| true => let v5 := (IntKind.u32.wrap (Int.tdiv x1 (2 : Int)));
let v6 := (IntKind.i64.wrap (x3 + (1 : Int)));
kc v5 x2 v6
| false => k0 x1)
theorem q139_4 (L4 : LT139_4) (R : Type) (x : HT (le139_4 L4).H) (kc : HT (le139_4 L4).H → Option R) (ke : KT R (le139_4 L4).exs) :
  exec (e139 L4 R) (lcode 4 (codeOf Tryz.f139)) (stOf (le139_4 L4).H x 0) (roundK (le139_4 L4).H (le139_4 L4).exs kc ke) =
    p139_4 R x.1 x.2.1 x.2.2.1 (fun x1 x2 x3 => kc (x1, x2, x3, ())) (fun y1 => ke.1 (y1, ())) := by kernel_rfl
noncomputable def G139_4 : Nat → LT139_4
  | 0 => fun _ _ _ _ _ => none
  | n + 1 => fun R x1 x2 x3 k0 => p139_4 R x1 x2 x3 (fun x1 x2 x3 => G139_4 n R x1 x2 x3 k0) k0
def p139 (L4 : LT139_4) : FT139 := fun R a0 a1 k =>
let v1 := (decide (a1 > (31 : Int)));
(match v1 with
| true => k (0 : Int)
| false => L4 R a0 a1 (0 : Int) (fun x2 =>
k x2))
theorem q139 (L4 : LT139_4) (F : FT139) (R : Type) (x : AT (en139 F).ins) (k : RT (en139 F).outs → PT (en139 F).ins → Option R) :
  xfun (e139 L4 R) (codeOf Tryz.f139) res139 (avs (en139 F).ins x) (finK (en139 F).outs (en139 F).ins k) = p139 L4 R x.1 x.2.1 (fun y1 => k (y1, ()) ()) := by kernel_rfl
noncomputable def F139 : FT139 := p139 (G139_4 FUEL)
theorem env139 (R : Type) : EnvOK Tryz.prog (e139 (G139_4 FUEL) R) := ⟨tabOK, eqOK, callOf_ok allE_nil, noIns, inlOK_nil⟩
noncomputable def T139_4 : (R : Type) → HT (le139_4 (G139_4 FUEL)).H → (HT (le139_4 (G139_4 FUEL)).H → Option R) → KT R (le139_4 (G139_4 FUEL)).exs → Option R := fun R x kc ke => p139_4 R x.1 x.2.1 x.2.2.1 (fun x1 x2 x3 => kc (x1, x2, x3, ())) (fun y1 => ke.1 (y1, ()))
theorem it139_4 : ∀ (n : Nat) (R : Type) (x : HT (le139_4 (G139_4 FUEL)).H) (ke : KT R (le139_4 (G139_4 FUEL)).exs), iter T139_4 n R x ke = G139_4 n R x.1 x.2.1 x.2.2.1 (fun y1 => ke.1 (y1, ())) := by
  intro n
  induction n with
  | zero => intro R x ke; rfl
  | succ n ih =>
    intro R x ke
    show T139_4 R x (fun x' => iter T139_4 n R x' ke) ke = _
    rw [show (fun x' => iter T139_4 n R x' ke) = fun x => G139_4 n R x.1 x.2.1 x.2.2.1 (fun y1 => ke.1 (y1, ())) from funext fun x' => ih R x' ke]
    rfl
theorem lok139_4 : (le139_4 (G139_4 FUEL)).OK Tryz.prog 0 16 (lcode 4 (codeOf Tryz.f139)) := fun R x ke r h =>
  iter_sound (fun R => e139 (G139_4 FUEL) R) 0 16 (fun _ => rfl) (fun _ => rfl) (fun R => env139 R) mixed (by
    intro R
    rw [show loopsOf (lcode 4 (codeOf Tryz.f139)) = [] from by kernel_rfl]
    exact allM_nil) (T := T139_4) (fun R x kc ke => q139_4 (G139_4 FUEL) R x kc ke) FUEL R x ke r ((it139_4 FUEL R x ke).trans h)
theorem ok139 : (en139 F139).OK Tryz.prog :=
  ent_ok (Ef := fun R => e139 (G139_4 FUEL) R) (fun R => env139 R) mixed Tryz.func139 (body := codeOf Tryz.f139) (by kernel_rfl) (by kernel_rfl) (np := 0) (nt := 16) (fun _ => rfl) (fun _ => rfl) (by kernel_rfl) (res := res139) (by kernel_rfl) (fun _ => rfl) (fun _ => Nat.le_of_ble_eq_true rfl) (by
    intro R
    rw [show loopsOf (codeOf Tryz.f139) = [lcode 4 (codeOf Tryz.f139)] from by kernel_rfl]
    exact (allM_cons (loop_ok2 (e := le139_4 (G139_4 FUEL)) rfl rfl lok139_4) allM_nil)) (fun R x k => q139 (G139_4 FUEL) F139 R x k)
abbrev FT180 : Type 1 := (R : Type) → Int → (Int → Option R) → Option R
def en180 (F : FT180) : Ent := ⟨180, [(false, (.int .u32))], [(false, (.int .u32))], fun R x k => F R x.1 (fun y1 => k (y1, ()) ())⟩
def res180 : List (ResultVar × TypeId × Bool) := [(.tmp 2, 84, false)]
noncomputable def e180 (F139 : FT139) (F190 : FT190) (R : Type) : Env R := ⟨TT, EQT, 0, 11, ownOf [], callOf [en139 F139, en190 F190] R, loopOf [] R, [], inlOf []⟩
def p180 (F139 : FT139) (F190 : FT190) : FT180 := fun R a0 k =>
F190 R a0 (17 : Int) fun y1 =>
F190 R a0 (19 : Int) fun y2 =>
let v3 := (ixor .u32 y1 y2);
F139 R a0 (10 : Int) fun y4 =>
let v5 := (ixor .u32 v3 y4);
k v5
theorem q180 (F139 : FT139) (F190 : FT190) (F : FT180) (R : Type) (x : AT (en180 F).ins) (k : RT (en180 F).outs → PT (en180 F).ins → Option R) :
  xfun (e180 F139 F190 R) (codeOf Tryz.f180) res180 (avs (en180 F).ins x) (finK (en180 F).outs (en180 F).ins k) = p180 F139 F190 R x.1 (fun y1 => k (y1, ()) ()) := by kernel_rfl
noncomputable def F180 : FT180 := p180 F139 F190
theorem env180 (R : Type) : EnvOK Tryz.prog (e180 F139 F190 R) := ⟨tabOK, eqOK, callOf_ok (allE_cons ok139 (allE_cons ok190 allE_nil)), noIns, inlOK_nil⟩
theorem ok180 : (en180 F180).OK Tryz.prog :=
  ent_ok (Ef := fun R => e180 F139 F190 R) (fun R => env180 R) mixed Tryz.func180 (body := codeOf Tryz.f180) (by kernel_rfl) (by kernel_rfl) (np := 0) (nt := 11) (fun _ => rfl) (fun _ => rfl) (by kernel_rfl) (res := res180) (by kernel_rfl) (fun _ => rfl) (fun _ => Nat.le_of_ble_eq_true rfl) (by
    intro R
    rw [show loopsOf (codeOf Tryz.f180) = [] from by kernel_rfl]
    exact allM_nil) (fun R x k => q180 F139 F190 F180 R x k)
abbrev FT181 : Type 1 := (R : Type) → Int → (Int → Option R) → Option R
def en181 (F : FT181) : Ent := ⟨181, [(false, (.int .u32))], [(false, (.int .u32))], fun R x k => F R x.1 (fun y1 => k (y1, ()) ())⟩
def res181 : List (ResultVar × TypeId × Bool) := [(.tmp 2, 84, false)]
noncomputable def e181 (F139 : FT139) (F190 : FT190) (R : Type) : Env R := ⟨TT, EQT, 0, 11, ownOf [], callOf [en139 F139, en190 F190] R, loopOf [] R, [], inlOf []⟩
def p181 (F139 : FT139) (F190 : FT190) : FT181 := fun R a0 k =>
F190 R a0 (7 : Int) fun y1 =>
F190 R a0 (18 : Int) fun y2 =>
let v3 := (ixor .u32 y1 y2);
F139 R a0 (3 : Int) fun y4 =>
let v5 := (ixor .u32 v3 y4);
k v5
theorem q181 (F139 : FT139) (F190 : FT190) (F : FT181) (R : Type) (x : AT (en181 F).ins) (k : RT (en181 F).outs → PT (en181 F).ins → Option R) :
  xfun (e181 F139 F190 R) (codeOf Tryz.f181) res181 (avs (en181 F).ins x) (finK (en181 F).outs (en181 F).ins k) = p181 F139 F190 R x.1 (fun y1 => k (y1, ()) ()) := by kernel_rfl
noncomputable def F181 : FT181 := p181 F139 F190
theorem env181 (R : Type) : EnvOK Tryz.prog (e181 F139 F190 R) := ⟨tabOK, eqOK, callOf_ok (allE_cons ok139 (allE_cons ok190 allE_nil)), noIns, inlOK_nil⟩
theorem ok181 : (en181 F181).OK Tryz.prog :=
  ent_ok (Ef := fun R => e181 F139 F190 R) (fun R => env181 R) mixed Tryz.func181 (body := codeOf Tryz.f181) (by kernel_rfl) (by kernel_rfl) (np := 0) (nt := 11) (fun _ => rfl) (fun _ => rfl) (by kernel_rfl) (res := res181) (by kernel_rfl) (fun _ => rfl) (fun _ => Nat.le_of_ble_eq_true rfl) (by
    intro R
    rw [show loopsOf (codeOf Tryz.f181) = [] from by kernel_rfl]
    exact allM_nil) (fun R x k => q181 F139 F190 F181 R x k)
abbrev FT173 : Type 1 := (R : Type) → (List Int) → ((List Int) → Option R) → Option R
def en173 (F : FT173) : Ent := ⟨173, [(false, (.arr 64 (.int .u8)))], [(false, (.arr 64 (.int .u32)))], fun R x k => F R x.1 (fun y1 => k (y1, ()) ())⟩
def res173 : List (ResultVar × TypeId × Bool) := [(.cell 2 214, 214, false)]
abbrev LT173_3 : Type 1 := (R : Type) → Int → (List Int) → (List Int) → (List Int) → ((List Int) → (List Int) → Option R) → Option R
def le173_3 (L : LT173_3) : LEnt := ⟨3, [.fix 1 (.ptr 0 [] (.arr 64 (.int .u8))), .fix 2 (.ptr 1 [] (.arr 64 (.int .u32))), .fix 3 (.ptr 2 [] (.arr 64 (.int .u32))), .val 4 (.int .i64), .var 0 (.arr 64 (.int .u8)) false, .var 1 (.arr 64 (.int .u32)) false, .var 2 (.arr 64 (.int .u32)) false], 3, [(.exit 0, [.fix 2 (.ptr 1 [] (.arr 64 (.int .u32))), .fix 3 (.ptr 2 [] (.arr 64 (.int .u32))), .var 1 (.arr 64 (.int .u32)) false, .var 2 (.arr 64 (.int .u32)) false])], fun R x ke => L R x.1 x.2.1 x.2.2.1 x.2.2.2.1 (fun y1 y2 => ke.1 (y1, y2, ()))⟩
abbrev LT173_7 : Type 1 := (R : Type) → Int → (List Int) → (List Int) → ((List Int) → (List Int) → Option R) → Option R
def le173_7 (L : LT173_7) : LEnt := ⟨7, [.fix 2 (.ptr 1 [] (.arr 64 (.int .u32))), .fix 3 (.ptr 2 [] (.arr 64 (.int .u32))), .val 5 (.int .i64), .var 1 (.arr 64 (.int .u32)) false, .var 2 (.arr 64 (.int .u32)) false], 3, [(.exit 2, [.fix 2 (.ptr 1 [] (.arr 64 (.int .u32))), .fix 3 (.ptr 2 [] (.arr 64 (.int .u32))), .var 1 (.arr 64 (.int .u32)) false, .var 2 (.arr 64 (.int .u32)) false])], fun R x ke => L R x.1 x.2.1 x.2.2.1 (fun y1 y2 => ke.1 (y1, y2, ()))⟩
noncomputable def e173 (F179 : FT179) (F180 : FT180) (F181 : FT181) (L3 : LT173_3) (L7 : LT173_7) (R : Type) : Env R := ⟨TT, EQT, 0, 61, ownOf [], callOf [en179 F179, en180 F180, en181 F181] R, loopOf [le173_3 L3, le173_7 L7] R, [], inlOf []⟩
def p173_3 (F179 : FT179) : (R : Type) → Int → (List Int) → (List Int) → (List Int) → (Int → (List Int) → (List Int) → (List Int) → Option R) → ((List Int) → (List Int) → Option R) → Option R := fun R x1 x2 x3 x4 kc k0 =>
let v5 := (decide (x1 < (16 : Int)));
(match v5 with
| true => let v6 := (IntKind.i64.wrap ((4 : Int) * x1));
(match (bnd v6 (64 : Int)) with
| true => let v7 := (List.getD x2 (Int.toNat v6) (0 : Int));
let v8 := (IntKind.i64.wrap ((4 : Int) * x1));
let v9 := (IntKind.i64.wrap (v8 + (1 : Int)));
(match (bnd v9 (64 : Int)) with
| true => let v10 := (List.getD x2 (Int.toNat v9) (0 : Int));
let v11 := (IntKind.i64.wrap ((4 : Int) * x1));
let v12 := (IntKind.i64.wrap (v11 + (2 : Int)));
(match (bnd v12 (64 : Int)) with
| true => let v13 := (List.getD x2 (Int.toNat v12) (0 : Int));
let v14 := (IntKind.i64.wrap ((4 : Int) * x1));
let v15 := (IntKind.i64.wrap (v14 + (3 : Int)));
(match (bnd v15 (64 : Int)) with
| true => let v16 := (List.getD x2 (Int.toNat v15) (0 : Int));
let v17 : (List Int) := (List.set (List.set (List.set (List.set (List.replicate 4 (0 : Int)) 0 v7) 1 v10) 2 v13) 3 v16);
F179 R v17 fun y18 =>
(match (bnd x1 (64 : Int)) with
| true => let v19 : (List Int) := (List.set x4 (Int.toNat x1) y18);
let v20 := (IntKind.i64.wrap (x1 + (1 : Int)));
kc v20 x2 x3 v19
| false => none)
| false => none)
| false => none)
| false => none)
| false => none)
| false => k0 x3 x4)
theorem q173_3 (F179 : FT179) (F180 : FT180) (F181 : FT181) (L3 : LT173_3) (L7 : LT173_7) (R : Type) (x : HT (le173_3 L3).H) (kc : HT (le173_3 L3).H → Option R) (ke : KT R (le173_3 L3).exs) :
  exec (e173 F179 F180 F181 L3 L7 R) (lcode 3 (codeOf Tryz.f173)) (stOf (le173_3 L3).H x 3) (roundK (le173_3 L3).H (le173_3 L3).exs kc ke) =
    p173_3 F179 R x.1 x.2.1 x.2.2.1 x.2.2.2.1 (fun x1 x2 x3 x4 => kc (x1, x2, x3, x4, ())) (fun y1 y2 => ke.1 (y1, y2, ())) := by kernel_rfl
noncomputable def G173_3 : Nat → LT173_3
  | 0 => fun _ _ _ _ _ _ => none
  | n + 1 => fun R x1 x2 x3 x4 k0 => p173_3 F179 R x1 x2 x3 x4 (fun x1 x2 x3 x4 => G173_3 n R x1 x2 x3 x4 k0) k0
def p173_7 (F180 : FT180) (F181 : FT181) : (R : Type) → Int → (List Int) → (List Int) → (Int → (List Int) → (List Int) → Option R) → ((List Int) → (List Int) → Option R) → Option R := fun R x1 x2 x3 kc k0 =>
let v4 := (decide (x1 < (64 : Int)));
(match v4 with
| true => let v5 := (IntKind.i64.wrap (x1 - (2 : Int)));
(match (bnd v5 (64 : Int)) with
| true => let v6 := (List.getD x3 (Int.toNat v5) (0 : Int));
F180 R v6 fun y7 =>
let v8 := (IntKind.i64.wrap (x1 - (7 : Int)));
(match (bnd v8 (64 : Int)) with
| true => let v9 := (List.getD x3 (Int.toNat v8) (0 : Int));
let v10 := (IntKind.u32.wrap (y7 + v9));
let v11 := (IntKind.i64.wrap (x1 - (15 : Int)));
(match (bnd v11 (64 : Int)) with
| true => let v12 := (List.getD x3 (Int.toNat v11) (0 : Int));
F181 R v12 fun y13 =>
let v14 := (IntKind.u32.wrap (v10 + y13));
let v15 := (IntKind.i64.wrap (x1 - (16 : Int)));
(match (bnd v15 (64 : Int)) with
| true => let v16 := (List.getD x3 (Int.toNat v15) (0 : Int));
let v17 := (IntKind.u32.wrap (v14 + v16));
(match (bnd x1 (64 : Int)) with
| true => let v18 : (List Int) := (List.set x3 (Int.toNat x1) v17);
let v19 := (IntKind.i64.wrap (x1 + (1 : Int)));
kc v19 x2 v18
| false => none)
| false => none)
| false => none)
| false => none)
| false => none)
| false => k0 x2 x3)
theorem q173_7 (F179 : FT179) (F180 : FT180) (F181 : FT181) (L3 : LT173_3) (L7 : LT173_7) (R : Type) (x : HT (le173_7 L7).H) (kc : HT (le173_7 L7).H → Option R) (ke : KT R (le173_7 L7).exs) :
  exec (e173 F179 F180 F181 L3 L7 R) (lcode 7 (codeOf Tryz.f173)) (stOf (le173_7 L7).H x 3) (roundK (le173_7 L7).H (le173_7 L7).exs kc ke) =
    p173_7 F180 F181 R x.1 x.2.1 x.2.2.1 (fun x1 x2 x3 => kc (x1, x2, x3, ())) (fun y1 y2 => ke.1 (y1, y2, ())) := by kernel_rfl
noncomputable def G173_7 : Nat → LT173_7
  | 0 => fun _ _ _ _ _ => none
  | n + 1 => fun R x1 x2 x3 k0 => p173_7 F180 F181 R x1 x2 x3 (fun x1 x2 x3 => G173_7 n R x1 x2 x3 k0) k0
def p173 (L3 : LT173_3) (L7 : LT173_7) : FT173 := fun R a0 k =>
L3 R (0 : Int) a0 (List.replicate 64 (0 : Int)) (List.replicate 64 (0 : Int)) (fun x1 x2 =>
L7 R (16 : Int) x1 x2 (fun x3 x4 =>
k x4))
theorem q173 (F179 : FT179) (F180 : FT180) (F181 : FT181) (L3 : LT173_3) (L7 : LT173_7) (F : FT173) (R : Type) (x : AT (en173 F).ins) (k : RT (en173 F).outs → PT (en173 F).ins → Option R) :
  xfun (e173 F179 F180 F181 L3 L7 R) (codeOf Tryz.f173) res173 (avs (en173 F).ins x) (finK (en173 F).outs (en173 F).ins k) = p173 L3 L7 R x.1 (fun y1 => k (y1, ()) ()) := by kernel_rfl
noncomputable def F173 : FT173 := p173 (G173_3 FUEL) (G173_7 FUEL)
theorem env173 (R : Type) : EnvOK Tryz.prog (e173 F179 F180 F181 (G173_3 FUEL) (G173_7 FUEL) R) := ⟨tabOK, eqOK, callOf_ok (allE_cons ok179 (allE_cons ok180 (allE_cons ok181 allE_nil))), noIns, inlOK_nil⟩
noncomputable def T173_3 : (R : Type) → HT (le173_3 (G173_3 FUEL)).H → (HT (le173_3 (G173_3 FUEL)).H → Option R) → KT R (le173_3 (G173_3 FUEL)).exs → Option R := fun R x kc ke => p173_3 F179 R x.1 x.2.1 x.2.2.1 x.2.2.2.1 (fun x1 x2 x3 x4 => kc (x1, x2, x3, x4, ())) (fun y1 y2 => ke.1 (y1, y2, ()))
theorem it173_3 : ∀ (n : Nat) (R : Type) (x : HT (le173_3 (G173_3 FUEL)).H) (ke : KT R (le173_3 (G173_3 FUEL)).exs), iter T173_3 n R x ke = G173_3 n R x.1 x.2.1 x.2.2.1 x.2.2.2.1 (fun y1 y2 => ke.1 (y1, y2, ())) := by
  intro n
  induction n with
  | zero => intro R x ke; rfl
  | succ n ih =>
    intro R x ke
    show T173_3 R x (fun x' => iter T173_3 n R x' ke) ke = _
    rw [show (fun x' => iter T173_3 n R x' ke) = fun x => G173_3 n R x.1 x.2.1 x.2.2.1 x.2.2.2.1 (fun y1 y2 => ke.1 (y1, y2, ())) from funext fun x' => ih R x' ke]
    rfl
theorem lok173_3 : (le173_3 (G173_3 FUEL)).OK Tryz.prog 0 61 (lcode 3 (codeOf Tryz.f173)) := fun R x ke r h =>
  iter_sound (fun R => e173 F179 F180 F181 (G173_3 FUEL) (G173_7 FUEL) R) 0 61 (fun _ => rfl) (fun _ => rfl) (fun R => env173 R) mixed (by
    intro R
    rw [show loopsOf (lcode 3 (codeOf Tryz.f173)) = [] from by kernel_rfl]
    exact allM_nil) (T := T173_3) (fun R x kc ke => q173_3 F179 F180 F181 (G173_3 FUEL) (G173_7 FUEL) R x kc ke) FUEL R x ke r ((it173_3 FUEL R x ke).trans h)
noncomputable def T173_7 : (R : Type) → HT (le173_7 (G173_7 FUEL)).H → (HT (le173_7 (G173_7 FUEL)).H → Option R) → KT R (le173_7 (G173_7 FUEL)).exs → Option R := fun R x kc ke => p173_7 F180 F181 R x.1 x.2.1 x.2.2.1 (fun x1 x2 x3 => kc (x1, x2, x3, ())) (fun y1 y2 => ke.1 (y1, y2, ()))
theorem it173_7 : ∀ (n : Nat) (R : Type) (x : HT (le173_7 (G173_7 FUEL)).H) (ke : KT R (le173_7 (G173_7 FUEL)).exs), iter T173_7 n R x ke = G173_7 n R x.1 x.2.1 x.2.2.1 (fun y1 y2 => ke.1 (y1, y2, ())) := by
  intro n
  induction n with
  | zero => intro R x ke; rfl
  | succ n ih =>
    intro R x ke
    show T173_7 R x (fun x' => iter T173_7 n R x' ke) ke = _
    rw [show (fun x' => iter T173_7 n R x' ke) = fun x => G173_7 n R x.1 x.2.1 x.2.2.1 (fun y1 y2 => ke.1 (y1, y2, ())) from funext fun x' => ih R x' ke]
    rfl
theorem lok173_7 : (le173_7 (G173_7 FUEL)).OK Tryz.prog 0 61 (lcode 7 (codeOf Tryz.f173)) := fun R x ke r h =>
  iter_sound (fun R => e173 F179 F180 F181 (G173_3 FUEL) (G173_7 FUEL) R) 0 61 (fun _ => rfl) (fun _ => rfl) (fun R => env173 R) mixed (by
    intro R
    rw [show loopsOf (lcode 7 (codeOf Tryz.f173)) = [] from by kernel_rfl]
    exact allM_nil) (T := T173_7) (fun R x kc ke => q173_7 F179 F180 F181 (G173_3 FUEL) (G173_7 FUEL) R x kc ke) FUEL R x ke r ((it173_7 FUEL R x ke).trans h)
theorem ok173 : (en173 F173).OK Tryz.prog :=
  ent_ok (Ef := fun R => e173 F179 F180 F181 (G173_3 FUEL) (G173_7 FUEL) R) (fun R => env173 R) mixed Tryz.func173 (body := codeOf Tryz.f173) (by kernel_rfl) (by kernel_rfl) (np := 0) (nt := 61) (fun _ => rfl) (fun _ => rfl) (by kernel_rfl) (res := res173) (by kernel_rfl) (fun _ => rfl) (fun _ => Nat.le_of_ble_eq_true rfl) (by
    intro R
    rw [show loopsOf (codeOf Tryz.f173) = [lcode 3 (codeOf Tryz.f173), lcode 7 (codeOf Tryz.f173)] from by kernel_rfl]
    exact (allM_cons (loop_ok2 (e := le173_3 (G173_3 FUEL)) rfl rfl lok173_3) (allM_cons (loop_ok2 (e := le173_7 (G173_7 FUEL)) rfl rfl lok173_7) allM_nil))) (fun R x k => q173 F179 F180 F181 (G173_3 FUEL) (G173_7 FUEL) F173 R x k)
abbrev FT175 : Type 1 := (R : Type) → Int → (Int → Option R) → Option R
def en175 (F : FT175) : Ent := ⟨175, [(false, (.int .i64))], [(false, (.int .u32))], fun R x k => F R x.1 (fun y1 => k (y1, ()) ())⟩
def res175 : List (ResultVar × TypeId × Bool) := [(.tmp 2, 84, false)]
noncomputable def e175 (R : Type) : Env R := ⟨TT, EQT, 0, 12, ownOf [], callOf [] R, loopOf [] R, [], inlOf []⟩
def p175 : FT175 := fun R a0 k =>
let v1 := (decide (a0 < (0 : Int)));
(match v1 with
| true => k (0 : Int)
| false => let v2 := (decide (a0 > (63 : Int)));
(match v2 with
| true => k (0 : Int)
| false => let v3 : (List Int) := (List.set (List.set (List.set (List.set (List.set (List.set (List.set (List.set (List.set (List.set (List.set (List.set (List.set (List.set (List.set (List.set (List.set (List.set (List.set (List.set (List.set (List.set (List.set (List.set (List.set (List.set (List.set (List.set (List.set (List.set (List.set (List.set (List.set (List.set (List.set (List.set (List.set (List.set (List.set (List.set (List.set (List.set (List.set (List.set (List.set (List.set (List.set (List.set (List.set (List.set (List.set (List.set (List.set (List.set (List.set (List.set (List.set (List.set (List.set (List.set (List.set (List.set (List.set (List.set (List.replicate 64 (0 : Int)) 0 (1116352408 : Int)) 1 (1899447441 : Int)) 2 (3049323471 : Int)) 3 (3921009573 : Int)) 4 (961987163 : Int)) 5 (1508970993 : Int)) 6 (2453635748 : Int)) 7 (2870763221 : Int)) 8 (3624381080 : Int)) 9 (310598401 : Int)) 10 (607225278 : Int)) 11 (1426881987 : Int)) 12 (1925078388 : Int)) 13 (2162078206 : Int)) 14 (2614888103 : Int)) 15 (3248222580 : Int)) 16 (3835390401 : Int)) 17 (4022224774 : Int)) 18 (264347078 : Int)) 19 (604807628 : Int)) 20 (770255983 : Int)) 21 (1249150122 : Int)) 22 (1555081692 : Int)) 23 (1996064986 : Int)) 24 (2554220882 : Int)) 25 (2821834349 : Int)) 26 (2952996808 : Int)) 27 (3210313671 : Int)) 28 (3336571891 : Int)) 29 (3584528711 : Int)) 30 (113926993 : Int)) 31 (338241895 : Int)) 32 (666307205 : Int)) 33 (773529912 : Int)) 34 (1294757372 : Int)) 35 (1396182291 : Int)) 36 (1695183700 : Int)) 37 (1986661051 : Int)) 38 (2177026350 : Int)) 39 (2456956037 : Int)) 40 (2730485921 : Int)) 41 (2820302411 : Int)) 42 (3259730800 : Int)) 43 (3345764771 : Int)) 44 (3516065817 : Int)) 45 (3600352804 : Int)) 46 (4094571909 : Int)) 47 (275423344 : Int)) 48 (430227734 : Int)) 49 (506948616 : Int)) 50 (659060556 : Int)) 51 (883997877 : Int)) 52 (958139571 : Int)) 53 (1322822218 : Int)) 54 (1537002063 : Int)) 55 (1747873779 : Int)) 56 (1955562222 : Int)) 57 (2024104815 : Int)) 58 (2227730452 : Int)) 59 (2361852424 : Int)) 60 (2428436474 : Int)) 61 (2756734187 : Int)) 62 (3204031479 : Int)) 63 (3329325298 : Int));
(match (bnd a0 (64 : Int)) with
| true => let v4 := (List.getD v3 (Int.toNat a0) (0 : Int));
k v4
| false => none)))
theorem q175 (F : FT175) (R : Type) (x : AT (en175 F).ins) (k : RT (en175 F).outs → PT (en175 F).ins → Option R) :
  xfun (e175 R) (codeOf Tryz.f175) res175 (avs (en175 F).ins x) (finK (en175 F).outs (en175 F).ins k) = p175 R x.1 (fun y1 => k (y1, ()) ()) := by kernel_rfl
noncomputable def F175 : FT175 := p175
theorem env175 (R : Type) : EnvOK Tryz.prog (e175 R) := ⟨tabOK, eqOK, callOf_ok allE_nil, noIns, inlOK_nil⟩
theorem ok175 : (en175 F175).OK Tryz.prog :=
  ent_ok (Ef := fun R => e175 R) (fun R => env175 R) mixed Tryz.func175 (body := codeOf Tryz.f175) (by kernel_rfl) (by kernel_rfl) (np := 0) (nt := 12) (fun _ => rfl) (fun _ => rfl) (by kernel_rfl) (res := res175) (by kernel_rfl) (fun _ => rfl) (fun _ => Nat.le_of_ble_eq_true rfl) (by
    intro R
    rw [show loopsOf (codeOf Tryz.f175) = [] from by kernel_rfl]
    exact allM_nil) (fun R x k => q175 F175 R x k)
abbrev FT182 : Type 1 := (R : Type) → Int → Int → Int → Int → (Int → Option R) → Option R
def en182 (F : FT182) : Ent := ⟨182, [(false, (.int .u32)), (false, (.int .i64)), (false, (.int .i64)), (false, (.int .i64))], [(false, (.int .u32))], fun R x k => F R x.1 x.2.1 x.2.2.1 x.2.2.2.1 (fun y1 => k (y1, ()) ())⟩
def res182 : List (ResultVar × TypeId × Bool) := [(.tmp 8, 84, false)]
noncomputable def e182 (F190 : FT190) (R : Type) : Env R := ⟨TT, EQT, 0, 20, ownOf [], callOf [en190 F190] R, loopOf [] R, [], inlOf []⟩
def p182 (F190 : FT190) : FT182 := fun R a0 a1 a2 a3 k =>
F190 R a0 a1 fun y1 =>
F190 R a0 a2 fun y2 =>
let v3 := (ixor .u32 y1 y2);
F190 R a0 a3 fun y4 =>
let v5 := (ixor .u32 v3 y4);
k v5
theorem q182 (F190 : FT190) (F : FT182) (R : Type) (x : AT (en182 F).ins) (k : RT (en182 F).outs → PT (en182 F).ins → Option R) :
  xfun (e182 F190 R) (codeOf Tryz.f182) res182 (avs (en182 F).ins x) (finK (en182 F).outs (en182 F).ins k) = p182 F190 R x.1 x.2.1 x.2.2.1 x.2.2.2.1 (fun y1 => k (y1, ()) ()) := by kernel_rfl
noncomputable def F182 : FT182 := p182 F190
theorem env182 (R : Type) : EnvOK Tryz.prog (e182 F190 R) := ⟨tabOK, eqOK, callOf_ok (allE_cons ok190 allE_nil), noIns, inlOK_nil⟩
theorem ok182 : (en182 F182).OK Tryz.prog :=
  ent_ok (Ef := fun R => e182 F190 R) (fun R => env182 R) mixed Tryz.func182 (body := codeOf Tryz.f182) (by kernel_rfl) (by kernel_rfl) (np := 0) (nt := 20) (fun _ => rfl) (fun _ => rfl) (by kernel_rfl) (res := res182) (by kernel_rfl) (fun _ => rfl) (fun _ => Nat.le_of_ble_eq_true rfl) (by
    intro R
    rw [show loopsOf (codeOf Tryz.f182) = [] from by kernel_rfl]
    exact allM_nil) (fun R x k => q182 F190 F182 R x k)
abbrev FT183 : Type 1 := (R : Type) → Int → Int → Int → (Int → Option R) → Option R
def en183 (F : FT183) : Ent := ⟨183, [(false, (.int .u32)), (false, (.int .u32)), (false, (.int .u32))], [(false, (.int .u32))], fun R x k => F R x.1 x.2.1 x.2.2.1 (fun y1 => k (y1, ()) ())⟩
def res183 : List (ResultVar × TypeId × Bool) := [(.tmp 6, 84, false)]
noncomputable def e183 (R : Type) : Env R := ⟨TT, EQT, 0, 15, ownOf [], callOf [] R, loopOf [] R, [], inlOf []⟩
def p183 : FT183 := fun R a0 a1 a2 k =>
let v1 := (iand .u32 a0 a1);
let v2 := (IntKind.u32.wrap ((4294967295 : Int) - a0));
let v3 := (iand .u32 v2 a2);
let v4 := (ior .u32 v1 v3);
k v4
theorem q183 (F : FT183) (R : Type) (x : AT (en183 F).ins) (k : RT (en183 F).outs → PT (en183 F).ins → Option R) :
  xfun (e183 R) (codeOf Tryz.f183) res183 (avs (en183 F).ins x) (finK (en183 F).outs (en183 F).ins k) = p183 R x.1 x.2.1 x.2.2.1 (fun y1 => k (y1, ()) ()) := by kernel_rfl
noncomputable def F183 : FT183 := p183
theorem env183 (R : Type) : EnvOK Tryz.prog (e183 R) := ⟨tabOK, eqOK, callOf_ok allE_nil, noIns, inlOK_nil⟩
theorem ok183 : (en183 F183).OK Tryz.prog :=
  ent_ok (Ef := fun R => e183 R) (fun R => env183 R) mixed Tryz.func183 (body := codeOf Tryz.f183) (by kernel_rfl) (by kernel_rfl) (np := 0) (nt := 15) (fun _ => rfl) (fun _ => rfl) (by kernel_rfl) (res := res183) (by kernel_rfl) (fun _ => rfl) (fun _ => Nat.le_of_ble_eq_true rfl) (by
    intro R
    rw [show loopsOf (codeOf Tryz.f183) = [] from by kernel_rfl]
    exact allM_nil) (fun R x k => q183 F183 R x k)
abbrev FT184 : Type 1 := (R : Type) → Int → Int → Int → (Int → Option R) → Option R
def en184 (F : FT184) : Ent := ⟨184, [(false, (.int .u32)), (false, (.int .u32)), (false, (.int .u32))], [(false, (.int .u32))], fun R x k => F R x.1 x.2.1 x.2.2.1 (fun y1 => k (y1, ()) ())⟩
def res184 : List (ResultVar × TypeId × Bool) := [(.tmp 6, 84, false)]
noncomputable def e184 (R : Type) : Env R := ⟨TT, EQT, 0, 18, ownOf [], callOf [] R, loopOf [] R, [], inlOf []⟩
def p184 : FT184 := fun R a0 a1 a2 k =>
let v1 := (iand .u32 a0 a1);
let v2 := (iand .u32 a0 a2);
let v3 := (ior .u32 v1 v2);
let v4 := (iand .u32 a1 a2);
let v5 := (ior .u32 v3 v4);
k v5
theorem q184 (F : FT184) (R : Type) (x : AT (en184 F).ins) (k : RT (en184 F).outs → PT (en184 F).ins → Option R) :
  xfun (e184 R) (codeOf Tryz.f184) res184 (avs (en184 F).ins x) (finK (en184 F).outs (en184 F).ins k) = p184 R x.1 x.2.1 x.2.2.1 (fun y1 => k (y1, ()) ()) := by kernel_rfl
noncomputable def F184 : FT184 := p184
theorem env184 (R : Type) : EnvOK Tryz.prog (e184 R) := ⟨tabOK, eqOK, callOf_ok allE_nil, noIns, inlOK_nil⟩
theorem ok184 : (en184 F184).OK Tryz.prog :=
  ent_ok (Ef := fun R => e184 R) (fun R => env184 R) mixed Tryz.func184 (body := codeOf Tryz.f184) (by kernel_rfl) (by kernel_rfl) (np := 0) (nt := 18) (fun _ => rfl) (fun _ => rfl) (by kernel_rfl) (res := res184) (by kernel_rfl) (fun _ => rfl) (fun _ => Nat.le_of_ble_eq_true rfl) (by
    intro R
    rw [show loopsOf (codeOf Tryz.f184) = [] from by kernel_rfl]
    exact allM_nil) (fun R x k => q184 F184 R x k)
abbrev FT174 : Type 1 := (R : Type) → (List Int) → Int → Int → ((List Int) → Option R) → Option R
def en174 (F : FT174) : Ent := ⟨174, [(false, (.arr 8 (.int .u32))), (false, (.int .u32)), (false, (.int .u32))], [(false, (.arr 8 (.int .u32)))], fun R x k => F R x.1 x.2.1 x.2.2.1 (fun y1 => k (y1, ()) ())⟩
def res174 : List (ResultVar × TypeId × Bool) := [(.cell 6 186, 186, false)]
noncomputable def e174 (F182 : FT182) (F183 : FT183) (F184 : FT184) (R : Type) : Env R := ⟨TT, EQT, 0, 58, ownOf [], callOf [en182 F182, en183 F183, en184 F184] R, loopOf [] R, [], inlOf []⟩
def p174 (F182 : FT182) (F183 : FT183) (F184 : FT184) : FT174 := fun R a0 a1 a2 k =>
let v1 := (List.getD a0 7 (0 : Int));
let v2 := (List.getD a0 4 (0 : Int));
F182 R v2 (6 : Int) (11 : Int) (25 : Int) fun y3 =>
let v4 := (IntKind.u32.wrap (v1 + y3));
let v5 := (List.getD a0 4 (0 : Int));
let v6 := (List.getD a0 5 (0 : Int));
let v7 := (List.getD a0 6 (0 : Int));
F183 R v5 v6 v7 fun y8 =>
let v9 := (IntKind.u32.wrap (v4 + y8));
let v10 := (IntKind.u32.wrap (v9 + a2));
let v11 := (IntKind.u32.wrap (v10 + a1));
let v12 := (List.getD a0 0 (0 : Int));
F182 R v12 (2 : Int) (13 : Int) (22 : Int) fun y13 =>
let v14 := (List.getD a0 0 (0 : Int));
let v15 := (List.getD a0 1 (0 : Int));
let v16 := (List.getD a0 2 (0 : Int));
F184 R v14 v15 v16 fun y17 =>
let v18 := (IntKind.u32.wrap (y13 + y17));
let v19 := (IntKind.u32.wrap (v11 + v18));
let v20 := (List.getD a0 0 (0 : Int));
let v21 := (List.getD a0 1 (0 : Int));
let v22 := (List.getD a0 2 (0 : Int));
let v23 := (List.getD a0 3 (0 : Int));
let v24 := (IntKind.u32.wrap (v23 + v11));
let v25 := (List.getD a0 4 (0 : Int));
let v26 := (List.getD a0 5 (0 : Int));
let v27 := (List.getD a0 6 (0 : Int));
let v28 : (List Int) := (List.set (List.set (List.set (List.set (List.set (List.set (List.set (List.set (List.replicate 8 (0 : Int)) 0 v19) 1 v20) 2 v21) 3 v22) 4 v24) 5 v25) 6 v26) 7 v27);
k v28
theorem q174 (F182 : FT182) (F183 : FT183) (F184 : FT184) (F : FT174) (R : Type) (x : AT (en174 F).ins) (k : RT (en174 F).outs → PT (en174 F).ins → Option R) :
  xfun (e174 F182 F183 F184 R) (codeOf Tryz.f174) res174 (avs (en174 F).ins x) (finK (en174 F).outs (en174 F).ins k) = p174 F182 F183 F184 R x.1 x.2.1 x.2.2.1 (fun y1 => k (y1, ()) ()) := by kernel_rfl
noncomputable def F174 : FT174 := p174 F182 F183 F184
theorem env174 (R : Type) : EnvOK Tryz.prog (e174 F182 F183 F184 R) := ⟨tabOK, eqOK, callOf_ok (allE_cons ok182 (allE_cons ok183 (allE_cons ok184 allE_nil))), noIns, inlOK_nil⟩
theorem ok174 : (en174 F174).OK Tryz.prog :=
  ent_ok (Ef := fun R => e174 F182 F183 F184 R) (fun R => env174 R) mixed Tryz.func174 (body := codeOf Tryz.f174) (by kernel_rfl) (by kernel_rfl) (np := 0) (nt := 58) (fun _ => rfl) (fun _ => rfl) (by kernel_rfl) (res := res174) (by kernel_rfl) (fun _ => rfl) (fun _ => Nat.le_of_ble_eq_true rfl) (by
    intro R
    rw [show loopsOf (codeOf Tryz.f174) = [] from by kernel_rfl]
    exact allM_nil) (fun R x k => q174 F182 F183 F184 F174 R x k)
abbrev FT167 : Type 1 := (R : Type) → (List Int) → (List Int) → ((List Int) → Option R) → Option R
def en167 (F : FT167) : Ent := ⟨167, [(false, (.arr 8 (.int .u32))), (false, (.arr 64 (.int .u8)))], [(false, (.arr 8 (.int .u32)))], fun R x k => F R x.1 x.2.1 (fun y1 => k (y1, ()) ())⟩
def res167 : List (ResultVar × TypeId × Bool) := [(.cell 4 186, 186, false)]
abbrev LT167_4 : Type 1 := (R : Type) → Int → (List Int) → (List Int) → (List Int) → (List Int) → ((List Int) → (List Int) → (List Int) → Option R) → Option R
def le167_4 (L : LT167_4) : LEnt := ⟨4, [.fix 2 (.ptr 0 [] (.arr 8 (.int .u32))), .fix 4 (.ptr 2 [] (.arr 8 (.int .u32))), .fix 5 (.ptr 3 [] (.arr 64 (.int .u32))), .fix 6 (.ptr 4 [] (.arr 8 (.int .u32))), .val 7 (.int .i64), .var 0 (.arr 8 (.int .u32)) false, .var 2 (.arr 8 (.int .u32)) false, .var 3 (.arr 64 (.int .u32)) false, .var 4 (.arr 8 (.int .u32)) false], 5, [(.exit 0, [.fix 2 (.ptr 0 [] (.arr 8 (.int .u32))), .fix 4 (.ptr 2 [] (.arr 8 (.int .u32))), .fix 6 (.ptr 4 [] (.arr 8 (.int .u32))), .var 0 (.arr 8 (.int .u32)) false, .var 2 (.arr 8 (.int .u32)) false, .var 4 (.arr 8 (.int .u32)) false])], fun R x ke => L R x.1 x.2.1 x.2.2.1 x.2.2.2.1 x.2.2.2.2.1 (fun y1 y2 y3 => ke.1 (y1, y2, y3, ()))⟩
abbrev LT167_8 : Type 1 := (R : Type) → Int → (List Int) → (List Int) → (List Int) → ((List Int) → (List Int) → Option R) → Option R
def le167_8 (L : LT167_8) : LEnt := ⟨8, [.fix 2 (.ptr 0 [] (.arr 8 (.int .u32))), .fix 4 (.ptr 2 [] (.arr 8 (.int .u32))), .fix 6 (.ptr 4 [] (.arr 8 (.int .u32))), .val 8 (.int .i64), .var 0 (.arr 8 (.int .u32)) false, .var 2 (.arr 8 (.int .u32)) false, .var 4 (.arr 8 (.int .u32)) false], 5, [(.exit 2, [.fix 4 (.ptr 2 [] (.arr 8 (.int .u32))), .fix 6 (.ptr 4 [] (.arr 8 (.int .u32))), .var 2 (.arr 8 (.int .u32)) false, .var 4 (.arr 8 (.int .u32)) false])], fun R x ke => L R x.1 x.2.1 x.2.2.1 x.2.2.2.1 (fun y1 y2 => ke.1 (y1, y2, ()))⟩
noncomputable def e167 (F173 : FT173) (F174 : FT174) (F175 : FT175) (L4 : LT167_4) (L8 : LT167_8) (R : Type) : Env R := ⟨TT, EQT, 0, 37, ownOf [], callOf [en173 F173, en174 F174, en175 F175] R, loopOf [le167_4 L4, le167_8 L8] R, [], inlOf []⟩
def p167_4 (F174 : FT174) (F175 : FT175) : (R : Type) → Int → (List Int) → (List Int) → (List Int) → (List Int) → (Int → (List Int) → (List Int) → (List Int) → (List Int) → Option R) → ((List Int) → (List Int) → (List Int) → Option R) → Option R := fun R x1 x2 x3 x4 x5 kc k0 =>
let v6 := (decide (x1 < (64 : Int)));
(match v6 with
| true => (match (bnd x1 (64 : Int)) with
| true => let v7 := (List.getD x4 (Int.toNat x1) (0 : Int));
F175 R x1 fun y8 =>
F174 R x5 v7 y8 fun y9 =>
let v10 := (IntKind.i64.wrap (x1 + (1 : Int)));
kc v10 x2 x3 x4 y9
| false => none)
| false => k0 x2 x3 x5)
theorem q167_4 (F173 : FT173) (F174 : FT174) (F175 : FT175) (L4 : LT167_4) (L8 : LT167_8) (R : Type) (x : HT (le167_4 L4).H) (kc : HT (le167_4 L4).H → Option R) (ke : KT R (le167_4 L4).exs) :
  exec (e167 F173 F174 F175 L4 L8 R) (lcode 4 (codeOf Tryz.f167)) (stOf (le167_4 L4).H x 5) (roundK (le167_4 L4).H (le167_4 L4).exs kc ke) =
    p167_4 F174 F175 R x.1 x.2.1 x.2.2.1 x.2.2.2.1 x.2.2.2.2.1 (fun x1 x2 x3 x4 x5 => kc (x1, x2, x3, x4, x5, ())) (fun y1 y2 y3 => ke.1 (y1, y2, y3, ())) := by kernel_rfl
noncomputable def G167_4 : Nat → LT167_4
  | 0 => fun _ _ _ _ _ _ _ => none
  | n + 1 => fun R x1 x2 x3 x4 x5 k0 => p167_4 F174 F175 R x1 x2 x3 x4 x5 (fun x1 x2 x3 x4 x5 => G167_4 n R x1 x2 x3 x4 x5 k0) k0
def p167_8 : (R : Type) → Int → (List Int) → (List Int) → (List Int) → (Int → (List Int) → (List Int) → (List Int) → Option R) → ((List Int) → (List Int) → Option R) → Option R := fun R x1 x2 x3 x4 kc k0 =>
let v5 := (decide (x1 < (8 : Int)));
(match v5 with
| true => (match (bnd x1 (8 : Int)) with
| true => let v6 := (List.getD x4 (Int.toNat x1) (0 : Int));
(match (bnd x1 (8 : Int)) with
| true => let v7 := (List.getD x2 (Int.toNat x1) (0 : Int));
let v8 := (IntKind.u32.wrap (v6 + v7));
(match (bnd x1 (8 : Int)) with
| true => let v9 : (List Int) := (List.set x4 (Int.toNat x1) v8);
let v10 := (IntKind.i64.wrap (x1 + (1 : Int)));
kc v10 x2 x3 v9
| false => none)
| false => none)
| false => none)
| false => k0 x3 x4)
theorem q167_8 (F173 : FT173) (F174 : FT174) (F175 : FT175) (L4 : LT167_4) (L8 : LT167_8) (R : Type) (x : HT (le167_8 L8).H) (kc : HT (le167_8 L8).H → Option R) (ke : KT R (le167_8 L8).exs) :
  exec (e167 F173 F174 F175 L4 L8 R) (lcode 8 (codeOf Tryz.f167)) (stOf (le167_8 L8).H x 5) (roundK (le167_8 L8).H (le167_8 L8).exs kc ke) =
    p167_8 R x.1 x.2.1 x.2.2.1 x.2.2.2.1 (fun x1 x2 x3 x4 => kc (x1, x2, x3, x4, ())) (fun y1 y2 => ke.1 (y1, y2, ())) := by kernel_rfl
noncomputable def G167_8 : Nat → LT167_8
  | 0 => fun _ _ _ _ _ _ => none
  | n + 1 => fun R x1 x2 x3 x4 k0 => p167_8 R x1 x2 x3 x4 (fun x1 x2 x3 x4 => G167_8 n R x1 x2 x3 x4 k0) k0
def p167 (F173 : FT173) (L4 : LT167_4) (L8 : LT167_8) : FT167 := fun R a0 a1 k =>
F173 R a1 fun y1 =>
L4 R (0 : Int) a0 (List.replicate 8 (0 : Int)) y1 a0 (fun x2 x3 x4 =>
L8 R (0 : Int) x2 x3 x4 (fun x5 x6 =>
k x6))
theorem q167 (F173 : FT173) (F174 : FT174) (F175 : FT175) (L4 : LT167_4) (L8 : LT167_8) (F : FT167) (R : Type) (x : AT (en167 F).ins) (k : RT (en167 F).outs → PT (en167 F).ins → Option R) :
  xfun (e167 F173 F174 F175 L4 L8 R) (codeOf Tryz.f167) res167 (avs (en167 F).ins x) (finK (en167 F).outs (en167 F).ins k) = p167 F173 L4 L8 R x.1 x.2.1 (fun y1 => k (y1, ()) ()) := by kernel_rfl
noncomputable def F167 : FT167 := p167 F173 (G167_4 FUEL) (G167_8 FUEL)
theorem env167 (R : Type) : EnvOK Tryz.prog (e167 F173 F174 F175 (G167_4 FUEL) (G167_8 FUEL) R) := ⟨tabOK, eqOK, callOf_ok (allE_cons ok173 (allE_cons ok174 (allE_cons ok175 allE_nil))), noIns, inlOK_nil⟩
noncomputable def T167_4 : (R : Type) → HT (le167_4 (G167_4 FUEL)).H → (HT (le167_4 (G167_4 FUEL)).H → Option R) → KT R (le167_4 (G167_4 FUEL)).exs → Option R := fun R x kc ke => p167_4 F174 F175 R x.1 x.2.1 x.2.2.1 x.2.2.2.1 x.2.2.2.2.1 (fun x1 x2 x3 x4 x5 => kc (x1, x2, x3, x4, x5, ())) (fun y1 y2 y3 => ke.1 (y1, y2, y3, ()))
theorem it167_4 : ∀ (n : Nat) (R : Type) (x : HT (le167_4 (G167_4 FUEL)).H) (ke : KT R (le167_4 (G167_4 FUEL)).exs), iter T167_4 n R x ke = G167_4 n R x.1 x.2.1 x.2.2.1 x.2.2.2.1 x.2.2.2.2.1 (fun y1 y2 y3 => ke.1 (y1, y2, y3, ())) := by
  intro n
  induction n with
  | zero => intro R x ke; rfl
  | succ n ih =>
    intro R x ke
    show T167_4 R x (fun x' => iter T167_4 n R x' ke) ke = _
    rw [show (fun x' => iter T167_4 n R x' ke) = fun x => G167_4 n R x.1 x.2.1 x.2.2.1 x.2.2.2.1 x.2.2.2.2.1 (fun y1 y2 y3 => ke.1 (y1, y2, y3, ())) from funext fun x' => ih R x' ke]
    rfl
theorem lok167_4 : (le167_4 (G167_4 FUEL)).OK Tryz.prog 0 37 (lcode 4 (codeOf Tryz.f167)) := fun R x ke r h =>
  iter_sound (fun R => e167 F173 F174 F175 (G167_4 FUEL) (G167_8 FUEL) R) 0 37 (fun _ => rfl) (fun _ => rfl) (fun R => env167 R) mixed (by
    intro R
    rw [show loopsOf (lcode 4 (codeOf Tryz.f167)) = [] from by kernel_rfl]
    exact allM_nil) (T := T167_4) (fun R x kc ke => q167_4 F173 F174 F175 (G167_4 FUEL) (G167_8 FUEL) R x kc ke) FUEL R x ke r ((it167_4 FUEL R x ke).trans h)
noncomputable def T167_8 : (R : Type) → HT (le167_8 (G167_8 FUEL)).H → (HT (le167_8 (G167_8 FUEL)).H → Option R) → KT R (le167_8 (G167_8 FUEL)).exs → Option R := fun R x kc ke => p167_8 R x.1 x.2.1 x.2.2.1 x.2.2.2.1 (fun x1 x2 x3 x4 => kc (x1, x2, x3, x4, ())) (fun y1 y2 => ke.1 (y1, y2, ()))
theorem it167_8 : ∀ (n : Nat) (R : Type) (x : HT (le167_8 (G167_8 FUEL)).H) (ke : KT R (le167_8 (G167_8 FUEL)).exs), iter T167_8 n R x ke = G167_8 n R x.1 x.2.1 x.2.2.1 x.2.2.2.1 (fun y1 y2 => ke.1 (y1, y2, ())) := by
  intro n
  induction n with
  | zero => intro R x ke; rfl
  | succ n ih =>
    intro R x ke
    show T167_8 R x (fun x' => iter T167_8 n R x' ke) ke = _
    rw [show (fun x' => iter T167_8 n R x' ke) = fun x => G167_8 n R x.1 x.2.1 x.2.2.1 x.2.2.2.1 (fun y1 y2 => ke.1 (y1, y2, ())) from funext fun x' => ih R x' ke]
    rfl
theorem lok167_8 : (le167_8 (G167_8 FUEL)).OK Tryz.prog 0 37 (lcode 8 (codeOf Tryz.f167)) := fun R x ke r h =>
  iter_sound (fun R => e167 F173 F174 F175 (G167_4 FUEL) (G167_8 FUEL) R) 0 37 (fun _ => rfl) (fun _ => rfl) (fun R => env167 R) mixed (by
    intro R
    rw [show loopsOf (lcode 8 (codeOf Tryz.f167)) = [] from by kernel_rfl]
    exact allM_nil) (T := T167_8) (fun R x kc ke => q167_8 F173 F174 F175 (G167_4 FUEL) (G167_8 FUEL) R x kc ke) FUEL R x ke r ((it167_8 FUEL R x ke).trans h)
theorem ok167 : (en167 F167).OK Tryz.prog :=
  ent_ok (Ef := fun R => e167 F173 F174 F175 (G167_4 FUEL) (G167_8 FUEL) R) (fun R => env167 R) mixed Tryz.func167 (body := codeOf Tryz.f167) (by kernel_rfl) (by kernel_rfl) (np := 0) (nt := 37) (fun _ => rfl) (fun _ => rfl) (by kernel_rfl) (res := res167) (by kernel_rfl) (fun _ => rfl) (fun _ => Nat.le_of_ble_eq_true rfl) (by
    intro R
    rw [show loopsOf (codeOf Tryz.f167) = [lcode 4 (codeOf Tryz.f167), lcode 8 (codeOf Tryz.f167)] from by kernel_rfl]
    exact (allM_cons (loop_ok2 (e := le167_4 (G167_4 FUEL)) rfl rfl lok167_4) (allM_cons (loop_ok2 (e := le167_8 (G167_8 FUEL)) rfl rfl lok167_8) allM_nil))) (fun R x k => q167 F173 F174 F175 (G167_4 FUEL) (G167_8 FUEL) F167 R x k)
abbrev FT157 : Type 1 := (R : Type) → (List Int) → (List (List Int)) → ((List Int) → Option R) → Option R
def en157 (F : FT157) : Ent := ⟨157, [(false, (.arr 8 (.int .u32))), (false, (.sl (.arr 64 (.int .u8))))], [(false, (.arr 8 (.int .u32)))], fun R x k => F R x.1 x.2.1 (fun y1 => k (y1, ()) ())⟩
def res157 : List (ResultVar × TypeId × Bool) := [(.cell 4 186, 186, false)]
abbrev LT157_2 : Type 1 := (R : Type) → (List (List Int)) → Int → (List Int) → (List Int) → ((List Int) → (List Int) → Option R) → Option R
def le157_2 (L : LT157_2) : LEnt := ⟨2, [.val 1 (.sl (.arr 64 (.int .u8))), .fix 2 (.ptr 0 [] (.arr 8 (.int .u32))), .fix 4 (.ptr 1 [] (.arr 8 (.int .u32))), .val 5 (.int .i64), .var 0 (.arr 8 (.int .u32)) false, .var 1 (.arr 8 (.int .u32)) false], 2, [(.exit 0, [.fix 2 (.ptr 0 [] (.arr 8 (.int .u32))), .fix 4 (.ptr 1 [] (.arr 8 (.int .u32))), .var 0 (.arr 8 (.int .u32)) false, .var 1 (.arr 8 (.int .u32)) false])], fun R x ke => L R x.1 x.2.1 x.2.2.1 x.2.2.2.1 (fun y1 y2 => ke.1 (y1, y2, ()))⟩
noncomputable def e157 (F167 : FT167) (L2 : LT157_2) (R : Type) : Env R := ⟨TT, EQT, 0, 19, ownOf [], callOf [en167 F167] R, loopOf [le157_2 L2] R, [], inlOf []⟩
def p157_2 (F167 : FT167) : (R : Type) → (List (List Int)) → Int → (List Int) → (List Int) → ((List (List Int)) → Int → (List Int) → (List Int) → Option R) → ((List Int) → (List Int) → Option R) → Option R := fun R x1 x2 x3 x4 kc k0 =>
let v5 := (List.length x1 : Int);
let v6 := (decide (x2 < v5));
(match v6 with
| true => (match (bnd x2 (List.length x1 : Int)) with
| true => let v7 : (List Int) := (List.getD x1 (Int.toNat x2) (List.replicate 64 (0 : Int)));
F167 R x3 v7 fun y8 =>
let v9 := (IntKind.i64.wrap (x2 + (1 : Int)));
kc x1 v9 y8 x4
| false => none)
| false => k0 x3 x4)
theorem q157_2 (F167 : FT167) (L2 : LT157_2) (R : Type) (x : HT (le157_2 L2).H) (kc : HT (le157_2 L2).H → Option R) (ke : KT R (le157_2 L2).exs) :
  exec (e157 F167 L2 R) (lcode 2 (codeOf Tryz.f157)) (stOf (le157_2 L2).H x 2) (roundK (le157_2 L2).H (le157_2 L2).exs kc ke) =
    p157_2 F167 R x.1 x.2.1 x.2.2.1 x.2.2.2.1 (fun x1 x2 x3 x4 => kc (x1, x2, x3, x4, ())) (fun y1 y2 => ke.1 (y1, y2, ())) := by kernel_rfl
noncomputable def G157_2 : Nat → LT157_2
  | 0 => fun _ _ _ _ _ _ => none
  | n + 1 => fun R x1 x2 x3 x4 k0 => p157_2 F167 R x1 x2 x3 x4 (fun x1 x2 x3 x4 => G157_2 n R x1 x2 x3 x4 k0) k0
def p157 (L2 : LT157_2) : FT157 := fun R a0 a1 k =>
L2 R a1 (0 : Int) a0 (List.replicate 8 (0 : Int)) (fun x1 x2 =>
k x1)
theorem q157 (F167 : FT167) (L2 : LT157_2) (F : FT157) (R : Type) (x : AT (en157 F).ins) (k : RT (en157 F).outs → PT (en157 F).ins → Option R) :
  xfun (e157 F167 L2 R) (codeOf Tryz.f157) res157 (avs (en157 F).ins x) (finK (en157 F).outs (en157 F).ins k) = p157 L2 R x.1 x.2.1 (fun y1 => k (y1, ()) ()) := by kernel_rfl
noncomputable def F157 : FT157 := p157 (G157_2 FUEL)
theorem env157 (R : Type) : EnvOK Tryz.prog (e157 F167 (G157_2 FUEL) R) := ⟨tabOK, eqOK, callOf_ok (allE_cons ok167 allE_nil), noIns, inlOK_nil⟩
noncomputable def T157_2 : (R : Type) → HT (le157_2 (G157_2 FUEL)).H → (HT (le157_2 (G157_2 FUEL)).H → Option R) → KT R (le157_2 (G157_2 FUEL)).exs → Option R := fun R x kc ke => p157_2 F167 R x.1 x.2.1 x.2.2.1 x.2.2.2.1 (fun x1 x2 x3 x4 => kc (x1, x2, x3, x4, ())) (fun y1 y2 => ke.1 (y1, y2, ()))
theorem it157_2 : ∀ (n : Nat) (R : Type) (x : HT (le157_2 (G157_2 FUEL)).H) (ke : KT R (le157_2 (G157_2 FUEL)).exs), iter T157_2 n R x ke = G157_2 n R x.1 x.2.1 x.2.2.1 x.2.2.2.1 (fun y1 y2 => ke.1 (y1, y2, ())) := by
  intro n
  induction n with
  | zero => intro R x ke; rfl
  | succ n ih =>
    intro R x ke
    show T157_2 R x (fun x' => iter T157_2 n R x' ke) ke = _
    rw [show (fun x' => iter T157_2 n R x' ke) = fun x => G157_2 n R x.1 x.2.1 x.2.2.1 x.2.2.2.1 (fun y1 y2 => ke.1 (y1, y2, ())) from funext fun x' => ih R x' ke]
    rfl
theorem lok157_2 : (le157_2 (G157_2 FUEL)).OK Tryz.prog 0 19 (lcode 2 (codeOf Tryz.f157)) := fun R x ke r h =>
  iter_sound (fun R => e157 F167 (G157_2 FUEL) R) 0 19 (fun _ => rfl) (fun _ => rfl) (fun R => env157 R) mixed (by
    intro R
    rw [show loopsOf (lcode 2 (codeOf Tryz.f157)) = [] from by kernel_rfl]
    exact allM_nil) (T := T157_2) (fun R x kc ke => q157_2 F167 (G157_2 FUEL) R x kc ke) FUEL R x ke r ((it157_2 FUEL R x ke).trans h)
theorem ok157 : (en157 F157).OK Tryz.prog :=
  ent_ok (Ef := fun R => e157 F167 (G157_2 FUEL) R) (fun R => env157 R) mixed Tryz.func157 (body := codeOf Tryz.f157) (by kernel_rfl) (by kernel_rfl) (np := 0) (nt := 19) (fun _ => rfl) (fun _ => rfl) (by kernel_rfl) (res := res157) (by kernel_rfl) (fun _ => rfl) (fun _ => Nat.le_of_ble_eq_true rfl) (by
    intro R
    rw [show loopsOf (codeOf Tryz.f157) = [lcode 2 (codeOf Tryz.f157)] from by kernel_rfl]
    exact (allM_cons (loop_ok2 (e := le157_2 (G157_2 FUEL)) rfl rfl lok157_2) allM_nil)) (fun R x k => q157 F167 (G157_2 FUEL) F157 R x k)
abbrev FT166 : Type 1 := (R : Type) → Int → ((List Int) → Option R) → Option R
def en166 (F : FT166) : Ent := ⟨166, [(false, (.int .u32))], [(false, (.arr 4 (.int .u8)))], fun R x k => F R x.1 (fun y1 => k (y1, ()) ())⟩
def res166 : List (ResultVar × TypeId × Bool) := [(.cell 2 209, 209, false)]
noncomputable def e166 (R : Type) : Env R := ⟨TT, EQT, 0, 18, ownOf [], callOf [] R, loopOf [] R, [], inlOf []⟩
def p166 : FT166 := fun R a0 k =>
let v1 := (IntKind.u32.wrap (Int.tdiv a0 (16777216 : Int)));
let v2 := (IntKind.u8.wrap v1);
let v3 := (IntKind.u32.wrap (Int.tdiv a0 (65536 : Int)));
let v4 := (Int.tmod v3 (256 : Int));
let v5 := (IntKind.u8.wrap v4);
let v6 := (IntKind.u32.wrap (Int.tdiv a0 (256 : Int)));
let v7 := (Int.tmod v6 (256 : Int));
let v8 := (IntKind.u8.wrap v7);
let v9 := (Int.tmod a0 (256 : Int));
let v10 := (IntKind.u8.wrap v9);
let v11 : (List Int) := (List.set (List.set (List.set (List.set (List.replicate 4 (0 : Int)) 0 v2) 1 v5) 2 v8) 3 v10);
k v11
theorem q166 (F : FT166) (R : Type) (x : AT (en166 F).ins) (k : RT (en166 F).outs → PT (en166 F).ins → Option R) :
  xfun (e166 R) (codeOf Tryz.f166) res166 (avs (en166 F).ins x) (finK (en166 F).outs (en166 F).ins k) = p166 R x.1 (fun y1 => k (y1, ()) ()) := by kernel_rfl
noncomputable def F166 : FT166 := p166
theorem env166 (R : Type) : EnvOK Tryz.prog (e166 R) := ⟨tabOK, eqOK, callOf_ok allE_nil, noIns, inlOK_nil⟩
theorem ok166 : (en166 F166).OK Tryz.prog :=
  ent_ok (Ef := fun R => e166 R) (fun R => env166 R) mixed Tryz.func166 (body := codeOf Tryz.f166) (by kernel_rfl) (by kernel_rfl) (np := 0) (nt := 18) (fun _ => rfl) (fun _ => rfl) (by kernel_rfl) (res := res166) (by kernel_rfl) (fun _ => rfl) (fun _ => Nat.le_of_ble_eq_true rfl) (by
    intro R
    rw [show loopsOf (codeOf Tryz.f166) = [] from by kernel_rfl]
    exact allM_nil) (fun R x k => q166 F166 R x k)
abbrev FT156 : Type 1 := (R : Type) → (List Int) → ((List Int) → Option R) → Option R
def en156 (F : FT156) : Ent := ⟨156, [(false, (.arr 8 (.int .u32)))], [(false, (.arr 32 (.int .u8)))], fun R x k => F R x.1 (fun y1 => k (y1, ()) ())⟩
def res156 : List (ResultVar × TypeId × Bool) := [(.cell 2 28, 28, false)]
abbrev LT156_3 : Type 1 := (R : Type) → Int → (List Int) → (List Int) → (List Int) → ((List Int) → (List Int) → Option R) → Option R
def le156_3 (L : LT156_3) : LEnt := ⟨3, [.fix 1 (.ptr 0 [] (.arr 8 (.int .u32))), .fix 2 (.ptr 1 [] (.arr 32 (.int .u8))), .fix 3 (.ptr 2 [] (.arr 32 (.int .u8))), .val 4 (.int .i64), .var 0 (.arr 8 (.int .u32)) false, .var 1 (.arr 32 (.int .u8)) false, .var 2 (.arr 32 (.int .u8)) false], 3, [(.exit 0, [.fix 2 (.ptr 1 [] (.arr 32 (.int .u8))), .fix 3 (.ptr 2 [] (.arr 32 (.int .u8))), .var 1 (.arr 32 (.int .u8)) false, .var 2 (.arr 32 (.int .u8)) false])], fun R x ke => L R x.1 x.2.1 x.2.2.1 x.2.2.2.1 (fun y1 y2 => ke.1 (y1, y2, ()))⟩
abbrev LT156_7 : Type 1 := (R : Type) → Int → Int → (List Int) → (List Int) → (List Int) → (List Int) → (Int → (List Int) → (List Int) → (List Int) → Option R) → Option R
def le156_7 (L : LT156_7) : LEnt := ⟨7, [.fix 1 (.ptr 0 [] (.arr 8 (.int .u32))), .fix 2 (.ptr 1 [] (.arr 32 (.int .u8))), .fix 3 (.ptr 2 [] (.arr 32 (.int .u8))), .val 4 (.int .i64), .fix 5 (.ptr 3 [] (.arr 4 (.int .u8))), .val 6 (.int .i64), .var 0 (.arr 8 (.int .u32)) false, .var 1 (.arr 32 (.int .u8)) false, .var 2 (.arr 32 (.int .u8)) false, .var 3 (.arr 4 (.int .u8)) false], 4, [(.exit 2, [.fix 1 (.ptr 0 [] (.arr 8 (.int .u32))), .fix 2 (.ptr 1 [] (.arr 32 (.int .u8))), .fix 3 (.ptr 2 [] (.arr 32 (.int .u8))), .val 4 (.int .i64), .var 0 (.arr 8 (.int .u32)) false, .var 1 (.arr 32 (.int .u8)) false, .var 2 (.arr 32 (.int .u8)) false])], fun R x ke => L R x.1 x.2.1 x.2.2.1 x.2.2.2.1 x.2.2.2.2.1 x.2.2.2.2.2.1 (fun y1 y2 y3 y4 => ke.1 (y1, y2, y3, y4, ()))⟩
noncomputable def e156 (F166 : FT166) (L3 : LT156_3) (L7 : LT156_7) (R : Type) : Env R := ⟨TT, EQT, 0, 28, ownOf [], callOf [en166 F166] R, loopOf [le156_3 L3, le156_7 L7] R, [], inlOf []⟩
def p156_7 : (R : Type) → Int → Int → (List Int) → (List Int) → (List Int) → (List Int) → (Int → Int → (List Int) → (List Int) → (List Int) → (List Int) → Option R) → (Int → (List Int) → (List Int) → (List Int) → Option R) → Option R := fun R x1 x2 x3 x4 x5 x6 kc k0 =>
let v7 := (decide (x2 < (4 : Int)));
(match v7 with
| true => let v8 := (IntKind.i64.wrap ((4 : Int) * x1));
let v9 := (IntKind.i64.wrap (v8 + x2));
(match (bnd x2 (4 : Int)) with
| true => let v10 := (List.getD x6 (Int.toNat x2) (0 : Int));
(match (bnd v9 (32 : Int)) with
| true => let v11 : (List Int) := (List.set x5 (Int.toNat v9) v10);
let v12 := (IntKind.i64.wrap (x2 + (1 : Int)));
kc x1 v12 x3 x4 v11 x6
| false => none)
| false => none)
| false => k0 x1 x3 x4 x5)
theorem q156_7 (F166 : FT166) (L3 : LT156_3) (L7 : LT156_7) (R : Type) (x : HT (le156_7 L7).H) (kc : HT (le156_7 L7).H → Option R) (ke : KT R (le156_7 L7).exs) :
  exec (e156 F166 L3 L7 R) (lcode 7 (codeOf Tryz.f156)) (stOf (le156_7 L7).H x 4) (roundK (le156_7 L7).H (le156_7 L7).exs kc ke) =
    p156_7 R x.1 x.2.1 x.2.2.1 x.2.2.2.1 x.2.2.2.2.1 x.2.2.2.2.2.1 (fun x1 x2 x3 x4 x5 x6 => kc (x1, x2, x3, x4, x5, x6, ())) (fun y1 y2 y3 y4 => ke.1 (y1, y2, y3, y4, ())) := by kernel_rfl
noncomputable def G156_7 : Nat → LT156_7
  | 0 => fun _ _ _ _ _ _ _ _ => none
  | n + 1 => fun R x1 x2 x3 x4 x5 x6 k0 => p156_7 R x1 x2 x3 x4 x5 x6 (fun x1 x2 x3 x4 x5 x6 => G156_7 n R x1 x2 x3 x4 x5 x6 k0) k0
def p156_3 (F166 : FT166) (L7 : LT156_7) : (R : Type) → Int → (List Int) → (List Int) → (List Int) → (Int → (List Int) → (List Int) → (List Int) → Option R) → ((List Int) → (List Int) → Option R) → Option R := fun R x1 x2 x3 x4 kc k0 =>
let v5 := (decide (x1 < (8 : Int)));
(match v5 with
| true => (match (bnd x1 (8 : Int)) with
| true => let v6 := (List.getD x2 (Int.toNat x1) (0 : Int));
F166 R v6 fun y7 =>
L7 R x1 (0 : Int) x2 x3 x4 y7 (fun x8 x9 x10 x11 =>
let v12 := (IntKind.i64.wrap (x8 + (1 : Int)));
kc v12 x9 x10 x11)
| false => none)
| false => k0 x3 x4)
theorem q156_3 (F166 : FT166) (L3 : LT156_3) (L7 : LT156_7) (R : Type) (x : HT (le156_3 L3).H) (kc : HT (le156_3 L3).H → Option R) (ke : KT R (le156_3 L3).exs) :
  exec (e156 F166 L3 L7 R) (lcode 3 (codeOf Tryz.f156)) (stOf (le156_3 L3).H x 3) (roundK (le156_3 L3).H (le156_3 L3).exs kc ke) =
    p156_3 F166 L7 R x.1 x.2.1 x.2.2.1 x.2.2.2.1 (fun x1 x2 x3 x4 => kc (x1, x2, x3, x4, ())) (fun y1 y2 => ke.1 (y1, y2, ())) := by kernel_rfl
noncomputable def G156_3 : Nat → LT156_3
  | 0 => fun _ _ _ _ _ _ => none
  | n + 1 => fun R x1 x2 x3 x4 k0 => p156_3 F166 (G156_7 FUEL) R x1 x2 x3 x4 (fun x1 x2 x3 x4 => G156_3 n R x1 x2 x3 x4 k0) k0
def p156 (L3 : LT156_3) : FT156 := fun R a0 k =>
L3 R (0 : Int) a0 (List.replicate 32 (0 : Int)) (List.replicate 32 (0 : Int)) (fun x1 x2 =>
k x2)
theorem q156 (F166 : FT166) (L3 : LT156_3) (L7 : LT156_7) (F : FT156) (R : Type) (x : AT (en156 F).ins) (k : RT (en156 F).outs → PT (en156 F).ins → Option R) :
  xfun (e156 F166 L3 L7 R) (codeOf Tryz.f156) res156 (avs (en156 F).ins x) (finK (en156 F).outs (en156 F).ins k) = p156 L3 R x.1 (fun y1 => k (y1, ()) ()) := by kernel_rfl
noncomputable def F156 : FT156 := p156 (G156_3 FUEL)
theorem env156 (R : Type) : EnvOK Tryz.prog (e156 F166 (G156_3 FUEL) (G156_7 FUEL) R) := ⟨tabOK, eqOK, callOf_ok (allE_cons ok166 allE_nil), noIns, inlOK_nil⟩
noncomputable def T156_7 : (R : Type) → HT (le156_7 (G156_7 FUEL)).H → (HT (le156_7 (G156_7 FUEL)).H → Option R) → KT R (le156_7 (G156_7 FUEL)).exs → Option R := fun R x kc ke => p156_7 R x.1 x.2.1 x.2.2.1 x.2.2.2.1 x.2.2.2.2.1 x.2.2.2.2.2.1 (fun x1 x2 x3 x4 x5 x6 => kc (x1, x2, x3, x4, x5, x6, ())) (fun y1 y2 y3 y4 => ke.1 (y1, y2, y3, y4, ()))
theorem it156_7 : ∀ (n : Nat) (R : Type) (x : HT (le156_7 (G156_7 FUEL)).H) (ke : KT R (le156_7 (G156_7 FUEL)).exs), iter T156_7 n R x ke = G156_7 n R x.1 x.2.1 x.2.2.1 x.2.2.2.1 x.2.2.2.2.1 x.2.2.2.2.2.1 (fun y1 y2 y3 y4 => ke.1 (y1, y2, y3, y4, ())) := by
  intro n
  induction n with
  | zero => intro R x ke; rfl
  | succ n ih =>
    intro R x ke
    show T156_7 R x (fun x' => iter T156_7 n R x' ke) ke = _
    rw [show (fun x' => iter T156_7 n R x' ke) = fun x => G156_7 n R x.1 x.2.1 x.2.2.1 x.2.2.2.1 x.2.2.2.2.1 x.2.2.2.2.2.1 (fun y1 y2 y3 y4 => ke.1 (y1, y2, y3, y4, ())) from funext fun x' => ih R x' ke]
    rfl
theorem lok156_7 : (le156_7 (G156_7 FUEL)).OK Tryz.prog 0 28 (lcode 7 (codeOf Tryz.f156)) := fun R x ke r h =>
  iter_sound (fun R => e156 F166 (G156_3 FUEL) (G156_7 FUEL) R) 0 28 (fun _ => rfl) (fun _ => rfl) (fun R => env156 R) mixed (by
    intro R
    rw [show loopsOf (lcode 7 (codeOf Tryz.f156)) = [] from by kernel_rfl]
    exact allM_nil) (T := T156_7) (fun R x kc ke => q156_7 F166 (G156_3 FUEL) (G156_7 FUEL) R x kc ke) FUEL R x ke r ((it156_7 FUEL R x ke).trans h)
noncomputable def T156_3 : (R : Type) → HT (le156_3 (G156_3 FUEL)).H → (HT (le156_3 (G156_3 FUEL)).H → Option R) → KT R (le156_3 (G156_3 FUEL)).exs → Option R := fun R x kc ke => p156_3 F166 (G156_7 FUEL) R x.1 x.2.1 x.2.2.1 x.2.2.2.1 (fun x1 x2 x3 x4 => kc (x1, x2, x3, x4, ())) (fun y1 y2 => ke.1 (y1, y2, ()))
theorem it156_3 : ∀ (n : Nat) (R : Type) (x : HT (le156_3 (G156_3 FUEL)).H) (ke : KT R (le156_3 (G156_3 FUEL)).exs), iter T156_3 n R x ke = G156_3 n R x.1 x.2.1 x.2.2.1 x.2.2.2.1 (fun y1 y2 => ke.1 (y1, y2, ())) := by
  intro n
  induction n with
  | zero => intro R x ke; rfl
  | succ n ih =>
    intro R x ke
    show T156_3 R x (fun x' => iter T156_3 n R x' ke) ke = _
    rw [show (fun x' => iter T156_3 n R x' ke) = fun x => G156_3 n R x.1 x.2.1 x.2.2.1 x.2.2.2.1 (fun y1 y2 => ke.1 (y1, y2, ())) from funext fun x' => ih R x' ke]
    rfl
theorem lok156_3 : (le156_3 (G156_3 FUEL)).OK Tryz.prog 0 28 (lcode 3 (codeOf Tryz.f156)) := fun R x ke r h =>
  iter_sound (fun R => e156 F166 (G156_3 FUEL) (G156_7 FUEL) R) 0 28 (fun _ => rfl) (fun _ => rfl) (fun R => env156 R) mixed (by
    intro R
    rw [show loopsOf (lcode 3 (codeOf Tryz.f156)) = [lcode 7 (codeOf Tryz.f156)] from by kernel_rfl]
    exact (allM_cons (loop_ok2 (e := le156_7 (G156_7 FUEL)) rfl rfl lok156_7) allM_nil)) (T := T156_3) (fun R x kc ke => q156_3 F166 (G156_3 FUEL) (G156_7 FUEL) R x kc ke) FUEL R x ke r ((it156_3 FUEL R x ke).trans h)
theorem ok156 : (en156 F156).OK Tryz.prog :=
  ent_ok (Ef := fun R => e156 F166 (G156_3 FUEL) (G156_7 FUEL) R) (fun R => env156 R) mixed Tryz.func156 (body := codeOf Tryz.f156) (by kernel_rfl) (by kernel_rfl) (np := 0) (nt := 28) (fun _ => rfl) (fun _ => rfl) (by kernel_rfl) (res := res156) (by kernel_rfl) (fun _ => rfl) (fun _ => Nat.le_of_ble_eq_true rfl) (by
    intro R
    rw [show loopsOf (codeOf Tryz.f156) = [lcode 3 (codeOf Tryz.f156)] from by kernel_rfl]
    exact (allM_cons (loop_ok2 (e := le156_3 (G156_3 FUEL)) rfl rfl lok156_3) allM_nil)) (fun R x k => q156 F166 (G156_3 FUEL) (G156_7 FUEL) F156 R x k)
abbrev FT150 : Type 1 := (R : Type) → (List Int) → ((List Int) → Option R) → Option R
def en150 (F : FT150) : Ent := ⟨150, [(false, (.sl (.int .u8)))], [(false, (.arr 32 (.int .u8)))], fun R x k => F R x.1 (fun y1 => k (y1, ()) ())⟩
def res150 : List (ResultVar × TypeId × Bool) := [(.cell 2 28, 28, false)]
noncomputable def e150 (F154 : FT154) (F155 : FT155) (F156 : FT156) (F157 : FT157) (F158 : FT158) (R : Type) : Env R := ⟨TT, EQT, 0, 15, ownOf [], callOf [en154 F154, en155 F155, en156 F156, en157 F157, en158 F158] R, loopOf [] R, [], inlOf []⟩
def p150 (F154 : FT154) (F155 : FT155) (F156 : FT156) (F157 : FT157) (F158 : FT158) : FT150 := fun R a0 k =>
F155 R a0 fun y1 =>
F154 R y1 fun y2 y3 =>
F158 R  fun y4 =>
F157 R y4 y2 fun y5 =>
F156 R y5 fun y6 =>
k y6
theorem q150 (F154 : FT154) (F155 : FT155) (F156 : FT156) (F157 : FT157) (F158 : FT158) (F : FT150) (R : Type) (x : AT (en150 F).ins) (k : RT (en150 F).outs → PT (en150 F).ins → Option R) :
  xfun (e150 F154 F155 F156 F157 F158 R) (codeOf Tryz.f150) res150 (avs (en150 F).ins x) (finK (en150 F).outs (en150 F).ins k) = p150 F154 F155 F156 F157 F158 R x.1 (fun y1 => k (y1, ()) ()) := by kernel_rfl
noncomputable def F150 : FT150 := p150 F154 F155 F156 F157 F158
theorem env150 (R : Type) : EnvOK Tryz.prog (e150 F154 F155 F156 F157 F158 R) := ⟨tabOK, eqOK, callOf_ok (allE_cons ok154 (allE_cons ok155 (allE_cons ok156 (allE_cons ok157 (allE_cons ok158 allE_nil))))), noIns, inlOK_nil⟩
theorem ok150 : (en150 F150).OK Tryz.prog :=
  ent_ok (Ef := fun R => e150 F154 F155 F156 F157 F158 R) (fun R => env150 R) mixed Tryz.func150 (body := codeOf Tryz.f150) (by kernel_rfl) (by kernel_rfl) (np := 0) (nt := 15) (fun _ => rfl) (fun _ => rfl) (by kernel_rfl) (res := res150) (by kernel_rfl) (fun _ => rfl) (fun _ => Nat.le_of_ble_eq_true rfl) (by
    intro R
    rw [show loopsOf (codeOf Tryz.f150) = [] from by kernel_rfl]
    exact allM_nil) (fun R x k => q150 F154 F155 F156 F157 F158 F150 R x k)
abbrev FT144 : Type 1 := (R : Type) → (List Int) → Int → Int → ((List Int) → Option R) → Option R
def en144 (F : FT144) : Ent := ⟨144, [(false, (.arr 32 (.int .u8))), (false, (.int .u64)), (false, (.int .u64))], [(false, (.arr 32 (.int .u8)))], fun R x k => F R x.1 x.2.1 x.2.2.1 (fun y1 => k (y1, ()) ())⟩
def res144 : List (ResultVar × TypeId × Bool) := [(.cell 6 28, 28, false)]
abbrev LT144_3 : Type 1 := (R : Type) → Int → Int → Int → (List Int) → (List Int) → (List Int) → (Int → Int → (List Int) → (List Int) → Option R) → Option R
def le144_3 (L : LT144_3) : LEnt := ⟨3, [.val 1 (.int .u64), .val 2 (.int .u64), .fix 3 (.ptr 0 [] (.arr 32 (.int .u8))), .fix 6 (.ptr 1 [] (.arr 32 (.int .u8))), .fix 7 (.own 2 0), .val 8 (.int .i64), .var 0 (.arr 32 (.int .u8)) false, .var 1 (.arr 32 (.int .u8)) false, .row 2 (.int .u8) false], 3, [(.exit 0, [.val 1 (.int .u64), .val 2 (.int .u64), .fix 6 (.ptr 1 [] (.arr 32 (.int .u8))), .fix 7 (.own 2 0), .var 1 (.arr 32 (.int .u8)) false, .row 2 (.int .u8) false])], fun R x ke => L R x.1 x.2.1 x.2.2.1 x.2.2.2.1 x.2.2.2.2.1 x.2.2.2.2.2.1 (fun y1 y2 y3 y4 => ke.1 (y1, y2, y3, y4, ()))⟩
abbrev LT144_8 : Type 1 := (R : Type) → Int → (List Int) → (List Int) → (List Int) → (List Int) → ((List Int) → (List Int) → (List Int) → Option R) → Option R
def le144_8 (L : LT144_8) : LEnt := ⟨8, [.fix 6 (.ptr 1 [] (.arr 32 (.int .u8))), .fix 7 (.own 2 0), .fix 9 (.ptr 3 [] (.arr 8 (.int .u8))), .fix 10 (.ptr 4 [] (.arr 8 (.int .u8))), .val 11 (.int .i64), .var 1 (.arr 32 (.int .u8)) false, .row 2 (.int .u8) false, .var 3 (.arr 8 (.int .u8)) false, .var 4 (.arr 8 (.int .u8)) false], 5, [(.exit 2, [.fix 6 (.ptr 1 [] (.arr 32 (.int .u8))), .fix 7 (.own 2 0), .fix 10 (.ptr 4 [] (.arr 8 (.int .u8))), .var 1 (.arr 32 (.int .u8)) false, .row 2 (.int .u8) false, .var 4 (.arr 8 (.int .u8)) false])], fun R x ke => L R x.1 x.2.1 x.2.2.1 x.2.2.2.1 x.2.2.2.2.1 (fun y1 y2 y3 => ke.1 (y1, y2, y3, ()))⟩
abbrev LT144_12 : Type 1 := (R : Type) → Int → (List Int) → (List Int) → (List Int) → ((List Int) → (List Int) → Option R) → Option R
def le144_12 (L : LT144_12) : LEnt := ⟨12, [.fix 6 (.ptr 1 [] (.arr 32 (.int .u8))), .fix 7 (.own 2 0), .fix 10 (.ptr 4 [] (.arr 8 (.int .u8))), .val 12 (.int .i64), .var 1 (.arr 32 (.int .u8)) false, .row 2 (.int .u8) false, .var 4 (.arr 8 (.int .u8)) false], 5, [(.exit 4, [.fix 6 (.ptr 1 [] (.arr 32 (.int .u8))), .fix 7 (.own 2 0), .var 1 (.arr 32 (.int .u8)) false, .row 2 (.int .u8) false])], fun R x ke => L R x.1 x.2.1 x.2.2.1 x.2.2.2.1 (fun y1 y2 => ke.1 (y1, y2, ()))⟩
noncomputable def e144 (F149 : FT149) (F150 : FT150) (L3 : LT144_3) (L8 : LT144_8) (L12 : LT144_12) (R : Type) : Env R := ⟨TT, EQT, 0, 49, ownOf [(1, 0)], callOf [en149 F149, en150 F150] R, loopOf [le144_3 L3, le144_8 L8, le144_12 L12] R, [], inlOf []⟩
def p144_3 : (R : Type) → Int → Int → Int → (List Int) → (List Int) → (List Int) → (Int → Int → Int → (List Int) → (List Int) → (List Int) → Option R) → (Int → Int → (List Int) → (List Int) → Option R) → Option R := fun R x1 x2 x3 x4 x5 x6 kc k0 =>
let v7 := (decide (x3 < (32 : Int)));
(match v7 with
| true => (match (bnd x3 (32 : Int)) with
| true => let v8 := (List.getD x4 (Int.toNat x3) (0 : Int));
let v9 : (List Int) := ([v8] : (List Int));
(match (decide (List.length x6 + List.length v9 ≤ 140737488355328)) with
| true => let v10 : (List Int) := (x6 ++ v9);
let v11 := (IntKind.i64.wrap (x3 + (1 : Int)));
kc x1 x2 v11 x4 x5 v10
| false => none)
| false => none)
| false => k0 x1 x2 x5 x6)
theorem q144_3 (F149 : FT149) (F150 : FT150) (L3 : LT144_3) (L8 : LT144_8) (L12 : LT144_12) (R : Type) (x : HT (le144_3 L3).H) (kc : HT (le144_3 L3).H → Option R) (ke : KT R (le144_3 L3).exs) :
  exec (e144 F149 F150 L3 L8 L12 R) (lcode 3 (codeOf Tryz.f144)) (stOf (le144_3 L3).H x 3) (roundK (le144_3 L3).H (le144_3 L3).exs kc ke) =
    p144_3 R x.1 x.2.1 x.2.2.1 x.2.2.2.1 x.2.2.2.2.1 x.2.2.2.2.2.1 (fun x1 x2 x3 x4 x5 x6 => kc (x1, x2, x3, x4, x5, x6, ())) (fun y1 y2 y3 y4 => ke.1 (y1, y2, y3, y4, ())) := by kernel_rfl
noncomputable def G144_3 : Nat → LT144_3
  | 0 => fun _ _ _ _ _ _ _ _ => none
  | n + 1 => fun R x1 x2 x3 x4 x5 x6 k0 => p144_3 R x1 x2 x3 x4 x5 x6 (fun x1 x2 x3 x4 x5 x6 => G144_3 n R x1 x2 x3 x4 x5 x6 k0) k0
def p144_8 : (R : Type) → Int → (List Int) → (List Int) → (List Int) → (List Int) → (Int → (List Int) → (List Int) → (List Int) → (List Int) → Option R) → ((List Int) → (List Int) → (List Int) → Option R) → Option R := fun R x1 x2 x3 x4 x5 kc k0 =>
let v6 := (decide (x1 < (8 : Int)));
(match v6 with
| true => (match (bnd x1 (8 : Int)) with
| true => let v7 := (List.getD x4 (Int.toNat x1) (0 : Int));
let v8 : (List Int) := ([v7] : (List Int));
(match (decide (List.length x3 + List.length v8 ≤ 140737488355328)) with
| true => let v9 : (List Int) := (x3 ++ v8);
let v10 := (IntKind.i64.wrap (x1 + (1 : Int)));
kc v10 x2 v9 x4 x5
| false => none)
| false => none)
| false => k0 x2 x3 x5)
theorem q144_8 (F149 : FT149) (F150 : FT150) (L3 : LT144_3) (L8 : LT144_8) (L12 : LT144_12) (R : Type) (x : HT (le144_8 L8).H) (kc : HT (le144_8 L8).H → Option R) (ke : KT R (le144_8 L8).exs) :
  exec (e144 F149 F150 L3 L8 L12 R) (lcode 8 (codeOf Tryz.f144)) (stOf (le144_8 L8).H x 5) (roundK (le144_8 L8).H (le144_8 L8).exs kc ke) =
    p144_8 R x.1 x.2.1 x.2.2.1 x.2.2.2.1 x.2.2.2.2.1 (fun x1 x2 x3 x4 x5 => kc (x1, x2, x3, x4, x5, ())) (fun y1 y2 y3 => ke.1 (y1, y2, y3, ())) := by kernel_rfl
noncomputable def G144_8 : Nat → LT144_8
  | 0 => fun _ _ _ _ _ _ _ => none
  | n + 1 => fun R x1 x2 x3 x4 x5 k0 => p144_8 R x1 x2 x3 x4 x5 (fun x1 x2 x3 x4 x5 => G144_8 n R x1 x2 x3 x4 x5 k0) k0
def p144_12 : (R : Type) → Int → (List Int) → (List Int) → (List Int) → (Int → (List Int) → (List Int) → (List Int) → Option R) → ((List Int) → (List Int) → Option R) → Option R := fun R x1 x2 x3 x4 kc k0 =>
let v5 := (decide (x1 < (8 : Int)));
(match v5 with
| true => (match (bnd x1 (8 : Int)) with
| true => let v6 := (List.getD x4 (Int.toNat x1) (0 : Int));
let v7 : (List Int) := ([v6] : (List Int));
(match (decide (List.length x3 + List.length v7 ≤ 140737488355328)) with
| true => let v8 : (List Int) := (x3 ++ v7);
let v9 := (IntKind.i64.wrap (x1 + (1 : Int)));
kc v9 x2 v8 x4
| false => none)
| false => none)
| false => k0 x2 x3)
theorem q144_12 (F149 : FT149) (F150 : FT150) (L3 : LT144_3) (L8 : LT144_8) (L12 : LT144_12) (R : Type) (x : HT (le144_12 L12).H) (kc : HT (le144_12 L12).H → Option R) (ke : KT R (le144_12 L12).exs) :
  exec (e144 F149 F150 L3 L8 L12 R) (lcode 12 (codeOf Tryz.f144)) (stOf (le144_12 L12).H x 5) (roundK (le144_12 L12).H (le144_12 L12).exs kc ke) =
    p144_12 R x.1 x.2.1 x.2.2.1 x.2.2.2.1 (fun x1 x2 x3 x4 => kc (x1, x2, x3, x4, ())) (fun y1 y2 => ke.1 (y1, y2, ())) := by kernel_rfl
noncomputable def G144_12 : Nat → LT144_12
  | 0 => fun _ _ _ _ _ _ => none
  | n + 1 => fun R x1 x2 x3 x4 k0 => p144_12 R x1 x2 x3 x4 (fun x1 x2 x3 x4 => G144_12 n R x1 x2 x3 x4 k0) k0
def p144 (F149 : FT149) (F150 : FT150) (L3 : LT144_3) (L8 : LT144_8) (L12 : LT144_12) : FT144 := fun R a0 a1 a2 k =>
L3 R a1 a2 (0 : Int) a0 (List.replicate 32 (0 : Int)) ([] : (List Int)) (fun x1 x2 x3 x4 =>
F149 R x1 fun y5 =>
F149 R x2 fun y6 =>
L8 R (0 : Int) x3 x4 y5 y6 (fun x7 x8 x9 =>
L12 R (0 : Int) x7 x8 x9 (fun x10 x11 =>
F150 R x11 fun y12 =>
k y12)))
theorem q144 (F149 : FT149) (F150 : FT150) (L3 : LT144_3) (L8 : LT144_8) (L12 : LT144_12) (F : FT144) (R : Type) (x : AT (en144 F).ins) (k : RT (en144 F).outs → PT (en144 F).ins → Option R) :
  xfun (e144 F149 F150 L3 L8 L12 R) (codeOf Tryz.f144) res144 (avs (en144 F).ins x) (finK (en144 F).outs (en144 F).ins k) = p144 F149 F150 L3 L8 L12 R x.1 x.2.1 x.2.2.1 (fun y1 => k (y1, ()) ()) := by kernel_rfl
noncomputable def F144 : FT144 := p144 F149 F150 (G144_3 FUEL) (G144_8 FUEL) (G144_12 FUEL)
theorem env144 (R : Type) : EnvOK Tryz.prog (e144 F149 F150 (G144_3 FUEL) (G144_8 FUEL) (G144_12 FUEL) R) := ⟨tabOK, eqOK, callOf_ok (allE_cons ok149 (allE_cons ok150 allE_nil)), noIns, inlOK_nil⟩
noncomputable def T144_3 : (R : Type) → HT (le144_3 (G144_3 FUEL)).H → (HT (le144_3 (G144_3 FUEL)).H → Option R) → KT R (le144_3 (G144_3 FUEL)).exs → Option R := fun R x kc ke => p144_3 R x.1 x.2.1 x.2.2.1 x.2.2.2.1 x.2.2.2.2.1 x.2.2.2.2.2.1 (fun x1 x2 x3 x4 x5 x6 => kc (x1, x2, x3, x4, x5, x6, ())) (fun y1 y2 y3 y4 => ke.1 (y1, y2, y3, y4, ()))
theorem it144_3 : ∀ (n : Nat) (R : Type) (x : HT (le144_3 (G144_3 FUEL)).H) (ke : KT R (le144_3 (G144_3 FUEL)).exs), iter T144_3 n R x ke = G144_3 n R x.1 x.2.1 x.2.2.1 x.2.2.2.1 x.2.2.2.2.1 x.2.2.2.2.2.1 (fun y1 y2 y3 y4 => ke.1 (y1, y2, y3, y4, ())) := by
  intro n
  induction n with
  | zero => intro R x ke; rfl
  | succ n ih =>
    intro R x ke
    show T144_3 R x (fun x' => iter T144_3 n R x' ke) ke = _
    rw [show (fun x' => iter T144_3 n R x' ke) = fun x => G144_3 n R x.1 x.2.1 x.2.2.1 x.2.2.2.1 x.2.2.2.2.1 x.2.2.2.2.2.1 (fun y1 y2 y3 y4 => ke.1 (y1, y2, y3, y4, ())) from funext fun x' => ih R x' ke]
    rfl
theorem lok144_3 : (le144_3 (G144_3 FUEL)).OK Tryz.prog 0 49 (lcode 3 (codeOf Tryz.f144)) := fun R x ke r h =>
  iter_sound (fun R => e144 F149 F150 (G144_3 FUEL) (G144_8 FUEL) (G144_12 FUEL) R) 0 49 (fun _ => rfl) (fun _ => rfl) (fun R => env144 R) mixed (by
    intro R
    rw [show loopsOf (lcode 3 (codeOf Tryz.f144)) = [] from by kernel_rfl]
    exact allM_nil) (T := T144_3) (fun R x kc ke => q144_3 F149 F150 (G144_3 FUEL) (G144_8 FUEL) (G144_12 FUEL) R x kc ke) FUEL R x ke r ((it144_3 FUEL R x ke).trans h)
noncomputable def T144_8 : (R : Type) → HT (le144_8 (G144_8 FUEL)).H → (HT (le144_8 (G144_8 FUEL)).H → Option R) → KT R (le144_8 (G144_8 FUEL)).exs → Option R := fun R x kc ke => p144_8 R x.1 x.2.1 x.2.2.1 x.2.2.2.1 x.2.2.2.2.1 (fun x1 x2 x3 x4 x5 => kc (x1, x2, x3, x4, x5, ())) (fun y1 y2 y3 => ke.1 (y1, y2, y3, ()))
theorem it144_8 : ∀ (n : Nat) (R : Type) (x : HT (le144_8 (G144_8 FUEL)).H) (ke : KT R (le144_8 (G144_8 FUEL)).exs), iter T144_8 n R x ke = G144_8 n R x.1 x.2.1 x.2.2.1 x.2.2.2.1 x.2.2.2.2.1 (fun y1 y2 y3 => ke.1 (y1, y2, y3, ())) := by
  intro n
  induction n with
  | zero => intro R x ke; rfl
  | succ n ih =>
    intro R x ke
    show T144_8 R x (fun x' => iter T144_8 n R x' ke) ke = _
    rw [show (fun x' => iter T144_8 n R x' ke) = fun x => G144_8 n R x.1 x.2.1 x.2.2.1 x.2.2.2.1 x.2.2.2.2.1 (fun y1 y2 y3 => ke.1 (y1, y2, y3, ())) from funext fun x' => ih R x' ke]
    rfl
theorem lok144_8 : (le144_8 (G144_8 FUEL)).OK Tryz.prog 0 49 (lcode 8 (codeOf Tryz.f144)) := fun R x ke r h =>
  iter_sound (fun R => e144 F149 F150 (G144_3 FUEL) (G144_8 FUEL) (G144_12 FUEL) R) 0 49 (fun _ => rfl) (fun _ => rfl) (fun R => env144 R) mixed (by
    intro R
    rw [show loopsOf (lcode 8 (codeOf Tryz.f144)) = [] from by kernel_rfl]
    exact allM_nil) (T := T144_8) (fun R x kc ke => q144_8 F149 F150 (G144_3 FUEL) (G144_8 FUEL) (G144_12 FUEL) R x kc ke) FUEL R x ke r ((it144_8 FUEL R x ke).trans h)
noncomputable def T144_12 : (R : Type) → HT (le144_12 (G144_12 FUEL)).H → (HT (le144_12 (G144_12 FUEL)).H → Option R) → KT R (le144_12 (G144_12 FUEL)).exs → Option R := fun R x kc ke => p144_12 R x.1 x.2.1 x.2.2.1 x.2.2.2.1 (fun x1 x2 x3 x4 => kc (x1, x2, x3, x4, ())) (fun y1 y2 => ke.1 (y1, y2, ()))
theorem it144_12 : ∀ (n : Nat) (R : Type) (x : HT (le144_12 (G144_12 FUEL)).H) (ke : KT R (le144_12 (G144_12 FUEL)).exs), iter T144_12 n R x ke = G144_12 n R x.1 x.2.1 x.2.2.1 x.2.2.2.1 (fun y1 y2 => ke.1 (y1, y2, ())) := by
  intro n
  induction n with
  | zero => intro R x ke; rfl
  | succ n ih =>
    intro R x ke
    show T144_12 R x (fun x' => iter T144_12 n R x' ke) ke = _
    rw [show (fun x' => iter T144_12 n R x' ke) = fun x => G144_12 n R x.1 x.2.1 x.2.2.1 x.2.2.2.1 (fun y1 y2 => ke.1 (y1, y2, ())) from funext fun x' => ih R x' ke]
    rfl
theorem lok144_12 : (le144_12 (G144_12 FUEL)).OK Tryz.prog 0 49 (lcode 12 (codeOf Tryz.f144)) := fun R x ke r h =>
  iter_sound (fun R => e144 F149 F150 (G144_3 FUEL) (G144_8 FUEL) (G144_12 FUEL) R) 0 49 (fun _ => rfl) (fun _ => rfl) (fun R => env144 R) mixed (by
    intro R
    rw [show loopsOf (lcode 12 (codeOf Tryz.f144)) = [] from by kernel_rfl]
    exact allM_nil) (T := T144_12) (fun R x kc ke => q144_12 F149 F150 (G144_3 FUEL) (G144_8 FUEL) (G144_12 FUEL) R x kc ke) FUEL R x ke r ((it144_12 FUEL R x ke).trans h)
theorem ok144 : (en144 F144).OK Tryz.prog :=
  ent_ok (Ef := fun R => e144 F149 F150 (G144_3 FUEL) (G144_8 FUEL) (G144_12 FUEL) R) (fun R => env144 R) mixed Tryz.func144 (body := codeOf Tryz.f144) (by kernel_rfl) (by kernel_rfl) (np := 0) (nt := 49) (fun _ => rfl) (fun _ => rfl) (by kernel_rfl) (res := res144) (by kernel_rfl) (fun _ => rfl) (fun _ => Nat.le_of_ble_eq_true rfl) (by
    intro R
    rw [show loopsOf (codeOf Tryz.f144) = [lcode 3 (codeOf Tryz.f144), lcode 8 (codeOf Tryz.f144), lcode 12 (codeOf Tryz.f144)] from by kernel_rfl]
    exact (allM_cons (loop_ok2 (e := le144_3 (G144_3 FUEL)) rfl rfl lok144_3) (allM_cons (loop_ok2 (e := le144_8 (G144_8 FUEL)) rfl rfl lok144_8) (allM_cons (loop_ok2 (e := le144_12 (G144_12 FUEL)) rfl rfl lok144_12) allM_nil)))) (fun R x k => q144 F149 F150 (G144_3 FUEL) (G144_8 FUEL) (G144_12 FUEL) F144 R x k)
abbrev FT145 : Type 1 := (R : Type) → Int → (Int → Option R) → Option R
def en145 (F : FT145) : Ent := ⟨145, [(false, (.int .u64))], [(false, (.int .u64))], fun R x k => F R x.1 (fun y1 => k (y1, ()) ())⟩
def res145 : List (ResultVar × TypeId × Bool) := [(.tmp 2, 22, false)]
abbrev LT145_3 : Type 1 := (R : Type) → Int → Int → Int → (Int → Option R) → Option R
def le145_3 (L : LT145_3) : LEnt := ⟨3, [.val 0 (.int .u64), .val 3 (.int .u64), .val 4 (.int .u64)], 0, [(.exit 0, [.val 3 (.int .u64)])], fun R x ke => L R x.1 x.2.1 x.2.2.1 (fun y1 => ke.1 (y1, ()))⟩
noncomputable def e145 (L3 : LT145_3) (R : Type) : Env R := ⟨TT, EQT, 0, 13, ownOf [], callOf [] R, loopOf [le145_3 L3] R, [], inlOf []⟩
def p145_3 : (R : Type) → Int → Int → Int → (Int → Int → Int → Option R) → (Int → Option R) → Option R := fun R x1 x2 x3 kc k0 =>
let v4 := (decide (x3 < x1));
(match v4 with
| true => let v5 := (IntKind.u64.wrap ((2 : Int) * x2));
let v6 := (IntKind.u64.wrap (x3 + (1 : Int)));
kc x1 v5 v6
| false => k0 x2)
theorem q145_3 (L3 : LT145_3) (R : Type) (x : HT (le145_3 L3).H) (kc : HT (le145_3 L3).H → Option R) (ke : KT R (le145_3 L3).exs) :
  exec (e145 L3 R) (lcode 3 (codeOf Tryz.f145)) (stOf (le145_3 L3).H x 0) (roundK (le145_3 L3).H (le145_3 L3).exs kc ke) =
    p145_3 R x.1 x.2.1 x.2.2.1 (fun x1 x2 x3 => kc (x1, x2, x3, ())) (fun y1 => ke.1 (y1, ())) := by kernel_rfl
noncomputable def G145_3 : Nat → LT145_3
  | 0 => fun _ _ _ _ _ => none
  | n + 1 => fun R x1 x2 x3 k0 => p145_3 R x1 x2 x3 (fun x1 x2 x3 => G145_3 n R x1 x2 x3 k0) k0
def p145 (L3 : LT145_3) : FT145 := fun R a0 k =>
L3 R a0 (1 : Int) (0 : Int) (fun x1 =>
k x1)
theorem q145 (L3 : LT145_3) (F : FT145) (R : Type) (x : AT (en145 F).ins) (k : RT (en145 F).outs → PT (en145 F).ins → Option R) :
  xfun (e145 L3 R) (codeOf Tryz.f145) res145 (avs (en145 F).ins x) (finK (en145 F).outs (en145 F).ins k) = p145 L3 R x.1 (fun y1 => k (y1, ()) ()) := by kernel_rfl
noncomputable def F145 : FT145 := p145 (G145_3 FUEL)
theorem env145 (R : Type) : EnvOK Tryz.prog (e145 (G145_3 FUEL) R) := ⟨tabOK, eqOK, callOf_ok allE_nil, noIns, inlOK_nil⟩
noncomputable def T145_3 : (R : Type) → HT (le145_3 (G145_3 FUEL)).H → (HT (le145_3 (G145_3 FUEL)).H → Option R) → KT R (le145_3 (G145_3 FUEL)).exs → Option R := fun R x kc ke => p145_3 R x.1 x.2.1 x.2.2.1 (fun x1 x2 x3 => kc (x1, x2, x3, ())) (fun y1 => ke.1 (y1, ()))
theorem it145_3 : ∀ (n : Nat) (R : Type) (x : HT (le145_3 (G145_3 FUEL)).H) (ke : KT R (le145_3 (G145_3 FUEL)).exs), iter T145_3 n R x ke = G145_3 n R x.1 x.2.1 x.2.2.1 (fun y1 => ke.1 (y1, ())) := by
  intro n
  induction n with
  | zero => intro R x ke; rfl
  | succ n ih =>
    intro R x ke
    show T145_3 R x (fun x' => iter T145_3 n R x' ke) ke = _
    rw [show (fun x' => iter T145_3 n R x' ke) = fun x => G145_3 n R x.1 x.2.1 x.2.2.1 (fun y1 => ke.1 (y1, ())) from funext fun x' => ih R x' ke]
    rfl
theorem lok145_3 : (le145_3 (G145_3 FUEL)).OK Tryz.prog 0 13 (lcode 3 (codeOf Tryz.f145)) := fun R x ke r h =>
  iter_sound (fun R => e145 (G145_3 FUEL) R) 0 13 (fun _ => rfl) (fun _ => rfl) (fun R => env145 R) mixed (by
    intro R
    rw [show loopsOf (lcode 3 (codeOf Tryz.f145)) = [] from by kernel_rfl]
    exact allM_nil) (T := T145_3) (fun R x kc ke => q145_3 (G145_3 FUEL) R x kc ke) FUEL R x ke r ((it145_3 FUEL R x ke).trans h)
theorem ok145 : (en145 F145).OK Tryz.prog :=
  ent_ok (Ef := fun R => e145 (G145_3 FUEL) R) (fun R => env145 R) mixed Tryz.func145 (body := codeOf Tryz.f145) (by kernel_rfl) (by kernel_rfl) (np := 0) (nt := 13) (fun _ => rfl) (fun _ => rfl) (by kernel_rfl) (res := res145) (by kernel_rfl) (fun _ => rfl) (fun _ => Nat.le_of_ble_eq_true rfl) (by
    intro R
    rw [show loopsOf (codeOf Tryz.f145) = [lcode 3 (codeOf Tryz.f145)] from by kernel_rfl]
    exact (allM_cons (loop_ok2 (e := le145_3 (G145_3 FUEL)) rfl rfl lok145_3) allM_nil)) (fun R x k => q145 (G145_3 FUEL) F145 R x k)
abbrev FT138 : Type 1 := (R : Type) → (List Int) → Int → Int → (Int → Option R) → Option R
def en138 (F : FT138) : Ent := ⟨138, [(false, (.arr 32 (.int .u8))), (false, (.int .u64)), (false, (.int .u64))], [(false, (.int .u64))], fun R x k => F R x.1 x.2.1 x.2.2.1 (fun y1 => k (y1, ()) ())⟩
def res138 : List (ResultVar × TypeId × Bool) := [(.tmp 6, 22, false)]
noncomputable def e138 (F144 : FT144) (F145 : FT145) (R : Type) : Env R := ⟨TT, EQT, 0, 25, ownOf [], callOf [en144 F144, en145 F145] R, loopOf [] R, [], inlOf []⟩
def p138 (F144 : FT144) (F145 : FT145) : FT138 := fun R a0 a1 a2 k =>
let v1 := (IntKind.u64.wrap (Int.tdiv a2 (256 : Int)));
F144 R a0 a1 v1 fun y2 =>
let v3 := (Int.tmod a2 (256 : Int));
let v4 := (IntKind.u64.wrap (Int.tdiv v3 (8 : Int)));
(match (bnd v4 (32 : Int)) with
| true => let v5 := (List.getD y2 (Int.toNat v4) (0 : Int));
let v6 := (IntKind.u64.wrap v5);
let v7 := (Int.tmod a2 (8 : Int));
let v8 := (IntKind.u64.wrap ((7 : Int) - v7));
F145 R v8 fun y9 =>
(match (!(y9 == 0)) with
| true => let v10 := (IntKind.u64.wrap (Int.tdiv v6 y9));
let v11 := (Int.tmod v10 (2 : Int));
k v11
| false => none)
| false => none)
theorem q138 (F144 : FT144) (F145 : FT145) (F : FT138) (R : Type) (x : AT (en138 F).ins) (k : RT (en138 F).outs → PT (en138 F).ins → Option R) :
  xfun (e138 F144 F145 R) (codeOf Tryz.f138) res138 (avs (en138 F).ins x) (finK (en138 F).outs (en138 F).ins k) = p138 F144 F145 R x.1 x.2.1 x.2.2.1 (fun y1 => k (y1, ()) ()) := by kernel_rfl
noncomputable def F138 : FT138 := p138 F144 F145
theorem env138 (R : Type) : EnvOK Tryz.prog (e138 F144 F145 R) := ⟨tabOK, eqOK, callOf_ok (allE_cons ok144 (allE_cons ok145 allE_nil)), noIns, inlOK_nil⟩
theorem ok138 : (en138 F138).OK Tryz.prog :=
  ent_ok (Ef := fun R => e138 F144 F145 R) (fun R => env138 R) mixed Tryz.func138 (body := codeOf Tryz.f138) (by kernel_rfl) (by kernel_rfl) (np := 0) (nt := 25) (fun _ => rfl) (fun _ => rfl) (by kernel_rfl) (res := res138) (by kernel_rfl) (fun _ => rfl) (fun _ => Nat.le_of_ble_eq_true rfl) (by
    intro R
    rw [show loopsOf (codeOf Tryz.f138) = [] from by kernel_rfl]
    exact allM_nil) (fun R x k => q138 F144 F145 F138 R x k)
abbrev FT124 : Type 1 := (R : Type) → Tq7 → Int → (Int → Option R) → Option R
def en124 (F : FT124) : Ent := ⟨124, [(false, Kq7), (false, (.int .u64))], [(false, (.int .u64))], fun R x k => F R x.1 x.2.1 (fun y1 => k (y1, ()) ())⟩
def res124 : List (ResultVar × TypeId × Bool) := [(.tmp 4, 22, false)]
noncomputable def e124 (F138 : FT138) (F139 : FT139) (R : Type) : Env R := ⟨TT, EQT, 0, 28, ownOf [], callOf [en138 F138, en139 F139] R, loopOf [] R, [], inlOf []⟩
def p124 (F138 : FT138) (F139 : FT139) : FT124 := fun R a0 a1 k =>
let v1 := (a0.1 == (2 : Int));
(match v1 with
| true => F138 R a0.2.2.2.1 a0.2.2.2.2.1 a1 fun y2 =>
k y2
| false => let v3 := (IntKind.u64.wrap (Int.tdiv a1 (8 : Int)));
(match (bnd v3 (List.length a0.2.1 : Int)) with
| true => let v4 := (List.getD a0.2.1 (Int.toNat v3) (0 : Int));
let v5 := (IntKind.u32.wrap v4);
let v6 := (Int.tmod a1 (8 : Int));
let v7 := (IntKind.i64.wrap v6);
let v8 := (IntKind.i64.wrap ((7 : Int) - v7));
F139 R v5 v8 fun y9 =>
let v10 := (Int.tmod y9 (2 : Int));
let v11 := (IntKind.u64.wrap v10);
k v11
| false => none))
theorem q124 (F138 : FT138) (F139 : FT139) (F : FT124) (R : Type) (x : AT (en124 F).ins) (k : RT (en124 F).outs → PT (en124 F).ins → Option R) :
  xfun (e124 F138 F139 R) (codeOf Tryz.f124) res124 (avs (en124 F).ins x) (finK (en124 F).outs (en124 F).ins k) = p124 F138 F139 R x.1 x.2.1 (fun y1 => k (y1, ()) ()) := by kernel_rfl
noncomputable def F124 : FT124 := p124 F138 F139
theorem env124 (R : Type) : EnvOK Tryz.prog (e124 F138 F139 R) := ⟨tabOK, eqOK, callOf_ok (allE_cons ok138 (allE_cons ok139 allE_nil)), noIns, inlOK_nil⟩
theorem ok124 : (en124 F124).OK Tryz.prog :=
  ent_ok (Ef := fun R => e124 F138 F139 R) (fun R => env124 R) mixed Tryz.func124 (body := codeOf Tryz.f124) (by kernel_rfl) (by kernel_rfl) (np := 0) (nt := 28) (fun _ => rfl) (fun _ => rfl) (by kernel_rfl) (res := res124) (by kernel_rfl) (fun _ => rfl) (fun _ => Nat.le_of_ble_eq_true rfl) (by
    intro R
    rw [show loopsOf (codeOf Tryz.f124) = [] from by kernel_rfl]
    exact allM_nil) (fun R x k => q124 F138 F139 F124 R x k)
abbrev FT86 : Type 1 := (R : Type) → Tq7 → Int → (Int → Tq7 → Int → Option R) → Option R
def en86 (F : FT86) : Ent := ⟨86, [(false, Kq7), (false, (.int .i64))], [(false, (.int .u64)), (false, Kq7), (false, (.int .i64))], fun R x k => F R x.1 x.2.1 (fun y1 y2 y3 => k (y1, y2, y3, ()) ())⟩
def res86 : List (ResultVar × TypeId × Bool) := [(.tmp 4, 22, false), (.cell 5 30, 30, false), (.tmp 6, 32, false)]
abbrev LT86_7 : Type 1 := (R : Type) → Int → Int → Int → Tq7 → Tq7 → (Int → Tq7 → Tq7 → Option R) → Option R
def le86_7 (L : LT86_7) : LEnt := ⟨7, [.val 1 (.int .i64), .fix 2 (.ptr 0 [] Kq7), .fix 5 (.ptr 1 [] Kq7), .val 7 (.int .u64), .val 8 (.int .i64), .var 0 Kq7 false, .var 1 Kq7 false], 2, [(.exit 0, [.fix 2 (.ptr 0 [] Kq7), .fix 5 (.ptr 1 [] Kq7), .val 7 (.int .u64), .var 0 Kq7 false, .var 1 Kq7 false])], fun R x ke => L R x.1 x.2.1 x.2.2.1 x.2.2.2.1 x.2.2.2.2.1 (fun y1 y2 y3 => ke.1 (y1, y2, y3, ()))⟩
noncomputable def e86 (F58 : FT58) (F123 : FT123) (F124 : FT124) (L7 : LT86_7) (R : Type) : Env R := ⟨TT, EQT, 0, 45, ownOf [], callOf [en58 F58, en123 F123, en124 F124] R, loopOf [le86_7 L7] R, [], inlOf []⟩
def p86_7 (F124 : FT124) : (R : Type) → Int → Int → Int → Tq7 → Tq7 → (Int → Int → Int → Tq7 → Tq7 → Option R) → (Int → Tq7 → Tq7 → Option R) → Option R := fun R x1 x2 x3 x4 x5 kc k0 =>
let v6 := (decide (x3 < x1));
(match v6 with
| true => let v7 := (IntKind.u64.wrap ((2 : Int) * x2));
F124 R x4 x4.2.2.2.2.2.1 fun y8 =>
let v9 := (IntKind.u64.wrap (v7 + y8));
let v10 := (IntKind.u64.wrap (x4.2.2.2.2.2.1 + (1 : Int)));
let v11 := (IntKind.i64.wrap (x3 + (1 : Int)));
kc x1 v9 v11 (x4.1, x4.2.1, x4.2.2.1, x4.2.2.2.1, x4.2.2.2.2.1, v10, x4.2.2.2.2.2.2) x5
| false => k0 x2 x4 x5)
theorem q86_7 (F58 : FT58) (F123 : FT123) (F124 : FT124) (L7 : LT86_7) (R : Type) (x : HT (le86_7 L7).H) (kc : HT (le86_7 L7).H → Option R) (ke : KT R (le86_7 L7).exs) :
  exec (e86 F58 F123 F124 L7 R) (lcode 7 (codeOf Tryz.f86)) (stOf (le86_7 L7).H x 2) (roundK (le86_7 L7).H (le86_7 L7).exs kc ke) =
    p86_7 F124 R x.1 x.2.1 x.2.2.1 x.2.2.2.1 x.2.2.2.2.1 (fun x1 x2 x3 x4 x5 => kc (x1, x2, x3, x4, x5, ())) (fun y1 y2 y3 => ke.1 (y1, y2, y3, ())) := by kernel_rfl
noncomputable def G86_7 : Nat → LT86_7
  | 0 => fun _ _ _ _ _ _ _ => none
  | n + 1 => fun R x1 x2 x3 x4 x5 k0 => p86_7 F124 R x1 x2 x3 x4 x5 (fun x1 x2 x3 x4 x5 => G86_7 n R x1 x2 x3 x4 x5 k0) k0
def p86 (F58 : FT58) (F123 : FT123) (L7 : LT86_7) : FT86 := fun R a0 a1 k =>
F58 R a0 fun y1 =>
(match (!y1) with
| true => k (0 : Int) a0 (1 : Int)
| false => let v2 := (decide (a1 < (0 : Int)));
(match v2 with
| true => k (0 : Int) a0 (1 : Int)
| false => let v3 := (decide (a1 > (64 : Int)));
(match v3 with
| true => k (0 : Int) a0 (1 : Int)
| false => let v4 := (IntKind.u64.wrap a1);
F123 R a0 fun y5 =>
let v6 := (decide (v4 > y5));
(match v6 with
| true => k (0 : Int) a0 (8 : Int)
| false => L7 R a1 (0 : Int) (0 : Int) a0 ((0 : Int), ([] : (List Int)), (0 : Int), (List.replicate 32 (0 : Int)), (0 : Int), (0 : Int), ()) (fun x7 x8 x9 =>
k x7 x8 (0 : Int))))))
theorem q86 (F58 : FT58) (F123 : FT123) (F124 : FT124) (L7 : LT86_7) (F : FT86) (R : Type) (x : AT (en86 F).ins) (k : RT (en86 F).outs → PT (en86 F).ins → Option R) :
  xfun (e86 F58 F123 F124 L7 R) (codeOf Tryz.f86) res86 (avs (en86 F).ins x) (finK (en86 F).outs (en86 F).ins k) = p86 F58 F123 L7 R x.1 x.2.1 (fun y1 y2 y3 => k (y1, y2, y3, ()) ()) := by kernel_rfl
noncomputable def F86 : FT86 := p86 F58 F123 (G86_7 FUEL)
theorem env86 (R : Type) : EnvOK Tryz.prog (e86 F58 F123 F124 (G86_7 FUEL) R) := ⟨tabOK, eqOK, callOf_ok (allE_cons ok58 (allE_cons ok123 (allE_cons ok124 allE_nil))), noIns, inlOK_nil⟩
noncomputable def T86_7 : (R : Type) → HT (le86_7 (G86_7 FUEL)).H → (HT (le86_7 (G86_7 FUEL)).H → Option R) → KT R (le86_7 (G86_7 FUEL)).exs → Option R := fun R x kc ke => p86_7 F124 R x.1 x.2.1 x.2.2.1 x.2.2.2.1 x.2.2.2.2.1 (fun x1 x2 x3 x4 x5 => kc (x1, x2, x3, x4, x5, ())) (fun y1 y2 y3 => ke.1 (y1, y2, y3, ()))
theorem it86_7 : ∀ (n : Nat) (R : Type) (x : HT (le86_7 (G86_7 FUEL)).H) (ke : KT R (le86_7 (G86_7 FUEL)).exs), iter T86_7 n R x ke = G86_7 n R x.1 x.2.1 x.2.2.1 x.2.2.2.1 x.2.2.2.2.1 (fun y1 y2 y3 => ke.1 (y1, y2, y3, ())) := by
  intro n
  induction n with
  | zero => intro R x ke; rfl
  | succ n ih =>
    intro R x ke
    show T86_7 R x (fun x' => iter T86_7 n R x' ke) ke = _
    rw [show (fun x' => iter T86_7 n R x' ke) = fun x => G86_7 n R x.1 x.2.1 x.2.2.1 x.2.2.2.1 x.2.2.2.2.1 (fun y1 y2 y3 => ke.1 (y1, y2, y3, ())) from funext fun x' => ih R x' ke]
    rfl
theorem lok86_7 : (le86_7 (G86_7 FUEL)).OK Tryz.prog 0 45 (lcode 7 (codeOf Tryz.f86)) := fun R x ke r h =>
  iter_sound (fun R => e86 F58 F123 F124 (G86_7 FUEL) R) 0 45 (fun _ => rfl) (fun _ => rfl) (fun R => env86 R) mixed (by
    intro R
    rw [show loopsOf (lcode 7 (codeOf Tryz.f86)) = [] from by kernel_rfl]
    exact allM_nil) (T := T86_7) (fun R x kc ke => q86_7 F58 F123 F124 (G86_7 FUEL) R x kc ke) FUEL R x ke r ((it86_7 FUEL R x ke).trans h)
theorem ok86 : (en86 F86).OK Tryz.prog :=
  ent_ok (Ef := fun R => e86 F58 F123 F124 (G86_7 FUEL) R) (fun R => env86 R) mixed Tryz.func86 (body := codeOf Tryz.f86) (by kernel_rfl) (by kernel_rfl) (np := 0) (nt := 45) (fun _ => rfl) (fun _ => rfl) (by kernel_rfl) (res := res86) (by kernel_rfl) (fun _ => rfl) (fun _ => Nat.le_of_ble_eq_true rfl) (by
    intro R
    rw [show loopsOf (codeOf Tryz.f86) = [lcode 7 (codeOf Tryz.f86)] from by kernel_rfl]
    exact (allM_cons (loop_ok2 (e := le86_7 (G86_7 FUEL)) rfl rfl lok86_7) allM_nil)) (fun R x k => q86 F58 F123 F124 (G86_7 FUEL) F86 R x k)
abbrev FT46 : Type 1 := (R : Type) → Tq7 → Int → Int → (Int → Tq7 → Int → Option R) → Option R
def en46 (F : FT46) : Ent := ⟨46, [(false, Kq7), (false, (.int .u64)), (false, (.int .i64))], [(false, (.int .u64)), (false, Kq7), (false, (.int .i64))], fun R x k => F R x.1 x.2.1 x.2.2.1 (fun y1 y2 y3 => k (y1, y2, y3, ()) ())⟩
def res46 : List (ResultVar × TypeId × Bool) := [(.tmp 6, 22, false), (.cell 7 30, 30, false), (.tmp 8, 32, false)]
abbrev LT46_4 : Type 1 := (R : Type) → Int → Int → Int → Tq7 → Tq7 → (Int → Int → Tq7 → Option R) → (Tq7 → Tq7 → Option R) → Option R
def le46_4 (L : LT46_4) : LEnt := ⟨4, [.val 1 (.int .u64), .val 2 (.int .i64), .fix 3 (.ptr 0 [] Kq7), .fix 7 (.ptr 1 [] Kq7), .val 9 (.int .i64), .var 0 Kq7 false, .var 1 Kq7 false], 2, [(.ret, [.val 6 (.int .u64), .fix 7 (.ptr 1 [] Kq7), .val 8 (.int .i64), .var 1 Kq7 false]), (.exit 0, [.fix 3 (.ptr 0 [] Kq7), .fix 7 (.ptr 1 [] Kq7), .var 0 Kq7 false, .var 1 Kq7 false])], fun R x ke => L R x.1 x.2.1 x.2.2.1 x.2.2.2.1 x.2.2.2.2.1 (fun y1 y2 y3 => ke.1 (y1, y2, y3, ())) (fun y1 y2 => ke.2.1 (y1, y2, ()))⟩
noncomputable def e46 (F58 : FT58) (F67 : FT67) (F86 : FT86) (L4 : LT46_4) (R : Type) : Env R := ⟨TT, EQT, 0, 57, ownOf [], callOf [en58 F58, en67 F67, en86 F86] R, loopOf [le46_4 L4] R, [], inlOf []⟩
def p46_4 (F67 : FT67) (F86 : FT86) : (R : Type) → Int → Int → Int → Tq7 → Tq7 → (Int → Int → Int → Tq7 → Tq7 → Option R) → (Int → Int → Tq7 → Option R) → (Tq7 → Tq7 → Option R) → Option R := fun R x1 x2 x3 x4 x5 kc k0 k1 =>
let v6 := (decide (x3 < x2));
(match v6 with
| true => F67 R x1 fun y7 =>
F86 R x4 y7 fun y8 y9 y10 =>
let v11 := (y10 != (0 : Int));
(match v11 with
| true => k0 (0 : Int) y10 x4
| false => let v12 := (decide (y8 < x1));
(match v12 with
| true => k0 y8 (0 : Int) y9
| false => let v13 := (IntKind.i64.wrap (x3 + (1 : Int)));
kc x1 x2 v13 y9 x5))
| false => k1 x4 x5)
theorem q46_4 (F58 : FT58) (F67 : FT67) (F86 : FT86) (L4 : LT46_4) (R : Type) (x : HT (le46_4 L4).H) (kc : HT (le46_4 L4).H → Option R) (ke : KT R (le46_4 L4).exs) :
  exec (e46 F58 F67 F86 L4 R) (lcode 4 (codeOf Tryz.f46)) (stOf (le46_4 L4).H x 2) (roundK (le46_4 L4).H (le46_4 L4).exs kc ke) =
    p46_4 F67 F86 R x.1 x.2.1 x.2.2.1 x.2.2.2.1 x.2.2.2.2.1 (fun x1 x2 x3 x4 x5 => kc (x1, x2, x3, x4, x5, ())) (fun y1 y2 y3 => ke.1 (y1, y2, y3, ())) (fun y1 y2 => ke.2.1 (y1, y2, ())) := by kernel_rfl
noncomputable def G46_4 : Nat → LT46_4
  | 0 => fun _ _ _ _ _ _ _ _ => none
  | n + 1 => fun R x1 x2 x3 x4 x5 k0 k1 => p46_4 F67 F86 R x1 x2 x3 x4 x5 (fun x1 x2 x3 x4 x5 => G46_4 n R x1 x2 x3 x4 x5 k0 k1) k0 k1
def p46 (F58 : FT58) (L4 : LT46_4) : FT46 := fun R a0 a1 a2 k =>
F58 R a0 fun y1 =>
(match (!y1) with
| true => k (0 : Int) a0 (1 : Int)
| false => let v2 := (decide (a1 < (1 : Int)));
(match v2 with
| true => k (0 : Int) a0 (1 : Int)
| false => let v3 := (decide (a1 ≥ (9223372036854775808 : Int)));
(match v3 with
| true => k (0 : Int) a0 (1 : Int)
| false => let v4 := (decide (a2 < (1 : Int)));
(match v4 with
| true => k (0 : Int) a0 (1 : Int)
| false => let v5 := (decide (a2 > (64 : Int)));
(match v5 with
| true => k (0 : Int) a0 (1 : Int)
| false => L4 R a1 a2 (0 : Int) a0 ((0 : Int), ([] : (List Int)), (0 : Int), (List.replicate 32 (0 : Int)), (0 : Int), (0 : Int), ()) (fun x6 x7 x8 =>
k x6 x8 x7) (fun x9 x10 =>
k (0 : Int) x9 (9 : Int)))))))
theorem q46 (F58 : FT58) (F67 : FT67) (F86 : FT86) (L4 : LT46_4) (F : FT46) (R : Type) (x : AT (en46 F).ins) (k : RT (en46 F).outs → PT (en46 F).ins → Option R) :
  xfun (e46 F58 F67 F86 L4 R) (codeOf Tryz.f46) res46 (avs (en46 F).ins x) (finK (en46 F).outs (en46 F).ins k) = p46 F58 L4 R x.1 x.2.1 x.2.2.1 (fun y1 y2 y3 => k (y1, y2, y3, ()) ()) := by kernel_rfl
noncomputable def F46 : FT46 := p46 F58 (G46_4 FUEL)
theorem env46 (R : Type) : EnvOK Tryz.prog (e46 F58 F67 F86 (G46_4 FUEL) R) := ⟨tabOK, eqOK, callOf_ok (allE_cons ok58 (allE_cons ok67 (allE_cons ok86 allE_nil))), noIns, inlOK_nil⟩
noncomputable def T46_4 : (R : Type) → HT (le46_4 (G46_4 FUEL)).H → (HT (le46_4 (G46_4 FUEL)).H → Option R) → KT R (le46_4 (G46_4 FUEL)).exs → Option R := fun R x kc ke => p46_4 F67 F86 R x.1 x.2.1 x.2.2.1 x.2.2.2.1 x.2.2.2.2.1 (fun x1 x2 x3 x4 x5 => kc (x1, x2, x3, x4, x5, ())) (fun y1 y2 y3 => ke.1 (y1, y2, y3, ())) (fun y1 y2 => ke.2.1 (y1, y2, ()))
theorem it46_4 : ∀ (n : Nat) (R : Type) (x : HT (le46_4 (G46_4 FUEL)).H) (ke : KT R (le46_4 (G46_4 FUEL)).exs), iter T46_4 n R x ke = G46_4 n R x.1 x.2.1 x.2.2.1 x.2.2.2.1 x.2.2.2.2.1 (fun y1 y2 y3 => ke.1 (y1, y2, y3, ())) (fun y1 y2 => ke.2.1 (y1, y2, ())) := by
  intro n
  induction n with
  | zero => intro R x ke; rfl
  | succ n ih =>
    intro R x ke
    show T46_4 R x (fun x' => iter T46_4 n R x' ke) ke = _
    rw [show (fun x' => iter T46_4 n R x' ke) = fun x => G46_4 n R x.1 x.2.1 x.2.2.1 x.2.2.2.1 x.2.2.2.2.1 (fun y1 y2 y3 => ke.1 (y1, y2, y3, ())) (fun y1 y2 => ke.2.1 (y1, y2, ())) from funext fun x' => ih R x' ke]
    rfl
theorem lok46_4 : (le46_4 (G46_4 FUEL)).OK Tryz.prog 0 57 (lcode 4 (codeOf Tryz.f46)) := fun R x ke r h =>
  iter_sound (fun R => e46 F58 F67 F86 (G46_4 FUEL) R) 0 57 (fun _ => rfl) (fun _ => rfl) (fun R => env46 R) mixed (by
    intro R
    rw [show loopsOf (lcode 4 (codeOf Tryz.f46)) = [] from by kernel_rfl]
    exact allM_nil) (T := T46_4) (fun R x kc ke => q46_4 F58 F67 F86 (G46_4 FUEL) R x kc ke) FUEL R x ke r ((it46_4 FUEL R x ke).trans h)
theorem ok46 : (en46 F46).OK Tryz.prog :=
  ent_ok (Ef := fun R => e46 F58 F67 F86 (G46_4 FUEL) R) (fun R => env46 R) mixed Tryz.func46 (body := codeOf Tryz.f46) (by kernel_rfl) (by kernel_rfl) (np := 0) (nt := 57) (fun _ => rfl) (fun _ => rfl) (by kernel_rfl) (res := res46) (by kernel_rfl) (fun _ => rfl) (fun _ => Nat.le_of_ble_eq_true rfl) (by
    intro R
    rw [show loopsOf (codeOf Tryz.f46) = [lcode 4 (codeOf Tryz.f46)] from by kernel_rfl]
    exact (allM_cons (loop_ok2 (e := le46_4 (G46_4 FUEL)) rfl rfl lok46_4) allM_nil)) (fun R x k => q46 F58 F67 F86 (G46_4 FUEL) F46 R x k)
abbrev FT100 : Type 1 := (R : Type) → (List Int) → Int → (Int → Int → Option R) → Option R
def en100 (F : FT100) : Ent := ⟨100, [(false, (.sl (.int .u64))), (false, (.int .u64))], [(false, (.int .i64)), (false, (.int .i64))], fun R x k => F R x.1 x.2.1 (fun y1 y2 => k (y1, y2, ()) ())⟩
def res100 : List (ResultVar × TypeId × Bool) := [(.tmp 4, 3, false), (.tmp 5, 32, false)]
abbrev LT100_2 : Type 1 := (R : Type) → (List Int) → Int → Int → (Int → Int → Option R) → (Option R) → Option R
def le100_2 (L : LT100_2) : LEnt := ⟨2, [.val 0 (.sl (.int .u64)), .val 1 (.int .u64), .val 6 (.int .i64)], 0, [(.ret, [.val 4 (.int .i64), .val 5 (.int .i64)]), (.exit 0, [])], fun R x ke => L R x.1 x.2.1 x.2.2.1 (fun y1 y2 => ke.1 (y1, y2, ())) (ke.2.1 ())⟩
noncomputable def e100 (L2 : LT100_2) (R : Type) : Env R := ⟨TT, EQT, 0, 26, ownOf [], callOf [] R, loopOf [le100_2 L2] R, [], inlOf []⟩
def p100_2 : (R : Type) → (List Int) → Int → Int → ((List Int) → Int → Int → Option R) → (Int → Int → Option R) → (Option R) → Option R := fun R x1 x2 x3 kc k0 k1 =>
let v4 := (List.length x1 : Int);
let v5 := (decide (x3 < v4));
(match v5 with
| true => (match (bnd x3 (List.length x1 : Int)) with
| true => let v6 := (List.getD x1 (Int.toNat x3) (0 : Int));
let v7 := (decide (x2 < v6));
(match v7 with
| true => k0 x3 (0 : Int)
| false => (match (bnd x3 (List.length x1 : Int)) with
| true => let v8 := (List.getD x1 (Int.toNat x3) (0 : Int));
let v9 := (IntKind.u64.wrap (x2 - v8));
let v10 := (IntKind.i64.wrap (x3 + (1 : Int)));
kc x1 v9 v10
| false => none))
| false => none)
| false => k1)
theorem q100_2 (L2 : LT100_2) (R : Type) (x : HT (le100_2 L2).H) (kc : HT (le100_2 L2).H → Option R) (ke : KT R (le100_2 L2).exs) :
  exec (e100 L2 R) (lcode 2 (codeOf Tryz.f100)) (stOf (le100_2 L2).H x 0) (roundK (le100_2 L2).H (le100_2 L2).exs kc ke) =
    p100_2 R x.1 x.2.1 x.2.2.1 (fun x1 x2 x3 => kc (x1, x2, x3, ())) (fun y1 y2 => ke.1 (y1, y2, ())) (ke.2.1 ()) := by kernel_rfl
noncomputable def G100_2 : Nat → LT100_2
  | 0 => fun _ _ _ _ _ _ => none
  | n + 1 => fun R x1 x2 x3 k0 k1 => p100_2 R x1 x2 x3 (fun x1 x2 x3 => G100_2 n R x1 x2 x3 k0 k1) k0 k1
def p100 (L2 : LT100_2) : FT100 := fun R a0 a1 k =>
L2 R a0 a1 (0 : Int) (fun x1 x2 =>
k x1 x2) (k (0 : Int) (3 : Int))
theorem q100 (L2 : LT100_2) (F : FT100) (R : Type) (x : AT (en100 F).ins) (k : RT (en100 F).outs → PT (en100 F).ins → Option R) :
  xfun (e100 L2 R) (codeOf Tryz.f100) res100 (avs (en100 F).ins x) (finK (en100 F).outs (en100 F).ins k) = p100 L2 R x.1 x.2.1 (fun y1 y2 => k (y1, y2, ()) ()) := by kernel_rfl
noncomputable def F100 : FT100 := p100 (G100_2 FUEL)
theorem env100 (R : Type) : EnvOK Tryz.prog (e100 (G100_2 FUEL) R) := ⟨tabOK, eqOK, callOf_ok allE_nil, noIns, inlOK_nil⟩
noncomputable def T100_2 : (R : Type) → HT (le100_2 (G100_2 FUEL)).H → (HT (le100_2 (G100_2 FUEL)).H → Option R) → KT R (le100_2 (G100_2 FUEL)).exs → Option R := fun R x kc ke => p100_2 R x.1 x.2.1 x.2.2.1 (fun x1 x2 x3 => kc (x1, x2, x3, ())) (fun y1 y2 => ke.1 (y1, y2, ())) (ke.2.1 ())
theorem it100_2 : ∀ (n : Nat) (R : Type) (x : HT (le100_2 (G100_2 FUEL)).H) (ke : KT R (le100_2 (G100_2 FUEL)).exs), iter T100_2 n R x ke = G100_2 n R x.1 x.2.1 x.2.2.1 (fun y1 y2 => ke.1 (y1, y2, ())) (ke.2.1 ()) := by
  intro n
  induction n with
  | zero => intro R x ke; rfl
  | succ n ih =>
    intro R x ke
    show T100_2 R x (fun x' => iter T100_2 n R x' ke) ke = _
    rw [show (fun x' => iter T100_2 n R x' ke) = fun x => G100_2 n R x.1 x.2.1 x.2.2.1 (fun y1 y2 => ke.1 (y1, y2, ())) (ke.2.1 ()) from funext fun x' => ih R x' ke]
    rfl
theorem lok100_2 : (le100_2 (G100_2 FUEL)).OK Tryz.prog 0 26 (lcode 2 (codeOf Tryz.f100)) := fun R x ke r h =>
  iter_sound (fun R => e100 (G100_2 FUEL) R) 0 26 (fun _ => rfl) (fun _ => rfl) (fun R => env100 R) mixed (by
    intro R
    rw [show loopsOf (lcode 2 (codeOf Tryz.f100)) = [] from by kernel_rfl]
    exact allM_nil) (T := T100_2) (fun R x kc ke => q100_2 (G100_2 FUEL) R x kc ke) FUEL R x ke r ((it100_2 FUEL R x ke).trans h)
theorem ok100 : (en100 F100).OK Tryz.prog :=
  ent_ok (Ef := fun R => e100 (G100_2 FUEL) R) (fun R => env100 R) mixed Tryz.func100 (body := codeOf Tryz.f100) (by kernel_rfl) (by kernel_rfl) (np := 0) (nt := 26) (fun _ => rfl) (fun _ => rfl) (by kernel_rfl) (res := res100) (by kernel_rfl) (fun _ => rfl) (fun _ => Nat.le_of_ble_eq_true rfl) (by
    intro R
    rw [show loopsOf (codeOf Tryz.f100) = [lcode 2 (codeOf Tryz.f100)] from by kernel_rfl]
    exact (allM_cons (loop_ok2 (e := le100_2 (G100_2 FUEL)) rfl rfl lok100_2) allM_nil)) (fun R x k => q100 (G100_2 FUEL) F100 R x k)
abbrev FT24 : Type 1 := (R : Type) → (List Int) → Int → Tq7 → Int → ((List Int) → Tq7 → Int → Option R) → Option R
def en24 (F : FT24) : Ent := ⟨24, [(false, (.sl (.int .u64))), (false, (.int .i64)), (false, Kq7), (false, (.int .i64))], [(false, (.sl (.int .i64))), (false, Kq7), (false, (.int .i64))], fun R x k => F R x.1 x.2.1 x.2.2.1 x.2.2.2.1 (fun y1 y2 y3 => k (y1, y2, y3, ()) ())⟩
def res24 : List (ResultVar × TypeId × Bool) := [(.tmp 8, 42, false), (.cell 9 30, 30, false), (.tmp 10, 32, false)]
abbrev LT24_7 : Type 1 := (R : Type) → Int → Int → Tq7 → Tq7 → (List Int) → (List Int) → (Int → Tq7 → Option R) → (Tq7 → Tq7 → (List Int) → Option R) → Option R
def le24_7 (L : LT24_7) : LEnt := ⟨7, [.val 1 (.int .i64), .val 3 (.int .i64), .fix 6 (.ptr 0 [] Kq7), .fix 9 (.ptr 1 [] Kq7), .fix 11 (.own 2 0), .fix 12 (.own 3 0), .var 0 Kq7 false, .var 1 Kq7 false, .row 2 (.int .u64) false, .row 3 (.int .i64) false], 4, [(.ret, [.fix 8 .nil, .fix 9 (.ptr 1 [] Kq7), .val 10 (.int .i64), .var 1 Kq7 false]), (.exit 0, [.fix 6 (.ptr 0 [] Kq7), .fix 9 (.ptr 1 [] Kq7), .fix 12 (.own 3 0), .var 0 Kq7 false, .var 1 Kq7 false, .row 3 (.int .i64) false])], fun R x ke => L R x.1 x.2.1 x.2.2.1 x.2.2.2.1 x.2.2.2.2.1 x.2.2.2.2.2.1 (fun y1 y2 => ke.1 (y1, y2, ())) (fun y1 y2 y3 => ke.2.1 (y1, y2, y3, ()))⟩
noncomputable def e60i0 (F46 : FT46) (F52 : FT52) (F100 : FT100) (R : Type) : Env R := ⟨TT, EQT, 0, 47, ownOf [], callOf [en46 F46, en52 F52, en100 F100] R, fun _ _ _ => none, [], inlOf []⟩
theorem env60i0 (R : Type) : EnvOK Tryz.prog (e60i0 F46 F52 F100 R) := ⟨tabOK, eqOK, callOf_ok (allE_cons ok46 (allE_cons ok52 (allE_cons ok100 allE_nil))), noIns, inlOK_nil⟩
noncomputable def e24 (F46 : FT46) (F52 : FT52) (F58 : FT58) (F59 : FT59) (F100 : FT100) (L7 : LT24_7) (R : Type) : Env R := ⟨TT, EQT, 0, 70, ownOf [(5, 0), (6, 0), (8, 3)], callOf [en46 F46, en52 F52, en58 F58, en59 F59, en100 F100] R, loopOf [le24_7 L7] R, [], inlOf [(60, xinl (e60i0 F46 F52 F100 R) (codeOf Tryz.f60) [.tmp 6, .cell 7 30, .tmp 8] 3)]⟩
def p24_7 (F46 : FT46) (F52 : FT52) (F100 : FT100) : (R : Type) → Int → Int → Tq7 → Tq7 → (List Int) → (List Int) → (Int → Int → Tq7 → Tq7 → (List Int) → (List Int) → Option R) → (Int → Tq7 → Option R) → (Tq7 → Tq7 → (List Int) → Option R) → Option R := fun R x1 x2 x3 x4 x5 x6 kc k0 k1 =>
let v7 := (List.length x6 : Int);
let v8 := (decide (v7 < x1));
(match v8 with
| true => F52 R x5 fun y9 y10 =>
(match (!y10) with
| true => k0 (11 : Int) x3
| false => let v11 := (y9 == (0 : Int));
(match v11 with
| true => k0 (10 : Int) x3
| false => F46 R x3 y9 x2 fun y12 y13 y14 =>
let v15 := (y14 != (0 : Int));
(match v15 with
| true => let v16 := (y14 != (0 : Int));
(match v16 with
| true => k0 y14 y13
| false => (match (bnd (0 : Int) (List.length x5 : Int)) with
| true => let v17 : (List Int) := (List.set x5 0 (0 : Int));
let v18 : (List Int) := ([(0 : Int)] : (List Int));
(match (decide (List.length x6 + List.length v18 ≤ 17592186044416)) with
| true => let v19 : (List Int) := (x6 ++ v18);
kc x1 x2 y13 x4 v17 v19
| false => none)
| false => none))
| false => F100 R x5 y12 fun y20 y21 =>
(match (bnd y20 (List.length x5 : Int)) with
| true => let v22 : (List Int) := (List.set x5 (Int.toNat y20) (0 : Int));
let v23 : (List Int) := ([y20] : (List Int));
(match (decide (List.length x6 + List.length v23 ≤ 17592186044416)) with
| true => let v24 : (List Int) := (x6 ++ v23);
kc x1 x2 y13 x4 v22 v24
| false => none)
| false => none))))
| false => k1 x3 x4 x6)
theorem q24_7 (F46 : FT46) (F52 : FT52) (F58 : FT58) (F59 : FT59) (F100 : FT100) (L7 : LT24_7) (R : Type) (x : HT (le24_7 L7).H) (kc : HT (le24_7 L7).H → Option R) (ke : KT R (le24_7 L7).exs) :
  exec (e24 F46 F52 F58 F59 F100 L7 R) (lcode 7 (codeOf Tryz.f24)) (stOf (le24_7 L7).H x 4) (roundK (le24_7 L7).H (le24_7 L7).exs kc ke) =
    p24_7 F46 F52 F100 R x.1 x.2.1 x.2.2.1 x.2.2.2.1 x.2.2.2.2.1 x.2.2.2.2.2.1 (fun x1 x2 x3 x4 x5 x6 => kc (x1, x2, x3, x4, x5, x6, ())) (fun y1 y2 => ke.1 (y1, y2, ())) (fun y1 y2 y3 => ke.2.1 (y1, y2, y3, ())) := by kernel_rfl
noncomputable def G24_7 : Nat → LT24_7
  | 0 => fun _ _ _ _ _ _ _ _ _ => none
  | n + 1 => fun R x1 x2 x3 x4 x5 x6 k0 k1 => p24_7 F46 F52 F100 R x1 x2 x3 x4 x5 x6 (fun x1 x2 x3 x4 x5 x6 => G24_7 n R x1 x2 x3 x4 x5 x6 k0 k1) k0 k1
def p24 (F58 : FT58) (F59 : FT59) (L7 : LT24_7) : FT24 := fun R a0 a1 a2 a3 k =>
let v1 := (decide (a1 < (0 : Int)));
(match v1 with
| true => k ([] : (List Int)) a2 (1 : Int)
| false => let v2 := (decide (a1 > (256 : Int)));
(match v2 with
| true => k ([] : (List Int)) a2 (1 : Int)
| false => F58 R a2 fun y3 =>
(match (!y3) with
| true => k ([] : (List Int)) a2 (1 : Int)
| false => let v4 := (decide (a3 < (1 : Int)));
(match v4 with
| true => k ([] : (List Int)) a2 (1 : Int)
| false => let v5 := (decide (a3 > (64 : Int)));
(match v5 with
| true => k ([] : (List Int)) a2 (1 : Int)
| false => F59 R a0 fun y6 =>
let v7 := (decide (y6 < a1));
(match v7 with
| true => k ([] : (List Int)) a2 (12 : Int)
| false => let v8 : (List Int) := ([] : (List Int));
(match (decide (List.length v8 + List.length a0 ≤ 17592186044416)) with
| true => let v9 : (List Int) := (v8 ++ a0);
L7 R a1 a3 a2 ((0 : Int), ([] : (List Int)), (0 : Int), (List.replicate 32 (0 : Int)), (0 : Int), (0 : Int), ()) v9 ([] : (List Int)) (fun x10 x11 =>
k ([] : (List Int)) x11 x10) (fun x12 x13 x14 =>
k x14 x12 (0 : Int))
| false => none)))))))
theorem q24 (F46 : FT46) (F52 : FT52) (F58 : FT58) (F59 : FT59) (F100 : FT100) (L7 : LT24_7) (F : FT24) (R : Type) (x : AT (en24 F).ins) (k : RT (en24 F).outs → PT (en24 F).ins → Option R) :
  xfun (e24 F46 F52 F58 F59 F100 L7 R) (codeOf Tryz.f24) res24 (avs (en24 F).ins x) (finK (en24 F).outs (en24 F).ins k) = p24 F58 F59 L7 R x.1 x.2.1 x.2.2.1 x.2.2.2.1 (fun y1 y2 y3 => k (y1, y2, y3, ()) ()) := by kernel_rfl
noncomputable def F24 : FT24 := p24 F58 F59 (G24_7 FUEL)
theorem env24 (R : Type) : EnvOK Tryz.prog (e24 F46 F52 F58 F59 F100 (G24_7 FUEL) R) := ⟨tabOK, eqOK, callOf_ok (allE_cons ok46 (allE_cons ok52 (allE_cons ok58 (allE_cons ok59 (allE_cons ok100 allE_nil))))), noIns, (inlOK_cons (xinl_sound (env60i0 R) mixed Tryz.func60 (body := codeOf Tryz.f60) (by kernel_rfl) (by kernel_rfl) (by kernel_rfl) (res := [.tmp 6, .cell 7 30, .tmp 8]) (by kernel_rfl) (n := 3) (Nat.le_of_ble_eq_true rfl) (by kernel_rfl)) inlOK_nil)⟩
noncomputable def T24_7 : (R : Type) → HT (le24_7 (G24_7 FUEL)).H → (HT (le24_7 (G24_7 FUEL)).H → Option R) → KT R (le24_7 (G24_7 FUEL)).exs → Option R := fun R x kc ke => p24_7 F46 F52 F100 R x.1 x.2.1 x.2.2.1 x.2.2.2.1 x.2.2.2.2.1 x.2.2.2.2.2.1 (fun x1 x2 x3 x4 x5 x6 => kc (x1, x2, x3, x4, x5, x6, ())) (fun y1 y2 => ke.1 (y1, y2, ())) (fun y1 y2 y3 => ke.2.1 (y1, y2, y3, ()))
theorem it24_7 : ∀ (n : Nat) (R : Type) (x : HT (le24_7 (G24_7 FUEL)).H) (ke : KT R (le24_7 (G24_7 FUEL)).exs), iter T24_7 n R x ke = G24_7 n R x.1 x.2.1 x.2.2.1 x.2.2.2.1 x.2.2.2.2.1 x.2.2.2.2.2.1 (fun y1 y2 => ke.1 (y1, y2, ())) (fun y1 y2 y3 => ke.2.1 (y1, y2, y3, ())) := by
  intro n
  induction n with
  | zero => intro R x ke; rfl
  | succ n ih =>
    intro R x ke
    show T24_7 R x (fun x' => iter T24_7 n R x' ke) ke = _
    rw [show (fun x' => iter T24_7 n R x' ke) = fun x => G24_7 n R x.1 x.2.1 x.2.2.1 x.2.2.2.1 x.2.2.2.2.1 x.2.2.2.2.2.1 (fun y1 y2 => ke.1 (y1, y2, ())) (fun y1 y2 y3 => ke.2.1 (y1, y2, y3, ())) from funext fun x' => ih R x' ke]
    rfl
theorem lok24_7 : (le24_7 (G24_7 FUEL)).OK Tryz.prog 0 70 (lcode 7 (codeOf Tryz.f24)) := fun R x ke r h =>
  iter_sound (fun R => e24 F46 F52 F58 F59 F100 (G24_7 FUEL) R) 0 70 (fun _ => rfl) (fun _ => rfl) (fun R => env24 R) mixed (by
    intro R
    rw [show loopsOf (lcode 7 (codeOf Tryz.f24)) = [] from by kernel_rfl]
    exact allM_nil) (T := T24_7) (fun R x kc ke => q24_7 F46 F52 F58 F59 F100 (G24_7 FUEL) R x kc ke) FUEL R x ke r ((it24_7 FUEL R x ke).trans h)
theorem ok24 : (en24 F24).OK Tryz.prog :=
  ent_ok (Ef := fun R => e24 F46 F52 F58 F59 F100 (G24_7 FUEL) R) (fun R => env24 R) mixed Tryz.func24 (body := codeOf Tryz.f24) (by kernel_rfl) (by kernel_rfl) (np := 0) (nt := 70) (fun _ => rfl) (fun _ => rfl) (by kernel_rfl) (res := res24) (by kernel_rfl) (fun _ => rfl) (fun _ => Nat.le_of_ble_eq_true rfl) (by
    intro R
    rw [show loopsOf (codeOf Tryz.f24) = [lcode 7 (codeOf Tryz.f24)] from by kernel_rfl]
    exact (allM_cons (loop_ok2 (e := le24_7 (G24_7 FUEL)) rfl rfl lok24_7) allM_nil)) (fun R x k => q24 F46 F52 F58 F59 F100 (G24_7 FUEL) F24 R x k)
abbrev FT20 : Type 1 := (R : Type) → (List Int) → Int → Tq7 → Int → ((List Int) → Tq7 → Int → Option R) → Option R
def en20 (F : FT20) : Ent := ⟨20, [(false, (.sl (.int .u64))), (false, (.int .i64)), (false, Kq7), (false, (.int .i64))], [(false, (.sl (.int .i64))), (false, Kq7), (false, (.int .i64))], fun R x k => F R x.1 x.2.1 x.2.2.1 x.2.2.2.1 (fun y1 y2 y3 => k (y1, y2, y3, ()) ())⟩
def p20 (F24 : FT24) (F51 : FT51) : FT20 := fun R a0 a1 a2 a3 k =>
F51 R a0 fun y1 y2 =>
let v3 := (y2 != (0 : Int));
(match v3 with
| true => k ([] : (List Int)) a2 y2
| false => F24 R a0 a1 a2 a3 fun y4 y5 y6 =>
k y4 y5 y6)
noncomputable def F20 : FT20 := p20 F24 F51
abbrev FT14 : Type 1 := (R : Type) → Tq7 → Tq7 → (Bool → Option R) → Option R
def en14 (F : FT14) : Ent := ⟨14, [(false, Kq7), (false, Kq7)], [(false, .bool)], fun R x k => F R x.1 x.2.1 (fun y1 => k (y1, ()) ())⟩
def res14 : List (ResultVar × TypeId × Bool) := [(.tmp 4, 4, false)]
noncomputable def e14 (R : Type) : Env R := ⟨TT, EQT, 0, 47, ownOf [], callOf [] R, loopOf [] R, [], inlOf []⟩
def p14 : FT14 := fun R a0 a1 k =>
let v1 := (a0.1 == a1.1);
(match v1 with
| true => let v2 : ByteArray := (strOf a0.2.1);
let v3 : ByteArray := (strOf a1.2.1);
let v4 := (ByteArray.toList v2 == ByteArray.toList v3);
(match v4 with
| true => let v5 := (a0.2.2.1 == a1.2.2.1);
(match v5 with
| true => let v6 := (Kd.eqv (.arr 32 (.int .u8)) a0.2.2.2.1 a1.2.2.2.1);
(match v6 with
| true => let v7 := (a0.2.2.2.2.1 == a1.2.2.2.2.1);
(match v7 with
| true => let v8 := (a0.2.2.2.2.2.1 == a1.2.2.2.2.2.1);
k v8
| false => k false)
| false => k false)
| false => k false)
| false => k false)
| false => k false)
theorem q14 (F : FT14) (R : Type) (x : AT (en14 F).ins) (k : RT (en14 F).outs → PT (en14 F).ins → Option R) :
  xfun (e14 R) (codeOf Tryz.f14) res14 (avs (en14 F).ins x) (finK (en14 F).outs (en14 F).ins k) = p14 R x.1 x.2.1 (fun y1 => k (y1, ()) ()) := by kernel_rfl
noncomputable def F14 : FT14 := p14
theorem env14 (R : Type) : EnvOK Tryz.prog (e14 R) := ⟨tabOK, eqOK, callOf_ok allE_nil, noIns, inlOK_nil⟩
theorem ok14 : (en14 F14).OK Tryz.prog :=
  ent_ok (Ef := fun R => e14 R) (fun R => env14 R) mixed Tryz.func14 (body := codeOf Tryz.f14) (by kernel_rfl) (by kernel_rfl) (np := 0) (nt := 47) (fun _ => rfl) (fun _ => rfl) (by kernel_rfl) (res := res14) (by kernel_rfl) (fun _ => rfl) (fun _ => Nat.le_of_ble_eq_true rfl) (by
    intro R
    rw [show loopsOf (codeOf Tryz.f14) = [] from by kernel_rfl]
    exact allM_nil) (fun R x k => q14 F14 R x k)
end Go.PG
