/- A part of the proof over this seat (own work; the framework that reads a Go function as a pure one, or a use of it). No condition of its own. -/
import Derived.Test.YtapdakmnlclboaaA5
import Derived.Test.YtapdakmnlclboaaProg
import Derived.KernelRfl
set_option linter.unusedVariables false
set_option linter.unusedSimpArgs false
set_option linter.unusedSectionVars false
set_option maxRecDepth 100000
namespace Go.PG
open Go.Proofs
abbrev FT3 : Type 1 := (R : Type) → (List Int) → Int → (Bool → Option R) → Option R
def en3 (F : FT3) : Ent := ⟨3, [(false, (.sl (.int .u64))), (false, (.int .u8))], [(false, .bool)], fun R x k => F R x.1 x.2.1 (fun y1 => k (y1, ()) ())⟩
def res3 : List (ResultVar × TypeId × Bool) := [(.tmp 4, 4, false)]
abbrev LT3_8 : Type 1 := (R : Type) → (List Int) → Int → Int → Int → (List Int) → ((List Int) → Int → Int → (List Int) → Option R) → Option R
def le3_8 (L : LT3_8) : LEnt := ⟨8, [.val 0 (.sl (.int .u64)), .val 1 (.int .u8), .fix 5 (.own 0 0), .val 6 (.int .u64), .val 7 (.int .i64), .row 0 (.int .u64) false], 1, [(.exit 0, [.val 0 (.sl (.int .u64)), .val 1 (.int .u8), .fix 5 (.own 0 0), .val 6 (.int .u64), .row 0 (.int .u64) false])], fun R x ke => L R x.1 x.2.1 x.2.2.1 x.2.2.2.1 x.2.2.2.2.1 (fun y1 y2 y3 y4 => ke.1 (y1, y2, y3, y4, ()))⟩
abbrev LT3_22 : Type 1 := (R : Type) → Int → Int → Int → Int → Int → Int → (List Int) → Tq7 → (List Int) → (Bool → Option R) → (Int → Int → Int → Int → Int → (List Int) → (List Int) → Option R) → Option R
def le3_22 (L : LT3_22) : LEnt := ⟨22, [.fix 5 (.own 0 0), .val 6 (.int .u64), .val 8 (.int .u64), .val 9 (.int .i64), .val 10 (.int .i64), .fix 11 (.ptr 1 [] Kq7), .fix 13 (.own 2 0), .val 14 (.int .u64), .val 15 (.int .u64), .row 0 (.int .u64) true, .var 1 Kq7 false, .row 2 (.int .u64) false], 3, [(.ret, [.val 4 .bool]), (.exit 2, [.fix 5 (.own 0 0), .val 6 (.int .u64), .val 8 (.int .u64), .val 9 (.int .i64), .val 10 (.int .i64), .fix 13 (.own 2 0), .val 14 (.int .u64), .row 0 (.int .u64) true, .row 2 (.int .u64) false])], fun R x ke => L R x.1 x.2.1 x.2.2.1 x.2.2.2.1 x.2.2.2.2.1 x.2.2.2.2.2.1 x.2.2.2.2.2.2.1 x.2.2.2.2.2.2.2.1 x.2.2.2.2.2.2.2.2.1 (fun y1 => ke.1 (y1, ())) (fun y1 y2 y3 y4 y5 y6 y7 => ke.2.1 (y1, y2, y3, y4, y5, y6, y7, ()))⟩
abbrev LT3_35 : Type 1 := (R : Type) → Int → Int → Int → Int → Int → Int → (List Int) → (List Int) → (Bool → Option R) → (Int → Int → Option R) → Option R
def le3_35 (L : LT3_35) : LEnt := ⟨35, [.fix 5 (.own 0 0), .val 6 (.int .u64), .val 9 (.int .i64), .val 10 (.int .i64), .fix 13 (.own 2 0), .val 14 (.int .u64), .val 21 (.int .u64), .val 22 (.int .i64), .row 0 (.int .u64) true, .row 2 (.int .u64) false], 3, [(.ret, [.val 4 .bool]), (.exit 4, [.val 14 (.int .u64), .val 21 (.int .u64)])], fun R x ke => L R x.1 x.2.1 x.2.2.1 x.2.2.2.1 x.2.2.2.2.1 x.2.2.2.2.2.1 x.2.2.2.2.2.2.1 x.2.2.2.2.2.2.2.1 (fun y1 => ke.1 (y1, ())) (fun y1 y2 => ke.2.1 (y1, y2, ()))⟩
noncomputable def e3 (F8 : FT8) (F9 : FT9) (F10 : FT10) (F11 : FT11) (F12 : FT12) (F13 : FT13) (F14 : FT14) (L8 : LT3_8) (L22 : LT3_22) (L35 : LT3_35) (R : Type) : Env R := ⟨TT, EQT, 0, 165, ownOf [(5, 0)], callOf [en8 F8, en9 F9, en10 F10, en11 F11, en12 F12, en13 F13, en14 F14] R, loopOf [le3_8 L8, le3_22 L22, le3_35 L35] R, [], inlOf []⟩
def p3 (F8 : FT8) (F9 : FT9) (F10 : FT10) (F11 : FT11) (L8 : LT3_8) (L22 : LT3_22) (L35 : LT3_35) : FT3 := fun R a0 a1 k =>
F8 R  fun y1 =>
(match (!y1) with
| true => k false
| false => let v2 : Int := (List.length a0 : Int);
let v3 : Bool := (decide (v2 > (6 : Int)));
(match v3 with
| true => k true
| false => L8 R a0 a1 (0 : Int) (0 : Int) ([] : (List Int)) (fun x4 x5 x6 x7 =>
let v8 : Int := (List.length x4 : Int);
let v9 : Int := (IntKind.u64.wrap v8);
let v10 : Int := (Int.tmod x5 (2 : Int));
let v11 : Int := (IntKind.i64.wrap v10);
let v12 : Int := (IntKind.i64.wrap ((1 : Int) + v11));
let v13 : Bool := (x6 == (0 : Int));
(match v13 with
| true => k true
| false => let v14 : Int := (IntKind.u64.wrap (v9 * x6));
F9 R v14 fun y15 =>
let v16 : Int := (IntKind.i64.wrap (y15 * v12));
let v17 : Bool := (decide (v16 > (12 : Int)));
(match v17 with
| true => k true
| false => F10 R x7 fun y18 y19 =>
let v20 : Int := (List.length x4 : Int);
(match (decide (0 ≤ v20 ∧ v20 ≤ v20 ∧ v20 ≤ (17592186044416 : Int))) with
| true => let v21 : (List Int) := (List.replicate (Int.toNat v20) (0 : Int));
L22 R x6 v9 v12 y15 (0 : Int) (0 : Int) x7 y18 v21 (fun x22 =>
k x22) (fun x23 x24 x25 x26 x27 x28 x29 =>
F11 R (2 : Int) x26 fun y30 =>
let v31 : Int := (IntKind.u64.wrap (x24 * x23));
let v32 : Int := (IntKind.u64.wrap (y30 - v31));
F11 R v32 x25 fun y33 =>
L35 R x23 x25 x26 x27 y33 (0 : Int) x28 x29 (fun x34 =>
k x34) (fun x35 x36 =>
let v37 : Bool := (x35 == x36);
k v37))
| false => none))))))
theorem q3 (F8 : FT8) (F9 : FT9) (F10 : FT10) (F11 : FT11) (F12 : FT12) (F13 : FT13) (F14 : FT14) (L8 : LT3_8) (L22 : LT3_22) (L35 : LT3_35) (F : FT3) (R : Type) (x : AT (en3 F).ins) (k : RT (en3 F).outs → PT (en3 F).ins → Option R) :
  xfun (e3 F8 F9 F10 F11 F12 F13 F14 L8 L22 L35 R) (codeOf Try.f3) res3 (avs (en3 F).ins x) (finK (en3 F).outs (en3 F).ins k) = p3 F8 F9 F10 F11 L8 L22 L35 R x.1 x.2.1 (fun y1 => k (y1, ()) ()) := by kernel_rfl
abbrev FT15 : Type 1 := (R : Type) → (List Int) → Tq6 → (Bool → Option R) → Option R
def en15 (F : FT15) : Ent := ⟨15, [(false, (.sl (.int .u64))), (false, Kq6)], [(false, .bool)], fun R x k => F R x.1 x.2.1 (fun y1 => k (y1, ()) ())⟩
def p15 : FT15 := fun R a0 a1 k =>
let v1 : Int := (List.length a0 : Int);
let v2 : Bool := (decide (v1 > (200 : Int)));
(match v2 with
| true => k true
| false => let v3 : Int := (List.length a1.2.1 : Int);
let v4 : Bool := (decide (v3 > (500 : Int)));
k v4)
noncomputable def F15 : FT15 := p15
abbrev FT4 : Type 1 := (R : Type) → (List Int) → Tq6 → Int → (Bool → Option R) → Option R
def en4 (F : FT4) : Ent := ⟨4, [(false, (.sl (.int .u64))), (false, Kq6), (false, (.int .u8))], [(false, .bool)], fun R x k => F R x.1 x.2.1 x.2.2.1 (fun y1 => k (y1, ()) ())⟩
def res4 : List (ResultVar × TypeId × Bool) := [(.tmp 6, 4, false)]
noncomputable def e4 (F8 : FT8) (F15 : FT15) (F16 : FT16) (R : Type) : Env R := ⟨TT, EQT, 0, 52, ownOf [], callOf [en8 F8, en15 F15, en16 F16] R, loopOf [] R, [], inlOf []⟩
def p4 (F8 : FT8) (F15 : FT15) (F16 : FT16) : FT4 := fun R a0 a1 a2 k =>
F8 R  fun y1 =>
(match (!y1) with
| true => k false
| false => F15 R a0 a1 fun y2 =>
(match y2 with
| true => k true
| false => let v3 : Int := (Int.tmod a2 (64 : Int));
let v4 : Int := (IntKind.i64.wrap v3);
let v5 : Int := (IntKind.i64.wrap ((1 : Int) + v4));
F16 R a1 v5 a0 fun y6 y7 y8 =>
let v9 : Bool := (y8 != (0 : Int));
(match v9 with
| true => let v10 : Bool := (y6 == (0 : Int));
k v10
| false => let v11 : Bool := (decide (y6 ≥ (0 : Int)));
(match v11 with
| true => let v12 : Int := (List.length a0 : Int);
let v13 : Bool := (decide (y6 < v12));
(match v13 with
| true => (match (bnd y6 (List.length a0 : Int)) with
| true => let v14 : Int := (List.getD a0 (Int.toNat y6) (0 : Int));
let v15 : Bool := (decide (v14 > (0 : Int)));
(match v15 with
| true => let v16 : Bool := (decide (y7.2.2.2.2.2.1 ≥ a1.2.2.2.2.2.1));
k v16
| false => k false)
| false => none)
| false => k false)
| false => k false))))
theorem q4 (F8 : FT8) (F15 : FT15) (F16 : FT16) (F : FT4) (R : Type) (x : AT (en4 F).ins) (k : RT (en4 F).outs → PT (en4 F).ins → Option R) :
  xfun (e4 F8 F15 F16 R) (codeOf Try.f4) res4 (avs (en4 F).ins x) (finK (en4 F).outs (en4 F).ins k) = p4 F8 F15 F16 R x.1 x.2.1 x.2.2.1 (fun y1 => k (y1, ()) ()) := by kernel_rfl
abbrev FT52 : Type 1 := (R : Type) → Tq17 → Int → (Bool → Option R) → Option R
def en52 (F : FT52) : Ent := ⟨52, [(false, Kq17), (false, (.int .i64))], [(false, .bool)], fun R x k => F R x.1 x.2.1 (fun y1 => k (y1, ()) ())⟩
def res52 : List (ResultVar × TypeId × Bool) := [(.tmp 4, 4, false)]
noncomputable def e52 (R : Type) : Env R := ⟨TT, EQT, 0, 21, ownOf [], callOf [] R, loopOf [] R, [], inlOf []⟩
def p52 : FT52 := fun R a0 a1 k =>
let v1 : Bool := (decide (a1 ≥ (0 : Int)));
(match v1 with
| true => let v2 : Bool := (decide (a1 < (1024 : Int)));
(match v2 with
| true => let v3 : Bool := (decide (a0.2.1 > (0 : Int)));
(match v3 with
| true => let v4 : Bool := (decide (a0.2.1 ≤ (64 : Int)));
k v4
| false => k false)
| false => k false)
| false => k false)
theorem q52 (F : FT52) (R : Type) (x : AT (en52 F).ins) (k : RT (en52 F).outs → PT (en52 F).ins → Option R) :
  xfun (e52 R) (codeOf Try.f52) res52 (avs (en52 F).ins x) (finK (en52 F).outs (en52 F).ins k) = p52 R x.1 x.2.1 (fun y1 => k (y1, ()) ()) := by kernel_rfl
noncomputable def F52 : FT52 := p52
theorem env52 (R : Type) : EnvOK Try.prog (e52 R) := ⟨tabOK, eqOK, callOf_ok allE_nil, noIns, inlOK_nil⟩
theorem ok52 : (en52 F52).OK Try.prog :=
  ent_ok (Ef := fun R => e52 R) (fun R => env52 R) mixed Try.func52 (body := codeOf Try.f52) (by kernel_rfl) (by kernel_rfl) (np := 0) (nt := 21) (fun _ => rfl) (fun _ => rfl) (by kernel_rfl) (res := res52) (by kernel_rfl) (fun _ => rfl) (fun _ => Nat.le_of_ble_eq_true rfl) (by
    intro R
    rw [show loopsOf (codeOf Try.f52) = [] from by kernel_rfl]
    exact allM_nil) (fun R x k => q52 F52 R x k)
abbrev FT66 : Type 1 := (R : Type) → (List Int) → ((List Int) → Option R) → Option R
def en66 (F : FT66) : Ent := ⟨66, [(false, (.sl (.int .u64)))], [(true, (.int .u64))], fun R x k => F R x.1 (fun y1 => k (y1, ()) ())⟩
def e66 : Env (RT [(true, (.int .u64))]) := ⟨TT, EQT, 0, 8, ownOf [(2, 0), (3, 0)], fun _ _ _ => none, fun _ _ _ => none, [], inlOf []⟩
def F66 : FT66 := fun R a0 k => match decide (List.length ([] : (List Int)) + List.length a0 ≤ 17592186044416) with | true => k a0 | false => none
theorem ok66 : (en66 F66).OK Try.prog :=
  clone_ok (e := (.int .u64)) e66 ⟨tabOK, eqOK, (fun f b K r h => by cases h), noIns, inlOK_nil⟩ mixed Try.func66 (body := codeOf Try.f66) (by kernel_rfl) (by kernel_rfl) (by kernel_rfl) (res := [(.tmp 2, 22, true)]) (by kernel_rfl) rfl (by decide) (by kernel_rfl) (lim := 17592186044416) (by kernel_rfl) (fun l => by kernel_rfl)
abbrev FT67 : Type 1 := (R : Type) → Int → (Int → Option R) → Option R
def en67 (F : FT67) : Ent := ⟨67, [(false, (.int .i64))], [(false, (.int .i64))], fun R x k => F R x.1 (fun y1 => k (y1, ()) ())⟩
def res67 : List (ResultVar × TypeId × Bool) := [(.tmp 2, 3, false)]
noncomputable def e67 (R : Type) : Env R := ⟨TT, EQT, 0, 7, ownOf [], callOf [] R, loopOf [] R, [], inlOf []⟩
def p67 : FT67 := fun R a0 k =>
let v1 : Int := (IntKind.i64.wrap (0 - a0));
let v2 : Int := (iand .i64 a0 v1);
k v2
theorem q67 (F : FT67) (R : Type) (x : AT (en67 F).ins) (k : RT (en67 F).outs → PT (en67 F).ins → Option R) :
  xfun (e67 R) (codeOf Try.f67) res67 (avs (en67 F).ins x) (finK (en67 F).outs (en67 F).ins k) = p67 R x.1 (fun y1 => k (y1, ()) ()) := by kernel_rfl
noncomputable def F67 : FT67 := p67
theorem env67 (R : Type) : EnvOK Try.prog (e67 R) := ⟨tabOK, eqOK, callOf_ok allE_nil, noIns, inlOK_nil⟩
theorem ok67 : (en67 F67).OK Try.prog :=
  ent_ok (Ef := fun R => e67 R) (fun R => env67 R) mixed Try.func67 (body := codeOf Try.f67) (by kernel_rfl) (by kernel_rfl) (np := 0) (nt := 7) (fun _ => rfl) (fun _ => rfl) (by kernel_rfl) (res := res67) (by kernel_rfl) (fun _ => rfl) (fun _ => Nat.le_of_ble_eq_true rfl) (by
    intro R
    rw [show loopsOf (codeOf Try.f67) = [] from by kernel_rfl]
    exact allM_nil) (fun R x k => q67 F67 R x k)
abbrev FT38 : Type 1 := (R : Type) → (List Int) → (((List Int) × Unit) → Int → Option R) → Option R
def en38 (F : FT38) : Ent := ⟨38, [(false, (.sl (.int .u64)))], [(false, (.pair (.sl (.int .u64)) .unit)), (false, (.int .i64))], fun R x k => F R x.1 (fun y1 y2 => k (y1, y2, ()) ())⟩
def res38 : List (ResultVar × TypeId × Bool) := [(.cell 2 58, 58, false), (.tmp 3, 29, false)]
abbrev LT38_8 : Type 1 := (R : Type) → Int → ((List Int) × Unit) → (List Int) → (((List Int) × Unit) → (List Int) → Option R) → Option R
def le38_8 (L : LT38_8) : LEnt := ⟨8, [.fix 2 (.ptr 0 [] (.pair (.sl (.int .u64)) .unit)), .fix 6 (.own 1 0), .val 7 (.int .i64), .var 0 (.pair (.sl (.int .u64)) .unit) false, .row 1 (.int .u64) false], 2, [(.exit 0, [.fix 2 (.ptr 0 [] (.pair (.sl (.int .u64)) .unit)), .fix 6 (.own 1 0), .var 0 (.pair (.sl (.int .u64)) .unit) false, .row 1 (.int .u64) false])], fun R x ke => L R x.1 x.2.1 x.2.2.1 (fun y1 y2 => ke.1 (y1, y2, ()))⟩
noncomputable def e38 (F65 : FT65) (F66 : FT66) (F67 : FT67) (L8 : LT38_8) (R : Type) : Env R := ⟨TT, EQT, 0, 51, ownOf [], callOf [en65 F65, en66 F66, en67 F67] R, loopOf [le38_8 L8] R, [], inlOf []⟩
def p38_8 (F67 : FT67) : (R : Type) → Int → ((List Int) × Unit) → (List Int) → (Int → ((List Int) × Unit) → (List Int) → Option R) → (((List Int) × Unit) → (List Int) → Option R) → Option R := fun R x1 x2 x3 kc k0 =>
let v4 : Int := (List.length x3 : Int);
let v5 : Bool := (decide (x1 ≤ v4));
(match v5 with
| true => F67 R x1 fun y6 =>
let v7 : Int := (IntKind.i64.wrap (x1 + y6));
let v8 : Int := (List.length x3 : Int);
let v9 : Bool := (decide (v7 ≤ v8));
(match v9 with
| true => let v10 : Int := (IntKind.i64.wrap (v7 - (1 : Int)));
(match (bnd v10 (List.length x3 : Int)) with
| true => let v11 : Int := (List.getD x3 (Int.toNat v10) (0 : Int));
let v12 : Int := (IntKind.i64.wrap (x1 - (1 : Int)));
(match (bnd v12 (List.length x3 : Int)) with
| true => let v13 : Int := (List.getD x3 (Int.toNat v12) (0 : Int));
let v14 : Int := (IntKind.u64.wrap (v11 + v13));
(match (bnd v10 (List.length x3 : Int)) with
| true => let v15 : (List Int) := (List.set x3 (Int.toNat v10) v14);
let v16 : Int := (IntKind.i64.wrap (x1 + (1 : Int)));
kc v16 x2 v15
| false => none)
| false => none)
| false => none)
| false => let v17 : Int := (IntKind.i64.wrap (x1 + (1 : Int)));
kc v17 x2 x3)
| false => k0 x2 x3)
theorem q38_8 (F65 : FT65) (F66 : FT66) (F67 : FT67) (L8 : LT38_8) (R : Type) (x : HT (le38_8 L8).H) (kc : HT (le38_8 L8).H → Option R) (ke : KT R (le38_8 L8).exs) :
  exec (e38 F65 F66 F67 L8 R) (lcode 8 (codeOf Try.f38)) (stOf (le38_8 L8).H x 2) (roundK (le38_8 L8).H (le38_8 L8).exs kc ke) =
    p38_8 F67 R x.1 x.2.1 x.2.2.1 (fun x1 x2 x3 => kc (x1, x2, x3, ())) (fun y1 y2 => ke.1 (y1, y2, ())) := by kernel_rfl
noncomputable def G38_8 : Nat → LT38_8
  | 0 => fun _ _ _ _ _ => none
  | n + 1 => fun R x1 x2 x3 k0 => p38_8 F67 R x1 x2 x3 (fun x1 x2 x3 => G38_8 n R x1 x2 x3 k0) k0
def p38 (F65 : FT65) (F66 : FT66) (L8 : LT38_8) : FT38 := fun R a0 k =>
let v1 : Int := (List.length a0 : Int);
let v2 : Bool := (decide (v1 > (1048576 : Int)));
(match v2 with
| true => k (([] : (List Int)), ()) (14 : Int)
| false => F65 R a0 fun y3 y4 =>
(match (!y4) with
| true => k (([] : (List Int)), ()) (11 : Int)
| false => F66 R a0 fun y5 =>
L8 R (1 : Int) (([] : (List Int)), ()) y5 (fun x6 x7 =>
k (x7, ()) (0 : Int))))
theorem q38 (F65 : FT65) (F66 : FT66) (F67 : FT67) (L8 : LT38_8) (F : FT38) (R : Type) (x : AT (en38 F).ins) (k : RT (en38 F).outs → PT (en38 F).ins → Option R) :
  xfun (e38 F65 F66 F67 L8 R) (codeOf Try.f38) res38 (avs (en38 F).ins x) (finK (en38 F).outs (en38 F).ins k) = p38 F65 F66 L8 R x.1 (fun y1 y2 => k (y1, y2, ()) ()) := by kernel_rfl
noncomputable def F38 : FT38 := p38 F65 F66 (G38_8 FUEL)
theorem env38 (R : Type) : EnvOK Try.prog (e38 F65 F66 F67 (G38_8 FUEL) R) := ⟨tabOK, eqOK, callOf_ok (allE_cons ok65 (allE_cons ok66 (allE_cons ok67 allE_nil))), noIns, inlOK_nil⟩
noncomputable def T38_8 : (R : Type) → HT (le38_8 (G38_8 FUEL)).H → (HT (le38_8 (G38_8 FUEL)).H → Option R) → KT R (le38_8 (G38_8 FUEL)).exs → Option R := fun R x kc ke => p38_8 F67 R x.1 x.2.1 x.2.2.1 (fun x1 x2 x3 => kc (x1, x2, x3, ())) (fun y1 y2 => ke.1 (y1, y2, ()))
theorem it38_8 : ∀ (n : Nat) (R : Type) (x : HT (le38_8 (G38_8 FUEL)).H) (ke : KT R (le38_8 (G38_8 FUEL)).exs), iter T38_8 n R x ke = G38_8 n R x.1 x.2.1 x.2.2.1 (fun y1 y2 => ke.1 (y1, y2, ())) := by
  intro n
  induction n with
  | zero => intro R x ke; rfl
  | succ n ih =>
    intro R x ke
    show T38_8 R x (fun x' => iter T38_8 n R x' ke) ke = _
    rw [show (fun x' => iter T38_8 n R x' ke) = fun x => G38_8 n R x.1 x.2.1 x.2.2.1 (fun y1 y2 => ke.1 (y1, y2, ())) from funext fun x' => ih R x' ke]
    rfl
theorem lok38_8 : (le38_8 (G38_8 FUEL)).OK Try.prog 0 51 (lcode 8 (codeOf Try.f38)) := fun R x ke r h =>
  iter_sound (fun R => e38 F65 F66 F67 (G38_8 FUEL) R) 0 51 (fun _ => rfl) (fun _ => rfl) (fun R => env38 R) mixed (by
    intro R
    rw [show loopsOf (lcode 8 (codeOf Try.f38)) = [] from by kernel_rfl]
    exact allM_nil) (T := T38_8) (fun R x kc ke => q38_8 F65 F66 F67 (G38_8 FUEL) R x kc ke) FUEL R x ke r ((it38_8 FUEL R x ke).trans h)
theorem ok38 : (en38 F38).OK Try.prog :=
  ent_ok (Ef := fun R => e38 F65 F66 F67 (G38_8 FUEL) R) (fun R => env38 R) mixed Try.func38 (body := codeOf Try.f38) (by kernel_rfl) (by kernel_rfl) (np := 0) (nt := 51) (fun _ => rfl) (fun _ => rfl) (by kernel_rfl) (res := res38) (by kernel_rfl) (fun _ => rfl) (fun _ => Nat.le_of_ble_eq_true rfl) (by
    intro R
    rw [show loopsOf (codeOf Try.f38) = [lcode 8 (codeOf Try.f38)] from by kernel_rfl]
    exact (allM_cons (loop_ok2 (e := le38_8 (G38_8 FUEL)) rfl rfl lok38_8) allM_nil)) (fun R x k => q38 F65 F66 F67 (G38_8 FUEL) F38 R x k)
abbrev FT100 : Type 1 := (R : Type) → Int → Int → (Int → Option R) → Option R
def en100 (F : FT100) : Ent := ⟨100, [(false, (.int .u32)), (false, (.int .u32))], [(false, (.int .u64))], fun R x k => F R x.1 x.2.1 (fun y1 => k (y1, ()) ())⟩
def res100 : List (ResultVar × TypeId × Bool) := [(.tmp 4, 24, false)]
noncomputable def e100 (R : Type) : Env R := ⟨TT, EQT, 0, 11, ownOf [], callOf [] R, loopOf [] R, [], inlOf []⟩
def p100 : FT100 := fun R a0 a1 k =>
let v1 : Int := (IntKind.u64.wrap a0);
let v2 : Int := (ishl .u64 v1 (32 : Int));
let v3 : Int := (IntKind.u64.wrap a1);
let v4 : Int := (ior .u64 v2 v3);
k v4
theorem q100 (F : FT100) (R : Type) (x : AT (en100 F).ins) (k : RT (en100 F).outs → PT (en100 F).ins → Option R) :
  xfun (e100 R) (codeOf Try.f100) res100 (avs (en100 F).ins x) (finK (en100 F).outs (en100 F).ins k) = p100 R x.1 x.2.1 (fun y1 => k (y1, ()) ()) := by kernel_rfl
noncomputable def F100 : FT100 := p100
theorem env100 (R : Type) : EnvOK Try.prog (e100 R) := ⟨tabOK, eqOK, callOf_ok allE_nil, noIns, inlOK_nil⟩
theorem ok100 : (en100 F100).OK Try.prog :=
  ent_ok (Ef := fun R => e100 R) (fun R => env100 R) mixed Try.func100 (body := codeOf Try.f100) (by kernel_rfl) (by kernel_rfl) (np := 0) (nt := 11) (fun _ => rfl) (fun _ => rfl) (by kernel_rfl) (res := res100) (by kernel_rfl) (fun _ => rfl) (fun _ => Nat.le_of_ble_eq_true rfl) (by
    intro R
    rw [show loopsOf (codeOf Try.f100) = [] from by kernel_rfl]
    exact allM_nil) (fun R x k => q100 F100 R x k)
abbrev FT99 : Type 1 := (R : Type) → (List Int) → Int → (Tq6 → Option R) → Option R
def en99 (F : FT99) : Ent := ⟨99, [(false, (.arr 32 (.int .u8))), (false, (.int .u64))], [(false, Kq6)], fun R x k => F R x.1 x.2.1 (fun y1 => k (y1, ()) ())⟩
def res99 : List (ResultVar × TypeId × Bool) := [(.cell 4 37, 37, false)]
noncomputable def e99 (R : Type) : Env R := ⟨TT, EQT, 0, 8, ownOf [], callOf [] R, loopOf [] R, [], inlOf []⟩
def p99 : FT99 := fun R a0 a1 k =>
k ((2 : Int), ([] : (List Int)), (0 : Int), a0, a1, (0 : Int), ())
theorem q99 (F : FT99) (R : Type) (x : AT (en99 F).ins) (k : RT (en99 F).outs → PT (en99 F).ins → Option R) :
  xfun (e99 R) (codeOf Try.f99) res99 (avs (en99 F).ins x) (finK (en99 F).outs (en99 F).ins k) = p99 R x.1 x.2.1 (fun y1 => k (y1, ()) ()) := by kernel_rfl
noncomputable def F99 : FT99 := p99
theorem env99 (R : Type) : EnvOK Try.prog (e99 R) := ⟨tabOK, eqOK, callOf_ok allE_nil, noIns, inlOK_nil⟩
theorem ok99 : (en99 F99).OK Try.prog :=
  ent_ok (Ef := fun R => e99 R) (fun R => env99 R) mixed Try.func99 (body := codeOf Try.f99) (by kernel_rfl) (by kernel_rfl) (np := 0) (nt := 8) (fun _ => rfl) (fun _ => rfl) (by kernel_rfl) (res := res99) (by kernel_rfl) (fun _ => rfl) (fun _ => Nat.le_of_ble_eq_true rfl) (by
    intro R
    rw [show loopsOf (codeOf Try.f99) = [] from by kernel_rfl]
    exact allM_nil) (fun R x k => q99 F99 R x k)
abbrev FT80 : Type 1 := (R : Type) → Tq17 → Int → Int → (Tq6 → Option R) → Option R
def en80 (F : FT80) : Ent := ⟨80, [(false, Kq17), (false, (.int .u32)), (false, (.int .i64))], [(false, Kq6)], fun R x k => F R x.1 x.2.1 x.2.2.1 (fun y1 => k (y1, ()) ())⟩
def res80 : List (ResultVar × TypeId × Bool) := [(.cell 6 37, 37, false)]
noncomputable def e80 (F99 : FT99) (F100 : FT100) (R : Type) : Env R := ⟨TT, EQT, 0, 14, ownOf [], callOf [en99 F99, en100 F100] R, loopOf [] R, [], inlOf []⟩
def p80 (F99 : FT99) (F100 : FT100) : FT80 := fun R a0 a1 a2 k =>
let v1 : Int := (IntKind.u32.wrap a2);
F100 R a1 v1 fun y2 =>
F99 R a0.1 y2 fun y3 =>
k y3
theorem q80 (F99 : FT99) (F100 : FT100) (F : FT80) (R : Type) (x : AT (en80 F).ins) (k : RT (en80 F).outs → PT (en80 F).ins → Option R) :
  xfun (e80 F99 F100 R) (codeOf Try.f80) res80 (avs (en80 F).ins x) (finK (en80 F).outs (en80 F).ins k) = p80 F99 F100 R x.1 x.2.1 x.2.2.1 (fun y1 => k (y1, ()) ()) := by kernel_rfl
noncomputable def F80 : FT80 := p80 F99 F100
theorem env80 (R : Type) : EnvOK Try.prog (e80 F99 F100 R) := ⟨tabOK, eqOK, callOf_ok (allE_cons ok99 (allE_cons ok100 allE_nil)), noIns, inlOK_nil⟩
theorem ok80 : (en80 F80).OK Try.prog :=
  ent_ok (Ef := fun R => e80 F99 F100 R) (fun R => env80 R) mixed Try.func80 (body := codeOf Try.f80) (by kernel_rfl) (by kernel_rfl) (np := 0) (nt := 14) (fun _ => rfl) (fun _ => rfl) (by kernel_rfl) (res := res80) (by kernel_rfl) (fun _ => rfl) (fun _ => Nat.le_of_ble_eq_true rfl) (by
    intro R
    rw [show loopsOf (codeOf Try.f80) = [] from by kernel_rfl]
    exact allM_nil) (fun R x k => q80 F99 F100 F80 R x k)
abbrev FT97 : Type 1 := (R : Type) → ((List Int) × Unit) → (Int → Option R) → Option R
def en97 (F : FT97) : Ent := ⟨97, [(false, (.pair (.sl (.int .u64)) .unit))], [(false, (.int .i64))], fun R x k => F R x.1 (fun y1 => k (y1, ()) ())⟩
def res97 : List (ResultVar × TypeId × Bool) := [(.tmp 2, 3, false)]
noncomputable def e97 (R : Type) : Env R := ⟨TT, EQT, 0, 6, ownOf [], callOf [] R, loopOf [] R, [], inlOf []⟩
def p97 : FT97 := fun R a0 k =>
let v1 : Int := (List.length a0.1 : Int);
k v1
theorem q97 (F : FT97) (R : Type) (x : AT (en97 F).ins) (k : RT (en97 F).outs → PT (en97 F).ins → Option R) :
  xfun (e97 R) (codeOf Try.f97) res97 (avs (en97 F).ins x) (finK (en97 F).outs (en97 F).ins k) = p97 R x.1 (fun y1 => k (y1, ()) ()) := by kernel_rfl
noncomputable def F97 : FT97 := p97
theorem env97 (R : Type) : EnvOK Try.prog (e97 R) := ⟨tabOK, eqOK, callOf_ok allE_nil, noIns, inlOK_nil⟩
theorem ok97 : (en97 F97).OK Try.prog :=
  ent_ok (Ef := fun R => e97 R) (fun R => env97 R) mixed Try.func97 (body := codeOf Try.f97) (by kernel_rfl) (by kernel_rfl) (np := 0) (nt := 6) (fun _ => rfl) (fun _ => rfl) (by kernel_rfl) (res := res97) (by kernel_rfl) (fun _ => rfl) (fun _ => Nat.le_of_ble_eq_true rfl) (by
    intro R
    rw [show loopsOf (codeOf Try.f97) = [] from by kernel_rfl]
    exact allM_nil) (fun R x k => q97 F97 R x k)
abbrev FT96 : Type 1 := (R : Type) → ((List Int) × Unit) → Int → (Int → Option R) → Option R
def en96 (F : FT96) : Ent := ⟨96, [(false, (.pair (.sl (.int .u64)) .unit)), (false, (.int .i64))], [(false, (.int .u64))], fun R x k => F R x.1 x.2.1 (fun y1 => k (y1, ()) ())⟩
def res96 : List (ResultVar × TypeId × Bool) := [(.tmp 4, 24, false)]
abbrev LT96_1 : Type 1 := (R : Type) → Int → Int → ((List Int) × Unit) → (Int → Option R) → Option R
def le96_1 (L : LT96_1) : LEnt := ⟨1, [.val 1 (.int .i64), .fix 2 (.ptr 0 [] (.pair (.sl (.int .u64)) .unit)), .val 4 (.int .u64), .var 0 (.pair (.sl (.int .u64)) .unit) false], 1, [(.exit 0, [.val 4 (.int .u64)])], fun R x ke => L R x.1 x.2.1 x.2.2.1 (fun y1 => ke.1 (y1, ()))⟩
noncomputable def e96 (F67 : FT67) (L1 : LT96_1) (R : Type) : Env R := ⟨TT, EQT, 0, 20, ownOf [], callOf [en67 F67] R, loopOf [le96_1 L1] R, [], inlOf []⟩
def p96_1 (F67 : FT67) : (R : Type) → Int → Int → ((List Int) × Unit) → (Int → Int → ((List Int) × Unit) → Option R) → (Int → Option R) → Option R := fun R x1 x2 x3 kc k0 =>
let v4 : Bool := (decide (x1 > (0 : Int)));
(match v4 with
| true => let v5 : Int := (IntKind.i64.wrap (x1 - (1 : Int)));
(match (bnd v5 (List.length x3.1 : Int)) with
| true => let v6 : Int := (List.getD x3.1 (Int.toNat v5) (0 : Int));
let v7 : Int := (IntKind.u64.wrap (x2 + v6));
F67 R x1 fun y8 =>
let v9 : Int := (IntKind.i64.wrap (x1 - y8));
kc v9 v7 x3
| false => none)
| false => k0 x2)
theorem q96_1 (F67 : FT67) (L1 : LT96_1) (R : Type) (x : HT (le96_1 L1).H) (kc : HT (le96_1 L1).H → Option R) (ke : KT R (le96_1 L1).exs) :
  exec (e96 F67 L1 R) (lcode 1 (codeOf Try.f96)) (stOf (le96_1 L1).H x 1) (roundK (le96_1 L1).H (le96_1 L1).exs kc ke) =
    p96_1 F67 R x.1 x.2.1 x.2.2.1 (fun x1 x2 x3 => kc (x1, x2, x3, ())) (fun y1 => ke.1 (y1, ())) := by kernel_rfl
noncomputable def G96_1 : Nat → LT96_1
  | 0 => fun _ _ _ _ _ => none
  | n + 1 => fun R x1 x2 x3 k0 => p96_1 F67 R x1 x2 x3 (fun x1 x2 x3 => G96_1 n R x1 x2 x3 k0) k0
def p96 (L1 : LT96_1) : FT96 := fun R a0 a1 k =>
L1 R a1 (0 : Int) a0 (fun x1 =>
k x1)
theorem q96 (F67 : FT67) (L1 : LT96_1) (F : FT96) (R : Type) (x : AT (en96 F).ins) (k : RT (en96 F).outs → PT (en96 F).ins → Option R) :
  xfun (e96 F67 L1 R) (codeOf Try.f96) res96 (avs (en96 F).ins x) (finK (en96 F).outs (en96 F).ins k) = p96 L1 R x.1 x.2.1 (fun y1 => k (y1, ()) ()) := by kernel_rfl
noncomputable def F96 : FT96 := p96 (G96_1 FUEL)
theorem env96 (R : Type) : EnvOK Try.prog (e96 F67 (G96_1 FUEL) R) := ⟨tabOK, eqOK, callOf_ok (allE_cons ok67 allE_nil), noIns, inlOK_nil⟩
noncomputable def T96_1 : (R : Type) → HT (le96_1 (G96_1 FUEL)).H → (HT (le96_1 (G96_1 FUEL)).H → Option R) → KT R (le96_1 (G96_1 FUEL)).exs → Option R := fun R x kc ke => p96_1 F67 R x.1 x.2.1 x.2.2.1 (fun x1 x2 x3 => kc (x1, x2, x3, ())) (fun y1 => ke.1 (y1, ()))
theorem it96_1 : ∀ (n : Nat) (R : Type) (x : HT (le96_1 (G96_1 FUEL)).H) (ke : KT R (le96_1 (G96_1 FUEL)).exs), iter T96_1 n R x ke = G96_1 n R x.1 x.2.1 x.2.2.1 (fun y1 => ke.1 (y1, ())) := by
  intro n
  induction n with
  | zero => intro R x ke; rfl
  | succ n ih =>
    intro R x ke
    show T96_1 R x (fun x' => iter T96_1 n R x' ke) ke = _
    rw [show (fun x' => iter T96_1 n R x' ke) = fun x => G96_1 n R x.1 x.2.1 x.2.2.1 (fun y1 => ke.1 (y1, ())) from funext fun x' => ih R x' ke]
    rfl
theorem lok96_1 : (le96_1 (G96_1 FUEL)).OK Try.prog 0 20 (lcode 1 (codeOf Try.f96)) := fun R x ke r h =>
  iter_sound (fun R => e96 F67 (G96_1 FUEL) R) 0 20 (fun _ => rfl) (fun _ => rfl) (fun R => env96 R) mixed (by
    intro R
    rw [show loopsOf (lcode 1 (codeOf Try.f96)) = [] from by kernel_rfl]
    exact allM_nil) (T := T96_1) (fun R x kc ke => q96_1 F67 (G96_1 FUEL) R x kc ke) FUEL R x ke r ((it96_1 FUEL R x ke).trans h)
theorem ok96 : (en96 F96).OK Try.prog :=
  ent_ok (Ef := fun R => e96 F67 (G96_1 FUEL) R) (fun R => env96 R) mixed Try.func96 (body := codeOf Try.f96) (by kernel_rfl) (by kernel_rfl) (np := 0) (nt := 20) (fun _ => rfl) (fun _ => rfl) (by kernel_rfl) (res := res96) (by kernel_rfl) (fun _ => rfl) (fun _ => Nat.le_of_ble_eq_true rfl) (by
    intro R
    rw [show loopsOf (codeOf Try.f96) = [lcode 1 (codeOf Try.f96)] from by kernel_rfl]
    exact (allM_cons (loop_ok2 (e := le96_1 (G96_1 FUEL)) rfl rfl lok96_1) allM_nil)) (fun R x k => q96 F67 (G96_1 FUEL) F96 R x k)
abbrev FT76 : Type 1 := (R : Type) → ((List Int) × Unit) → (Int → Option R) → Option R
def en76 (F : FT76) : Ent := ⟨76, [(false, (.pair (.sl (.int .u64)) .unit))], [(false, (.int .u64))], fun R x k => F R x.1 (fun y1 => k (y1, ()) ())⟩
def res76 : List (ResultVar × TypeId × Bool) := [(.tmp 2, 24, false)]
noncomputable def e76 (F96 : FT96) (F97 : FT97) (R : Type) : Env R := ⟨TT, EQT, 0, 7, ownOf [], callOf [en96 F96, en97 F97] R, loopOf [] R, [], inlOf []⟩
def p76 (F96 : FT96) (F97 : FT97) : FT76 := fun R a0 k =>
F97 R a0 fun y1 =>
F96 R a0 y1 fun y2 =>
k y2
theorem q76 (F96 : FT96) (F97 : FT97) (F : FT76) (R : Type) (x : AT (en76 F).ins) (k : RT (en76 F).outs → PT (en76 F).ins → Option R) :
  xfun (e76 F96 F97 R) (codeOf Try.f76) res76 (avs (en76 F).ins x) (finK (en76 F).outs (en76 F).ins k) = p76 F96 F97 R x.1 (fun y1 => k (y1, ()) ()) := by kernel_rfl
noncomputable def F76 : FT76 := p76 F96 F97
theorem env76 (R : Type) : EnvOK Try.prog (e76 F96 F97 R) := ⟨tabOK, eqOK, callOf_ok (allE_cons ok96 (allE_cons ok97 allE_nil)), noIns, inlOK_nil⟩
theorem ok76 : (en76 F76).OK Try.prog :=
  ent_ok (Ef := fun R => e76 F96 F97 R) (fun R => env76 R) mixed Try.func76 (body := codeOf Try.f76) (by kernel_rfl) (by kernel_rfl) (np := 0) (nt := 7) (fun _ => rfl) (fun _ => rfl) (by kernel_rfl) (res := res76) (by kernel_rfl) (fun _ => rfl) (fun _ => Nat.le_of_ble_eq_true rfl) (by
    intro R
    rw [show loopsOf (codeOf Try.f76) = [] from by kernel_rfl]
    exact allM_nil) (fun R x k => q76 F96 F97 F76 R x k)
abbrev FT77 : Type 1 := (R : Type) → ((List Int) × Unit) → Int → (Int → Int → Option R) → Option R
def en77 (F : FT77) : Ent := ⟨77, [(false, (.pair (.sl (.int .u64)) .unit)), (false, (.int .u64))], [(false, (.int .i64)), (false, (.int .i64))], fun R x k => F R x.1 x.2.1 (fun y1 y2 => k (y1, y2, ()) ())⟩
def res77 : List (ResultVar × TypeId × Bool) := [(.tmp 4, 3, false), (.tmp 5, 29, false)]
abbrev LT77_4 : Type 1 := (R : Type) → Int → Int → Int → ((List Int) × Unit) → (Int → Int → Int → ((List Int) × Unit) → Option R) → Option R
def le77_4 (L : LT77_4) : LEnt := ⟨4, [.val 1 (.int .u64), .fix 2 (.ptr 0 [] (.pair (.sl (.int .u64)) .unit)), .val 6 (.int .i64), .val 7 (.int .i64), .var 0 (.pair (.sl (.int .u64)) .unit) false], 1, [(.exit 0, [.val 1 (.int .u64), .fix 2 (.ptr 0 [] (.pair (.sl (.int .u64)) .unit)), .val 6 (.int .i64), .val 7 (.int .i64), .var 0 (.pair (.sl (.int .u64)) .unit) false])], fun R x ke => L R x.1 x.2.1 x.2.2.1 x.2.2.2.1 (fun y1 y2 y3 y4 => ke.1 (y1, y2, y3, y4, ()))⟩
abbrev LT77_6 : Type 1 := (R : Type) → Int → Int → Int → ((List Int) × Unit) → (Int → Option R) → Option R
def le77_6 (L : LT77_6) : LEnt := ⟨6, [.val 1 (.int .u64), .fix 2 (.ptr 0 [] (.pair (.sl (.int .u64)) .unit)), .val 6 (.int .i64), .val 7 (.int .i64), .var 0 (.pair (.sl (.int .u64)) .unit) false], 1, [(.exit 2, [.val 6 (.int .i64)])], fun R x ke => L R x.1 x.2.1 x.2.2.1 x.2.2.2.1 (fun y1 => ke.1 (y1, ()))⟩
noncomputable def e77 (F76 : FT76) (F97 : FT97) (L4 : LT77_4) (L6 : LT77_6) (R : Type) : Env R := ⟨TT, EQT, 0, 51, ownOf [], callOf [en76 F76, en97 F97] R, loopOf [le77_4 L4, le77_6 L6] R, [], inlOf []⟩
def p77_4 (F97 : FT97) : (R : Type) → Int → Int → Int → ((List Int) × Unit) → (Int → Int → Int → ((List Int) × Unit) → Option R) → (Int → Int → Int → ((List Int) × Unit) → Option R) → Option R := fun R x1 x2 x3 x4 kc k0 =>
let v5 : Int := (ishl .i64 x3 (1 : Int));
F97 R x4 fun y6 =>
let v7 : Bool := (decide (v5 ≤ y6));
(match v7 with
| true => let v8 : Int := (ishl .i64 x3 (1 : Int));
kc x1 x2 v8 x4
| false => k0 x1 x2 x3 x4)
theorem q77_4 (F76 : FT76) (F97 : FT97) (L4 : LT77_4) (L6 : LT77_6) (R : Type) (x : HT (le77_4 L4).H) (kc : HT (le77_4 L4).H → Option R) (ke : KT R (le77_4 L4).exs) :
  exec (e77 F76 F97 L4 L6 R) (lcode 4 (codeOf Try.f77)) (stOf (le77_4 L4).H x 1) (roundK (le77_4 L4).H (le77_4 L4).exs kc ke) =
    p77_4 F97 R x.1 x.2.1 x.2.2.1 x.2.2.2.1 (fun x1 x2 x3 x4 => kc (x1, x2, x3, x4, ())) (fun y1 y2 y3 y4 => ke.1 (y1, y2, y3, y4, ())) := by kernel_rfl
noncomputable def G77_4 : Nat → LT77_4
  | 0 => fun _ _ _ _ _ _ => none
  | n + 1 => fun R x1 x2 x3 x4 k0 => p77_4 F97 R x1 x2 x3 x4 (fun x1 x2 x3 x4 => G77_4 n R x1 x2 x3 x4 k0) k0
def p77_6 (F97 : FT97) : (R : Type) → Int → Int → Int → ((List Int) × Unit) → (Int → Int → Int → ((List Int) × Unit) → Option R) → (Int → Option R) → Option R := fun R x1 x2 x3 x4 kc k0 =>
let v5 : Bool := (decide (x3 > (0 : Int)));
(match v5 with
| true => let v6 : Int := (IntKind.i64.wrap (x2 + x3));
F97 R x4 fun y7 =>
let v8 : Bool := (decide (v6 ≤ y7));
(match v8 with
| true => let v9 : Int := (IntKind.i64.wrap (v6 - (1 : Int)));
(match (bnd v9 (List.length x4.1 : Int)) with
| true => let v10 : Int := (List.getD x4.1 (Int.toNat v9) (0 : Int));
let v11 : Bool := (decide (v10 ≤ x1));
(match v11 with
| true => let v12 : Int := (IntKind.i64.wrap (v6 - (1 : Int)));
(match (bnd v12 (List.length x4.1 : Int)) with
| true => let v13 : Int := (List.getD x4.1 (Int.toNat v12) (0 : Int));
let v14 : Int := (IntKind.u64.wrap (x1 - v13));
let v15 : Int := (ishr .i64 x3 (1 : Int));
kc v14 v6 v15 x4
| false => none)
| false => let v16 : Int := (ishr .i64 x3 (1 : Int));
kc x1 x2 v16 x4)
| false => none)
| false => let v17 : Int := (ishr .i64 x3 (1 : Int));
kc x1 x2 v17 x4)
| false => k0 x2)
theorem q77_6 (F76 : FT76) (F97 : FT97) (L4 : LT77_4) (L6 : LT77_6) (R : Type) (x : HT (le77_6 L6).H) (kc : HT (le77_6 L6).H → Option R) (ke : KT R (le77_6 L6).exs) :
  exec (e77 F76 F97 L4 L6 R) (lcode 6 (codeOf Try.f77)) (stOf (le77_6 L6).H x 1) (roundK (le77_6 L6).H (le77_6 L6).exs kc ke) =
    p77_6 F97 R x.1 x.2.1 x.2.2.1 x.2.2.2.1 (fun x1 x2 x3 x4 => kc (x1, x2, x3, x4, ())) (fun y1 => ke.1 (y1, ())) := by kernel_rfl
noncomputable def G77_6 : Nat → LT77_6
  | 0 => fun _ _ _ _ _ _ => none
  | n + 1 => fun R x1 x2 x3 x4 k0 => p77_6 F97 R x1 x2 x3 x4 (fun x1 x2 x3 x4 => G77_6 n R x1 x2 x3 x4 k0) k0
def p77 (F76 : FT76) (L4 : LT77_4) (L6 : LT77_6) : FT77 := fun R a0 a1 k =>
F76 R a0 fun y1 =>
let v2 : Bool := (decide (a1 ≥ y1));
(match v2 with
| true => k (0 : Int) (3 : Int)
| false => L4 R a1 (0 : Int) (1 : Int) a0 (fun x3 x4 x5 x6 =>
L6 R x3 x4 x5 x6 (fun x7 =>
k x7 (0 : Int))))
theorem q77 (F76 : FT76) (F97 : FT97) (L4 : LT77_4) (L6 : LT77_6) (F : FT77) (R : Type) (x : AT (en77 F).ins) (k : RT (en77 F).outs → PT (en77 F).ins → Option R) :
  xfun (e77 F76 F97 L4 L6 R) (codeOf Try.f77) res77 (avs (en77 F).ins x) (finK (en77 F).outs (en77 F).ins k) = p77 F76 L4 L6 R x.1 x.2.1 (fun y1 y2 => k (y1, y2, ()) ()) := by kernel_rfl
noncomputable def F77 : FT77 := p77 F76 (G77_4 FUEL) (G77_6 FUEL)
theorem env77 (R : Type) : EnvOK Try.prog (e77 F76 F97 (G77_4 FUEL) (G77_6 FUEL) R) := ⟨tabOK, eqOK, callOf_ok (allE_cons ok76 (allE_cons ok97 allE_nil)), noIns, inlOK_nil⟩
noncomputable def T77_4 : (R : Type) → HT (le77_4 (G77_4 FUEL)).H → (HT (le77_4 (G77_4 FUEL)).H → Option R) → KT R (le77_4 (G77_4 FUEL)).exs → Option R := fun R x kc ke => p77_4 F97 R x.1 x.2.1 x.2.2.1 x.2.2.2.1 (fun x1 x2 x3 x4 => kc (x1, x2, x3, x4, ())) (fun y1 y2 y3 y4 => ke.1 (y1, y2, y3, y4, ()))
theorem it77_4 : ∀ (n : Nat) (R : Type) (x : HT (le77_4 (G77_4 FUEL)).H) (ke : KT R (le77_4 (G77_4 FUEL)).exs), iter T77_4 n R x ke = G77_4 n R x.1 x.2.1 x.2.2.1 x.2.2.2.1 (fun y1 y2 y3 y4 => ke.1 (y1, y2, y3, y4, ())) := by
  intro n
  induction n with
  | zero => intro R x ke; rfl
  | succ n ih =>
    intro R x ke
    show T77_4 R x (fun x' => iter T77_4 n R x' ke) ke = _
    rw [show (fun x' => iter T77_4 n R x' ke) = fun x => G77_4 n R x.1 x.2.1 x.2.2.1 x.2.2.2.1 (fun y1 y2 y3 y4 => ke.1 (y1, y2, y3, y4, ())) from funext fun x' => ih R x' ke]
    rfl
theorem lok77_4 : (le77_4 (G77_4 FUEL)).OK Try.prog 0 51 (lcode 4 (codeOf Try.f77)) := fun R x ke r h =>
  iter_sound (fun R => e77 F76 F97 (G77_4 FUEL) (G77_6 FUEL) R) 0 51 (fun _ => rfl) (fun _ => rfl) (fun R => env77 R) mixed (by
    intro R
    rw [show loopsOf (lcode 4 (codeOf Try.f77)) = [] from by kernel_rfl]
    exact allM_nil) (T := T77_4) (fun R x kc ke => q77_4 F76 F97 (G77_4 FUEL) (G77_6 FUEL) R x kc ke) FUEL R x ke r ((it77_4 FUEL R x ke).trans h)
noncomputable def T77_6 : (R : Type) → HT (le77_6 (G77_6 FUEL)).H → (HT (le77_6 (G77_6 FUEL)).H → Option R) → KT R (le77_6 (G77_6 FUEL)).exs → Option R := fun R x kc ke => p77_6 F97 R x.1 x.2.1 x.2.2.1 x.2.2.2.1 (fun x1 x2 x3 x4 => kc (x1, x2, x3, x4, ())) (fun y1 => ke.1 (y1, ()))
theorem it77_6 : ∀ (n : Nat) (R : Type) (x : HT (le77_6 (G77_6 FUEL)).H) (ke : KT R (le77_6 (G77_6 FUEL)).exs), iter T77_6 n R x ke = G77_6 n R x.1 x.2.1 x.2.2.1 x.2.2.2.1 (fun y1 => ke.1 (y1, ())) := by
  intro n
  induction n with
  | zero => intro R x ke; rfl
  | succ n ih =>
    intro R x ke
    show T77_6 R x (fun x' => iter T77_6 n R x' ke) ke = _
    rw [show (fun x' => iter T77_6 n R x' ke) = fun x => G77_6 n R x.1 x.2.1 x.2.2.1 x.2.2.2.1 (fun y1 => ke.1 (y1, ())) from funext fun x' => ih R x' ke]
    rfl
theorem lok77_6 : (le77_6 (G77_6 FUEL)).OK Try.prog 0 51 (lcode 6 (codeOf Try.f77)) := fun R x ke r h =>
  iter_sound (fun R => e77 F76 F97 (G77_4 FUEL) (G77_6 FUEL) R) 0 51 (fun _ => rfl) (fun _ => rfl) (fun R => env77 R) mixed (by
    intro R
    rw [show loopsOf (lcode 6 (codeOf Try.f77)) = [] from by kernel_rfl]
    exact allM_nil) (T := T77_6) (fun R x kc ke => q77_6 F76 F97 (G77_4 FUEL) (G77_6 FUEL) R x kc ke) FUEL R x ke r ((it77_6 FUEL R x ke).trans h)
theorem ok77 : (en77 F77).OK Try.prog :=
  ent_ok (Ef := fun R => e77 F76 F97 (G77_4 FUEL) (G77_6 FUEL) R) (fun R => env77 R) mixed Try.func77 (body := codeOf Try.f77) (by kernel_rfl) (by kernel_rfl) (np := 0) (nt := 51) (fun _ => rfl) (fun _ => rfl) (by kernel_rfl) (res := res77) (by kernel_rfl) (fun _ => rfl) (fun _ => Nat.le_of_ble_eq_true rfl) (by
    intro R
    rw [show loopsOf (codeOf Try.f77) = [lcode 4 (codeOf Try.f77), lcode 6 (codeOf Try.f77)] from by kernel_rfl]
    exact (allM_cons (loop_ok2 (e := le77_4 (G77_4 FUEL)) rfl rfl lok77_4) (allM_cons (loop_ok2 (e := le77_6 (G77_6 FUEL)) rfl rfl lok77_6) allM_nil))) (fun R x k => q77 F76 F97 (G77_4 FUEL) (G77_6 FUEL) F77 R x k)
abbrev FT47 : Type 1 := (R : Type) → ((List Int) × Unit) → Tq6 → Int → (Int → Tq6 → Int → Option R) → Option R
def en47 (F : FT47) : Ent := ⟨47, [(false, (.pair (.sl (.int .u64)) .unit)), (false, Kq6), (false, (.int .i64))], [(false, (.int .i64)), (false, Kq6), (false, (.int .i64))], fun R x k => F R x.1 x.2.1 x.2.2.1 (fun y1 y2 y3 => k (y1, y2, y3, ()) ())⟩
def res47 : List (ResultVar × TypeId × Bool) := [(.tmp 6, 3, false), (.cell 7 37, 37, false), (.tmp 8, 29, false)]
noncomputable def e47 (F34 : FT34) (F76 : FT76) (F77 : FT77) (R : Type) : Env R := ⟨TT, EQT, 0, 40, ownOf [], callOf [en34 F34, en76 F76, en77 F77] R, loopOf [] R, [], inlOf []⟩
def p47 (F34 : FT34) (F76 : FT76) (F77 : FT77) : FT47 := fun R a0 a1 a2 k =>
F76 R a0 fun y1 =>
let v2 : Bool := (y1 == (0 : Int));
(match v2 with
| true => k (0 : Int) a1 (10 : Int)
| false => F34 R a1 y1 a2 fun y3 y4 y5 =>
let v6 : Bool := (y5 != (0 : Int));
(match v6 with
| true => k (0 : Int) y4 y5
| false => F77 R a0 y3 fun y7 y8 =>
k y7 y4 y8))
theorem q47 (F34 : FT34) (F76 : FT76) (F77 : FT77) (F : FT47) (R : Type) (x : AT (en47 F).ins) (k : RT (en47 F).outs → PT (en47 F).ins → Option R) :
  xfun (e47 F34 F76 F77 R) (codeOf Try.f47) res47 (avs (en47 F).ins x) (finK (en47 F).outs (en47 F).ins k) = p47 F34 F76 F77 R x.1 x.2.1 x.2.2.1 (fun y1 y2 y3 => k (y1, y2, y3, ()) ()) := by kernel_rfl
noncomputable def F47 : FT47 := p47 F34 F76 F77
theorem env47 (R : Type) : EnvOK Try.prog (e47 F34 F76 F77 R) := ⟨tabOK, eqOK, callOf_ok (allE_cons ok34 (allE_cons ok76 (allE_cons ok77 allE_nil))), noIns, inlOK_nil⟩
theorem ok47 : (en47 F47).OK Try.prog :=
  ent_ok (Ef := fun R => e47 F34 F76 F77 R) (fun R => env47 R) mixed Try.func47 (body := codeOf Try.f47) (by kernel_rfl) (by kernel_rfl) (np := 0) (nt := 40) (fun _ => rfl) (fun _ => rfl) (by kernel_rfl) (res := res47) (by kernel_rfl) (fun _ => rfl) (fun _ => Nat.le_of_ble_eq_true rfl) (by
    intro R
    rw [show loopsOf (codeOf Try.f47) = [] from by kernel_rfl]
    exact allM_nil) (fun R x k => q47 F34 F76 F77 F47 R x k)
abbrev FT53 : Type 1 := (R : Type) → Tq17 → ((List Int) × Unit) → Int → (Int → Int → Option R) → Option R
def en53 (F : FT53) : Ent := ⟨53, [(false, Kq17), (false, (.pair (.sl (.int .u64)) .unit)), (false, (.int .i64))], [(false, (.int .i64)), (false, (.int .i64))], fun R x k => F R x.1 x.2.1 x.2.2.1 (fun y1 y2 => k (y1, y2, ()) ())⟩
def res53 : List (ResultVar × TypeId × Bool) := [(.tmp 6, 3, false), (.tmp 7, 29, false)]
noncomputable def e53 (F47 : FT47) (F80 : FT80) (R : Type) : Env R := ⟨TT, EQT, 0, 24, ownOf [], callOf [en47 F47, en80 F80] R, loopOf [] R, [], inlOf []⟩
def p53 (F47 : FT47) (F80 : FT80) : FT53 := fun R a0 a1 a2 k =>
F80 R a0 (1 : Int) a2 fun y1 =>
F47 R a1 y1 a0.2.1 fun y2 y3 y4 =>
k y2 y4
theorem q53 (F47 : FT47) (F80 : FT80) (F : FT53) (R : Type) (x : AT (en53 F).ins) (k : RT (en53 F).outs → PT (en53 F).ins → Option R) :
  xfun (e53 F47 F80 R) (codeOf Try.f53) res53 (avs (en53 F).ins x) (finK (en53 F).outs (en53 F).ins k) = p53 F47 F80 R x.1 x.2.1 x.2.2.1 (fun y1 y2 => k (y1, y2, ()) ()) := by kernel_rfl
noncomputable def F53 : FT53 := p53 F47 F80
theorem env53 (R : Type) : EnvOK Try.prog (e53 F47 F80 R) := ⟨tabOK, eqOK, callOf_ok (allE_cons ok47 (allE_cons ok80 allE_nil)), noIns, inlOK_nil⟩
theorem ok53 : (en53 F53).OK Try.prog :=
  ent_ok (Ef := fun R => e53 F47 F80 R) (fun R => env53 R) mixed Try.func53 (body := codeOf Try.f53) (by kernel_rfl) (by kernel_rfl) (np := 0) (nt := 24) (fun _ => rfl) (fun _ => rfl) (by kernel_rfl) (res := res53) (by kernel_rfl) (fun _ => rfl) (fun _ => Nat.le_of_ble_eq_true rfl) (by
    intro R
    rw [show loopsOf (codeOf Try.f53) = [] from by kernel_rfl]
    exact allM_nil) (fun R x k => q53 F47 F80 F53 R x k)
abbrev FT27 : Type 1 := (R : Type) → (List Int) → Int → Int → (List Int) → (Int → Int → Option R) → Option R
def en27 (F : FT27) : Ent := ⟨27, [(false, (.arr 32 (.int .u8))), (false, (.int .i64)), (false, (.int .i64)), (false, (.sl (.int .u64)))], [(false, (.int .i64)), (false, (.int .i64))], fun R x k => F R x.1 x.2.1 x.2.2.1 x.2.2.2.1 (fun y1 y2 => k (y1, y2, ()) ())⟩
def res27 : List (ResultVar × TypeId × Bool) := [(.tmp 8, 3, false), (.tmp 9, 29, false)]
noncomputable def e27 (F38 : FT38) (F52 : FT52) (F53 : FT53) (R : Type) : Env R := ⟨TT, EQT, 0, 34, ownOf [], callOf [en38 F38, en52 F52, en53 F53] R, loopOf [] R, [], inlOf []⟩
def p27 (F38 : FT38) (F52 : FT52) (F53 : FT53) : FT27 := fun R a0 a1 a2 a3 k =>
F52 R (a0, a2, ()) a1 fun y1 =>
(match (!y1) with
| true => k (0 : Int) (1 : Int)
| false => F38 R a3 fun y2 y3 =>
let v4 : Bool := (y3 != (0 : Int));
(match v4 with
| true => k (0 : Int) y3
| false => F53 R (a0, a2, ()) y2 a1 fun y5 y6 =>
k y5 y6))
theorem q27 (F38 : FT38) (F52 : FT52) (F53 : FT53) (F : FT27) (R : Type) (x : AT (en27 F).ins) (k : RT (en27 F).outs → PT (en27 F).ins → Option R) :
  xfun (e27 F38 F52 F53 R) (codeOf Try.f27) res27 (avs (en27 F).ins x) (finK (en27 F).outs (en27 F).ins k) = p27 F38 F52 F53 R x.1 x.2.1 x.2.2.1 x.2.2.2.1 (fun y1 y2 => k (y1, y2, ()) ()) := by kernel_rfl
noncomputable def F27 : FT27 := p27 F38 F52 F53
theorem env27 (R : Type) : EnvOK Try.prog (e27 F38 F52 F53 R) := ⟨tabOK, eqOK, callOf_ok (allE_cons ok38 (allE_cons ok52 (allE_cons ok53 allE_nil))), noIns, inlOK_nil⟩
theorem ok27 : (en27 F27).OK Try.prog :=
  ent_ok (Ef := fun R => e27 F38 F52 F53 R) (fun R => env27 R) mixed Try.func27 (body := codeOf Try.f27) (by kernel_rfl) (by kernel_rfl) (np := 0) (nt := 34) (fun _ => rfl) (fun _ => rfl) (by kernel_rfl) (res := res27) (by kernel_rfl) (fun _ => rfl) (fun _ => Nat.le_of_ble_eq_true rfl) (by
    intro R
    rw [show loopsOf (codeOf Try.f27) = [] from by kernel_rfl]
    exact allM_nil) (fun R x k => q27 F38 F52 F53 F27 R x k)
abbrev FT26 : Type 1 := (R : Type) → (List Int) → Int → Int → (List Int) → ((List Int) → Int → Option R) → Option R
def en26 (F : FT26) : Ent := ⟨26, [(false, (.arr 32 (.int .u8))), (false, (.int .i64)), (false, (.int .i64)), (false, (.sl (.int .u64)))], [(false, (.sl (.int .i64))), (false, (.int .i64))], fun R x k => F R x.1 x.2.1 x.2.2.1 x.2.2.2.1 (fun y1 y2 => k (y1, y2, ()) ())⟩
def res26 : List (ResultVar × TypeId × Bool) := [(.tmp 8, 47, false), (.tmp 9, 29, false)]
abbrev LT26_9 : Type 1 := (R : Type) → Int → Int → Tq17 → ((List Int) × Unit) → (List Int) → ((List Int) → Option R) → Option R
def le26_9 (L : LT26_9) : LEnt := ⟨9, [.fix 10 (.ptr 1 [] Kq17), .fix 11 (.ptr 2 [] (.pair (.sl (.int .u64)) .unit)), .fix 13 (.own 3 0), .val 38 (.int .i64), .val 39 (.int .i64), .var 1 Kq17 false, .var 2 (.pair (.sl (.int .u64)) .unit) false, .row 3 (.int .i64) false], 4, [(.exit 0, [.fix 13 (.own 3 0), .row 3 (.int .i64) false])], fun R x ke => L R x.1 x.2.1 x.2.2.1 x.2.2.2.1 x.2.2.2.2.1 (fun y1 => ke.1 (y1, ()))⟩
noncomputable def e26 (F38 : FT38) (F52 : FT52) (F53 : FT53) (L9 : LT26_9) (R : Type) : Env R := ⟨TT, EQT, 0, 59, ownOf [], callOf [en38 F38, en52 F52, en53 F53] R, loopOf [le26_9 L9] R, [], inlOf []⟩
def p26_9 (F53 : FT53) : (R : Type) → Int → Int → Tq17 → ((List Int) × Unit) → (List Int) → (Int → Int → Tq17 → ((List Int) × Unit) → (List Int) → Option R) → ((List Int) → Option R) → Option R := fun R x1 x2 x3 x4 x5 kc k0 =>
let v6 : Bool := (decide (x2 < x1));
(match v6 with
| true => F53 R x3 x4 x2 fun y7 y8 =>
(match (bnd x2 (List.length x5 : Int)) with
| true => let v9 : (List Int) := (List.set x5 (Int.toNat x2) y7);
let v10 : Bool := (y8 != (0 : Int));
(match v10 with
| true => (match (bnd x2 (List.length v9 : Int)) with
| true => let v11 : (List Int) := (List.set v9 (Int.toNat x2) (-1 : Int));
let v12 : Int := (IntKind.i64.wrap (x2 + (1 : Int)));
kc x1 v12 x3 x4 v11
| false => none)
| false => let v13 : Int := (IntKind.i64.wrap (x2 + (1 : Int)));
kc x1 v13 x3 x4 v9)
| false => none)
| false => k0 x5)
theorem q26_9 (F38 : FT38) (F52 : FT52) (F53 : FT53) (L9 : LT26_9) (R : Type) (x : HT (le26_9 L9).H) (kc : HT (le26_9 L9).H → Option R) (ke : KT R (le26_9 L9).exs) :
  exec (e26 F38 F52 F53 L9 R) (lcode 9 (codeOf Try.f26)) (stOf (le26_9 L9).H x 4) (roundK (le26_9 L9).H (le26_9 L9).exs kc ke) =
    p26_9 F53 R x.1 x.2.1 x.2.2.1 x.2.2.2.1 x.2.2.2.2.1 (fun x1 x2 x3 x4 x5 => kc (x1, x2, x3, x4, x5, ())) (fun y1 => ke.1 (y1, ())) := by kernel_rfl
noncomputable def G26_9 : Nat → LT26_9
  | 0 => fun _ _ _ _ _ _ _ => none
  | n + 1 => fun R x1 x2 x3 x4 x5 k0 => p26_9 F53 R x1 x2 x3 x4 x5 (fun x1 x2 x3 x4 x5 => G26_9 n R x1 x2 x3 x4 x5 k0) k0
def p26 (F38 : FT38) (F52 : FT52) (L9 : LT26_9) : FT26 := fun R a0 a1 a2 a3 k =>
let v1 : Bool := (decide (a1 < (1 : Int)));
(match v1 with
| true => k ([] : (List Int)) (1 : Int)
| false => let v2 : Int := (IntKind.i64.wrap (a1 - (1 : Int)));
F52 R (a0, a2, ()) v2 fun y3 =>
(match (!y3) with
| true => k ([] : (List Int)) (1 : Int)
| false => F38 R a3 fun y4 y5 =>
let v6 : Bool := (y5 != (0 : Int));
(match v6 with
| true => k ([] : (List Int)) y5
| false => (match (decide (0 ≤ a1 ∧ a1 ≤ a1 ∧ a1 ≤ (17592186044416 : Int))) with
| true => let v7 : (List Int) := (List.replicate (Int.toNat a1) (0 : Int));
let v8 : Int := (List.length v7 : Int);
L9 R v8 (0 : Int) (a0, a2, ()) y4 v7 (fun x9 =>
k x9 (0 : Int))
| false => none))))
theorem q26 (F38 : FT38) (F52 : FT52) (F53 : FT53) (L9 : LT26_9) (F : FT26) (R : Type) (x : AT (en26 F).ins) (k : RT (en26 F).outs → PT (en26 F).ins → Option R) :
  xfun (e26 F38 F52 F53 L9 R) (codeOf Try.f26) res26 (avs (en26 F).ins x) (finK (en26 F).outs (en26 F).ins k) = p26 F38 F52 L9 R x.1 x.2.1 x.2.2.1 x.2.2.2.1 (fun y1 y2 => k (y1, y2, ()) ()) := by kernel_rfl
noncomputable def F26 : FT26 := p26 F38 F52 (G26_9 FUEL)
theorem env26 (R : Type) : EnvOK Try.prog (e26 F38 F52 F53 (G26_9 FUEL) R) := ⟨tabOK, eqOK, callOf_ok (allE_cons ok38 (allE_cons ok52 (allE_cons ok53 allE_nil))), noIns, inlOK_nil⟩
noncomputable def T26_9 : (R : Type) → HT (le26_9 (G26_9 FUEL)).H → (HT (le26_9 (G26_9 FUEL)).H → Option R) → KT R (le26_9 (G26_9 FUEL)).exs → Option R := fun R x kc ke => p26_9 F53 R x.1 x.2.1 x.2.2.1 x.2.2.2.1 x.2.2.2.2.1 (fun x1 x2 x3 x4 x5 => kc (x1, x2, x3, x4, x5, ())) (fun y1 => ke.1 (y1, ()))
theorem it26_9 : ∀ (n : Nat) (R : Type) (x : HT (le26_9 (G26_9 FUEL)).H) (ke : KT R (le26_9 (G26_9 FUEL)).exs), iter T26_9 n R x ke = G26_9 n R x.1 x.2.1 x.2.2.1 x.2.2.2.1 x.2.2.2.2.1 (fun y1 => ke.1 (y1, ())) := by
  intro n
  induction n with
  | zero => intro R x ke; rfl
  | succ n ih =>
    intro R x ke
    show T26_9 R x (fun x' => iter T26_9 n R x' ke) ke = _
    rw [show (fun x' => iter T26_9 n R x' ke) = fun x => G26_9 n R x.1 x.2.1 x.2.2.1 x.2.2.2.1 x.2.2.2.2.1 (fun y1 => ke.1 (y1, ())) from funext fun x' => ih R x' ke]
    rfl
theorem lok26_9 : (le26_9 (G26_9 FUEL)).OK Try.prog 0 59 (lcode 9 (codeOf Try.f26)) := fun R x ke r h =>
  iter_sound (fun R => e26 F38 F52 F53 (G26_9 FUEL) R) 0 59 (fun _ => rfl) (fun _ => rfl) (fun R => env26 R) mixed (by
    intro R
    rw [show loopsOf (lcode 9 (codeOf Try.f26)) = [] from by kernel_rfl]
    exact allM_nil) (T := T26_9) (fun R x kc ke => q26_9 F38 F52 F53 (G26_9 FUEL) R x kc ke) FUEL R x ke r ((it26_9 FUEL R x ke).trans h)
theorem ok26 : (en26 F26).OK Try.prog :=
  ent_ok (Ef := fun R => e26 F38 F52 F53 (G26_9 FUEL) R) (fun R => env26 R) mixed Try.func26 (body := codeOf Try.f26) (by kernel_rfl) (by kernel_rfl) (np := 0) (nt := 59) (fun _ => rfl) (fun _ => rfl) (by kernel_rfl) (res := res26) (by kernel_rfl) (fun _ => rfl) (fun _ => Nat.le_of_ble_eq_true rfl) (by
    intro R
    rw [show loopsOf (codeOf Try.f26) = [lcode 9 (codeOf Try.f26)] from by kernel_rfl]
    exact (allM_cons (loop_ok2 (e := le26_9 (G26_9 FUEL)) rfl rfl lok26_9) allM_nil)) (fun R x k => q26 F38 F52 F53 (G26_9 FUEL) F26 R x k)
abbrev FT50 : Type 1 := (R : Type) → (List Int) → Int → Int → (List Int) → (Int → Int → Option R) → Option R
def en50 (F : FT50) : Ent := ⟨50, [(false, (.arr 32 (.int .u8))), (false, (.int .i64)), (false, (.int .i64)), (false, (.sl (.int .u64)))], [(false, (.int .i64)), (false, (.int .i64))], fun R x k => F R x.1 x.2.1 x.2.2.1 x.2.2.2.1 (fun y1 y2 => k (y1, y2, ()) ())⟩
def res50 : List (ResultVar × TypeId × Bool) := [(.tmp 8, 3, false), (.tmp 9, 29, false)]
noncomputable def e50 (F16 : FT16) (F52 : FT52) (F80 : FT80) (R : Type) : Env R := ⟨TT, EQT, 0, 33, ownOf [], callOf [en16 F16, en52 F52, en80 F80] R, loopOf [] R, [], inlOf []⟩
def p50 (F16 : FT16) (F52 : FT52) (F80 : FT80) : FT50 := fun R a0 a1 a2 a3 k =>
F52 R (a0, a2, ()) a1 fun y1 =>
(match (!y1) with
| true => k (0 : Int) (1 : Int)
| false => F80 R (a0, a2, ()) (2 : Int) a1 fun y2 =>
F16 R y2 a2 a3 fun y3 y4 y5 =>
k y3 y5)
theorem q50 (F16 : FT16) (F52 : FT52) (F80 : FT80) (F : FT50) (R : Type) (x : AT (en50 F).ins) (k : RT (en50 F).outs → PT (en50 F).ins → Option R) :
  xfun (e50 F16 F52 F80 R) (codeOf Try.f50) res50 (avs (en50 F).ins x) (finK (en50 F).outs (en50 F).ins k) = p50 F16 F52 F80 R x.1 x.2.1 x.2.2.1 x.2.2.2.1 (fun y1 y2 => k (y1, y2, ()) ()) := by kernel_rfl
noncomputable def F50 : FT50 := p50 F16 F52 F80
theorem env50 (R : Type) : EnvOK Try.prog (e50 F16 F52 F80 R) := ⟨tabOK, eqOK, callOf_ok (allE_cons ok16 (allE_cons ok52 (allE_cons ok80 allE_nil))), noIns, inlOK_nil⟩
theorem ok50 : (en50 F50).OK Try.prog :=
  ent_ok (Ef := fun R => e50 F16 F52 F80 R) (fun R => env50 R) mixed Try.func50 (body := codeOf Try.f50) (by kernel_rfl) (by kernel_rfl) (np := 0) (nt := 33) (fun _ => rfl) (fun _ => rfl) (by kernel_rfl) (res := res50) (by kernel_rfl) (fun _ => rfl) (fun _ => Nat.le_of_ble_eq_true rfl) (by
    intro R
    rw [show loopsOf (codeOf Try.f50) = [] from by kernel_rfl]
    exact allM_nil) (fun R x k => q50 F16 F52 F80 F50 R x k)
abbrev FT44 : Type 1 := (R : Type) → Int → Tq6 → Int → (Bool → Option R) → Option R
def en44 (F : FT44) : Ent := ⟨44, [(false, (.int .i64)), (false, Kq6), (false, (.int .i64))], [(false, .bool)], fun R x k => F R x.1 x.2.1 x.2.2.1 (fun y1 => k (y1, ()) ())⟩
def res44 : List (ResultVar × TypeId × Bool) := [(.tmp 6, 4, false)]
noncomputable def e44 (F75 : FT75) (R : Type) : Env R := ⟨TT, EQT, 0, 25, ownOf [], callOf [en75 F75] R, loopOf [] R, [], inlOf []⟩
def p44 (F75 : FT75) : FT44 := fun R a0 a1 a2 k =>
let v1 : Bool := (decide (a0 ≥ (0 : Int)));
(match v1 with
| true => let v2 : Bool := (decide (a0 ≤ (256 : Int)));
(match v2 with
| true => F75 R a1 fun y3 =>
(match y3 with
| true => let v4 : Bool := (decide (a2 > (0 : Int)));
(match v4 with
| true => let v5 : Bool := (decide (a2 ≤ (64 : Int)));
k v5
| false => k false)
| false => k false)
| false => k false)
| false => k false)
theorem q44 (F75 : FT75) (F : FT44) (R : Type) (x : AT (en44 F).ins) (k : RT (en44 F).outs → PT (en44 F).ins → Option R) :
  xfun (e44 F75 R) (codeOf Try.f44) res44 (avs (en44 F).ins x) (finK (en44 F).outs (en44 F).ins k) = p44 F75 R x.1 x.2.1 x.2.2.1 (fun y1 => k (y1, ()) ()) := by kernel_rfl
noncomputable def F44 : FT44 := p44 F75
theorem env44 (R : Type) : EnvOK Try.prog (e44 F75 R) := ⟨tabOK, eqOK, callOf_ok (allE_cons ok75 allE_nil), noIns, inlOK_nil⟩
theorem ok44 : (en44 F44).OK Try.prog :=
  ent_ok (Ef := fun R => e44 F75 R) (fun R => env44 R) mixed Try.func44 (body := codeOf Try.f44) (by kernel_rfl) (by kernel_rfl) (np := 0) (nt := 25) (fun _ => rfl) (fun _ => rfl) (by kernel_rfl) (res := res44) (by kernel_rfl) (fun _ => rfl) (fun _ => Nat.le_of_ble_eq_true rfl) (by
    intro R
    rw [show loopsOf (codeOf Try.f44) = [] from by kernel_rfl]
    exact allM_nil) (fun R x k => q44 F75 F44 R x k)
abbrev FT46 : Type 1 := (R : Type) → ((List Int) × Unit) → ((List Int) → Option R) → Option R
def en46 (F : FT46) : Ent := ⟨46, [(false, (.pair (.sl (.int .u64)) .unit))], [(false, (.sl (.int .u64)))], fun R x k => F R x.1 (fun y1 => k (y1, ()) ())⟩
def res46 : List (ResultVar × TypeId × Bool) := [(.tmp 2, 22, false)]
abbrev LT46_3 : Type 1 := (R : Type) → Int → (List Int) → ((List Int) → Option R) → Option R
def le46_3 (L : LT46_3) : LEnt := ⟨3, [.fix 3 (.own 1 0), .val 4 (.int .i64), .row 1 (.int .u64) false], 2, [(.exit 0, [.fix 3 (.own 1 0), .row 1 (.int .u64) false])], fun R x ke => L R x.1 x.2.1 (fun y1 => ke.1 (y1, ()))⟩
noncomputable def e46 (F66 : FT66) (F67 : FT67) (L3 : LT46_3) (R : Type) : Env R := ⟨TT, EQT, 0, 36, ownOf [], callOf [en66 F66, en67 F67] R, loopOf [le46_3 L3] R, [], inlOf []⟩
def p46_3 (F67 : FT67) : (R : Type) → Int → (List Int) → (Int → (List Int) → Option R) → ((List Int) → Option R) → Option R := fun R x1 x2 kc k0 =>
let v3 : Bool := (decide (x1 > (0 : Int)));
(match v3 with
| true => F67 R x1 fun y4 =>
let v5 : Int := (IntKind.i64.wrap (x1 + y4));
let v6 : Int := (List.length x2 : Int);
let v7 : Bool := (decide (v5 ≤ v6));
(match v7 with
| true => let v8 : Int := (IntKind.i64.wrap (v5 - (1 : Int)));
(match (bnd v8 (List.length x2 : Int)) with
| true => let v9 : Int := (List.getD x2 (Int.toNat v8) (0 : Int));
let v10 : Int := (IntKind.i64.wrap (x1 - (1 : Int)));
(match (bnd v10 (List.length x2 : Int)) with
| true => let v11 : Int := (List.getD x2 (Int.toNat v10) (0 : Int));
let v12 : Int := (IntKind.u64.wrap (v9 - v11));
(match (bnd v8 (List.length x2 : Int)) with
| true => let v13 : (List Int) := (List.set x2 (Int.toNat v8) v12);
let v14 : Int := (IntKind.i64.wrap (x1 - (1 : Int)));
kc v14 v13
| false => none)
| false => none)
| false => none)
| false => let v15 : Int := (IntKind.i64.wrap (x1 - (1 : Int)));
kc v15 x2)
| false => k0 x2)
theorem q46_3 (F66 : FT66) (F67 : FT67) (L3 : LT46_3) (R : Type) (x : HT (le46_3 L3).H) (kc : HT (le46_3 L3).H → Option R) (ke : KT R (le46_3 L3).exs) :
  exec (e46 F66 F67 L3 R) (lcode 3 (codeOf Try.f46)) (stOf (le46_3 L3).H x 2) (roundK (le46_3 L3).H (le46_3 L3).exs kc ke) =
    p46_3 F67 R x.1 x.2.1 (fun x1 x2 => kc (x1, x2, ())) (fun y1 => ke.1 (y1, ())) := by kernel_rfl
noncomputable def G46_3 : Nat → LT46_3
  | 0 => fun _ _ _ _ => none
  | n + 1 => fun R x1 x2 k0 => p46_3 F67 R x1 x2 (fun x1 x2 => G46_3 n R x1 x2 k0) k0
def p46 (F66 : FT66) (L3 : LT46_3) : FT46 := fun R a0 k =>
F66 R a0.1 fun y1 =>
let v2 : Int := (List.length y1 : Int);
L3 R v2 y1 (fun x3 =>
k x3)
theorem q46 (F66 : FT66) (F67 : FT67) (L3 : LT46_3) (F : FT46) (R : Type) (x : AT (en46 F).ins) (k : RT (en46 F).outs → PT (en46 F).ins → Option R) :
  xfun (e46 F66 F67 L3 R) (codeOf Try.f46) res46 (avs (en46 F).ins x) (finK (en46 F).outs (en46 F).ins k) = p46 F66 L3 R x.1 (fun y1 => k (y1, ()) ()) := by kernel_rfl
noncomputable def F46 : FT46 := p46 F66 (G46_3 FUEL)
theorem env46 (R : Type) : EnvOK Try.prog (e46 F66 F67 (G46_3 FUEL) R) := ⟨tabOK, eqOK, callOf_ok (allE_cons ok66 (allE_cons ok67 allE_nil)), noIns, inlOK_nil⟩
noncomputable def T46_3 : (R : Type) → HT (le46_3 (G46_3 FUEL)).H → (HT (le46_3 (G46_3 FUEL)).H → Option R) → KT R (le46_3 (G46_3 FUEL)).exs → Option R := fun R x kc ke => p46_3 F67 R x.1 x.2.1 (fun x1 x2 => kc (x1, x2, ())) (fun y1 => ke.1 (y1, ()))
theorem it46_3 : ∀ (n : Nat) (R : Type) (x : HT (le46_3 (G46_3 FUEL)).H) (ke : KT R (le46_3 (G46_3 FUEL)).exs), iter T46_3 n R x ke = G46_3 n R x.1 x.2.1 (fun y1 => ke.1 (y1, ())) := by
  intro n
  induction n with
  | zero => intro R x ke; rfl
  | succ n ih =>
    intro R x ke
    show T46_3 R x (fun x' => iter T46_3 n R x' ke) ke = _
    rw [show (fun x' => iter T46_3 n R x' ke) = fun x => G46_3 n R x.1 x.2.1 (fun y1 => ke.1 (y1, ())) from funext fun x' => ih R x' ke]
    rfl
theorem lok46_3 : (le46_3 (G46_3 FUEL)).OK Try.prog 0 36 (lcode 3 (codeOf Try.f46)) := fun R x ke r h =>
  iter_sound (fun R => e46 F66 F67 (G46_3 FUEL) R) 0 36 (fun _ => rfl) (fun _ => rfl) (fun R => env46 R) mixed (by
    intro R
    rw [show loopsOf (lcode 3 (codeOf Try.f46)) = [] from by kernel_rfl]
    exact allM_nil) (T := T46_3) (fun R x kc ke => q46_3 F66 F67 (G46_3 FUEL) R x kc ke) FUEL R x ke r ((it46_3 FUEL R x ke).trans h)
theorem ok46 : (en46 F46).OK Try.prog :=
  ent_ok (Ef := fun R => e46 F66 F67 (G46_3 FUEL) R) (fun R => env46 R) mixed Try.func46 (body := codeOf Try.f46) (by kernel_rfl) (by kernel_rfl) (np := 0) (nt := 36) (fun _ => rfl) (fun _ => rfl) (by kernel_rfl) (res := res46) (by kernel_rfl) (fun _ => rfl) (fun _ => Nat.le_of_ble_eq_true rfl) (by
    intro R
    rw [show loopsOf (codeOf Try.f46) = [lcode 3 (codeOf Try.f46)] from by kernel_rfl]
    exact (allM_cons (loop_ok2 (e := le46_3 (G46_3 FUEL)) rfl rfl lok46_3) allM_nil)) (fun R x k => q46 F66 F67 (G46_3 FUEL) F46 R x k)
abbrev FT45 : Type 1 := (R : Type) → (List Int) → (Int → Option R) → Option R
def en45 (F : FT45) : Ent := ⟨45, [(false, (.sl (.int .u64)))], [(false, (.int .i64))], fun R x k => F R x.1 (fun y1 => k (y1, ()) ())⟩
def res45 : List (ResultVar × TypeId × Bool) := [(.tmp 2, 3, false)]
abbrev LT45_2 : Type 1 := (R : Type) → Int → (List Int) → Int → Int → (Int → Option R) → Option R
def le45_2 (L : LT45_2) : LEnt := ⟨2, [.val 2 (.int .i64), .val 5 (.sl (.int .u64)), .val 6 (.int .i64), .val 7 (.int .i64)], 0, [(.exit 0, [.val 2 (.int .i64)])], fun R x ke => L R x.1 x.2.1 x.2.2.1 x.2.2.2.1 (fun y1 => ke.1 (y1, ()))⟩
noncomputable def e45 (L2 : LT45_2) (R : Type) : Env R := ⟨TT, EQT, 0, 17, ownOf [], callOf [] R, loopOf [le45_2 L2] R, [], inlOf []⟩
def p45_2 : (R : Type) → Int → (List Int) → Int → Int → (Int → (List Int) → Int → Int → Option R) → (Int → Option R) → Option R := fun R x1 x2 x3 x4 kc k0 =>
let v5 : Bool := (decide (x4 < x3));
(match v5 with
| true => (match (bnd x4 (List.length x2 : Int)) with
| true => let v6 : Int := (List.getD x2 (Int.toNat x4) (0 : Int));
let v7 : Bool := (decide (v6 > (0 : Int)));
(match v7 with
| true => let v8 : Int := (IntKind.i64.wrap (x1 + (1 : Int)));
let v9 : Int := (IntKind.i64.wrap (x4 + (1 : Int)));
kc v8 x2 x3 v9
| false => let v10 : Int := (IntKind.i64.wrap (x4 + (1 : Int)));
kc x1 x2 x3 v10)
| false => none)
| false => k0 x1)
theorem q45_2 (L2 : LT45_2) (R : Type) (x : HT (le45_2 L2).H) (kc : HT (le45_2 L2).H → Option R) (ke : KT R (le45_2 L2).exs) :
  exec (e45 L2 R) (lcode 2 (codeOf Try.f45)) (stOf (le45_2 L2).H x 0) (roundK (le45_2 L2).H (le45_2 L2).exs kc ke) =
    p45_2 R x.1 x.2.1 x.2.2.1 x.2.2.2.1 (fun x1 x2 x3 x4 => kc (x1, x2, x3, x4, ())) (fun y1 => ke.1 (y1, ())) := by kernel_rfl
noncomputable def G45_2 : Nat → LT45_2
  | 0 => fun _ _ _ _ _ _ => none
  | n + 1 => fun R x1 x2 x3 x4 k0 => p45_2 R x1 x2 x3 x4 (fun x1 x2 x3 x4 => G45_2 n R x1 x2 x3 x4 k0) k0
def p45 (L2 : LT45_2) : FT45 := fun R a0 k =>
let v1 : Int := (List.length a0 : Int);
L2 R (0 : Int) a0 v1 (0 : Int) (fun x2 =>
k x2)
theorem q45 (L2 : LT45_2) (F : FT45) (R : Type) (x : AT (en45 F).ins) (k : RT (en45 F).outs → PT (en45 F).ins → Option R) :
  xfun (e45 L2 R) (codeOf Try.f45) res45 (avs (en45 F).ins x) (finK (en45 F).outs (en45 F).ins k) = p45 L2 R x.1 (fun y1 => k (y1, ()) ()) := by kernel_rfl
noncomputable def F45 : FT45 := p45 (G45_2 FUEL)
theorem env45 (R : Type) : EnvOK Try.prog (e45 (G45_2 FUEL) R) := ⟨tabOK, eqOK, callOf_ok allE_nil, noIns, inlOK_nil⟩
noncomputable def T45_2 : (R : Type) → HT (le45_2 (G45_2 FUEL)).H → (HT (le45_2 (G45_2 FUEL)).H → Option R) → KT R (le45_2 (G45_2 FUEL)).exs → Option R := fun R x kc ke => p45_2 R x.1 x.2.1 x.2.2.1 x.2.2.2.1 (fun x1 x2 x3 x4 => kc (x1, x2, x3, x4, ())) (fun y1 => ke.1 (y1, ()))
theorem it45_2 : ∀ (n : Nat) (R : Type) (x : HT (le45_2 (G45_2 FUEL)).H) (ke : KT R (le45_2 (G45_2 FUEL)).exs), iter T45_2 n R x ke = G45_2 n R x.1 x.2.1 x.2.2.1 x.2.2.2.1 (fun y1 => ke.1 (y1, ())) := by
  intro n
  induction n with
  | zero => intro R x ke; rfl
  | succ n ih =>
    intro R x ke
    show T45_2 R x (fun x' => iter T45_2 n R x' ke) ke = _
    rw [show (fun x' => iter T45_2 n R x' ke) = fun x => G45_2 n R x.1 x.2.1 x.2.2.1 x.2.2.2.1 (fun y1 => ke.1 (y1, ())) from funext fun x' => ih R x' ke]
    rfl
theorem lok45_2 : (le45_2 (G45_2 FUEL)).OK Try.prog 0 17 (lcode 2 (codeOf Try.f45)) := fun R x ke r h =>
  iter_sound (fun R => e45 (G45_2 FUEL) R) 0 17 (fun _ => rfl) (fun _ => rfl) (fun R => env45 R) mixed (by
    intro R
    rw [show loopsOf (lcode 2 (codeOf Try.f45)) = [] from by kernel_rfl]
    exact allM_nil) (T := T45_2) (fun R x kc ke => q45_2 (G45_2 FUEL) R x kc ke) FUEL R x ke r ((it45_2 FUEL R x ke).trans h)
theorem ok45 : (en45 F45).OK Try.prog :=
  ent_ok (Ef := fun R => e45 (G45_2 FUEL) R) (fun R => env45 R) mixed Try.func45 (body := codeOf Try.f45) (by kernel_rfl) (by kernel_rfl) (np := 0) (nt := 17) (fun _ => rfl) (fun _ => rfl) (by kernel_rfl) (res := res45) (by kernel_rfl) (fun _ => rfl) (fun _ => Nat.le_of_ble_eq_true rfl) (by
    intro R
    rw [show loopsOf (codeOf Try.f45) = [lcode 2 (codeOf Try.f45)] from by kernel_rfl]
    exact (allM_cons (loop_ok2 (e := le45_2 (G45_2 FUEL)) rfl rfl lok45_2) allM_nil)) (fun R x k => q45 (G45_2 FUEL) F45 R x k)
abbrev FT78 : Type 1 := (R : Type) → ((List Int) × Unit) → Int → (Int → Int → Option R) → Option R
def en78 (F : FT78) : Ent := ⟨78, [(false, (.pair (.sl (.int .u64)) .unit)), (false, (.int .i64))], [(false, (.int .u64)), (false, (.int .i64))], fun R x k => F R x.1 x.2.1 (fun y1 y2 => k (y1, y2, ()) ())⟩
def res78 : List (ResultVar × TypeId × Bool) := [(.tmp 4, 24, false), (.tmp 5, 29, false)]
noncomputable def e78 (F96 : FT96) (F97 : FT97) (R : Type) : Env R := ⟨TT, EQT, 0, 22, ownOf [], callOf [en96 F96, en97 F97] R, loopOf [] R, [], inlOf []⟩
def p78 (F96 : FT96) (F97 : FT97) : FT78 := fun R a0 a1 k =>
let v1 : Bool := (decide (a1 < (0 : Int)));
(match v1 with
| true => k (0 : Int) (3 : Int)
| false => F97 R a0 fun y2 =>
let v3 : Bool := (decide (a1 ≥ y2));
(match v3 with
| true => k (0 : Int) (3 : Int)
| false => let v4 : Int := (IntKind.i64.wrap (a1 + (1 : Int)));
F96 R a0 v4 fun y5 =>
F96 R a0 a1 fun y6 =>
let v7 : Int := (IntKind.u64.wrap (y5 - y6));
k v7 (0 : Int)))
theorem q78 (F96 : FT96) (F97 : FT97) (F : FT78) (R : Type) (x : AT (en78 F).ins) (k : RT (en78 F).outs → PT (en78 F).ins → Option R) :
  xfun (e78 F96 F97 R) (codeOf Try.f78) res78 (avs (en78 F).ins x) (finK (en78 F).outs (en78 F).ins k) = p78 F96 F97 R x.1 x.2.1 (fun y1 y2 => k (y1, y2, ()) ()) := by kernel_rfl
noncomputable def F78 : FT78 := p78 F96 F97
theorem env78 (R : Type) : EnvOK Try.prog (e78 F96 F97 R) := ⟨tabOK, eqOK, callOf_ok (allE_cons ok96 (allE_cons ok97 allE_nil)), noIns, inlOK_nil⟩
theorem ok78 : (en78 F78).OK Try.prog :=
  ent_ok (Ef := fun R => e78 F96 F97 R) (fun R => env78 R) mixed Try.func78 (body := codeOf Try.f78) (by kernel_rfl) (by kernel_rfl) (np := 0) (nt := 22) (fun _ => rfl) (fun _ => rfl) (by kernel_rfl) (res := res78) (by kernel_rfl) (fun _ => rfl) (fun _ => Nat.le_of_ble_eq_true rfl) (by
    intro R
    rw [show loopsOf (codeOf Try.f78) = [] from by kernel_rfl]
    exact allM_nil) (fun R x k => q78 F96 F97 F78 R x k)
abbrev FT48 : Type 1 := (R : Type) → ((List Int) × Unit) → Int → Int → (((List Int) × Unit) → Int → Option R) → Option R
def en48 (F : FT48) : Ent := ⟨48, [(false, (.pair (.sl (.int .u64)) .unit)), (false, (.int .i64)), (false, (.int .u64))], [(false, (.pair (.sl (.int .u64)) .unit)), (false, (.int .i64))], fun R x k => F R x.1 x.2.1 x.2.2.1 (fun y1 y2 => k (y1, y2, ()) ())⟩
def res48 : List (ResultVar × TypeId × Bool) := [(.cell 6 58, 58, false), (.tmp 7, 29, false)]
abbrev LT48_9 : Type 1 := (R : Type) → Int → Int → Int → ((List Int) × Unit) → (List Int) → (((List Int) × Unit) → (List Int) → Option R) → Option R
def le48_9 (L : LT48_9) : LEnt := ⟨9, [.val 2 (.int .u64), .fix 6 (.ptr 1 [] (.pair (.sl (.int .u64)) .unit)), .val 8 (.int .u64), .fix 12 (.own 2 0), .val 13 (.int .i64), .var 1 (.pair (.sl (.int .u64)) .unit) false, .row 2 (.int .u64) false], 3, [(.exit 0, [.fix 6 (.ptr 1 [] (.pair (.sl (.int .u64)) .unit)), .fix 12 (.own 2 0), .var 1 (.pair (.sl (.int .u64)) .unit) false, .row 2 (.int .u64) false])], fun R x ke => L R x.1 x.2.1 x.2.2.1 x.2.2.2.1 x.2.2.2.2.1 (fun y1 y2 => ke.1 (y1, y2, ()))⟩
noncomputable def e48 (F66 : FT66) (F67 : FT67) (F76 : FT76) (F78 : FT78) (F79 : FT79) (L9 : LT48_9) (R : Type) : Env R := ⟨TT, EQT, 0, 64, ownOf [], callOf [en66 F66, en67 F67, en76 F76, en78 F78, en79 F79] R, loopOf [le48_9 L9] R, [], inlOf []⟩
def p48_9 (F67 : FT67) : (R : Type) → Int → Int → Int → ((List Int) × Unit) → (List Int) → (Int → Int → Int → ((List Int) × Unit) → (List Int) → Option R) → (((List Int) × Unit) → (List Int) → Option R) → Option R := fun R x1 x2 x3 x4 x5 kc k0 =>
let v6 : Int := (List.length x5 : Int);
let v7 : Bool := (decide (x3 ≤ v6));
(match v7 with
| true => let v8 : Int := (IntKind.i64.wrap (x3 - (1 : Int)));
let v9 : Int := (IntKind.i64.wrap (x3 - (1 : Int)));
(match (bnd v9 (List.length x5 : Int)) with
| true => let v10 : Int := (List.getD x5 (Int.toNat v9) (0 : Int));
let v11 : Int := (IntKind.u64.wrap (v10 - x2));
let v12 : Int := (IntKind.u64.wrap (v11 + x1));
(match (bnd v8 (List.length x5 : Int)) with
| true => let v13 : (List Int) := (List.set x5 (Int.toNat v8) v12);
F67 R x3 fun y14 =>
let v15 : Int := (IntKind.i64.wrap (x3 + y14));
kc x1 x2 v15 x4 v13
| false => none)
| false => none)
| false => k0 x4 x5)
theorem q48_9 (F66 : FT66) (F67 : FT67) (F76 : FT76) (F78 : FT78) (F79 : FT79) (L9 : LT48_9) (R : Type) (x : HT (le48_9 L9).H) (kc : HT (le48_9 L9).H → Option R) (ke : KT R (le48_9 L9).exs) :
  exec (e48 F66 F67 F76 F78 F79 L9 R) (lcode 9 (codeOf Try.f48)) (stOf (le48_9 L9).H x 3) (roundK (le48_9 L9).H (le48_9 L9).exs kc ke) =
    p48_9 F67 R x.1 x.2.1 x.2.2.1 x.2.2.2.1 x.2.2.2.2.1 (fun x1 x2 x3 x4 x5 => kc (x1, x2, x3, x4, x5, ())) (fun y1 y2 => ke.1 (y1, y2, ())) := by kernel_rfl
noncomputable def G48_9 : Nat → LT48_9
  | 0 => fun _ _ _ _ _ _ _ => none
  | n + 1 => fun R x1 x2 x3 x4 x5 k0 => p48_9 F67 R x1 x2 x3 x4 x5 (fun x1 x2 x3 x4 x5 => G48_9 n R x1 x2 x3 x4 x5 k0) k0
def p48 (F66 : FT66) (F76 : FT76) (F78 : FT78) (F79 : FT79) (L9 : LT48_9) : FT48 := fun R a0 a1 a2 k =>
F78 R a0 a1 fun y1 y2 =>
let v3 : Bool := (y2 != (0 : Int));
(match v3 with
| true => k (([] : (List Int)), ()) y2
| false => F76 R a0 fun y4 =>
let v5 : Int := (IntKind.u64.wrap (y4 - y1));
F79 R v5 a2 fun y6 y7 =>
(match (!y7) with
| true => k (([] : (List Int)), ()) (11 : Int)
| false => F66 R a0.1 fun y8 =>
let v9 : Int := (IntKind.i64.wrap (a1 + (1 : Int)));
L9 R a2 y1 v9 (([] : (List Int)), ()) y8 (fun x10 x11 =>
k (x11, ()) (0 : Int))))
theorem q48 (F66 : FT66) (F67 : FT67) (F76 : FT76) (F78 : FT78) (F79 : FT79) (L9 : LT48_9) (F : FT48) (R : Type) (x : AT (en48 F).ins) (k : RT (en48 F).outs → PT (en48 F).ins → Option R) :
  xfun (e48 F66 F67 F76 F78 F79 L9 R) (codeOf Try.f48) res48 (avs (en48 F).ins x) (finK (en48 F).outs (en48 F).ins k) = p48 F66 F76 F78 F79 L9 R x.1 x.2.1 x.2.2.1 (fun y1 y2 => k (y1, y2, ()) ()) := by kernel_rfl
noncomputable def F48 : FT48 := p48 F66 F76 F78 F79 (G48_9 FUEL)
theorem env48 (R : Type) : EnvOK Try.prog (e48 F66 F67 F76 F78 F79 (G48_9 FUEL) R) := ⟨tabOK, eqOK, callOf_ok (allE_cons ok66 (allE_cons ok67 (allE_cons ok76 (allE_cons ok78 (allE_cons ok79 allE_nil))))), noIns, inlOK_nil⟩
noncomputable def T48_9 : (R : Type) → HT (le48_9 (G48_9 FUEL)).H → (HT (le48_9 (G48_9 FUEL)).H → Option R) → KT R (le48_9 (G48_9 FUEL)).exs → Option R := fun R x kc ke => p48_9 F67 R x.1 x.2.1 x.2.2.1 x.2.2.2.1 x.2.2.2.2.1 (fun x1 x2 x3 x4 x5 => kc (x1, x2, x3, x4, x5, ())) (fun y1 y2 => ke.1 (y1, y2, ()))
theorem it48_9 : ∀ (n : Nat) (R : Type) (x : HT (le48_9 (G48_9 FUEL)).H) (ke : KT R (le48_9 (G48_9 FUEL)).exs), iter T48_9 n R x ke = G48_9 n R x.1 x.2.1 x.2.2.1 x.2.2.2.1 x.2.2.2.2.1 (fun y1 y2 => ke.1 (y1, y2, ())) := by
  intro n
  induction n with
  | zero => intro R x ke; rfl
  | succ n ih =>
    intro R x ke
    show T48_9 R x (fun x' => iter T48_9 n R x' ke) ke = _
    rw [show (fun x' => iter T48_9 n R x' ke) = fun x => G48_9 n R x.1 x.2.1 x.2.2.1 x.2.2.2.1 x.2.2.2.2.1 (fun y1 y2 => ke.1 (y1, y2, ())) from funext fun x' => ih R x' ke]
    rfl
theorem lok48_9 : (le48_9 (G48_9 FUEL)).OK Try.prog 0 64 (lcode 9 (codeOf Try.f48)) := fun R x ke r h =>
  iter_sound (fun R => e48 F66 F67 F76 F78 F79 (G48_9 FUEL) R) 0 64 (fun _ => rfl) (fun _ => rfl) (fun R => env48 R) mixed (by
    intro R
    rw [show loopsOf (lcode 9 (codeOf Try.f48)) = [] from by kernel_rfl]
    exact allM_nil) (T := T48_9) (fun R x kc ke => q48_9 F66 F67 F76 F78 F79 (G48_9 FUEL) R x kc ke) FUEL R x ke r ((it48_9 FUEL R x ke).trans h)
theorem ok48 : (en48 F48).OK Try.prog :=
  ent_ok (Ef := fun R => e48 F66 F67 F76 F78 F79 (G48_9 FUEL) R) (fun R => env48 R) mixed Try.func48 (body := codeOf Try.f48) (by kernel_rfl) (by kernel_rfl) (np := 0) (nt := 64) (fun _ => rfl) (fun _ => rfl) (by kernel_rfl) (res := res48) (by kernel_rfl) (fun _ => rfl) (fun _ => Nat.le_of_ble_eq_true rfl) (by
    intro R
    rw [show loopsOf (codeOf Try.f48) = [lcode 9 (codeOf Try.f48)] from by kernel_rfl]
    exact (allM_cons (loop_ok2 (e := le48_9 (G48_9 FUEL)) rfl rfl lok48_9) allM_nil)) (fun R x k => q48 F66 F67 F76 F78 F79 (G48_9 FUEL) F48 R x k)
abbrev FT22 : Type 1 := (R : Type) → ((List Int) × Unit) → Int → Tq6 → Int → ((List Int) → Tq6 → Int → Option R) → Option R
def en22 (F : FT22) : Ent := ⟨22, [(false, (.pair (.sl (.int .u64)) .unit)), (false, (.int .i64)), (false, Kq6), (false, (.int .i64))], [(false, (.sl (.int .i64))), (false, Kq6), (false, (.int .i64))], fun R x k => F R x.1 x.2.1 x.2.2.1 x.2.2.2.1 (fun y1 y2 y3 => k (y1, y2, y3, ()) ())⟩
def res22 : List (ResultVar × TypeId × Bool) := [(.tmp 8, 47, false), (.cell 9 37, 37, false), (.tmp 10, 29, false)]
abbrev LT22_5 : Type 1 := (R : Type) → Int → Int → ((List Int) × Unit) → Tq6 → (List Int) → Tq6 → (Int → Tq6 → Option R) → (Tq6 → (List Int) → Tq6 → Option R) → Option R
def le22_5 (L : LT22_5) : LEnt := ⟨5, [.val 1 (.int .i64), .val 3 (.int .i64), .fix 4 (.ptr 0 [] (.pair (.sl (.int .u64)) .unit)), .fix 6 (.ptr 1 [] Kq6), .fix 8 (.own 2 0), .fix 9 (.ptr 3 [] Kq6), .var 0 (.pair (.sl (.int .u64)) .unit) false, .var 1 Kq6 false, .row 2 (.int .i64) false, .var 3 Kq6 false], 4, [(.ret, [.fix 8 .nil, .fix 9 (.ptr 3 [] Kq6), .val 10 (.int .i64), .var 3 Kq6 false]), (.exit 1, [.fix 6 (.ptr 1 [] Kq6), .fix 8 (.own 2 0), .fix 9 (.ptr 3 [] Kq6), .var 1 Kq6 false, .row 2 (.int .i64) false, .var 3 Kq6 false])], fun R x ke => L R x.1 x.2.1 x.2.2.1 x.2.2.2.1 x.2.2.2.2.1 x.2.2.2.2.2.1 (fun y1 y2 => ke.1 (y1, y2, ())) (fun y1 y2 y3 => ke.2.1 (y1, y2, y3, ()))⟩
noncomputable def e22 (F44 : FT44) (F45 : FT45) (F46 : FT46) (F47 : FT47) (F48 : FT48) (L5 : LT22_5) (R : Type) : Env R := ⟨TT, EQT, 0, 61, ownOf [(0, 2)], callOf [en44 F44, en45 F45, en46 F46, en47 F47, en48 F48] R, loopOf [le22_5 L5] R, [], inlOf []⟩
def p22_5 (F47 : FT47) (F48 : FT48) : (R : Type) → Int → Int → ((List Int) × Unit) → Tq6 → (List Int) → Tq6 → (Int → Int → ((List Int) × Unit) → Tq6 → (List Int) → Tq6 → Option R) → (Int → Tq6 → Option R) → (Tq6 → (List Int) → Tq6 → Option R) → Option R := fun R x1 x2 x3 x4 x5 x6 kc k0 k1 =>
let v7 : Int := (List.length x5 : Int);
let v8 : Bool := (decide (v7 < x1));
(match v8 with
| true => F47 R x3 x4 x2 fun y9 y10 y11 =>
let v12 : Bool := (y11 != (0 : Int));
(match v12 with
| true => k0 y11 y10
| false => let v13 : (List Int) := ([y9] : (List Int));
(match (decide (List.length x5 + List.length v13 ≤ 17592186044416)) with
| true => let v14 : (List Int) := (x5 ++ v13);
F48 R x3 y9 (0 : Int) fun y15 y16 =>
let v17 : Bool := (y16 != (0 : Int));
(match v17 with
| true => k0 y16 y10
| false => kc x1 x2 y15 y10 v14 x6)
| false => none))
| false => k1 x4 x5 x6)
theorem q22_5 (F44 : FT44) (F45 : FT45) (F46 : FT46) (F47 : FT47) (F48 : FT48) (L5 : LT22_5) (R : Type) (x : HT (le22_5 L5).H) (kc : HT (le22_5 L5).H → Option R) (ke : KT R (le22_5 L5).exs) :
  exec (e22 F44 F45 F46 F47 F48 L5 R) (lcode 5 (codeOf Try.f22)) (stOf (le22_5 L5).H x 4) (roundK (le22_5 L5).H (le22_5 L5).exs kc ke) =
    p22_5 F47 F48 R x.1 x.2.1 x.2.2.1 x.2.2.2.1 x.2.2.2.2.1 x.2.2.2.2.2.1 (fun x1 x2 x3 x4 x5 x6 => kc (x1, x2, x3, x4, x5, x6, ())) (fun y1 y2 => ke.1 (y1, y2, ())) (fun y1 y2 y3 => ke.2.1 (y1, y2, y3, ())) := by kernel_rfl
noncomputable def G22_5 : Nat → LT22_5
  | 0 => fun _ _ _ _ _ _ _ _ _ => none
  | n + 1 => fun R x1 x2 x3 x4 x5 x6 k0 k1 => p22_5 F47 F48 R x1 x2 x3 x4 x5 x6 (fun x1 x2 x3 x4 x5 x6 => G22_5 n R x1 x2 x3 x4 x5 x6 k0 k1) k0 k1
def p22 (F44 : FT44) (F45 : FT45) (F46 : FT46) (L5 : LT22_5) : FT22 := fun R a0 a1 a2 a3 k =>
F44 R a1 a2 a3 fun y1 =>
(match (!y1) with
| true => k ([] : (List Int)) a2 (1 : Int)
| false => F46 R a0 fun y2 =>
F45 R y2 fun y3 =>
let v4 : Bool := (decide (y3 < a1));
(match v4 with
| true => k ([] : (List Int)) a2 (12 : Int)
| false => L5 R a1 a3 a0 a2 ([] : (List Int)) ((0 : Int), ([] : (List Int)), (0 : Int), (List.replicate 32 (0 : Int)), (0 : Int), (0 : Int), ()) (fun x5 x6 =>
k ([] : (List Int)) x6 x5) (fun x7 x8 x9 =>
k x8 x7 (0 : Int))))
theorem q22 (F44 : FT44) (F45 : FT45) (F46 : FT46) (F47 : FT47) (F48 : FT48) (L5 : LT22_5) (F : FT22) (R : Type) (x : AT (en22 F).ins) (k : RT (en22 F).outs → PT (en22 F).ins → Option R) :
  xfun (e22 F44 F45 F46 F47 F48 L5 R) (codeOf Try.f22) res22 (avs (en22 F).ins x) (finK (en22 F).outs (en22 F).ins k) = p22 F44 F45 F46 L5 R x.1 x.2.1 x.2.2.1 x.2.2.2.1 (fun y1 y2 y3 => k (y1, y2, y3, ()) ()) := by kernel_rfl
noncomputable def F22 : FT22 := p22 F44 F45 F46 (G22_5 FUEL)
theorem env22 (R : Type) : EnvOK Try.prog (e22 F44 F45 F46 F47 F48 (G22_5 FUEL) R) := ⟨tabOK, eqOK, callOf_ok (allE_cons ok44 (allE_cons ok45 (allE_cons ok46 (allE_cons ok47 (allE_cons ok48 allE_nil))))), noIns, inlOK_nil⟩
noncomputable def T22_5 : (R : Type) → HT (le22_5 (G22_5 FUEL)).H → (HT (le22_5 (G22_5 FUEL)).H → Option R) → KT R (le22_5 (G22_5 FUEL)).exs → Option R := fun R x kc ke => p22_5 F47 F48 R x.1 x.2.1 x.2.2.1 x.2.2.2.1 x.2.2.2.2.1 x.2.2.2.2.2.1 (fun x1 x2 x3 x4 x5 x6 => kc (x1, x2, x3, x4, x5, x6, ())) (fun y1 y2 => ke.1 (y1, y2, ())) (fun y1 y2 y3 => ke.2.1 (y1, y2, y3, ()))
theorem it22_5 : ∀ (n : Nat) (R : Type) (x : HT (le22_5 (G22_5 FUEL)).H) (ke : KT R (le22_5 (G22_5 FUEL)).exs), iter T22_5 n R x ke = G22_5 n R x.1 x.2.1 x.2.2.1 x.2.2.2.1 x.2.2.2.2.1 x.2.2.2.2.2.1 (fun y1 y2 => ke.1 (y1, y2, ())) (fun y1 y2 y3 => ke.2.1 (y1, y2, y3, ())) := by
  intro n
  induction n with
  | zero => intro R x ke; rfl
  | succ n ih =>
    intro R x ke
    show T22_5 R x (fun x' => iter T22_5 n R x' ke) ke = _
    rw [show (fun x' => iter T22_5 n R x' ke) = fun x => G22_5 n R x.1 x.2.1 x.2.2.1 x.2.2.2.1 x.2.2.2.2.1 x.2.2.2.2.2.1 (fun y1 y2 => ke.1 (y1, y2, ())) (fun y1 y2 y3 => ke.2.1 (y1, y2, y3, ())) from funext fun x' => ih R x' ke]
    rfl
theorem lok22_5 : (le22_5 (G22_5 FUEL)).OK Try.prog 0 61 (lcode 5 (codeOf Try.f22)) := fun R x ke r h =>
  iter_sound (fun R => e22 F44 F45 F46 F47 F48 (G22_5 FUEL) R) 0 61 (fun _ => rfl) (fun _ => rfl) (fun R => env22 R) mixed (by
    intro R
    rw [show loopsOf (lcode 5 (codeOf Try.f22)) = [] from by kernel_rfl]
    exact allM_nil) (T := T22_5) (fun R x kc ke => q22_5 F44 F45 F46 F47 F48 (G22_5 FUEL) R x kc ke) FUEL R x ke r ((it22_5 FUEL R x ke).trans h)
theorem ok22 : (en22 F22).OK Try.prog :=
  ent_ok (Ef := fun R => e22 F44 F45 F46 F47 F48 (G22_5 FUEL) R) (fun R => env22 R) mixed Try.func22 (body := codeOf Try.f22) (by kernel_rfl) (by kernel_rfl) (np := 0) (nt := 61) (fun _ => rfl) (fun _ => rfl) (by kernel_rfl) (res := res22) (by kernel_rfl) (fun _ => rfl) (fun _ => Nat.le_of_ble_eq_true rfl) (by
    intro R
    rw [show loopsOf (codeOf Try.f22) = [lcode 5 (codeOf Try.f22)] from by kernel_rfl]
    exact (allM_cons (loop_ok2 (e := le22_5 (G22_5 FUEL)) rfl rfl lok22_5) allM_nil)) (fun R x k => q22 F44 F45 F46 F47 F48 (G22_5 FUEL) F22 R x k)
abbrev FT18 : Type 1 := (R : Type) → Int → Tq6 → Int → (List Int) → ((List Int) → Tq6 → Int → Option R) → Option R
def en18 (F : FT18) : Ent := ⟨18, [(false, (.int .i64)), (false, Kq6), (false, (.int .i64)), (false, (.sl (.int .u64)))], [(false, (.sl (.int .i64))), (false, Kq6), (false, (.int .i64))], fun R x k => F R x.1 x.2.1 x.2.2.1 x.2.2.2.1 (fun y1 y2 y3 => k (y1, y2, y3, ()) ())⟩
def res18 : List (ResultVar × TypeId × Bool) := [(.tmp 8, 47, false), (.cell 9 37, 37, false), (.tmp 10, 29, false)]
noncomputable def e18 (F22 : FT22) (F38 : FT38) (R : Type) : Env R := ⟨TT, EQT, 0, 30, ownOf [], callOf [en22 F22, en38 F38] R, loopOf [] R, [], inlOf []⟩
def p18 (F22 : FT22) (F38 : FT38) : FT18 := fun R a0 a1 a2 a3 k =>
F38 R a3 fun y1 y2 =>
let v3 : Bool := (y2 != (0 : Int));
(match v3 with
| true => k ([] : (List Int)) a1 y2
| false => F22 R y1 a0 a1 a2 fun y4 y5 y6 =>
k y4 y5 y6)
theorem q18 (F22 : FT22) (F38 : FT38) (F : FT18) (R : Type) (x : AT (en18 F).ins) (k : RT (en18 F).outs → PT (en18 F).ins → Option R) :
  xfun (e18 F22 F38 R) (codeOf Try.f18) res18 (avs (en18 F).ins x) (finK (en18 F).outs (en18 F).ins k) = p18 F22 F38 R x.1 x.2.1 x.2.2.1 x.2.2.2.1 (fun y1 y2 y3 => k (y1, y2, y3, ()) ()) := by kernel_rfl
noncomputable def F18 : FT18 := p18 F22 F38
theorem env18 (R : Type) : EnvOK Try.prog (e18 F22 F38 R) := ⟨tabOK, eqOK, callOf_ok (allE_cons ok22 (allE_cons ok38 allE_nil)), noIns, inlOK_nil⟩
theorem ok18 : (en18 F18).OK Try.prog :=
  ent_ok (Ef := fun R => e18 F22 F38 R) (fun R => env18 R) mixed Try.func18 (body := codeOf Try.f18) (by kernel_rfl) (by kernel_rfl) (np := 0) (nt := 30) (fun _ => rfl) (fun _ => rfl) (by kernel_rfl) (res := res18) (by kernel_rfl) (fun _ => rfl) (fun _ => Nat.le_of_ble_eq_true rfl) (by
    intro R
    rw [show loopsOf (codeOf Try.f18) = [] from by kernel_rfl]
    exact allM_nil) (fun R x k => q18 F22 F38 F18 R x k)
abbrev FT51 : Type 1 := (R : Type) → (List Int) → Int → Int → Int → (List Int) → ((List Int) → Int → Option R) → Option R
def en51 (F : FT51) : Ent := ⟨51, [(false, (.arr 32 (.int .u8))), (false, (.int .i64)), (false, (.int .i64)), (false, (.int .i64)), (false, (.sl (.int .u64)))], [(false, (.sl (.int .i64))), (false, (.int .i64))], fun R x k => F R x.1 x.2.1 x.2.2.1 x.2.2.2.1 x.2.2.2.2.1 (fun y1 y2 => k (y1, y2, ()) ())⟩
def res51 : List (ResultVar × TypeId × Bool) := [(.tmp 10, 47, false), (.tmp 11, 29, false)]
noncomputable def e51 (F18 : FT18) (F52 : FT52) (F80 : FT80) (R : Type) : Env R := ⟨TT, EQT, 0, 36, ownOf [], callOf [en18 F18, en52 F52, en80 F80] R, loopOf [] R, [], inlOf []⟩
def p51 (F18 : FT18) (F52 : FT52) (F80 : FT80) : FT51 := fun R a0 a1 a2 a3 a4 k =>
F52 R (a0, a3, ()) a1 fun y1 =>
(match (!y1) with
| true => k ([] : (List Int)) (1 : Int)
| false => F80 R (a0, a3, ()) (3 : Int) a1 fun y2 =>
F18 R a2 y2 a3 a4 fun y3 y4 y5 =>
k y3 y5)
theorem q51 (F18 : FT18) (F52 : FT52) (F80 : FT80) (F : FT51) (R : Type) (x : AT (en51 F).ins) (k : RT (en51 F).outs → PT (en51 F).ins → Option R) :
  xfun (e51 F18 F52 F80 R) (codeOf Try.f51) res51 (avs (en51 F).ins x) (finK (en51 F).outs (en51 F).ins k) = p51 F18 F52 F80 R x.1 x.2.1 x.2.2.1 x.2.2.2.1 x.2.2.2.2.1 (fun y1 y2 => k (y1, y2, ()) ()) := by kernel_rfl
noncomputable def F51 : FT51 := p51 F18 F52 F80
theorem env51 (R : Type) : EnvOK Try.prog (e51 F18 F52 F80 R) := ⟨tabOK, eqOK, callOf_ok (allE_cons ok18 (allE_cons ok52 (allE_cons ok80 allE_nil))), noIns, inlOK_nil⟩
theorem ok51 : (en51 F51).OK Try.prog :=
  ent_ok (Ef := fun R => e51 F18 F52 F80 R) (fun R => env51 R) mixed Try.func51 (body := codeOf Try.f51) (by kernel_rfl) (by kernel_rfl) (np := 0) (nt := 36) (fun _ => rfl) (fun _ => rfl) (by kernel_rfl) (res := res51) (by kernel_rfl) (fun _ => rfl) (fun _ => Nat.le_of_ble_eq_true rfl) (by
    intro R
    rw [show loopsOf (codeOf Try.f51) = [] from by kernel_rfl]
    exact allM_nil) (fun R x k => q51 F18 F52 F80 F51 R x k)
abbrev FT19 : Type 1 := (R : Type) → (List Int) → (List Int) → (Bool → Option R) → Option R
def en19 (F : FT19) : Ent := ⟨19, [(false, (.sl (.int .i64))), (false, (.sl (.int .i64)))], [(false, .bool)], fun R x k => F R x.1 x.2.1 (fun y1 => k (y1, ()) ())⟩
def res19 : List (ResultVar × TypeId × Bool) := [(.tmp 4, 4, false)]
abbrev LT19_4 : Type 1 := (R : Type) → (List Int) → (List Int) → Int → (Bool → Option R) → (Option R) → Option R
def le19_4 (L : LT19_4) : LEnt := ⟨4, [.val 0 (.sl (.int .i64)), .val 1 (.sl (.int .i64)), .val 5 (.int .i64)], 0, [(.ret, [.val 4 .bool]), (.exit 0, [])], fun R x ke => L R x.1 x.2.1 x.2.2.1 (fun y1 => ke.1 (y1, ())) (ke.2.1 ())⟩
noncomputable def e19 (L4 : LT19_4) (R : Type) : Env R := ⟨TT, EQT, 0, 26, ownOf [], callOf [] R, loopOf [le19_4 L4] R, [], inlOf []⟩
def p19_4 : (R : Type) → (List Int) → (List Int) → Int → ((List Int) → (List Int) → Int → Option R) → (Bool → Option R) → (Option R) → Option R := fun R x1 x2 x3 kc k0 k1 =>
let v4 : Int := (List.length x1 : Int);
let v5 : Bool := (decide (x3 < v4));
(match v5 with
| true => (match (bnd x3 (List.length x1 : Int)) with
| true => let v6 : Int := (List.getD x1 (Int.toNat x3) (0 : Int));
(match (bnd x3 (List.length x2 : Int)) with
| true => let v7 : Int := (List.getD x2 (Int.toNat x3) (0 : Int));
let v8 : Bool := (v6 != v7);
(match v8 with
| true => k0 false
| false => let v9 : Int := (IntKind.i64.wrap (x3 + (1 : Int)));
kc x1 x2 v9)
| false => none)
| false => none)
| false => k1)
theorem q19_4 (L4 : LT19_4) (R : Type) (x : HT (le19_4 L4).H) (kc : HT (le19_4 L4).H → Option R) (ke : KT R (le19_4 L4).exs) :
  exec (e19 L4 R) (lcode 4 (codeOf Try.f19)) (stOf (le19_4 L4).H x 0) (roundK (le19_4 L4).H (le19_4 L4).exs kc ke) =
    p19_4 R x.1 x.2.1 x.2.2.1 (fun x1 x2 x3 => kc (x1, x2, x3, ())) (fun y1 => ke.1 (y1, ())) (ke.2.1 ()) := by kernel_rfl
noncomputable def G19_4 : Nat → LT19_4
  | 0 => fun _ _ _ _ _ _ => none
  | n + 1 => fun R x1 x2 x3 k0 k1 => p19_4 R x1 x2 x3 (fun x1 x2 x3 => G19_4 n R x1 x2 x3 k0 k1) k0 k1
def p19 (L4 : LT19_4) : FT19 := fun R a0 a1 k =>
let v1 : Int := (List.length a0 : Int);
let v2 : Int := (List.length a1 : Int);
let v3 : Bool := (v1 != v2);
(match v3 with
| true => k false
| false => L4 R a0 a1 (0 : Int) (fun x4 =>
k x4) (k true))
theorem q19 (L4 : LT19_4) (F : FT19) (R : Type) (x : AT (en19 F).ins) (k : RT (en19 F).outs → PT (en19 F).ins → Option R) :
  xfun (e19 L4 R) (codeOf Try.f19) res19 (avs (en19 F).ins x) (finK (en19 F).outs (en19 F).ins k) = p19 L4 R x.1 x.2.1 (fun y1 => k (y1, ()) ()) := by kernel_rfl
noncomputable def F19 : FT19 := p19 (G19_4 FUEL)
theorem env19 (R : Type) : EnvOK Try.prog (e19 (G19_4 FUEL) R) := ⟨tabOK, eqOK, callOf_ok allE_nil, noIns, inlOK_nil⟩
noncomputable def T19_4 : (R : Type) → HT (le19_4 (G19_4 FUEL)).H → (HT (le19_4 (G19_4 FUEL)).H → Option R) → KT R (le19_4 (G19_4 FUEL)).exs → Option R := fun R x kc ke => p19_4 R x.1 x.2.1 x.2.2.1 (fun x1 x2 x3 => kc (x1, x2, x3, ())) (fun y1 => ke.1 (y1, ())) (ke.2.1 ())
theorem it19_4 : ∀ (n : Nat) (R : Type) (x : HT (le19_4 (G19_4 FUEL)).H) (ke : KT R (le19_4 (G19_4 FUEL)).exs), iter T19_4 n R x ke = G19_4 n R x.1 x.2.1 x.2.2.1 (fun y1 => ke.1 (y1, ())) (ke.2.1 ()) := by
  intro n
  induction n with
  | zero => intro R x ke; rfl
  | succ n ih =>
    intro R x ke
    show T19_4 R x (fun x' => iter T19_4 n R x' ke) ke = _
    rw [show (fun x' => iter T19_4 n R x' ke) = fun x => G19_4 n R x.1 x.2.1 x.2.2.1 (fun y1 => ke.1 (y1, ())) (ke.2.1 ()) from funext fun x' => ih R x' ke]
    rfl
theorem lok19_4 : (le19_4 (G19_4 FUEL)).OK Try.prog 0 26 (lcode 4 (codeOf Try.f19)) := fun R x ke r h =>
  iter_sound (fun R => e19 (G19_4 FUEL) R) 0 26 (fun _ => rfl) (fun _ => rfl) (fun R => env19 R) mixed (by
    intro R
    rw [show loopsOf (lcode 4 (codeOf Try.f19)) = [] from by kernel_rfl]
    exact allM_nil) (T := T19_4) (fun R x kc ke => q19_4 (G19_4 FUEL) R x kc ke) FUEL R x ke r ((it19_4 FUEL R x ke).trans h)
theorem ok19 : (en19 F19).OK Try.prog :=
  ent_ok (Ef := fun R => e19 (G19_4 FUEL) R) (fun R => env19 R) mixed Try.func19 (body := codeOf Try.f19) (by kernel_rfl) (by kernel_rfl) (np := 0) (nt := 26) (fun _ => rfl) (fun _ => rfl) (by kernel_rfl) (res := res19) (by kernel_rfl) (fun _ => rfl) (fun _ => Nat.le_of_ble_eq_true rfl) (by
    intro R
    rw [show loopsOf (codeOf Try.f19) = [lcode 4 (codeOf Try.f19)] from by kernel_rfl]
    exact (allM_cons (loop_ok2 (e := le19_4 (G19_4 FUEL)) rfl rfl lok19_4) allM_nil)) (fun R x k => q19 (G19_4 FUEL) F19 R x k)
abbrev FT25 : Type 1 := (R : Type) → (Bool → Option R) → Option R
def en25 (F : FT25) : Ent := ⟨25, [], [(false, .bool)], fun R x k => F R  (fun y1 => k (y1, ()) ())⟩
def res25 : List (ResultVar × TypeId × Bool) := [(.tmp 0, 4, false)]
noncomputable def e25 (F19 : FT19) (F26 : FT26) (F27 : FT27) (F50 : FT50) (F51 : FT51) (R : Type) : Env R := ⟨TT, EQT, 0, 110, ownOf [], callOf [en19 F19, en26 F26, en27 F27, en50 F50, en51 F51] R, loopOf [] R, [], inlOf []⟩
def p25 (F19 : FT19) (F26 : FT26) (F27 : FT27) (F50 : FT50) (F51 : FT51) : FT25 := fun R k =>
let v1 : (List Int) := (List.replicate 32 (0 : Int));
let v2 : (List Int) := ([(0 : Int), (1 : Int)] : (List Int));
F27 R v1 (3 : Int) (64 : Int) v2 fun y3 y4 =>
let v5 : (List Int) := (List.replicate 32 (0 : Int));
let v6 : (List Int) := ([(0 : Int), (1 : Int)] : (List Int));
F26 R v5 (3 : Int) (64 : Int) v6 fun y7 y8 =>
let v9 : (List Int) := (List.replicate 32 (0 : Int));
let v10 : (List Int) := ([(0 : Int), (1 : Int)] : (List Int));
F50 R v9 (3 : Int) (64 : Int) v10 fun y11 y12 =>
let v13 : (List Int) := (List.replicate 32 (0 : Int));
let v14 : (List Int) := ([(0 : Int), (9 : Int)] : (List Int));
F51 R v13 (3 : Int) (1 : Int) (64 : Int) v14 fun y15 y16 =>
let v17 : (List Int) := (List.replicate 32 (0 : Int));
let v18 : (List Int) := ([(1 : Int)] : (List Int));
F27 R v17 (1024 : Int) (64 : Int) v18 fun y19 y20 =>
let v21 : (List Int) := (List.replicate 32 (0 : Int));
let v22 : (List Int) := ([(0 : Int)] : (List Int));
F26 R v21 (2 : Int) (64 : Int) v22 fun y23 y24 =>
let v25 : (List Int) := (List.replicate 32 (0 : Int));
let v26 : (List Int) := ([(0 : Int)] : (List Int));
F27 R v25 (0 : Int) (64 : Int) v26 fun y27 y28 =>
let v29 : Bool := (y4 == (0 : Int));
(match v29 with
| true => let v30 : Bool := (y8 == (0 : Int));
(match v30 with
| true => let v31 : Bool := (y12 == (0 : Int));
(match v31 with
| true => let v32 : Bool := (y11 == (1 : Int));
(match v32 with
| true => let v33 : Bool := (y16 == (0 : Int));
(match v33 with
| true => let v34 : Bool := (y20 == (1 : Int));
(match v34 with
| true => let v35 : Bool := (y24 == (0 : Int));
(match v35 with
| true => let v36 : Bool := (y28 == (10 : Int));
(match v36 with
| true => let v37 : Bool := (y3 == (1 : Int));
(match v37 with
| true => let v38 : (List Int) := ([(1 : Int), (1 : Int), (1 : Int)] : (List Int));
F19 R y7 v38 fun y39 =>
(match y39 with
| true => let v40 : (List Int) := ([(1 : Int)] : (List Int));
F19 R y15 v40 fun y41 =>
(match y41 with
| true => let v42 : (List Int) := ([(-1 : Int), (-1 : Int)] : (List Int));
F19 R y23 v42 fun y43 =>
k y43
| false => k false)
| false => k false)
| false => k false)
| false => k false)
| false => k false)
| false => k false)
| false => k false)
| false => let v44 : Bool := (y12 == (9 : Int));
(match v44 with
| true => let v45 : Bool := (y16 == (0 : Int));
(match v45 with
| true => let v46 : Bool := (y20 == (1 : Int));
(match v46 with
| true => let v47 : Bool := (y24 == (0 : Int));
(match v47 with
| true => let v48 : Bool := (y28 == (10 : Int));
(match v48 with
| true => let v49 : Bool := (y3 == (1 : Int));
(match v49 with
| true => let v50 : (List Int) := ([(1 : Int), (1 : Int), (1 : Int)] : (List Int));
F19 R y7 v50 fun y51 =>
(match y51 with
| true => let v52 : (List Int) := ([(1 : Int)] : (List Int));
F19 R y15 v52 fun y53 =>
(match y53 with
| true => let v54 : (List Int) := ([(-1 : Int), (-1 : Int)] : (List Int));
F19 R y23 v54 fun y55 =>
k y55
| false => k false)
| false => k false)
| false => k false)
| false => k false)
| false => k false)
| false => k false)
| false => k false)
| false => k false))
| false => let v56 : Bool := (y12 == (9 : Int));
(match v56 with
| true => let v57 : Bool := (y16 == (0 : Int));
(match v57 with
| true => let v58 : Bool := (y20 == (1 : Int));
(match v58 with
| true => let v59 : Bool := (y24 == (0 : Int));
(match v59 with
| true => let v60 : Bool := (y28 == (10 : Int));
(match v60 with
| true => let v61 : Bool := (y3 == (1 : Int));
(match v61 with
| true => let v62 : (List Int) := ([(1 : Int), (1 : Int), (1 : Int)] : (List Int));
F19 R y7 v62 fun y63 =>
(match y63 with
| true => let v64 : (List Int) := ([(1 : Int)] : (List Int));
F19 R y15 v64 fun y65 =>
(match y65 with
| true => let v66 : (List Int) := ([(-1 : Int), (-1 : Int)] : (List Int));
F19 R y23 v66 fun y67 =>
k y67
| false => k false)
| false => k false)
| false => k false)
| false => k false)
| false => k false)
| false => k false)
| false => k false)
| false => k false))
| false => k false)
| false => k false)
theorem q25 (F19 : FT19) (F26 : FT26) (F27 : FT27) (F50 : FT50) (F51 : FT51) (F : FT25) (R : Type) (x : AT (en25 F).ins) (k : RT (en25 F).outs → PT (en25 F).ins → Option R) :
  xfun (e25 F19 F26 F27 F50 F51 R) (codeOf Try.f25) res25 (avs (en25 F).ins x) (finK (en25 F).outs (en25 F).ins k) = p25 F19 F26 F27 F50 F51 R  (fun y1 => k (y1, ()) ()) := by kernel_rfl
noncomputable def F25 : FT25 := p25 F19 F26 F27 F50 F51
theorem env25 (R : Type) : EnvOK Try.prog (e25 F19 F26 F27 F50 F51 R) := ⟨tabOK, eqOK, callOf_ok (allE_cons ok19 (allE_cons ok26 (allE_cons ok27 (allE_cons ok50 (allE_cons ok51 allE_nil))))), noIns, inlOK_nil⟩
theorem ok25 : (en25 F25).OK Try.prog :=
  ent_ok (Ef := fun R => e25 F19 F26 F27 F50 F51 R) (fun R => env25 R) mixed Try.func25 (body := codeOf Try.f25) (by kernel_rfl) (by kernel_rfl) (np := 0) (nt := 110) (fun _ => rfl) (fun _ => rfl) (by kernel_rfl) (res := res25) (by kernel_rfl) (fun _ => rfl) (fun _ => Nat.le_of_ble_eq_true rfl) (by
    intro R
    rw [show loopsOf (codeOf Try.f25) = [] from by kernel_rfl]
    exact allM_nil) (fun R x k => q25 F19 F26 F27 F50 F51 F25 R x k)
abbrev FT7 : Type 1 := (R : Type) → (List Int) → (List Int) → (List Int) → (Bool → Option R) → Option R
def en7 (F : FT7) : Ent := ⟨7, [(false, (.arr 32 (.int .u8))), (false, (.arr 2 (.int .u8))), (false, (.sl (.int .u64)))], [(false, .bool)], fun R x k => F R x.1 x.2.1 x.2.2.1 (fun y1 => k (y1, ()) ())⟩
def res7 : List (ResultVar × TypeId × Bool) := [(.tmp 6, 4, false)]
abbrev LT7_14 : Type 1 := (R : Type) → (List Int) → Int → (List Int) → Int → (List Int) → (Bool → Option R) → (Option R) → Option R
def le7_14 (L : LT7_14) : LEnt := ⟨14, [.val 2 (.sl (.int .u64)), .fix 3 (.ptr 0 [] (.arr 32 (.int .u8))), .val 7 (.int .i64), .val 9 (.sl (.int .i64)), .val 13 (.int .i64), .var 0 (.arr 32 (.int .u8)) false], 1, [(.ret, [.val 6 .bool]), (.exit 0, [])], fun R x ke => L R x.1 x.2.1 x.2.2.1 x.2.2.2.1 x.2.2.2.2.1 (fun y1 => ke.1 (y1, ())) (ke.2.1 ())⟩
noncomputable def e7 (F19 : FT19) (F25 : FT25) (F26 : FT26) (F27 : FT27) (L14 : LT7_14) (R : Type) : Env R := ⟨TT, EQT, 0, 131, ownOf [], callOf [en19 F19, en25 F25, en26 F26, en27 F27] R, loopOf [le7_14 L14] R, [], inlOf []⟩
def p7_14 (F27 : FT27) : (R : Type) → (List Int) → Int → (List Int) → Int → (List Int) → ((List Int) → Int → (List Int) → Int → (List Int) → Option R) → (Bool → Option R) → (Option R) → Option R := fun R x1 x2 x3 x4 x5 kc k0 k1 =>
let v6 : Bool := (decide (x4 < x2));
(match v6 with
| true => F27 R x5 x4 (64 : Int) x1 fun y7 y8 =>
let v9 : Bool := (y8 != (0 : Int));
(match v9 with
| true => (match (bnd x4 (List.length x3 : Int)) with
| true => let v10 : Int := (List.getD x3 (Int.toNat x4) (0 : Int));
let v11 : Bool := (v10 != (-1 : Int));
(match v11 with
| true => k0 false
| false => let v12 : Bool := (y8 == (0 : Int));
(match v12 with
| true => (match (bnd x4 (List.length x3 : Int)) with
| true => let v13 : Int := (List.getD x3 (Int.toNat x4) (0 : Int));
let v14 : Bool := (v13 != y7);
(match v14 with
| true => k0 false
| false => let v15 : Bool := (decide (y7 < (0 : Int)));
(match v15 with
| true => k0 false
| false => let v16 : Int := (List.length x1 : Int);
let v17 : Bool := (decide (y7 ≥ v16));
(match v17 with
| true => k0 false
| false => (match (bnd y7 (List.length x1 : Int)) with
| true => let v18 : Int := (List.getD x1 (Int.toNat y7) (0 : Int));
let v19 : Bool := (v18 == (0 : Int));
(match v19 with
| true => k0 false
| false => let v20 : Int := (IntKind.i64.wrap (x4 + (1 : Int)));
kc x1 x2 x3 v20 x5)
| false => none))))
| false => none)
| false => let v21 : Int := (IntKind.i64.wrap (x4 + (1 : Int)));
kc x1 x2 x3 v21 x5))
| false => none)
| false => let v22 : Bool := (y8 == (0 : Int));
(match v22 with
| true => (match (bnd x4 (List.length x3 : Int)) with
| true => let v23 : Int := (List.getD x3 (Int.toNat x4) (0 : Int));
let v24 : Bool := (v23 != y7);
(match v24 with
| true => k0 false
| false => let v25 : Bool := (decide (y7 < (0 : Int)));
(match v25 with
| true => k0 false
| false => let v26 : Int := (List.length x1 : Int);
let v27 : Bool := (decide (y7 ≥ v26));
(match v27 with
| true => k0 false
| false => (match (bnd y7 (List.length x1 : Int)) with
| true => let v28 : Int := (List.getD x1 (Int.toNat y7) (0 : Int));
let v29 : Bool := (v28 == (0 : Int));
(match v29 with
| true => k0 false
| false => let v30 : Int := (IntKind.i64.wrap (x4 + (1 : Int)));
kc x1 x2 x3 v30 x5)
| false => none))))
| false => none)
| false => let v31 : Int := (IntKind.i64.wrap (x4 + (1 : Int)));
kc x1 x2 x3 v31 x5))
| false => k1)
theorem q7_14 (F19 : FT19) (F25 : FT25) (F26 : FT26) (F27 : FT27) (L14 : LT7_14) (R : Type) (x : HT (le7_14 L14).H) (kc : HT (le7_14 L14).H → Option R) (ke : KT R (le7_14 L14).exs) :
  exec (e7 F19 F25 F26 F27 L14 R) (lcode 14 (codeOf Try.f7)) (stOf (le7_14 L14).H x 1) (roundK (le7_14 L14).H (le7_14 L14).exs kc ke) =
    p7_14 F27 R x.1 x.2.1 x.2.2.1 x.2.2.2.1 x.2.2.2.2.1 (fun x1 x2 x3 x4 x5 => kc (x1, x2, x3, x4, x5, ())) (fun y1 => ke.1 (y1, ())) (ke.2.1 ()) := by kernel_rfl
noncomputable def G7_14 : Nat → LT7_14
  | 0 => fun _ _ _ _ _ _ _ _ => none
  | n + 1 => fun R x1 x2 x3 x4 x5 k0 k1 => p7_14 F27 R x1 x2 x3 x4 x5 (fun x1 x2 x3 x4 x5 => G7_14 n R x1 x2 x3 x4 x5 k0 k1) k0 k1
def p7 (F19 : FT19) (F25 : FT25) (F26 : FT26) (L14 : LT7_14) : FT7 := fun R a0 a1 a2 k =>
F25 R  fun y1 =>
(match (!y1) with
| true => k false
| false => let v2 : Int := (List.length a2 : Int);
let v3 : Bool := (decide (v2 > (60 : Int)));
(match v3 with
| true => k true
| false => let v4 : Int := (List.getD a1 0 (0 : Int));
let v5 : Int := (Int.tmod v4 (12 : Int));
let v6 : Int := (IntKind.i64.wrap v5);
let v7 : Int := (IntKind.i64.wrap ((1 : Int) + v6));
let v8 : Int := (List.getD a1 1 (0 : Int));
let v9 : Int := (Int.tmod v8 (5 : Int));
let v10 : Int := (IntKind.i64.wrap v9);
let v11 : Int := (IntKind.i64.wrap (v7 + v10));
F26 R a0 v7 (64 : Int) a2 fun y12 y13 =>
F26 R a0 v11 (64 : Int) a2 fun y14 y15 =>
let v16 : Bool := (y13 != (0 : Int));
(match v16 with
| true => let v17 : Bool := (y15 == y13);
(match v17 with
| true => let v18 : Int := (List.length y12 : Int);
let v19 : Int := (List.length y14 : Int);
let v20 : Int := (IntKind.i64.wrap (v18 + v19));
let v21 : Bool := (v20 == (0 : Int));
k v21
| false => k false)
| false => let v22 : Bool := (y15 != (0 : Int));
(match v22 with
| true => k false
| false => let v23 : Int := (List.length y12 : Int);
let v24 : Bool := (v23 != v7);
(match v24 with
| true => k false
| false => let v25 : Int := (List.length y14 : Int);
let v26 : Bool := (v25 != v11);
(match v26 with
| true => k false
| false => (match (decide (0 ≤ (0 : Int) ∧ (0 : Int) ≤ v7 ∧ v7 ≤ v7 ∧ v7 ≤ (List.length y14 : Int))) with
| true => let v27 : (List Int) := (List.take (Int.toNat (v7 - (0 : Int))) (List.drop 0 y14));
F19 R y12 v27 fun y28 =>
(match (!y28) with
| true => k false
| false => L14 R a2 v7 y12 (0 : Int) a0 (fun x29 =>
k x29) (k true))
| false => none)))))))
theorem q7 (F19 : FT19) (F25 : FT25) (F26 : FT26) (F27 : FT27) (L14 : LT7_14) (F : FT7) (R : Type) (x : AT (en7 F).ins) (k : RT (en7 F).outs → PT (en7 F).ins → Option R) :
  xfun (e7 F19 F25 F26 F27 L14 R) (codeOf Try.f7) res7 (avs (en7 F).ins x) (finK (en7 F).outs (en7 F).ins k) = p7 F19 F25 F26 L14 R x.1 x.2.1 x.2.2.1 (fun y1 => k (y1, ()) ()) := by kernel_rfl
noncomputable def F7 : FT7 := p7 F19 F25 F26 (G7_14 FUEL)
theorem env7 (R : Type) : EnvOK Try.prog (e7 F19 F25 F26 F27 (G7_14 FUEL) R) := ⟨tabOK, eqOK, callOf_ok (allE_cons ok19 (allE_cons ok25 (allE_cons ok26 (allE_cons ok27 allE_nil)))), noIns, inlOK_nil⟩
noncomputable def T7_14 : (R : Type) → HT (le7_14 (G7_14 FUEL)).H → (HT (le7_14 (G7_14 FUEL)).H → Option R) → KT R (le7_14 (G7_14 FUEL)).exs → Option R := fun R x kc ke => p7_14 F27 R x.1 x.2.1 x.2.2.1 x.2.2.2.1 x.2.2.2.2.1 (fun x1 x2 x3 x4 x5 => kc (x1, x2, x3, x4, x5, ())) (fun y1 => ke.1 (y1, ())) (ke.2.1 ())
theorem it7_14 : ∀ (n : Nat) (R : Type) (x : HT (le7_14 (G7_14 FUEL)).H) (ke : KT R (le7_14 (G7_14 FUEL)).exs), iter T7_14 n R x ke = G7_14 n R x.1 x.2.1 x.2.2.1 x.2.2.2.1 x.2.2.2.2.1 (fun y1 => ke.1 (y1, ())) (ke.2.1 ()) := by
  intro n
  induction n with
  | zero => intro R x ke; rfl
  | succ n ih =>
    intro R x ke
    show T7_14 R x (fun x' => iter T7_14 n R x' ke) ke = _
    rw [show (fun x' => iter T7_14 n R x' ke) = fun x => G7_14 n R x.1 x.2.1 x.2.2.1 x.2.2.2.1 x.2.2.2.2.1 (fun y1 => ke.1 (y1, ())) (ke.2.1 ()) from funext fun x' => ih R x' ke]
    rfl
theorem lok7_14 : (le7_14 (G7_14 FUEL)).OK Try.prog 0 131 (lcode 14 (codeOf Try.f7)) := fun R x ke r h =>
  iter_sound (fun R => e7 F19 F25 F26 F27 (G7_14 FUEL) R) 0 131 (fun _ => rfl) (fun _ => rfl) (fun R => env7 R) mixed (by
    intro R
    rw [show loopsOf (lcode 14 (codeOf Try.f7)) = [] from by kernel_rfl]
    exact allM_nil) (T := T7_14) (fun R x kc ke => q7_14 F19 F25 F26 F27 (G7_14 FUEL) R x kc ke) FUEL R x ke r ((it7_14 FUEL R x ke).trans h)
theorem ok7 : (en7 F7).OK Try.prog :=
  ent_ok (Ef := fun R => e7 F19 F25 F26 F27 (G7_14 FUEL) R) (fun R => env7 R) mixed Try.func7 (body := codeOf Try.f7) (by kernel_rfl) (by kernel_rfl) (np := 0) (nt := 131) (fun _ => rfl) (fun _ => rfl) (by kernel_rfl) (res := res7) (by kernel_rfl) (fun _ => rfl) (fun _ => Nat.le_of_ble_eq_true rfl) (by
    intro R
    rw [show loopsOf (codeOf Try.f7) = [lcode 14 (codeOf Try.f7)] from by kernel_rfl]
    exact (allM_cons (loop_ok2 (e := le7_14 (G7_14 FUEL)) rfl rfl lok7_14) allM_nil)) (fun R x k => q7 F19 F25 F26 F27 (G7_14 FUEL) F7 R x k)
end Go.PG
namespace Go.PG
end Go.PG
namespace Go.PG
def U32 (x : Int) : Prop := 0 ≤ x ∧ x < 4294967296
def U8 (x : Int) : Prop := 0 ≤ x ∧ x < 256
theorem ofInt_toNat32 {x : Int} (h : U32 x) : (BitVec.ofInt 32 x).toNat = x.toNat := by
  rw [BitVec.toNat_ofInt]
  unfold U32 at h
  have : x % ((2 ^ 32 : Nat) : Int) = x := by omega
  rw [this]
theorem wrap_bv32 (b : BitVec 32) : IntKind.u32.wrap ((b.toNat : Nat) : Int) = (b.toNat : Int) := by
  have := b.isLt
  exact wrap_u32 (by omega) (by omega)
theorem iand_u32 (a b : Int) : iand .u32 a b = ((BitVec.ofInt 32 a &&& BitVec.ofInt 32 b).toNat : Int) := wrap_bv32 _
theorem ior_u32 (a b : Int) : ior .u32 a b = ((BitVec.ofInt 32 a ||| BitVec.ofInt 32 b).toNat : Int) := wrap_bv32 _
theorem ixor_u32 (a b : Int) : ixor .u32 a b = ((BitVec.ofInt 32 a ^^^ BitVec.ofInt 32 b).toNat : Int) := wrap_bv32 _
theorem wrap_lt32 (a : Int) : U32 (IntKind.u32.wrap a) := by rw [wrap_u32_mod]; unfold U32; omega
theorem ofInt_natCast32 (b : BitVec 32) : BitVec.ofInt 32 ((b.toNat : Nat) : Int) = b := by
  rw [BitVec.ofInt_natCast, BitVec.ofNat_toNat, BitVec.setWidth_eq]
theorem choice_eq {a : Int} (b c : Int) (ha : U32 a) : ixor .u32 (iand .u32 a b) (iand .u32 (ixor .u32 4294967295 a) c) = ior .u32 (iand .u32 a b) (iand .u32 (IntKind.u32.wrap (4294967295 - a)) c) := by
  have h1 : IntKind.u32.wrap (4294967295 - a) = ixor .u32 4294967295 a := by
    rw [ixor_u32, wrap_u32 (by unfold U32 at ha; omega) (by unfold U32 at ha; omega)]
    have e : BitVec.ofInt 32 4294967295 = BitVec.allOnes 32 := by decide
    rw [e, BitVec.allOnes_xor, BitVec.toNat_not, ofInt_toNat32 ha]
    unfold U32 at ha
    omega
  rw [h1]
  simp only [iand_u32, ior_u32, ixor_u32, ofInt_natCast32]
  congr 2
  have e : BitVec.ofInt 32 4294967295 = BitVec.allOnes 32 := by decide
  rw [e]
  ext i hi
  simp only [BitVec.getElem_xor, BitVec.getElem_and, BitVec.getElem_or, BitVec.getElem_allOnes]
  cases (BitVec.ofInt 32 a)[i] <;> simp
theorem majority_eq (a b c : Int) : ixor .u32 (ixor .u32 (iand .u32 a b) (iand .u32 a c)) (iand .u32 b c) = ior .u32 (ior .u32 (iand .u32 a b) (iand .u32 a c)) (iand .u32 b c) := by
  simp only [iand_u32, ior_u32, ixor_u32, ofInt_natCast32]
  congr 2
  ext i hi
  simp
  cases (BitVec.ofInt 32 a)[i] <;> cases (BitVec.ofInt 32 b)[i] <;> cases (BitVec.ofInt 32 c)[i] <;> rfl
def rotS (x : Int) (r : Nat) : Int := x / 2 ^ r + (x % 2 ^ r) * 2 ^ (32 - r)
theorem two_pow_pos (r : Nat) : (0 : Int) < 2 ^ r := Int.pow_pos (by decide)
theorem rot_or {x : Int} (hx : U32 x) {r : Nat} (h0 : 0 < r) (hr : r < 32) : ior .u32 (ishr .u32 x r) (ishl .u32 x ((32 : Int) - r)) = rotS x r := by
  unfold U32 at hx
  obtain ⟨n, rfl⟩ : ∃ n : Nat, x = n := ⟨x.toNat, by omega⟩
  have hn : n < 2 ^ 32 := by omega
  have e1 : ishr .u32 (n : Int) r = ((n / 2 ^ r : Nat) : Int) := by
    unfold ishr
    rw [show IntKind.u32.bits = 32 from rfl, show ((r : Int).toNat) = r by simp, Nat.min_eq_left (by omega), Int.fdiv_eq_ediv_of_nonneg _ (by have := two_pow_pos r; omega)]
    simp
  have e2 : ishl .u32 (n : Int) ((32 : Int) - r) = ((n * 2 ^ (32 - r) % 2 ^ 32 : Nat) : Int) := by
    unfold ishl
    rw [show IntKind.u32.bits = 32 from rfl, show ((32 : Int) - r).toNat = 32 - r by omega, Nat.min_eq_left (by omega), wrap_u32_mod]
    simp
  rw [e1, e2, ior_u32, BitVec.ofInt_natCast, BitVec.ofInt_natCast, BitVec.toNat_or, BitVec.toNat_ofNat, BitVec.toNat_ofNat]
  have hd : n / 2 ^ r < 2 ^ (32 - r) := by
    rw [Nat.div_lt_iff_lt_mul (Nat.two_pow_pos r), ← Nat.pow_add, show 32 - r + r = 32 by omega]; exact hn
  have h3 : n * 2 ^ (32 - r) % 2 ^ 32 = (n % 2 ^ r) * 2 ^ (32 - r) := by
    have : 2 ^ 32 = 2 ^ r * 2 ^ (32 - r) := by rw [← Nat.pow_add, show r + (32 - r) = 32 by omega]
    rw [this, Nat.mul_mod_mul_right]
  have h4 : n / 2 ^ r < 2 ^ 32 := Nat.lt_of_le_of_lt (Nat.div_le_self _ _) hn
  rw [h3, Nat.mod_eq_of_lt h4, Nat.mod_eq_of_lt (by
    have : n % 2 ^ r < 2 ^ r := Nat.mod_lt _ (Nat.two_pow_pos r)
    have h5 : 2 ^ 32 = 2 ^ r * 2 ^ (32 - r) := by rw [← Nat.pow_add, show r + (32 - r) = 32 by omega]
    rw [h5]; exact Nat.mul_lt_mul_of_pos_right this (Nat.two_pow_pos _)), Nat.or_comm]
  have h6 := Nat.shiftLeft_add_eq_or_of_lt hd (n % 2 ^ r)
  rw [Nat.shiftLeft_eq] at h6
  rw [← h6]
  unfold rotS
  simp
  omega
end Go.PG
namespace Go.PG
theorem F134_eq (R : Type) {x : Int} (hx : U32 x) {r : Nat} (h0 : 0 < r) (hr : r < 32) (k : Int → Option R) : F134 R x (r : Int) k = k (rotS x r) := by
  simp only [F134, p134]
  rw [wrap_u64 (n := (r : Int)) (by omega) (by omega), Int.tmod_eq_of_lt (by omega) (by omega), wrap_u64 (by omega) (by omega)]
  rw [show decide (0 ≤ (r : Int)) = true by simp, show decide (0 ≤ (32 : Int) - r) = true by simp; omega]
  simp only
  rw [rot_or hx h0 hr]
def shrS (x : Int) (r : Nat) : Int := x / 2 ^ r
theorem shr_eq {x : Int} (hx : U32 x) {r : Nat} (hr : r ≤ 32) : ishr .u32 x r = shrS x r := by
  unfold ishr shrS
  rw [show IntKind.u32.bits = 32 from rfl, show ((r : Int).toNat) = r by simp, Nat.min_eq_left hr, Int.fdiv_eq_ediv_of_nonneg _ (by have := two_pow_pos r; omega)]
theorem F135_eq (R : Type) {x : Int} (hx : U32 x) {r : Nat} (hr : r ≤ 32) (k : Int → Option R) : F135 R x (r : Int) k = k (shrS x r) := by
  simp only [F135, p135]
  have e : (if (0 : Int) > (r : Int) then (0 : Int) else (r : Int)) = r := by split <;> omega
  rw [e, wrap_u64 (by omega) (by omega), shr_eq hx hr]
  have hd : decide ((0 : Int) ≤ (r : Int)) = true := by simp
  simp only [hd]
theorem F134_lit (R : Type) {x : Int} (hx : U32 x) {n : Int} (r : Nat) (e : n = (r : Int)) (h0 : 0 < r) (hr : r < 32) (k : Int → Option R) : F134 R x n k = k (rotS x r) := by rw [e]; exact F134_eq R hx h0 hr k
theorem F135_lit (R : Type) {x : Int} (hx : U32 x) {n : Int} (r : Nat) (e : n = (r : Int)) (hr : r ≤ 32) (k : Int → Option R) : F135 R x n k = k (shrS x r) := by rw [e]; exact F135_eq R hx hr k
def sig3 (x : Int) (a b c : Nat) : Int := ixor .u32 (ixor .u32 (rotS x a) (rotS x b)) (rotS x c)
def sig2 (x : Int) (a b c : Nat) : Int := ixor .u32 (ixor .u32 (rotS x a) (rotS x b)) (shrS x c)
theorem F128_eq (R : Type) {x : Int} (hx : U32 x) (k : Int → Option R) : F128 R x k = k (sig2 x 17 19 10) := by
  simp only [F128, p128, F132, p132]
  rw [F134_lit R hx (n := 17) 17 rfl (by omega) (by omega), F134_lit R hx (n := 19) 19 rfl (by omega) (by omega), F135_lit R hx (n := 10) 10 rfl (by omega)]
  simp only [sig2]
theorem F129_eq (R : Type) {x : Int} (hx : U32 x) (k : Int → Option R) : F129 R x k = k (sig2 x 7 18 3) := by
  simp only [F129, p129, F132, p132]
  rw [F134_lit R hx (n := 7) 7 rfl (by omega) (by omega), F134_lit R hx (n := 18) 18 rfl (by omega) (by omega), F135_lit R hx (n := 3) 3 rfl (by omega)]
  simp only [sig2]
def chS (a b c : Int) : Int := ior .u32 (iand .u32 a b) (iand .u32 (IntKind.u32.wrap (4294967295 - a)) c)
def majS (a b c : Int) : Int := ior .u32 (ior .u32 (iand .u32 a b) (iand .u32 a c)) (iand .u32 b c)
theorem F130_eq (R : Type) {a : Int} (ha : U32 a) (b c : Int) (k : Int → Option R) : F130 R a b c k = k (IntKind.u32.wrap (sig3 a 6 11 25 + chS a b c)) := by
  simp only [F130, p130, F133, p133]
  rw [F134_lit R ha (n := 6) 6 rfl (by omega) (by omega), F134_lit R ha (n := 11) 11 rfl (by omega) (by omega), F134_lit R ha (n := 25) 25 rfl (by omega) (by omega)]
  simp only [sig3, chS, choice_eq b c ha]
theorem F131_eq (R : Type) {a : Int} (ha : U32 a) (b c : Int) (k : Int → Option R) : F131 R a b c k = k (IntKind.u32.wrap (sig3 a 2 13 22 + majS a b c)) := by
  simp only [F131, p131, F133, p133]
  rw [F134_lit R ha (n := 2) 2 rfl (by omega) (by omega), F134_lit R ha (n := 13) 13 rfl (by omega) (by omega), F134_lit R ha (n := 22) 22 rfl (by omega) (by omega)]
  simp only [sig3, majS, majority_eq]
def roundS (s : List Int) (w c : Int) : List Int :=
  let t := IntKind.u32.wrap (s.getD 7 0 + sig3 (s.getD 4 0) 6 11 25 + chS (s.getD 4 0) (s.getD 5 0) (s.getD 6 0) + c + w)
  [IntKind.u32.wrap (t + (sig3 (s.getD 0 0) 2 13 22 + majS (s.getD 0 0) (s.getD 1 0) (s.getD 2 0))), s.getD 0 0, s.getD 1 0, s.getD 2 0, IntKind.u32.wrap (s.getD 3 0 + t), s.getD 4 0, s.getD 5 0, s.getD 6 0]
theorem F126_eq (R : Type) {a0 a1 a2 a3 a4 a5 a6 a7 : Int} (h0 : U32 a0) (h4 : U32 a4) (w c : Int) (k : List Int → Option R) : F126 R [a0, a1, a2, a3, a4, a5, a6, a7] w c k = k (roundS [a0, a1, a2, a3, a4, a5, a6, a7] w c) := by
  simp only [F126, p126, List.getD_cons_zero, List.getD_cons_succ]
  rw [F130_eq R h4, F131_eq R h0]
  congr 1
  simp [roundS, lay, List.replicate]
  simp only [wrap_u32_mod]
  refine ⟨?_, ?_⟩ <;> omega
end Go.PG
namespace Go.PG
theorem list8 {l : List Int} (h : l.length = 8) : ∃ a b c d e f g i, l = [a, b, c, d, e, f, g, i] := by
  match l, h with
  | [a, b, c, d, e, f, g, i], _ => exact ⟨a, b, c, d, e, f, g, i, rfl⟩
def AllU8 (l : List Int) : Prop := ∀ x ∈ l, U8 x
def AllU32 (l : List Int) : Prop := ∀ x ∈ l, U32 x
def get32S (a b c d : Int) : Int := ((a * 256 + b) * 256 + c) * 256 + d
theorem FUEL_succ (n : Nat) (h : n ≤ 1000) : ∃ m, FUEL = m + n := ⟨FUEL - n, by rw [FUEL_eq]; omega⟩
theorem ior_shl8 {x b : Int} (hx : 0 ≤ x ∧ x < 16777216) (hb : U8 b) : ior .u32 (ishl .u32 x 8) b = x * 256 + b := by
  unfold U8 at hb
  obtain ⟨n, rfl⟩ : ∃ n : Nat, x = n := ⟨x.toNat, by omega⟩
  obtain ⟨c, rfl⟩ : ∃ c : Nat, b = c := ⟨b.toNat, by omega⟩
  have e2 : ishl .u32 (n : Int) 8 = ((n * 256 : Nat) : Int) := by
    unfold ishl
    rw [show (2 : Int) ^ (min (8 : Int).toNat IntKind.u32.bits) = 256 by decide, wrap_u32 (by omega) (by omega)]
    simp
  rw [e2, ior_u32, BitVec.ofInt_natCast, BitVec.ofInt_natCast, BitVec.toNat_or, BitVec.toNat_ofNat, BitVec.toNat_ofNat, Nat.mod_eq_of_lt (by omega), Nat.mod_eq_of_lt (by omega)]
  have h6 := Nat.shiftLeft_add_eq_or_of_lt (i := 8) (b := c) (by omega) n
  rw [Nat.shiftLeft_eq] at h6
  rw [show n * 256 = n * 2 ^ 8 by rfl, ← h6]
  simp
theorem F127_eq (R : Type) {a b c d : Int} (ha : U8 a) (hb : U8 b) (hc : U8 c) (hd : U8 d) (k : Int → Option R) : F127 R [a, b, c, d] k = k (get32S a b c d) := by
  obtain ⟨m, hm⟩ := FUEL_succ 5 (by omega)
  simp only [F127, p127, hm, G127_2, p127_2]
  have w : ∀ x, U8 x → IntKind.u32.wrap x = x := fun x h => wrap_u32 h.1 (by unfold U8 at h; omega)
  simp [bnd, wrap_i64_def, w a ha, w b hb, w c hc, w d hd]
  have u := ha; have v := hb; have y := hc; have z := hd
  unfold U8 at u v y z
  rw [ior_shl8 (x := 0) (by omega) ha, ior_shl8 (by omega) hb, ior_shl8 (by omega) hc, ior_shl8 (by omega) hd]
  simp [get32S]
theorem get32S_lt {a b c d : Int} (ha : U8 a) (hb : U8 b) (hc : U8 c) (hd : U8 d) : U32 (get32S a b c d) := by
  unfold U8 U32 get32S at *; omega
def word4 (blk : List Int) (i : Nat) : Int := get32S (blk.getD (4 * i) 0) (blk.getD (4 * i + 1) 0) (blk.getD (4 * i + 2) 0) (blk.getD (4 * i + 3) 0)
def planW (l : List Int) (i : Nat) : Int := IntKind.u32.wrap (IntKind.u32.wrap (IntKind.u32.wrap (sig2 (l.getD (i - 2) 0) 17 19 10 + l.getD (i - 7) 0) + sig2 (l.getD (i - 15) 0) 7 18 3) + l.getD (i - 16) 0)
def planStep (blk l : List Int) (i : Nat) : List Int := l.set i (if i < 16 then word4 blk i else planW l i)
def planS (blk : List Int) : List Int := (List.range' 0 64).foldl (planStep blk) (List.replicate 64 0)
theorem getD_all {p : Int → Prop} {l : List Int} (h : ∀ x ∈ l, p x) (h0 : p 0) (i : Nat) : p (l.getD i 0) := by
  rw [List.getD_eq_getElem?_getD]
  cases hi : l[i]? with
  | none => exact h0
  | some x => exact h x (List.mem_of_getElem? hi)
theorem u8_0 : U8 0 := by unfold U8; omega
theorem u32_0 : U32 0 := by unfold U32; omega
theorem AllU32.set {l : List Int} (h : AllU32 l) {i : Nat} {x : Int} (hx : U32 x) : AllU32 (l.set i x) := fun y hy => by
  rcases List.mem_or_eq_of_mem_set hy with h1 | h1
  · exact h y h1
  · rw [h1]; exact hx
theorem AllU32.rep (n : Nat) : AllU32 (List.replicate n 0) := fun y hy => by rw [List.eq_of_mem_replicate hy]; exact u32_0
theorem word4_lt {blk : List Int} (h : AllU8 blk) (i : Nat) : U32 (word4 blk i) := get32S_lt (getD_all h u8_0 _) (getD_all h u8_0 _) (getD_all h u8_0 _) (getD_all h u8_0 _)
theorem planStep_ok {blk l : List Int} (hb : AllU8 blk) (hl : l.length = 64) (h : AllU32 l) (i : Nat) : (planStep blk l i).length = 64 ∧ AllU32 (planStep blk l i) := by
  unfold planStep
  refine ⟨by simpa using hl, h.set ?_⟩
  split
  · exact word4_lt hb i
  · exact wrap_lt32 _
theorem take4 {l : List Int} {i : Nat} (h : i + 4 ≤ l.length) : List.take 4 (List.drop i l) = [l.getD i 0, l.getD (i + 1) 0, l.getD (i + 2) 0, l.getD (i + 3) 0] := by
  have e0 : List.drop i l = l[i] :: List.drop (i + 1) l := List.drop_eq_getElem_cons (by omega)
  have e1 : List.drop (i + 1) l = l[i + 1] :: List.drop (i + 1 + 1) l := List.drop_eq_getElem_cons (by omega)
  have e2 : List.drop (i + 1 + 1) l = l[i + 1 + 1] :: List.drop (i + 1 + 1 + 1) l := List.drop_eq_getElem_cons (by omega)
  have e3 : List.drop (i + 1 + 1 + 1) l = l[i + 1 + 1 + 1] :: List.drop (i + 1 + 1 + 1 + 1) l := List.drop_eq_getElem_cons (by omega)
  rw [e0, e1, e2, e3]
  show [l[i], l[i + 1], l[i + 1 + 1], l[i + 1 + 1 + 1]] = _
  simp [show i < l.length by omega, show i + 1 < l.length by omega, show i + 2 < l.length by omega, show i + 3 < l.length by omega]
theorem range'_step {i n : Nat} (h : i < n) : List.range' i (n - i) = i :: List.range' (i + 1) (n - (i + 1)) := by
  rw [show n - i = (n - (i + 1)) + 1 by omega, List.range'_succ]
theorem G125_eq (R : Type) {blk : List Int} (hb : blk.length = 64) (h8 : AllU8 blk) (k0 : List Int → Option R) : ∀ (m i : Nat) (l : List Int), i ≤ 64 → 64 - i < m → l.length = 64 → AllU32 l →
    G125_2 m R (i : Int) blk l k0 = k0 ((List.range' i (64 - i)).foldl (planStep blk) l)
  | 0, i, l, _, h, _, _ => by omega
  | m + 1, i, l, h1, h2, hl, hu => by
    simp only [G125_2, p125_2]
    by_cases hi : i < 64
    · have ok := planStep_ok h8 hl hu i
      have ih := G125_eq R hb h8 k0 m (i + 1) (planStep blk l i) (by omega) (by omega) ok.1 ok.2
      rw [range'_step hi, List.foldl_cons, ← ih]
      rw [wrap_i64 (n := 4 * (i : Int)) (by omega) (by omega), wrap_i64 (n := (i : Int) + 1) (by omega) (by omega), wrap_i64 (n := 4 * (i : Int) + 4) (by omega) (by omega)]
      have hd : decide ((i : Int) < 64) = true := by simp; omega
      have hbn : bnd (i : Int) 64 = true := by unfold bnd; simp; omega
      by_cases h16 : i < 16
      · have c1 : decide (4 * (i : Int) < 64) = true := by simp; omega
        have c2 : decide (0 ≤ 4 * (i : Int) ∧ 4 * (i : Int) ≤ 4 * (i : Int) + 4 ∧ 4 * (i : Int) + 4 ≤ 64) = true := by simp; omega
        have c3 : decide ((4 : Int) ≤ ((Int.toNat (4 * (i : Int) + 4 - 4 * (i : Int)) : Nat) : Int)) = true := by simp; omega
        have e1 : (4 * (i : Int)).toNat = 4 * i := by omega
        simp only [hd, c1, c2, c3, e1, hbn]
        rw [take4 (by omega), F127_eq R (getD_all h8 u8_0 _) (getD_all h8 u8_0 _) (getD_all h8 u8_0 _) (getD_all h8 u8_0 _)]
        simp only [planStep, if_pos h16, word4, Int.toNat_natCast]
        rfl
      · have c1 : decide (4 * (i : Int) < 64) = false := by simp; omega
        rw [wrap_i64 (n := (i : Int) - 2) (by omega) (by omega), wrap_i64 (n := (i : Int) - 7) (by omega) (by omega), wrap_i64 (n := (i : Int) - 15) (by omega) (by omega), wrap_i64 (n := (i : Int) - 16) (by omega) (by omega)]
        have b2 : bnd ((i : Int) - 2) 64 = true := by unfold bnd; simp; omega
        have b7 : bnd ((i : Int) - 7) 64 = true := by unfold bnd; simp; omega
        have b15 : bnd ((i : Int) - 15) 64 = true := by unfold bnd; simp; omega
        have b16 : bnd ((i : Int) - 16) 64 = true := by unfold bnd; simp; omega
        have n2 : ((i : Int) - 2).toNat = i - 2 := by omega
        have n7 : ((i : Int) - 7).toNat = i - 7 := by omega
        have n15 : ((i : Int) - 15).toNat = i - 15 := by omega
        have n16 : ((i : Int) - 16).toNat = i - 16 := by omega
        simp only [hd, c1, hbn, b2, b7, b15, b16, n2, n7, n15, n16]
        rw [F128_eq R (getD_all hu u32_0 _), F129_eq R (getD_all hu u32_0 _)]
        simp only [planStep, if_neg h16, planW, Int.toNat_natCast]
        rfl
    · have : i = 64 := by omega
      subst this
      rfl
theorem F125_eq (R : Type) {blk : List Int} (hb : blk.length = 64) (h8 : AllU8 blk) (k : List Int → Option R) : F125 R blk k = k (planS blk) := by
  simp only [F125, p125]
  exact G125_eq R hb h8 _ FUEL 0 (List.replicate 64 0) (by omega) (by rw [FUEL_eq]; omega) (by simp) (AllU32.rep 64)
end Go.PG
namespace Go.PG
def KS : List Int := [1116352408, 1899447441, 3049323471, 3921009573, 961987163, 1508970993, 2453635748, 2870763221, 3624381080, 310598401, 607225278, 1426881987, 1925078388, 2162078206, 2614888103, 3248222580, 3835390401, 4022224774, 264347078, 604807628, 770255983, 1249150122, 1555081692, 1996064986, 2554220882, 2821834349, 2952996808, 3210313671, 3336571891, 3584528711, 113926993, 338241895, 666307205, 773529912, 1294757372, 1396182291, 1695183700, 1986661051, 2177026350, 2456956037, 2730485921, 2820302411, 3259730800, 3345764771, 3516065817, 3600352804, 4094571909, 275423344, 430227734, 506948616, 659060556, 883997877, 958139571, 1322822218, 1537002063, 1747873779, 1955562222, 2024104815, 2227730452, 2361852424, 2428436474, 2756734187, 3204031479, 3329325298]
theorem F124_eq (R : Type) (k : List Int → Option R) : F124 R k = k KS := by kernel_rfl
def roundsStep (plan s : List Int) (i : Nat) : List Int := roundS s (plan.getD i 0) (KS.getD i 0)
theorem roundS_ok {s : List Int} (h : AllU32 s) (w c : Int) : (roundS s w c).length = 8 ∧ AllU32 (roundS s w c) := by
  refine ⟨rfl, fun x hx => ?_⟩
  have g := fun i => getD_all h u32_0 i
  simp only [roundS, List.mem_cons, List.not_mem_nil, or_false] at hx
  rcases hx with rfl | rfl | rfl | rfl | rfl | rfl | rfl | rfl
  · exact wrap_lt32 _
  · exact g 0
  · exact g 1
  · exact g 2
  · exact wrap_lt32 _
  · exact g 4
  · exact g 5
  · exact g 6
theorem F126_eq' (R : Type) {s : List Int} (hl : s.length = 8) (h : AllU32 s) (w c : Int) (k : List Int → Option R) : F126 R s w c k = k (roundS s w c) := by
  obtain ⟨a0, a1, a2, a3, a4, a5, a6, a7, rfl⟩ := list8 hl
  exact F126_eq R (h a0 (by simp)) (h a4 (by simp)) w c k
theorem G122_3_eq (R : Type) (plan : List Int) (x3 x4 : List Int) (k0 : List Int → List Int → List Int → Option R) : ∀ (m i : Nat) (s : List Int), i ≤ 64 → 64 - i < m → s.length = 8 → AllU32 s →
    G122_3 m R plan (i : Int) x3 x4 s KS k0 = k0 x3 x4 ((List.range' i (64 - i)).foldl (roundsStep plan) s)
  | 0, i, s, _, h, _, _ => by omega
  | m + 1, i, s, h1, h2, hl, hu => by
    simp only [G122_3, p122_3]
    by_cases hi : i < 64
    · have ok := roundS_ok hu (plan.getD i 0) (KS.getD i 0)
      have ih := G122_3_eq R plan x3 x4 k0 m (i + 1) (roundsStep plan s i) (by omega) (by omega) ok.1 ok.2
      rw [range'_step hi, List.foldl_cons, ← ih, wrap_i64 (n := (i : Int) + 1) (by omega) (by omega)]
      have hd : decide ((i : Int) < 64) = true := by simp; omega
      have hbn : bnd (i : Int) 64 = true := by unfold bnd; simp; omega
      simp only [hd, hbn, Int.toNat_natCast]
      rw [F126_eq' R hl hu]
      rfl
    · have : i = 64 := by omega
      subst this
      rfl
def addStep (a l : List Int) (i : Nat) : List Int := l.set i (IntKind.u32.wrap (l.getD i 0 + a.getD i 0))
theorem addStep_ok {a l : List Int} (hl : l.length = 8) (h : AllU32 l) (i : Nat) : (addStep a l i).length = 8 ∧ AllU32 (addStep a l i) := ⟨by simpa [addStep] using hl, h.set (wrap_lt32 _)⟩
theorem G122_8_eq (R : Type) (a x3 : List Int) (k0 : List Int → List Int → Option R) : ∀ (m i : Nat) (l : List Int), i ≤ 8 → 8 - i < m → G122_8 m R (i : Int) a x3 l k0 = k0 x3 ((List.range' i (8 - i)).foldl (addStep a) l)
  | 0, i, l, _, h => by omega
  | m + 1, i, l, h1, h2 => by
    simp only [G122_8, p122_8]
    by_cases hi : i < 8
    · have ih := G122_8_eq R a x3 k0 m (i + 1) (addStep a l i) (by omega) (by omega)
      rw [range'_step hi, List.foldl_cons, ← ih, wrap_i64 (n := (i : Int) + 1) (by omega) (by omega)]
      have hd : decide ((i : Int) < 8) = true := by simp; omega
      have hbn : bnd (i : Int) 8 = true := by unfold bnd; simp; omega
      simp only [hd, hbn, Int.toNat_natCast]
      rfl
    · have : i = 8 := by omega
      subst this
      rfl
def takeS (st blk : List Int) : List Int := (List.range' 0 8).foldl (addStep st) ((List.range' 0 64).foldl (roundsStep (planS blk)) st)
theorem F122_eq (R : Type) {st blk : List Int} (hl : st.length = 8) (hu : AllU32 st) (hb : blk.length = 64) (h8 : AllU8 blk) (k : List Int → Option R) : F122 R st blk k = k (takeS st blk) := by
  simp only [F122, p122]
  rw [F124_eq, F125_eq R hb h8]
  refine (G122_3_eq R (planS blk) st (List.replicate 8 0) (fun x3 x4 x5 => G122_8 FUEL R 0 x3 x4 x5 fun x6 x7 => k x7) FUEL 0 st (by omega) (by rw [FUEL_eq]; omega) hl hu).trans ?_
  exact G122_8_eq R st (List.replicate 8 0) (fun _ x7 => k x7) FUEL 0 _ (by omega) (by rw [FUEL_eq]; omega)
theorem roundsFold_ok (plan : List Int) : ∀ (is : List Nat) (s : List Int), s.length = 8 → AllU32 s → (is.foldl (roundsStep plan) s).length = 8 ∧ AllU32 (is.foldl (roundsStep plan) s)
  | [], s, h1, h2 => ⟨h1, h2⟩
  | i :: is, s, h1, h2 => by
    have ok := roundS_ok h2 (plan.getD i 0) (KS.getD i 0)
    exact roundsFold_ok plan is _ ok.1 ok.2
theorem addFold_ok (a : List Int) : ∀ (is : List Nat) (s : List Int), s.length = 8 → AllU32 s → (is.foldl (addStep a) s).length = 8 ∧ AllU32 (is.foldl (addStep a) s)
  | [], s, h1, h2 => ⟨h1, h2⟩
  | i :: is, s, h1, h2 => by
    have ok := addStep_ok (a := a) h1 h2 i
    exact addFold_ok a is _ ok.1 ok.2
theorem takeS_ok {st : List Int} (blk : List Int) (hl : st.length = 8) (hu : AllU32 st) : (takeS st blk).length = 8 ∧ AllU32 (takeS st blk) := by
  have h := roundsFold_ok (planS blk) (List.range' 0 64) st hl hu
  exact addFold_ok st _ _ h.1 h.2
end Go.PG
namespace Go.PG
def blkF : Nat → List Int → List (List Int)
  | 0, _ => []
  | n + 1, b => if 64 ≤ b.length then b.take 64 :: blkF n (b.drop 64) else []
def tailF : Nat → List Int → List Int
  | 0, b => b
  | n + 1, b => if 64 ≤ b.length then tailF n (b.drop 64) else b
def blkS (b : List Int) : List (List Int) := blkF (b.length / 64 + 1) b
def tailS (b : List Int) : List Int := tailF (b.length / 64 + 1) b
theorem blkF_big : ∀ (n m : Nat) (b : List Int), b.length / 64 < n → b.length / 64 < m → blkF n b = blkF m b
  | 0, _, _, h, _ => by omega
  | _, 0, _, _, h => by omega
  | n + 1, m + 1, b, h1, h2 => by
    simp only [blkF]
    by_cases h : 64 ≤ b.length
    · rw [if_pos h, if_pos h, blkF_big n m (b.drop 64) (by rw [List.length_drop]; omega) (by rw [List.length_drop]; omega)]
    · rw [if_neg h, if_neg h]
theorem tailF_big : ∀ (n m : Nat) (b : List Int), b.length / 64 < n → b.length / 64 < m → tailF n b = tailF m b
  | 0, _, _, h, _ => by omega
  | _, 0, _, _, h => by omega
  | n + 1, m + 1, b, h1, h2 => by
    simp only [tailF]
    by_cases h : 64 ≤ b.length
    · rw [if_pos h, if_pos h, tailF_big n m (b.drop 64) (by rw [List.length_drop]; omega) (by rw [List.length_drop]; omega)]
    · rw [if_neg h, if_neg h]
theorem blkS_step {b : List Int} (h : 64 ≤ b.length) : blkS b = b.take 64 :: blkS (b.drop 64) := by
  unfold blkS
  rw [show blkF (b.length / 64 + 1) b = b.take 64 :: blkF (b.length / 64) (b.drop 64) by simp only [blkF, if_pos h]]
  rw [blkF_big (b.length / 64) ((b.drop 64).length / 64 + 1) (b.drop 64) (by rw [List.length_drop]; omega) (by omega)]
theorem blkS_end {b : List Int} (h : b.length < 64) : blkS b = [] := by
  unfold blkS; simp only [blkF, if_neg (show ¬ 64 ≤ b.length by omega)]
theorem tailS_step {b : List Int} (h : 64 ≤ b.length) : tailS b = tailS (b.drop 64) := by
  unfold tailS
  rw [show tailF (b.length / 64 + 1) b = tailF (b.length / 64) (b.drop 64) by simp only [tailF, if_pos h]]
  rw [tailF_big (b.length / 64) ((b.drop 64).length / 64 + 1) (b.drop 64) (by rw [List.length_drop]; omega) (by omega)]
theorem tailS_end {b : List Int} (h : b.length < 64) : tailS b = b := by
  unfold tailS; simp only [tailF, if_neg (show ¬ 64 ≤ b.length by omega)]
theorem tailS_len : ∀ (n : Nat) (b : List Int), b.length ≤ n → (tailS b).length = b.length % 64 ∧ (blkS b).length = b.length / 64
  | 0, b, h => by
    rw [tailS_end (by omega), blkS_end (by omega)]
    simp; omega
  | n + 1, b, h => by
    by_cases h6 : 64 ≤ b.length
    · have ih := tailS_len n (b.drop 64) (by rw [List.length_drop]; omega)
      rw [tailS_step h6, blkS_step h6, ih.1, List.length_cons, ih.2, List.length_drop]
      omega
    · rw [tailS_end (by omega), blkS_end (by omega)]
      simp; omega
theorem blk_append : ∀ (n : Nat) (a b : List Int), a.length ≤ n → blkS (a ++ b) = blkS a ++ blkS (tailS a ++ b) ∧ tailS (a ++ b) = tailS (tailS a ++ b)
  | 0, a, b, h => by
    rw [blkS_end (show a.length < 64 by omega), tailS_end (show a.length < 64 by omega)]
    exact ⟨rfl, rfl⟩
  | n + 1, a, b, h => by
    by_cases h6 : 64 ≤ a.length
    · have ih := blk_append n (a.drop 64) b (by rw [List.length_drop]; omega)
      have hl : 64 ≤ (a ++ b).length := by rw [List.length_append]; omega
      rw [blkS_step hl, blkS_step h6, tailS_step hl, tailS_step h6, List.take_append_of_le_length h6, List.drop_append_of_le_length h6, ih.1, ih.2]
      exact ⟨rfl, rfl⟩
    · rw [blkS_end (show a.length < 64 by omega), tailS_end (show a.length < 64 by omega)]
      exact ⟨rfl, rfl⟩
theorem G121_eq (R : Type) (k0 : List Int → List (List Int) → Option R) : ∀ (m : Nat) (b : List Int) (acc : List (List Int)), b.length / 64 < m → acc.length + b.length / 64 ≤ 1000000000 → b.length ≤ 100000000000 →
    G121_1 m R b acc k0 = k0 (tailS b) (acc ++ blkS b)
  | 0, b, acc, h, _, _ => by omega
  | m + 1, b, acc, h1, h2, h3 => by
    simp only [G121_1, p121_1]
    by_cases h6 : 64 ≤ b.length
    · have ih := G121_eq R k0 m (b.drop 64) (acc ++ [b.take 64]) (by rw [List.length_drop]; omega) (by rw [List.length_drop, List.length_append]; simp; omega) (by rw [List.length_drop]; omega)
      have c1 : decide ((b.length : Int) ≥ 64) = true := by simp; omega
      have c2 : decide ((64 : Int) ≤ (b.length : Int)) = true := by simp; omega
      have c3 : decide (acc.length + [b.take 64].length ≤ 2199023255552) = true := by simp; omega
      have c4 : decide (0 ≤ (64 : Int) ∧ (64 : Int) ≤ (b.length : Int) ∧ (b.length : Int) ≤ (b.length : Int) ∧ (b.length : Int) ≤ (b.length : Int)) = true := by simp; omega
      have e1 : List.take (Int.toNat ((b.length : Int) - 64)) (List.drop 64 b) = List.drop 64 b := List.take_of_length_le (by rw [List.length_drop]; omega)
      simp only [c1, c2, c3, c4, e1]
      rw [ih, blkS_step h6, tailS_step h6, List.append_assoc]
      rfl
    · have c1 : decide ((b.length : Int) ≥ 64) = false := by simp; omega
      simp only [c1]
      rw [blkS_end (by omega), tailS_end (by omega), List.append_nil]
theorem F121_eq (R : Type) {b : List Int} (h : b.length ≤ 1000000000) (k : List (List Int) → List Int → Option R) : F121 R b k = k (blkS b) (tailS b) := by
  simp only [F121, p121]
  refine (G121_eq R (fun x1 x2 => k x2 x1) FUEL b [] (by rw [FUEL_eq]; omega) (by simp; omega) (by omega)).trans ?_
  rw [List.nil_append]
end Go.PG
namespace Go.PG
abbrev Wr := List Int × List Int × Int × Unit
def foldB (st : List Int) (bs : List (List Int)) : List Int := bs.foldl takeS st
theorem blkS_ok : ∀ (n : Nat) (b : List Int), b.length ≤ n → AllU8 b → (∀ x ∈ blkS b, x.length = 64 ∧ AllU8 x) ∧ AllU8 (tailS b)
  | 0, b, h, h8 => by
    rw [blkS_end (by omega), tailS_end (by omega)]
    exact ⟨fun x hx => (by cases hx), h8⟩
  | n + 1, b, h, h8 => by
    by_cases h6 : 64 ≤ b.length
    · have ih := blkS_ok n (b.drop 64) (by rw [List.length_drop]; omega) (fun x hx => h8 x (List.mem_of_mem_drop hx))
      rw [blkS_step h6, tailS_step h6]
      refine ⟨fun x hx => ?_, ih.2⟩
      rcases List.mem_cons.1 hx with rfl | hx
      · exact ⟨by rw [List.length_take]; omega, fun y hy => h8 y (List.mem_of_mem_take hy)⟩
      · exact ih.1 x hx
    · rw [blkS_end (by omega), tailS_end (by omega)]
      exact ⟨fun x hx => (by cases hx), h8⟩
theorem foldB_ok : ∀ (bs : List (List Int)) {st : List Int}, st.length = 8 → AllU32 st → (foldB st bs).length = 8 ∧ AllU32 (foldB st bs)
  | [], st, h1, h2 => ⟨h1, h2⟩
  | b :: bs, st, h1, h2 => by
    have ok := takeS_ok b h1 h2
    exact foldB_ok bs ok.1 ok.2
theorem G117_eq (R : Type) (rest : List Int) (bs : List (List Int)) (hb : ∀ x ∈ bs, x.length = 64 ∧ AllU8 x) (hn : bs.length ≤ 1000000000) (u : List Int × Int × Unit) (k0 : List Int → (Wr × Unit) → Option R) :
    ∀ (m i : Nat) (st : List Int), i ≤ bs.length → bs.length - i < m → st.length = 8 → AllU32 st → G117_3 m R rest bs (bs.length : Int) (i : Int) ((st, u), ()) k0 = k0 rest ((foldB st (bs.drop i), u), ())
  | 0, i, st, _, h, _, _ => by omega
  | m + 1, i, st, h1, h2, hl, hu => by
    simp only [G117_3, p117_3]
    by_cases hi : i < bs.length
    · have hd : decide ((i : Int) < (bs.length : Int)) = true := by simpa using hi
      have hbn : bnd (i : Int) (bs.length : Int) = true := by unfold bnd; simp; omega
      have hx := hb bs[i] (List.getElem_mem hi)
      have hg : List.getD bs i (List.replicate 64 0) = bs[i] := by simp [hi]
      simp only [hd, hbn, Int.toNat_natCast, hg]
      rw [F122_eq R hl hu hx.1 hx.2, wrap_i64 (by omega) (by omega)]
      have ok := takeS_ok bs[i] hl hu
      have ih := G117_eq R rest bs hb hn u k0 m (i + 1) (takeS st bs[i]) (by omega) (by omega) ok.1 ok.2
      rw [List.drop_eq_getElem_cons hi]
      exact ih
    · have : i = bs.length := by omega
      subst this
      have hd : decide ((bs.length : Int) < (bs.length : Int)) = false := by simp
      simp only [hd]
      rw [List.drop_of_length_le (Nat.le_refl _)]
      rfl
theorem F117_eq (R : Type) {st : List Int} (u : List Int × Int × Unit) {b : List Int} (hl : st.length = 8) (hu : AllU32 st) (h8 : AllU8 b) (hn : b.length ≤ 1000000000) (k : List Int → (Wr × Unit) → Option R) :
    F117 R ((st, u), ()) b k = k (tailS b) ((foldB st (blkS b), u), ()) := by
  simp only [F117, p117]
  rw [F121_eq R hn]
  have ok := blkS_ok b.length b (Nat.le_refl _) h8
  have hlen := (tailS_len b.length b (Nat.le_refl _)).2
  exact G117_eq R (tailS b) (blkS b) ok.1 (by omega) u (fun x4 x5 => k x4 x5) FUEL 0 st (by omega) (by rw [FUEL_eq]; omega) hl hu
theorem F114_eq (R : Type) {st rest part : List Int} {n : Nat} (hl : st.length = 8) (hu : AllU32 st) (hr : AllU8 rest) (hp : AllU8 part) (hlen : rest.length + part.length ≤ 1000000000) (hn : n + part.length ≤ 1000000000) (k : (Wr × Unit) → Option R) :
    F114 R ((st, rest, (n : Int), ()), ()) part k = k ((foldB st (blkS (rest ++ part)), tailS (rest ++ part), ((n + part.length : Nat) : Int), ()), ()) := by
  simp only [F114, p114, F119]
  rw [wrap_u64 (n := (part.length : Int)) (by omega) (by omega), wrap_u64 (by omega) (by omega)]
  have c1 : decide (([] : List Int).length + rest.length ≤ 140737488355328) = true := by simp; omega
  have c2 : decide (rest.length + part.length ≤ 140737488355328) = true := by simp; omega
  simp only [c1, c2]
  have h8 : AllU8 (rest ++ part) := fun x hx => by
    rcases List.mem_append.1 hx with h | h
    · exact hr x h
    · exact hp x h
  rw [F117_eq R _ hl hu h8 (by rw [List.length_append]; omega)]
  congr 1
def wrS (st m : List Int) : Wr := (foldB st (blkS m), tailS m, (m.length : Int), ())
theorem AllU8.append {a b : List Int} (ha : AllU8 a) (hb : AllU8 b) : AllU8 (a ++ b) := fun x hx => by
  rcases List.mem_append.1 hx with h | h
  · exact ha x h
  · exact hb x h
theorem wrS_append (st m p : List Int) : foldB (foldB st (blkS m)) (blkS (tailS m ++ p)) = foldB st (blkS (m ++ p)) ∧ tailS (tailS m ++ p) = tailS (m ++ p) := by
  obtain ⟨h1, h2⟩ := blk_append m.length m p (Nat.le_refl _)
  rw [h1, h2]
  refine ⟨?_, rfl⟩
  unfold foldB
  rw [List.foldl_append]
theorem G110_eq (R : Type) {st : List Int} (hl : st.length = 8) (hu : AllU32 st) (x4 : Wr) (k0 : Int → Wr → Option R) (k1 : Wr → (Wr × Unit) → Option R) : ∀ (n : Nat) (ps done : List (List Int)) (m : List Int), m = done.flatten → AllU8 m → (∀ p ∈ ps, AllU8 p) →
    m.length + ps.flatten.length ≤ 500000000 → (done ++ ps).length ≤ 1000000000 → ps.length < n → G110_5 n R (done ++ ps) ((done ++ ps).length : Int) (done.length : Int) x4 (wrS st m, ()) k0 k1 = k1 x4 (wrS st (m ++ ps.flatten), ())
  | 0, ps, done, m, _, _, _, _, _, h => by omega
  | n + 1, [], done, m, hm, h8, hps, hlen, hnum, h => by
    simp only [G110_5, p110_5]
    have hd : decide ((done.length : Int) < ((done ++ []).length : Int)) = false := by simp
    simp only [hd]
    simp
  | n + 1, p :: ps, done, m, hm, h8, hps, hlen, hnum, h => by
    simp only [G110_5, p110_5]
    have hlt : done.length < (done ++ p :: ps).length := by simp
    have hd : decide ((done.length : Int) < ((done ++ p :: ps).length : Int)) = true := by simp; omega
    have hbn : bnd (done.length : Int) ((done ++ p :: ps).length : Int) = true := by unfold bnd; simp; omega
    have hg : List.getD (done ++ p :: ps) done.length [] = p := by simp
    have hp8 := hps p (by simp)
    have hfl : (p :: ps).flatten = p ++ ps.flatten := by simp
    rw [hfl, List.length_append] at hlen
    have ok := foldB_ok (blkS m) hl hu
    have ok2 := blkS_ok m.length m (Nat.le_refl _) h8
    have tl := (tailS_len m.length m (Nat.le_refl _)).1
    simp only [hd, hbn, Int.toNat_natCast, hg]
    unfold wrS
    rw [F114_eq R ok.1 ok.2 ok2.2 hp8 (by omega) (by omega)]
    obtain ⟨a1, a2⟩ := wrS_append st m p
    rw [a1, a2, ← List.length_append]
    have hb : decide (((m ++ p).length : Int) ≥ 2305843009213693952) = false := by simp; omega
    simp only [hb]
    rw [wrap_i64 (by omega) (by simp at hnum; omega)]
    have ih := G110_eq R hl hu x4 k0 k1 n ps (done ++ [p]) (m ++ p) (by rw [hm]; simp) (h8.append hp8) (fun q hq => hps q (by simp [hq])) (by rw [List.length_append]; omega) (by simpa using hnum) (by simp at h; omega)
    unfold wrS at ih
    rw [hfl, ← List.append_assoc]
    have e1 : done ++ [p] ++ ps = done ++ p :: ps := by simp
    have e2 : (((done ++ [p]).length : Nat) : Int) = (done.length : Int) + 1 := by simp
    rw [e1, e2] at ih
    exact ih
theorem F110_eq (R : Type) {st : List Int} (hl : st.length = 8) (hu : AllU32 st) {ps : List (List Int)} (h8 : ∀ p ∈ ps, AllU8 p) (hlen : ps.flatten.length ≤ 500000000) (hnum : ps.length ≤ 1000000000) (k : Wr → Int → Option R) :
    F110 R (st, [], (0 : Int), ()) ps k = k (wrS st ps.flatten) 0 := by
  have hr : F113 R (st, [], (0 : Int), ()) = fun k => k true := by
    funext k
    simp only [F113, p113]
    rfl
  simp only [F110, p110]
  rw [hr]
  have := G110_eq R hl hu (List.replicate 8 0, [], 0, ()) (fun x3 x4 => k x4 x3) (fun _ x6 => k x6.1 0) FUEL ps [] [] rfl (fun x hx => by cases hx) h8 (by simpa using hlen) (by simpa using hnum) (by rw [FUEL_eq]; omega)
  rw [List.nil_append] at this
  refine Eq.trans ?_ this
  unfold wrS
  rw [blkS_end (by simp), tailS_end (by simp)]
  rfl
end Go.PG
namespace Go.PG
def putS (x : Int) : List Int := [x / 72057594037927936 % 256, x / 281474976710656 % 256, x / 1099511627776 % 256, x / 4294967296 % 256, x / 16777216 % 256, x / 65536 % 256, x / 256 % 256, x % 256]
theorem shr64 {x : Int} (r : Nat) (hr : r ≤ 64) : ishr .u64 x (r : Int) = x / 2 ^ r := by
  unfold ishr
  rw [show IntKind.u64.bits = 64 from rfl, show ((r : Int).toNat) = r by simp, Nat.min_eq_left hr, Int.fdiv_eq_ediv_of_nonneg _ (by have := two_pow_pos r; omega)]
theorem G108_eq (R : Type) (x : Int) (k0 : List Int → Option R) : ∀ (m i : Nat) (l : List Int), i ≤ 8 → 8 - i < m → G108_2 m R x (i : Int) l k0 = k0 ((List.range' i (8 - i)).foldl (fun l i => l.set i (x / 2 ^ (8 * (7 - i)) % 256)) l)
  | 0, i, l, _, h => by omega
  | m + 1, i, l, h1, h2 => by
    simp only [G108_2, p108_2]
    by_cases hi : i < 8
    · have ih := G108_eq R x k0 m (i + 1) (l.set i (x / 2 ^ (8 * (7 - i)) % 256)) (by omega) (by omega)
      rw [range'_step hi, List.foldl_cons, ← ih]
      have hd : decide ((i : Int) < 8) = true := by simp; omega
      have hbn : bnd (i : Int) 8 = true := by unfold bnd; simp; omega
      rw [wrap_i64 (n := 7 - (i : Int)) (by omega) (by omega), wrap_i64 (n := 8 * (7 - (i : Int))) (by omega) (by omega), wrap_u64 (n := 8 * (7 - (i : Int))) (by omega) (by omega), wrap_i64 (n := (i : Int) + 1) (by omega) (by omega)]
      have e1 : 8 * (7 - (i : Int)) = ((8 * (7 - i) : Nat) : Int) := by omega
      have hp : decide ((0 : Int) ≤ ((8 * (7 - i) : Nat) : Int)) = true := decide_eq_true (by omega)
      rw [e1, shr64 _ (by omega), wrap_u8_mod]
      simp only [hd, hbn, hp, Int.toNat_natCast]
      rfl
    · have : i = 8 := by omega
      subst this
      rfl
theorem F108_eq (R : Type) (x : Int) (k : List Int → Option R) : F108 R x k = k (putS x) := by
  simp only [F108, p108]
  refine (G108_eq R x (fun x1 => k x1) FUEL 0 (List.replicate 8 0) (by omega) (by rw [FUEL_eq]; omega)).trans ?_
  congr 1
  simp [List.range'_succ, putS, List.replicate]
end Go.PG
namespace Go.PG
def zerosN (n : Nat) : Nat := (119 - n % 64) % 64
def padT (rest : List Int) (n : Nat) : List Int := rest ++ 128 :: (List.replicate (zerosN n) 0 ++ putS (8 * (n : Int)))
theorem F120_eq (R : Type) {n : Nat} (hn : n ≤ 1000000000) (k : Int → Option R) : F120 R (n : Int) k = k (((n + 72) / 64 : Nat) : Int) := by
  simp only [F120, p120]
  have c0 : decide ((n : Int) ≥ 2305843009213693952) = false := by simp; omega
  simp only [c0]
  rw [wrap_u64 (n := (n : Int) + 8) (by omega) (by omega), wrap_u64 (n := (n : Int) + 8 + 64) (by omega) (by omega), Int.tdiv_eq_ediv_of_nonneg (by omega), wrap_u64 (by omega) (by omega)]
  congr 1
theorem lay_mid {a b c xs : List Int} (h : xs.length = b.length) : lay (a ++ b ++ c) a.length xs = a ++ xs ++ c := by
  unfold lay
  have e1 : List.take a.length (a ++ b ++ c) = a := by rw [List.append_assoc, List.take_left]
  have e2 : List.drop (a.length + xs.length) (a ++ b ++ c) = c := by
    rw [h, show a.length + b.length = (a ++ b).length by simp, List.drop_left]
  rw [e1, e2]
theorem F116_eq (R : Type) {rest : List Int} {n : Nat} (hr : rest.length = n % 64) (hn : n ≤ 1000000000) (k : List Int → Bool → Option R) : F116 R rest (n : Int) k = k (padT rest n) true := by
  simp only [F116, p116]
  have c0 : decide ((n : Int) ≥ 2305843009213693952) = false := by simp; omega
  have c1 : (IntKind.u64.wrap (rest.length : Int) != Int.tmod (n : Int) 64) = false := by
    rw [wrap_u64 (by omega) (by omega), Int.tmod_eq_emod_of_nonneg (by omega)]
    simp; omega
  simp only [c0, c1]
  rw [F120_eq R hn, Int.tdiv_eq_ediv_of_nonneg (by omega), wrap_u64 (n := (n : Int) / 64) (by omega) (by omega), wrap_u64 (by omega) (by omega), wrap_i64 (n := (((n + 72) / 64 : Nat) : Int) - (n : Int) / 64) (by omega) (by omega), wrap_i64 (n := _ * 64) (by omega) (by omega)]
  obtain ⟨sz, hsz⟩ : ∃ sz : Nat, ((((n + 72) / 64 : Nat) : Int) - (n : Int) / 64) * 64 = sz := ⟨((n + 72) / 64 - n / 64) * 64, by omega⟩
  have hz : sz = rest.length + 1 + zerosN n + 8 := by unfold zerosN; omega
  rw [hsz]
  have l1 : lay (List.replicate sz (0 : Int)) 0 (List.take (List.replicate sz (0 : Int)).length rest) = rest ++ List.replicate (1 + zerosN n + 8) 0 := by
    unfold lay
    rw [List.take_of_length_le (l := rest) (by simp; omega)]
    simp
    omega
  have l2 : List.set (rest ++ List.replicate (1 + zerosN n + 8) 0) rest.length 128 = (rest ++ 128 :: List.replicate (zerosN n) 0) ++ List.replicate 8 0 ++ [] := by
    rw [List.set_append_right _ _ (Nat.le_refl _), Nat.sub_self, show 1 + zerosN n + 8 = (zerosN n + 8) + 1 by omega, List.replicate_succ, List.set_cons_zero, ← List.replicate_append_replicate]
    simp
  have sh : ishl .u64 (n : Int) 3 = 8 * (n : Int) := by
    unfold ishl
    rw [show (2 : Int) ^ (min (3 : Int).toNat IntKind.u64.bits) = 8 by decide, wrap_u64 (by omega) (by omega)]
    omega
  have hl3 : ((rest ++ 128 :: List.replicate (zerosN n) 0) ++ List.replicate 8 (0 : Int) ++ []).length = sz := by simp; omega
  have d1 : decide (0 ≤ (sz : Int) ∧ (sz : Int) ≤ (sz : Int) ∧ (sz : Int) ≤ 140737488355328) = true := decide_eq_true (by omega)
  have d2 : bnd (rest.length : Int) ((rest ++ List.replicate (1 + zerosN n + 8) (0 : Int)).length : Int) = true := by unfold bnd; simp; omega
  have d3 : decide (0 ≤ (sz : Int) - 8 ∧ (sz : Int) - 8 ≤ (sz : Int) ∧ (sz : Int) ≤ (sz : Int) ∧ (sz : Int) ≤ (sz : Int)) = true := decide_eq_true (by omega)
  have e8 : ((sz : Int) - 8).toNat = (rest ++ 128 :: List.replicate (zerosN n) 0).length := by simp; omega
  have e9 : List.take ((sz : Int) - ((sz : Int) - 8)).toNat (List.take 8 (List.drop 0 (putS (8 * (n : Int))))) = putS (8 * (n : Int)) := by
    rw [show ((sz : Int) - ((sz : Int) - 8)).toNat = 8 by omega]; rfl
  simp only [d1, Int.toNat_natCast, l1, d2, l2, sh]
  rw [F108_eq, wrap_i64 (by omega) (by omega)]
  simp only [hl3, d3, e9, e8]
  rw [lay_mid (by rfl)]
  congr 1
  simp [padT]
end Go.PG
namespace Go.PG
def put32S (a : Int) : List Int := [a / 16777216 % 256, a / 65536 % 256, a / 256 % 256, a % 256]
theorem F123_eq (R : Type) {a : Int} (ha : U32 a) (k : List Int → Option R) : F123 R a k = k (put32S a) := by
  have e24 : ishr .u32 a 24 = a / 16777216 := shr_eq ha (r := 24) (by omega)
  have e16 : ishr .u32 a 16 = a / 65536 := shr_eq ha (r := 16) (by omega)
  have e8 : ishr .u32 a 8 = a / 256 := shr_eq ha (r := 8) (by omega)
  simp only [F123, p123, e24, e16, e8, wrap_u8_mod]
  rfl
def H0 : List Int := [1779033703, 3144134277, 1013904242, 2773480762, 1359893119, 2600822924, 528734635, 1541459225]
theorem F111_eq (R : Type) (k : Wr → Option R) : F111 R k = k (H0, [], 0, ()) := by kernel_rfl
theorem H0_ok : H0.length = 8 ∧ AllU32 H0 := ⟨rfl, fun x hx => by
  simp only [H0, List.mem_cons, List.not_mem_nil, or_false] at hx
  unfold U32
  omega⟩
def layStep (st l : List Int) (i : Nat) : List Int := lay l (4 * i) (put32S (st.getD i 0))
theorem lay_len {l xs : List Int} {lo : Nat} (h : lo + xs.length ≤ l.length) : (lay l lo xs).length = l.length := by
  unfold lay; simp; omega
theorem G118_eq (R : Type) {st : List Int} (hu : AllU32 st) (w : Wr × Unit) (k0 : (Wr × Unit) → List Int → Option R) : ∀ (m i : Nat) (l : List Int), i ≤ 8 → 8 - i < m → G118_2 m R st (i : Int) w l k0 = k0 w ((List.range' i (8 - i)).foldl (layStep st) l)
  | 0, i, l, _, h => by omega
  | m + 1, i, l, h1, h2 => by
    simp only [G118_2, p118_2]
    by_cases hi : i < 8
    · have ih := G118_eq R hu w k0 m (i + 1) (layStep st l i) (by omega) (by omega)
      rw [range'_step hi, List.foldl_cons, ← ih]
      have hd : decide ((i : Int) < 8) = true := by simp; omega
      have hbn : bnd (i : Int) 8 = true := by unfold bnd; simp; omega
      rw [wrap_i64 (n := 4 * (i : Int)) (by omega) (by omega), wrap_i64 (n := (i : Int) + 1) (by omega) (by omega)]
      have c : decide (0 ≤ 4 * (i : Int) ∧ 4 * (i : Int) ≤ 32 ∧ (32 : Int) ≤ 32) = true := decide_eq_true (by omega)
      have e1 : (4 * (i : Int)).toNat = 4 * i := by omega
      have e2 : ∀ a, List.take (Int.toNat (32 - 4 * (i : Int))) (List.take 4 (List.drop 0 (put32S a))) = put32S a := fun a => by
        rw [List.take_of_length_le (l := List.take 4 (List.drop 0 (put32S a))) (by simp [put32S]; omega)]
        rfl
      simp only [hd, hbn, c, Int.toNat_natCast]
      rw [F123_eq R (getD_all hu u32_0 _)]
      simp only [c, e1, e2]
      rfl
    · have : i = 8 := by omega
      subst this
      rfl
end Go.PG
namespace Go.PG
def padM (m : List Int) : List Int := m ++ 128 :: (List.replicate (zerosN m.length) 0 ++ putS (8 * (m.length : Int)))
end Go.PG
namespace Go.PG
def hashS (st : List Int) : List Int := (List.range' 0 8).foldl (layStep st) (List.replicate 32 0)
theorem F118_eq (R : Type) {st : List Int} (u : List Int × Int × Unit) (hu : AllU32 st) (k : List Int → (Wr × Unit) → Option R) : F118 R ((st, u), ()) k = k (hashS st) ((st, u), ()) := by
  simp only [F118, p118]
  exact G118_eq R hu ((st, u), ()) (fun x1 x2 => k x2 x1) FUEL 0 (List.replicate 32 0) (by omega) (by rw [FUEL_eq]; omega)
def SHA (m : List Int) : List Int := hashS (foldB H0 (blkS (padM m)))
theorem putS_u8 (x : Int) : AllU8 (putS x) := fun y hy => by
  simp only [putS, List.mem_cons, List.not_mem_nil, or_false] at hy
  unfold U8
  omega
theorem padT_u8 {rest : List Int} (h : AllU8 rest) (n : Nat) : AllU8 (padT rest n) := fun y hy => by
  unfold padT at hy
  rcases List.mem_append.1 hy with h1 | h1
  · exact h y h1
  · rcases List.mem_cons.1 h1 with rfl | h1
    · unfold U8; omega
    · rcases List.mem_append.1 h1 with h1 | h1
      · rw [List.eq_of_mem_replicate h1]; exact u8_0
      · exact putS_u8 _ y h1
theorem padM_blk (m : List Int) : blkS (padM m) = blkS m ++ blkS (padT (tailS m) m.length) := (blk_append m.length m _ (Nat.le_refl _)).1
theorem F112_eq (R : Type) {m : List Int} (h8 : AllU8 m) (hm : m.length ≤ 500000000) (k : List Int → Int → Option R) : F112 R (wrS H0 m) k = k (SHA m) 0 := by
  have tl := (tailS_len m.length m (Nat.le_refl _)).1
  have ok := blkS_ok m.length m (Nat.le_refl _) h8
  have hf := foldB_ok (blkS m) H0_ok.1 H0_ok.2
  have hp := padT_u8 ok.2 m.length
  simp only [F112, p112, wrS]
  rw [F116_eq R tl (by omega)]
  simp only [Bool.not_true]
  rw [F117_eq R (tailS m, (m.length : Int), ()) hf.1 hf.2 hp (by simp [padT, putS]; unfold zerosN; omega)]
  have hf2 := foldB_ok (blkS (padT (tailS m) m.length)) hf.1 hf.2
  rw [F118_eq R _ hf2.2]
  unfold SHA
  rw [padM_blk]
  unfold foldB
  rw [List.foldl_append]
theorem F109_eq (R : Type) {ps : List (List Int)} (h8 : ∀ p ∈ ps, AllU8 p) (hlen : ps.flatten.length ≤ 500000000) (hnum : ps.length ≤ 1000000000) (k : List Int → Option R) : F109 R ps k = k (SHA ps.flatten) := by
  simp only [F109, p109]
  rw [F111_eq, F110_eq R H0_ok.1 H0_ok.2 h8 hlen hnum]
  refine F112_eq R (fun x hx => ?_) hlen _
  obtain ⟨p, h1, h2⟩ := List.mem_flatten.1 hx
  exact h8 p h1 x h2
end Go.PG
namespace Go.PG
end Go.PG
namespace Go.PG
end Go.PG
namespace Go.PG
theorem wrap_bv8 (b : BitVec 8) : IntKind.u8.wrap ((b.toNat : Nat) : Int) = (b.toNat : Int) := by
  have := b.isLt
  exact wrap_u8 (by omega) (by omega)
def zero32 : List Int := List.replicate 32 0
def H32 (l : List Int) : Prop := l.length = 32 ∧ AllU8 l
theorem zero32_ok : H32 zero32 := ⟨by simp [zero32], fun x hx => by rw [List.eq_of_mem_replicate hx]; exact u8_0⟩
end Go.PG
namespace Go.PG
theorem putS_len (x : Int) : (putS x).length = 8 := rfl
theorem take32 {l : List Int} (h : H32 l) : List.take 32 (List.drop 0 l) = l := by
  rw [List.drop_zero, List.take_of_length_le (by rw [h.1]; omega)]
theorem take8 (x : Int) : List.take 8 (List.drop 0 (putS x)) = putS x := rfl
theorem AllU8.app {a b : List Int} (ha : AllU8 a) (hb : AllU8 b) : AllU8 (a ++ b) := fun x hx => (List.mem_append.1 hx).elim (ha x) (hb x)
theorem fit_h32 {x : List Int} (h : Fit (.arr 32 (.int .u8)) x) : H32 x := ⟨h.1, fun y hy => by have := fit_u8 (h.2 y hy); unfold U8; omega⟩
end Go.PG
namespace Go.PG
end Go.PG
namespace Go.PG
theorem layStep_ok {st l : List Int} (hl : H32 l) {i : Nat} (hi : i < 8) : H32 (layStep st l i) := by
  refine ⟨by unfold layStep; rw [lay_len (by simp [put32S, hl.1]; omega)]; exact hl.1, ?_⟩
  unfold layStep lay
  refine AllU8.app (AllU8.app (fun x hx => hl.2 x (List.mem_of_mem_take hx)) ?_) (fun x hx => hl.2 x (List.mem_of_mem_drop hx))
  intro y hy
  simp only [put32S, List.mem_cons, List.not_mem_nil, or_false] at hy
  unfold U8
  omega
theorem layFold_ok (st : List Int) : ∀ (is : List Nat) {l : List Int}, (∀ i ∈ is, i < 8) → H32 l → H32 (is.foldl (layStep st) l)
  | [], _, _, hl => hl
  | i :: is, _, h, hl => layFold_ok st is (fun j hj => h j (List.mem_cons_of_mem _ hj)) (layStep_ok hl (h i List.mem_cons_self))
theorem SHA_ok (m : List Int) : H32 (SHA m) := by
  unfold SHA hashS
  refine layFold_ok _ _ (fun i hi => ?_) zero32_ok
  rw [List.mem_range'] at hi
  obtain ⟨j, hj, rfl⟩ := hi
  omega
def blockS (a : List Int) (d i : Int) : List Int := SHA (a ++ (putS d ++ putS i))
theorem blockS_ok (a : List Int) (d i : Int) : H32 (blockS a d i) := SHA_ok _
theorem F106_eq (R : Type) {a : List Int} (ha : H32 a) (d i : Int) (k : List Int → Option R) : F106 R a d i k = k (blockS a d i) := by
  simp only [F106, p106]
  rw [F108_eq, F108_eq]
  simp only [take32 ha, take8]
  rw [F109_eq R (fun p hp => by
    simp only [List.mem_cons, List.not_mem_nil, or_false] at hp
    rcases hp with rfl | rfl | rfl
    · exact ha.2
    · exact putS_u8 d
    · exact putS_u8 i) (by simp [ha.1, putS_len]) (by simp)]
  simp [blockS]
def U64 (x : Int) : Prop := 0 ≤ x ∧ x < 18446744073709551616
theorem wrap_bv64 (b : BitVec 64) : IntKind.u64.wrap ((b.toNat : Nat) : Int) = (b.toNat : Int) := by
  have := b.isLt
  exact wrap_u64 (by omega) (by omega)
theorem iand_u64 (a b : Int) : iand .u64 a b = ((BitVec.ofInt 64 a &&& BitVec.ofInt 64 b).toNat : Int) := wrap_bv64 _
theorem ior_u64 (a b : Int) : ior .u64 a b = ((BitVec.ofInt 64 a ||| BitVec.ofInt 64 b).toNat : Int) := wrap_bv64 _
theorem iand_mask {x : Int} (hx : U64 x) (n : Nat) (hn : n < 64) : iand .u64 x ((2 ^ n - 1 : Nat) : Int) = x % 2 ^ n := by
  unfold U64 at hx
  obtain ⟨y, rfl⟩ : ∃ y : Nat, x = y := ⟨x.toNat, by omega⟩
  have h1 : (2 : Nat) ^ n < 2 ^ 64 := Nat.pow_lt_pow_right (by omega) hn
  have h0 : 0 < (2 : Nat) ^ n := Nat.pow_pos (by omega)
  rw [iand_u64, BitVec.ofInt_natCast, BitVec.ofInt_natCast, BitVec.toNat_and, BitVec.toNat_ofNat, BitVec.toNat_ofNat, Nat.mod_eq_of_lt (by omega), Nat.mod_eq_of_lt (by omega), Nat.and_two_pow_sub_one_eq_mod]
  simp
def bitS (a : List Int) (d n : Int) : Int := (blockS a d (n / 256)).getD (n % 256 / 8).toNat 0 / 2 ^ (7 - n % 8).toNat % 2
end Go.PG
namespace Go.PG
theorem ior_shl32 {x b : Int} (hx : U32 x) (hb : U32 b) : ior .u64 (ishl .u64 x 32) b = x * 4294967296 + b := by
  unfold U32 at hx hb
  obtain ⟨n, rfl⟩ : ∃ n : Nat, x = n := ⟨x.toNat, by omega⟩
  obtain ⟨c, rfl⟩ : ∃ c : Nat, b = c := ⟨b.toNat, by omega⟩
  have e2 : ishl .u64 (n : Int) 32 = ((n * 4294967296 : Nat) : Int) := by
    unfold ishl
    rw [show (2 : Int) ^ (min (32 : Int).toNat IntKind.u64.bits) = 4294967296 by decide, wrap_u64 (by omega) (by omega)]
    simp
  rw [e2, ior_u64, BitVec.ofInt_natCast, BitVec.ofInt_natCast, BitVec.toNat_or, BitVec.toNat_ofNat, BitVec.toNat_ofNat, Nat.mod_eq_of_lt (by omega), Nat.mod_eq_of_lt (by omega)]
  have h6 := Nat.shiftLeft_add_eq_or_of_lt (i := 32) (b := c) (by omega) n
  rw [Nat.shiftLeft_eq] at h6
  rw [show n * 4294967296 = n * 2 ^ 32 by rfl, ← h6]
  simp
theorem F100_eq (R : Type) {a b : Int} (ha : U32 a) (hb : U32 b) (k : Int → Option R) : F100 R a b k = k (a * 4294967296 + b) := by
  have u := ha; have v := hb
  unfold U32 at u v
  simp only [F100, p100]
  rw [wrap_u64 (n := a) (by omega) (by omega), wrap_u64 (n := b) (by omega) (by omega), ior_shl32 ha hb]
end Go.PG
namespace Go.PG
abbrev Src := Int × (List Int × (Int × (List Int × (Int × (Int × Unit)))))
abbrev Rdr := Src × (List Int × (Int × (Bool × Unit)))
def atS (s : Src) : Int := s.2.2.2.2.2.1
def setAt (s : Src) (n : Int) : Src := (s.1, s.2.1, s.2.2.1, s.2.2.2.1, s.2.2.2.2.1, n, ())
structure SOK (s : Src) : Prop where
  tape : AllU8 s.2.1
  len : s.2.1.length ≤ 1000000
  bits : U64 s.2.2.1
  seed : H32 s.2.2.2.1
  dom : U64 s.2.2.2.2.1
  at_ : U64 s.2.2.2.2.2.1
theorem SOK.set {s : Src} (h : SOK s) {n : Int} (hn : U64 n) : SOK (setAt s n) := ⟨h.tape, h.len, h.bits, h.seed, h.dom, hn⟩
def rightS' (s : Src) : Bool := if s.1 = 1 then decide (s.2.2.1 ≤ 8 * (s.2.1.length : Int) ∧ s.2.2.2.2.2.1 ≤ s.2.2.1) else decide (s.1 = 2 ∧ s.2.2.2.2.2.1 ≤ 4611686018427387904)
def endS (s : Src) : Int := if s.1 = 1 then s.2.2.1 else 4611686018427387904
def leftS (s : Src) : Int := if rightS' s = true then endS s - s.2.2.2.2.2.1 else 0
def bitAt (s : Src) (n : Int) : Int := if s.1 = 1 then s.2.1.getD (n / 8).toNat 0 / 2 ^ (7 - n % 8).toNat % 2 else bitS s.2.2.2.1 s.2.2.2.2.1 n
theorem F95_eq (R : Type) {s : Src} (h : SOK s) (k : Int → Bool → Option R) : F95 R s k = (if s.1 = 1 then k s.2.2.1 (decide (s.2.2.1 ≤ 8 * (s.2.1.length : Int))) else if s.1 = 2 then k 4611686018427387904 true else k 0 false) := by
  have hl := h.len
  simp only [F95, p95]
  rw [wrap_u64 (n := (s.2.1.length : Int)) (by omega) (by omega), wrap_u64 (n := (s.2.1.length : Int) * 8) (by omega) (by omega), Int.mul_comm]
  by_cases h1 : s.1 = 1
  · simp [h1]
  · by_cases h2 : s.1 = 2
    · simp [h2]
    · simp only [beq_eq_false_iff_ne.2 h1, beq_eq_false_iff_ne.2 h2, if_neg h1, if_neg h2]
theorem F75_eq (R : Type) {s : Src} (h : SOK s) (k : Bool → Option R) : F75 R s k = k (rightS' s) := by
  simp only [F75, p75]
  rw [F95_eq R h]
  unfold rightS'
  by_cases h1 : s.1 = 1
  · simp only [h1, if_true]
    by_cases h2 : s.2.2.1 ≤ 8 * (s.2.1.length : Int)
    · simp [h2]
    · simp [h2]
  · simp only [h1, if_false]
    by_cases h2 : s.1 = 2
    · simp [h2]
    · simp [h2]
theorem right_spec {s : Src} (h : rightS' s = true) : (s.1 = 1 ∧ s.2.2.1 ≤ 8 * (s.2.1.length : Int) ∧ s.2.2.2.2.2.1 ≤ s.2.2.1 ∧ endS s = s.2.2.1) ∨ (s.1 = 2 ∧ s.2.2.2.2.2.1 ≤ 4611686018427387904 ∧ endS s = 4611686018427387904) := by
  unfold rightS' at h
  unfold endS
  by_cases h1 : s.1 = 1
  · rw [if_pos h1] at h ⊢
    have := of_decide_eq_true h
    exact .inl ⟨h1, this.1, this.2, rfl⟩
  · rw [if_neg h1] at h ⊢
    have := of_decide_eq_true h
    exact .inr ⟨this.1, this.2, rfl⟩
theorem left_ok {s : Src} (hs : SOK s) : 0 ≤ leftS s ∧ leftS s ≤ 4611686018427387904 ∧ (rightS' s = true → s.2.2.2.2.2.1 + leftS s = endS s) := by
  have h1 := hs.at_; have h2 := hs.bits; have h3 := hs.len
  unfold U64 at h1 h2
  unfold leftS
  by_cases h : rightS' s = true
  · rw [if_pos h]
    rcases right_spec h with ⟨_, a2, a3, a4⟩ | ⟨_, a2, a3⟩
    · rw [a4]; omega
    · rw [a3]; omega
  · rw [if_neg h]
    exact ⟨by omega, by omega, fun e => absurd e h⟩
theorem F84_eq (R : Type) {s : Src} (h : SOK s) (k : Int → Option R) : F84 R s k = k (leftS s) := by
  have hl := left_ok h
  simp only [F84, p84]
  rw [F75_eq R h, F95_eq R h]
  unfold leftS at *
  by_cases hr : rightS' s = true
  · have hr' := hr
    simp only [hr, Bool.not_true, if_true] at hl ⊢
    rcases right_spec hr' with ⟨a1, a2, a3, a4⟩ | ⟨a1, a2, a3⟩
    · rw [if_pos a1, a4, wrap_u64 (by rw [a4] at hl; omega) (by rw [a4] at hl; omega)]
    · rw [if_neg (by omega), if_pos a1, a3, wrap_u64 (by rw [a3] at hl; omega) (by rw [a3] at hl; omega)]
  · simp only [Bool.not_eq_true] at hr
    simp [hr]
theorem bit_range (s : Src) (n : Int) : 0 ≤ bitAt s n ∧ bitAt s n ≤ 1 := by
  unfold bitAt bitS
  split <;> omega
def RI (r : Rdr) : Prop := r.2.2.2.1 = true → r.2.1 = blockS r.1.2.2.2.1 r.1.2.2.2.2.1 r.2.2.1
theorem iand_u8_1 {x : Int} (hx : U8 x) : iand .u8 x 1 = x % 2 := by
  unfold U8 at hx
  obtain ⟨y, rfl⟩ : ∃ y : Nat, x = y := ⟨x.toNat, by omega⟩
  have e : iand .u8 (y : Int) 1 = ((BitVec.ofInt 8 (y : Int) &&& BitVec.ofInt 8 ((1 : Nat) : Int)).toNat : Int) := wrap_bv8 _
  rw [e, BitVec.ofInt_natCast, BitVec.ofInt_natCast, BitVec.toNat_and, BitVec.toNat_ofNat, BitVec.toNat_ofNat, Nat.mod_eq_of_lt (by omega), Nat.mod_eq_of_lt (by omega), show (1 : Nat) = 2 ^ 1 - 1 by rfl, Nat.and_two_pow_sub_one_eq_mod]
  simp
theorem u85_eq (R : Type) (r : Rdr) {y : Int} (hy : U8 y) (hat : 0 ≤ atS r.1 ∧ atS r.1 < 9000000000000000000) (q : List Int × (Int × (Bool × Unit))) (k : Int → Rdr → Option R) :
    u85 R r y q k = k (y / 2 ^ (7 - atS r.1 % 8).toNat % 2) (setAt r.1 (atS r.1 + 1), q) := by
  unfold atS at *
  simp only [u85]
  unfold setAt
  generalize r.1.2.2.2.2.2.1 = n at *
  rw [Int.tmod_eq_emod_of_nonneg hat.1, wrap_u64 (n := 7 - n % 8) (by omega) (by omega), wrap_u64 (n := n + 1) (by omega) (by omega)]
  obtain ⟨m, hm⟩ : ∃ m : Nat, 7 - n % 8 = m := ⟨(7 - n % 8).toNat, by omega⟩
  rw [hm, Int.toNat_natCast]
  have e8 : ishr .u8 y (m : Int) = y / 2 ^ m := by
    unfold ishr
    rw [show IntKind.u8.bits = 8 from rfl, Int.toNat_natCast, Nat.min_eq_left (by omega), Int.fdiv_eq_ediv_of_nonneg _ (by have := two_pow_pos m; omega)]
  unfold U8 at hy
  have hp : (0 : Int) < 2 ^ m := Int.pow_pos (by decide)
  have hq : 0 ≤ y / 2 ^ m ∧ y / 2 ^ m ≤ y := ⟨Int.ediv_nonneg hy.1 (by omega), Int.ediv_le_self _ hy.1⟩
  rw [e8, iand_u8_1 (by unfold U8; omega), wrap_u64 (by omega) (by omega)]
theorem F85_eq (R : Type) {r : Rdr} (h : SOK r.1) (hi : RI r) (hk : (r.1.1 = 1 ∧ atS r.1 < 8 * (r.1.2.1.length : Int)) ∨ r.1.1 = 2) (hat : atS r.1 < 9000000000000000000) (k : Int → Rdr → Option R) :
    ∃ q, RI (setAt r.1 (atS r.1 + 1), q) ∧ F85 R r k = k (bitAt r.1 (atS r.1)) (setAt r.1 (atS r.1 + 1), q) := by
  have hl := h.len
  have ha := h.at_
  have hat' : 0 ≤ atS r.1 ∧ atS r.1 < 9000000000000000000 := ⟨ha.1, hat⟩
  simp only [F85]
  show ∃ q, RI (setAt r.1 (atS r.1 + 1), q) ∧ (F102 R r (IntKind.u64.wrap (Int.tdiv (atS r.1) 8)) fun y2 p3 => match decide (0 ≤ IntKind.u64.wrap (7 - Int.tmod (atS r.1) 8)) with | true => u85 R r y2 p3.2 k | false => none) = _
  have hdc : decide (0 ≤ IntKind.u64.wrap (7 - Int.tmod (atS r.1) 8)) = true := by
    rw [wrap_u64_mod]; exact decide_eq_true (by omega)
  simp only [hdc]
  rw [Int.tdiv_eq_ediv_of_nonneg hat'.1, wrap_u64 (n := atS r.1 / 8) (by omega) (by omega)]
  simp only [F102, p102]
  generalize hn : atS r.1 = n at *
  unfold bitAt
  rcases hk with ⟨a1, a2⟩ | a1
  · have e1 : (r.1.1 == 1) = true := by simp [a1]
    have hb : bnd (n / 8) (r.1.2.1.length : Int) = true := by unfold bnd; simp; omega
    simp only [e1, hb]
    refine ⟨r.2, hi, ?_⟩
    rw [if_pos a1, u85_eq R r (getD_all h.tape u8_0 _) (by rw [hn]; exact hat'), hn]
  · have e1 : (r.1.1 == 1) = false := by simp [a1]
    simp only [e1]
    rw [if_neg (by omega), Int.tdiv_eq_ediv_of_nonneg (by omega), wrap_u64 (n := n / 8 / 32) (by omega) (by omega), Int.tmod_eq_emod_of_nonneg (by omega)]
    have hb : bnd (n / 8 % 32) 32 = true := by unfold bnd; simp; omega
    have hbit : (blockS r.1.2.2.2.1 r.1.2.2.2.2.1 (n / 8 / 32)).getD (n / 8 % 32).toNat 0 / 2 ^ (7 - n % 8).toNat % 2 = bitS r.1.2.2.2.1 r.1.2.2.2.2.1 n := by
      unfold bitS
      rw [show n / 8 / 32 = n / 256 by omega, show n / 8 % 32 = n % 256 / 8 by omega]
    have hu := fun i => getD_all (blockS_ok r.1.2.2.2.1 r.1.2.2.2.2.1 (n / 8 / 32)).2 u8_0 i
    have go : ∀ q, u85 R r ((blockS r.1.2.2.2.1 r.1.2.2.2.2.1 (n / 8 / 32)).getD (n / 8 % 32).toNat 0) q k = k (bitS r.1.2.2.2.1 r.1.2.2.2.2.1 n) (setAt r.1 (n + 1), q) := fun q => by
      rw [u85_eq R r (hu _) (by rw [hn]; exact hat'), hn, hbit]
    have fresh : (F106 R r.1.2.2.2.1 r.1.2.2.2.2.1 (n / 8 / 32) fun y5 => match bnd (n / 8 % 32) 32 with
        | true => u85 R r (y5.getD (n / 8 % 32).toNat 0) (r.1, y5, n / 8 / 32, true, r.2.2.2.2).2 k
        | false => none) = k (bitS r.1.2.2.2.1 r.1.2.2.2.2.1 n) (setAt r.1 (n + 1), (blockS r.1.2.2.2.1 r.1.2.2.2.2.1 (n / 8 / 32), n / 8 / 32, true, ())) := by
      rw [F106_eq R h.seed]
      simp only [hb]
      exact go _
    cases hs : r.2.2.2.1 with
    | false =>
      simp only [Bool.not_false]
      exact ⟨_, fun _ => rfl, fresh⟩
    | true =>
      simp only [Bool.not_true]
      by_cases hne : n / 8 / 32 = r.2.2.1
      · have e2 : (n / 8 / 32 != r.2.2.1) = false := by simp [hne]
        simp only [e2, hb]
        refine ⟨r.2, fun e => hi e, ?_⟩
        have := hi hs
        rw [← hne] at this
        rw [this]
        exact go _
      · have e2 : (n / 8 / 32 != r.2.2.1) = true := by simp [hne]
        simp only [e2]
        exact ⟨_, fun _ => rfl, fresh⟩
end Go.PG
namespace Go.PG
def takeV (s : Src) (a : Int) : Nat → Int
  | 0 => 0
  | n + 1 => 2 * takeV s a n + bitAt s (a + n)
theorem takeV_range (s : Src) (a : Int) : ∀ n : Nat, 0 ≤ takeV s a n ∧ takeV s a n < 2 ^ n
  | 0 => by simp [takeV]
  | n + 1 => by
    have ih := takeV_range s a n
    have hb := bit_range s (a + n)
    simp only [takeV]
    rw [Int.pow_succ]
    omega
theorem ior_shl1 {x b : Int} (hx : 0 ≤ x ∧ x < 9223372036854775808) (hb : 0 ≤ b ∧ b ≤ 1) : ior .u64 (ishl .u64 x 1) b = 2 * x + b := by
  obtain ⟨n, rfl⟩ : ∃ n : Nat, x = n := ⟨x.toNat, by omega⟩
  obtain ⟨c, rfl⟩ : ∃ c : Nat, b = c := ⟨b.toNat, by omega⟩
  have e2 : ishl .u64 (n : Int) 1 = ((n * 2 : Nat) : Int) := by
    unfold ishl
    rw [show (2 : Int) ^ (min (1 : Int).toNat IntKind.u64.bits) = 2 by decide, wrap_u64 (by omega) (by omega)]
    simp
  rw [e2, ior_u64, BitVec.ofInt_natCast, BitVec.ofInt_natCast, BitVec.toNat_or, BitVec.toNat_ofNat, BitVec.toNat_ofNat, Nat.mod_eq_of_lt (by omega), Nat.mod_eq_of_lt (by omega)]
  have h6 := Nat.shiftLeft_add_eq_or_of_lt (i := 1) (b := c) (by omega) n
  rw [Nat.shiftLeft_eq] at h6
  rw [show n * 2 = n * 2 ^ 1 by rfl, ← h6]
  simp; omega
theorem setAt_set (s : Src) (x y : Int) : setAt (setAt s x) y = setAt s y := rfl
theorem atS_set (s : Src) (x : Int) : atS (setAt s x) = x := rfl
theorem G59_eq (R : Type) {s : Src} (h : SOK s) {K : Nat} (hK : K ≤ 64) (hk : (s.1 = 1 ∧ atS s + K ≤ 8 * (s.2.1.length : Int)) ∨ s.1 = 2) (hat : atS s + K < 9000000000000000000) (x4 : Src) (k0 : Int → Src → Rdr → Option R) :
    ∀ (m i : Nat) (r : Rdr), i ≤ K → K - i < m → r.1 = setAt s (atS s + i) → RI r → ∃ q, G59_7 m R (takeV s (atS s) i) (K : Int) (i : Int) x4 r k0 = k0 (takeV s (atS s) K) x4 (setAt s (atS s + K), q)
  | 0, i, _, _, h, _, _ => by omega
  | m + 1, i, r, h1, h2, hr, hi => by
    simp only [G59_7, p59_7]
    have h0 := h.at_
    unfold U64 at h0
    have h0' : 0 ≤ atS s := h0.1
    by_cases hlt : i < K
    · have hd : decide ((i : Int) < (K : Int)) = true := by simpa using hlt
      simp only [hd]
      have hra : atS r.1 = atS s + i := by rw [hr]; rfl
      have hlen : r.1.2.1 = s.2.1 := by rw [hr]; rfl
      have hknd : r.1.1 = s.1 := by rw [hr]; rfl
      obtain ⟨q, g1, g2⟩ := F85_eq R (r := r) (by rw [hr]; exact h.set (by unfold U64; omega)) hi (by
        rw [hra, hlen, hknd]
        rcases hk with ⟨b1, b2⟩ | b1
        · exact .inl ⟨b1, by omega⟩
        · exact .inr b1) (by rw [hra]; omega) (fun y8 p9 => G59_7 m R (ior .u64 (ishl .u64 (takeV s (atS s) i) 1) y8) (K : Int) (IntKind.i64.wrap ((i : Int) + 1)) x4 p9 k0)
      have hv := takeV_range s (atS s) i
      have hp : (2 : Int) ^ i ≤ 9223372036854775808 := by
        have : (2 : Nat) ^ i ≤ 2 ^ 63 := Nat.pow_le_pow_right (by omega) (by omega)
        have e : ((2 ^ i : Nat) : Int) = (2 : Int) ^ i := by simp
        omega
      have hbt : bitAt r.1 (atS r.1) = bitAt s (atS s + i) := by rw [hra, hr]; rfl
      obtain ⟨q2, g3⟩ := G59_eq R h hK hk hat x4 k0 m (i + 1) (setAt r.1 (atS r.1 + 1), q) (by omega) (by omega) (by
        show setAt r.1 (atS r.1 + 1) = _
        rw [hra, hr, setAt_set]
        congr 1
        omega) g1
      refine ⟨q2, ?_⟩
      rw [g2, ior_shl1 ⟨hv.1, by omega⟩ (bit_range _ _), hbt, wrap_i64 (n := (i : Int) + 1) (by omega) (by omega)]
      exact g3
    · have : i = K := by omega
      subst this
      have hd : decide ((i : Int) < (i : Int)) = false := by simp
      simp only [hd]
      refine ⟨r.2, ?_⟩
      rw [← hr]
def takeR (s : Src) (k : Int) : Int × Src × Int :=
  if rightS' s = true ∧ 0 ≤ k ∧ k ≤ 64 then (if k ≤ leftS s then (takeV s (atS s) k.toNat, setAt s (atS s + k), 0) else (0, s, 8)) else (0, s, 1)
theorem right_room {s : Src} (hs : SOK s) (hr : rightS' s = true) {k : Nat} (hk : (k : Int) ≤ leftS s) : ((s.1 = 1 ∧ atS s + k ≤ 8 * (s.2.1.length : Int)) ∨ s.1 = 2) ∧ atS s + k < 9000000000000000000 := by
  have hl := left_ok hs
  have := hl.2.2 hr
  have hln := hs.len
  unfold atS
  rcases right_spec hr with ⟨a1, a2, a3, a4⟩ | ⟨a1, a2, a3⟩
  · rw [a4] at this
    exact ⟨.inl ⟨a1, by omega⟩, by omega⟩
  · exact ⟨.inr a1, by omega⟩
theorem F59_eq (R : Type) {s : Src} (hs : SOK s) {n : Int} (k : Int → Src → Int → Option R) : F59 R s n k = k (takeR s n).1 (takeR s n).2.1 (takeR s n).2.2 := by
  simp only [F59, p59]
  rw [F75_eq R hs]
  unfold takeR
  by_cases hr : rightS' s = true
  · simp only [hr, Bool.not_true, true_and]
    by_cases h1 : n < 0
    · rw [if_neg (by omega)]
      simp only [decide_eq_true h1]
    · simp only [decide_eq_false h1]
      by_cases h2 : n > 64
      · rw [if_neg (by omega)]
        simp only [decide_eq_true h2]
      · rw [if_pos (by omega)]
        simp only [decide_eq_false h2]
        rw [wrap_u64 (n := n) (by omega) (by omega), F84_eq R hs]
        by_cases h3 : n > leftS s
        · rw [if_neg (by omega)]
          simp only [decide_eq_true h3]
        · rw [if_pos (by omega)]
          simp only [decide_eq_false h3]
          obtain ⟨m, rfl⟩ : ∃ m : Nat, n = m := ⟨n.toNat, by omega⟩
          have hroom := right_room hs hr (k := m) (by omega)
          obtain ⟨q, g⟩ := G59_eq R hs (K := m) (by omega) hroom.1 hroom.2 (0, [], 0, List.replicate 32 0, 0, 0, ()) (fun x7 x8 x9 => k x7 x9.1 0) FUEL 0 (s, List.replicate 32 0, 0, false, ()) (by omega) (by rw [FUEL_eq]; omega) (by simp only [Int.natCast_zero, Int.add_zero]; rfl) (fun e => by cases e)
          refine g.trans ?_
          rw [Int.toNat_natCast]
  · simp only [Bool.not_eq_true] at hr
    simp [hr]
end Go.PG
namespace Go.PG
structure SFit (s : Src) : Prop where
  tape : AllU8 s.2.1
  bits : U64 s.2.2.1
  seed : H32 s.2.2.2.1
  dom : U64 s.2.2.2.2.1
  at_ : U64 s.2.2.2.2.2.1
theorem SFit.ok {s : Src} (h : SFit s) (hl : s.2.1.length ≤ 1000000) : SOK s := ⟨h.tape, hl, h.bits, h.seed, h.dom, h.at_⟩
def streamSrc (a : List Int) (d : Int) : Src := (2, [], 0, a, d, 0, ())
theorem streamSrc_ok {a : List Int} (ha : H32 a) {d : Int} (hd : U64 d) : SOK (streamSrc a d) := ⟨fun y hy => by simp [streamSrc] at hy, by simp [streamSrc], by unfold U64 streamSrc; simp, ha, hd, by unfold U64 streamSrc; simp⟩
theorem F99_eq (R : Type) (a : List Int) (d : Int) (k : Src → Option R) : F99 R a d k = k (streamSrc a d) := by
  simp only [F99, p99]; rfl
theorem takeR_ok {s : Src} {n : Nat} (hr : rightS' s = true) (h1 : n ≤ 64) (h2 : (n : Int) ≤ leftS s) : takeR s n = (takeV s (atS s) n, setAt s (atS s + n), 0) := by
  unfold takeR
  rw [if_pos ⟨hr, by omega, by omega⟩, if_pos h2, Int.toNat_natCast]
end Go.PG
namespace Go.PG
def blenF : Nat → Nat → Nat
  | 0, _ => 0
  | f + 1, x => if x = 0 then 0 else blenF f (x / 2) + 1
theorem G86_eq (R : Type) (k0 : Int → Option R) : ∀ (f m x c : Nat), x < 2 ^ f → f ≤ 64 → f < m → c + f ≤ 1000 → G86_1 m R (x : Int) (c : Int) k0 = k0 ((c + blenF f x : Nat) : Int)
  | _, 0, _, _, _, _, h, _ => by omega
  | 0, m + 1, x, c, h, _, _, _ => by
    simp at h; subst h
    simp only [G86_1, p86_1, blenF]
    rfl
  | f + 1, m + 1, x, c, h, hf, hm, hc => by
    simp only [G86_1, p86_1, blenF]
    rw [Nat.pow_succ] at h
    by_cases h0 : x = 0
    · subst h0
      simp
    · have e : ((x : Int) != 0) = true := by simp [h0]
      have e2 : ishr .u64 (x : Int) 1 = ((x / 2 : Nat) : Int) := by
        have := shr64 (x := (x : Int)) 1 (by omega)
        refine this.trans ?_
        omega
      simp only [e, if_neg h0]
      have ih := G86_eq R k0 f m (x / 2) (c + 1) (by omega) (by omega) (by omega) (by omega)
      rw [wrap_i64 (n := (c : Int) + 1) (by omega) (by omega), e2, show c + (blenF f (x / 2) + 1) = c + 1 + blenF f (x / 2) by omega]
      exact ih
def needS (n : Int) : Nat := blenF 64 (n - 1).toNat
theorem F60_eq (R : Type) {n : Int} (hn : U64 n) (k : Int → Option R) : F60 R n k = k (needS n : Int) := by
  have hn' := hn
  unfold U64 at hn
  simp only [F60, p60, F86, p86]
  have e : IntKind.u64.wrap ((if (1 : Int) > n then (1 : Int) else n) - 1) = ((n - 1).toNat : Int) := by
    split
    · rw [wrap_u64 (by omega) (by omega)]; omega
    · rw [wrap_u64 (by omega) (by omega)]; omega
  rw [e]
  have := G86_eq R (fun x1 => k x1) 64 FUEL (n - 1).toNat 0 (by omega) (by omega) (by rw [FUEL_eq]; omega) (by omega)
  rw [Nat.zero_add] at this
  exact this
def drawF (n : Int) : Nat → Src → Int × Src × Int
  | 0, s => (0, s, 9)
  | m + 1, s => if (takeR s (needS n)).2.2 = 0 then (if (takeR s (needS n)).1 < n then ((takeR s (needS n)).1, (takeR s (needS n)).2.1, 0) else drawF n m (takeR s (needS n)).2.1) else (0, s, (takeR s (needS n)).2.2)
theorem takeR_ok1 {s : Src} (hs : SOK s) (k : Int) : SOK (takeR s k).2.1 := by
  unfold takeR
  split
  · rename_i h
    split
    · rename_i h2
      have hl := left_ok hs
      have h0 : 0 ≤ atS s := hs.at_.1
      have := right_room hs h.1 (k := k.toNat) (by omega)
      refine hs.set ?_
      unfold U64
      omega
    · exact hs
  · exact hs
theorem takeR_zero {s : Src} {k : Nat} (h : (takeR s k).2.2 = 0) : rightS' s = true ∧ k ≤ 64 ∧ (k : Int) ≤ leftS s ∧ takeR s k = (takeV s (atS s) k, setAt s (atS s + k), 0) := by
  unfold takeR at h
  split at h
  · rename_i h1
    split at h
    · rename_i h2
      exact ⟨h1.1, by omega, h2, takeR_ok h1.1 (by omega) h2⟩
    · simp at h
  · simp at h
theorem G34_eq (R : Type) {n : Int} (hn : U64 n) (a : Nat) (ha : a ≤ 64) (x5 : Src) (k0 : Int → Int → Src → Option R) (k1 : Src → Src → Option R) :
    ∀ (m i : Nat) (s : Src), i ≤ a → a - i < m → SOK s → (∀ y : Src, k1 y x5 = k0 0 9 y) → G34_4 m R n (a : Int) (i : Int) s x5 k0 k1 = k0 (drawF n (a - i) s).1 (drawF n (a - i) s).2.2 (drawF n (a - i) s).2.1
  | 0, i, _, _, h, _, _ => by omega
  | m + 1, i, s, h1, h2, hs, hk => by
    simp only [G34_4, p34_4]
    by_cases hi : i < a
    · have hd : decide ((i : Int) < (a : Int)) = true := by simpa using hi
      simp only [hd]
      rw [F60_eq R hn, F59_eq R hs, show a - i = (a - (i + 1)) + 1 by omega]
      simp only [drawF]
      have ih := G34_eq R hn a ha x5 k0 k1 m (i + 1) (takeR s (needS n)).2.1 (by omega) (by omega) (takeR_ok1 hs _) hk
      generalize takeR s (needS n) = t at *
      by_cases he : t.2.2 = 0
      · have e1 : (t.2.2 != 0) = false := by simp [he]
        simp only [e1, if_pos he]
        by_cases hx : t.1 < n
        · simp only [decide_eq_true hx, if_pos hx]
        · simp only [decide_eq_false hx, if_neg hx]
          rw [wrap_i64 (n := (i : Int) + 1) (by omega) (by omega)]
          exact ih
      · have e1 : (t.2.2 != 0) = true := by simp [he]
        simp only [e1, if_neg he]
    · have : i = a := by omega
      subst this
      have hd : decide ((i : Int) < (i : Int)) = false := by simp
      simp only [hd, Nat.sub_self, drawF]
      exact hk s
def drawR (s : Src) (n m : Int) : Int × Src × Int := if rightS' s = true ∧ 0 < n ∧ n < 9223372036854775808 ∧ 0 < m ∧ m ≤ 64 then drawF n m.toNat s else (0, s, 1)
theorem F34_eq (R : Type) {s : Src} (hs : SOK s) {n : Int} (hn : U64 n) (m : Int) (k : Int → Src → Int → Option R) : F34 R s n m k = k (drawR s n m).1 (drawR s n m).2.1 (drawR s n m).2.2 := by
  simp only [F34, p34, F58, p58]
  rw [F75_eq R hs]
  unfold drawR
  by_cases hr : rightS' s = true
  · simp only [hr, true_and]
    by_cases h1 : n > 0
    · simp only [decide_eq_true h1]
      by_cases h2 : n < 9223372036854775808
      · simp only [decide_eq_true h2]
        by_cases h3 : m > 0
        · simp only [decide_eq_true h3]
          by_cases h4 : m ≤ 64
          · simp only [decide_eq_true h4, Bool.not_true]
            rw [if_pos ⟨h1, h2, h3, h4⟩]
            obtain ⟨a, rfl⟩ : ∃ a : Nat, m = a := ⟨m.toNat, by omega⟩
            rw [Int.toNat_natCast]
            exact G34_eq R hn a (by omega) (0, [], 0, List.replicate 32 0, 0, 0, ()) (fun x2 x3 x4 => k x2 x4 x3) (fun x5 x6 => k 0 x5 9) FUEL 0 s (by omega) (by rw [FUEL_eq]; omega) hs (fun y => rfl)
          · rw [if_neg (fun h => h4 h.2.2.2)]
            simp only [decide_eq_false h4, Bool.not_false]
        · rw [if_neg (fun h => h3 h.2.2.1)]
          simp only [decide_eq_false h3, Bool.not_false]
      · rw [if_neg (fun h => h2 h.2.1)]
        simp only [decide_eq_false h2, Bool.not_false]
    · rw [if_neg (fun h => h1 h.1)]
      simp only [decide_eq_false h1, Bool.not_false]
  · simp only [Bool.not_eq_true] at hr
    simp [hr]
end Go.PG
namespace Go.PG
theorem drawF_ok {n : Int} : ∀ (m : Nat) (s : Src), (drawF n m s).2.2 = 0 → ∃ j, 1 ≤ j ∧ j ≤ m ∧ (drawF n m s).1 < n ∧ (drawF n m s).2.1 = setAt s (atS s + needS n * j) ∧ (needS n * j : Int) ≤ leftS s ∧ ∀ i < j, drawF n i s = (0, setAt s (atS s + needS n * i), 9)
  | 0, s, h => by simp [drawF] at h
  | m + 1, s, h => by
    simp only [drawF] at h ⊢
    split at h
    · rename_i h1
      obtain ⟨g1, g2, g3, g4⟩ := takeR_zero h1
      rw [if_pos h1]
      split at h
      · rename_i h2
        rw [if_pos h2]
        refine ⟨1, by omega, by omega, h2, ?_, by omega, fun i hi => ?_⟩
        · rw [g4]
          show setAt s (atS s + needS n) = setAt s (atS s + needS n * ((1 : Nat) : Int))
          rw [Int.natCast_one, Int.mul_one]
        · have : i = 0 := by omega
          subst this
          simp only [drawF, Int.natCast_zero, Int.mul_zero, Int.add_zero]
          rfl
      · rename_i h2
        rw [if_neg h2]
        have hmul : ∀ i : Nat, ((needS n : Nat) : Int) * ((i + 1 : Nat) : Int) = needS n + needS n * i := fun i => by
          rw [show ((i + 1 : Nat) : Int) = (i : Int) + 1 by omega, Int.mul_add, Int.mul_one, Int.add_comm]
        obtain ⟨j, j1, j2, j3, j4, j5, j6⟩ := drawF_ok m _ h
        refine ⟨j + 1, by omega, by omega, j3, ?_, ?_, fun i hi => ?_⟩
        · rw [j4, g4]
          show setAt (setAt s (atS s + needS n)) (atS s + needS n + needS n * j) = _
          rw [setAt_set, hmul, Int.add_assoc]
        · rw [g4] at j5
          have hle : leftS (setAt s (atS s + needS n)) ≤ leftS s - needS n := by
            unfold leftS at g3 ⊢
            rw [if_pos g1] at g3 ⊢
            split
            · show endS s - (atS s + needS n) ≤ endS s - atS s - needS n
              omega
            · show 0 ≤ endS s - atS s - needS n
              have : endS s - s.2.2.2.2.2.1 = endS s - atS s := rfl
              omega
          rw [hmul]
          have j5' : (needS n : Int) * j ≤ leftS (setAt s (atS s + needS n)) := j5
          omega
        · cases i with
          | zero =>
            simp only [drawF, Int.natCast_zero, Int.mul_zero, Int.add_zero]
            rfl
          | succ i =>
            have := j6 i (by omega)
            simp only [drawF]
            rw [if_pos h1, if_neg h2, this, g4]
            show (0, setAt (setAt s (atS s + needS n)) (atS s + needS n + needS n * i), 9) = _
            rw [setAt_set, hmul, Int.add_assoc]
    · rename_i h1
      exact absurd h h1
end Go.PG
namespace Go.PG
end Go.PG
namespace Go.PG
end Go.PG
namespace Go.PG
end Go.PG
namespace Go.PG
def sumS (l : List Int) (n : Nat) : Int := (l.take n).sum
theorem sumS_zero (l : List Int) : sumS l 0 = 0 := rfl
theorem sumS_succ {l : List Int} {i : Nat} (h : i < l.length) : sumS l (i + 1) = sumS l i + l.getD i 0 := by
  unfold sumS
  have et : l.take (i + 1) = l.take i ++ [l[i]] := by rw [List.take_succ_eq_append_getElem h]
  rw [et, List.sum_append]
  simp [h]
def AllU64 (l : List Int) : Prop := ∀ x ∈ l, U64 x
theorem u64_0 : U64 0 := by unfold U64; omega
theorem sumS_mono {l : List Int} (h : AllU64 l) {a : Nat} : ∀ d : Nat, sumS l a ≤ sumS l (a + d)
  | 0 => Int.le_refl _
  | d + 1 => by
    have ih := sumS_mono h (a := a) d
    by_cases hd : a + d < l.length
    · have := (getD_all h u64_0 (a + d)).1
      rw [← Nat.add_assoc, sumS_succ hd]
      omega
    · have e : sumS l (a + (d + 1)) = sumS l (a + d) := by
        unfold sumS
        rw [List.take_of_length_le (by omega), List.take_of_length_le (by omega)]
      rw [e]; exact ih
theorem sumS_le {l : List Int} (h : AllU64 l) {a b : Nat} (hab : a ≤ b) : sumS l a ≤ sumS l b := by
  have := sumS_mono h (a := a) (b - a)
  rwa [show a + (b - a) = b by omega] at this
theorem sumS_nonneg {l : List Int} (h : AllU64 l) (n : Nat) : 0 ≤ sumS l n := by
  have := sumS_le h (Nat.zero_le n)
  rwa [sumS_zero] at this
def totS (l : List Int) : Int := sumS l l.length
theorem sumS_tot {l : List Int} (h : AllU64 l) (n : Nat) : sumS l n ≤ totS l := by
  by_cases hn : n ≤ l.length
  · exact sumS_le h hn
  · unfold totS sumS
    rw [List.take_of_length_le (by omega), List.take_length]
    exact Int.le_refl _
def lowF : Nat → Nat → Nat
  | 0, _ => 1
  | f + 1, n => if n % 2 = 0 then 2 * lowF f (n / 2) else 1
def lowN (n : Nat) : Nat := lowF 20 n
def ALLN : List Nat := List.range' 1 1000
theorem low_check : (ALLN.all fun n => decide (iand .i64 (n : Int) (IntKind.i64.wrap (0 - (n : Int))) = (lowN n : Int)) && decide (1 ≤ lowN n ∧ lowN n ≤ n)) = true := by kernel_rfl
theorem low_ok {n : Nat} (h1 : 1 ≤ n) (h2 : n ≤ 1000) : iand .i64 (n : Int) (IntKind.i64.wrap (0 - (n : Int))) = (lowN n : Int) ∧ 1 ≤ lowN n ∧ lowN n ≤ n := by
  have := List.all_eq_true.1 low_check n (by unfold ALLN; rw [List.mem_range']; exact ⟨n - 1, by omega, by omega⟩)
  simp only [Bool.and_eq_true, decide_eq_true_eq] at this
  exact ⟨this.1, this.2⟩
theorem F67_eq (R : Type) {n : Nat} (h1 : 1 ≤ n) (h2 : n ≤ 1000) (k : Int → Option R) : F67 R (n : Int) k = k (lowN n : Int) := by
  simp only [F67, p67]
  rw [(low_ok h1 h2).1]
theorem low_even (m : Nat) (h1 : 1 ≤ m) (h2 : m ≤ 500) : lowN (2 * m) = 2 * lowN m := by
  have : (List.range' 1 500).all (fun m => decide (lowN (2 * m) = 2 * lowN m)) = true := by kernel_rfl
  have := List.all_eq_true.1 this m (by rw [List.mem_range']; exact ⟨m - 1, by omega, by omega⟩)
  exact of_decide_eq_true this
theorem low_odd (m : Nat) : lowN (2 * m + 1) = 1 := by
  unfold lowN lowF
  rw [if_neg (by omega)]
theorem low_pow : ∀ (k q : Nat), (2 * q + 1) * 2 ^ k ≤ 1000 → lowN ((2 * q + 1) * 2 ^ k) = 2 ^ k
  | 0, q, _ => by rw [Nat.pow_zero, Nat.mul_one, low_odd]
  | k + 1, q, h => by
    rw [Nat.pow_succ, ← Nat.mul_assoc] at h
    have hp : 0 < (2 * q + 1) * 2 ^ k := Nat.mul_pos (by omega) (Nat.pow_pos (by omega))
    rw [Nat.pow_succ, ← Nat.mul_assoc, Nat.mul_comm _ 2, low_even _ hp (by omega), low_pow k q (by omega), Nat.mul_comm]
def nodeS (l : List Int) (q : Nat) : Int := sumS l (q + 1) - sumS l (q + 1 - lowN (q + 1))
def treeS (l : List Int) : List Int := (List.range l.length).map (nodeS l)
theorem treeS_len (l : List Int) : (treeS l).length = l.length := by simp [treeS]
theorem treeS_get {l : List Int} {q : Nat} (h : q < l.length) : (treeS l).getD q 0 = nodeS l q := by
  simp [treeS, h]
theorem node_range {l : List Int} (h : AllU64 l) (ht : totS l < 9223372036854775808) (q : Nat) : 0 ≤ nodeS l q ∧ nodeS l q < 9223372036854775808 := by
  have h1 := sumS_le h (a := q + 1 - lowN (q + 1)) (b := q + 1) (by omega)
  have h2 := sumS_nonneg h (q + 1 - lowN (q + 1))
  have h3 := sumS_tot h (q + 1)
  unfold nodeS
  omega
theorem G96_eq (R : Type) {l : List Int} (h : AllU64 l) (ht : totS l < 9223372036854775808) (hlen : l.length ≤ 500) (k0 : Int → Option R) (n0 : Nat) (hn0 : n0 ≤ l.length) : ∀ (m n : Nat), n ≤ n0 → n < m → G96_1 m R (n : Int) (sumS l n0 - sumS l n) (treeS l, ()) k0 = k0 (sumS l n0)
  | 0, n, _, h => by omega
  | m + 1, n, h1, h2 => by
    simp only [G96_1, p96_1]
    by_cases hn : n = 0
    · subst hn
      have hd : decide (((0 : Nat) : Int) > 0) = false := by simp
      simp only [hd, sumS_zero, Int.sub_zero]
    · have hd : decide ((n : Int) > 0) = true := decide_eq_true (by omega)
      have hl := low_ok (n := n) (by omega) (by omega)
      rw [wrap_i64 (n := (n : Int) - 1) (by omega) (by omega), show (n : Int) - 1 = ((n - 1 : Nat) : Int) by omega]
      have hbn : bnd ((n - 1 : Nat) : Int) ((treeS l).length : Int) = true := by rw [treeS_len]; unfold bnd; simp; omega
      simp only [hd, hbn, Int.toNat_natCast]
      rw [treeS_get (by omega), F67_eq R (by omega) (by omega)]
      have e : nodeS l (n - 1) = sumS l n - sumS l (n - lowN n) := by
        unfold nodeS
        rw [show n - 1 + 1 = n by omega]
      have q1 := sumS_le h (a := n - lowN n) (b := n) (by omega)
      have q2 := sumS_nonneg h (n - lowN n)
      have q3 := sumS_tot h n0
      have q4 := sumS_le h h1
      rw [e, wrap_u64 (n := sumS l n0 - sumS l n + (sumS l n - sumS l (n - lowN n))) (by omega) (by omega), wrap_i64 (n := (n : Int) - (lowN n : Int)) (by omega) (by omega), show (n : Int) - (lowN n : Int) = ((n - lowN n : Nat) : Int) by omega, show sumS l n0 - sumS l n + (sumS l n - sumS l (n - lowN n)) = sumS l n0 - sumS l (n - lowN n) by omega]
      exact G96_eq R h ht hlen k0 n0 hn0 m (n - lowN n) (by omega) (by omega)
theorem F76_eq (R : Type) {l : List Int} (h : AllU64 l) (ht : totS l < 9223372036854775808) (hlen : l.length ≤ 500) (k : Int → Option R) : F76 R (treeS l, ()) k = k (totS l) := by
  simp only [F76, p76, F97, p97, F96, p96, treeS_len]
  have := G96_eq R h ht hlen (fun x1 => k x1) l.length (Nat.le_refl _) FUEL l.length (Nat.le_refl _) (by rw [FUEL_eq]; omega)
  rw [Int.sub_self] at this
  exact this
def Owns (l : List Int) (x : Int) (i : Nat) : Prop := i < l.length ∧ sumS l i ≤ x ∧ x < sumS l (i + 1)
theorem Owns.uniq {l : List Int} (h : AllU64 l) {x : Int} {i j : Nat} (hi : Owns l x i) (hj : Owns l x j) : i = j := by
  obtain ⟨a1, a2, a3⟩ := hi
  obtain ⟨b1, b2, b3⟩ := hj
  rcases Nat.lt_trichotomy i j with h1 | h1 | h1
  · have := sumS_le h (a := i + 1) (b := j) (by omega); omega
  · exact h1
  · have := sumS_le h (a := j + 1) (b := i) (by omega); omega
theorem G77_4_eq (R : Type) {n : Nat} (hn : n ≤ 500) (t : List Int × Unit) (htl : t.1.length = n) (x : Int) (k0 : Int → Int → Int → (List Int × Unit) → Option R) : ∀ (m k : Nat), 2 ^ k ≤ n ∨ k = 0 → n + 2 < m + 2 ^ k → ∃ j, n < 2 ^ (j + 1) ∧ (2 ^ j ≤ n ∨ j = 0) ∧ G77_4 m R x 0 ((2 ^ k : Nat) : Int) t k0 = k0 x 0 ((2 ^ j : Nat) : Int) t
  | 0, k, h1, h2 => by
    rcases h1 with h1 | rfl
    · omega
    · rw [Nat.pow_zero] at h2; omega
  | m + 1, k, h1, h2 => by
    simp only [G77_4, p77_4, F97, p97, htl]
    have hpp : 0 < 2 ^ k := Nat.pow_pos (by omega)
    have hp : 2 ^ k ≤ 500 := by
      rcases h1 with h1 | rfl
      · omega
      · rw [Nat.pow_zero]; omega
    have e : ishl .i64 ((2 ^ k : Nat) : Int) 1 = ((2 ^ (k + 1) : Nat) : Int) := by
      unfold ishl
      rw [show (2 : Int) ^ (min (1 : Int).toNat IntKind.i64.bits) = 2 by decide, Nat.pow_succ]
      generalize 2 ^ k = p at *
      rw [wrap_i64 (by omega) (by omega)]; omega
    rw [e]
    by_cases hk : 2 ^ (k + 1) ≤ n
    · have hd : decide (((2 ^ (k + 1) : Nat) : Int) ≤ (n : Int)) = true := decide_eq_true (by omega)
      simp only [hd]
      exact G77_4_eq R hn t htl x k0 m (k + 1) (.inl hk) (by rw [Nat.pow_succ]; omega)
    · have hd : decide (((2 ^ (k + 1) : Nat) : Int) ≤ (n : Int)) = false := decide_eq_false (by omega)
      simp only [hd]
      exact ⟨k, by omega, h1, rfl⟩
theorem G77_6_eq (R : Type) {l : List Int} (h : AllU64 l) (ht : totS l < 9223372036854775808) (hlen : l.length ≤ 400) {x : Int} (hx : 0 ≤ x ∧ x < totS l) (k0 : Int → Option R) : ∀ (m k q : Nat), 2 ^ (k + 1) * q ≤ l.length → 2 ^ k ≤ 500 → sumS l (2 ^ (k + 1) * q) ≤ x → (l.length < 2 ^ (k + 1) * q + 2 ^ (k + 1) ∨ x < sumS l (2 ^ (k + 1) * q + 2 ^ (k + 1))) → k + 1 < m →
    ∃ i, Owns l x i ∧ G77_6 m R (x - sumS l (2 ^ (k + 1) * q)) ((2 ^ (k + 1) * q : Nat) : Int) ((2 ^ k : Nat) : Int) (treeS l, ()) k0 = k0 (i : Int)
  | 0, _, _, _, _, _, _, h => by omega
  | m + 1, k, q, h1, h2, h3, h4, h5 => by
    have hpp : 0 < 2 ^ k := Nat.pow_pos (by omega)
    have e1 : 2 ^ (k + 1) * q = 2 ^ k * (2 * q) := by rw [Nat.pow_succ, Nat.mul_assoc]
    have hlow : 2 ^ (k + 1) * q + 2 ^ k ≤ 1000 → lowN (2 ^ (k + 1) * q + 2 ^ k) = 2 ^ k := fun hh => by
      have e2 : 2 ^ (k + 1) * q + 2 ^ k = (2 * q + 1) * 2 ^ k := by rw [e1, Nat.add_mul, Nat.one_mul, Nat.mul_comm (2 * q)]
      rw [e2] at hh ⊢
      exact low_pow k q hh
    simp only [G77_6, p77_6, F97, p97, treeS_len]
    have hd : decide (((2 ^ k : Nat) : Int) > 0) = true := decide_eq_true (by omega)
    have eshr : ishr .i64 ((2 ^ k : Nat) : Int) 1 = ((2 ^ k / 2 : Nat) : Int) := by
      unfold ishr
      rw [show (2 : Int) ^ (min (1 : Int).toNat IntKind.i64.bits) = 2 by decide, Int.fdiv_eq_ediv_of_nonneg _ (by omega)]
      omega
    simp only [hd, eshr]
    rw [wrap_i64 (n := ((2 ^ (k + 1) * q : Nat) : Int) + ((2 ^ k : Nat) : Int)) (by omega) (by omega), show ((2 ^ (k + 1) * q : Nat) : Int) + ((2 ^ k : Nat) : Int) = ((2 ^ (k + 1) * q + 2 ^ k : Nat) : Int) by omega]
    -- what comes behind, for the next step
    have next : ∀ (q' : Nat) (_ : 2 ^ k * q' ≤ l.length) (_ : sumS l (2 ^ k * q') ≤ x) (_ : l.length < 2 ^ k * q' + 2 ^ k ∨ x < sumS l (2 ^ k * q' + 2 ^ k)),
        ∃ i, Owns l x i ∧ G77_6 m R (x - sumS l (2 ^ k * q')) ((2 ^ k * q' : Nat) : Int) ((2 ^ k / 2 : Nat) : Int) (treeS l, ()) k0 = k0 (i : Int) := by
      intro q' g1 g2 g3
      cases k with
      | zero =>
        rw [Nat.pow_zero, Nat.one_mul] at g1 g2 g3 ⊢
        have hlt : q' < l.length := by
          refine Classical.byContradiction fun hh => ?_
          have : sumS l q' = totS l := by
            unfold totS sumS
            rw [List.take_of_length_le (by omega), List.take_length]
          omega
        refine ⟨q', ⟨hlt, g2, ?_⟩, ?_⟩
        · rcases g3 with g3 | g3
          · have : q' + 1 = l.length := by omega
            rw [this]; exact hx.2
          · exact g3
        · cases m with
          | zero => omega
          | succ m =>
            simp only [G77_6, p77_6]
            rfl
      | succ k =>
        have e3 : 2 ^ (k + 1) / 2 = 2 ^ k := by rw [Nat.pow_succ]; omega
        rw [e3]
        exact G77_6_eq R h ht hlen hx k0 m k q' g1 (by rw [Nat.pow_succ] at h2; omega) g2 g3 (by omega)
    by_cases hn : 2 ^ (k + 1) * q + 2 ^ k ≤ l.length
    · have hd2 : decide (((2 ^ (k + 1) * q + 2 ^ k : Nat) : Int) ≤ (l.length : Int)) = true := decide_eq_true (by omega)
      have hbn : bnd ((2 ^ (k + 1) * q + 2 ^ k - 1 : Nat) : Int) (l.length : Int) = true := by unfold bnd; simp; omega
      rw [wrap_i64 (n := ((2 ^ (k + 1) * q + 2 ^ k : Nat) : Int) - 1) (by omega) (by omega), show ((2 ^ (k + 1) * q + 2 ^ k : Nat) : Int) - 1 = ((2 ^ (k + 1) * q + 2 ^ k - 1 : Nat) : Int) by omega]
      simp only [hd2, hbn, Int.toNat_natCast]
      have en : nodeS l (2 ^ (k + 1) * q + 2 ^ k - 1) = sumS l (2 ^ (k + 1) * q + 2 ^ k) - sumS l (2 ^ (k + 1) * q) := by
        unfold nodeS
        rw [show 2 ^ (k + 1) * q + 2 ^ k - 1 + 1 = 2 ^ (k + 1) * q + 2 ^ k by omega, hlow (by omega), Nat.add_sub_cancel]
      have eg : (treeS l).getD (2 ^ (k + 1) * q + 2 ^ k - 1) 0 = sumS l (2 ^ (k + 1) * q + 2 ^ k) - sumS l (2 ^ (k + 1) * q) := by rw [treeS_get (by omega), en]
      simp only [eg]
      have q1 := sumS_le h (a := 2 ^ (k + 1) * q) (b := 2 ^ (k + 1) * q + 2 ^ k) (by omega)
      have q2 := sumS_nonneg h (2 ^ (k + 1) * q)
      by_cases hle : sumS l (2 ^ (k + 1) * q + 2 ^ k) ≤ x
      · have hd3 : decide (sumS l (2 ^ (k + 1) * q + 2 ^ k) - sumS l (2 ^ (k + 1) * q) ≤ x - sumS l (2 ^ (k + 1) * q)) = true := decide_eq_true (by omega)
        simp only [hd3]
        rw [wrap_u64 (n := x - sumS l (2 ^ (k + 1) * q) - (sumS l (2 ^ (k + 1) * q + 2 ^ k) - sumS l (2 ^ (k + 1) * q))) (by omega) (by omega), show x - sumS l (2 ^ (k + 1) * q) - (sumS l (2 ^ (k + 1) * q + 2 ^ k) - sumS l (2 ^ (k + 1) * q)) = x - sumS l (2 ^ (k + 1) * q + 2 ^ k) by omega]
        have e4 : 2 ^ (k + 1) * q + 2 ^ k = 2 ^ k * (2 * q + 1) := by rw [e1, Nat.mul_add, Nat.mul_one]
        have e5 : 2 ^ (k + 1) * q + 2 ^ (k + 1) = 2 ^ k * (2 * q + 1) + 2 ^ k := by
          rw [← e4, Nat.pow_succ]; omega
        rw [e4]
        rw [e4] at hle hn
        rw [e5] at h4
        exact next (2 * q + 1) hn hle h4
      · have hd3 : decide (sumS l (2 ^ (k + 1) * q + 2 ^ k) - sumS l (2 ^ (k + 1) * q) ≤ x - sumS l (2 ^ (k + 1) * q)) = false := decide_eq_false (by omega)
        simp only [hd3]
        rw [e1] at h1 h3 hle ⊢
        exact next (2 * q) h1 h3 (.inr (by omega))
    · have hd2 : decide (((2 ^ (k + 1) * q + 2 ^ k : Nat) : Int) ≤ (l.length : Int)) = false := decide_eq_false (by omega)
      simp only [hd2]
      rw [e1] at h1 h3 hn ⊢
      exact next (2 * q) h1 h3 (.inl (by omega))
theorem F77_own (R : Type) {l : List Int} (h : AllU64 l) (ht : totS l < 9223372036854775808) (hlen : l.length ≤ 400) {x : Int} (hx : 0 ≤ x ∧ x < totS l) (k : Int → Int → Option R) : ∃ i, Owns l x i ∧ F77 R (treeS l, ()) x k = k (i : Int) 0 := by
  simp only [F77, p77]
  rw [F76_eq R h ht (by omega)]
  have hd : decide (x ≥ totS l) = false := decide_eq_false (by omega)
  simp only [hd]
  obtain ⟨j, j1, j2, j3⟩ := G77_4_eq R (n := l.length) (by omega) (treeS l, ()) (treeS_len l) x (fun x3 x4 x5 x6 => G77_6 FUEL R x3 x4 x5 x6 (fun x7 => k x7 0)) FUEL 0 (.inr rfl) (by rw [FUEL_eq]; omega)
  have hj : 2 ^ j ≤ 500 := by
    rcases j2 with j2 | rfl
    · omega
    · rw [Nat.pow_zero]; omega
  have hjm : j ≤ 500 := by have := Nat.lt_two_pow_self (n := j); omega
  obtain ⟨i, hi, g⟩ := G77_6_eq R h ht hlen hx (fun x7 => k x7 0) FUEL j 0 (by simp) hj (by rw [Nat.mul_zero, sumS_zero]; exact hx.1) (.inl (by omega)) (by rw [FUEL_eq]; omega)
  refine ⟨i, hi, ?_⟩
  rw [Nat.mul_zero, sumS_zero, Int.sub_zero] at g
  exact j3.trans g
end Go.PG
namespace Go.PG
def lastE (j : Nat) : Nat → Nat
  | 0 => j - lowN j
  | m + 1 => if (m + 1) + lowN (m + 1) = j then m + 1 else lastE j m
theorem last_checkA : ((List.range' 1 400).all fun c => decide (lastE (c + lowN c) (c - 1) = c - lowN c)) = true := by kernel_rfl
theorem last_checkB : ((List.range' 1 400).all fun j => decide (lastE j (j - 1) = j - 1)) = true := by kernel_rfl
theorem lastA {c : Nat} (h1 : 1 ≤ c) (h2 : c ≤ 400) : lastE (c + lowN c) (c - 1) = c - lowN c :=
  of_decide_eq_true (List.all_eq_true.1 last_checkA c (by rw [List.mem_range']; exact ⟨c - 1, by omega, by omega⟩))
theorem lastB {j : Nat} (h1 : 1 ≤ j) (h2 : j ≤ 400) : lastE j (j - 1) = j - 1 :=
  of_decide_eq_true (List.all_eq_true.1 last_checkB j (by rw [List.mem_range']; exact ⟨j - 1, by omega, by omega⟩))
theorem last_keep {j : Nat} (h1 : 1 ≤ j) : ∀ (d : Nat), j + d ≤ 1000 → lastE j (j - 1 + d) = lastE j (j - 1)
  | 0, _ => rfl
  | d + 1, h => by
    have ih := last_keep h1 d (by omega)
    rw [show j - 1 + (d + 1) = (j - 1 + d) + 1 by omega]
    simp only [lastE]
    have := low_ok (n := j - 1 + d + 1) (by omega) (by omega)
    rw [if_neg (by omega), ih]
def partN (l : List Int) (m q : Nat) : Int := sumS l (lastE (q + 1) m) - sumS l (q + 1 - lowN (q + 1)) + l.getD q 0
def partT (l : List Int) (m : Nat) : List Int := (List.range l.length).map (partN l m)
theorem partT_zero (l : List Int) : partT l 0 = l := by
  unfold partT partN
  apply List.ext_getElem?
  intro i
  rw [List.getElem?_map]
  by_cases h : i < l.length
  · rw [List.getElem?_range h]
    simp [lastE, h]
  · rw [List.getElem?_eq_none (by simp; omega), List.getElem?_eq_none (by omega)]
    rfl
theorem partN_done {l : List Int} {q m : Nat} (hq : q < l.length) (hl : l.length ≤ 400) (hm : q ≤ m) (hm2 : m ≤ 500) : partN l m q = nodeS l q := by
  unfold partN nodeS
  have h1 := lastB (j := q + 1) (by omega) (by omega)
  have h2 := last_keep (j := q + 1) (by omega) (m - q) (by omega)
  rw [show q + 1 - 1 + (m - q) = m by omega] at h2
  rw [h2, h1, sumS_succ hq]
  show sumS l (q + 1 - 1) - _ + _ = _
  rw [Nat.add_sub_cancel]
  omega
theorem partT_done {l : List Int} (hl : l.length ≤ 400) : partT l l.length = treeS l := by
  unfold partT treeS
  refine List.map_congr_left (fun q hq => ?_)
  have hq' : q < l.length := by simpa using hq
  exact partN_done hq' hl (by omega) (by omega)
theorem partT_len (l : List Int) (m : Nat) : (partT l m).length = l.length := by simp [partT]
theorem partT_get {l : List Int} {m q : Nat} (h : q < l.length) : (partT l m).getD q 0 = partN l m q := by simp [partT, h]
theorem lastE_le : ∀ (j m : Nat), lastE j m ≤ max m (j - lowN j)
  | j, 0 => by simp [lastE]
  | j, m + 1 => by
    have := lastE_le j m
    simp only [lastE]
    split <;> omega
theorem G38_eq (R : Type) {l : List Int} (h : AllU64 l) (ht : totS l < 9223372036854775808) (hlen : l.length ≤ 200) (x2 : List Int × Unit) (k0 : (List Int × Unit) → List Int → Option R) : ∀ (m i : Nat), i ≤ l.length → l.length - i < m →
    G38_8 m R ((i + 1 : Nat) : Int) x2 (partT l i) k0 = k0 x2 (treeS l)
  | 0, i, _, h => by omega
  | m + 1, i, h1, h2 => by
    simp only [G38_8, p38_8, partT_len]
    by_cases hi : i < l.length
    · have hd : decide (((i + 1 : Nat) : Int) ≤ (l.length : Int)) = true := decide_eq_true (by omega)
      have hlo := low_ok (n := i + 1) (by omega) (by omega)
      simp only [hd]
      rw [F67_eq R (by omega) (by omega), wrap_i64 (n := ((i + 1 : Nat) : Int) + (lowN (i + 1) : Int)) (by omega) (by omega), wrap_i64 (n := ((i + 1 : Nat) : Int) + 1) (by omega) (by omega), show ((i + 1 : Nat) : Int) + 1 = ((i + 1 + 1 : Nat) : Int) by omega]
      have keep : ∀ q, q + 1 ≠ i + 1 + lowN (i + 1) → partN l (i + 1) q = partN l i q := fun q hq => by
        unfold partN
        simp only [lastE]
        rw [if_neg (by omega)]
      by_cases hup : i + 1 + lowN (i + 1) ≤ l.length
      · have hd2 : decide (((i + 1 : Nat) : Int) + (lowN (i + 1) : Int) ≤ (l.length : Int)) = true := decide_eq_true (by omega)
        rw [wrap_i64 (n := ((i + 1 : Nat) : Int) + (lowN (i + 1) : Int) - 1) (by omega) (by omega), wrap_i64 (n := ((i + 1 : Nat) : Int) - 1) (by omega) (by omega), show ((i + 1 : Nat) : Int) + (lowN (i + 1) : Int) - 1 = ((i + lowN (i + 1) : Nat) : Int) by omega, show ((i + 1 : Nat) : Int) - 1 = (i : Int) by omega]
        have hb1 : bnd ((i + lowN (i + 1) : Nat) : Int) (l.length : Int) = true := by unfold bnd; simp; omega
        have hb2 : bnd (i : Int) (l.length : Int) = true := by unfold bnd; simp; omega
        simp only [hd2, hb1, hb2, Int.toNat_natCast]
        rw [partT_get (by omega), partT_get (by omega)]
        have q1 : partN l i i = nodeS l i := partN_done hi (by omega) (Nat.le_refl _) (by omega)
        have qA := lastA (c := i + 1) (by omega) (by omega)
        rw [Nat.add_sub_cancel] at qA
        have q2 : partN l i (i + lowN (i + 1)) + nodeS l i = partN l (i + 1) (i + lowN (i + 1)) := by
          unfold partN nodeS
          rw [show i + lowN (i + 1) + 1 = i + 1 + lowN (i + 1) by omega, qA]
          simp only [lastE, if_true]
          omega
        have q3 : 0 ≤ partN l (i + 1) (i + lowN (i + 1)) ∧ partN l (i + 1) (i + lowN (i + 1)) < 18446744073709551616 := by
          unfold partN
          rw [show i + lowN (i + 1) + 1 = i + 1 + lowN (i + 1) by omega]
          simp only [lastE, if_true]
          have hlo2 := low_ok (n := i + 1 + lowN (i + 1)) (by omega) (by omega)
          have a1 := sumS_tot h (i + 1)
          have a2 := sumS_nonneg h (i + 1 + lowN (i + 1) - lowN (i + 1 + lowN (i + 1)))
          have a3 := getD_all h u64_0 (i + lowN (i + 1))
          have a4 : sumS l (i + 1 + lowN (i + 1) - lowN (i + 1 + lowN (i + 1))) ≤ sumS l (i + 1) := by
            have := lastE_le (i + 1 + lowN (i + 1)) i
            refine sumS_le h ?_
            have hge : ∀ m, i + 1 + lowN (i + 1) - lowN (i + 1 + lowN (i + 1)) ≤ lastE (i + 1 + lowN (i + 1)) m ∨ True := fun _ => .inr trivial
            have hchk : ((List.range' 1 400).all fun c => decide (c + lowN c - lowN (c + lowN c) ≤ c)) = true := by kernel_rfl
            exact of_decide_eq_true (List.all_eq_true.1 hchk (i + 1) (by rw [List.mem_range']; exact ⟨i, by omega, by omega⟩))
          have a5 := sumS_succ (l := l) (i := i + lowN (i + 1)) (by omega)
          have a6 := sumS_tot h (i + lowN (i + 1) + 1)
          have a7 := sumS_le h (a := i + 1) (b := i + lowN (i + 1)) (by omega)
          unfold U64 at a3
          omega
        rw [q1, q2, wrap_u64 (by omega) (by omega)]
        have e : (partT l i).set (i + lowN (i + 1)) (partN l (i + 1) (i + lowN (i + 1))) = partT l (i + 1) := by
          apply List.ext_getElem?
          intro q
          unfold partT
          rw [List.getElem?_set, List.getElem?_map, List.getElem?_map]
          simp only [List.length_map, List.length_range]
          by_cases hq : q < l.length
          · rw [List.getElem?_range hq]
            by_cases eq : i + lowN (i + 1) = q
            · subst eq
              rw [if_pos rfl, if_pos hq]; rfl
            · rw [if_neg eq]
              simp only [Option.map_some]
              rw [keep q (by omega)]
          · rw [List.getElem?_eq_none (by simp; omega), if_neg (by omega)]
            rfl
        rw [e]
        exact G38_eq R h ht hlen x2 k0 m (i + 1) (by omega) (by omega)
      · have hd2 : decide (((i + 1 : Nat) : Int) + (lowN (i + 1) : Int) ≤ (l.length : Int)) = false := decide_eq_false (by omega)
        simp only [hd2]
        have e : partT l i = partT l (i + 1) := by
          unfold partT
          refine List.map_congr_left (fun q hq => ?_)
          have hq' : q < l.length := by simpa using hq
          rw [keep q (by omega)]
        rw [e]
        exact G38_eq R h ht hlen x2 k0 m (i + 1) (by omega) (by omega)
    · have : i = l.length := by omega
      subst this
      have hd : decide (((l.length + 1 : Nat) : Int) ≤ (l.length : Int)) = false := decide_eq_false (by omega)
      simp only [hd]
      rw [partT_done (by omega)]
theorem F79_eq (R : Type) {a b : Int} (ha : 0 ≤ a ∧ a < 9223372036854775808) (hb : U64 b) (k : Int → Bool → Option R) : F79 R a b k = (if a + b < 9223372036854775808 then k (a + b) true else k 0 false) := by
  unfold U64 at hb
  simp only [F79, p79, F98, F82, p82, F101, p101]
  have hd : decide (0 ≤ a ∧ 0 ≤ b ∧ (0 : Int) ≤ 0 ∧ (0 : Int) ≤ 1) = true := decide_eq_true (by omega)
  simp only [hd, Int.add_zero]
  by_cases h1 : a + b < 9223372036854775808
  · have e1 : (a + b) / 18446744073709551616 = 0 := by omega
    have e2 : (a + b) % 18446744073709551616 = a + b := by omega
    rw [if_pos h1, e1, e2]
    have n0 : ((0 : Int) != 0) = false := rfl
    simp only [n0, decide_eq_true h1, Bool.not_true]
  · rw [if_neg h1]
    by_cases h2 : a + b < 18446744073709551616
    · have e1 : (a + b) / 18446744073709551616 = 0 := by omega
      have e2 : (a + b) % 18446744073709551616 = a + b := by omega
      rw [e1, e2]
      have n0 : ((0 : Int) != 0) = false := rfl
      simp only [n0, decide_eq_false h1, Bool.not_false]
    · have e1 : ((a + b) / 18446744073709551616 != 0) = true := by
        have : ¬ (a + b) / 18446744073709551616 = 0 := by omega
        simp [this]
      simp only [e1]
theorem G65_eq (R : Type) {l : List Int} (h : AllU64 l) (hlen : l.length ≤ 1000000) (k0 : Int → Bool → Option R) (k1 : Int → Option R) : ∀ (m i : Nat), i ≤ l.length → l.length - i < m → sumS l i < 9223372036854775808 →
    G65_2 m R (sumS l i) l (l.length : Int) (i : Int) k0 k1 = (if totS l < 9223372036854775808 then k1 (totS l) else k0 0 false)
  | 0, i, _, h, _ => by omega
  | m + 1, i, h1, h2, h3 => by
    simp only [G65_2, p65_2]
    by_cases hi : i < l.length
    · have hd : decide ((i : Int) < (l.length : Int)) = true := by simpa using hi
      have hbn : bnd (i : Int) (l.length : Int) = true := by unfold bnd; simp; omega
      simp only [hd, hbn, Int.toNat_natCast]
      rw [F79_eq R ⟨sumS_nonneg h i, h3⟩ (getD_all h u64_0 i), ← sumS_succ hi]
      by_cases h4 : sumS l (i + 1) < 9223372036854775808
      · rw [if_pos h4]
        simp only [Bool.not_true]
        rw [wrap_i64 (n := (i : Int) + 1) (by omega) (by omega)]
        exact G65_eq R h hlen k0 k1 m (i + 1) (by omega) (by omega) h4
      · rw [if_neg h4, if_neg (by have := sumS_tot h (i + 1); omega)]
        simp only [Bool.not_false]
    · have : i = l.length := by omega
      subst this
      have hd : decide ((l.length : Int) < (l.length : Int)) = false := by simp
      simp only [hd]
      rw [if_pos (show totS l < _ from h3)]
      rfl
theorem F65_eq (R : Type) {l : List Int} (h : AllU64 l) (hlen : l.length ≤ 1000000) (k : Int → Bool → Option R) : F65 R l k = (if totS l < 9223372036854775808 then k (totS l) true else k 0 false) := by
  simp only [F65, p65]
  exact G65_eq R h hlen (fun x2 x3 => k x2 x3) (fun x4 => k x4 true) FUEL 0 (by omega) (by rw [FUEL_eq]; omega) (by rw [sumS_zero]; decide)
end Go.PG
namespace Go.PG
theorem F38_eq' (R : Type) {l : List Int} (h : AllU64 l) (hlen : l.length ≤ 200) (k : (List Int × Unit) → Int → Option R) : F38 R l k = (if totS l < 9223372036854775808 then k (treeS l, ()) 0 else k ([], ()) 11) := by
  simp only [F38, p38]
  have hd : decide ((l.length : Int) > 1048576) = false := decide_eq_false (by omega)
  simp only [hd]
  rw [F65_eq R h (by omega)]
  by_cases ht : totS l < 9223372036854775808
  · rw [if_pos ht, if_pos ht]
    simp only [Bool.not_true, F66]
    have hc : decide (List.length ([] : List Int) + l.length ≤ 17592186044416) = true := by simp; omega
    simp only [hc]
    have := G38_eq R h ht hlen ([], ()) (fun x6 x7 => k (x7, ()) 0) FUEL 0 (by omega) (by rw [FUEL_eq]; omega)
    rw [partT_zero] at this
    exact this
  · rw [if_neg ht, if_neg ht]
    simp only [Bool.not_false]
def ownN (l : List Int) (x : Int) : Nat := ((List.range l.length).find? (fun i => decide (sumS l i ≤ x ∧ x < sumS l (i + 1)))).getD 0
theorem ownN_eq {l : List Int} (h : AllU64 l) {x : Int} {i : Nat} (hi : Owns l x i) : ownN l x = i := by
  unfold ownN
  cases hf : (List.range l.length).find? (fun i => decide (sumS l i ≤ x ∧ x < sumS l (i + 1))) with
  | none =>
    have := List.find?_eq_none.1 hf i (by simpa using hi.1)
    simp only [decide_eq_true_eq] at this
    exact absurd hi.2 this
  | some j =>
    have h1 := List.find?_some hf
    have h2 := List.mem_of_find?_eq_some hf
    simp only [decide_eq_true_eq] at h1
    have hj : Owns l x j := ⟨by simpa using h2, h1⟩
    exact hj.uniq h hi
def leadR (l : List Int) (s : Src) (m : Int) : Int × Src × Int :=
  if totS l < 9223372036854775808 then (if totS l = 0 then (0, s, 10) else if (drawR s (totS l) m).2.2 = 0 then ((ownN l (drawR s (totS l) m).1 : Int), (drawR s (totS l) m).2.1, 0) else (0, (drawR s (totS l) m).2.1, (drawR s (totS l) m).2.2)) else (0, s, 11)
theorem drawF_nonneg {n : Int} : ∀ (m : Nat) (s : Src), 0 ≤ (drawF n m s).1
  | 0, s => Int.le_refl _
  | m + 1, s => by
    simp only [drawF]
    split
    · split
      · rename_i h _
        obtain ⟨_, _, _, g⟩ := takeR_zero h
        rw [g]
        exact (takeV_range s (atS s) _).1
      · exact drawF_nonneg m _
    · exact Int.le_refl _
theorem draw_below {s : Src} {n m : Int} (h : (drawR s n m).2.2 = 0) : 0 ≤ (drawR s n m).1 ∧ (drawR s n m).1 < n := by
  unfold drawR at h ⊢
  split at h
  · rename_i hc
    rw [if_pos hc]
    obtain ⟨j, _, _, h3, _⟩ := drawF_ok _ _ h
    exact ⟨drawF_nonneg _ _, h3⟩
  · simp at h
theorem F47_eq (R : Type) {l : List Int} (h : AllU64 l) (hlen : l.length ≤ 200) (ht : totS l < 9223372036854775808) {s : Src} (hs : SOK s) (m : Int) (k : Int → Src → Int → Option R) : F47 R (treeS l, ()) s m k = k (leadR l s m).1 (leadR l s m).2.1 (leadR l s m).2.2 := by
  simp only [F47, p47]
  rw [F76_eq R h ht (by omega)]
  have hnn := sumS_nonneg h l.length
  unfold leadR
  rw [if_pos ht]
  by_cases h0 : totS l = 0
  · have e : (totS l == 0) = true := by simp [h0]
    rw [if_pos h0]
    simp only [e]
  · have e : (totS l == 0) = false := by simp [h0]
    rw [if_neg h0]
    simp only [e]
    rw [F34_eq R hs (show U64 (totS l) from by unfold U64; exact ⟨hnn, by omega⟩)]
    by_cases he : (drawR s (totS l) m).2.2 = 0
    · have e1 : ((drawR s (totS l) m).2.2 != 0) = false := by simp [he]
      rw [if_pos he]
      simp only [e1]
      obtain ⟨i, hi, g⟩ := F77_own R h ht (by omega) (draw_below he) (fun y7 y8 => k y7 (drawR s (totS l) m).2.1 y8)
      rw [g, ownN_eq h hi]
    · have e1 : ((drawR s (totS l) m).2.2 != 0) = true := by simp [he]
      rw [if_neg he]
      simp only [e1]
end Go.PG
namespace Go.PG
theorem up_ok {c : Nat} (h1 : 1 ≤ c) (h2 : c ≤ 400) : c + lowN c - lowN (c + lowN c) ≤ c - lowN c := by
  have hchk : ((List.range' 1 400).all fun c => decide (c + lowN c - lowN (c + lowN c) ≤ c - lowN c)) = true := by kernel_rfl
  exact of_decide_eq_true (List.all_eq_true.1 hchk c (by rw [List.mem_range']; exact ⟨c - 1, by omega, by omega⟩))
theorem skip_check : ((List.range' 1 200).all fun c => (List.range (lowN c - 1)).all fun d => decide (c ≤ c + d + 1 - lowN (c + d + 1))) = true := by kernel_rfl
theorem skip_ok {c d : Nat} (h1 : 1 ≤ c) (h2 : c ≤ 200) (hd : d + 1 < lowN c) : c ≤ c + d + 1 - lowN (c + d + 1) := by
  have := List.all_eq_true.1 skip_check c (by rw [List.mem_range']; exact ⟨c - 1, by omega, by omega⟩)
  exact of_decide_eq_true (List.all_eq_true.1 this d (by rw [List.mem_range]; omega))
theorem G46_eq (R : Type) {l : List Int} (h : AllU64 l) (ht : totS l < 9223372036854775808) (hlen : l.length ≤ 200) (k0 : List Int → Option R) : ∀ (m i : Nat), i ≤ l.length → i < m →
    G46_3 m R (i : Int) (partT l i) k0 = k0 l
  | 0, i, _, h => by omega
  | m + 1, 0, h1, h2 => by
    simp only [G46_3, p46_3]
    have hd : decide (((0 : Nat) : Int) > 0) = false := by simp
    simp only [hd]
    rw [partT_zero]
  | m + 1, i + 1, h1, h2 => by
    simp only [G46_3, p46_3, partT_len]
    have hd : decide (((i + 1 : Nat) : Int) > 0) = true := decide_eq_true (by omega)
    have hlo := low_ok (n := i + 1) (by omega) (by omega)
    simp only [hd]
    rw [F67_eq R (by omega) (by omega), wrap_i64 (n := ((i + 1 : Nat) : Int) + (lowN (i + 1) : Int)) (by omega) (by omega), wrap_i64 (n := ((i + 1 : Nat) : Int) - 1) (by omega) (by omega), show ((i + 1 : Nat) : Int) - 1 = (i : Int) by omega]
    have keep : ∀ q, q + 1 ≠ i + 1 + lowN (i + 1) → partN l (i + 1) q = partN l i q := fun q hq => by
      unfold partN
      simp only [lastE]
      rw [if_neg (by omega)]
    by_cases hup : i + 1 + lowN (i + 1) ≤ l.length
    · have hd2 : decide (((i + 1 : Nat) : Int) + (lowN (i + 1) : Int) ≤ (l.length : Int)) = true := decide_eq_true (by omega)
      rw [wrap_i64 (n := ((i + 1 : Nat) : Int) + (lowN (i + 1) : Int) - 1) (by omega) (by omega), show ((i + 1 : Nat) : Int) + (lowN (i + 1) : Int) - 1 = ((i + lowN (i + 1) : Nat) : Int) by omega]
      have hb1 : bnd ((i + lowN (i + 1) : Nat) : Int) (l.length : Int) = true := by unfold bnd; simp; omega
      have hb2 : bnd (i : Int) (l.length : Int) = true := by unfold bnd; simp; omega
      simp only [hd2, hb1, hb2, Int.toNat_natCast]
      rw [partT_get (by omega), partT_get (by omega)]
      have q1 : partN l (i + 1) i = nodeS l i := partN_done (by omega) (by omega) (by omega) (by omega)
      have qA := lastA (c := i + 1) (by omega) (by omega)
      rw [Nat.add_sub_cancel] at qA
      have q2 : partN l (i + 1) (i + lowN (i + 1)) - nodeS l i = partN l i (i + lowN (i + 1)) := by
        unfold partN nodeS
        rw [show i + lowN (i + 1) + 1 = i + 1 + lowN (i + 1) by omega, qA]
        simp only [lastE, if_true]
        omega
      have q3 : 0 ≤ partN l i (i + lowN (i + 1)) ∧ partN l i (i + lowN (i + 1)) < 18446744073709551616 := by
        unfold partN
        rw [show i + lowN (i + 1) + 1 = i + 1 + lowN (i + 1) by omega, qA]
        have a1 := sumS_tot h (i + 1 - lowN (i + 1))
        have a2 := sumS_nonneg h (i + 1 + lowN (i + 1) - lowN (i + 1 + lowN (i + 1)))
        have a3 := getD_all h u64_0 (i + lowN (i + 1))
        have a4 : sumS l (i + 1 + lowN (i + 1) - lowN (i + 1 + lowN (i + 1))) ≤ sumS l (i + 1 - lowN (i + 1)) := sumS_le h (up_ok (by omega) (by omega))
        have a5 := sumS_succ (l := l) (i := i + lowN (i + 1)) (by omega)
        have a6 := sumS_tot h (i + lowN (i + 1) + 1)
        have a7 := sumS_le h (a := i + 1 - lowN (i + 1)) (b := i + lowN (i + 1)) (by omega)
        unfold U64 at a3
        omega
      rw [q1, q2, wrap_u64 (by omega) (by omega)]
      have e : (partT l (i + 1)).set (i + lowN (i + 1)) (partN l i (i + lowN (i + 1))) = partT l i := by
        apply List.ext_getElem?
        intro q
        unfold partT
        rw [List.getElem?_set, List.getElem?_map, List.getElem?_map]
        simp only [List.length_map, List.length_range]
        by_cases hq : q < l.length
        · rw [List.getElem?_range hq]
          by_cases eq : i + lowN (i + 1) = q
          · subst eq
            rw [if_pos rfl, if_pos hq]; rfl
          · rw [if_neg eq]
            simp only [Option.map_some]
            rw [keep q (by omega)]
        · rw [List.getElem?_eq_none (by simp; omega), if_neg (by omega)]
          rfl
      rw [e]
      exact G46_eq R h ht hlen k0 m i (by omega) (by omega)
    · have hd2 : decide (((i + 1 : Nat) : Int) + (lowN (i + 1) : Int) ≤ (l.length : Int)) = false := decide_eq_false (by omega)
      simp only [hd2]
      have e : partT l (i + 1) = partT l i := by
        unfold partT
        refine List.map_congr_left (fun q hq => ?_)
        have hq' : q < l.length := by simpa using hq
        rw [keep q (by omega)]
      rw [e]
      exact G46_eq R h ht hlen k0 m i (by omega) (by omega)
theorem F46_eq (R : Type) {l : List Int} (h : AllU64 l) (ht : totS l < 9223372036854775808) (hlen : l.length ≤ 200) (k : List Int → Option R) : F46 R (treeS l, ()) k = k l := by
  simp only [F46, p46, F66]
  have hc : decide (List.length ([] : List Int) + l.length ≤ 17592186044416) = true := by simp; omega
  simp only [treeS_len, hc]
  have := G46_eq R h ht hlen (fun x3 => k x3) FUEL l.length (Nat.le_refl _) (by rw [FUEL_eq]; omega)
  rw [partT_done (by omega)] at this
  exact this
theorem F96_eq (R : Type) {l : List Int} (h : AllU64 l) (ht : totS l < 9223372036854775808) (hlen : l.length ≤ 500) {n : Nat} (hn : n ≤ l.length) (k : Int → Option R) : F96 R (treeS l, ()) (n : Int) k = k (sumS l n) := by
  simp only [F96, p96]
  have := G96_eq R h ht hlen (fun x1 => k x1) n hn FUEL n (Nat.le_refl _) (by rw [FUEL_eq]; omega)
  rw [Int.sub_self] at this
  exact this
theorem F78_eq (R : Type) {l : List Int} (h : AllU64 l) (ht : totS l < 9223372036854775808) (hlen : l.length ≤ 500) {i : Nat} (hi : i < l.length) (k : Int → Int → Option R) : F78 R (treeS l, ()) (i : Int) k = k (l.getD i 0) 0 := by
  simp only [F78, p78, F97, p97, treeS_len]
  have d1 : decide ((i : Int) < 0) = false := decide_eq_false (by omega)
  have d2 : decide ((i : Int) ≥ (l.length : Int)) = false := decide_eq_false (by omega)
  simp only [d1, d2]
  have hs := sumS_succ hi
  have h0 := getD_all h u64_0 i
  unfold U64 at h0
  rw [wrap_i64 (n := (i : Int) + 1) (by omega) (by omega), show (i : Int) + 1 = ((i + 1 : Nat) : Int) by omega, F96_eq R h ht hlen hi, F96_eq R h ht hlen (by omega), show sumS l (i + 1) - sumS l i = l.getD i 0 by omega, wrap_u64 (by omega) (by omega)]
theorem sum_set {l : List Int} {i : Nat} (hi : i < l.length) (v : Int) : ∀ n : Nat, n ≤ l.length → sumS (l.set i v) n = sumS l n + (if i < n then v - l.getD i 0 else 0)
  | 0, _ => by simp [sumS_zero]
  | n + 1, h => by
    have ih := sum_set hi v n (by omega)
    rw [sumS_succ (l := l.set i v) (by rw [List.length_set]; omega), sumS_succ (l := l) (by omega), ih]
    by_cases e : i = n
    · subst e
      have e1 : (l.set i v).getD i 0 = v := by simp [List.getD_eq_getElem?_getD, hi]
      rw [e1, if_neg (by omega), if_pos (by omega)]
      omega
    · have e1 : (l.set i v).getD n 0 = l.getD n 0 := by simp [List.getD_eq_getElem?_getD, List.getElem?_set, e]
      rw [e1]
      by_cases e2 : i < n
      · rw [if_pos e2, if_pos (by omega)]; omega
      · rw [if_neg e2, if_neg (by omega)]; omega
theorem AllU64.set0 {l : List Int} (h : AllU64 l) (i : Nat) : AllU64 (l.set i 0) := fun x hx => by
  rcases List.mem_or_eq_of_mem_set hx with hx | hx
  · exact h x hx
  · rw [hx]; exact u64_0
theorem tot_set {l : List Int} {i : Nat} (hi : i < l.length) : totS (l.set i 0) = totS l - l.getD i 0 := by
  have := sum_set hi 0 l.length (Nat.le_refl _)
  rw [if_pos hi] at this
  have e : totS (l.set i 0) = sumS (l.set i 0) l.length := by unfold totS; rw [List.length_set]
  rw [e, this]
  show _ = sumS l l.length - _
  omega
def setN (l : List Int) (i c q : Nat) : Int := nodeS l q - (if q + 1 < c ∧ q + 1 - lowN (q + 1) ≤ i ∧ i < q + 1 then l.getD i 0 else 0)
def setT (l : List Int) (i c : Nat) : List Int := (List.range l.length).map (setN l i c)
theorem setT_len (l : List Int) (i c : Nat) : (setT l i c).length = l.length := by simp [setT]
theorem setT_get {l : List Int} {i c q : Nat} (h : q < l.length) : (setT l i c).getD q 0 = setN l i c q := by simp [setT, h]
theorem setT_start (l : List Int) (i : Nat) : setT l i (i + 1) = treeS l := by
  unfold setT treeS setN
  refine List.map_congr_left (fun q _ => ?_)
  rw [if_neg (by omega)]; omega
theorem setT_done {l : List Int} {i c : Nat} (hi : i < l.length) (hc : l.length < c) : setT l i c = treeS (l.set i 0) := by
  unfold setT treeS
  rw [List.length_set]
  refine List.map_congr_left (fun q hq => ?_)
  have hq' : q < l.length := by simpa using hq
  unfold setN nodeS
  rw [sum_set hi 0 (q + 1) (by omega), sum_set hi 0 (q + 1 - lowN (q + 1)) (by omega)]
  by_cases c1 : q + 1 - lowN (q + 1) ≤ i ∧ i < q + 1
  · rw [if_pos ⟨by omega, c1⟩, if_pos c1.2, if_neg (by omega)]; omega
  · rw [if_neg (fun hh => c1 hh.2)]
    by_cases c2 : i < q + 1
    · rw [if_pos c2, if_pos (by omega)]; omega
    · rw [if_neg c2, if_neg (by omega)]; omega
theorem G48_eq (R : Type) {l : List Int} (h : AllU64 l) (ht : totS l < 9223372036854775808) (hlen : l.length ≤ 200) {i : Nat} (hi : i < l.length) (x4 : List Int × Unit) (k0 : (List Int × Unit) → List Int → Option R) : ∀ (m c : Nat), 1 ≤ c → i < c → c - lowN c ≤ i → c ≤ 400 → 401 - c < m →
    G48_9 m R 0 (l.getD i 0) (c : Int) x4 (setT l i c) k0 = k0 x4 (treeS (l.set i 0))
  | 0, _, _, _, _, _, hh => by omega
  | m + 1, c, h1, h2, h3, h4, h5 => by
    simp only [G48_9, p48_9, setT_len]
    by_cases hc : c ≤ l.length
    · have hd : decide ((c : Int) ≤ (l.length : Int)) = true := decide_eq_true (by omega)
      simp only [hd]
      have hlo := low_ok (n := c) h1 (by omega)
      rw [wrap_i64 (n := (c : Int) - 1) (by omega) (by omega), show (c : Int) - 1 = ((c - 1 : Nat) : Int) by omega]
      have hb2 : bnd ((c - 1 : Nat) : Int) (l.length : Int) = true := by unfold bnd; simp; omega
      simp only [hb2, Int.toNat_natCast]
      rw [setT_get (by omega)]
      have v : setN l i c (c - 1) = nodeS l (c - 1) := by
        unfold setN
        rw [if_neg (by omega)]; omega
      rw [v]
      have hn := node_range h ht (c - 1)
      have h0 := (getD_all h u64_0 i).1
      have hge : l.getD i 0 ≤ nodeS l (c - 1) := by
        unfold nodeS
        rw [show c - 1 + 1 = c by omega]
        have a1 := sumS_le h h3
        have a2 := sumS_succ hi
        have a3 := sumS_le h (show i + 1 ≤ c by omega)
        omega
      rw [wrap_u64 (n := nodeS l (c - 1) - l.getD i 0) (by omega) (by omega), Int.add_zero, wrap_u64 (n := nodeS l (c - 1) - l.getD i 0) (by omega) (by omega), F67_eq R h1 (by omega), wrap_i64 (n := (c : Int) + (lowN c : Int)) (by omega) (by omega), show (c : Int) + (lowN c : Int) = ((c + lowN c : Nat) : Int) by omega]
      have e : (setT l i c).set (c - 1) (nodeS l (c - 1) - l.getD i 0) = setT l i (c + lowN c) := by
        apply List.ext_getElem?
        intro q
        unfold setT
        rw [List.getElem?_set, List.getElem?_map, List.getElem?_map]
        simp only [List.length_map, List.length_range]
        by_cases hq : q < l.length
        · rw [List.getElem?_range hq]
          by_cases eq : c - 1 = q
          · subst eq
            rw [if_pos rfl, if_pos hq]
            simp only [Option.map_some]
            unfold setN
            rw [show c - 1 + 1 = c by omega, if_pos (by omega)]
          · rw [if_neg eq]
            simp only [Option.map_some]
            unfold setN
            congr 2
            by_cases q1 : q + 1 < c
            · have a : q + 1 < c + lowN c := by omega
              simp [q1, a]
            · have n1 : ¬ (q + 1 < c ∧ q + 1 - lowN (q + 1) ≤ i ∧ i < q + 1) := fun hh => q1 hh.1
              rw [if_neg n1]
              by_cases q2 : q + 1 < c + lowN c
              · have hsk := skip_ok (c := c) (d := q - c) h1 (by omega) (by omega)
                rw [show c + (q - c) + 1 = q + 1 by omega] at hsk
                rw [if_neg (by omega)]
              · rw [if_neg (fun hh => q2 hh.1)]
        · rw [List.getElem?_eq_none (by simp; omega), if_neg (by omega)]
          rfl
      rw [e]
      have hup := up_ok (c := c) h1 (by omega)
      exact G48_eq R h ht hlen hi x4 k0 m (c + lowN c) (by omega) (by omega) (by omega) (by omega) (by omega)
    · have hd : decide ((c : Int) ≤ (l.length : Int)) = false := decide_eq_false (by omega)
      simp only [hd]
      rw [setT_done hi (by omega)]
theorem F48_eq (R : Type) {l : List Int} (h : AllU64 l) (ht : totS l < 9223372036854775808) (hlen : l.length ≤ 200) {i : Nat} (hi : i < l.length) (k : (List Int × Unit) → Int → Option R) : F48 R (treeS l, ()) (i : Int) 0 k = k (treeS (l.set i 0), ()) 0 := by
  simp only [F48, p48, F66]
  rw [F78_eq R h ht (by omega) hi]
  have n0 : ((0 : Int) != 0) = false := rfl
  simp only [n0]
  rw [F76_eq R h ht (by omega)]
  have h0 := (getD_all h u64_0 i).1
  have hs := sumS_succ hi
  have ha := sumS_tot h (i + 1)
  have hz := sumS_nonneg h i
  rw [wrap_u64 (n := totS l - l.getD i 0) (by omega) (by omega), F79_eq R (by omega) u64_0, if_pos (by omega)]
  simp only [Bool.not_true]
  have hc : decide (List.length ([] : List Int) + (treeS l).length ≤ 17592186044416) = true := by rw [treeS_len]; simp; omega
  simp only [hc]
  rw [wrap_i64 (n := (i : Int) + 1) (by omega) (by omega), show (i : Int) + 1 = ((i + 1 : Nat) : Int) by omega]
  have hlo := low_ok (n := i + 1) (by omega) (by omega)
  have := G48_eq R h ht hlen hi ([], ()) (fun x10 x11 => k (x11, ()) 0) FUEL (i + 1) (by omega) (by omega) (by omega) (by omega) (by rw [FUEL_eq]; omega)
  rw [setT_start] at this
  exact this
end Go.PG
namespace Go.PG
def posN (l : List Int) (i : Nat) : Nat := ((l.take i).filter fun x => decide (x > 0)).length
def posS (l : List Int) : Int := (posN l l.length : Int)
theorem posN_succ {l : List Int} {i : Nat} (h : i < l.length) : posN l (i + 1) = posN l i + (if l.getD i 0 > 0 then 1 else 0) := by
  unfold posN
  rw [List.take_succ_eq_append_getElem h, List.filter_append, List.length_append]
  have : l.getD i 0 = l[i] := by simp [h]
  rw [this]
  by_cases e : l[i] > 0
  · rw [if_pos e]; simp [List.filter, e]
  · rw [if_neg e]; simp [List.filter, e]
theorem posN_le (l : List Int) (i : Nat) : posN l i ≤ l.length := by
  unfold posN
  have := List.length_filter_le (fun x => decide (x > 0)) (l.take i)
  have : (l.take i).length ≤ l.length := by simp; omega
  omega
theorem G45_eq' (R : Type) {l : List Int} (hlen : l.length ≤ 1000000) (k0 : Int → Option R) : ∀ (m i : Nat), i ≤ l.length → l.length - i < m →
    G45_2 m R (posN l i : Int) l (l.length : Int) (i : Int) k0 = k0 (posS l)
  | 0, i, _, h => by omega
  | m + 1, i, h1, h2 => by
    simp only [G45_2, p45_2]
    by_cases hi : i < l.length
    · have hd : decide ((i : Int) < (l.length : Int)) = true := decide_eq_true (by omega)
      have hbn : bnd (i : Int) (l.length : Int) = true := by unfold bnd; simp; omega
      simp only [hd, hbn, Int.toNat_natCast]
      have hs := posN_succ hi
      have hle := posN_le l i
      have e : (i : Int) + 1 = ((i + 1 : Nat) : Int) := by omega
      by_cases hp : l.getD i 0 > 0
      · simp only [decide_eq_true hp]
        rw [if_pos hp] at hs
        rw [wrap_i64 (n := (posN l i : Int) + 1) (by omega) (by omega), wrap_i64 (n := (i : Int) + 1) (by omega) (by omega), e, show (posN l i : Int) + 1 = ((posN l (i + 1) : Nat) : Int) by omega]
        exact G45_eq' R hlen k0 m (i + 1) (by omega) (by omega)
      · simp only [decide_eq_false hp]
        rw [if_neg hp] at hs
        rw [wrap_i64 (n := (i : Int) + 1) (by omega) (by omega), e, show posN l i = posN l (i + 1) by omega]
        exact G45_eq' R hlen k0 m (i + 1) (by omega) (by omega)
    · have : i = l.length := by omega
      subst this
      have hd : decide ((l.length : Int) < (l.length : Int)) = false := by simp
      simp only [hd]
      rfl
theorem F45_eq' (R : Type) {l : List Int} (hlen : l.length ≤ 1000000) (k : Int → Option R) : F45 R l k = k (posS l) := by
  simp only [F45, p45]
  exact G45_eq' R hlen (fun x1 => k x1) FUEL 0 (by omega) (by rw [FUEL_eq]; omega)
theorem own_some {l : List Int} (h : AllU64 l) (hlen : l.length ≤ 200) (ht : totS l < 9223372036854775808) {x : Int} (hx : 0 ≤ x ∧ x < totS l) : ∃ i, Owns l x i ∧ ownN l x = i := by
  obtain ⟨i, hi, _⟩ := F77_own Unit h ht (by omega) hx (fun _ _ => none)
  exact ⟨i, hi, ownN_eq h hi⟩
theorem draw_src {s : Src} (hs : SOK s) {n m : Int} (h : (drawR s n m).2.2 = 0) : SOK (drawR s n m).2.1 ∧ atS s ≤ atS (drawR s n m).2.1 ∧ ∃ a, (drawR s n m).2.1 = setAt s a := by
  unfold drawR at h ⊢
  split at h
  · rename_i hc
    rw [if_pos hc]
    obtain ⟨j, _, _, _, j4, j5, _⟩ := drawF_ok _ _ h
    rw [j4]
    obtain ⟨_, _, l3⟩ := left_ok hs
    have l4 := l3 hc.1
    have hb := hs.bits
    have h5 : (0 : Int) ≤ (needS n : Int) * j := Int.mul_nonneg (by omega) (by omega)
    have h0 := hs.at_
    have hend : endS s < 18446744073709551616 := by
      rcases right_spec hc.1 with ⟨_, _, _, r⟩ | ⟨_, _, r⟩
      · rw [r]; unfold U64 at hb; exact hb.2
      · rw [r]; omega
    change U64 (atS s) at h0
    change atS s + leftS s = endS s at l4
    unfold U64 at h0
    exact ⟨hs.set (by unfold U64; omega), by rw [atS_set]; omega, _, rfl⟩
  · simp at h
theorem lead_ok {l : List Int} (h : AllU64 l) (hlen : l.length ≤ 200) {s : Src} (hs : SOK s) {m : Int} (he : (leadR l s m).2.2 = 0) : totS l < 9223372036854775808 ∧ totS l ≠ 0 ∧ (drawR s (totS l) m).2.2 = 0 ∧
    ∃ i : Nat, i < l.length ∧ 0 < l.getD i 0 ∧ (leadR l s m).1 = (i : Int) ∧ ownN l (drawR s (totS l) m).1 = i ∧ (leadR l s m).2.1 = (drawR s (totS l) m).2.1 ∧ SOK (leadR l s m).2.1 ∧ atS s ≤ atS (leadR l s m).2.1 := by
  unfold leadR at he ⊢
  by_cases ht : totS l < 9223372036854775808
  · rw [if_pos ht] at he ⊢
    by_cases h0 : totS l = 0
    · rw [if_pos h0] at he; exact absurd he (by show ¬ ((10 : Int) = 0); decide)
    · rw [if_neg h0] at he ⊢
      by_cases hd : (drawR s (totS l) m).2.2 = 0
      · rw [if_pos hd] at he ⊢
        obtain ⟨i, hi, e⟩ := own_some h hlen ht (draw_below hd)
        have h1 := sumS_succ hi.1
        have h2 := hi.2
        obtain ⟨s1, s2, _⟩ := draw_src hs hd
        exact ⟨ht, h0, hd, i, hi.1, by omega, by rw [e], e, rfl, s1, s2⟩
      · rw [if_neg hd] at he; exact absurd he hd
  · rw [if_neg ht] at he; exact absurd he (by show ¬ ((11 : Int) = 0); decide)
noncomputable def comF (m : Int) : Nat → List Int → Src → List Int → List Int × Src × Int
  | 0, _, s, mem => (mem, s, 0)
  | n + 1, l, s, mem => if (leadR l s m).2.2 = 0 then comF m n (l.set (leadR l s m).1.toNat 0) (leadR l s m).2.1 (mem ++ [(leadR l s m).1]) else ([], (leadR l s m).2.1, (leadR l s m).2.2)
theorem tot_drop {l : List Int} (h : AllU64 l) {i : Nat} (hi : i < l.length) : totS (l.set i 0) ≤ totS l := by
  rw [tot_set hi]
  have := (getD_all h u64_0 i).1
  omega
theorem G22_eq (R : Type) {c m : Int} (x6 : Src) (k0 : Int → Src → Option R) (k1 : Src → List Int → Src → Option R) (K : List Int → Src → Int → Option R) (h0 : ∀ e s, k0 e s = K [] s e) (h1 : ∀ s l, k1 s l x6 = K l s 0) :
    ∀ (n f : Nat) (l : List Int) (s : Src) (mem : List Int), AllU64 l → totS l < 9223372036854775808 → l.length ≤ 200 → SOK s → (mem.length : Int) + n = c → c ≤ 1000 → n < f → G22_5 f R c m (treeS l, ()) s mem x6 k0 k1 = K (comF m n l s mem).1 (comF m n l s mem).2.1 (comF m n l s mem).2.2
  | _, 0, _, _, _, _, _, _, _, _, _, hf => by omega
  | 0, f + 1, l, s, mem, h, ht, hl, hs, hc, hc1, hf => by
    simp only [G22_5, p22_5]
    have hd : decide ((mem.length : Int) < c) = false := decide_eq_false (by omega)
    simp only [hd]
    rw [h1]
    rfl
  | n + 1, f + 1, l, s, mem, h, ht, hl, hs, hc, hc1, hf => by
    simp only [G22_5, p22_5]
    have hd : decide ((mem.length : Int) < c) = true := decide_eq_true (by omega)
    simp only [hd]
    rw [F47_eq R h hl ht hs]
    by_cases he : (leadR l s m).2.2 = 0
    · obtain ⟨_, _, _, i, i1, _, i3, _, _, i6, _⟩ := lead_ok h hl hs he
      have e1 : ((leadR l s m).2.2 != 0) = false := by simp [he]
      have hcap : ∀ y : Int, decide (mem.length + List.length [y] ≤ 17592186044416) = true := fun y => by simp; omega
      simp only [e1, hcap]
      simp only [comF]
      rw [if_pos he, i3, F48_eq R h ht hl i1, Int.toNat_natCast]
      have n0 : ((0 : Int) != 0) = false := rfl
      simp only [n0]
      have hd := tot_drop h i1
      exact G22_eq R x6 k0 k1 K h0 h1 n f (l.set i 0) (leadR l s m).2.1 (mem ++ [(i : Int)]) (h.set0 i) (by omega) (by simpa using hl) i6 (by simp; omega) hc1 (by omega)
    · have e1 : ((leadR l s m).2.2 != 0) = true := by simp [he]
      simp only [e1, comF]
      rw [if_neg he, h0]
noncomputable def comR (l : List Int) (c : Int) (s : Src) (m : Int) : List Int × Src × Int :=
  if 0 ≤ c ∧ c ≤ 256 ∧ rightS' s = true ∧ 0 < m ∧ m ≤ 64 then (if posS l < c then ([], s, 12) else comF m c.toNat l s []) else ([], s, 1)
theorem F44_eq (R : Type) {c m : Int} {s : Src} (hs : SOK s) (k : Bool → Option R) : F44 R c s m k = k (decide (0 ≤ c ∧ c ≤ 256 ∧ rightS' s = true ∧ 0 < m ∧ m ≤ 64)) := by
  simp only [F44, p44]
  rw [F75_eq R hs]
  by_cases h1 : c ≥ 0
  · simp only [decide_eq_true h1]
    by_cases h2 : c ≤ 256
    · simp only [decide_eq_true h2]
      cases h3 : rightS' s with
      | true =>
        by_cases h4 : m > 0
        · simp only [decide_eq_true h4]
          by_cases h5 : m ≤ 64
          · simp [h1, h2, h4, h5]
          · simp [h5]
        · have h4' : ¬ (0 < m) := h4
          simp [h4']
      | false => simp
    · simp [h2]
  · have h1' : ¬ (0 ≤ c) := h1
    simp [h1']
theorem F22_eq (R : Type) {l : List Int} (h : AllU64 l) (ht : totS l < 9223372036854775808) (hl : l.length ≤ 200) {s : Src} (hs : SOK s) (c m : Int) (k : List Int → Src → Int → Option R) : F22 R (treeS l, ()) c s m k = k (comR l c s m).1 (comR l c s m).2.1 (comR l c s m).2.2 := by
  simp only [F22, p22]
  rw [F44_eq R hs]
  unfold comR
  by_cases hm : 0 ≤ c ∧ c ≤ 256 ∧ rightS' s = true ∧ 0 < m ∧ m ≤ 64
  · rw [if_pos hm]
    simp only [decide_eq_true hm, Bool.not_true]
    rw [F46_eq R h ht hl, F45_eq' R (by omega)]
    by_cases hp : posS l < c
    · simp only [decide_eq_true hp, if_pos hp]
    · simp only [decide_eq_false hp, if_neg hp]
      exact G22_eq R _ _ _ k (fun e s => rfl) (fun s l => rfl) c.toNat FUEL l s [] h ht hl hs (by simp; omega) (by omega) (by rw [FUEL_eq]; omega)
  · rw [if_neg hm]
    simp only [decide_eq_false hm, Bool.not_false]
noncomputable def comL (l : List Int) (c : Int) (s : Src) (m : Int) : List Int × Src × Int := if totS l < 9223372036854775808 then comR l c s m else ([], s, 11)
theorem F18_eq (R : Type) {l : List Int} (h : AllU64 l) (hl : l.length ≤ 200) {s : Src} (hs : SOK s) (c m : Int) (k : List Int → Src → Int → Option R) : F18 R c s m l k = k (comL l c s m).1 (comL l c s m).2.1 (comL l c s m).2.2 := by
  simp only [F18, p18]
  rw [F38_eq' R h hl]
  unfold comL
  by_cases ht : totS l < 9223372036854775808
  · rw [if_pos ht, if_pos ht]
    have n0 : ((0 : Int) != 0) = false := rfl
    simp only [n0]
    rw [F22_eq R h ht hl hs]
  · rw [if_neg ht, if_neg ht]
    rfl
end Go.PG
namespace Go.PG
end Go.PG
namespace Go.PG
end Go.PG
namespace Go.PG
theorem and32 {x : Int} (hx : U64 x) : iand .u64 x 4294967295 = x % 4294967296 := by
  have := iand_mask hx 32 (by omega)
  simpa using this
theorem shr32 (x : Int) : ishr .u64 x 32 = x / 4294967296 := by
  unfold ishr
  rw [show (2 : Int) ^ (min (32 : Int).toNat IntKind.u64.bits) = 4294967296 by decide, Int.fdiv_eq_ediv_of_nonneg _ (by omega)]
theorem prod32 {a b : Int} (ha : 0 ≤ a ∧ a < 4294967296) (hb : 0 ≤ b ∧ b < 4294967296) : 0 ≤ a * b ∧ a * b ≤ 18446744065119617025 := by
  refine ⟨Int.mul_nonneg ha.1 hb.1, ?_⟩
  have : a * b ≤ 4294967295 * 4294967295 := Int.mul_le_mul (by omega) (by omega) hb.1 (by omega)
  omega
theorem F81_eq (R : Type) {a b : Int} (ha : U64 a) (hb : U64 b) (k : Int → Int → Option R) : F81 R a b k = k (a * b / 18446744073709551616) (IntKind.u64.wrap (a * b)) := by
  simp only [F81, p81]
  simp only [shr32]
  rw [and32 ha, and32 hb]
  unfold U64 at ha hb
  have hx0 : 0 ≤ a % 4294967296 ∧ a % 4294967296 < 4294967296 := by omega
  have hx1 : 0 ≤ a / 4294967296 ∧ a / 4294967296 < 4294967296 := by omega
  have hy0 : 0 ≤ b % 4294967296 ∧ b % 4294967296 < 4294967296 := by omega
  have hy1 : 0 ≤ b / 4294967296 ∧ b / 4294967296 < 4294967296 := by omega
  have h00 := prod32 hx0 hy0
  have h10 := prod32 hx1 hy0
  have h01 := prod32 hx0 hy1
  have h11 := prod32 hx1 hy1
  have hab : a * b = (a / 4294967296) * (b / 4294967296) * 18446744073709551616 + ((a / 4294967296) * (b % 4294967296) + (a % 4294967296) * (b / 4294967296)) * 4294967296 + (a % 4294967296) * (b % 4294967296) := by
    have e1 : a = a % 4294967296 + 4294967296 * (a / 4294967296) := (Int.emod_add_mul_ediv a 4294967296).symm
    have e2 : b = b % 4294967296 + 4294967296 * (b / 4294967296) := (Int.emod_add_mul_ediv b 4294967296).symm
    generalize a % 4294967296 = x0 at *
    generalize a / 4294967296 = x1 at *
    generalize b % 4294967296 = y0 at *
    generalize b / 4294967296 = y1 at *
    subst e1 e2
    rw [Int.mul_add, Int.add_mul, Int.add_mul, Int.mul_assoc 4294967296 x1 y0, Int.mul_left_comm x0 4294967296 y1, Int.mul_assoc 4294967296 x1, Int.mul_left_comm x1 4294967296 y1]
    omega
  generalize (a % 4294967296) * (b % 4294967296) = p00 at *
  generalize (a / 4294967296) * (b % 4294967296) = p10 at *
  generalize (a % 4294967296) * (b / 4294967296) = p01 at *
  generalize (a / 4294967296) * (b / 4294967296) = p11 at *
  rw [wrap_u64 (n := p00) (by omega) (by omega), wrap_u64 (n := p10) (by omega) (by omega), wrap_u64 (n := p01) (by omega) (by omega), wrap_u64 (n := p11) (by omega) (by omega)]
  rw [wrap_u64 (n := p10 + p00 / 4294967296) (by omega) (by omega), and32 (by unfold U64; omega)]
  rw [wrap_u64 (n := (p10 + p00 / 4294967296) % 4294967296 + p01) (by omega) (by omega)]
  rw [wrap_u64 (n := p11 + (p10 + p00 / 4294967296) / 4294967296) (by omega) (by omega)]
  rw [wrap_u64 (n := p11 + (p10 + p00 / 4294967296) / 4294967296 + ((p10 + p00 / 4294967296) % 4294967296 + p01) / 4294967296) (by omega) (by omega)]
  congr 1
  rw [hab]
  omega
theorem F55_eq (R : Type) {a b : Int} (ha : U64 a) (hb : U64 b) (k : Int → Bool → Option R) : F55 R a b k = (if a * b < 9223372036854775808 then k (a * b) true else k 0 false) := by
  simp only [F55, p55]
  rw [F81_eq R ha hb]
  simp only [F82, p82, F101, p101]
  have h0 : 0 ≤ a * b := Int.mul_nonneg ha.1 hb.1
  generalize a * b = p at *
  by_cases h1 : p < 9223372036854775808
  · have e1 : p / 18446744073709551616 = 0 := by omega
    have n0 : ((0 : Int) != 0) = false := rfl
    rw [if_pos h1, e1, wrap_u64 (by omega) (by omega)]
    simp only [n0, decide_eq_true h1, Bool.not_true]
  · rw [if_neg h1]
    by_cases h2 : p < 18446744073709551616
    · have e1 : p / 18446744073709551616 = 0 := by omega
      have n0 : ((0 : Int) != 0) = false := rfl
      rw [e1, wrap_u64 (by omega) (by omega)]
      simp only [n0, decide_eq_false h1, Bool.not_false]
    · have e1 : (p / 18446744073709551616 != 0) = true := by
        have : ¬ p / 18446744073709551616 = 0 := by omega
        simp [this]
      simp only [e1]
abbrev CellA := Int × (Int × Unit)
abbrev TabA := Int × (List CellA × Unit)
def badC (t : TabA) (c : CellA) : Bool := decide (c.1 > t.1) || (decide (c.2.1 < 0) || decide (c.2.1 ≥ (t.2.1.length : Int)))
def rightT (t : TabA) : Bool := decide ((t.2.1.length : Int) * t.1 < 9223372036854775808) && (!((t.2.1.length : Int) == 0) && (!(t.1 == 0) && !(t.2.1.any (badC t))))
theorem F57_eq (R : Type) (c : CellA) (t : TabA) (k : Bool → TabA → Option R) : F57 R c t k = k (badC t c) t := by
  simp only [F57, p57, badC]
  cases decide (c.1 > t.1) with
  | true => rfl
  | false =>
    cases decide (c.2.1 < 0) with
    | true => rfl
    | false => rfl
theorem G84057_eq (R : Type) (t : TabA) (l : List CellA) (hlen : l.length ≤ 1000000) (k0 : Int → TabA → Option R) (k1 : TabA → Option R) (K : Bool → TabA → Option R) (h0 : ∀ i : Int, 0 ≤ i → k0 i t = K true t) (h1 : k1 t = K false t) :
    ∀ (m i : Nat), i ≤ l.length → l.length - i < m → G84057_2 m R l (l.length : Int) (i : Int) t k0 k1 = K ((l.drop i).any (badC t)) t
  | 0, i, _, h => by omega
  | m + 1, i, h2, h3 => by
    simp only [G84057_2, p84057_2]
    by_cases hi : i < l.length
    · have hd : decide ((i : Int) < (l.length : Int)) = true := by simpa using hi
      have hbn : bnd (i : Int) (l.length : Int) = true := by unfold bnd; simp; omega
      simp only [hd, hbn, Int.toNat_natCast]
      rw [F57_eq, List.drop_eq_getElem_cons hi, List.any_cons]
      have hg : l.getD i ((0 : Int), (0 : Int), ()) = l[i] := by simp [hi]
      rw [hg]
      cases hb : badC t l[i] with
      | true => simpa using h0 (i : Int) (by omega)
      | false =>
        simp only [Bool.false_or]
        rw [wrap_i64 (n := (i : Int) + 1) (by omega) (by omega)]
        exact G84057_eq R t l hlen k0 k1 K h0 h1 m (i + 1) (by omega) (by omega)
    · have : i = l.length := by omega
      subst this
      have hd : decide ((l.length : Int) < (l.length : Int)) = false := by simp
      simp only [hd]
      rw [h1, List.drop_length]
      rfl
theorem F33_eq (R : Type) {t : TabA} (ht : U64 t.1) (hlen : t.2.1.length ≤ 1000) (k : Bool → Option R) : F33 R t k = k (rightT t) := by
  simp only [F33, p33]
  rw [wrap_u64 (n := (t.2.1.length : Int)) (by omega) (by omega), F55_eq R (by unfold U64; omega) ht]
  unfold rightT
  by_cases h1 : (t.2.1.length : Int) * t.1 < 9223372036854775808
  · rw [if_pos h1]
    simp only [decide_eq_true h1, Bool.not_true, Bool.true_and]
    cases e1 : ((t.2.1.length : Int) == 0) with
    | true => rfl
    | false =>
      cases e2 : (t.1 == 0) with
      | true => rfl
      | false =>
        simp only [Bool.not_false, Bool.true_and, F57057, p57057, F84057, p84057]
        have := G84057_eq R t t.2.1 (by omega) (fun x2 x3 => k !decide (x2 ≥ 0)) (fun x4 => k !decide ((-1 : Int) ≥ 0)) (fun b _ => k !b) (fun i hi => by simp [hi]) (by rfl) FUEL 0 (by omega) (by rw [FUEL_eq]; omega)
        simpa using this
  · rw [if_neg h1]
    simp only [decide_eq_false h1, Bool.not_false, Bool.false_and]
theorem right_T {t : TabA} (h : rightT t = true) : (t.2.1.length : Int) * t.1 < 9223372036854775808 ∧ t.2.1.length ≠ 0 ∧ t.1 ≠ 0 ∧ ∀ c ∈ t.2.1, c.1 ≤ t.1 ∧ 0 ≤ c.2.1 ∧ c.2.1 < (t.2.1.length : Int) := by
  simp only [rightT, Bool.and_eq_true, Bool.not_eq_true', decide_eq_true_eq] at h
  obtain ⟨h1, h2, h3, h4⟩ := h
  refine ⟨h1, fun e => by simp [e] at h2, fun e => by simp [e] at h3, fun c hc => ?_⟩
  have := List.any_eq_false.1 h4 c hc
  simp only [badC, Bool.not_eq_true, Bool.or_eq_false_iff, decide_eq_false_iff_not] at this
  omega
theorem F35_eq (R : Type) {t : TabA} (ht : U64 t.1) (hlen : t.2.1.length ≤ 1000) (k : Int → Option R) : F35 R t k = k (if rightT t = true then (t.2.1.length : Int) * t.1 else 0) := by
  simp only [F35, p35]
  rw [F33_eq R ht hlen]
  cases h : rightT t with
  | false => rfl
  | true =>
    obtain ⟨h1, h2, h3, h4⟩ := right_T h
    have h0 : 0 ≤ (t.2.1.length : Int) * t.1 := Int.mul_nonneg (by omega) ht.1
    simp only [Bool.not_true, if_true]
    rw [wrap_u64 (n := (t.2.1.length : Int)) (by omega) (by omega), wrap_u64 h0 (by omega)]
def ownT (t : TabA) (u : Int) : Int := if u % t.1 < (t.2.1.getD (u / t.1).toNat (0, 0, ())).1 then u / t.1 else (t.2.1.getD (u / t.1).toNat (0, 0, ())).2.1
theorem col_T {t : TabA} (ht : U64 t.1) (h : rightT t = true) {u : Int} (hu : 0 ≤ u ∧ u < (t.2.1.length : Int) * t.1) : 0 ≤ u / t.1 ∧ u / t.1 < (t.2.1.length : Int) ∧ 0 ≤ u % t.1 ∧ u % t.1 < t.1 := by
  obtain ⟨h1, h2, h3, h4⟩ := right_T h
  have hp : 0 < t.1 := by have := ht.1; omega
  exact ⟨Int.ediv_nonneg hu.1 (by omega), Int.ediv_lt_of_lt_mul hp hu.2, Int.emod_nonneg _ h3, Int.emod_lt_of_pos _ hp⟩
theorem F36_eq (R : Type) {t : TabA} (ht : U64 t.1) (hlen : t.2.1.length ≤ 1000) (h : rightT t = true) {u : Int} (hu : 0 ≤ u ∧ u < (t.2.1.length : Int) * t.1) (k : Int → Int → Option R) : F36 R t u k = k (ownT t u) 0 := by
  simp only [F36, p36]
  rw [F33_eq R ht hlen]
  simp only [h, Bool.not_true]
  rw [F35_eq R ht hlen]
  obtain ⟨h1, h2, h3, h4⟩ := right_T h
  obtain ⟨c1, c2, c3, c4⟩ := col_T ht h hu
  have e0 : (t.1 == 0) = false := by simp [h3]
  have ed : decide (u ≥ (t.2.1.length : Int) * t.1) = false := decide_eq_false (by omega)
  simp only [h, if_true, ed, e0, Bool.not_false]
  rw [Int.tdiv_eq_ediv_of_nonneg hu.1, Int.tmod_eq_emod_of_nonneg hu.1, wrap_u64 (n := u / t.1) c1 (by omega), wrap_i64 (n := u / t.1) (by omega) (by omega)]
  simp only [F61, p61, F87, p87]
  rw [F33_eq R ht hlen]
  have d1 : decide (u / t.1 < 0) = false := decide_eq_false (by omega)
  have d2 : decide (u / t.1 ≥ (t.2.1.length : Int)) = false := decide_eq_false (by omega)
  have d3 : decide (u % t.1 ≥ t.1) = false := decide_eq_false (by omega)
  have d4 : bnd (u / t.1) (t.2.1.length : Int) = true := by unfold bnd; simp; omega
  have n0 : ((0 : Int) != 0) = false := rfl
  simp only [h, Bool.not_true, d1, d2, n0, d3, d4]
  unfold ownT
  by_cases hc : u % t.1 < (t.2.1.getD (u / t.1).toNat (0, 0, ())).1
  · rw [if_pos hc]
    simp only [decide_eq_false (show ¬ (u % t.1 ≥ (t.2.1.getD (u / t.1).toNat (0, 0, ())).1) by omega)]
  · rw [if_neg hc]
    simp only [decide_eq_true (show (u % t.1 ≥ (t.2.1.getD (u / t.1).toNat (0, 0, ())).1) by omega)]
def pickR (t : TabA) (s : Src) (m : Int) : Int × Src × Int :=
  if rightT t = true then (if (drawR s ((t.2.1.length : Int) * t.1) m).2.2 = 0 then (ownT t (drawR s ((t.2.1.length : Int) * t.1) m).1, (drawR s ((t.2.1.length : Int) * t.1) m).2.1, 0)
    else (0, (drawR s ((t.2.1.length : Int) * t.1) m).2.1, (drawR s ((t.2.1.length : Int) * t.1) m).2.2)) else (0, s, 1)
theorem F14_eq (R : Type) {t : TabA} (ht : U64 t.1) (hlen : t.2.1.length ≤ 1000) {s : Src} (hs : SOK s) (m : Int) (k : Int → Src → Int → Option R) : F14 R t s m k = k (pickR t s m).1 (pickR t s m).2.1 (pickR t s m).2.2 := by
  simp only [F14, p14]
  rw [F33_eq R ht hlen]
  unfold pickR
  cases h : rightT t with
  | false => rfl
  | true =>
    obtain ⟨h1, h2, h3, h4⟩ := right_T h
    have h0 : 0 ≤ (t.2.1.length : Int) * t.1 := Int.mul_nonneg (by omega) ht.1
    simp only [Bool.not_true, if_true]
    rw [F35_eq R ht hlen]
    simp only [h, if_true]
    rw [F34_eq R hs (show U64 ((t.2.1.length : Int) * t.1) from by unfold U64; omega)]
    by_cases he : (drawR s ((t.2.1.length : Int) * t.1) m).2.2 = 0
    · have e1 : ((drawR s ((t.2.1.length : Int) * t.1) m).2.2 != 0) = false := by simp [he]
      rw [if_pos he]
      simp only [e1]
      rw [F36_eq R ht hlen h (draw_below he)]
    · have e1 : ((drawR s ((t.2.1.length : Int) * t.1) m).2.2 != 0) = true := by simp [he]
      rw [if_neg he]
      simp only [e1]
end Go.PG
namespace Go.PG
def popI (l : List Int) : Int := l.getD (l.length - 1) 0
def cutL (l : List Int) : List Int := l.take (l.length - 1)
theorem pop_snoc (a : List Int) (x : Int) : popI (a ++ [x]) = x := by simp [popI]
theorem cut_snoc (a : List Int) (x : Int) : cutL (a ++ [x]) = a := by simp [cutL]
theorem snoc_of {l : List Int} (h : l.length ≠ 0) : ∃ a x, l = a ++ [x] := by
  rcases List.eq_nil_or_concat l with rfl | ⟨a, x, rfl⟩
  · simp at h
  · exact ⟨a, x, by simp⟩
def stepH (T : Int) (h : List Int) (i k : Int) : List Int := h.set k.toNat (h.getD k.toNat 0 - (T - h.getD i.toNat 0))
def runA (T : Int) : Nat → List Int → List CellA → List Int → List Int → List Int × (List CellA × (List Int × List Int))
  | 0, h, c, sm, la => (h, c, sm, la)
  | f + 1, h, c, sm, la => if sm.length = 0 ∨ la.length = 0 then (h, c, sm, la) else
      if (stepH T h (popI sm) (popI la)).getD (popI la).toNat 0 < T then runA T f (stepH T h (popI sm) (popI la)) (c.set (popI sm).toNat (h.getD (popI sm).toNat 0, popI la, ())) (cutL sm ++ [popI la]) (cutL la)
      else runA T f (stepH T h (popI sm) (popI la)) (c.set (popI sm).toNat (h.getD (popI sm).toNat 0, popI la, ())) (cutL sm) (cutL la ++ [popI la])
structure IA (T : Int) (n : Nat) (h : List Int) (c : List CellA) (sm la : List Int) : Prop where
  hl : h.length = n
  cl : c.length = n
  ix : ∀ x ∈ sm ++ la, 0 ≤ x ∧ x < (n : Int)
  nd : (sm ++ la).Nodup
  sml : ∀ x ∈ sm, 0 ≤ h.getD x.toNat 0 ∧ h.getD x.toNat 0 < T
  lrg : ∀ x ∈ la, T ≤ h.getD x.toNat 0 ∧ h.getD x.toNat 0 < 9223372036854775808
theorem getD_set_ne' (h : List Int) {i j : Nat} (v : Int) (hij : i ≠ j) : (h.set i v).getD j 0 = h.getD j 0 := by
  simp [List.getD_eq_getElem?_getD, List.getElem?_set, hij]
theorem getD_set_eq' (h : List Int) {i : Nat} (v : Int) (hi : i < h.length) : (h.set i v).getD i 0 = v := by
  simp [List.getD_eq_getElem?_getD, hi]
theorem perm1 (s0 l0 : List Int) (i k : Int) : ((s0 ++ [i]) ++ (l0 ++ [k])).Perm (i :: ((s0 ++ [k]) ++ l0)) := by
  rw [List.append_assoc, List.append_assoc]
  refine List.perm_middle.trans (.cons i (List.Perm.append_left s0 ?_))
  exact (List.perm_append_comm : (l0 ++ [k]).Perm ([k] ++ l0))
theorem perm2 (s0 l0 : List Int) (i k : Int) : ((s0 ++ [i]) ++ (l0 ++ [k])).Perm (i :: (s0 ++ (l0 ++ [k]))) := by
  rw [List.append_assoc]
  exact List.perm_middle
theorem IA.facts {T : Int} {n : Nat} {h : List Int} {c : List CellA} {s0 l0 : List Int} {i k : Int} (hI : IA T n h c (s0 ++ [i]) (l0 ++ [k])) :
    (0 ≤ i ∧ i < (n : Int)) ∧ (0 ≤ k ∧ k < (n : Int)) ∧ i ≠ k ∧ (∀ x ∈ s0, x ≠ i ∧ x ≠ k ∧ 0 ≤ x) ∧ (∀ x ∈ l0, x ≠ i ∧ x ≠ k ∧ 0 ≤ x) := by
  have hn := (perm1 s0 l0 i k).nodup_iff.1 hI.nd
  rw [List.nodup_cons] at hn
  obtain ⟨h1, h2⟩ := hn
  have h3 : (k :: (s0 ++ l0)).Nodup := by
    rw [List.append_assoc] at h2
    exact (List.perm_middle (l₁ := s0) (l₂ := l0) (a := k)).nodup_iff.1 h2
  rw [List.nodup_cons] at h3
  have hm : ∀ x, x ∈ s0 ∨ x ∈ l0 → x ≠ i ∧ x ≠ k ∧ 0 ≤ x := fun x hx => by
    refine ⟨fun e => h1 ?_, fun e => h3.1 ?_, (hI.ix x ?_).1⟩
    · subst e; simp; rcases hx with hx | hx <;> simp [hx]
    · subst e; simpa using hx
    · simp; rcases hx with hx | hx <;> simp [hx]
  refine ⟨hI.ix i (by simp), hI.ix k (by simp), fun e => h1 ?_, fun x hx => hm x (.inl hx), fun x hx => hm x (.inr hx)⟩
  subst e; simp
theorem IA.step {T : Int} {n : Nat} {h : List Int} {c : List CellA} {s0 l0 : List Int} {i k : Int} (hI : IA T n h c (s0 ++ [i]) (l0 ++ [k])) :
    (0 ≤ (stepH T h i k).getD k.toNat 0 ∧ (stepH T h i k).getD k.toNat 0 < 9223372036854775808 ∧ (stepH T h i k).getD k.toNat 0 = h.getD k.toNat 0 - (T - h.getD i.toNat 0)) ∧
    ((stepH T h i k).getD k.toNat 0 < T → IA T n (stepH T h i k) (c.set i.toNat (h.getD i.toNat 0, k, ())) (s0 ++ [k]) l0) ∧
    (¬ (stepH T h i k).getD k.toNat 0 < T → IA T n (stepH T h i k) (c.set i.toNat (h.getD i.toNat 0, k, ())) s0 (l0 ++ [k])) := by
  obtain ⟨hi, hk, hik, hs, hl⟩ := hI.facts
  have hkl : k.toNat < h.length := by rw [hI.hl]; omega
  have ek : (stepH T h i k).getD k.toNat 0 = h.getD k.toNat 0 - (T - h.getD i.toNat 0) := getD_set_eq' h _ hkl
  have b1 := hI.sml i (by simp)
  have b2 := hI.lrg k (by simp)
  have same : ∀ x : Int, 0 ≤ x → x ≠ k → (stepH T h i k).getD x.toNat 0 = h.getD x.toNat 0 := fun x h0 hx => getD_set_ne' h _ (by omega)
  have hn1 := ((perm1 s0 l0 i k).nodup_iff.1 hI.nd)
  have hn2 := ((perm2 s0 l0 i k).nodup_iff.1 hI.nd)
  rw [List.nodup_cons] at hn1 hn2
  refine ⟨⟨by omega, by omega, ek⟩, fun hlt => ⟨by simp [stepH, hI.hl], by simp [hI.cl], fun x hx => hI.ix x ?_, hn1.2, fun x hx => ?_, fun x hx => ?_⟩, fun hge => ⟨by simp [stepH, hI.hl], by simp [hI.cl], fun x hx => hI.ix x ?_, hn2.2, fun x hx => ?_, fun x hx => ?_⟩⟩
  · simp at hx ⊢; rcases hx with hx | hx | hx <;> simp [hx]
  · rcases List.mem_append.1 hx with hx | hx
    · have := hs x hx
      rw [same x this.2.2 this.2.1]; exact hI.sml x (by simp [hx])
    · simp at hx; subst hx; omega
  · have := hl x hx
    rw [same x this.2.2 this.2.1]; exact hI.lrg x (by simp [hx])
  · simp at hx ⊢; rcases hx with hx | hx | hx <;> simp [hx]
  · have := hs x hx
    rw [same x this.2.2 this.2.1]; exact hI.sml x (by simp [hx])
  · rcases List.mem_append.1 hx with hx | hx
    · have := hl x hx
      rw [same x this.2.2 this.2.1]; exact hI.lrg x (by simp [hx])
    · simp at hx; subst hx; omega
theorem runA_step {T : Int} {f : Nat} {h : List Int} {c : List CellA} {s0 l0 : List Int} {i k : Int} : runA T (f + 1) h c (s0 ++ [i]) (l0 ++ [k]) =
    if (stepH T h i k).getD k.toNat 0 < T then runA T f (stepH T h i k) (c.set i.toNat (h.getD i.toNat 0, k, ())) (s0 ++ [k]) l0 else runA T f (stepH T h i k) (c.set i.toNat (h.getD i.toNat 0, k, ())) s0 (l0 ++ [k]) := by
  simp only [runA, pop_snoc, cut_snoc]
  rw [if_neg (by simp)]
theorem runA_stop {T : Int} {f : Nat} {h : List Int} {c : List CellA} {sm la : List Int} (hs : sm.length = 0 ∨ la.length = 0) : runA T f h c sm la = (h, c, sm, la) := by
  cases f with
  | zero => rfl
  | succ f => simp only [runA]; rw [if_pos hs]
theorem G37_13_eq (R : Type) {T : Int} {n : Nat} (hT : 0 < T ∧ T < 9223372036854775808) (hn : n ≤ 1000) (x1 : TabA) (k0 : TabA → List Int → List CellA → List Int → List Int → (Int × Unit) → Option R) :
    ∀ (f m : Nat) (h : List Int) (c : List CellA) (sm la : List Int), IA T n h c sm la → sm.length + la.length ≤ f → f ≤ 10000 → f < m →
      G37_13 m R x1 h c sm la (T, ()) k0 = k0 x1 (runA T f h c sm la).1 (runA T f h c sm la).2.1 (runA T f h c sm la).2.2.1 (runA T f h c sm la).2.2.2 (T, ())
  | f, 0, _, _, _, _, _, _, _, hm => by omega
  | f, m + 1, h, c, sm, la, hI, hf, hf2, hm => by
    simp only [G37_13, p37_13]
    by_cases hs : sm.length = 0
    · have hd : decide ((sm.length : Int) > 0) = false := decide_eq_false (by omega)
      simp only [hd]
      rw [runA_stop (.inl hs)]
    · have hd : decide ((sm.length : Int) > 0) = true := decide_eq_true (by omega)
      simp only [hd]
      by_cases hl : la.length = 0
      · have hd : decide ((la.length : Int) > 0) = false := decide_eq_false (by omega)
        simp only [hd]
        rw [runA_stop (.inr hl)]
      · have hd : decide ((la.length : Int) > 0) = true := decide_eq_true (by omega)
        simp only [hd]
        obtain ⟨s0, i, rfl⟩ := snoc_of hs
        obtain ⟨l0, k, rfl⟩ := snoc_of hl
        obtain ⟨hi, hk, hik, hms, hml⟩ := hI.facts
        obtain ⟨⟨e0, e1, e2⟩, st1, st2⟩ := hI.step
        have b1 := hI.sml i (by simp)
        have b2 := hI.lrg k (by simp)
        have ls : ((s0 ++ [i]).length : Int) = (s0.length : Int) + 1 := by simp
        have ll : ((l0 ++ [k]).length : Int) = (l0.length : Int) + 1 := by simp
        simp only [List.length_append, List.length_cons, List.length_nil] at hf
        rw [ls, ll, show (s0.length : Int) + 1 - 1 = (s0.length : Int) by omega, show (l0.length : Int) + 1 - 1 = (l0.length : Int) by omega, wrap_i64 (n := (s0.length : Int)) (by omega) (by omega), wrap_i64 (n := (l0.length : Int)) (by omega) (by omega)]
        have d1 : bnd (s0.length : Int) ((s0.length : Int) + 1) = true := by unfold bnd; simp; omega
        have d2 : bnd (l0.length : Int) ((l0.length : Int) + 1) = true := by unfold bnd; simp; omega
        have d3 : decide (0 ≤ (s0.length : Int) ∧ (s0.length : Int) ≤ (s0.length : Int) + 1) = true := decide_eq_true (by omega)
        have d4 : decide (0 ≤ (l0.length : Int) ∧ (l0.length : Int) ≤ (l0.length : Int) + 1) = true := decide_eq_true (by omega)
        have g1 : (s0 ++ [i]).getD s0.length 0 = i := by simp
        have g2 : (l0 ++ [k]).getD l0.length 0 = k := by simp
        have t1 : (s0 ++ [i]).take s0.length = s0 := by simp
        have t2 : (l0 ++ [k]).take l0.length = l0 := by simp
        have d5 : bnd i (h.length : Int) = true := by rw [hI.hl]; unfold bnd; simp; omega
        have d6 : bnd i (c.length : Int) = true := by rw [hI.cl]; unfold bnd; simp; omega
        have d7 : bnd k (h.length : Int) = true := by rw [hI.hl]; unfold bnd; simp; omega
        simp only [d1, d2, d3, d4, Int.toNat_natCast, g1, g2, t1, t2, d5, d6, d7, List.length_set]
        rw [wrap_u64 (n := T - h.getD i.toNat 0) (by omega) (by omega), wrap_u64 (n := h.getD k.toNat 0 - (T - h.getD i.toNat 0)) (by omega) (by omega)]
        change (match decide ((stepH T h i k).getD k.toNat 0 < T) with
          | true => _
          | false => _) = _
        cases f with
        | zero => omega
        | succ f =>
          rw [runA_step]
          by_cases hlt : (stepH T h i k).getD k.toNat 0 < T
          · have dc : decide (s0.length + [k].length ≤ 17592186044416) = true := decide_eq_true (by simp; omega)
            rw [if_pos hlt]
            simp only [decide_eq_true hlt, dc]
            exact G37_13_eq R hT hn x1 k0 f m _ _ _ _ (st1 hlt) (by simp; omega) (by omega) (by omega)
          · have dc : decide (l0.length + [k].length ≤ 17592186044416) = true := decide_eq_true (by simp; omega)
            rw [if_neg hlt]
            simp only [decide_eq_false hlt, dc]
            exact G37_13_eq R hT hn x1 k0 f m _ _ _ _ (st2 hlt) (by simp; omega) (by omega) (by omega)
end Go.PG
namespace Go.PG
theorem set_app {α : Type} (A : List α) (z v : α) (m : Nat) {i : Nat} (hi : A.length = i) : (A ++ List.replicate (m + 1) z).set i v = A ++ [v] ++ List.replicate m z := by
  subst hi
  rw [List.set_append_right _ _ (Nat.le_refl _), Nat.sub_self, List.replicate_succ, List.set_cons_zero]
  simp
def hasP (n : Int) (l : List Int) (i : Nat) : List Int := (l.take i).map (fun v => n * v) ++ List.replicate (l.length - i) 0
def ceP (T : Int) (i : Nat) : List CellA := (List.range i).map (fun j : Nat => (T, (j : Int), ()))
def smP (T n : Int) (l : List Int) (i : Nat) : List Int := ((List.range i).filter (fun j => decide (n * l.getD j 0 < T))).map (fun j : Nat => (j : Int))
def laP (T n : Int) (l : List Int) (i : Nat) : List Int := ((List.range i).filter (fun j => !decide (n * l.getD j 0 < T))).map (fun j : Nat => (j : Int))
theorem hasP_len {n : Int} {l : List Int} {i : Nat} (h : i ≤ l.length) : (hasP n l i).length = l.length := by simp [hasP]; omega
theorem hasP_set {n : Int} {l : List Int} {i : Nat} (h : i < l.length) : (hasP n l i).set i (n * l.getD i 0) = hasP n l (i + 1) := by
  unfold hasP
  rw [show l.length - i = (l.length - (i + 1)) + 1 by omega, set_app _ _ _ _ (by simp; omega), List.take_succ_eq_append_getElem h, List.map_append]
  simp only [List.getD_eq_getElem?_getD, List.getElem?_eq_getElem h, Option.getD_some, List.map_cons, List.map_nil]
theorem ceP_succ (T : Int) (i : Nat) : ceP T i ++ [(T, (i : Int), ())] = ceP T (i + 1) := by simp [ceP, List.range_succ]
theorem smP_lt {T n : Int} {l : List Int} {i : Nat} (h : n * l.getD i 0 < T) : smP T n l i ++ [(i : Int)] = smP T n l (i + 1) ∧ laP T n l i = laP T n l (i + 1) := by
  unfold smP laP
  rw [List.range_succ, List.filter_append, List.filter_append, List.map_append, List.map_append]
  have e1 : [i].filter (fun j => decide (n * l.getD j 0 < T)) = [i] := by rw [List.filter_cons, if_pos (decide_eq_true h)]; rfl
  have e2 : [i].filter (fun j => !decide (n * l.getD j 0 < T)) = [] := by rw [List.filter_cons, if_neg (by simp only [decide_eq_true h]; simp)]; rfl
  rw [e1, e2]
  simp
theorem smP_ge {T n : Int} {l : List Int} {i : Nat} (h : ¬ n * l.getD i 0 < T) : smP T n l i = smP T n l (i + 1) ∧ laP T n l i ++ [(i : Int)] = laP T n l (i + 1) := by
  unfold smP laP
  rw [List.range_succ, List.filter_append, List.filter_append, List.map_append, List.map_append]
  have e1 : [i].filter (fun j => decide (n * l.getD j 0 < T)) = [] := by rw [List.filter_cons, if_neg (by simp only [decide_eq_false h]; simp)]; rfl
  have e2 : [i].filter (fun j => !decide (n * l.getD j 0 < T)) = [i] := by rw [List.filter_cons, if_pos (by simp only [decide_eq_false h]; simp)]; rfl
  rw [e1, e2]
  simp
theorem smP_len (T n : Int) (l : List Int) (i : Nat) : (smP T n l i).length + (laP T n l i).length ≤ i := by
  induction i with
  | zero => simp [smP, laP]
  | succ i ih =>
    by_cases h : n * l.getD i 0 < T
    · obtain ⟨h1, h2⟩ := smP_lt h
      rw [← h1, ← h2]; simp; omega
    · obtain ⟨h1, h2⟩ := smP_ge h
      rw [← h1, ← h2]; simp; omega
theorem get_le_tot {l : List Int} (h : AllU64 l) (i : Nat) : l.getD i 0 ≤ totS l := by
  by_cases hi : i < l.length
  · have h1 := sumS_succ hi
    have h2 := sumS_nonneg h i
    have h3 := sumS_tot h (i + 1)
    omega
  · have : l.getD i 0 = 0 := by simp [List.getD_eq_getElem?_getD, List.getElem?_eq_none (show l.length ≤ i by omega)]
    rw [this]
    exact sumS_nonneg h l.length
theorem prod_ok {l : List Int} (h : AllU64 l) (hb : (l.length : Int) * totS l < 9223372036854775808) (i : Nat) : 0 ≤ (l.length : Int) * l.getD i 0 ∧ (l.length : Int) * l.getD i 0 < 9223372036854775808 := by
  have h1 := (getD_all h u64_0 i).1
  have h2 := get_le_tot h i
  have h3 : (l.length : Int) * l.getD i 0 ≤ (l.length : Int) * totS l := Int.mul_le_mul_of_nonneg_left h2 (by omega)
  exact ⟨Int.mul_nonneg (by omega) h1, by omega⟩
theorem G37_7_eq (R : Type) {l : List Int} (h : AllU64 l) (hlen : l.length ≤ 1000) {T : Int} (hb : (l.length : Int) * totS l < 9223372036854775808) (x6 : TabA) (k0 : TabA → List Int → List CellA → List Int → List Int → (Int × Unit) → Option R) :
    ∀ (m i : Nat), i ≤ l.length → l.length - i < m → G37_7 m R l T l (l.length : Int) (i : Int) x6 (hasP (l.length : Int) l i) (ceP T i) (smP T (l.length : Int) l i) (laP T (l.length : Int) l i) (T, ()) k0 =
      k0 x6 (hasP (l.length : Int) l l.length) (ceP T l.length) (smP T (l.length : Int) l l.length) (laP T (l.length : Int) l l.length) (T, ())
  | 0, i, _, hm => by omega
  | m + 1, i, h1, h2 => by
    simp only [G37_7, p37_7]
    by_cases hi : i < l.length
    · have hd : decide ((i : Int) < (l.length : Int)) = true := by simpa using hi
      have hbn : bnd (i : Int) (l.length : Int) = true := by unfold bnd; simp; omega
      have hp := prod_ok h hb i
      have hsl := smP_len T (l.length : Int) l i
      have cl : (ceP T i).length = i := by simp [ceP]
      have dc : decide ((ceP T i).length + [(T, (i : Int), ())].length ≤ 8796093022208) = true := decide_eq_true (by rw [cl]; simp; omega)
      have ew : IntKind.u64.wrap (l.getD i 0 * IntKind.u64.wrap (l.length : Int)) = (l.length : Int) * l.getD i 0 := by
        rw [wrap_u64 (n := (l.length : Int)) (by omega) (by omega), Int.mul_comm (l.getD i 0), wrap_u64 (n := (l.length : Int) * l.getD i 0) hp.1 (by omega)]
      simp only [hd, hbn, Int.toNat_natCast, hasP_len (n := (l.length : Int)) h1, dc, ew, hasP_set hi, ceP_succ, hasP_len (n := (l.length : Int)) (show i + 1 ≤ l.length by omega)]
      have hg : (hasP (l.length : Int) l (i + 1)).getD i 0 = (l.length : Int) * l.getD i 0 := by
        rw [← hasP_set hi, getD_set_eq' _ _ (by rw [hasP_len h1]; exact hi)]
      simp only [hbn, hg]
      by_cases hlt : (l.length : Int) * l.getD i 0 < T
      · obtain ⟨q1, q2⟩ := smP_lt hlt
        have dd : decide ((smP T (l.length : Int) l i).length + [(i : Int)].length ≤ 17592186044416) = true := decide_eq_true (by simp; omega)
        simp only [decide_eq_true hlt, dd]
        rw [q1, q2, wrap_i64 (n := (i : Int) + 1) (by omega) (by omega)]
        exact G37_7_eq R h hlen hb x6 k0 m (i + 1) (by omega) (by omega)
      · obtain ⟨q1, q2⟩ := smP_ge hlt
        have dd : decide ((laP T (l.length : Int) l i).length + [(i : Int)].length ≤ 17592186044416) = true := decide_eq_true (by simp; omega)
        simp only [decide_eq_false hlt, dd]
        rw [q1, q2, wrap_i64 (n := (i : Int) + 1) (by omega) (by omega)]
        exact G37_7_eq R h hlen hb x6 k0 m (i + 1) (by omega) (by omega)
    · have : i = l.length := by omega
      subst this
      have hd : decide ((l.length : Int) < (l.length : Int)) = false := by simp
      simp only [hd]
theorem hasP_get {n : Int} {l : List Int} {j : Nat} (hj : j < l.length) : (hasP n l l.length).getD j 0 = n * l.getD j 0 := by
  simp [hasP, hj]
theorem mem_smP {T n : Int} {l : List Int} {i : Nat} {x : Int} (h : x ∈ smP T n l i) : ∃ j : Nat, x = (j : Int) ∧ j < i ∧ n * l.getD j 0 < T := by
  simp only [smP, List.mem_map, List.mem_filter, List.mem_range, decide_eq_true_eq] at h
  obtain ⟨j, ⟨h1, h2⟩, rfl⟩ := h
  exact ⟨j, rfl, h1, h2⟩
theorem mem_laP {T n : Int} {l : List Int} {i : Nat} {x : Int} (h : x ∈ laP T n l i) : ∃ j : Nat, x = (j : Int) ∧ j < i ∧ ¬ n * l.getD j 0 < T := by
  simp only [laP, List.mem_map, List.mem_filter, List.mem_range, Bool.not_eq_true', decide_eq_false_iff_not] at h
  obtain ⟨j, ⟨h1, h2⟩, rfl⟩ := h
  exact ⟨j, rfl, h1, h2⟩
theorem nodup_cast {l : List Nat} (h : l.Nodup) : (l.map fun j : Nat => (j : Int)).Nodup := by
  induction l with
  | nil => simp
  | cons a l ih =>
    rw [List.nodup_cons] at h
    rw [List.map_cons, List.nodup_cons]
    refine ⟨fun hm => ?_, ih h.2⟩
    obtain ⟨b, hb, e⟩ := List.mem_map.1 hm
    have : b = a := by omega
    subst this
    exact h.1 hb
theorem IA_start {l : List Int} (h : AllU64 l) {T : Int} (hb : (l.length : Int) * totS l < 9223372036854775808) : IA T l.length (hasP (l.length : Int) l l.length) (ceP T l.length) (smP T (l.length : Int) l l.length) (laP T (l.length : Int) l l.length) := by
  refine ⟨hasP_len (Nat.le_refl _), by simp [ceP], fun x hx => ?_, ?_, fun x hx => ?_, fun x hx => ?_⟩
  · rcases List.mem_append.1 hx with hx | hx
    · obtain ⟨j, rfl, hj, _⟩ := mem_smP hx; omega
    · obtain ⟨j, rfl, hj, _⟩ := mem_laP hx; omega
  · rw [List.nodup_append]
    refine ⟨nodup_cast (List.nodup_range.sublist List.filter_sublist), nodup_cast (List.nodup_range.sublist List.filter_sublist), fun a ha b hb e => ?_⟩
    obtain ⟨j, e1, _, h1⟩ := mem_smP ha
    obtain ⟨j', e2, _, h2⟩ := mem_laP hb
    have : j = j' := by omega
    subst this
    exact h2 h1
  · obtain ⟨j, rfl, hj, h1⟩ := mem_smP hx
    rw [Int.toNat_natCast, hasP_get hj]
    exact ⟨(prod_ok h hb j).1, h1⟩
  · obtain ⟨j, rfl, hj, h1⟩ := mem_laP hx
    rw [Int.toNat_natCast, hasP_get hj]
    exact ⟨by omega, (prod_ok h hb j).2⟩
def tabC (l : List Int) : List CellA := (runA (totS l) l.length (hasP (l.length : Int) l l.length) (ceP (totS l) l.length) (smP (totS l) (l.length : Int) l l.length) (laP (totS l) (l.length : Int) l l.length)).2.1
def tabR (l : List Int) : TabA × Int :=
  if l.length = 0 then ((0, [], ()), 10) else if ¬ totS l < 9223372036854775808 then ((0, [], ()), 11) else if totS l = 0 then ((0, [], ()), 10)
  else if ¬ (l.length : Int) * totS l < 9223372036854775808 then ((0, [], ()), 11) else ((totS l, tabC l, ()), 0)
theorem tabR_len {l : List Int} (h0 : l.length = 0) : tabR l = ((0, [], ()), 10) := by unfold tabR; rw [if_pos h0]
theorem tabR_big {l : List Int} (h0 : l.length ≠ 0) (ht : ¬ totS l < 9223372036854775808) : tabR l = ((0, [], ()), 11) := by unfold tabR; rw [if_neg h0, if_pos ht]
theorem tabR_zero {l : List Int} (h0 : l.length ≠ 0) (hz : totS l = 0) : tabR l = ((0, [], ()), 10) := by unfold tabR; rw [if_neg h0, if_neg (by simp [hz]), if_pos hz]
theorem tabR_prod {l : List Int} (h0 : l.length ≠ 0) (ht : totS l < 9223372036854775808) (hz : totS l ≠ 0) (hb : ¬ (l.length : Int) * totS l < 9223372036854775808) : tabR l = ((0, [], ()), 11) := by
  unfold tabR; rw [if_neg h0, if_neg (by simpa using ht), if_neg hz, if_pos hb]
theorem tabR_ok {l : List Int} (h0 : l.length ≠ 0) (ht : totS l < 9223372036854775808) (hz : totS l ≠ 0) (hb : (l.length : Int) * totS l < 9223372036854775808) : tabR l = ((totS l, tabC l, ()), 0) := by
  unfold tabR; rw [if_neg h0, if_neg (by simpa using ht), if_neg hz, if_neg (by simpa using hb)]
def TabOk (l : List Int) : Prop := l.length ≠ 0 ∧ totS l < 9223372036854775808 ∧ totS l ≠ 0 ∧ (l.length : Int) * totS l < 9223372036854775808
theorem tab_cases (l : List Int) : (TabOk l ∧ tabR l = ((totS l, tabC l, ()), 0)) ∨ (¬ TabOk l ∧ (tabR l = ((0, [], ()), 10) ∨ tabR l = ((0, [], ()), 11))) := by
  unfold TabOk
  by_cases h0 : l.length = 0
  · exact .inr ⟨fun h => h.1 h0, .inl (tabR_len h0)⟩
  by_cases ht : totS l < 9223372036854775808
  · by_cases hz : totS l = 0
    · exact .inr ⟨fun h => h.2.2.1 hz, .inl (tabR_zero h0 hz)⟩
    · by_cases hb : (l.length : Int) * totS l < 9223372036854775808
      · exact .inl ⟨⟨h0, ht, hz, hb⟩, tabR_ok h0 ht hz hb⟩
      · exact .inr ⟨fun h => hb h.2.2.2, .inr (tabR_prod h0 ht hz hb)⟩
  · exact .inr ⟨fun h => ht h.2.1, .inr (tabR_big h0 ht)⟩
theorem F62_eq (R : Type) {l : List Int} (h : AllU64 l) (hlen : l.length ≤ 1000) (k : Int → Int → Option R) (K : TabA → Int → Option R) (h1 : TabOk l → k (totS l) 0 = K (tabR l).1 0) (h2 : ∀ e, e ≠ 0 → k 0 e = K (0, [], ()) e) : F62 R l k = K (tabR l).1 (tabR l).2 := by
  simp only [F62, p62]
  rw [wrap_u64 (n := (l.length : Int)) (by omega) (by omega)]
  by_cases h0 : l.length = 0
  · have e : ((l.length : Int) == 0) = true := by simp [h0]
    simp only [e]
    rw [tabR_len h0]
    exact h2 10 (by omega)
  · have e : ((l.length : Int) == 0) = false := by simp [h0]
    simp only [e]
    rw [F65_eq R h (by omega)]
    have hnn := sumS_nonneg h l.length
    by_cases ht : totS l < 9223372036854775808
    · rw [if_pos ht]
      simp only [Bool.not_true]
      by_cases hz : totS l = 0
      · have e : (totS l == 0) = true := by simp [hz]
        simp only [e]
        rw [tabR_zero h0 hz]
        exact h2 10 (by omega)
      · have e : (totS l == 0) = false := by simp [hz]
        simp only [e]
        rw [F55_eq R (by unfold U64; omega) (show U64 (totS l) from by unfold U64; exact ⟨hnn, by omega⟩)]
        by_cases hb : (l.length : Int) * totS l < 9223372036854775808
        · rw [if_pos hb]
          simp only [Bool.not_true]
          rw [h1 ⟨h0, ht, hz, hb⟩, tabR_ok h0 ht hz hb]
        · rw [if_neg hb, tabR_prod h0 ht hz hb]
          simp only [Bool.not_false]
          exact h2 11 (by omega)
    · rw [if_neg ht, tabR_big h0 ht]
      simp only [Bool.not_false]
      exact h2 11 (by omega)
theorem F37_eq (R : Type) {l : List Int} (h : AllU64 l) (hlen : l.length ≤ 1000) (k : TabA → Int → Option R) : F37 R l k = k (tabR l).1 (tabR l).2 := by
  simp only [F37, p37]
  refine F62_eq R h hlen _ k (fun hc => ?_) (fun e he => ?_)
  · have n0 : ((0 : Int) != 0) = false := rfl
    simp only [n0]
    · obtain ⟨h0, ht, hz, hb⟩ := hc
      have hnn := sumS_nonneg h l.length
      have hpos : 0 < totS l := by have : 0 ≤ totS l := hnn; omega
      rw [tabR_ok h0 ht hz hb]
      have dc : decide (0 ≤ (l.length : Int) ∧ (l.length : Int) ≤ (l.length : Int) ∧ (l.length : Int) ≤ (17592186044416 : Int)) = true := decide_eq_true (by omega)
      simp only [dc, Int.toNat_natCast]
      have g := G37_7_eq R h hlen (T := totS l) hb (0, [], ()) (fun x7 x8 x9 x10 x11 x12 => G37_13 FUEL R x7 x8 x9 x10 x11 (x12.1, ()) (fun x13 x14 x15 x16 x17 x18 => k (x18.1, x15, ()) 0)) FUEL 0 (by omega) (by rw [FUEL_eq]; omega)
      have q0 : hasP (l.length : Int) l 0 = List.replicate l.length 0 := by simp [hasP]
      rw [q0] at g
      refine g.trans ?_
      rw [G37_13_eq R (n := l.length) ⟨hpos, ht⟩ hlen _ _ l.length FUEL _ _ _ _ (IA_start h hb) (smP_len _ _ _ _) (by omega) (by rw [FUEL_eq]; omega)]
      rfl
  · have n1 : (e != 0) = true := by simp [he]
    simp only [n1]
end Go.PG
namespace Go.PG
theorem runA_IA {T : Int} {n : Nat} : ∀ (f : Nat) (h : List Int) (c : List CellA) (sm la : List Int), IA T n h c sm la → IA T n (runA T f h c sm la).1 (runA T f h c sm la).2.1 (runA T f h c sm la).2.2.1 (runA T f h c sm la).2.2.2
  | 0, h, c, sm, la, hI => hI
  | f + 1, h, c, sm, la, hI => by
    by_cases hs : sm.length = 0 ∨ la.length = 0
    · rw [runA_stop hs]; exact hI
    · obtain ⟨s0, i, rfl⟩ := snoc_of (fun e => hs (.inl e))
      obtain ⟨l0, k, rfl⟩ := snoc_of (fun e => hs (.inr e))
      obtain ⟨_, st1, st2⟩ := hI.step
      rw [runA_step]
      by_cases hlt : (stepH T h i k).getD k.toNat 0 < T
      · rw [if_pos hlt]; exact runA_IA f _ _ _ _ (st1 hlt)
      · rw [if_neg hlt]; exact runA_IA f _ _ _ _ (st2 hlt)
theorem tabC_len {l : List Int} (h : AllU64 l) (hb : (l.length : Int) * totS l < 9223372036854775808) : (tabC l).length = l.length := (runA_IA l.length _ _ _ _ (IA_start h hb)).cl
theorem tab_fit {l : List Int} (h : AllU64 l) : U64 (tabR l).1.1 ∧ (tabR l).1.2.1.length ≤ l.length := by
  have hnn := sumS_nonneg h l.length
  rcases tab_cases l with ⟨⟨h0, ht, hz, hb⟩, e⟩ | ⟨hn, e | e⟩
  · rw [e]
    exact ⟨by unfold U64; exact ⟨hnn, by have : totS l < 9223372036854775808 := ht; show totS l < _; omega⟩, by show (tabC l).length ≤ _; rw [tabC_len h hb]; exact Nat.le_refl _⟩
  · rw [e]; exact ⟨by unfold U64; simp, by simp⟩
  · rw [e]; exact ⟨by unfold U64; simp, by simp⟩
def pickL (l : List Int) (s : Src) (m : Int) : Int × Src × Int := if (tabR l).2 = 0 then pickR (tabR l).1 s m else (0, s, (tabR l).2)
theorem F16_eq (R : Type) {l : List Int} (h : AllU64 l) (hlen : l.length ≤ 1000) {s : Src} (hs : SOK s) (m : Int) (k : Int → Src → Int → Option R) : F16 R s m l k = k (pickL l s m).1 (pickL l s m).2.1 (pickL l s m).2.2 := by
  simp only [F16, p16]
  rw [F37_eq R h hlen]
  obtain ⟨f1, f2⟩ := tab_fit h
  unfold pickL
  by_cases he : (tabR l).2 = 0
  · have e1 : ((tabR l).2 != 0) = false := by simp [he]
    rw [if_pos he]
    simp only [e1]
    rw [F14_eq R f1 (by omega) hs]
  · have e1 : ((tabR l).2 != 0) = true := by simp [he]
    rw [if_neg he]
    simp only [e1]
end Go.PG
namespace Go.PG
def domS (k slot : Int) : Int := k * 4294967296 + slot
def mayS (m slot : Int) : Bool := decide (slot ≥ 0) && (decide (slot < 1024) && (decide (m > 0) && decide (m ≤ 64)))
theorem F52_eq (R : Type) (a : List Int) (m slot : Int) (k : Bool → Option R) : F52 R (a, m, ()) slot k = k (mayS m slot) := by
  simp only [F52, p52, mayS]
  cases decide (slot ≥ 0) <;> cases decide (slot < 1024) <;> cases decide (m > 0) <;> rfl
theorem may_spec {m slot : Int} (h : mayS m slot = true) : 0 ≤ slot ∧ slot < 1024 ∧ 0 < m ∧ m ≤ 64 := by
  simp only [mayS, Bool.and_eq_true, decide_eq_true_eq] at h
  exact ⟨h.1, h.2.1, h.2.2.1, h.2.2.2⟩
theorem wrap32 {n : Int} (h1 : 0 ≤ n) (h2 : n < 4294967296) : IntKind.u32.wrap n = n := by
  unfold IntKind.wrap
  simp only [IntKind.bits, IntKind.signed]
  have e : n % (2 ^ 32) = n := Int.emod_eq_of_lt h1 h2
  first
  | exact e
  | simp [e]
  | (simp; omega)
theorem F80_eq (R : Type) (a : List Int) (m : Int) {d slot : Int} (hd : 0 ≤ d ∧ d ≤ 10) (hs : 0 ≤ slot ∧ slot < 1024) (k : Src → Option R) : F80 R (a, m, ()) d slot k = k (streamSrc a (domS d slot)) := by
  simp only [F80, p80]
  rw [wrap32 hs.1 (by omega), F100_eq R (by unfold U32; omega) (by unfold U32; omega), F99_eq]
  rfl
theorem dom_u64 {d slot : Int} (hd : 0 ≤ d ∧ d ≤ 10) (hs : 0 ≤ slot ∧ slot < 1024) : U64 (domS d slot) := by unfold U64 domS; omega
def srcS (a : List Int) (d slot : Int) : Src := streamSrc a (domS d slot)
theorem srcS_ok {a : List Int} (ha : H32 a) {d slot : Int} (hd : 0 ≤ d ∧ d ≤ 10) (hs : 0 ≤ slot ∧ slot < 1024) : SOK (srcS a d slot) := streamSrc_ok ha (dom_u64 hd hs)
noncomputable def leaS (a : List Int) (slot m : Int) (l : List Int) : Int × Int :=
  if mayS m slot = true then (if totS l < 9223372036854775808 then ((leadR l (srcS a 1 slot) m).1, (leadR l (srcS a 1 slot) m).2.2) else (0, 11)) else (0, 1)
theorem F53_eq (R : Type) {a : List Int} (ha : H32 a) {m slot : Int} (hs : 0 ≤ slot ∧ slot < 1024) {l : List Int} (h : AllU64 l) (ht : totS l < 9223372036854775808) (hl : l.length ≤ 200) (k : Int → Int → Option R) :
    F53 R (a, m, ()) (treeS l, ()) slot k = k (leadR l (srcS a 1 slot) m).1 (leadR l (srcS a 1 slot) m).2.2 := by
  simp only [F53, p53]
  rw [F80_eq R a m (by omega) hs]
  show F47 R (treeS l, ()) (srcS a 1 slot) m _ = _
  rw [F47_eq R h hl ht (srcS_ok ha (by omega) hs)]
theorem F27_eq (R : Type) {a : List Int} (ha : H32 a) (slot m : Int) {l : List Int} (h : AllU64 l) (hl : l.length ≤ 200) (k : Int → Int → Option R) : F27 R a slot m l k = k (leaS a slot m l).1 (leaS a slot m l).2 := by
  simp only [F27, p27]
  rw [F52_eq]
  unfold leaS
  cases hm : mayS m slot with
  | false => rfl
  | true =>
    obtain ⟨m1, m2, _⟩ := may_spec hm
    simp only [Bool.not_true, if_true]
    rw [F38_eq' R h hl]
    by_cases ht : totS l < 9223372036854775808
    · rw [if_pos ht, if_pos ht]
      have n0 : ((0 : Int) != 0) = false := rfl
      simp only [n0]
      rw [F53_eq R ha ⟨m1, m2⟩ h ht hl]
    · rw [if_neg ht, if_neg ht]; rfl
noncomputable def aliS (a : List Int) (slot m : Int) (l : List Int) : Int × Int :=
  if mayS m slot = true then ((pickL l (srcS a 2 slot) m).1, (pickL l (srcS a 2 slot) m).2.2) else (0, 1)
theorem F50_eq (R : Type) {a : List Int} (ha : H32 a) (slot m : Int) {l : List Int} (h : AllU64 l) (hl : l.length ≤ 200) (k : Int → Int → Option R) : F50 R a slot m l k = k (aliS a slot m l).1 (aliS a slot m l).2 := by
  simp only [F50, p50]
  rw [F52_eq]
  unfold aliS
  cases hm : mayS m slot with
  | false => rfl
  | true =>
    obtain ⟨m1, m2, _⟩ := may_spec hm
    simp only [Bool.not_true, if_true]
    rw [F80_eq R a m (by omega) ⟨m1, m2⟩]
    show F16 R (srcS a 2 slot) m l _ = _
    rw [F16_eq R h (by omega) (srcS_ok ha (by omega) ⟨m1, m2⟩)]
noncomputable def sitS (a : List Int) (slot c m : Int) (l : List Int) : List Int × Int :=
  if mayS m slot = true then ((comL l c (srcS a 3 slot) m).1, (comL l c (srcS a 3 slot) m).2.2) else ([], 1)
theorem F51_eq (R : Type) {a : List Int} (ha : H32 a) (slot c m : Int) {l : List Int} (h : AllU64 l) (hl : l.length ≤ 200) (k : List Int → Int → Option R) : F51 R a slot c m l k = k (sitS a slot c m l).1 (sitS a slot c m l).2 := by
  simp only [F51, p51]
  rw [F52_eq]
  unfold sitS
  cases hm : mayS m slot with
  | false => rfl
  | true =>
    obtain ⟨m1, m2, _⟩ := may_spec hm
    simp only [Bool.not_true, if_true]
    rw [F80_eq R a m (by omega) ⟨m1, m2⟩]
    show F18 R c (srcS a 3 slot) m l _ = _
    rw [F18_eq R h hl (srcS_ok ha (by omega) ⟨m1, m2⟩)]
theorem G19_eq' (R : Type) (l r : List Int) (hl : l.length ≤ 1000000) (hr : l.length = r.length) (k0 : Bool → Option R) (k1 : Option R) : ∀ (m i : Nat), i ≤ l.length → l.length - i < m → l.take i = r.take i →
    G19_4 m R l r (i : Int) k0 k1 = if l = r then k1 else k0 false
  | 0, i, _, h, _ => by omega
  | m + 1, i, h1, h2, h3 => by
    simp only [G19_4, p19_4]
    by_cases hi : i < l.length
    · have hd : decide ((i : Int) < (l.length : Int)) = true := decide_eq_true (by omega)
      have hbn : bnd (i : Int) (l.length : Int) = true := by unfold bnd; simp; omega
      have hbr : bnd (i : Int) (r.length : Int) = true := by unfold bnd; simp; omega
      simp only [hd, hbn, hbr, Int.toNat_natCast]
      by_cases he : l.getD i 0 = r.getD i 0
      · have e1 : (l.getD i 0 != r.getD i 0) = false := by rw [he]; simp
        simp only [e1]
        rw [wrap_i64 (n := (i : Int) + 1) (by omega) (by omega)]
        refine G19_eq' R l r hl hr k0 k1 m (i + 1) (by omega) (by omega) ?_
        rw [List.take_succ_eq_append_getElem hi, List.take_succ_eq_append_getElem (by omega), h3]
        congr 2
        simpa [hi, show i < r.length by omega] using he
      · have e1 : (l.getD i 0 != r.getD i 0) = true := by simpa using he
        simp only [e1]
        rw [if_neg (fun e => he (by rw [e]))]
    · have : i = l.length := by omega
      subst this
      have hd : decide ((l.length : Int) < (l.length : Int)) = false := by simp
      simp only [hd]
      rw [List.take_length, hr, List.take_length] at h3
      rw [if_pos h3]
theorem F19_eq (R : Type) (l r : List Int) (hl : l.length ≤ 1000000) (k : Bool → Option R) : F19 R l r k = k (decide (l = r)) := by
  simp only [F19, p19]
  by_cases hr : l.length = r.length
  · have e : ((l.length : Int) != (r.length : Int)) = false := by rw [hr]; simp
    simp only [e]
    have := G19_eq' R l r hl hr (fun x4 => k x4) (k true) FUEL 0 (by omega) (by rw [FUEL_eq]; omega) (by simp)
    refine Eq.trans ?_ (this.trans ?_)
    · rfl
    by_cases h : l = r
    · rw [if_pos h, decide_eq_true h]
    · rw [if_neg h, decide_eq_false h]
  · have e : ((l.length : Int) != (r.length : Int)) = true := by
      have : ¬ (l.length : Int) = (r.length : Int) := by omega
      simpa using this
    simp only [e]
    rw [decide_eq_false (fun h => hr (by rw [h]))]
end Go.PG
