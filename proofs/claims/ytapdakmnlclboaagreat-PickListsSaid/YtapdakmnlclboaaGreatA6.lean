/- A part of the proof over this seat (own work; the framework that reads a Go function as a pure one, or a use of it). No condition of its own. -/
import Derived.Test.YtapdakmnlclboaaGreatA5
import Derived.Test.YtapdakmnlclboaaGreatProg
import Derived.KernelRfl
set_option linter.unusedVariables false
set_option linter.unusedSimpArgs false
set_option linter.unusedSectionVars false
set_option maxRecDepth 100000
namespace Go.PG
open Go.Proofs
abbrev FT155 : Type 1 := (R : Type) → (List Int) → ((List Int) → Option R) → Option R
def en155 (F : FT155) : Ent := ⟨155, [(false, (.sl (.int .u8)))], [(false, (.sl (.int .u8)))], fun R x k => F R x.1 (fun y1 => k (y1, ()) ())⟩
def res155 : List (ResultVar × TypeId × Bool) := [(.tmp 2, 26, false)]
noncomputable def e155 (F165 : FT165) (R : Type) : Env R := ⟨TT, EQT, 0, 29, ownOf [(3, 0)], callOf [en165 F165] R, loopOf [] R, [], inlOf []⟩
def p155 (F165 : FT165) : FT155 := fun R a0 k =>
let v1 : Int := (List.length a0 : Int);
let v2 : Int := (List.length a0 : Int);
let v3 : Int := (Int.tmod v2 (64 : Int));
let v4 : Int := (IntKind.i64.wrap (v1 - v3));
(match (decide (0 ≤ v4 ∧ v4 ≤ (List.length a0 : Int) ∧ (List.length a0 : Int) ≤ (List.length a0 : Int) ∧ (List.length a0 : Int) ≤ (List.length a0 : Int))) with
| true => let v5 : (List Int) := (List.take (Int.toNat ((List.length a0 : Int) - v4)) (List.drop (Int.toNat v4) a0));
let v6 : Int := (List.length a0 : Int);
let v7 : Int := (IntKind.u64.wrap v6);
F165 R v5 v7 fun y8 y9 =>
let v10 : (List Int) := ([] : (List Int));
(match (decide (0 ≤ (0 : Int) ∧ (0 : Int) ≤ v4 ∧ v4 ≤ v4 ∧ v4 ≤ (List.length a0 : Int))) with
| true => let v11 : (List Int) := (List.take (Int.toNat (v4 - (0 : Int))) (List.drop 0 a0));
(match (decide (List.length v10 + List.length v11 ≤ 140737488355328)) with
| true => let v12 : (List Int) := (v10 ++ v11);
(match (decide (List.length v12 + List.length y8 ≤ 140737488355328)) with
| true => let v13 : (List Int) := (v12 ++ y8);
k v13
| false => none)
| false => none)
| false => none)
| false => none)
theorem q155 (F165 : FT165) (F : FT155) (R : Type) (x : AT (en155 F).ins) (k : RT (en155 F).outs → PT (en155 F).ins → Option R) :
  xfun (e155 F165 R) (codeOf Tryz.f155) res155 (avs (en155 F).ins x) (finK (en155 F).outs (en155 F).ins k) = p155 F165 R x.1 (fun y1 => k (y1, ()) ()) := by kernel_rfl
noncomputable def F155 : FT155 := p155 F165
theorem env155 (R : Type) : EnvOK Tryz.prog (e155 F165 R) := ⟨tabOK, eqOK, callOf_ok (allE_cons ok165 allE_nil), noIns, inlOK_nil⟩
theorem ok155 : (en155 F155).OK Tryz.prog :=
  ent_ok (Ef := fun R => e155 F165 R) (fun R => env155 R) mixed Tryz.func155 (body := codeOf Tryz.f155) (by kernel_rfl) (by kernel_rfl) (np := 0) (nt := 29) (fun _ => rfl) (fun _ => rfl) (by kernel_rfl) (res := res155) (by kernel_rfl) (fun _ => rfl) (fun _ => Nat.le_of_ble_eq_true rfl) (by
    intro R
    rw [show loopsOf (codeOf Tryz.f155) = [] from by kernel_rfl]
    exact allM_nil) (fun R x k => q155 F165 F155 R x k)
abbrev FT154 : Type 1 := (R : Type) → (List Int) → ((List (List Int)) → (List Int) → Option R) → Option R
def en154 (F : FT154) : Ent := ⟨154, [(false, (.sl (.int .u8)))], [(false, (.sl (.arr 64 (.int .u8)))), (false, (.sl (.int .u8)))], fun R x k => F R x.1 (fun y1 y2 => k (y1, y2, ()) ())⟩
def res154 : List (ResultVar × TypeId × Bool) := [(.tmp 2, 194, false), (.tmp 3, 26, false)]
abbrev LT154_3 : Type 1 := (R : Type) → (List Int) → Int → (List (List Int)) → ((List Int) → Int → (List (List Int)) → Option R) → Option R
def le154_3 (L : LT154_3) : LEnt := ⟨3, [.val 0 (.sl (.int .u8)), .fix 4 (.own 0 0), .val 5 (.int .i64), .row 0 (.arr 64 (.int .u8)) false], 1, [(.exit 0, [.val 0 (.sl (.int .u8)), .fix 4 (.own 0 0), .val 5 (.int .i64), .row 0 (.arr 64 (.int .u8)) false])], fun R x ke => L R x.1 x.2.1 x.2.2.1 (fun y1 y2 y3 => ke.1 (y1, y2, y3, ()))⟩
abbrev LT154_6 : Type 1 := (R : Type) → (List Int) → Int → Int → (List (List Int)) → (List Int) → ((List Int) → Int → (List (List Int)) → (List Int) → Option R) → Option R
def le154_6 (L : LT154_6) : LEnt := ⟨6, [.val 0 (.sl (.int .u8)), .fix 4 (.own 0 0), .val 5 (.int .i64), .fix 6 (.ptr 1 [] (.arr 64 (.int .u8))), .val 7 (.int .i64), .row 0 (.arr 64 (.int .u8)) false, .var 1 (.arr 64 (.int .u8)) false], 2, [(.exit 2, [.val 0 (.sl (.int .u8)), .fix 4 (.own 0 0), .val 5 (.int .i64), .fix 6 (.ptr 1 [] (.arr 64 (.int .u8))), .row 0 (.arr 64 (.int .u8)) false, .var 1 (.arr 64 (.int .u8)) false])], fun R x ke => L R x.1 x.2.1 x.2.2.1 x.2.2.2.1 x.2.2.2.2.1 (fun y1 y2 y3 y4 => ke.1 (y1, y2, y3, y4, ()))⟩
noncomputable def e154 (L3 : LT154_3) (L6 : LT154_6) (R : Type) : Env R := ⟨TT, EQT, 0, 35, ownOf [(1, 0)], callOf [] R, loopOf [le154_3 L3, le154_6 L6] R, [], inlOf []⟩
def p154_6 : (R : Type) → (List Int) → Int → Int → (List (List Int)) → (List Int) → ((List Int) → Int → Int → (List (List Int)) → (List Int) → Option R) → ((List Int) → Int → (List (List Int)) → (List Int) → Option R) → Option R := fun R x1 x2 x3 x4 x5 kc k0 =>
let v6 : Bool := (decide (x3 < (64 : Int)));
(match v6 with
| true => let v7 : Int := (IntKind.i64.wrap (x2 + x3));
(match (bnd v7 (List.length x1 : Int)) with
| true => let v8 : Int := (List.getD x1 (Int.toNat v7) (0 : Int));
(match (bnd x3 (64 : Int)) with
| true => let v9 : (List Int) := (List.set x5 (Int.toNat x3) v8);
let v10 : Int := (IntKind.i64.wrap (x3 + (1 : Int)));
kc x1 x2 v10 x4 v9
| false => none)
| false => none)
| false => k0 x1 x2 x4 x5)
theorem q154_6 (L3 : LT154_3) (L6 : LT154_6) (R : Type) (x : HT (le154_6 L6).H) (kc : HT (le154_6 L6).H → Option R) (ke : KT R (le154_6 L6).exs) :
  exec (e154 L3 L6 R) (lcode 6 (codeOf Tryz.f154)) (stOf (le154_6 L6).H x 2) (roundK (le154_6 L6).H (le154_6 L6).exs kc ke) =
    p154_6 R x.1 x.2.1 x.2.2.1 x.2.2.2.1 x.2.2.2.2.1 (fun x1 x2 x3 x4 x5 => kc (x1, x2, x3, x4, x5, ())) (fun y1 y2 y3 y4 => ke.1 (y1, y2, y3, y4, ())) := by kernel_rfl
noncomputable def G154_6 : Nat → LT154_6
  | 0 => fun _ _ _ _ _ _ _ => none
  | n + 1 => fun R x1 x2 x3 x4 x5 k0 => p154_6 R x1 x2 x3 x4 x5 (fun x1 x2 x3 x4 x5 => G154_6 n R x1 x2 x3 x4 x5 k0) k0
def p154_3 (L6 : LT154_6) : (R : Type) → (List Int) → Int → (List (List Int)) → ((List Int) → Int → (List (List Int)) → Option R) → ((List Int) → Int → (List (List Int)) → Option R) → Option R := fun R x1 x2 x3 kc k0 =>
let v4 : Int := (IntKind.i64.wrap (x2 + (64 : Int)));
let v5 : Int := (List.length x1 : Int);
let v6 : Bool := (decide (v4 ≤ v5));
(match v6 with
| true => L6 R x1 x2 (0 : Int) x3 (List.replicate 64 (0 : Int)) (fun x7 x8 x9 x10 =>
let v11 : (List (List Int)) := ([x10] : (List (List Int)));
(match (decide (List.length x9 + List.length v11 ≤ 2199023255552)) with
| true => let v12 : (List (List Int)) := (x9 ++ v11);
let v13 : Int := (IntKind.i64.wrap (x8 + (64 : Int)));
kc x7 v13 v12
| false => none))
| false => k0 x1 x2 x3)
theorem q154_3 (L3 : LT154_3) (L6 : LT154_6) (R : Type) (x : HT (le154_3 L3).H) (kc : HT (le154_3 L3).H → Option R) (ke : KT R (le154_3 L3).exs) :
  exec (e154 L3 L6 R) (lcode 3 (codeOf Tryz.f154)) (stOf (le154_3 L3).H x 1) (roundK (le154_3 L3).H (le154_3 L3).exs kc ke) =
    p154_3 L6 R x.1 x.2.1 x.2.2.1 (fun x1 x2 x3 => kc (x1, x2, x3, ())) (fun y1 y2 y3 => ke.1 (y1, y2, y3, ())) := by kernel_rfl
noncomputable def G154_3 : Nat → LT154_3
  | 0 => fun _ _ _ _ _ => none
  | n + 1 => fun R x1 x2 x3 k0 => p154_3 (G154_6 FUEL) R x1 x2 x3 (fun x1 x2 x3 => G154_3 n R x1 x2 x3 k0) k0
def p154 (L3 : LT154_3) : FT154 := fun R a0 k =>
L3 R a0 (0 : Int) ([] : (List (List Int))) (fun x1 x2 x3 =>
(match (decide (0 ≤ x2 ∧ x2 ≤ (List.length x1 : Int) ∧ (List.length x1 : Int) ≤ (List.length x1 : Int) ∧ (List.length x1 : Int) ≤ (List.length x1 : Int))) with
| true => let v4 : (List Int) := (List.take (Int.toNat ((List.length x1 : Int) - x2)) (List.drop (Int.toNat x2) x1));
k x3 v4
| false => none))
theorem q154 (L3 : LT154_3) (L6 : LT154_6) (F : FT154) (R : Type) (x : AT (en154 F).ins) (k : RT (en154 F).outs → PT (en154 F).ins → Option R) :
  xfun (e154 L3 L6 R) (codeOf Tryz.f154) res154 (avs (en154 F).ins x) (finK (en154 F).outs (en154 F).ins k) = p154 L3 R x.1 (fun y1 y2 => k (y1, y2, ()) ()) := by kernel_rfl
noncomputable def F154 : FT154 := p154 (G154_3 FUEL)
theorem env154 (R : Type) : EnvOK Tryz.prog (e154 (G154_3 FUEL) (G154_6 FUEL) R) := ⟨tabOK, eqOK, callOf_ok allE_nil, noIns, inlOK_nil⟩
noncomputable def T154_6 : (R : Type) → HT (le154_6 (G154_6 FUEL)).H → (HT (le154_6 (G154_6 FUEL)).H → Option R) → KT R (le154_6 (G154_6 FUEL)).exs → Option R := fun R x kc ke => p154_6 R x.1 x.2.1 x.2.2.1 x.2.2.2.1 x.2.2.2.2.1 (fun x1 x2 x3 x4 x5 => kc (x1, x2, x3, x4, x5, ())) (fun y1 y2 y3 y4 => ke.1 (y1, y2, y3, y4, ()))
theorem it154_6 : ∀ (n : Nat) (R : Type) (x : HT (le154_6 (G154_6 FUEL)).H) (ke : KT R (le154_6 (G154_6 FUEL)).exs), iter T154_6 n R x ke = G154_6 n R x.1 x.2.1 x.2.2.1 x.2.2.2.1 x.2.2.2.2.1 (fun y1 y2 y3 y4 => ke.1 (y1, y2, y3, y4, ())) := by
  intro n
  induction n with
  | zero => intro R x ke; rfl
  | succ n ih =>
    intro R x ke
    show T154_6 R x (fun x' => iter T154_6 n R x' ke) ke = _
    rw [show (fun x' => iter T154_6 n R x' ke) = fun x => G154_6 n R x.1 x.2.1 x.2.2.1 x.2.2.2.1 x.2.2.2.2.1 (fun y1 y2 y3 y4 => ke.1 (y1, y2, y3, y4, ())) from funext fun x' => ih R x' ke]
    rfl
theorem lok154_6 : (le154_6 (G154_6 FUEL)).OK Tryz.prog 0 35 (lcode 6 (codeOf Tryz.f154)) := fun R x ke r h =>
  iter_sound (fun R => e154 (G154_3 FUEL) (G154_6 FUEL) R) 0 35 (fun _ => rfl) (fun _ => rfl) (fun R => env154 R) mixed (by
    intro R
    rw [show loopsOf (lcode 6 (codeOf Tryz.f154)) = [] from by kernel_rfl]
    exact allM_nil) (T := T154_6) (fun R x kc ke => q154_6 (G154_3 FUEL) (G154_6 FUEL) R x kc ke) FUEL R x ke r ((it154_6 FUEL R x ke).trans h)
noncomputable def T154_3 : (R : Type) → HT (le154_3 (G154_3 FUEL)).H → (HT (le154_3 (G154_3 FUEL)).H → Option R) → KT R (le154_3 (G154_3 FUEL)).exs → Option R := fun R x kc ke => p154_3 (G154_6 FUEL) R x.1 x.2.1 x.2.2.1 (fun x1 x2 x3 => kc (x1, x2, x3, ())) (fun y1 y2 y3 => ke.1 (y1, y2, y3, ()))
theorem it154_3 : ∀ (n : Nat) (R : Type) (x : HT (le154_3 (G154_3 FUEL)).H) (ke : KT R (le154_3 (G154_3 FUEL)).exs), iter T154_3 n R x ke = G154_3 n R x.1 x.2.1 x.2.2.1 (fun y1 y2 y3 => ke.1 (y1, y2, y3, ())) := by
  intro n
  induction n with
  | zero => intro R x ke; rfl
  | succ n ih =>
    intro R x ke
    show T154_3 R x (fun x' => iter T154_3 n R x' ke) ke = _
    rw [show (fun x' => iter T154_3 n R x' ke) = fun x => G154_3 n R x.1 x.2.1 x.2.2.1 (fun y1 y2 y3 => ke.1 (y1, y2, y3, ())) from funext fun x' => ih R x' ke]
    rfl
theorem lok154_3 : (le154_3 (G154_3 FUEL)).OK Tryz.prog 0 35 (lcode 3 (codeOf Tryz.f154)) := fun R x ke r h =>
  iter_sound (fun R => e154 (G154_3 FUEL) (G154_6 FUEL) R) 0 35 (fun _ => rfl) (fun _ => rfl) (fun R => env154 R) mixed (by
    intro R
    rw [show loopsOf (lcode 3 (codeOf Tryz.f154)) = [lcode 6 (codeOf Tryz.f154)] from by kernel_rfl]
    exact (allM_cons (loop_ok2 (e := le154_6 (G154_6 FUEL)) rfl rfl lok154_6) allM_nil)) (T := T154_3) (fun R x kc ke => q154_3 (G154_3 FUEL) (G154_6 FUEL) R x kc ke) FUEL R x ke r ((it154_3 FUEL R x ke).trans h)
theorem ok154 : (en154 F154).OK Tryz.prog :=
  ent_ok (Ef := fun R => e154 (G154_3 FUEL) (G154_6 FUEL) R) (fun R => env154 R) mixed Tryz.func154 (body := codeOf Tryz.f154) (by kernel_rfl) (by kernel_rfl) (np := 0) (nt := 35) (fun _ => rfl) (fun _ => rfl) (by kernel_rfl) (res := res154) (by kernel_rfl) (fun _ => rfl) (fun _ => Nat.le_of_ble_eq_true rfl) (by
    intro R
    rw [show loopsOf (codeOf Tryz.f154) = [lcode 3 (codeOf Tryz.f154)] from by kernel_rfl]
    exact (allM_cons (loop_ok2 (e := le154_3 (G154_3 FUEL)) rfl rfl lok154_3) allM_nil)) (fun R x k => q154 (G154_3 FUEL) (G154_6 FUEL) F154 R x k)
abbrev FT158 : Type 1 := (R : Type) → ((List Int) → Option R) → Option R
def en158 (F : FT158) : Ent := ⟨158, [], [(false, (.arr 8 (.int .u32)))], fun R x k => F R  (fun y1 => k (y1, ()) ())⟩
def res158 : List (ResultVar × TypeId × Bool) := [(.cell 0 186, 186, false)]
noncomputable def e158 (R : Type) : Env R := ⟨TT, EQT, 0, 2, ownOf [], callOf [] R, loopOf [] R, [], inlOf []⟩
def p158 : FT158 := fun R k =>
let v1 : (List Int) := (List.set (List.set (List.set (List.set (List.set (List.set (List.set (List.set (List.replicate 8 (0 : Int)) 0 (1779033703 : Int)) 1 (3144134277 : Int)) 2 (1013904242 : Int)) 3 (2773480762 : Int)) 4 (1359893119 : Int)) 5 (2600822924 : Int)) 6 (528734635 : Int)) 7 (1541459225 : Int));
k v1
theorem q158 (F : FT158) (R : Type) (x : AT (en158 F).ins) (k : RT (en158 F).outs → PT (en158 F).ins → Option R) :
  xfun (e158 R) (codeOf Tryz.f158) res158 (avs (en158 F).ins x) (finK (en158 F).outs (en158 F).ins k) = p158 R  (fun y1 => k (y1, ()) ()) := by kernel_rfl
noncomputable def F158 : FT158 := p158
theorem env158 (R : Type) : EnvOK Tryz.prog (e158 R) := ⟨tabOK, eqOK, callOf_ok allE_nil, noIns, inlOK_nil⟩
theorem ok158 : (en158 F158).OK Tryz.prog :=
  ent_ok (Ef := fun R => e158 R) (fun R => env158 R) mixed Tryz.func158 (body := codeOf Tryz.f158) (by kernel_rfl) (by kernel_rfl) (np := 0) (nt := 2) (fun _ => rfl) (fun _ => rfl) (by kernel_rfl) (res := res158) (by kernel_rfl) (fun _ => rfl) (fun _ => Nat.le_of_ble_eq_true rfl) (by
    intro R
    rw [show loopsOf (codeOf Tryz.f158) = [] from by kernel_rfl]
    exact allM_nil) (fun R x k => q158 F158 R x k)
abbrev FT179 : Type 1 := (R : Type) → (List Int) → (Int → Option R) → Option R
def en179 (F : FT179) : Ent := ⟨179, [(false, (.arr 4 (.int .u8)))], [(false, (.int .u32))], fun R x k => F R x.1 (fun y1 => k (y1, ()) ())⟩
def res179 : List (ResultVar × TypeId × Bool) := [(.tmp 2, 84, false)]
abbrev LT179_3 : Type 1 := (R : Type) → Int → Int → (List Int) → (Int → Option R) → Option R
def le179_3 (L : LT179_3) : LEnt := ⟨3, [.fix 1 (.ptr 0 [] (.arr 4 (.int .u8))), .val 3 (.int .u32), .val 4 (.int .i64), .var 0 (.arr 4 (.int .u8)) false], 1, [(.exit 0, [.val 3 (.int .u32)])], fun R x ke => L R x.1 x.2.1 x.2.2.1 (fun y1 => ke.1 (y1, ()))⟩
noncomputable def e179 (L3 : LT179_3) (R : Type) : Env R := ⟨TT, EQT, 0, 17, ownOf [], callOf [] R, loopOf [le179_3 L3] R, [], inlOf []⟩
def p179_3 : (R : Type) → Int → Int → (List Int) → (Int → Int → (List Int) → Option R) → (Int → Option R) → Option R := fun R x1 x2 x3 kc k0 =>
let v4 : Bool := (decide (x2 < (4 : Int)));
(match v4 with
| true => let v5 : Int := (IntKind.u32.wrap (x1 * (256 : Int)));
(match (bnd x2 (4 : Int)) with
| true => let v6 : Int := (List.getD x3 (Int.toNat x2) (0 : Int));
let v7 : Int := (IntKind.u32.wrap v6);
let v8 : Int := (IntKind.u32.wrap (v5 + v7));
let v9 : Int := (IntKind.i64.wrap (x2 + (1 : Int)));
kc v8 v9 x3
| false => none)
| false => k0 x1)
theorem q179_3 (L3 : LT179_3) (R : Type) (x : HT (le179_3 L3).H) (kc : HT (le179_3 L3).H → Option R) (ke : KT R (le179_3 L3).exs) :
  exec (e179 L3 R) (lcode 3 (codeOf Tryz.f179)) (stOf (le179_3 L3).H x 1) (roundK (le179_3 L3).H (le179_3 L3).exs kc ke) =
    p179_3 R x.1 x.2.1 x.2.2.1 (fun x1 x2 x3 => kc (x1, x2, x3, ())) (fun y1 => ke.1 (y1, ())) := by kernel_rfl
noncomputable def G179_3 : Nat → LT179_3
  | 0 => fun _ _ _ _ _ => none
  | n + 1 => fun R x1 x2 x3 k0 => p179_3 R x1 x2 x3 (fun x1 x2 x3 => G179_3 n R x1 x2 x3 k0) k0
def p179 (L3 : LT179_3) : FT179 := fun R a0 k =>
L3 R (0 : Int) (0 : Int) a0 (fun x1 =>
k x1)
theorem q179 (L3 : LT179_3) (F : FT179) (R : Type) (x : AT (en179 F).ins) (k : RT (en179 F).outs → PT (en179 F).ins → Option R) :
  xfun (e179 L3 R) (codeOf Tryz.f179) res179 (avs (en179 F).ins x) (finK (en179 F).outs (en179 F).ins k) = p179 L3 R x.1 (fun y1 => k (y1, ()) ()) := by kernel_rfl
noncomputable def F179 : FT179 := p179 (G179_3 FUEL)
theorem env179 (R : Type) : EnvOK Tryz.prog (e179 (G179_3 FUEL) R) := ⟨tabOK, eqOK, callOf_ok allE_nil, noIns, inlOK_nil⟩
noncomputable def T179_3 : (R : Type) → HT (le179_3 (G179_3 FUEL)).H → (HT (le179_3 (G179_3 FUEL)).H → Option R) → KT R (le179_3 (G179_3 FUEL)).exs → Option R := fun R x kc ke => p179_3 R x.1 x.2.1 x.2.2.1 (fun x1 x2 x3 => kc (x1, x2, x3, ())) (fun y1 => ke.1 (y1, ()))
theorem it179_3 : ∀ (n : Nat) (R : Type) (x : HT (le179_3 (G179_3 FUEL)).H) (ke : KT R (le179_3 (G179_3 FUEL)).exs), iter T179_3 n R x ke = G179_3 n R x.1 x.2.1 x.2.2.1 (fun y1 => ke.1 (y1, ())) := by
  intro n
  induction n with
  | zero => intro R x ke; rfl
  | succ n ih =>
    intro R x ke
    show T179_3 R x (fun x' => iter T179_3 n R x' ke) ke = _
    rw [show (fun x' => iter T179_3 n R x' ke) = fun x => G179_3 n R x.1 x.2.1 x.2.2.1 (fun y1 => ke.1 (y1, ())) from funext fun x' => ih R x' ke]
    rfl
theorem lok179_3 : (le179_3 (G179_3 FUEL)).OK Tryz.prog 0 17 (lcode 3 (codeOf Tryz.f179)) := fun R x ke r h =>
  iter_sound (fun R => e179 (G179_3 FUEL) R) 0 17 (fun _ => rfl) (fun _ => rfl) (fun R => env179 R) mixed (by
    intro R
    rw [show loopsOf (lcode 3 (codeOf Tryz.f179)) = [] from by kernel_rfl]
    exact allM_nil) (T := T179_3) (fun R x kc ke => q179_3 (G179_3 FUEL) R x kc ke) FUEL R x ke r ((it179_3 FUEL R x ke).trans h)
theorem ok179 : (en179 F179).OK Tryz.prog :=
  ent_ok (Ef := fun R => e179 (G179_3 FUEL) R) (fun R => env179 R) mixed Tryz.func179 (body := codeOf Tryz.f179) (by kernel_rfl) (by kernel_rfl) (np := 0) (nt := 17) (fun _ => rfl) (fun _ => rfl) (by kernel_rfl) (res := res179) (by kernel_rfl) (fun _ => rfl) (fun _ => Nat.le_of_ble_eq_true rfl) (by
    intro R
    rw [show loopsOf (codeOf Tryz.f179) = [lcode 3 (codeOf Tryz.f179)] from by kernel_rfl]
    exact (allM_cons (loop_ok2 (e := le179_3 (G179_3 FUEL)) rfl rfl lok179_3) allM_nil)) (fun R x k => q179 (G179_3 FUEL) F179 R x k)
abbrev FT190 : Type 1 := (R : Type) → Int → Int → (Int → Option R) → Option R
def en190 (F : FT190) : Ent := ⟨190, [(false, (.int .u32)), (false, (.int .i64))], [(false, (.int .u32))], fun R x k => F R x.1 x.2.1 (fun y1 => k (y1, ()) ())⟩
def res190 : List (ResultVar × TypeId × Bool) := [(.tmp 4, 84, false)]
abbrev LT190_5 : Type 1 := (R : Type) → Int → Int → Int → (Int → Option R) → Option R
def le190_5 (L : LT190_5) : LEnt := ⟨5, [.val 0 (.int .u32), .val 1 (.int .i64), .val 5 (.int .i64)], 0, [(.exit 0, [.val 0 (.int .u32)])], fun R x ke => L R x.1 x.2.1 x.2.2.1 (fun y1 => ke.1 (y1, ()))⟩
noncomputable def e190 (L5 : LT190_5) (R : Type) : Env R := ⟨TT, EQT, 0, 24, ownOf [], callOf [] R, loopOf [le190_5 L5] R, [], inlOf []⟩
def p190_5 : (R : Type) → Int → Int → Int → (Int → Int → Int → Option R) → (Int → Option R) → Option R := fun R x1 x2 x3 kc k0 =>
let v4 : Bool := (decide (x3 < x2));
(match v4 with
| true => let v5 : Int := (IntKind.u32.wrap (Int.tdiv x1 (2 : Int)));
let v6 : Int := (Int.tmod x1 (2 : Int));
let v7 : Int := (IntKind.u32.wrap (v6 * (2147483648 : Int)));
let v8 : Int := (IntKind.u32.wrap (v5 + v7));
let v9 : Int := (IntKind.i64.wrap (x3 + (1 : Int)));
kc v8 x2 v9
| false => k0 x1)
theorem q190_5 (L5 : LT190_5) (R : Type) (x : HT (le190_5 L5).H) (kc : HT (le190_5 L5).H → Option R) (ke : KT R (le190_5 L5).exs) :
  exec (e190 L5 R) (lcode 5 (codeOf Tryz.f190)) (stOf (le190_5 L5).H x 0) (roundK (le190_5 L5).H (le190_5 L5).exs kc ke) =
    p190_5 R x.1 x.2.1 x.2.2.1 (fun x1 x2 x3 => kc (x1, x2, x3, ())) (fun y1 => ke.1 (y1, ())) := by kernel_rfl
noncomputable def G190_5 : Nat → LT190_5
  | 0 => fun _ _ _ _ _ => none
  | n + 1 => fun R x1 x2 x3 k0 => p190_5 R x1 x2 x3 (fun x1 x2 x3 => G190_5 n R x1 x2 x3 k0) k0
def p190 (L5 : LT190_5) : FT190 := fun R a0 a1 k =>
let v1 : Int := (Int.tmod a1 (32 : Int));
let v2 : Bool := (decide (v1 < (0 : Int)));
(match v2 with
| true => let v3 : Int := (IntKind.i64.wrap (v1 + (32 : Int)));
L5 R a0 v3 (0 : Int) (fun x4 =>
k x4)
| false => L5 R a0 v1 (0 : Int) (fun x5 =>
k x5))
theorem q190 (L5 : LT190_5) (F : FT190) (R : Type) (x : AT (en190 F).ins) (k : RT (en190 F).outs → PT (en190 F).ins → Option R) :
  xfun (e190 L5 R) (codeOf Tryz.f190) res190 (avs (en190 F).ins x) (finK (en190 F).outs (en190 F).ins k) = p190 L5 R x.1 x.2.1 (fun y1 => k (y1, ()) ()) := by kernel_rfl
noncomputable def F190 : FT190 := p190 (G190_5 FUEL)
theorem env190 (R : Type) : EnvOK Tryz.prog (e190 (G190_5 FUEL) R) := ⟨tabOK, eqOK, callOf_ok allE_nil, noIns, inlOK_nil⟩
noncomputable def T190_5 : (R : Type) → HT (le190_5 (G190_5 FUEL)).H → (HT (le190_5 (G190_5 FUEL)).H → Option R) → KT R (le190_5 (G190_5 FUEL)).exs → Option R := fun R x kc ke => p190_5 R x.1 x.2.1 x.2.2.1 (fun x1 x2 x3 => kc (x1, x2, x3, ())) (fun y1 => ke.1 (y1, ()))
theorem it190_5 : ∀ (n : Nat) (R : Type) (x : HT (le190_5 (G190_5 FUEL)).H) (ke : KT R (le190_5 (G190_5 FUEL)).exs), iter T190_5 n R x ke = G190_5 n R x.1 x.2.1 x.2.2.1 (fun y1 => ke.1 (y1, ())) := by
  intro n
  induction n with
  | zero => intro R x ke; rfl
  | succ n ih =>
    intro R x ke
    show T190_5 R x (fun x' => iter T190_5 n R x' ke) ke = _
    rw [show (fun x' => iter T190_5 n R x' ke) = fun x => G190_5 n R x.1 x.2.1 x.2.2.1 (fun y1 => ke.1 (y1, ())) from funext fun x' => ih R x' ke]
    rfl
theorem lok190_5 : (le190_5 (G190_5 FUEL)).OK Tryz.prog 0 24 (lcode 5 (codeOf Tryz.f190)) := fun R x ke r h =>
  iter_sound (fun R => e190 (G190_5 FUEL) R) 0 24 (fun _ => rfl) (fun _ => rfl) (fun R => env190 R) mixed (by
    intro R
    rw [show loopsOf (lcode 5 (codeOf Tryz.f190)) = [] from by kernel_rfl]
    exact allM_nil) (T := T190_5) (fun R x kc ke => q190_5 (G190_5 FUEL) R x kc ke) FUEL R x ke r ((it190_5 FUEL R x ke).trans h)
theorem ok190 : (en190 F190).OK Tryz.prog :=
  ent_ok (Ef := fun R => e190 (G190_5 FUEL) R) (fun R => env190 R) mixed Tryz.func190 (body := codeOf Tryz.f190) (by kernel_rfl) (by kernel_rfl) (np := 0) (nt := 24) (fun _ => rfl) (fun _ => rfl) (by kernel_rfl) (res := res190) (by kernel_rfl) (fun _ => rfl) (fun _ => Nat.le_of_ble_eq_true rfl) (by
    intro R
    rw [show loopsOf (codeOf Tryz.f190) = [lcode 5 (codeOf Tryz.f190)] from by kernel_rfl]
    exact (allM_cons (loop_ok2 (e := le190_5 (G190_5 FUEL)) rfl rfl lok190_5) allM_nil)) (fun R x k => q190 (G190_5 FUEL) F190 R x k)
abbrev FT139 : Type 1 := (R : Type) → Int → Int → (Int → Option R) → Option R
def en139 (F : FT139) : Ent := ⟨139, [(false, (.int .u32)), (false, (.int .i64))], [(false, (.int .u32))], fun R x k => F R x.1 x.2.1 (fun y1 => k (y1, ()) ())⟩
def res139 : List (ResultVar × TypeId × Bool) := [(.tmp 4, 84, false)]
abbrev LT139_4 : Type 1 := (R : Type) → Int → Int → Int → (Int → Option R) → Option R
def le139_4 (L : LT139_4) : LEnt := ⟨4, [.val 0 (.int .u32), .val 1 (.int .i64), .val 5 (.int .i64)], 0, [(.exit 0, [.val 0 (.int .u32)])], fun R x ke => L R x.1 x.2.1 x.2.2.1 (fun y1 => ke.1 (y1, ()))⟩
noncomputable def e139 (L4 : LT139_4) (R : Type) : Env R := ⟨TT, EQT, 0, 16, ownOf [], callOf [] R, loopOf [le139_4 L4] R, [], inlOf []⟩
def p139_4 : (R : Type) → Int → Int → Int → (Int → Int → Int → Option R) → (Int → Option R) → Option R := fun R x1 x2 x3 kc k0 =>
let v4 : Bool := (decide (x3 < x2));
(match v4 with
| true => let v5 : Int := (IntKind.u32.wrap (Int.tdiv x1 (2 : Int)));
let v6 : Int := (IntKind.i64.wrap (x3 + (1 : Int)));
kc v5 x2 v6
| false => k0 x1)
theorem q139_4 (L4 : LT139_4) (R : Type) (x : HT (le139_4 L4).H) (kc : HT (le139_4 L4).H → Option R) (ke : KT R (le139_4 L4).exs) :
  exec (e139 L4 R) (lcode 4 (codeOf Tryz.f139)) (stOf (le139_4 L4).H x 0) (roundK (le139_4 L4).H (le139_4 L4).exs kc ke) =
    p139_4 R x.1 x.2.1 x.2.2.1 (fun x1 x2 x3 => kc (x1, x2, x3, ())) (fun y1 => ke.1 (y1, ())) := by kernel_rfl
noncomputable def G139_4 : Nat → LT139_4
  | 0 => fun _ _ _ _ _ => none
  | n + 1 => fun R x1 x2 x3 k0 => p139_4 R x1 x2 x3 (fun x1 x2 x3 => G139_4 n R x1 x2 x3 k0) k0
def p139 (L4 : LT139_4) : FT139 := fun R a0 a1 k =>
let v1 : Bool := (decide (a1 > (31 : Int)));
(match v1 with
| true => k (0 : Int)
| false => L4 R a0 a1 (0 : Int) (fun x2 =>
k x2))
theorem q139 (L4 : LT139_4) (F : FT139) (R : Type) (x : AT (en139 F).ins) (k : RT (en139 F).outs → PT (en139 F).ins → Option R) :
  xfun (e139 L4 R) (codeOf Tryz.f139) res139 (avs (en139 F).ins x) (finK (en139 F).outs (en139 F).ins k) = p139 L4 R x.1 x.2.1 (fun y1 => k (y1, ()) ()) := by kernel_rfl
noncomputable def F139 : FT139 := p139 (G139_4 FUEL)
theorem env139 (R : Type) : EnvOK Tryz.prog (e139 (G139_4 FUEL) R) := ⟨tabOK, eqOK, callOf_ok allE_nil, noIns, inlOK_nil⟩
noncomputable def T139_4 : (R : Type) → HT (le139_4 (G139_4 FUEL)).H → (HT (le139_4 (G139_4 FUEL)).H → Option R) → KT R (le139_4 (G139_4 FUEL)).exs → Option R := fun R x kc ke => p139_4 R x.1 x.2.1 x.2.2.1 (fun x1 x2 x3 => kc (x1, x2, x3, ())) (fun y1 => ke.1 (y1, ()))
theorem it139_4 : ∀ (n : Nat) (R : Type) (x : HT (le139_4 (G139_4 FUEL)).H) (ke : KT R (le139_4 (G139_4 FUEL)).exs), iter T139_4 n R x ke = G139_4 n R x.1 x.2.1 x.2.2.1 (fun y1 => ke.1 (y1, ())) := by
  intro n
  induction n with
  | zero => intro R x ke; rfl
  | succ n ih =>
    intro R x ke
    show T139_4 R x (fun x' => iter T139_4 n R x' ke) ke = _
    rw [show (fun x' => iter T139_4 n R x' ke) = fun x => G139_4 n R x.1 x.2.1 x.2.2.1 (fun y1 => ke.1 (y1, ())) from funext fun x' => ih R x' ke]
    rfl
theorem lok139_4 : (le139_4 (G139_4 FUEL)).OK Tryz.prog 0 16 (lcode 4 (codeOf Tryz.f139)) := fun R x ke r h =>
  iter_sound (fun R => e139 (G139_4 FUEL) R) 0 16 (fun _ => rfl) (fun _ => rfl) (fun R => env139 R) mixed (by
    intro R
    rw [show loopsOf (lcode 4 (codeOf Tryz.f139)) = [] from by kernel_rfl]
    exact allM_nil) (T := T139_4) (fun R x kc ke => q139_4 (G139_4 FUEL) R x kc ke) FUEL R x ke r ((it139_4 FUEL R x ke).trans h)
theorem ok139 : (en139 F139).OK Tryz.prog :=
  ent_ok (Ef := fun R => e139 (G139_4 FUEL) R) (fun R => env139 R) mixed Tryz.func139 (body := codeOf Tryz.f139) (by kernel_rfl) (by kernel_rfl) (np := 0) (nt := 16) (fun _ => rfl) (fun _ => rfl) (by kernel_rfl) (res := res139) (by kernel_rfl) (fun _ => rfl) (fun _ => Nat.le_of_ble_eq_true rfl) (by
    intro R
    rw [show loopsOf (codeOf Tryz.f139) = [lcode 4 (codeOf Tryz.f139)] from by kernel_rfl]
    exact (allM_cons (loop_ok2 (e := le139_4 (G139_4 FUEL)) rfl rfl lok139_4) allM_nil)) (fun R x k => q139 (G139_4 FUEL) F139 R x k)
abbrev FT180 : Type 1 := (R : Type) → Int → (Int → Option R) → Option R
def en180 (F : FT180) : Ent := ⟨180, [(false, (.int .u32))], [(false, (.int .u32))], fun R x k => F R x.1 (fun y1 => k (y1, ()) ())⟩
def res180 : List (ResultVar × TypeId × Bool) := [(.tmp 2, 84, false)]
noncomputable def e180 (F139 : FT139) (F190 : FT190) (R : Type) : Env R := ⟨TT, EQT, 0, 11, ownOf [], callOf [en139 F139, en190 F190] R, loopOf [] R, [], inlOf []⟩
def p180 (F139 : FT139) (F190 : FT190) : FT180 := fun R a0 k =>
F190 R a0 (17 : Int) fun y1 =>
F190 R a0 (19 : Int) fun y2 =>
let v3 : Int := (ixor .u32 y1 y2);
F139 R a0 (10 : Int) fun y4 =>
let v5 : Int := (ixor .u32 v3 y4);
k v5
theorem q180 (F139 : FT139) (F190 : FT190) (F : FT180) (R : Type) (x : AT (en180 F).ins) (k : RT (en180 F).outs → PT (en180 F).ins → Option R) :
  xfun (e180 F139 F190 R) (codeOf Tryz.f180) res180 (avs (en180 F).ins x) (finK (en180 F).outs (en180 F).ins k) = p180 F139 F190 R x.1 (fun y1 => k (y1, ()) ()) := by kernel_rfl
noncomputable def F180 : FT180 := p180 F139 F190
theorem env180 (R : Type) : EnvOK Tryz.prog (e180 F139 F190 R) := ⟨tabOK, eqOK, callOf_ok (allE_cons ok139 (allE_cons ok190 allE_nil)), noIns, inlOK_nil⟩
theorem ok180 : (en180 F180).OK Tryz.prog :=
  ent_ok (Ef := fun R => e180 F139 F190 R) (fun R => env180 R) mixed Tryz.func180 (body := codeOf Tryz.f180) (by kernel_rfl) (by kernel_rfl) (np := 0) (nt := 11) (fun _ => rfl) (fun _ => rfl) (by kernel_rfl) (res := res180) (by kernel_rfl) (fun _ => rfl) (fun _ => Nat.le_of_ble_eq_true rfl) (by
    intro R
    rw [show loopsOf (codeOf Tryz.f180) = [] from by kernel_rfl]
    exact allM_nil) (fun R x k => q180 F139 F190 F180 R x k)
abbrev FT181 : Type 1 := (R : Type) → Int → (Int → Option R) → Option R
def en181 (F : FT181) : Ent := ⟨181, [(false, (.int .u32))], [(false, (.int .u32))], fun R x k => F R x.1 (fun y1 => k (y1, ()) ())⟩
def res181 : List (ResultVar × TypeId × Bool) := [(.tmp 2, 84, false)]
noncomputable def e181 (F139 : FT139) (F190 : FT190) (R : Type) : Env R := ⟨TT, EQT, 0, 11, ownOf [], callOf [en139 F139, en190 F190] R, loopOf [] R, [], inlOf []⟩
def p181 (F139 : FT139) (F190 : FT190) : FT181 := fun R a0 k =>
F190 R a0 (7 : Int) fun y1 =>
F190 R a0 (18 : Int) fun y2 =>
let v3 : Int := (ixor .u32 y1 y2);
F139 R a0 (3 : Int) fun y4 =>
let v5 : Int := (ixor .u32 v3 y4);
k v5
theorem q181 (F139 : FT139) (F190 : FT190) (F : FT181) (R : Type) (x : AT (en181 F).ins) (k : RT (en181 F).outs → PT (en181 F).ins → Option R) :
  xfun (e181 F139 F190 R) (codeOf Tryz.f181) res181 (avs (en181 F).ins x) (finK (en181 F).outs (en181 F).ins k) = p181 F139 F190 R x.1 (fun y1 => k (y1, ()) ()) := by kernel_rfl
noncomputable def F181 : FT181 := p181 F139 F190
theorem env181 (R : Type) : EnvOK Tryz.prog (e181 F139 F190 R) := ⟨tabOK, eqOK, callOf_ok (allE_cons ok139 (allE_cons ok190 allE_nil)), noIns, inlOK_nil⟩
theorem ok181 : (en181 F181).OK Tryz.prog :=
  ent_ok (Ef := fun R => e181 F139 F190 R) (fun R => env181 R) mixed Tryz.func181 (body := codeOf Tryz.f181) (by kernel_rfl) (by kernel_rfl) (np := 0) (nt := 11) (fun _ => rfl) (fun _ => rfl) (by kernel_rfl) (res := res181) (by kernel_rfl) (fun _ => rfl) (fun _ => Nat.le_of_ble_eq_true rfl) (by
    intro R
    rw [show loopsOf (codeOf Tryz.f181) = [] from by kernel_rfl]
    exact allM_nil) (fun R x k => q181 F139 F190 F181 R x k)
abbrev FT173 : Type 1 := (R : Type) → (List Int) → ((List Int) → Option R) → Option R
def en173 (F : FT173) : Ent := ⟨173, [(false, (.arr 64 (.int .u8)))], [(false, (.arr 64 (.int .u32)))], fun R x k => F R x.1 (fun y1 => k (y1, ()) ())⟩
def res173 : List (ResultVar × TypeId × Bool) := [(.cell 2 214, 214, false)]
abbrev LT173_3 : Type 1 := (R : Type) → Int → (List Int) → (List Int) → (List Int) → ((List Int) → (List Int) → Option R) → Option R
def le173_3 (L : LT173_3) : LEnt := ⟨3, [.fix 1 (.ptr 0 [] (.arr 64 (.int .u8))), .fix 2 (.ptr 1 [] (.arr 64 (.int .u32))), .fix 3 (.ptr 2 [] (.arr 64 (.int .u32))), .val 4 (.int .i64), .var 0 (.arr 64 (.int .u8)) false, .var 1 (.arr 64 (.int .u32)) false, .var 2 (.arr 64 (.int .u32)) false], 3, [(.exit 0, [.fix 2 (.ptr 1 [] (.arr 64 (.int .u32))), .fix 3 (.ptr 2 [] (.arr 64 (.int .u32))), .var 1 (.arr 64 (.int .u32)) false, .var 2 (.arr 64 (.int .u32)) false])], fun R x ke => L R x.1 x.2.1 x.2.2.1 x.2.2.2.1 (fun y1 y2 => ke.1 (y1, y2, ()))⟩
abbrev LT173_7 : Type 1 := (R : Type) → Int → (List Int) → (List Int) → ((List Int) → (List Int) → Option R) → Option R
def le173_7 (L : LT173_7) : LEnt := ⟨7, [.fix 2 (.ptr 1 [] (.arr 64 (.int .u32))), .fix 3 (.ptr 2 [] (.arr 64 (.int .u32))), .val 5 (.int .i64), .var 1 (.arr 64 (.int .u32)) false, .var 2 (.arr 64 (.int .u32)) false], 3, [(.exit 2, [.fix 2 (.ptr 1 [] (.arr 64 (.int .u32))), .fix 3 (.ptr 2 [] (.arr 64 (.int .u32))), .var 1 (.arr 64 (.int .u32)) false, .var 2 (.arr 64 (.int .u32)) false])], fun R x ke => L R x.1 x.2.1 x.2.2.1 (fun y1 y2 => ke.1 (y1, y2, ()))⟩
noncomputable def e173 (F179 : FT179) (F180 : FT180) (F181 : FT181) (L3 : LT173_3) (L7 : LT173_7) (R : Type) : Env R := ⟨TT, EQT, 0, 61, ownOf [], callOf [en179 F179, en180 F180, en181 F181] R, loopOf [le173_3 L3, le173_7 L7] R, [], inlOf []⟩
def p173_3 (F179 : FT179) : (R : Type) → Int → (List Int) → (List Int) → (List Int) → (Int → (List Int) → (List Int) → (List Int) → Option R) → ((List Int) → (List Int) → Option R) → Option R := fun R x1 x2 x3 x4 kc k0 =>
let v5 : Bool := (decide (x1 < (16 : Int)));
(match v5 with
| true => let v6 : Int := (IntKind.i64.wrap ((4 : Int) * x1));
(match (bnd v6 (64 : Int)) with
| true => let v7 : Int := (List.getD x2 (Int.toNat v6) (0 : Int));
let v8 : Int := (IntKind.i64.wrap ((4 : Int) * x1));
let v9 : Int := (IntKind.i64.wrap (v8 + (1 : Int)));
(match (bnd v9 (64 : Int)) with
| true => let v10 : Int := (List.getD x2 (Int.toNat v9) (0 : Int));
let v11 : Int := (IntKind.i64.wrap ((4 : Int) * x1));
let v12 : Int := (IntKind.i64.wrap (v11 + (2 : Int)));
(match (bnd v12 (64 : Int)) with
| true => let v13 : Int := (List.getD x2 (Int.toNat v12) (0 : Int));
let v14 : Int := (IntKind.i64.wrap ((4 : Int) * x1));
let v15 : Int := (IntKind.i64.wrap (v14 + (3 : Int)));
(match (bnd v15 (64 : Int)) with
| true => let v16 : Int := (List.getD x2 (Int.toNat v15) (0 : Int));
let v17 : (List Int) := (List.set (List.set (List.set (List.set (List.replicate 4 (0 : Int)) 0 v7) 1 v10) 2 v13) 3 v16);
F179 R v17 fun y18 =>
(match (bnd x1 (64 : Int)) with
| true => let v19 : (List Int) := (List.set x4 (Int.toNat x1) y18);
let v20 : Int := (IntKind.i64.wrap (x1 + (1 : Int)));
kc v20 x2 x3 v19
| false => none)
| false => none)
| false => none)
| false => none)
| false => none)
| false => k0 x3 x4)
theorem q173_3 (F179 : FT179) (F180 : FT180) (F181 : FT181) (L3 : LT173_3) (L7 : LT173_7) (R : Type) (x : HT (le173_3 L3).H) (kc : HT (le173_3 L3).H → Option R) (ke : KT R (le173_3 L3).exs) :
  exec (e173 F179 F180 F181 L3 L7 R) (lcode 3 (codeOf Tryz.f173)) (stOf (le173_3 L3).H x 3) (roundK (le173_3 L3).H (le173_3 L3).exs kc ke) =
    p173_3 F179 R x.1 x.2.1 x.2.2.1 x.2.2.2.1 (fun x1 x2 x3 x4 => kc (x1, x2, x3, x4, ())) (fun y1 y2 => ke.1 (y1, y2, ())) := by kernel_rfl
noncomputable def G173_3 : Nat → LT173_3
  | 0 => fun _ _ _ _ _ _ => none
  | n + 1 => fun R x1 x2 x3 x4 k0 => p173_3 F179 R x1 x2 x3 x4 (fun x1 x2 x3 x4 => G173_3 n R x1 x2 x3 x4 k0) k0
def p173_7 (F180 : FT180) (F181 : FT181) : (R : Type) → Int → (List Int) → (List Int) → (Int → (List Int) → (List Int) → Option R) → ((List Int) → (List Int) → Option R) → Option R := fun R x1 x2 x3 kc k0 =>
let v4 : Bool := (decide (x1 < (64 : Int)));
(match v4 with
| true => let v5 : Int := (IntKind.i64.wrap (x1 - (2 : Int)));
(match (bnd v5 (64 : Int)) with
| true => let v6 : Int := (List.getD x3 (Int.toNat v5) (0 : Int));
F180 R v6 fun y7 =>
let v8 : Int := (IntKind.i64.wrap (x1 - (7 : Int)));
(match (bnd v8 (64 : Int)) with
| true => let v9 : Int := (List.getD x3 (Int.toNat v8) (0 : Int));
let v10 : Int := (IntKind.u32.wrap (y7 + v9));
let v11 : Int := (IntKind.i64.wrap (x1 - (15 : Int)));
(match (bnd v11 (64 : Int)) with
| true => let v12 : Int := (List.getD x3 (Int.toNat v11) (0 : Int));
F181 R v12 fun y13 =>
let v14 : Int := (IntKind.u32.wrap (v10 + y13));
let v15 : Int := (IntKind.i64.wrap (x1 - (16 : Int)));
(match (bnd v15 (64 : Int)) with
| true => let v16 : Int := (List.getD x3 (Int.toNat v15) (0 : Int));
let v17 : Int := (IntKind.u32.wrap (v14 + v16));
(match (bnd x1 (64 : Int)) with
| true => let v18 : (List Int) := (List.set x3 (Int.toNat x1) v17);
let v19 : Int := (IntKind.i64.wrap (x1 + (1 : Int)));
kc v19 x2 v18
| false => none)
| false => none)
| false => none)
| false => none)
| false => none)
| false => k0 x2 x3)
theorem q173_7 (F179 : FT179) (F180 : FT180) (F181 : FT181) (L3 : LT173_3) (L7 : LT173_7) (R : Type) (x : HT (le173_7 L7).H) (kc : HT (le173_7 L7).H → Option R) (ke : KT R (le173_7 L7).exs) :
  exec (e173 F179 F180 F181 L3 L7 R) (lcode 7 (codeOf Tryz.f173)) (stOf (le173_7 L7).H x 3) (roundK (le173_7 L7).H (le173_7 L7).exs kc ke) =
    p173_7 F180 F181 R x.1 x.2.1 x.2.2.1 (fun x1 x2 x3 => kc (x1, x2, x3, ())) (fun y1 y2 => ke.1 (y1, y2, ())) := by kernel_rfl
noncomputable def G173_7 : Nat → LT173_7
  | 0 => fun _ _ _ _ _ => none
  | n + 1 => fun R x1 x2 x3 k0 => p173_7 F180 F181 R x1 x2 x3 (fun x1 x2 x3 => G173_7 n R x1 x2 x3 k0) k0
def p173 (L3 : LT173_3) (L7 : LT173_7) : FT173 := fun R a0 k =>
L3 R (0 : Int) a0 (List.replicate 64 (0 : Int)) (List.replicate 64 (0 : Int)) (fun x1 x2 =>
L7 R (16 : Int) x1 x2 (fun x3 x4 =>
k x4))
theorem q173 (F179 : FT179) (F180 : FT180) (F181 : FT181) (L3 : LT173_3) (L7 : LT173_7) (F : FT173) (R : Type) (x : AT (en173 F).ins) (k : RT (en173 F).outs → PT (en173 F).ins → Option R) :
  xfun (e173 F179 F180 F181 L3 L7 R) (codeOf Tryz.f173) res173 (avs (en173 F).ins x) (finK (en173 F).outs (en173 F).ins k) = p173 L3 L7 R x.1 (fun y1 => k (y1, ()) ()) := by kernel_rfl
noncomputable def F173 : FT173 := p173 (G173_3 FUEL) (G173_7 FUEL)
theorem env173 (R : Type) : EnvOK Tryz.prog (e173 F179 F180 F181 (G173_3 FUEL) (G173_7 FUEL) R) := ⟨tabOK, eqOK, callOf_ok (allE_cons ok179 (allE_cons ok180 (allE_cons ok181 allE_nil))), noIns, inlOK_nil⟩
noncomputable def T173_3 : (R : Type) → HT (le173_3 (G173_3 FUEL)).H → (HT (le173_3 (G173_3 FUEL)).H → Option R) → KT R (le173_3 (G173_3 FUEL)).exs → Option R := fun R x kc ke => p173_3 F179 R x.1 x.2.1 x.2.2.1 x.2.2.2.1 (fun x1 x2 x3 x4 => kc (x1, x2, x3, x4, ())) (fun y1 y2 => ke.1 (y1, y2, ()))
theorem it173_3 : ∀ (n : Nat) (R : Type) (x : HT (le173_3 (G173_3 FUEL)).H) (ke : KT R (le173_3 (G173_3 FUEL)).exs), iter T173_3 n R x ke = G173_3 n R x.1 x.2.1 x.2.2.1 x.2.2.2.1 (fun y1 y2 => ke.1 (y1, y2, ())) := by
  intro n
  induction n with
  | zero => intro R x ke; rfl
  | succ n ih =>
    intro R x ke
    show T173_3 R x (fun x' => iter T173_3 n R x' ke) ke = _
    rw [show (fun x' => iter T173_3 n R x' ke) = fun x => G173_3 n R x.1 x.2.1 x.2.2.1 x.2.2.2.1 (fun y1 y2 => ke.1 (y1, y2, ())) from funext fun x' => ih R x' ke]
    rfl
theorem lok173_3 : (le173_3 (G173_3 FUEL)).OK Tryz.prog 0 61 (lcode 3 (codeOf Tryz.f173)) := fun R x ke r h =>
  iter_sound (fun R => e173 F179 F180 F181 (G173_3 FUEL) (G173_7 FUEL) R) 0 61 (fun _ => rfl) (fun _ => rfl) (fun R => env173 R) mixed (by
    intro R
    rw [show loopsOf (lcode 3 (codeOf Tryz.f173)) = [] from by kernel_rfl]
    exact allM_nil) (T := T173_3) (fun R x kc ke => q173_3 F179 F180 F181 (G173_3 FUEL) (G173_7 FUEL) R x kc ke) FUEL R x ke r ((it173_3 FUEL R x ke).trans h)
noncomputable def T173_7 : (R : Type) → HT (le173_7 (G173_7 FUEL)).H → (HT (le173_7 (G173_7 FUEL)).H → Option R) → KT R (le173_7 (G173_7 FUEL)).exs → Option R := fun R x kc ke => p173_7 F180 F181 R x.1 x.2.1 x.2.2.1 (fun x1 x2 x3 => kc (x1, x2, x3, ())) (fun y1 y2 => ke.1 (y1, y2, ()))
theorem it173_7 : ∀ (n : Nat) (R : Type) (x : HT (le173_7 (G173_7 FUEL)).H) (ke : KT R (le173_7 (G173_7 FUEL)).exs), iter T173_7 n R x ke = G173_7 n R x.1 x.2.1 x.2.2.1 (fun y1 y2 => ke.1 (y1, y2, ())) := by
  intro n
  induction n with
  | zero => intro R x ke; rfl
  | succ n ih =>
    intro R x ke
    show T173_7 R x (fun x' => iter T173_7 n R x' ke) ke = _
    rw [show (fun x' => iter T173_7 n R x' ke) = fun x => G173_7 n R x.1 x.2.1 x.2.2.1 (fun y1 y2 => ke.1 (y1, y2, ())) from funext fun x' => ih R x' ke]
    rfl
theorem lok173_7 : (le173_7 (G173_7 FUEL)).OK Tryz.prog 0 61 (lcode 7 (codeOf Tryz.f173)) := fun R x ke r h =>
  iter_sound (fun R => e173 F179 F180 F181 (G173_3 FUEL) (G173_7 FUEL) R) 0 61 (fun _ => rfl) (fun _ => rfl) (fun R => env173 R) mixed (by
    intro R
    rw [show loopsOf (lcode 7 (codeOf Tryz.f173)) = [] from by kernel_rfl]
    exact allM_nil) (T := T173_7) (fun R x kc ke => q173_7 F179 F180 F181 (G173_3 FUEL) (G173_7 FUEL) R x kc ke) FUEL R x ke r ((it173_7 FUEL R x ke).trans h)
theorem ok173 : (en173 F173).OK Tryz.prog :=
  ent_ok (Ef := fun R => e173 F179 F180 F181 (G173_3 FUEL) (G173_7 FUEL) R) (fun R => env173 R) mixed Tryz.func173 (body := codeOf Tryz.f173) (by kernel_rfl) (by kernel_rfl) (np := 0) (nt := 61) (fun _ => rfl) (fun _ => rfl) (by kernel_rfl) (res := res173) (by kernel_rfl) (fun _ => rfl) (fun _ => Nat.le_of_ble_eq_true rfl) (by
    intro R
    rw [show loopsOf (codeOf Tryz.f173) = [lcode 3 (codeOf Tryz.f173), lcode 7 (codeOf Tryz.f173)] from by kernel_rfl]
    exact (allM_cons (loop_ok2 (e := le173_3 (G173_3 FUEL)) rfl rfl lok173_3) (allM_cons (loop_ok2 (e := le173_7 (G173_7 FUEL)) rfl rfl lok173_7) allM_nil))) (fun R x k => q173 F179 F180 F181 (G173_3 FUEL) (G173_7 FUEL) F173 R x k)
abbrev FT175 : Type 1 := (R : Type) → Int → (Int → Option R) → Option R
def en175 (F : FT175) : Ent := ⟨175, [(false, (.int .i64))], [(false, (.int .u32))], fun R x k => F R x.1 (fun y1 => k (y1, ()) ())⟩
def res175 : List (ResultVar × TypeId × Bool) := [(.tmp 2, 84, false)]
noncomputable def e175 (R : Type) : Env R := ⟨TT, EQT, 0, 12, ownOf [], callOf [] R, loopOf [] R, [], inlOf []⟩
def p175 : FT175 := fun R a0 k =>
let v1 : Bool := (decide (a0 < (0 : Int)));
(match v1 with
| true => k (0 : Int)
| false => let v2 : Bool := (decide (a0 > (63 : Int)));
(match v2 with
| true => k (0 : Int)
| false => let v3 : (List Int) := (List.set (List.set (List.set (List.set (List.set (List.set (List.set (List.set (List.set (List.set (List.set (List.set (List.set (List.set (List.set (List.set (List.set (List.set (List.set (List.set (List.set (List.set (List.set (List.set (List.set (List.set (List.set (List.set (List.set (List.set (List.set (List.set (List.set (List.set (List.set (List.set (List.set (List.set (List.set (List.set (List.set (List.set (List.set (List.set (List.set (List.set (List.set (List.set (List.set (List.set (List.set (List.set (List.set (List.set (List.set (List.set (List.set (List.set (List.set (List.set (List.set (List.set (List.set (List.set (List.replicate 64 (0 : Int)) 0 (1116352408 : Int)) 1 (1899447441 : Int)) 2 (3049323471 : Int)) 3 (3921009573 : Int)) 4 (961987163 : Int)) 5 (1508970993 : Int)) 6 (2453635748 : Int)) 7 (2870763221 : Int)) 8 (3624381080 : Int)) 9 (310598401 : Int)) 10 (607225278 : Int)) 11 (1426881987 : Int)) 12 (1925078388 : Int)) 13 (2162078206 : Int)) 14 (2614888103 : Int)) 15 (3248222580 : Int)) 16 (3835390401 : Int)) 17 (4022224774 : Int)) 18 (264347078 : Int)) 19 (604807628 : Int)) 20 (770255983 : Int)) 21 (1249150122 : Int)) 22 (1555081692 : Int)) 23 (1996064986 : Int)) 24 (2554220882 : Int)) 25 (2821834349 : Int)) 26 (2952996808 : Int)) 27 (3210313671 : Int)) 28 (3336571891 : Int)) 29 (3584528711 : Int)) 30 (113926993 : Int)) 31 (338241895 : Int)) 32 (666307205 : Int)) 33 (773529912 : Int)) 34 (1294757372 : Int)) 35 (1396182291 : Int)) 36 (1695183700 : Int)) 37 (1986661051 : Int)) 38 (2177026350 : Int)) 39 (2456956037 : Int)) 40 (2730485921 : Int)) 41 (2820302411 : Int)) 42 (3259730800 : Int)) 43 (3345764771 : Int)) 44 (3516065817 : Int)) 45 (3600352804 : Int)) 46 (4094571909 : Int)) 47 (275423344 : Int)) 48 (430227734 : Int)) 49 (506948616 : Int)) 50 (659060556 : Int)) 51 (883997877 : Int)) 52 (958139571 : Int)) 53 (1322822218 : Int)) 54 (1537002063 : Int)) 55 (1747873779 : Int)) 56 (1955562222 : Int)) 57 (2024104815 : Int)) 58 (2227730452 : Int)) 59 (2361852424 : Int)) 60 (2428436474 : Int)) 61 (2756734187 : Int)) 62 (3204031479 : Int)) 63 (3329325298 : Int));
(match (bnd a0 (64 : Int)) with
| true => let v4 : Int := (List.getD v3 (Int.toNat a0) (0 : Int));
k v4
| false => none)))
theorem q175 (F : FT175) (R : Type) (x : AT (en175 F).ins) (k : RT (en175 F).outs → PT (en175 F).ins → Option R) :
  xfun (e175 R) (codeOf Tryz.f175) res175 (avs (en175 F).ins x) (finK (en175 F).outs (en175 F).ins k) = p175 R x.1 (fun y1 => k (y1, ()) ()) := by kernel_rfl
noncomputable def F175 : FT175 := p175
theorem env175 (R : Type) : EnvOK Tryz.prog (e175 R) := ⟨tabOK, eqOK, callOf_ok allE_nil, noIns, inlOK_nil⟩
theorem ok175 : (en175 F175).OK Tryz.prog :=
  ent_ok (Ef := fun R => e175 R) (fun R => env175 R) mixed Tryz.func175 (body := codeOf Tryz.f175) (by kernel_rfl) (by kernel_rfl) (np := 0) (nt := 12) (fun _ => rfl) (fun _ => rfl) (by kernel_rfl) (res := res175) (by kernel_rfl) (fun _ => rfl) (fun _ => Nat.le_of_ble_eq_true rfl) (by
    intro R
    rw [show loopsOf (codeOf Tryz.f175) = [] from by kernel_rfl]
    exact allM_nil) (fun R x k => q175 F175 R x k)
abbrev FT182 : Type 1 := (R : Type) → Int → Int → Int → Int → (Int → Option R) → Option R
def en182 (F : FT182) : Ent := ⟨182, [(false, (.int .u32)), (false, (.int .i64)), (false, (.int .i64)), (false, (.int .i64))], [(false, (.int .u32))], fun R x k => F R x.1 x.2.1 x.2.2.1 x.2.2.2.1 (fun y1 => k (y1, ()) ())⟩
def res182 : List (ResultVar × TypeId × Bool) := [(.tmp 8, 84, false)]
noncomputable def e182 (F190 : FT190) (R : Type) : Env R := ⟨TT, EQT, 0, 20, ownOf [], callOf [en190 F190] R, loopOf [] R, [], inlOf []⟩
def p182 (F190 : FT190) : FT182 := fun R a0 a1 a2 a3 k =>
F190 R a0 a1 fun y1 =>
F190 R a0 a2 fun y2 =>
let v3 : Int := (ixor .u32 y1 y2);
F190 R a0 a3 fun y4 =>
let v5 : Int := (ixor .u32 v3 y4);
k v5
theorem q182 (F190 : FT190) (F : FT182) (R : Type) (x : AT (en182 F).ins) (k : RT (en182 F).outs → PT (en182 F).ins → Option R) :
  xfun (e182 F190 R) (codeOf Tryz.f182) res182 (avs (en182 F).ins x) (finK (en182 F).outs (en182 F).ins k) = p182 F190 R x.1 x.2.1 x.2.2.1 x.2.2.2.1 (fun y1 => k (y1, ()) ()) := by kernel_rfl
noncomputable def F182 : FT182 := p182 F190
theorem env182 (R : Type) : EnvOK Tryz.prog (e182 F190 R) := ⟨tabOK, eqOK, callOf_ok (allE_cons ok190 allE_nil), noIns, inlOK_nil⟩
theorem ok182 : (en182 F182).OK Tryz.prog :=
  ent_ok (Ef := fun R => e182 F190 R) (fun R => env182 R) mixed Tryz.func182 (body := codeOf Tryz.f182) (by kernel_rfl) (by kernel_rfl) (np := 0) (nt := 20) (fun _ => rfl) (fun _ => rfl) (by kernel_rfl) (res := res182) (by kernel_rfl) (fun _ => rfl) (fun _ => Nat.le_of_ble_eq_true rfl) (by
    intro R
    rw [show loopsOf (codeOf Tryz.f182) = [] from by kernel_rfl]
    exact allM_nil) (fun R x k => q182 F190 F182 R x k)
abbrev FT183 : Type 1 := (R : Type) → Int → Int → Int → (Int → Option R) → Option R
def en183 (F : FT183) : Ent := ⟨183, [(false, (.int .u32)), (false, (.int .u32)), (false, (.int .u32))], [(false, (.int .u32))], fun R x k => F R x.1 x.2.1 x.2.2.1 (fun y1 => k (y1, ()) ())⟩
def res183 : List (ResultVar × TypeId × Bool) := [(.tmp 6, 84, false)]
noncomputable def e183 (R : Type) : Env R := ⟨TT, EQT, 0, 15, ownOf [], callOf [] R, loopOf [] R, [], inlOf []⟩
def p183 : FT183 := fun R a0 a1 a2 k =>
let v1 : Int := (iand .u32 a0 a1);
let v2 : Int := (IntKind.u32.wrap ((4294967295 : Int) - a0));
let v3 : Int := (iand .u32 v2 a2);
let v4 : Int := (ior .u32 v1 v3);
k v4
theorem q183 (F : FT183) (R : Type) (x : AT (en183 F).ins) (k : RT (en183 F).outs → PT (en183 F).ins → Option R) :
  xfun (e183 R) (codeOf Tryz.f183) res183 (avs (en183 F).ins x) (finK (en183 F).outs (en183 F).ins k) = p183 R x.1 x.2.1 x.2.2.1 (fun y1 => k (y1, ()) ()) := by kernel_rfl
noncomputable def F183 : FT183 := p183
theorem env183 (R : Type) : EnvOK Tryz.prog (e183 R) := ⟨tabOK, eqOK, callOf_ok allE_nil, noIns, inlOK_nil⟩
theorem ok183 : (en183 F183).OK Tryz.prog :=
  ent_ok (Ef := fun R => e183 R) (fun R => env183 R) mixed Tryz.func183 (body := codeOf Tryz.f183) (by kernel_rfl) (by kernel_rfl) (np := 0) (nt := 15) (fun _ => rfl) (fun _ => rfl) (by kernel_rfl) (res := res183) (by kernel_rfl) (fun _ => rfl) (fun _ => Nat.le_of_ble_eq_true rfl) (by
    intro R
    rw [show loopsOf (codeOf Tryz.f183) = [] from by kernel_rfl]
    exact allM_nil) (fun R x k => q183 F183 R x k)
abbrev FT184 : Type 1 := (R : Type) → Int → Int → Int → (Int → Option R) → Option R
def en184 (F : FT184) : Ent := ⟨184, [(false, (.int .u32)), (false, (.int .u32)), (false, (.int .u32))], [(false, (.int .u32))], fun R x k => F R x.1 x.2.1 x.2.2.1 (fun y1 => k (y1, ()) ())⟩
def res184 : List (ResultVar × TypeId × Bool) := [(.tmp 6, 84, false)]
noncomputable def e184 (R : Type) : Env R := ⟨TT, EQT, 0, 18, ownOf [], callOf [] R, loopOf [] R, [], inlOf []⟩
def p184 : FT184 := fun R a0 a1 a2 k =>
let v1 : Int := (iand .u32 a0 a1);
let v2 : Int := (iand .u32 a0 a2);
let v3 : Int := (ior .u32 v1 v2);
let v4 : Int := (iand .u32 a1 a2);
let v5 : Int := (ior .u32 v3 v4);
k v5
theorem q184 (F : FT184) (R : Type) (x : AT (en184 F).ins) (k : RT (en184 F).outs → PT (en184 F).ins → Option R) :
  xfun (e184 R) (codeOf Tryz.f184) res184 (avs (en184 F).ins x) (finK (en184 F).outs (en184 F).ins k) = p184 R x.1 x.2.1 x.2.2.1 (fun y1 => k (y1, ()) ()) := by kernel_rfl
noncomputable def F184 : FT184 := p184
theorem env184 (R : Type) : EnvOK Tryz.prog (e184 R) := ⟨tabOK, eqOK, callOf_ok allE_nil, noIns, inlOK_nil⟩
theorem ok184 : (en184 F184).OK Tryz.prog :=
  ent_ok (Ef := fun R => e184 R) (fun R => env184 R) mixed Tryz.func184 (body := codeOf Tryz.f184) (by kernel_rfl) (by kernel_rfl) (np := 0) (nt := 18) (fun _ => rfl) (fun _ => rfl) (by kernel_rfl) (res := res184) (by kernel_rfl) (fun _ => rfl) (fun _ => Nat.le_of_ble_eq_true rfl) (by
    intro R
    rw [show loopsOf (codeOf Tryz.f184) = [] from by kernel_rfl]
    exact allM_nil) (fun R x k => q184 F184 R x k)
abbrev FT174 : Type 1 := (R : Type) → (List Int) → Int → Int → ((List Int) → Option R) → Option R
def en174 (F : FT174) : Ent := ⟨174, [(false, (.arr 8 (.int .u32))), (false, (.int .u32)), (false, (.int .u32))], [(false, (.arr 8 (.int .u32)))], fun R x k => F R x.1 x.2.1 x.2.2.1 (fun y1 => k (y1, ()) ())⟩
def res174 : List (ResultVar × TypeId × Bool) := [(.cell 6 186, 186, false)]
noncomputable def e174 (F182 : FT182) (F183 : FT183) (F184 : FT184) (R : Type) : Env R := ⟨TT, EQT, 0, 58, ownOf [], callOf [en182 F182, en183 F183, en184 F184] R, loopOf [] R, [], inlOf []⟩
def p174 (F182 : FT182) (F183 : FT183) (F184 : FT184) : FT174 := fun R a0 a1 a2 k =>
let v1 : Int := (List.getD a0 7 (0 : Int));
let v2 : Int := (List.getD a0 4 (0 : Int));
F182 R v2 (6 : Int) (11 : Int) (25 : Int) fun y3 =>
let v4 : Int := (IntKind.u32.wrap (v1 + y3));
let v5 : Int := (List.getD a0 4 (0 : Int));
let v6 : Int := (List.getD a0 5 (0 : Int));
let v7 : Int := (List.getD a0 6 (0 : Int));
F183 R v5 v6 v7 fun y8 =>
let v9 : Int := (IntKind.u32.wrap (v4 + y8));
let v10 : Int := (IntKind.u32.wrap (v9 + a2));
let v11 : Int := (IntKind.u32.wrap (v10 + a1));
let v12 : Int := (List.getD a0 0 (0 : Int));
F182 R v12 (2 : Int) (13 : Int) (22 : Int) fun y13 =>
let v14 : Int := (List.getD a0 0 (0 : Int));
let v15 : Int := (List.getD a0 1 (0 : Int));
let v16 : Int := (List.getD a0 2 (0 : Int));
F184 R v14 v15 v16 fun y17 =>
let v18 : Int := (IntKind.u32.wrap (y13 + y17));
let v19 : Int := (IntKind.u32.wrap (v11 + v18));
let v20 : Int := (List.getD a0 0 (0 : Int));
let v21 : Int := (List.getD a0 1 (0 : Int));
let v22 : Int := (List.getD a0 2 (0 : Int));
let v23 : Int := (List.getD a0 3 (0 : Int));
let v24 : Int := (IntKind.u32.wrap (v23 + v11));
let v25 : Int := (List.getD a0 4 (0 : Int));
let v26 : Int := (List.getD a0 5 (0 : Int));
let v27 : Int := (List.getD a0 6 (0 : Int));
let v28 : (List Int) := (List.set (List.set (List.set (List.set (List.set (List.set (List.set (List.set (List.replicate 8 (0 : Int)) 0 v19) 1 v20) 2 v21) 3 v22) 4 v24) 5 v25) 6 v26) 7 v27);
k v28
theorem q174 (F182 : FT182) (F183 : FT183) (F184 : FT184) (F : FT174) (R : Type) (x : AT (en174 F).ins) (k : RT (en174 F).outs → PT (en174 F).ins → Option R) :
  xfun (e174 F182 F183 F184 R) (codeOf Tryz.f174) res174 (avs (en174 F).ins x) (finK (en174 F).outs (en174 F).ins k) = p174 F182 F183 F184 R x.1 x.2.1 x.2.2.1 (fun y1 => k (y1, ()) ()) := by kernel_rfl
noncomputable def F174 : FT174 := p174 F182 F183 F184
theorem env174 (R : Type) : EnvOK Tryz.prog (e174 F182 F183 F184 R) := ⟨tabOK, eqOK, callOf_ok (allE_cons ok182 (allE_cons ok183 (allE_cons ok184 allE_nil))), noIns, inlOK_nil⟩
theorem ok174 : (en174 F174).OK Tryz.prog :=
  ent_ok (Ef := fun R => e174 F182 F183 F184 R) (fun R => env174 R) mixed Tryz.func174 (body := codeOf Tryz.f174) (by kernel_rfl) (by kernel_rfl) (np := 0) (nt := 58) (fun _ => rfl) (fun _ => rfl) (by kernel_rfl) (res := res174) (by kernel_rfl) (fun _ => rfl) (fun _ => Nat.le_of_ble_eq_true rfl) (by
    intro R
    rw [show loopsOf (codeOf Tryz.f174) = [] from by kernel_rfl]
    exact allM_nil) (fun R x k => q174 F182 F183 F184 F174 R x k)
abbrev FT167 : Type 1 := (R : Type) → (List Int) → (List Int) → ((List Int) → Option R) → Option R
def en167 (F : FT167) : Ent := ⟨167, [(false, (.arr 8 (.int .u32))), (false, (.arr 64 (.int .u8)))], [(false, (.arr 8 (.int .u32)))], fun R x k => F R x.1 x.2.1 (fun y1 => k (y1, ()) ())⟩
def res167 : List (ResultVar × TypeId × Bool) := [(.cell 4 186, 186, false)]
abbrev LT167_4 : Type 1 := (R : Type) → Int → (List Int) → (List Int) → (List Int) → (List Int) → ((List Int) → (List Int) → (List Int) → Option R) → Option R
def le167_4 (L : LT167_4) : LEnt := ⟨4, [.fix 2 (.ptr 0 [] (.arr 8 (.int .u32))), .fix 4 (.ptr 2 [] (.arr 8 (.int .u32))), .fix 5 (.ptr 3 [] (.arr 64 (.int .u32))), .fix 6 (.ptr 4 [] (.arr 8 (.int .u32))), .val 7 (.int .i64), .var 0 (.arr 8 (.int .u32)) false, .var 2 (.arr 8 (.int .u32)) false, .var 3 (.arr 64 (.int .u32)) false, .var 4 (.arr 8 (.int .u32)) false], 5, [(.exit 0, [.fix 2 (.ptr 0 [] (.arr 8 (.int .u32))), .fix 4 (.ptr 2 [] (.arr 8 (.int .u32))), .fix 6 (.ptr 4 [] (.arr 8 (.int .u32))), .var 0 (.arr 8 (.int .u32)) false, .var 2 (.arr 8 (.int .u32)) false, .var 4 (.arr 8 (.int .u32)) false])], fun R x ke => L R x.1 x.2.1 x.2.2.1 x.2.2.2.1 x.2.2.2.2.1 (fun y1 y2 y3 => ke.1 (y1, y2, y3, ()))⟩
abbrev LT167_8 : Type 1 := (R : Type) → Int → (List Int) → (List Int) → (List Int) → ((List Int) → (List Int) → Option R) → Option R
def le167_8 (L : LT167_8) : LEnt := ⟨8, [.fix 2 (.ptr 0 [] (.arr 8 (.int .u32))), .fix 4 (.ptr 2 [] (.arr 8 (.int .u32))), .fix 6 (.ptr 4 [] (.arr 8 (.int .u32))), .val 8 (.int .i64), .var 0 (.arr 8 (.int .u32)) false, .var 2 (.arr 8 (.int .u32)) false, .var 4 (.arr 8 (.int .u32)) false], 5, [(.exit 2, [.fix 4 (.ptr 2 [] (.arr 8 (.int .u32))), .fix 6 (.ptr 4 [] (.arr 8 (.int .u32))), .var 2 (.arr 8 (.int .u32)) false, .var 4 (.arr 8 (.int .u32)) false])], fun R x ke => L R x.1 x.2.1 x.2.2.1 x.2.2.2.1 (fun y1 y2 => ke.1 (y1, y2, ()))⟩
noncomputable def e167 (F173 : FT173) (F174 : FT174) (F175 : FT175) (L4 : LT167_4) (L8 : LT167_8) (R : Type) : Env R := ⟨TT, EQT, 0, 37, ownOf [], callOf [en173 F173, en174 F174, en175 F175] R, loopOf [le167_4 L4, le167_8 L8] R, [], inlOf []⟩
def p167_4 (F174 : FT174) (F175 : FT175) : (R : Type) → Int → (List Int) → (List Int) → (List Int) → (List Int) → (Int → (List Int) → (List Int) → (List Int) → (List Int) → Option R) → ((List Int) → (List Int) → (List Int) → Option R) → Option R := fun R x1 x2 x3 x4 x5 kc k0 =>
let v6 : Bool := (decide (x1 < (64 : Int)));
(match v6 with
| true => (match (bnd x1 (64 : Int)) with
| true => let v7 : Int := (List.getD x4 (Int.toNat x1) (0 : Int));
F175 R x1 fun y8 =>
F174 R x5 v7 y8 fun y9 =>
let v10 : Int := (IntKind.i64.wrap (x1 + (1 : Int)));
kc v10 x2 x3 x4 y9
| false => none)
| false => k0 x2 x3 x5)
theorem q167_4 (F173 : FT173) (F174 : FT174) (F175 : FT175) (L4 : LT167_4) (L8 : LT167_8) (R : Type) (x : HT (le167_4 L4).H) (kc : HT (le167_4 L4).H → Option R) (ke : KT R (le167_4 L4).exs) :
  exec (e167 F173 F174 F175 L4 L8 R) (lcode 4 (codeOf Tryz.f167)) (stOf (le167_4 L4).H x 5) (roundK (le167_4 L4).H (le167_4 L4).exs kc ke) =
    p167_4 F174 F175 R x.1 x.2.1 x.2.2.1 x.2.2.2.1 x.2.2.2.2.1 (fun x1 x2 x3 x4 x5 => kc (x1, x2, x3, x4, x5, ())) (fun y1 y2 y3 => ke.1 (y1, y2, y3, ())) := by kernel_rfl
noncomputable def G167_4 : Nat → LT167_4
  | 0 => fun _ _ _ _ _ _ _ => none
  | n + 1 => fun R x1 x2 x3 x4 x5 k0 => p167_4 F174 F175 R x1 x2 x3 x4 x5 (fun x1 x2 x3 x4 x5 => G167_4 n R x1 x2 x3 x4 x5 k0) k0
def p167_8 : (R : Type) → Int → (List Int) → (List Int) → (List Int) → (Int → (List Int) → (List Int) → (List Int) → Option R) → ((List Int) → (List Int) → Option R) → Option R := fun R x1 x2 x3 x4 kc k0 =>
let v5 : Bool := (decide (x1 < (8 : Int)));
(match v5 with
| true => (match (bnd x1 (8 : Int)) with
| true => let v6 : Int := (List.getD x4 (Int.toNat x1) (0 : Int));
(match (bnd x1 (8 : Int)) with
| true => let v7 : Int := (List.getD x2 (Int.toNat x1) (0 : Int));
let v8 : Int := (IntKind.u32.wrap (v6 + v7));
(match (bnd x1 (8 : Int)) with
| true => let v9 : (List Int) := (List.set x4 (Int.toNat x1) v8);
let v10 : Int := (IntKind.i64.wrap (x1 + (1 : Int)));
kc v10 x2 x3 v9
| false => none)
| false => none)
| false => none)
| false => k0 x3 x4)
theorem q167_8 (F173 : FT173) (F174 : FT174) (F175 : FT175) (L4 : LT167_4) (L8 : LT167_8) (R : Type) (x : HT (le167_8 L8).H) (kc : HT (le167_8 L8).H → Option R) (ke : KT R (le167_8 L8).exs) :
  exec (e167 F173 F174 F175 L4 L8 R) (lcode 8 (codeOf Tryz.f167)) (stOf (le167_8 L8).H x 5) (roundK (le167_8 L8).H (le167_8 L8).exs kc ke) =
    p167_8 R x.1 x.2.1 x.2.2.1 x.2.2.2.1 (fun x1 x2 x3 x4 => kc (x1, x2, x3, x4, ())) (fun y1 y2 => ke.1 (y1, y2, ())) := by kernel_rfl
noncomputable def G167_8 : Nat → LT167_8
  | 0 => fun _ _ _ _ _ _ => none
  | n + 1 => fun R x1 x2 x3 x4 k0 => p167_8 R x1 x2 x3 x4 (fun x1 x2 x3 x4 => G167_8 n R x1 x2 x3 x4 k0) k0
def p167 (F173 : FT173) (L4 : LT167_4) (L8 : LT167_8) : FT167 := fun R a0 a1 k =>
F173 R a1 fun y1 =>
L4 R (0 : Int) a0 (List.replicate 8 (0 : Int)) y1 a0 (fun x2 x3 x4 =>
L8 R (0 : Int) x2 x3 x4 (fun x5 x6 =>
k x6))
theorem q167 (F173 : FT173) (F174 : FT174) (F175 : FT175) (L4 : LT167_4) (L8 : LT167_8) (F : FT167) (R : Type) (x : AT (en167 F).ins) (k : RT (en167 F).outs → PT (en167 F).ins → Option R) :
  xfun (e167 F173 F174 F175 L4 L8 R) (codeOf Tryz.f167) res167 (avs (en167 F).ins x) (finK (en167 F).outs (en167 F).ins k) = p167 F173 L4 L8 R x.1 x.2.1 (fun y1 => k (y1, ()) ()) := by kernel_rfl
noncomputable def F167 : FT167 := p167 F173 (G167_4 FUEL) (G167_8 FUEL)
theorem env167 (R : Type) : EnvOK Tryz.prog (e167 F173 F174 F175 (G167_4 FUEL) (G167_8 FUEL) R) := ⟨tabOK, eqOK, callOf_ok (allE_cons ok173 (allE_cons ok174 (allE_cons ok175 allE_nil))), noIns, inlOK_nil⟩
noncomputable def T167_4 : (R : Type) → HT (le167_4 (G167_4 FUEL)).H → (HT (le167_4 (G167_4 FUEL)).H → Option R) → KT R (le167_4 (G167_4 FUEL)).exs → Option R := fun R x kc ke => p167_4 F174 F175 R x.1 x.2.1 x.2.2.1 x.2.2.2.1 x.2.2.2.2.1 (fun x1 x2 x3 x4 x5 => kc (x1, x2, x3, x4, x5, ())) (fun y1 y2 y3 => ke.1 (y1, y2, y3, ()))
theorem it167_4 : ∀ (n : Nat) (R : Type) (x : HT (le167_4 (G167_4 FUEL)).H) (ke : KT R (le167_4 (G167_4 FUEL)).exs), iter T167_4 n R x ke = G167_4 n R x.1 x.2.1 x.2.2.1 x.2.2.2.1 x.2.2.2.2.1 (fun y1 y2 y3 => ke.1 (y1, y2, y3, ())) := by
  intro n
  induction n with
  | zero => intro R x ke; rfl
  | succ n ih =>
    intro R x ke
    show T167_4 R x (fun x' => iter T167_4 n R x' ke) ke = _
    rw [show (fun x' => iter T167_4 n R x' ke) = fun x => G167_4 n R x.1 x.2.1 x.2.2.1 x.2.2.2.1 x.2.2.2.2.1 (fun y1 y2 y3 => ke.1 (y1, y2, y3, ())) from funext fun x' => ih R x' ke]
    rfl
theorem lok167_4 : (le167_4 (G167_4 FUEL)).OK Tryz.prog 0 37 (lcode 4 (codeOf Tryz.f167)) := fun R x ke r h =>
  iter_sound (fun R => e167 F173 F174 F175 (G167_4 FUEL) (G167_8 FUEL) R) 0 37 (fun _ => rfl) (fun _ => rfl) (fun R => env167 R) mixed (by
    intro R
    rw [show loopsOf (lcode 4 (codeOf Tryz.f167)) = [] from by kernel_rfl]
    exact allM_nil) (T := T167_4) (fun R x kc ke => q167_4 F173 F174 F175 (G167_4 FUEL) (G167_8 FUEL) R x kc ke) FUEL R x ke r ((it167_4 FUEL R x ke).trans h)
noncomputable def T167_8 : (R : Type) → HT (le167_8 (G167_8 FUEL)).H → (HT (le167_8 (G167_8 FUEL)).H → Option R) → KT R (le167_8 (G167_8 FUEL)).exs → Option R := fun R x kc ke => p167_8 R x.1 x.2.1 x.2.2.1 x.2.2.2.1 (fun x1 x2 x3 x4 => kc (x1, x2, x3, x4, ())) (fun y1 y2 => ke.1 (y1, y2, ()))
theorem it167_8 : ∀ (n : Nat) (R : Type) (x : HT (le167_8 (G167_8 FUEL)).H) (ke : KT R (le167_8 (G167_8 FUEL)).exs), iter T167_8 n R x ke = G167_8 n R x.1 x.2.1 x.2.2.1 x.2.2.2.1 (fun y1 y2 => ke.1 (y1, y2, ())) := by
  intro n
  induction n with
  | zero => intro R x ke; rfl
  | succ n ih =>
    intro R x ke
    show T167_8 R x (fun x' => iter T167_8 n R x' ke) ke = _
    rw [show (fun x' => iter T167_8 n R x' ke) = fun x => G167_8 n R x.1 x.2.1 x.2.2.1 x.2.2.2.1 (fun y1 y2 => ke.1 (y1, y2, ())) from funext fun x' => ih R x' ke]
    rfl
theorem lok167_8 : (le167_8 (G167_8 FUEL)).OK Tryz.prog 0 37 (lcode 8 (codeOf Tryz.f167)) := fun R x ke r h =>
  iter_sound (fun R => e167 F173 F174 F175 (G167_4 FUEL) (G167_8 FUEL) R) 0 37 (fun _ => rfl) (fun _ => rfl) (fun R => env167 R) mixed (by
    intro R
    rw [show loopsOf (lcode 8 (codeOf Tryz.f167)) = [] from by kernel_rfl]
    exact allM_nil) (T := T167_8) (fun R x kc ke => q167_8 F173 F174 F175 (G167_4 FUEL) (G167_8 FUEL) R x kc ke) FUEL R x ke r ((it167_8 FUEL R x ke).trans h)
theorem ok167 : (en167 F167).OK Tryz.prog :=
  ent_ok (Ef := fun R => e167 F173 F174 F175 (G167_4 FUEL) (G167_8 FUEL) R) (fun R => env167 R) mixed Tryz.func167 (body := codeOf Tryz.f167) (by kernel_rfl) (by kernel_rfl) (np := 0) (nt := 37) (fun _ => rfl) (fun _ => rfl) (by kernel_rfl) (res := res167) (by kernel_rfl) (fun _ => rfl) (fun _ => Nat.le_of_ble_eq_true rfl) (by
    intro R
    rw [show loopsOf (codeOf Tryz.f167) = [lcode 4 (codeOf Tryz.f167), lcode 8 (codeOf Tryz.f167)] from by kernel_rfl]
    exact (allM_cons (loop_ok2 (e := le167_4 (G167_4 FUEL)) rfl rfl lok167_4) (allM_cons (loop_ok2 (e := le167_8 (G167_8 FUEL)) rfl rfl lok167_8) allM_nil))) (fun R x k => q167 F173 F174 F175 (G167_4 FUEL) (G167_8 FUEL) F167 R x k)
abbrev FT157 : Type 1 := (R : Type) → (List Int) → (List (List Int)) → ((List Int) → Option R) → Option R
def en157 (F : FT157) : Ent := ⟨157, [(false, (.arr 8 (.int .u32))), (false, (.sl (.arr 64 (.int .u8))))], [(false, (.arr 8 (.int .u32)))], fun R x k => F R x.1 x.2.1 (fun y1 => k (y1, ()) ())⟩
def res157 : List (ResultVar × TypeId × Bool) := [(.cell 4 186, 186, false)]
abbrev LT157_2 : Type 1 := (R : Type) → (List (List Int)) → Int → (List Int) → (List Int) → ((List Int) → (List Int) → Option R) → Option R
def le157_2 (L : LT157_2) : LEnt := ⟨2, [.val 1 (.sl (.arr 64 (.int .u8))), .fix 2 (.ptr 0 [] (.arr 8 (.int .u32))), .fix 4 (.ptr 1 [] (.arr 8 (.int .u32))), .val 5 (.int .i64), .var 0 (.arr 8 (.int .u32)) false, .var 1 (.arr 8 (.int .u32)) false], 2, [(.exit 0, [.fix 2 (.ptr 0 [] (.arr 8 (.int .u32))), .fix 4 (.ptr 1 [] (.arr 8 (.int .u32))), .var 0 (.arr 8 (.int .u32)) false, .var 1 (.arr 8 (.int .u32)) false])], fun R x ke => L R x.1 x.2.1 x.2.2.1 x.2.2.2.1 (fun y1 y2 => ke.1 (y1, y2, ()))⟩
noncomputable def e157 (F167 : FT167) (L2 : LT157_2) (R : Type) : Env R := ⟨TT, EQT, 0, 19, ownOf [], callOf [en167 F167] R, loopOf [le157_2 L2] R, [], inlOf []⟩
def p157_2 (F167 : FT167) : (R : Type) → (List (List Int)) → Int → (List Int) → (List Int) → ((List (List Int)) → Int → (List Int) → (List Int) → Option R) → ((List Int) → (List Int) → Option R) → Option R := fun R x1 x2 x3 x4 kc k0 =>
let v5 : Int := (List.length x1 : Int);
let v6 : Bool := (decide (x2 < v5));
(match v6 with
| true => (match (bnd x2 (List.length x1 : Int)) with
| true => let v7 : (List Int) := (List.getD x1 (Int.toNat x2) (List.replicate 64 (0 : Int)));
F167 R x3 v7 fun y8 =>
let v9 : Int := (IntKind.i64.wrap (x2 + (1 : Int)));
kc x1 v9 y8 x4
| false => none)
| false => k0 x3 x4)
theorem q157_2 (F167 : FT167) (L2 : LT157_2) (R : Type) (x : HT (le157_2 L2).H) (kc : HT (le157_2 L2).H → Option R) (ke : KT R (le157_2 L2).exs) :
  exec (e157 F167 L2 R) (lcode 2 (codeOf Tryz.f157)) (stOf (le157_2 L2).H x 2) (roundK (le157_2 L2).H (le157_2 L2).exs kc ke) =
    p157_2 F167 R x.1 x.2.1 x.2.2.1 x.2.2.2.1 (fun x1 x2 x3 x4 => kc (x1, x2, x3, x4, ())) (fun y1 y2 => ke.1 (y1, y2, ())) := by kernel_rfl
noncomputable def G157_2 : Nat → LT157_2
  | 0 => fun _ _ _ _ _ _ => none
  | n + 1 => fun R x1 x2 x3 x4 k0 => p157_2 F167 R x1 x2 x3 x4 (fun x1 x2 x3 x4 => G157_2 n R x1 x2 x3 x4 k0) k0
def p157 (L2 : LT157_2) : FT157 := fun R a0 a1 k =>
L2 R a1 (0 : Int) a0 (List.replicate 8 (0 : Int)) (fun x1 x2 =>
k x1)
theorem q157 (F167 : FT167) (L2 : LT157_2) (F : FT157) (R : Type) (x : AT (en157 F).ins) (k : RT (en157 F).outs → PT (en157 F).ins → Option R) :
  xfun (e157 F167 L2 R) (codeOf Tryz.f157) res157 (avs (en157 F).ins x) (finK (en157 F).outs (en157 F).ins k) = p157 L2 R x.1 x.2.1 (fun y1 => k (y1, ()) ()) := by kernel_rfl
noncomputable def F157 : FT157 := p157 (G157_2 FUEL)
theorem env157 (R : Type) : EnvOK Tryz.prog (e157 F167 (G157_2 FUEL) R) := ⟨tabOK, eqOK, callOf_ok (allE_cons ok167 allE_nil), noIns, inlOK_nil⟩
noncomputable def T157_2 : (R : Type) → HT (le157_2 (G157_2 FUEL)).H → (HT (le157_2 (G157_2 FUEL)).H → Option R) → KT R (le157_2 (G157_2 FUEL)).exs → Option R := fun R x kc ke => p157_2 F167 R x.1 x.2.1 x.2.2.1 x.2.2.2.1 (fun x1 x2 x3 x4 => kc (x1, x2, x3, x4, ())) (fun y1 y2 => ke.1 (y1, y2, ()))
theorem it157_2 : ∀ (n : Nat) (R : Type) (x : HT (le157_2 (G157_2 FUEL)).H) (ke : KT R (le157_2 (G157_2 FUEL)).exs), iter T157_2 n R x ke = G157_2 n R x.1 x.2.1 x.2.2.1 x.2.2.2.1 (fun y1 y2 => ke.1 (y1, y2, ())) := by
  intro n
  induction n with
  | zero => intro R x ke; rfl
  | succ n ih =>
    intro R x ke
    show T157_2 R x (fun x' => iter T157_2 n R x' ke) ke = _
    rw [show (fun x' => iter T157_2 n R x' ke) = fun x => G157_2 n R x.1 x.2.1 x.2.2.1 x.2.2.2.1 (fun y1 y2 => ke.1 (y1, y2, ())) from funext fun x' => ih R x' ke]
    rfl
theorem lok157_2 : (le157_2 (G157_2 FUEL)).OK Tryz.prog 0 19 (lcode 2 (codeOf Tryz.f157)) := fun R x ke r h =>
  iter_sound (fun R => e157 F167 (G157_2 FUEL) R) 0 19 (fun _ => rfl) (fun _ => rfl) (fun R => env157 R) mixed (by
    intro R
    rw [show loopsOf (lcode 2 (codeOf Tryz.f157)) = [] from by kernel_rfl]
    exact allM_nil) (T := T157_2) (fun R x kc ke => q157_2 F167 (G157_2 FUEL) R x kc ke) FUEL R x ke r ((it157_2 FUEL R x ke).trans h)
theorem ok157 : (en157 F157).OK Tryz.prog :=
  ent_ok (Ef := fun R => e157 F167 (G157_2 FUEL) R) (fun R => env157 R) mixed Tryz.func157 (body := codeOf Tryz.f157) (by kernel_rfl) (by kernel_rfl) (np := 0) (nt := 19) (fun _ => rfl) (fun _ => rfl) (by kernel_rfl) (res := res157) (by kernel_rfl) (fun _ => rfl) (fun _ => Nat.le_of_ble_eq_true rfl) (by
    intro R
    rw [show loopsOf (codeOf Tryz.f157) = [lcode 2 (codeOf Tryz.f157)] from by kernel_rfl]
    exact (allM_cons (loop_ok2 (e := le157_2 (G157_2 FUEL)) rfl rfl lok157_2) allM_nil)) (fun R x k => q157 F167 (G157_2 FUEL) F157 R x k)
abbrev FT166 : Type 1 := (R : Type) → Int → ((List Int) → Option R) → Option R
def en166 (F : FT166) : Ent := ⟨166, [(false, (.int .u32))], [(false, (.arr 4 (.int .u8)))], fun R x k => F R x.1 (fun y1 => k (y1, ()) ())⟩
def res166 : List (ResultVar × TypeId × Bool) := [(.cell 2 209, 209, false)]
noncomputable def e166 (R : Type) : Env R := ⟨TT, EQT, 0, 18, ownOf [], callOf [] R, loopOf [] R, [], inlOf []⟩
def p166 : FT166 := fun R a0 k =>
let v1 : Int := (IntKind.u32.wrap (Int.tdiv a0 (16777216 : Int)));
let v2 : Int := (IntKind.u8.wrap v1);
let v3 : Int := (IntKind.u32.wrap (Int.tdiv a0 (65536 : Int)));
let v4 : Int := (Int.tmod v3 (256 : Int));
let v5 : Int := (IntKind.u8.wrap v4);
let v6 : Int := (IntKind.u32.wrap (Int.tdiv a0 (256 : Int)));
let v7 : Int := (Int.tmod v6 (256 : Int));
let v8 : Int := (IntKind.u8.wrap v7);
let v9 : Int := (Int.tmod a0 (256 : Int));
let v10 : Int := (IntKind.u8.wrap v9);
let v11 : (List Int) := (List.set (List.set (List.set (List.set (List.replicate 4 (0 : Int)) 0 v2) 1 v5) 2 v8) 3 v10);
k v11
theorem q166 (F : FT166) (R : Type) (x : AT (en166 F).ins) (k : RT (en166 F).outs → PT (en166 F).ins → Option R) :
  xfun (e166 R) (codeOf Tryz.f166) res166 (avs (en166 F).ins x) (finK (en166 F).outs (en166 F).ins k) = p166 R x.1 (fun y1 => k (y1, ()) ()) := by kernel_rfl
noncomputable def F166 : FT166 := p166
theorem env166 (R : Type) : EnvOK Tryz.prog (e166 R) := ⟨tabOK, eqOK, callOf_ok allE_nil, noIns, inlOK_nil⟩
theorem ok166 : (en166 F166).OK Tryz.prog :=
  ent_ok (Ef := fun R => e166 R) (fun R => env166 R) mixed Tryz.func166 (body := codeOf Tryz.f166) (by kernel_rfl) (by kernel_rfl) (np := 0) (nt := 18) (fun _ => rfl) (fun _ => rfl) (by kernel_rfl) (res := res166) (by kernel_rfl) (fun _ => rfl) (fun _ => Nat.le_of_ble_eq_true rfl) (by
    intro R
    rw [show loopsOf (codeOf Tryz.f166) = [] from by kernel_rfl]
    exact allM_nil) (fun R x k => q166 F166 R x k)
abbrev FT156 : Type 1 := (R : Type) → (List Int) → ((List Int) → Option R) → Option R
def en156 (F : FT156) : Ent := ⟨156, [(false, (.arr 8 (.int .u32)))], [(false, (.arr 32 (.int .u8)))], fun R x k => F R x.1 (fun y1 => k (y1, ()) ())⟩
def res156 : List (ResultVar × TypeId × Bool) := [(.cell 2 28, 28, false)]
abbrev LT156_3 : Type 1 := (R : Type) → Int → (List Int) → (List Int) → (List Int) → ((List Int) → (List Int) → Option R) → Option R
def le156_3 (L : LT156_3) : LEnt := ⟨3, [.fix 1 (.ptr 0 [] (.arr 8 (.int .u32))), .fix 2 (.ptr 1 [] (.arr 32 (.int .u8))), .fix 3 (.ptr 2 [] (.arr 32 (.int .u8))), .val 4 (.int .i64), .var 0 (.arr 8 (.int .u32)) false, .var 1 (.arr 32 (.int .u8)) false, .var 2 (.arr 32 (.int .u8)) false], 3, [(.exit 0, [.fix 2 (.ptr 1 [] (.arr 32 (.int .u8))), .fix 3 (.ptr 2 [] (.arr 32 (.int .u8))), .var 1 (.arr 32 (.int .u8)) false, .var 2 (.arr 32 (.int .u8)) false])], fun R x ke => L R x.1 x.2.1 x.2.2.1 x.2.2.2.1 (fun y1 y2 => ke.1 (y1, y2, ()))⟩
abbrev LT156_7 : Type 1 := (R : Type) → Int → Int → (List Int) → (List Int) → (List Int) → (List Int) → (Int → (List Int) → (List Int) → (List Int) → Option R) → Option R
def le156_7 (L : LT156_7) : LEnt := ⟨7, [.fix 1 (.ptr 0 [] (.arr 8 (.int .u32))), .fix 2 (.ptr 1 [] (.arr 32 (.int .u8))), .fix 3 (.ptr 2 [] (.arr 32 (.int .u8))), .val 4 (.int .i64), .fix 5 (.ptr 3 [] (.arr 4 (.int .u8))), .val 6 (.int .i64), .var 0 (.arr 8 (.int .u32)) false, .var 1 (.arr 32 (.int .u8)) false, .var 2 (.arr 32 (.int .u8)) false, .var 3 (.arr 4 (.int .u8)) false], 4, [(.exit 2, [.fix 1 (.ptr 0 [] (.arr 8 (.int .u32))), .fix 2 (.ptr 1 [] (.arr 32 (.int .u8))), .fix 3 (.ptr 2 [] (.arr 32 (.int .u8))), .val 4 (.int .i64), .var 0 (.arr 8 (.int .u32)) false, .var 1 (.arr 32 (.int .u8)) false, .var 2 (.arr 32 (.int .u8)) false])], fun R x ke => L R x.1 x.2.1 x.2.2.1 x.2.2.2.1 x.2.2.2.2.1 x.2.2.2.2.2.1 (fun y1 y2 y3 y4 => ke.1 (y1, y2, y3, y4, ()))⟩
noncomputable def e156 (F166 : FT166) (L3 : LT156_3) (L7 : LT156_7) (R : Type) : Env R := ⟨TT, EQT, 0, 28, ownOf [], callOf [en166 F166] R, loopOf [le156_3 L3, le156_7 L7] R, [], inlOf []⟩
def p156_7 : (R : Type) → Int → Int → (List Int) → (List Int) → (List Int) → (List Int) → (Int → Int → (List Int) → (List Int) → (List Int) → (List Int) → Option R) → (Int → (List Int) → (List Int) → (List Int) → Option R) → Option R := fun R x1 x2 x3 x4 x5 x6 kc k0 =>
let v7 : Bool := (decide (x2 < (4 : Int)));
(match v7 with
| true => let v8 : Int := (IntKind.i64.wrap ((4 : Int) * x1));
let v9 : Int := (IntKind.i64.wrap (v8 + x2));
(match (bnd x2 (4 : Int)) with
| true => let v10 : Int := (List.getD x6 (Int.toNat x2) (0 : Int));
(match (bnd v9 (32 : Int)) with
| true => let v11 : (List Int) := (List.set x5 (Int.toNat v9) v10);
let v12 : Int := (IntKind.i64.wrap (x2 + (1 : Int)));
kc x1 v12 x3 x4 v11 x6
| false => none)
| false => none)
| false => k0 x1 x3 x4 x5)
theorem q156_7 (F166 : FT166) (L3 : LT156_3) (L7 : LT156_7) (R : Type) (x : HT (le156_7 L7).H) (kc : HT (le156_7 L7).H → Option R) (ke : KT R (le156_7 L7).exs) :
  exec (e156 F166 L3 L7 R) (lcode 7 (codeOf Tryz.f156)) (stOf (le156_7 L7).H x 4) (roundK (le156_7 L7).H (le156_7 L7).exs kc ke) =
    p156_7 R x.1 x.2.1 x.2.2.1 x.2.2.2.1 x.2.2.2.2.1 x.2.2.2.2.2.1 (fun x1 x2 x3 x4 x5 x6 => kc (x1, x2, x3, x4, x5, x6, ())) (fun y1 y2 y3 y4 => ke.1 (y1, y2, y3, y4, ())) := by kernel_rfl
noncomputable def G156_7 : Nat → LT156_7
  | 0 => fun _ _ _ _ _ _ _ _ => none
  | n + 1 => fun R x1 x2 x3 x4 x5 x6 k0 => p156_7 R x1 x2 x3 x4 x5 x6 (fun x1 x2 x3 x4 x5 x6 => G156_7 n R x1 x2 x3 x4 x5 x6 k0) k0
def p156_3 (F166 : FT166) (L7 : LT156_7) : (R : Type) → Int → (List Int) → (List Int) → (List Int) → (Int → (List Int) → (List Int) → (List Int) → Option R) → ((List Int) → (List Int) → Option R) → Option R := fun R x1 x2 x3 x4 kc k0 =>
let v5 : Bool := (decide (x1 < (8 : Int)));
(match v5 with
| true => (match (bnd x1 (8 : Int)) with
| true => let v6 : Int := (List.getD x2 (Int.toNat x1) (0 : Int));
F166 R v6 fun y7 =>
L7 R x1 (0 : Int) x2 x3 x4 y7 (fun x8 x9 x10 x11 =>
let v12 : Int := (IntKind.i64.wrap (x8 + (1 : Int)));
kc v12 x9 x10 x11)
| false => none)
| false => k0 x3 x4)
theorem q156_3 (F166 : FT166) (L3 : LT156_3) (L7 : LT156_7) (R : Type) (x : HT (le156_3 L3).H) (kc : HT (le156_3 L3).H → Option R) (ke : KT R (le156_3 L3).exs) :
  exec (e156 F166 L3 L7 R) (lcode 3 (codeOf Tryz.f156)) (stOf (le156_3 L3).H x 3) (roundK (le156_3 L3).H (le156_3 L3).exs kc ke) =
    p156_3 F166 L7 R x.1 x.2.1 x.2.2.1 x.2.2.2.1 (fun x1 x2 x3 x4 => kc (x1, x2, x3, x4, ())) (fun y1 y2 => ke.1 (y1, y2, ())) := by kernel_rfl
noncomputable def G156_3 : Nat → LT156_3
  | 0 => fun _ _ _ _ _ _ => none
  | n + 1 => fun R x1 x2 x3 x4 k0 => p156_3 F166 (G156_7 FUEL) R x1 x2 x3 x4 (fun x1 x2 x3 x4 => G156_3 n R x1 x2 x3 x4 k0) k0
def p156 (L3 : LT156_3) : FT156 := fun R a0 k =>
L3 R (0 : Int) a0 (List.replicate 32 (0 : Int)) (List.replicate 32 (0 : Int)) (fun x1 x2 =>
k x2)
theorem q156 (F166 : FT166) (L3 : LT156_3) (L7 : LT156_7) (F : FT156) (R : Type) (x : AT (en156 F).ins) (k : RT (en156 F).outs → PT (en156 F).ins → Option R) :
  xfun (e156 F166 L3 L7 R) (codeOf Tryz.f156) res156 (avs (en156 F).ins x) (finK (en156 F).outs (en156 F).ins k) = p156 L3 R x.1 (fun y1 => k (y1, ()) ()) := by kernel_rfl
noncomputable def F156 : FT156 := p156 (G156_3 FUEL)
theorem env156 (R : Type) : EnvOK Tryz.prog (e156 F166 (G156_3 FUEL) (G156_7 FUEL) R) := ⟨tabOK, eqOK, callOf_ok (allE_cons ok166 allE_nil), noIns, inlOK_nil⟩
noncomputable def T156_7 : (R : Type) → HT (le156_7 (G156_7 FUEL)).H → (HT (le156_7 (G156_7 FUEL)).H → Option R) → KT R (le156_7 (G156_7 FUEL)).exs → Option R := fun R x kc ke => p156_7 R x.1 x.2.1 x.2.2.1 x.2.2.2.1 x.2.2.2.2.1 x.2.2.2.2.2.1 (fun x1 x2 x3 x4 x5 x6 => kc (x1, x2, x3, x4, x5, x6, ())) (fun y1 y2 y3 y4 => ke.1 (y1, y2, y3, y4, ()))
theorem it156_7 : ∀ (n : Nat) (R : Type) (x : HT (le156_7 (G156_7 FUEL)).H) (ke : KT R (le156_7 (G156_7 FUEL)).exs), iter T156_7 n R x ke = G156_7 n R x.1 x.2.1 x.2.2.1 x.2.2.2.1 x.2.2.2.2.1 x.2.2.2.2.2.1 (fun y1 y2 y3 y4 => ke.1 (y1, y2, y3, y4, ())) := by
  intro n
  induction n with
  | zero => intro R x ke; rfl
  | succ n ih =>
    intro R x ke
    show T156_7 R x (fun x' => iter T156_7 n R x' ke) ke = _
    rw [show (fun x' => iter T156_7 n R x' ke) = fun x => G156_7 n R x.1 x.2.1 x.2.2.1 x.2.2.2.1 x.2.2.2.2.1 x.2.2.2.2.2.1 (fun y1 y2 y3 y4 => ke.1 (y1, y2, y3, y4, ())) from funext fun x' => ih R x' ke]
    rfl
theorem lok156_7 : (le156_7 (G156_7 FUEL)).OK Tryz.prog 0 28 (lcode 7 (codeOf Tryz.f156)) := fun R x ke r h =>
  iter_sound (fun R => e156 F166 (G156_3 FUEL) (G156_7 FUEL) R) 0 28 (fun _ => rfl) (fun _ => rfl) (fun R => env156 R) mixed (by
    intro R
    rw [show loopsOf (lcode 7 (codeOf Tryz.f156)) = [] from by kernel_rfl]
    exact allM_nil) (T := T156_7) (fun R x kc ke => q156_7 F166 (G156_3 FUEL) (G156_7 FUEL) R x kc ke) FUEL R x ke r ((it156_7 FUEL R x ke).trans h)
noncomputable def T156_3 : (R : Type) → HT (le156_3 (G156_3 FUEL)).H → (HT (le156_3 (G156_3 FUEL)).H → Option R) → KT R (le156_3 (G156_3 FUEL)).exs → Option R := fun R x kc ke => p156_3 F166 (G156_7 FUEL) R x.1 x.2.1 x.2.2.1 x.2.2.2.1 (fun x1 x2 x3 x4 => kc (x1, x2, x3, x4, ())) (fun y1 y2 => ke.1 (y1, y2, ()))
theorem it156_3 : ∀ (n : Nat) (R : Type) (x : HT (le156_3 (G156_3 FUEL)).H) (ke : KT R (le156_3 (G156_3 FUEL)).exs), iter T156_3 n R x ke = G156_3 n R x.1 x.2.1 x.2.2.1 x.2.2.2.1 (fun y1 y2 => ke.1 (y1, y2, ())) := by
  intro n
  induction n with
  | zero => intro R x ke; rfl
  | succ n ih =>
    intro R x ke
    show T156_3 R x (fun x' => iter T156_3 n R x' ke) ke = _
    rw [show (fun x' => iter T156_3 n R x' ke) = fun x => G156_3 n R x.1 x.2.1 x.2.2.1 x.2.2.2.1 (fun y1 y2 => ke.1 (y1, y2, ())) from funext fun x' => ih R x' ke]
    rfl
theorem lok156_3 : (le156_3 (G156_3 FUEL)).OK Tryz.prog 0 28 (lcode 3 (codeOf Tryz.f156)) := fun R x ke r h =>
  iter_sound (fun R => e156 F166 (G156_3 FUEL) (G156_7 FUEL) R) 0 28 (fun _ => rfl) (fun _ => rfl) (fun R => env156 R) mixed (by
    intro R
    rw [show loopsOf (lcode 3 (codeOf Tryz.f156)) = [lcode 7 (codeOf Tryz.f156)] from by kernel_rfl]
    exact (allM_cons (loop_ok2 (e := le156_7 (G156_7 FUEL)) rfl rfl lok156_7) allM_nil)) (T := T156_3) (fun R x kc ke => q156_3 F166 (G156_3 FUEL) (G156_7 FUEL) R x kc ke) FUEL R x ke r ((it156_3 FUEL R x ke).trans h)
theorem ok156 : (en156 F156).OK Tryz.prog :=
  ent_ok (Ef := fun R => e156 F166 (G156_3 FUEL) (G156_7 FUEL) R) (fun R => env156 R) mixed Tryz.func156 (body := codeOf Tryz.f156) (by kernel_rfl) (by kernel_rfl) (np := 0) (nt := 28) (fun _ => rfl) (fun _ => rfl) (by kernel_rfl) (res := res156) (by kernel_rfl) (fun _ => rfl) (fun _ => Nat.le_of_ble_eq_true rfl) (by
    intro R
    rw [show loopsOf (codeOf Tryz.f156) = [lcode 3 (codeOf Tryz.f156)] from by kernel_rfl]
    exact (allM_cons (loop_ok2 (e := le156_3 (G156_3 FUEL)) rfl rfl lok156_3) allM_nil)) (fun R x k => q156 F166 (G156_3 FUEL) (G156_7 FUEL) F156 R x k)
abbrev FT150 : Type 1 := (R : Type) → (List Int) → ((List Int) → Option R) → Option R
def en150 (F : FT150) : Ent := ⟨150, [(false, (.sl (.int .u8)))], [(false, (.arr 32 (.int .u8)))], fun R x k => F R x.1 (fun y1 => k (y1, ()) ())⟩
def res150 : List (ResultVar × TypeId × Bool) := [(.cell 2 28, 28, false)]
noncomputable def e150 (F154 : FT154) (F155 : FT155) (F156 : FT156) (F157 : FT157) (F158 : FT158) (R : Type) : Env R := ⟨TT, EQT, 0, 15, ownOf [], callOf [en154 F154, en155 F155, en156 F156, en157 F157, en158 F158] R, loopOf [] R, [], inlOf []⟩
def p150 (F154 : FT154) (F155 : FT155) (F156 : FT156) (F157 : FT157) (F158 : FT158) : FT150 := fun R a0 k =>
F155 R a0 fun y1 =>
F154 R y1 fun y2 y3 =>
F158 R  fun y4 =>
F157 R y4 y2 fun y5 =>
F156 R y5 fun y6 =>
k y6
theorem q150 (F154 : FT154) (F155 : FT155) (F156 : FT156) (F157 : FT157) (F158 : FT158) (F : FT150) (R : Type) (x : AT (en150 F).ins) (k : RT (en150 F).outs → PT (en150 F).ins → Option R) :
  xfun (e150 F154 F155 F156 F157 F158 R) (codeOf Tryz.f150) res150 (avs (en150 F).ins x) (finK (en150 F).outs (en150 F).ins k) = p150 F154 F155 F156 F157 F158 R x.1 (fun y1 => k (y1, ()) ()) := by kernel_rfl
noncomputable def F150 : FT150 := p150 F154 F155 F156 F157 F158
theorem env150 (R : Type) : EnvOK Tryz.prog (e150 F154 F155 F156 F157 F158 R) := ⟨tabOK, eqOK, callOf_ok (allE_cons ok154 (allE_cons ok155 (allE_cons ok156 (allE_cons ok157 (allE_cons ok158 allE_nil))))), noIns, inlOK_nil⟩
theorem ok150 : (en150 F150).OK Tryz.prog :=
  ent_ok (Ef := fun R => e150 F154 F155 F156 F157 F158 R) (fun R => env150 R) mixed Tryz.func150 (body := codeOf Tryz.f150) (by kernel_rfl) (by kernel_rfl) (np := 0) (nt := 15) (fun _ => rfl) (fun _ => rfl) (by kernel_rfl) (res := res150) (by kernel_rfl) (fun _ => rfl) (fun _ => Nat.le_of_ble_eq_true rfl) (by
    intro R
    rw [show loopsOf (codeOf Tryz.f150) = [] from by kernel_rfl]
    exact allM_nil) (fun R x k => q150 F154 F155 F156 F157 F158 F150 R x k)
abbrev FT144 : Type 1 := (R : Type) → (List Int) → Int → Int → ((List Int) → Option R) → Option R
def en144 (F : FT144) : Ent := ⟨144, [(false, (.arr 32 (.int .u8))), (false, (.int .u64)), (false, (.int .u64))], [(false, (.arr 32 (.int .u8)))], fun R x k => F R x.1 x.2.1 x.2.2.1 (fun y1 => k (y1, ()) ())⟩
def res144 : List (ResultVar × TypeId × Bool) := [(.cell 6 28, 28, false)]
abbrev LT144_3 : Type 1 := (R : Type) → Int → Int → Int → (List Int) → (List Int) → (List Int) → (Int → Int → (List Int) → (List Int) → Option R) → Option R
def le144_3 (L : LT144_3) : LEnt := ⟨3, [.val 1 (.int .u64), .val 2 (.int .u64), .fix 3 (.ptr 0 [] (.arr 32 (.int .u8))), .fix 6 (.ptr 1 [] (.arr 32 (.int .u8))), .fix 7 (.own 2 0), .val 8 (.int .i64), .var 0 (.arr 32 (.int .u8)) false, .var 1 (.arr 32 (.int .u8)) false, .row 2 (.int .u8) false], 3, [(.exit 0, [.val 1 (.int .u64), .val 2 (.int .u64), .fix 6 (.ptr 1 [] (.arr 32 (.int .u8))), .fix 7 (.own 2 0), .var 1 (.arr 32 (.int .u8)) false, .row 2 (.int .u8) false])], fun R x ke => L R x.1 x.2.1 x.2.2.1 x.2.2.2.1 x.2.2.2.2.1 x.2.2.2.2.2.1 (fun y1 y2 y3 y4 => ke.1 (y1, y2, y3, y4, ()))⟩
abbrev LT144_8 : Type 1 := (R : Type) → Int → (List Int) → (List Int) → (List Int) → (List Int) → ((List Int) → (List Int) → (List Int) → Option R) → Option R
def le144_8 (L : LT144_8) : LEnt := ⟨8, [.fix 6 (.ptr 1 [] (.arr 32 (.int .u8))), .fix 7 (.own 2 0), .fix 9 (.ptr 3 [] (.arr 8 (.int .u8))), .fix 10 (.ptr 4 [] (.arr 8 (.int .u8))), .val 11 (.int .i64), .var 1 (.arr 32 (.int .u8)) false, .row 2 (.int .u8) false, .var 3 (.arr 8 (.int .u8)) false, .var 4 (.arr 8 (.int .u8)) false], 5, [(.exit 2, [.fix 6 (.ptr 1 [] (.arr 32 (.int .u8))), .fix 7 (.own 2 0), .fix 10 (.ptr 4 [] (.arr 8 (.int .u8))), .var 1 (.arr 32 (.int .u8)) false, .row 2 (.int .u8) false, .var 4 (.arr 8 (.int .u8)) false])], fun R x ke => L R x.1 x.2.1 x.2.2.1 x.2.2.2.1 x.2.2.2.2.1 (fun y1 y2 y3 => ke.1 (y1, y2, y3, ()))⟩
abbrev LT144_12 : Type 1 := (R : Type) → Int → (List Int) → (List Int) → (List Int) → ((List Int) → (List Int) → Option R) → Option R
def le144_12 (L : LT144_12) : LEnt := ⟨12, [.fix 6 (.ptr 1 [] (.arr 32 (.int .u8))), .fix 7 (.own 2 0), .fix 10 (.ptr 4 [] (.arr 8 (.int .u8))), .val 12 (.int .i64), .var 1 (.arr 32 (.int .u8)) false, .row 2 (.int .u8) false, .var 4 (.arr 8 (.int .u8)) false], 5, [(.exit 4, [.fix 6 (.ptr 1 [] (.arr 32 (.int .u8))), .fix 7 (.own 2 0), .var 1 (.arr 32 (.int .u8)) false, .row 2 (.int .u8) false])], fun R x ke => L R x.1 x.2.1 x.2.2.1 x.2.2.2.1 (fun y1 y2 => ke.1 (y1, y2, ()))⟩
noncomputable def e144 (F149 : FT149) (F150 : FT150) (L3 : LT144_3) (L8 : LT144_8) (L12 : LT144_12) (R : Type) : Env R := ⟨TT, EQT, 0, 49, ownOf [(1, 0)], callOf [en149 F149, en150 F150] R, loopOf [le144_3 L3, le144_8 L8, le144_12 L12] R, [], inlOf []⟩
def p144_3 : (R : Type) → Int → Int → Int → (List Int) → (List Int) → (List Int) → (Int → Int → Int → (List Int) → (List Int) → (List Int) → Option R) → (Int → Int → (List Int) → (List Int) → Option R) → Option R := fun R x1 x2 x3 x4 x5 x6 kc k0 =>
let v7 : Bool := (decide (x3 < (32 : Int)));
(match v7 with
| true => (match (bnd x3 (32 : Int)) with
| true => let v8 : Int := (List.getD x4 (Int.toNat x3) (0 : Int));
let v9 : (List Int) := ([v8] : (List Int));
(match (decide (List.length x6 + List.length v9 ≤ 140737488355328)) with
| true => let v10 : (List Int) := (x6 ++ v9);
let v11 : Int := (IntKind.i64.wrap (x3 + (1 : Int)));
kc x1 x2 v11 x4 x5 v10
| false => none)
| false => none)
| false => k0 x1 x2 x5 x6)
theorem q144_3 (F149 : FT149) (F150 : FT150) (L3 : LT144_3) (L8 : LT144_8) (L12 : LT144_12) (R : Type) (x : HT (le144_3 L3).H) (kc : HT (le144_3 L3).H → Option R) (ke : KT R (le144_3 L3).exs) :
  exec (e144 F149 F150 L3 L8 L12 R) (lcode 3 (codeOf Tryz.f144)) (stOf (le144_3 L3).H x 3) (roundK (le144_3 L3).H (le144_3 L3).exs kc ke) =
    p144_3 R x.1 x.2.1 x.2.2.1 x.2.2.2.1 x.2.2.2.2.1 x.2.2.2.2.2.1 (fun x1 x2 x3 x4 x5 x6 => kc (x1, x2, x3, x4, x5, x6, ())) (fun y1 y2 y3 y4 => ke.1 (y1, y2, y3, y4, ())) := by kernel_rfl
noncomputable def G144_3 : Nat → LT144_3
  | 0 => fun _ _ _ _ _ _ _ _ => none
  | n + 1 => fun R x1 x2 x3 x4 x5 x6 k0 => p144_3 R x1 x2 x3 x4 x5 x6 (fun x1 x2 x3 x4 x5 x6 => G144_3 n R x1 x2 x3 x4 x5 x6 k0) k0
def p144_8 : (R : Type) → Int → (List Int) → (List Int) → (List Int) → (List Int) → (Int → (List Int) → (List Int) → (List Int) → (List Int) → Option R) → ((List Int) → (List Int) → (List Int) → Option R) → Option R := fun R x1 x2 x3 x4 x5 kc k0 =>
let v6 : Bool := (decide (x1 < (8 : Int)));
(match v6 with
| true => (match (bnd x1 (8 : Int)) with
| true => let v7 : Int := (List.getD x4 (Int.toNat x1) (0 : Int));
let v8 : (List Int) := ([v7] : (List Int));
(match (decide (List.length x3 + List.length v8 ≤ 140737488355328)) with
| true => let v9 : (List Int) := (x3 ++ v8);
let v10 : Int := (IntKind.i64.wrap (x1 + (1 : Int)));
kc v10 x2 v9 x4 x5
| false => none)
| false => none)
| false => k0 x2 x3 x5)
theorem q144_8 (F149 : FT149) (F150 : FT150) (L3 : LT144_3) (L8 : LT144_8) (L12 : LT144_12) (R : Type) (x : HT (le144_8 L8).H) (kc : HT (le144_8 L8).H → Option R) (ke : KT R (le144_8 L8).exs) :
  exec (e144 F149 F150 L3 L8 L12 R) (lcode 8 (codeOf Tryz.f144)) (stOf (le144_8 L8).H x 5) (roundK (le144_8 L8).H (le144_8 L8).exs kc ke) =
    p144_8 R x.1 x.2.1 x.2.2.1 x.2.2.2.1 x.2.2.2.2.1 (fun x1 x2 x3 x4 x5 => kc (x1, x2, x3, x4, x5, ())) (fun y1 y2 y3 => ke.1 (y1, y2, y3, ())) := by kernel_rfl
noncomputable def G144_8 : Nat → LT144_8
  | 0 => fun _ _ _ _ _ _ _ => none
  | n + 1 => fun R x1 x2 x3 x4 x5 k0 => p144_8 R x1 x2 x3 x4 x5 (fun x1 x2 x3 x4 x5 => G144_8 n R x1 x2 x3 x4 x5 k0) k0
def p144_12 : (R : Type) → Int → (List Int) → (List Int) → (List Int) → (Int → (List Int) → (List Int) → (List Int) → Option R) → ((List Int) → (List Int) → Option R) → Option R := fun R x1 x2 x3 x4 kc k0 =>
let v5 : Bool := (decide (x1 < (8 : Int)));
(match v5 with
| true => (match (bnd x1 (8 : Int)) with
| true => let v6 : Int := (List.getD x4 (Int.toNat x1) (0 : Int));
let v7 : (List Int) := ([v6] : (List Int));
(match (decide (List.length x3 + List.length v7 ≤ 140737488355328)) with
| true => let v8 : (List Int) := (x3 ++ v7);
let v9 : Int := (IntKind.i64.wrap (x1 + (1 : Int)));
kc v9 x2 v8 x4
| false => none)
| false => none)
| false => k0 x2 x3)
theorem q144_12 (F149 : FT149) (F150 : FT150) (L3 : LT144_3) (L8 : LT144_8) (L12 : LT144_12) (R : Type) (x : HT (le144_12 L12).H) (kc : HT (le144_12 L12).H → Option R) (ke : KT R (le144_12 L12).exs) :
  exec (e144 F149 F150 L3 L8 L12 R) (lcode 12 (codeOf Tryz.f144)) (stOf (le144_12 L12).H x 5) (roundK (le144_12 L12).H (le144_12 L12).exs kc ke) =
    p144_12 R x.1 x.2.1 x.2.2.1 x.2.2.2.1 (fun x1 x2 x3 x4 => kc (x1, x2, x3, x4, ())) (fun y1 y2 => ke.1 (y1, y2, ())) := by kernel_rfl
noncomputable def G144_12 : Nat → LT144_12
  | 0 => fun _ _ _ _ _ _ => none
  | n + 1 => fun R x1 x2 x3 x4 k0 => p144_12 R x1 x2 x3 x4 (fun x1 x2 x3 x4 => G144_12 n R x1 x2 x3 x4 k0) k0
def p144 (F149 : FT149) (F150 : FT150) (L3 : LT144_3) (L8 : LT144_8) (L12 : LT144_12) : FT144 := fun R a0 a1 a2 k =>
L3 R a1 a2 (0 : Int) a0 (List.replicate 32 (0 : Int)) ([] : (List Int)) (fun x1 x2 x3 x4 =>
F149 R x1 fun y5 =>
F149 R x2 fun y6 =>
L8 R (0 : Int) x3 x4 y5 y6 (fun x7 x8 x9 =>
L12 R (0 : Int) x7 x8 x9 (fun x10 x11 =>
F150 R x11 fun y12 =>
k y12)))
theorem q144 (F149 : FT149) (F150 : FT150) (L3 : LT144_3) (L8 : LT144_8) (L12 : LT144_12) (F : FT144) (R : Type) (x : AT (en144 F).ins) (k : RT (en144 F).outs → PT (en144 F).ins → Option R) :
  xfun (e144 F149 F150 L3 L8 L12 R) (codeOf Tryz.f144) res144 (avs (en144 F).ins x) (finK (en144 F).outs (en144 F).ins k) = p144 F149 F150 L3 L8 L12 R x.1 x.2.1 x.2.2.1 (fun y1 => k (y1, ()) ()) := by kernel_rfl
noncomputable def F144 : FT144 := p144 F149 F150 (G144_3 FUEL) (G144_8 FUEL) (G144_12 FUEL)
theorem env144 (R : Type) : EnvOK Tryz.prog (e144 F149 F150 (G144_3 FUEL) (G144_8 FUEL) (G144_12 FUEL) R) := ⟨tabOK, eqOK, callOf_ok (allE_cons ok149 (allE_cons ok150 allE_nil)), noIns, inlOK_nil⟩
noncomputable def T144_3 : (R : Type) → HT (le144_3 (G144_3 FUEL)).H → (HT (le144_3 (G144_3 FUEL)).H → Option R) → KT R (le144_3 (G144_3 FUEL)).exs → Option R := fun R x kc ke => p144_3 R x.1 x.2.1 x.2.2.1 x.2.2.2.1 x.2.2.2.2.1 x.2.2.2.2.2.1 (fun x1 x2 x3 x4 x5 x6 => kc (x1, x2, x3, x4, x5, x6, ())) (fun y1 y2 y3 y4 => ke.1 (y1, y2, y3, y4, ()))
theorem it144_3 : ∀ (n : Nat) (R : Type) (x : HT (le144_3 (G144_3 FUEL)).H) (ke : KT R (le144_3 (G144_3 FUEL)).exs), iter T144_3 n R x ke = G144_3 n R x.1 x.2.1 x.2.2.1 x.2.2.2.1 x.2.2.2.2.1 x.2.2.2.2.2.1 (fun y1 y2 y3 y4 => ke.1 (y1, y2, y3, y4, ())) := by
  intro n
  induction n with
  | zero => intro R x ke; rfl
  | succ n ih =>
    intro R x ke
    show T144_3 R x (fun x' => iter T144_3 n R x' ke) ke = _
    rw [show (fun x' => iter T144_3 n R x' ke) = fun x => G144_3 n R x.1 x.2.1 x.2.2.1 x.2.2.2.1 x.2.2.2.2.1 x.2.2.2.2.2.1 (fun y1 y2 y3 y4 => ke.1 (y1, y2, y3, y4, ())) from funext fun x' => ih R x' ke]
    rfl
theorem lok144_3 : (le144_3 (G144_3 FUEL)).OK Tryz.prog 0 49 (lcode 3 (codeOf Tryz.f144)) := fun R x ke r h =>
  iter_sound (fun R => e144 F149 F150 (G144_3 FUEL) (G144_8 FUEL) (G144_12 FUEL) R) 0 49 (fun _ => rfl) (fun _ => rfl) (fun R => env144 R) mixed (by
    intro R
    rw [show loopsOf (lcode 3 (codeOf Tryz.f144)) = [] from by kernel_rfl]
    exact allM_nil) (T := T144_3) (fun R x kc ke => q144_3 F149 F150 (G144_3 FUEL) (G144_8 FUEL) (G144_12 FUEL) R x kc ke) FUEL R x ke r ((it144_3 FUEL R x ke).trans h)
noncomputable def T144_8 : (R : Type) → HT (le144_8 (G144_8 FUEL)).H → (HT (le144_8 (G144_8 FUEL)).H → Option R) → KT R (le144_8 (G144_8 FUEL)).exs → Option R := fun R x kc ke => p144_8 R x.1 x.2.1 x.2.2.1 x.2.2.2.1 x.2.2.2.2.1 (fun x1 x2 x3 x4 x5 => kc (x1, x2, x3, x4, x5, ())) (fun y1 y2 y3 => ke.1 (y1, y2, y3, ()))
theorem it144_8 : ∀ (n : Nat) (R : Type) (x : HT (le144_8 (G144_8 FUEL)).H) (ke : KT R (le144_8 (G144_8 FUEL)).exs), iter T144_8 n R x ke = G144_8 n R x.1 x.2.1 x.2.2.1 x.2.2.2.1 x.2.2.2.2.1 (fun y1 y2 y3 => ke.1 (y1, y2, y3, ())) := by
  intro n
  induction n with
  | zero => intro R x ke; rfl
  | succ n ih =>
    intro R x ke
    show T144_8 R x (fun x' => iter T144_8 n R x' ke) ke = _
    rw [show (fun x' => iter T144_8 n R x' ke) = fun x => G144_8 n R x.1 x.2.1 x.2.2.1 x.2.2.2.1 x.2.2.2.2.1 (fun y1 y2 y3 => ke.1 (y1, y2, y3, ())) from funext fun x' => ih R x' ke]
    rfl
theorem lok144_8 : (le144_8 (G144_8 FUEL)).OK Tryz.prog 0 49 (lcode 8 (codeOf Tryz.f144)) := fun R x ke r h =>
  iter_sound (fun R => e144 F149 F150 (G144_3 FUEL) (G144_8 FUEL) (G144_12 FUEL) R) 0 49 (fun _ => rfl) (fun _ => rfl) (fun R => env144 R) mixed (by
    intro R
    rw [show loopsOf (lcode 8 (codeOf Tryz.f144)) = [] from by kernel_rfl]
    exact allM_nil) (T := T144_8) (fun R x kc ke => q144_8 F149 F150 (G144_3 FUEL) (G144_8 FUEL) (G144_12 FUEL) R x kc ke) FUEL R x ke r ((it144_8 FUEL R x ke).trans h)
noncomputable def T144_12 : (R : Type) → HT (le144_12 (G144_12 FUEL)).H → (HT (le144_12 (G144_12 FUEL)).H → Option R) → KT R (le144_12 (G144_12 FUEL)).exs → Option R := fun R x kc ke => p144_12 R x.1 x.2.1 x.2.2.1 x.2.2.2.1 (fun x1 x2 x3 x4 => kc (x1, x2, x3, x4, ())) (fun y1 y2 => ke.1 (y1, y2, ()))
theorem it144_12 : ∀ (n : Nat) (R : Type) (x : HT (le144_12 (G144_12 FUEL)).H) (ke : KT R (le144_12 (G144_12 FUEL)).exs), iter T144_12 n R x ke = G144_12 n R x.1 x.2.1 x.2.2.1 x.2.2.2.1 (fun y1 y2 => ke.1 (y1, y2, ())) := by
  intro n
  induction n with
  | zero => intro R x ke; rfl
  | succ n ih =>
    intro R x ke
    show T144_12 R x (fun x' => iter T144_12 n R x' ke) ke = _
    rw [show (fun x' => iter T144_12 n R x' ke) = fun x => G144_12 n R x.1 x.2.1 x.2.2.1 x.2.2.2.1 (fun y1 y2 => ke.1 (y1, y2, ())) from funext fun x' => ih R x' ke]
    rfl
theorem lok144_12 : (le144_12 (G144_12 FUEL)).OK Tryz.prog 0 49 (lcode 12 (codeOf Tryz.f144)) := fun R x ke r h =>
  iter_sound (fun R => e144 F149 F150 (G144_3 FUEL) (G144_8 FUEL) (G144_12 FUEL) R) 0 49 (fun _ => rfl) (fun _ => rfl) (fun R => env144 R) mixed (by
    intro R
    rw [show loopsOf (lcode 12 (codeOf Tryz.f144)) = [] from by kernel_rfl]
    exact allM_nil) (T := T144_12) (fun R x kc ke => q144_12 F149 F150 (G144_3 FUEL) (G144_8 FUEL) (G144_12 FUEL) R x kc ke) FUEL R x ke r ((it144_12 FUEL R x ke).trans h)
theorem ok144 : (en144 F144).OK Tryz.prog :=
  ent_ok (Ef := fun R => e144 F149 F150 (G144_3 FUEL) (G144_8 FUEL) (G144_12 FUEL) R) (fun R => env144 R) mixed Tryz.func144 (body := codeOf Tryz.f144) (by kernel_rfl) (by kernel_rfl) (np := 0) (nt := 49) (fun _ => rfl) (fun _ => rfl) (by kernel_rfl) (res := res144) (by kernel_rfl) (fun _ => rfl) (fun _ => Nat.le_of_ble_eq_true rfl) (by
    intro R
    rw [show loopsOf (codeOf Tryz.f144) = [lcode 3 (codeOf Tryz.f144), lcode 8 (codeOf Tryz.f144), lcode 12 (codeOf Tryz.f144)] from by kernel_rfl]
    exact (allM_cons (loop_ok2 (e := le144_3 (G144_3 FUEL)) rfl rfl lok144_3) (allM_cons (loop_ok2 (e := le144_8 (G144_8 FUEL)) rfl rfl lok144_8) (allM_cons (loop_ok2 (e := le144_12 (G144_12 FUEL)) rfl rfl lok144_12) allM_nil)))) (fun R x k => q144 F149 F150 (G144_3 FUEL) (G144_8 FUEL) (G144_12 FUEL) F144 R x k)
abbrev FT145 : Type 1 := (R : Type) → Int → (Int → Option R) → Option R
def en145 (F : FT145) : Ent := ⟨145, [(false, (.int .u64))], [(false, (.int .u64))], fun R x k => F R x.1 (fun y1 => k (y1, ()) ())⟩
def res145 : List (ResultVar × TypeId × Bool) := [(.tmp 2, 22, false)]
abbrev LT145_3 : Type 1 := (R : Type) → Int → Int → Int → (Int → Option R) → Option R
def le145_3 (L : LT145_3) : LEnt := ⟨3, [.val 0 (.int .u64), .val 3 (.int .u64), .val 4 (.int .u64)], 0, [(.exit 0, [.val 3 (.int .u64)])], fun R x ke => L R x.1 x.2.1 x.2.2.1 (fun y1 => ke.1 (y1, ()))⟩
noncomputable def e145 (L3 : LT145_3) (R : Type) : Env R := ⟨TT, EQT, 0, 13, ownOf [], callOf [] R, loopOf [le145_3 L3] R, [], inlOf []⟩
def p145_3 : (R : Type) → Int → Int → Int → (Int → Int → Int → Option R) → (Int → Option R) → Option R := fun R x1 x2 x3 kc k0 =>
let v4 : Bool := (decide (x3 < x1));
(match v4 with
| true => let v5 : Int := (IntKind.u64.wrap ((2 : Int) * x2));
let v6 : Int := (IntKind.u64.wrap (x3 + (1 : Int)));
kc x1 v5 v6
| false => k0 x2)
theorem q145_3 (L3 : LT145_3) (R : Type) (x : HT (le145_3 L3).H) (kc : HT (le145_3 L3).H → Option R) (ke : KT R (le145_3 L3).exs) :
  exec (e145 L3 R) (lcode 3 (codeOf Tryz.f145)) (stOf (le145_3 L3).H x 0) (roundK (le145_3 L3).H (le145_3 L3).exs kc ke) =
    p145_3 R x.1 x.2.1 x.2.2.1 (fun x1 x2 x3 => kc (x1, x2, x3, ())) (fun y1 => ke.1 (y1, ())) := by kernel_rfl
noncomputable def G145_3 : Nat → LT145_3
  | 0 => fun _ _ _ _ _ => none
  | n + 1 => fun R x1 x2 x3 k0 => p145_3 R x1 x2 x3 (fun x1 x2 x3 => G145_3 n R x1 x2 x3 k0) k0
def p145 (L3 : LT145_3) : FT145 := fun R a0 k =>
L3 R a0 (1 : Int) (0 : Int) (fun x1 =>
k x1)
theorem q145 (L3 : LT145_3) (F : FT145) (R : Type) (x : AT (en145 F).ins) (k : RT (en145 F).outs → PT (en145 F).ins → Option R) :
  xfun (e145 L3 R) (codeOf Tryz.f145) res145 (avs (en145 F).ins x) (finK (en145 F).outs (en145 F).ins k) = p145 L3 R x.1 (fun y1 => k (y1, ()) ()) := by kernel_rfl
noncomputable def F145 : FT145 := p145 (G145_3 FUEL)
theorem env145 (R : Type) : EnvOK Tryz.prog (e145 (G145_3 FUEL) R) := ⟨tabOK, eqOK, callOf_ok allE_nil, noIns, inlOK_nil⟩
noncomputable def T145_3 : (R : Type) → HT (le145_3 (G145_3 FUEL)).H → (HT (le145_3 (G145_3 FUEL)).H → Option R) → KT R (le145_3 (G145_3 FUEL)).exs → Option R := fun R x kc ke => p145_3 R x.1 x.2.1 x.2.2.1 (fun x1 x2 x3 => kc (x1, x2, x3, ())) (fun y1 => ke.1 (y1, ()))
theorem it145_3 : ∀ (n : Nat) (R : Type) (x : HT (le145_3 (G145_3 FUEL)).H) (ke : KT R (le145_3 (G145_3 FUEL)).exs), iter T145_3 n R x ke = G145_3 n R x.1 x.2.1 x.2.2.1 (fun y1 => ke.1 (y1, ())) := by
  intro n
  induction n with
  | zero => intro R x ke; rfl
  | succ n ih =>
    intro R x ke
    show T145_3 R x (fun x' => iter T145_3 n R x' ke) ke = _
    rw [show (fun x' => iter T145_3 n R x' ke) = fun x => G145_3 n R x.1 x.2.1 x.2.2.1 (fun y1 => ke.1 (y1, ())) from funext fun x' => ih R x' ke]
    rfl
theorem lok145_3 : (le145_3 (G145_3 FUEL)).OK Tryz.prog 0 13 (lcode 3 (codeOf Tryz.f145)) := fun R x ke r h =>
  iter_sound (fun R => e145 (G145_3 FUEL) R) 0 13 (fun _ => rfl) (fun _ => rfl) (fun R => env145 R) mixed (by
    intro R
    rw [show loopsOf (lcode 3 (codeOf Tryz.f145)) = [] from by kernel_rfl]
    exact allM_nil) (T := T145_3) (fun R x kc ke => q145_3 (G145_3 FUEL) R x kc ke) FUEL R x ke r ((it145_3 FUEL R x ke).trans h)
theorem ok145 : (en145 F145).OK Tryz.prog :=
  ent_ok (Ef := fun R => e145 (G145_3 FUEL) R) (fun R => env145 R) mixed Tryz.func145 (body := codeOf Tryz.f145) (by kernel_rfl) (by kernel_rfl) (np := 0) (nt := 13) (fun _ => rfl) (fun _ => rfl) (by kernel_rfl) (res := res145) (by kernel_rfl) (fun _ => rfl) (fun _ => Nat.le_of_ble_eq_true rfl) (by
    intro R
    rw [show loopsOf (codeOf Tryz.f145) = [lcode 3 (codeOf Tryz.f145)] from by kernel_rfl]
    exact (allM_cons (loop_ok2 (e := le145_3 (G145_3 FUEL)) rfl rfl lok145_3) allM_nil)) (fun R x k => q145 (G145_3 FUEL) F145 R x k)
abbrev FT138 : Type 1 := (R : Type) → (List Int) → Int → Int → (Int → Option R) → Option R
def en138 (F : FT138) : Ent := ⟨138, [(false, (.arr 32 (.int .u8))), (false, (.int .u64)), (false, (.int .u64))], [(false, (.int .u64))], fun R x k => F R x.1 x.2.1 x.2.2.1 (fun y1 => k (y1, ()) ())⟩
def res138 : List (ResultVar × TypeId × Bool) := [(.tmp 6, 22, false)]
noncomputable def e138 (F144 : FT144) (F145 : FT145) (R : Type) : Env R := ⟨TT, EQT, 0, 25, ownOf [], callOf [en144 F144, en145 F145] R, loopOf [] R, [], inlOf []⟩
def p138 (F144 : FT144) (F145 : FT145) : FT138 := fun R a0 a1 a2 k =>
let v1 : Int := (IntKind.u64.wrap (Int.tdiv a2 (256 : Int)));
F144 R a0 a1 v1 fun y2 =>
let v3 : Int := (Int.tmod a2 (256 : Int));
let v4 : Int := (IntKind.u64.wrap (Int.tdiv v3 (8 : Int)));
(match (bnd v4 (32 : Int)) with
| true => let v5 : Int := (List.getD y2 (Int.toNat v4) (0 : Int));
let v6 : Int := (IntKind.u64.wrap v5);
let v7 : Int := (Int.tmod a2 (8 : Int));
let v8 : Int := (IntKind.u64.wrap ((7 : Int) - v7));
F145 R v8 fun y9 =>
(match (!(y9 == 0)) with
| true => let v10 : Int := (IntKind.u64.wrap (Int.tdiv v6 y9));
let v11 : Int := (Int.tmod v10 (2 : Int));
k v11
| false => none)
| false => none)
theorem q138 (F144 : FT144) (F145 : FT145) (F : FT138) (R : Type) (x : AT (en138 F).ins) (k : RT (en138 F).outs → PT (en138 F).ins → Option R) :
  xfun (e138 F144 F145 R) (codeOf Tryz.f138) res138 (avs (en138 F).ins x) (finK (en138 F).outs (en138 F).ins k) = p138 F144 F145 R x.1 x.2.1 x.2.2.1 (fun y1 => k (y1, ()) ()) := by kernel_rfl
noncomputable def F138 : FT138 := p138 F144 F145
theorem env138 (R : Type) : EnvOK Tryz.prog (e138 F144 F145 R) := ⟨tabOK, eqOK, callOf_ok (allE_cons ok144 (allE_cons ok145 allE_nil)), noIns, inlOK_nil⟩
theorem ok138 : (en138 F138).OK Tryz.prog :=
  ent_ok (Ef := fun R => e138 F144 F145 R) (fun R => env138 R) mixed Tryz.func138 (body := codeOf Tryz.f138) (by kernel_rfl) (by kernel_rfl) (np := 0) (nt := 25) (fun _ => rfl) (fun _ => rfl) (by kernel_rfl) (res := res138) (by kernel_rfl) (fun _ => rfl) (fun _ => Nat.le_of_ble_eq_true rfl) (by
    intro R
    rw [show loopsOf (codeOf Tryz.f138) = [] from by kernel_rfl]
    exact allM_nil) (fun R x k => q138 F144 F145 F138 R x k)
abbrev FT124 : Type 1 := (R : Type) → Tq6 → Int → (Int → Option R) → Option R
def en124 (F : FT124) : Ent := ⟨124, [(false, Kq6), (false, (.int .u64))], [(false, (.int .u64))], fun R x k => F R x.1 x.2.1 (fun y1 => k (y1, ()) ())⟩
def res124 : List (ResultVar × TypeId × Bool) := [(.tmp 4, 22, false)]
noncomputable def e124 (F138 : FT138) (F139 : FT139) (R : Type) : Env R := ⟨TT, EQT, 0, 28, ownOf [], callOf [en138 F138, en139 F139] R, loopOf [] R, [], inlOf []⟩
def p124 (F138 : FT138) (F139 : FT139) : FT124 := fun R a0 a1 k =>
let v1 : Bool := (a0.1 == (2 : Int));
(match v1 with
| true => F138 R a0.2.2.2.1 a0.2.2.2.2.1 a1 fun y2 =>
k y2
| false => let v3 : Int := (IntKind.u64.wrap (Int.tdiv a1 (8 : Int)));
(match (bnd v3 (List.length a0.2.1 : Int)) with
| true => let v4 : Int := (List.getD a0.2.1 (Int.toNat v3) (0 : Int));
let v5 : Int := (IntKind.u32.wrap v4);
let v6 : Int := (Int.tmod a1 (8 : Int));
let v7 : Int := (IntKind.i64.wrap v6);
let v8 : Int := (IntKind.i64.wrap ((7 : Int) - v7));
F139 R v5 v8 fun y9 =>
let v10 : Int := (Int.tmod y9 (2 : Int));
let v11 : Int := (IntKind.u64.wrap v10);
k v11
| false => none))
theorem q124 (F138 : FT138) (F139 : FT139) (F : FT124) (R : Type) (x : AT (en124 F).ins) (k : RT (en124 F).outs → PT (en124 F).ins → Option R) :
  xfun (e124 F138 F139 R) (codeOf Tryz.f124) res124 (avs (en124 F).ins x) (finK (en124 F).outs (en124 F).ins k) = p124 F138 F139 R x.1 x.2.1 (fun y1 => k (y1, ()) ()) := by kernel_rfl
noncomputable def F124 : FT124 := p124 F138 F139
theorem env124 (R : Type) : EnvOK Tryz.prog (e124 F138 F139 R) := ⟨tabOK, eqOK, callOf_ok (allE_cons ok138 (allE_cons ok139 allE_nil)), noIns, inlOK_nil⟩
theorem ok124 : (en124 F124).OK Tryz.prog :=
  ent_ok (Ef := fun R => e124 F138 F139 R) (fun R => env124 R) mixed Tryz.func124 (body := codeOf Tryz.f124) (by kernel_rfl) (by kernel_rfl) (np := 0) (nt := 28) (fun _ => rfl) (fun _ => rfl) (by kernel_rfl) (res := res124) (by kernel_rfl) (fun _ => rfl) (fun _ => Nat.le_of_ble_eq_true rfl) (by
    intro R
    rw [show loopsOf (codeOf Tryz.f124) = [] from by kernel_rfl]
    exact allM_nil) (fun R x k => q124 F138 F139 F124 R x k)
abbrev FT86 : Type 1 := (R : Type) → Tq6 → Int → (Int → Tq6 → Int → Option R) → Option R
def en86 (F : FT86) : Ent := ⟨86, [(false, Kq6), (false, (.int .i64))], [(false, (.int .u64)), (false, Kq6), (false, (.int .i64))], fun R x k => F R x.1 x.2.1 (fun y1 y2 y3 => k (y1, y2, y3, ()) ())⟩
def res86 : List (ResultVar × TypeId × Bool) := [(.tmp 4, 22, false), (.cell 5 30, 30, false), (.tmp 6, 32, false)]
abbrev LT86_7 : Type 1 := (R : Type) → Int → Int → Int → Tq6 → Tq6 → (Int → Tq6 → Tq6 → Option R) → Option R
def le86_7 (L : LT86_7) : LEnt := ⟨7, [.val 1 (.int .i64), .fix 2 (.ptr 0 [] Kq6), .fix 5 (.ptr 1 [] Kq6), .val 7 (.int .u64), .val 8 (.int .i64), .var 0 Kq6 false, .var 1 Kq6 false], 2, [(.exit 0, [.fix 2 (.ptr 0 [] Kq6), .fix 5 (.ptr 1 [] Kq6), .val 7 (.int .u64), .var 0 Kq6 false, .var 1 Kq6 false])], fun R x ke => L R x.1 x.2.1 x.2.2.1 x.2.2.2.1 x.2.2.2.2.1 (fun y1 y2 y3 => ke.1 (y1, y2, y3, ()))⟩
noncomputable def e86 (F58 : FT58) (F123 : FT123) (F124 : FT124) (L7 : LT86_7) (R : Type) : Env R := ⟨TT, EQT, 0, 45, ownOf [], callOf [en58 F58, en123 F123, en124 F124] R, loopOf [le86_7 L7] R, [], inlOf []⟩
def p86_7 (F124 : FT124) : (R : Type) → Int → Int → Int → Tq6 → Tq6 → (Int → Int → Int → Tq6 → Tq6 → Option R) → (Int → Tq6 → Tq6 → Option R) → Option R := fun R x1 x2 x3 x4 x5 kc k0 =>
let v6 : Bool := (decide (x3 < x1));
(match v6 with
| true => let v7 : Int := (IntKind.u64.wrap ((2 : Int) * x2));
F124 R x4 x4.2.2.2.2.2.1 fun y8 =>
let v9 : Int := (IntKind.u64.wrap (v7 + y8));
let v10 : Int := (IntKind.u64.wrap (x4.2.2.2.2.2.1 + (1 : Int)));
let v11 : Int := (IntKind.i64.wrap (x3 + (1 : Int)));
kc x1 v9 v11 (x4.1, x4.2.1, x4.2.2.1, x4.2.2.2.1, x4.2.2.2.2.1, v10, x4.2.2.2.2.2.2) x5
| false => k0 x2 x4 x5)
theorem q86_7 (F58 : FT58) (F123 : FT123) (F124 : FT124) (L7 : LT86_7) (R : Type) (x : HT (le86_7 L7).H) (kc : HT (le86_7 L7).H → Option R) (ke : KT R (le86_7 L7).exs) :
  exec (e86 F58 F123 F124 L7 R) (lcode 7 (codeOf Tryz.f86)) (stOf (le86_7 L7).H x 2) (roundK (le86_7 L7).H (le86_7 L7).exs kc ke) =
    p86_7 F124 R x.1 x.2.1 x.2.2.1 x.2.2.2.1 x.2.2.2.2.1 (fun x1 x2 x3 x4 x5 => kc (x1, x2, x3, x4, x5, ())) (fun y1 y2 y3 => ke.1 (y1, y2, y3, ())) := by kernel_rfl
noncomputable def G86_7 : Nat → LT86_7
  | 0 => fun _ _ _ _ _ _ _ => none
  | n + 1 => fun R x1 x2 x3 x4 x5 k0 => p86_7 F124 R x1 x2 x3 x4 x5 (fun x1 x2 x3 x4 x5 => G86_7 n R x1 x2 x3 x4 x5 k0) k0
def p86 (F58 : FT58) (F123 : FT123) (L7 : LT86_7) : FT86 := fun R a0 a1 k =>
F58 R a0 fun y1 =>
(match (!y1) with
| true => k (0 : Int) a0 (1 : Int)
| false => let v2 : Bool := (decide (a1 < (0 : Int)));
(match v2 with
| true => k (0 : Int) a0 (1 : Int)
| false => let v3 : Bool := (decide (a1 > (64 : Int)));
(match v3 with
| true => k (0 : Int) a0 (1 : Int)
| false => let v4 : Int := (IntKind.u64.wrap a1);
F123 R a0 fun y5 =>
let v6 : Bool := (decide (v4 > y5));
(match v6 with
| true => k (0 : Int) a0 (8 : Int)
| false => L7 R a1 (0 : Int) (0 : Int) a0 ((0 : Int), ([] : (List Int)), (0 : Int), (List.replicate 32 (0 : Int)), (0 : Int), (0 : Int), ()) (fun x7 x8 x9 =>
k x7 x8 (0 : Int))))))
theorem q86 (F58 : FT58) (F123 : FT123) (F124 : FT124) (L7 : LT86_7) (F : FT86) (R : Type) (x : AT (en86 F).ins) (k : RT (en86 F).outs → PT (en86 F).ins → Option R) :
  xfun (e86 F58 F123 F124 L7 R) (codeOf Tryz.f86) res86 (avs (en86 F).ins x) (finK (en86 F).outs (en86 F).ins k) = p86 F58 F123 L7 R x.1 x.2.1 (fun y1 y2 y3 => k (y1, y2, y3, ()) ()) := by kernel_rfl
noncomputable def F86 : FT86 := p86 F58 F123 (G86_7 FUEL)
theorem env86 (R : Type) : EnvOK Tryz.prog (e86 F58 F123 F124 (G86_7 FUEL) R) := ⟨tabOK, eqOK, callOf_ok (allE_cons ok58 (allE_cons ok123 (allE_cons ok124 allE_nil))), noIns, inlOK_nil⟩
noncomputable def T86_7 : (R : Type) → HT (le86_7 (G86_7 FUEL)).H → (HT (le86_7 (G86_7 FUEL)).H → Option R) → KT R (le86_7 (G86_7 FUEL)).exs → Option R := fun R x kc ke => p86_7 F124 R x.1 x.2.1 x.2.2.1 x.2.2.2.1 x.2.2.2.2.1 (fun x1 x2 x3 x4 x5 => kc (x1, x2, x3, x4, x5, ())) (fun y1 y2 y3 => ke.1 (y1, y2, y3, ()))
theorem it86_7 : ∀ (n : Nat) (R : Type) (x : HT (le86_7 (G86_7 FUEL)).H) (ke : KT R (le86_7 (G86_7 FUEL)).exs), iter T86_7 n R x ke = G86_7 n R x.1 x.2.1 x.2.2.1 x.2.2.2.1 x.2.2.2.2.1 (fun y1 y2 y3 => ke.1 (y1, y2, y3, ())) := by
  intro n
  induction n with
  | zero => intro R x ke; rfl
  | succ n ih =>
    intro R x ke
    show T86_7 R x (fun x' => iter T86_7 n R x' ke) ke = _
    rw [show (fun x' => iter T86_7 n R x' ke) = fun x => G86_7 n R x.1 x.2.1 x.2.2.1 x.2.2.2.1 x.2.2.2.2.1 (fun y1 y2 y3 => ke.1 (y1, y2, y3, ())) from funext fun x' => ih R x' ke]
    rfl
theorem lok86_7 : (le86_7 (G86_7 FUEL)).OK Tryz.prog 0 45 (lcode 7 (codeOf Tryz.f86)) := fun R x ke r h =>
  iter_sound (fun R => e86 F58 F123 F124 (G86_7 FUEL) R) 0 45 (fun _ => rfl) (fun _ => rfl) (fun R => env86 R) mixed (by
    intro R
    rw [show loopsOf (lcode 7 (codeOf Tryz.f86)) = [] from by kernel_rfl]
    exact allM_nil) (T := T86_7) (fun R x kc ke => q86_7 F58 F123 F124 (G86_7 FUEL) R x kc ke) FUEL R x ke r ((it86_7 FUEL R x ke).trans h)
theorem ok86 : (en86 F86).OK Tryz.prog :=
  ent_ok (Ef := fun R => e86 F58 F123 F124 (G86_7 FUEL) R) (fun R => env86 R) mixed Tryz.func86 (body := codeOf Tryz.f86) (by kernel_rfl) (by kernel_rfl) (np := 0) (nt := 45) (fun _ => rfl) (fun _ => rfl) (by kernel_rfl) (res := res86) (by kernel_rfl) (fun _ => rfl) (fun _ => Nat.le_of_ble_eq_true rfl) (by
    intro R
    rw [show loopsOf (codeOf Tryz.f86) = [lcode 7 (codeOf Tryz.f86)] from by kernel_rfl]
    exact (allM_cons (loop_ok2 (e := le86_7 (G86_7 FUEL)) rfl rfl lok86_7) allM_nil)) (fun R x k => q86 F58 F123 F124 (G86_7 FUEL) F86 R x k)
abbrev FT46 : Type 1 := (R : Type) → Tq6 → Int → Int → (Int → Tq6 → Int → Option R) → Option R
def en46 (F : FT46) : Ent := ⟨46, [(false, Kq6), (false, (.int .u64)), (false, (.int .i64))], [(false, (.int .u64)), (false, Kq6), (false, (.int .i64))], fun R x k => F R x.1 x.2.1 x.2.2.1 (fun y1 y2 y3 => k (y1, y2, y3, ()) ())⟩
def res46 : List (ResultVar × TypeId × Bool) := [(.tmp 6, 22, false), (.cell 7 30, 30, false), (.tmp 8, 32, false)]
abbrev LT46_4 : Type 1 := (R : Type) → Int → Int → Int → Tq6 → Tq6 → (Int → Int → Tq6 → Option R) → (Tq6 → Tq6 → Option R) → Option R
def le46_4 (L : LT46_4) : LEnt := ⟨4, [.val 1 (.int .u64), .val 2 (.int .i64), .fix 3 (.ptr 0 [] Kq6), .fix 7 (.ptr 1 [] Kq6), .val 9 (.int .i64), .var 0 Kq6 false, .var 1 Kq6 false], 2, [(.ret, [.val 6 (.int .u64), .fix 7 (.ptr 1 [] Kq6), .val 8 (.int .i64), .var 1 Kq6 false]), (.exit 0, [.fix 3 (.ptr 0 [] Kq6), .fix 7 (.ptr 1 [] Kq6), .var 0 Kq6 false, .var 1 Kq6 false])], fun R x ke => L R x.1 x.2.1 x.2.2.1 x.2.2.2.1 x.2.2.2.2.1 (fun y1 y2 y3 => ke.1 (y1, y2, y3, ())) (fun y1 y2 => ke.2.1 (y1, y2, ()))⟩
noncomputable def e46 (F58 : FT58) (F67 : FT67) (F86 : FT86) (L4 : LT46_4) (R : Type) : Env R := ⟨TT, EQT, 0, 57, ownOf [], callOf [en58 F58, en67 F67, en86 F86] R, loopOf [le46_4 L4] R, [], inlOf []⟩
def p46_4 (F67 : FT67) (F86 : FT86) : (R : Type) → Int → Int → Int → Tq6 → Tq6 → (Int → Int → Int → Tq6 → Tq6 → Option R) → (Int → Int → Tq6 → Option R) → (Tq6 → Tq6 → Option R) → Option R := fun R x1 x2 x3 x4 x5 kc k0 k1 =>
let v6 : Bool := (decide (x3 < x2));
(match v6 with
| true => F67 R x1 fun y7 =>
F86 R x4 y7 fun y8 y9 y10 =>
let v11 : Bool := (y10 != (0 : Int));
(match v11 with
| true => k0 (0 : Int) y10 x4
| false => let v12 : Bool := (decide (y8 < x1));
(match v12 with
| true => k0 y8 (0 : Int) y9
| false => let v13 : Int := (IntKind.i64.wrap (x3 + (1 : Int)));
kc x1 x2 v13 y9 x5))
| false => k1 x4 x5)
theorem q46_4 (F58 : FT58) (F67 : FT67) (F86 : FT86) (L4 : LT46_4) (R : Type) (x : HT (le46_4 L4).H) (kc : HT (le46_4 L4).H → Option R) (ke : KT R (le46_4 L4).exs) :
  exec (e46 F58 F67 F86 L4 R) (lcode 4 (codeOf Tryz.f46)) (stOf (le46_4 L4).H x 2) (roundK (le46_4 L4).H (le46_4 L4).exs kc ke) =
    p46_4 F67 F86 R x.1 x.2.1 x.2.2.1 x.2.2.2.1 x.2.2.2.2.1 (fun x1 x2 x3 x4 x5 => kc (x1, x2, x3, x4, x5, ())) (fun y1 y2 y3 => ke.1 (y1, y2, y3, ())) (fun y1 y2 => ke.2.1 (y1, y2, ())) := by kernel_rfl
noncomputable def G46_4 : Nat → LT46_4
  | 0 => fun _ _ _ _ _ _ _ _ => none
  | n + 1 => fun R x1 x2 x3 x4 x5 k0 k1 => p46_4 F67 F86 R x1 x2 x3 x4 x5 (fun x1 x2 x3 x4 x5 => G46_4 n R x1 x2 x3 x4 x5 k0 k1) k0 k1
def p46 (F58 : FT58) (L4 : LT46_4) : FT46 := fun R a0 a1 a2 k =>
F58 R a0 fun y1 =>
(match (!y1) with
| true => k (0 : Int) a0 (1 : Int)
| false => let v2 : Bool := (decide (a1 < (1 : Int)));
(match v2 with
| true => k (0 : Int) a0 (1 : Int)
| false => let v3 : Bool := (decide (a1 ≥ (9223372036854775808 : Int)));
(match v3 with
| true => k (0 : Int) a0 (1 : Int)
| false => let v4 : Bool := (decide (a2 < (1 : Int)));
(match v4 with
| true => k (0 : Int) a0 (1 : Int)
| false => let v5 : Bool := (decide (a2 > (64 : Int)));
(match v5 with
| true => k (0 : Int) a0 (1 : Int)
| false => L4 R a1 a2 (0 : Int) a0 ((0 : Int), ([] : (List Int)), (0 : Int), (List.replicate 32 (0 : Int)), (0 : Int), (0 : Int), ()) (fun x6 x7 x8 =>
k x6 x8 x7) (fun x9 x10 =>
k (0 : Int) x9 (9 : Int)))))))
theorem q46 (F58 : FT58) (F67 : FT67) (F86 : FT86) (L4 : LT46_4) (F : FT46) (R : Type) (x : AT (en46 F).ins) (k : RT (en46 F).outs → PT (en46 F).ins → Option R) :
  xfun (e46 F58 F67 F86 L4 R) (codeOf Tryz.f46) res46 (avs (en46 F).ins x) (finK (en46 F).outs (en46 F).ins k) = p46 F58 L4 R x.1 x.2.1 x.2.2.1 (fun y1 y2 y3 => k (y1, y2, y3, ()) ()) := by kernel_rfl
noncomputable def F46 : FT46 := p46 F58 (G46_4 FUEL)
theorem env46 (R : Type) : EnvOK Tryz.prog (e46 F58 F67 F86 (G46_4 FUEL) R) := ⟨tabOK, eqOK, callOf_ok (allE_cons ok58 (allE_cons ok67 (allE_cons ok86 allE_nil))), noIns, inlOK_nil⟩
noncomputable def T46_4 : (R : Type) → HT (le46_4 (G46_4 FUEL)).H → (HT (le46_4 (G46_4 FUEL)).H → Option R) → KT R (le46_4 (G46_4 FUEL)).exs → Option R := fun R x kc ke => p46_4 F67 F86 R x.1 x.2.1 x.2.2.1 x.2.2.2.1 x.2.2.2.2.1 (fun x1 x2 x3 x4 x5 => kc (x1, x2, x3, x4, x5, ())) (fun y1 y2 y3 => ke.1 (y1, y2, y3, ())) (fun y1 y2 => ke.2.1 (y1, y2, ()))
theorem it46_4 : ∀ (n : Nat) (R : Type) (x : HT (le46_4 (G46_4 FUEL)).H) (ke : KT R (le46_4 (G46_4 FUEL)).exs), iter T46_4 n R x ke = G46_4 n R x.1 x.2.1 x.2.2.1 x.2.2.2.1 x.2.2.2.2.1 (fun y1 y2 y3 => ke.1 (y1, y2, y3, ())) (fun y1 y2 => ke.2.1 (y1, y2, ())) := by
  intro n
  induction n with
  | zero => intro R x ke; rfl
  | succ n ih =>
    intro R x ke
    show T46_4 R x (fun x' => iter T46_4 n R x' ke) ke = _
    rw [show (fun x' => iter T46_4 n R x' ke) = fun x => G46_4 n R x.1 x.2.1 x.2.2.1 x.2.2.2.1 x.2.2.2.2.1 (fun y1 y2 y3 => ke.1 (y1, y2, y3, ())) (fun y1 y2 => ke.2.1 (y1, y2, ())) from funext fun x' => ih R x' ke]
    rfl
theorem lok46_4 : (le46_4 (G46_4 FUEL)).OK Tryz.prog 0 57 (lcode 4 (codeOf Tryz.f46)) := fun R x ke r h =>
  iter_sound (fun R => e46 F58 F67 F86 (G46_4 FUEL) R) 0 57 (fun _ => rfl) (fun _ => rfl) (fun R => env46 R) mixed (by
    intro R
    rw [show loopsOf (lcode 4 (codeOf Tryz.f46)) = [] from by kernel_rfl]
    exact allM_nil) (T := T46_4) (fun R x kc ke => q46_4 F58 F67 F86 (G46_4 FUEL) R x kc ke) FUEL R x ke r ((it46_4 FUEL R x ke).trans h)
theorem ok46 : (en46 F46).OK Tryz.prog :=
  ent_ok (Ef := fun R => e46 F58 F67 F86 (G46_4 FUEL) R) (fun R => env46 R) mixed Tryz.func46 (body := codeOf Tryz.f46) (by kernel_rfl) (by kernel_rfl) (np := 0) (nt := 57) (fun _ => rfl) (fun _ => rfl) (by kernel_rfl) (res := res46) (by kernel_rfl) (fun _ => rfl) (fun _ => Nat.le_of_ble_eq_true rfl) (by
    intro R
    rw [show loopsOf (codeOf Tryz.f46) = [lcode 4 (codeOf Tryz.f46)] from by kernel_rfl]
    exact (allM_cons (loop_ok2 (e := le46_4 (G46_4 FUEL)) rfl rfl lok46_4) allM_nil)) (fun R x k => q46 F58 F67 F86 (G46_4 FUEL) F46 R x k)
abbrev FT87 : Type 1 := (R : Type) → Tq7 → Int → Int → (Int → Int → Option R) → Option R
def en87 (F : FT87) : Ent := ⟨87, [(false, Kq7), (false, (.int .i64)), (false, (.int .u64))], [(false, (.int .i64)), (false, (.int .i64))], fun R x k => F R x.1 x.2.1 x.2.2.1 (fun y1 y2 => k (y1, y2, ()) ())⟩
def res87 : List (ResultVar × TypeId × Bool) := [(.tmp 6, 3, false), (.tmp 7, 32, false)]
noncomputable def e87 (F45 : FT45) (R : Type) : Env R := ⟨TT, EQT, 0, 41, ownOf [], callOf [en45 F45] R, loopOf [] R, [], inlOf []⟩
def p87 (F45 : FT45) : FT87 := fun R a0 a1 a2 k =>
F45 R a0 fun y1 =>
(match (!y1) with
| true => k (0 : Int) (1 : Int)
| false => let v2 : Bool := (decide (a1 < (0 : Int)));
(match v2 with
| true => k (0 : Int) (3 : Int)
| false => let v3 : Int := (List.length a0.2.1 : Int);
let v4 : Bool := (decide (a1 ≥ v3));
(match v4 with
| true => k (0 : Int) (3 : Int)
| false => let v5 : Bool := (decide (a2 ≥ a0.1));
(match v5 with
| true => k (0 : Int) (3 : Int)
| false => (match (bnd a1 (List.length a0.2.1 : Int)) with
| true => let v6 : Int := (List.getD a0.2.1 (Int.toNat a1) ((0 : Int), (0 : Int), ())).1;
let v7 : Bool := (decide (a2 < v6));
(match v7 with
| true => k a1 (0 : Int)
| false => (match (bnd a1 (List.length a0.2.1 : Int)) with
| true => let v8 : Int := (List.getD a0.2.1 (Int.toNat a1) ((0 : Int), (0 : Int), ())).2.1;
k v8 (0 : Int)
| false => none))
| false => none)))))
theorem q87 (F45 : FT45) (F : FT87) (R : Type) (x : AT (en87 F).ins) (k : RT (en87 F).outs → PT (en87 F).ins → Option R) :
  xfun (e87 F45 R) (codeOf Tryz.f87) res87 (avs (en87 F).ins x) (finK (en87 F).outs (en87 F).ins k) = p87 F45 R x.1 x.2.1 x.2.2.1 (fun y1 y2 => k (y1, y2, ()) ()) := by kernel_rfl
noncomputable def F87 : FT87 := p87 F45
theorem env87 (R : Type) : EnvOK Tryz.prog (e87 F45 R) := ⟨tabOK, eqOK, callOf_ok (allE_cons ok45 allE_nil), noIns, inlOK_nil⟩
theorem ok87 : (en87 F87).OK Tryz.prog :=
  ent_ok (Ef := fun R => e87 F45 R) (fun R => env87 R) mixed Tryz.func87 (body := codeOf Tryz.f87) (by kernel_rfl) (by kernel_rfl) (np := 0) (nt := 41) (fun _ => rfl) (fun _ => rfl) (by kernel_rfl) (res := res87) (by kernel_rfl) (fun _ => rfl) (fun _ => Nat.le_of_ble_eq_true rfl) (by
    intro R
    rw [show loopsOf (codeOf Tryz.f87) = [] from by kernel_rfl]
    exact allM_nil) (fun R x k => q87 F45 F87 R x k)
abbrev FT48 : Type 1 := (R : Type) → Tq7 → Int → (Int → Int → Option R) → Option R
def en48 (F : FT48) : Ent := ⟨48, [(false, Kq7), (false, (.int .u64))], [(false, (.int .i64)), (false, (.int .i64))], fun R x k => F R x.1 x.2.1 (fun y1 y2 => k (y1, y2, ()) ())⟩
def res48 : List (ResultVar × TypeId × Bool) := [(.tmp 4, 3, false), (.tmp 5, 32, false)]
noncomputable def e48 (F45 : FT45) (F47 : FT47) (F87 : FT87) (R : Type) : Env R := ⟨TT, EQT, 0, 26, ownOf [], callOf [en45 F45, en47 F47, en87 F87] R, loopOf [] R, [], inlOf []⟩
def p48 (F45 : FT45) (F47 : FT47) (F87 : FT87) : FT48 := fun R a0 a1 k =>
F45 R a0 fun y1 =>
(match (!y1) with
| true => k (0 : Int) (1 : Int)
| false => F47 R a0 fun y2 =>
let v3 : Bool := (decide (a1 ≥ y2));
(match v3 with
| true => k (0 : Int) (3 : Int)
| false => (match (!(a0.1 == 0)) with
| true => let v4 : Int := (IntKind.u64.wrap (Int.tdiv a1 a0.1));
let v5 : Int := (IntKind.i64.wrap v4);
(match (!(a0.1 == 0)) with
| true => let v6 : Int := (Int.tmod a1 a0.1);
F87 R a0 v5 v6 fun y7 y8 =>
k y7 y8
| false => none)
| false => none)))
theorem q48 (F45 : FT45) (F47 : FT47) (F87 : FT87) (F : FT48) (R : Type) (x : AT (en48 F).ins) (k : RT (en48 F).outs → PT (en48 F).ins → Option R) :
  xfun (e48 F45 F47 F87 R) (codeOf Tryz.f48) res48 (avs (en48 F).ins x) (finK (en48 F).outs (en48 F).ins k) = p48 F45 F47 F87 R x.1 x.2.1 (fun y1 y2 => k (y1, y2, ()) ()) := by kernel_rfl
noncomputable def F48 : FT48 := p48 F45 F47 F87
theorem env48 (R : Type) : EnvOK Tryz.prog (e48 F45 F47 F87 R) := ⟨tabOK, eqOK, callOf_ok (allE_cons ok45 (allE_cons ok47 (allE_cons ok87 allE_nil))), noIns, inlOK_nil⟩
theorem ok48 : (en48 F48).OK Tryz.prog :=
  ent_ok (Ef := fun R => e48 F45 F47 F87 R) (fun R => env48 R) mixed Tryz.func48 (body := codeOf Tryz.f48) (by kernel_rfl) (by kernel_rfl) (np := 0) (nt := 26) (fun _ => rfl) (fun _ => rfl) (by kernel_rfl) (res := res48) (by kernel_rfl) (fun _ => rfl) (fun _ => Nat.le_of_ble_eq_true rfl) (by
    intro R
    rw [show loopsOf (codeOf Tryz.f48) = [] from by kernel_rfl]
    exact allM_nil) (fun R x k => q48 F45 F47 F87 F48 R x k)
abbrev FT13 : Type 1 := (R : Type) → Tq7 → Tq6 → Int → (Int → Tq6 → Int → Option R) → Option R
def en13 (F : FT13) : Ent := ⟨13, [(false, Kq7), (false, Kq6), (false, (.int .i64))], [(false, (.int .i64)), (false, Kq6), (false, (.int .i64))], fun R x k => F R x.1 x.2.1 x.2.2.1 (fun y1 y2 y3 => k (y1, y2, y3, ()) ())⟩
def res13 : List (ResultVar × TypeId × Bool) := [(.tmp 6, 3, false), (.cell 7 30, 30, false), (.tmp 8, 32, false)]
noncomputable def e13 (F45 : FT45) (F46 : FT46) (F47 : FT47) (F48 : FT48) (R : Type) : Env R := ⟨TT, EQT, 0, 39, ownOf [], callOf [en45 F45, en46 F46, en47 F47, en48 F48] R, loopOf [] R, [], inlOf []⟩
def p13 (F45 : FT45) (F46 : FT46) (F47 : FT47) (F48 : FT48) : FT13 := fun R a0 a1 a2 k =>
F45 R a0 fun y1 =>
(match (!y1) with
| true => k (0 : Int) a1 (1 : Int)
| false => F47 R a0 fun y2 =>
F46 R a1 y2 a2 fun y3 y4 y5 =>
let v6 : Bool := (y5 != (0 : Int));
(match v6 with
| true => k (0 : Int) y4 y5
| false => F48 R a0 y3 fun y7 y8 =>
k y7 y4 (0 : Int)))
theorem q13 (F45 : FT45) (F46 : FT46) (F47 : FT47) (F48 : FT48) (F : FT13) (R : Type) (x : AT (en13 F).ins) (k : RT (en13 F).outs → PT (en13 F).ins → Option R) :
  xfun (e13 F45 F46 F47 F48 R) (codeOf Tryz.f13) res13 (avs (en13 F).ins x) (finK (en13 F).outs (en13 F).ins k) = p13 F45 F46 F47 F48 R x.1 x.2.1 x.2.2.1 (fun y1 y2 y3 => k (y1, y2, y3, ()) ()) := by kernel_rfl
noncomputable def F13 : FT13 := p13 F45 F46 F47 F48
theorem env13 (R : Type) : EnvOK Tryz.prog (e13 F45 F46 F47 F48 R) := ⟨tabOK, eqOK, callOf_ok (allE_cons ok45 (allE_cons ok46 (allE_cons ok47 (allE_cons ok48 allE_nil)))), noIns, inlOK_nil⟩
theorem ok13 : (en13 F13).OK Tryz.prog :=
  ent_ok (Ef := fun R => e13 F45 F46 F47 F48 R) (fun R => env13 R) mixed Tryz.func13 (body := codeOf Tryz.f13) (by kernel_rfl) (by kernel_rfl) (np := 0) (nt := 39) (fun _ => rfl) (fun _ => rfl) (by kernel_rfl) (res := res13) (by kernel_rfl) (fun _ => rfl) (fun _ => Nat.le_of_ble_eq_true rfl) (by
    intro R
    rw [show loopsOf (codeOf Tryz.f13) = [] from by kernel_rfl]
    exact allM_nil) (fun R x k => q13 F45 F46 F47 F48 F13 R x k)
abbrev FT14 : Type 1 := (R : Type) → Tq6 → Tq6 → (Bool → Option R) → Option R
def en14 (F : FT14) : Ent := ⟨14, [(false, Kq6), (false, Kq6)], [(false, .bool)], fun R x k => F R x.1 x.2.1 (fun y1 => k (y1, ()) ())⟩
def res14 : List (ResultVar × TypeId × Bool) := [(.tmp 4, 4, false)]
noncomputable def e14 (R : Type) : Env R := ⟨TT, EQT, 0, 47, ownOf [], callOf [] R, loopOf [] R, [], inlOf []⟩
def p14 : FT14 := fun R a0 a1 k =>
let v1 : Bool := (a0.1 == a1.1);
(match v1 with
| true => let v2 : ByteArray := (strOf a0.2.1);
let v3 : ByteArray := (strOf a1.2.1);
let v4 : Bool := (ByteArray.toList v2 == ByteArray.toList v3);
(match v4 with
| true => let v5 : Bool := (a0.2.2.1 == a1.2.2.1);
(match v5 with
| true => let v6 : Bool := (Kd.eqv (.arr 32 (.int .u8)) a0.2.2.2.1 a1.2.2.2.1);
(match v6 with
| true => let v7 : Bool := (a0.2.2.2.2.1 == a1.2.2.2.2.1);
(match v7 with
| true => let v8 : Bool := (a0.2.2.2.2.2.1 == a1.2.2.2.2.2.1);
k v8
| false => k false)
| false => k false)
| false => k false)
| false => k false)
| false => k false)
theorem q14 (F : FT14) (R : Type) (x : AT (en14 F).ins) (k : RT (en14 F).outs → PT (en14 F).ins → Option R) :
  xfun (e14 R) (codeOf Tryz.f14) res14 (avs (en14 F).ins x) (finK (en14 F).outs (en14 F).ins k) = p14 R x.1 x.2.1 (fun y1 => k (y1, ()) ()) := by kernel_rfl
noncomputable def F14 : FT14 := p14
theorem env14 (R : Type) : EnvOK Tryz.prog (e14 R) := ⟨tabOK, eqOK, callOf_ok allE_nil, noIns, inlOK_nil⟩
theorem ok14 : (en14 F14).OK Tryz.prog :=
  ent_ok (Ef := fun R => e14 R) (fun R => env14 R) mixed Tryz.func14 (body := codeOf Tryz.f14) (by kernel_rfl) (by kernel_rfl) (np := 0) (nt := 47) (fun _ => rfl) (fun _ => rfl) (by kernel_rfl) (res := res14) (by kernel_rfl) (fun _ => rfl) (fun _ => Nat.le_of_ble_eq_true rfl) (by
    intro R
    rw [show loopsOf (codeOf Tryz.f14) = [] from by kernel_rfl]
    exact allM_nil) (fun R x k => q14 F14 R x k)
abbrev FT3 : Type 1 := (R : Type) → Tq7 → Tq6 → Int → (Bool → Option R) → Option R
def en3 (F : FT3) : Ent := ⟨3, [(false, Kq7), (false, Kq6), (false, (.int .i64))], [(false, .bool)], fun R x k => F R x.1 x.2.1 x.2.2.1 (fun y1 => k (y1, ()) ())⟩
def res3 : List (ResultVar × TypeId × Bool) := [(.tmp 6, 4, false)]
noncomputable def e3 (F11 : FT11) (F12 : FT12) (F13 : FT13) (F14 : FT14) (R : Type) : Env R := ⟨TT, EQT, 0, 54, ownOf [], callOf [en11 F11, en12 F12, en13 F13, en14 F14] R, loopOf [] R, [], inlOf []⟩
def p3 (F11 : FT11) (F12 : FT12) (F13 : FT13) (F14 : FT14) : FT3 := fun R a0 a1 a2 k =>
F11 R  fun y1 =>
(match (!y1) with
| true => k false
| false => let v2 : Int := (List.length a0.2.1 : Int);
let v3 : Bool := (decide (v2 > (200 : Int)));
(match v3 with
| true => k true
| false => let v4 : Int := (List.length a1.2.1 : Int);
let v5 : Bool := (decide (v4 > (500 : Int)));
(match v5 with
| true => k true
| false => F12 R a0 a1 a2 fun y6 y7 y8 =>
F13 R a0 a1 a2 fun y9 y10 y11 =>
let v12 : Bool := (y6 == y9);
(match v12 with
| true => F14 R y7 y10 fun y13 =>
(match y13 with
| true => let v14 : Bool := (y8 == y11);
k v14
| false => k false)
| false => k false))))
theorem q3 (F11 : FT11) (F12 : FT12) (F13 : FT13) (F14 : FT14) (F : FT3) (R : Type) (x : AT (en3 F).ins) (k : RT (en3 F).outs → PT (en3 F).ins → Option R) :
  xfun (e3 F11 F12 F13 F14 R) (codeOf Tryz.f3) res3 (avs (en3 F).ins x) (finK (en3 F).outs (en3 F).ins k) = p3 F11 F12 F13 F14 R x.1 x.2.1 x.2.2.1 (fun y1 => k (y1, ()) ()) := by kernel_rfl
noncomputable def F3 : FT3 := p3 F11 F12 F13 F14
theorem env3 (R : Type) : EnvOK Tryz.prog (e3 F11 F12 F13 F14 R) := ⟨tabOK, eqOK, callOf_ok (allE_cons ok11 (allE_cons ok12 (allE_cons ok13 (allE_cons ok14 allE_nil)))), noIns, inlOK_nil⟩
theorem ok3 : (en3 F3).OK Tryz.prog :=
  ent_ok (Ef := fun R => e3 F11 F12 F13 F14 R) (fun R => env3 R) mixed Tryz.func3 (body := codeOf Tryz.f3) (by kernel_rfl) (by kernel_rfl) (np := 0) (nt := 54) (fun _ => rfl) (fun _ => rfl) (by kernel_rfl) (res := res3) (by kernel_rfl) (fun _ => rfl) (fun _ => Nat.le_of_ble_eq_true rfl) (by
    intro R
    rw [show loopsOf (codeOf Tryz.f3) = [] from by kernel_rfl]
    exact allM_nil) (fun R x k => q3 F11 F12 F13 F14 F3 R x k)
abbrev FT15 : Type 1 := (R : Type) → (List Int) → Tq6 → (Bool → Option R) → Option R
def en15 (F : FT15) : Ent := ⟨15, [(false, (.sl (.int .u64))), (false, Kq6)], [(false, .bool)], fun R x k => F R x.1 x.2.1 (fun y1 => k (y1, ()) ())⟩
def res15 : List (ResultVar × TypeId × Bool) := [(.tmp 4, 4, false)]
noncomputable def e15 (R : Type) : Env R := ⟨TT, EQT, 0, 14, ownOf [], callOf [] R, loopOf [] R, [], inlOf []⟩
def p15 : FT15 := fun R a0 a1 k =>
let v1 : Int := (List.length a0 : Int);
let v2 : Bool := (decide (v1 > (200 : Int)));
(match v2 with
| true => k true
| false => let v3 : Int := (List.length a1.2.1 : Int);
let v4 : Bool := (decide (v3 > (500 : Int)));
k v4)
theorem q15 (F : FT15) (R : Type) (x : AT (en15 F).ins) (k : RT (en15 F).outs → PT (en15 F).ins → Option R) :
  xfun (e15 R) (codeOf Tryz.f15) res15 (avs (en15 F).ins x) (finK (en15 F).outs (en15 F).ins k) = p15 R x.1 x.2.1 (fun y1 => k (y1, ()) ()) := by kernel_rfl
noncomputable def F15 : FT15 := p15
theorem env15 (R : Type) : EnvOK Tryz.prog (e15 R) := ⟨tabOK, eqOK, callOf_ok allE_nil, noIns, inlOK_nil⟩
theorem ok15 : (en15 F15).OK Tryz.prog :=
  ent_ok (Ef := fun R => e15 R) (fun R => env15 R) mixed Tryz.func15 (body := codeOf Tryz.f15) (by kernel_rfl) (by kernel_rfl) (np := 0) (nt := 14) (fun _ => rfl) (fun _ => rfl) (by kernel_rfl) (res := res15) (by kernel_rfl) (fun _ => rfl) (fun _ => Nat.le_of_ble_eq_true rfl) (by
    intro R
    rw [show loopsOf (codeOf Tryz.f15) = [] from by kernel_rfl]
    exact allM_nil) (fun R x k => q15 F15 R x k)
abbrev FT17 : Type 1 := (R : Type) → (List Int) → Tq6 → Int → (Int → Tq6 → Int → Option R) → Option R
def en17 (F : FT17) : Ent := ⟨17, [(false, (.sl (.int .u64))), (false, Kq6), (false, (.int .i64))], [(false, (.int .i64)), (false, Kq6), (false, (.int .i64))], fun R x k => F R x.1 x.2.1 x.2.2.1 (fun y1 y2 y3 => k (y1, y2, y3, ()) ())⟩
def res17 : List (ResultVar × TypeId × Bool) := [(.tmp 6, 3, false), (.cell 7 30, 30, false), (.tmp 8, 32, false)]
noncomputable def e17 (F13 : FT13) (F40 : FT40) (R : Type) : Env R := ⟨TT, EQT, 0, 27, ownOf [], callOf [en13 F13, en40 F40] R, loopOf [] R, [], inlOf []⟩
def p17 (F13 : FT13) (F40 : FT40) : FT17 := fun R a0 a1 a2 k =>
F40 R a0 fun y1 y2 =>
let v3 : Bool := (y2 != (0 : Int));
(match v3 with
| true => k (0 : Int) a1 y2
| false => F13 R y1 a1 a2 fun y4 y5 y6 =>
k y4 y5 y6)
theorem q17 (F13 : FT13) (F40 : FT40) (F : FT17) (R : Type) (x : AT (en17 F).ins) (k : RT (en17 F).outs → PT (en17 F).ins → Option R) :
  xfun (e17 F13 F40 R) (codeOf Tryz.f17) res17 (avs (en17 F).ins x) (finK (en17 F).outs (en17 F).ins k) = p17 F13 F40 R x.1 x.2.1 x.2.2.1 (fun y1 y2 y3 => k (y1, y2, y3, ()) ()) := by kernel_rfl
noncomputable def F17 : FT17 := p17 F13 F40
theorem env17 (R : Type) : EnvOK Tryz.prog (e17 F13 F40 R) := ⟨tabOK, eqOK, callOf_ok (allE_cons ok13 (allE_cons ok40 allE_nil)), noIns, inlOK_nil⟩
theorem ok17 : (en17 F17).OK Tryz.prog :=
  ent_ok (Ef := fun R => e17 F13 F40 R) (fun R => env17 R) mixed Tryz.func17 (body := codeOf Tryz.f17) (by kernel_rfl) (by kernel_rfl) (np := 0) (nt := 27) (fun _ => rfl) (fun _ => rfl) (by kernel_rfl) (res := res17) (by kernel_rfl) (fun _ => rfl) (fun _ => Nat.le_of_ble_eq_true rfl) (by
    intro R
    rw [show loopsOf (codeOf Tryz.f17) = [] from by kernel_rfl]
    exact allM_nil) (fun R x k => q17 F13 F40 F17 R x k)
abbrev FT4 : Type 1 := (R : Type) → (List Int) → Tq6 → Int → (Bool → Option R) → Option R
def en4 (F : FT4) : Ent := ⟨4, [(false, (.sl (.int .u64))), (false, Kq6), (false, (.int .i64))], [(false, .bool)], fun R x k => F R x.1 x.2.1 x.2.2.1 (fun y1 => k (y1, ()) ())⟩
def res4 : List (ResultVar × TypeId × Bool) := [(.tmp 6, 4, false)]
abbrev LT4_9 : Type 1 := (R : Type) → (List Int) → Int → Int → Int → Int → Int → (List Int) → Tq6 → Tq6 → (Bool → Option R) → (Int → Int → Int → Int → Tq6 → Tq6 → Option R) → Option R
def le4_9 (L : LT4_9) : LEnt := ⟨9, [.val 0 (.sl (.int .u64)), .fix 7 (.own 1 0), .val 8 (.int .i64), .fix 9 (.ptr 2 [] Kq6), .val 10 (.int .i64), .val 11 (.int .i64), .fix 12 (.ptr 3 [] Kq6), .val 13 (.int .i64), .val 14 (.int .i64), .row 1 (.int .u64) true, .var 2 Kq6 false, .var 3 Kq6 false], 4, [(.ret, [.val 6 .bool]), (.exit 0, [.val 8 (.int .i64), .fix 9 (.ptr 2 [] Kq6), .val 10 (.int .i64), .val 11 (.int .i64), .fix 12 (.ptr 3 [] Kq6), .val 13 (.int .i64), .var 2 Kq6 false, .var 3 Kq6 false])], fun R x ke => L R x.1 x.2.1 x.2.2.1 x.2.2.2.1 x.2.2.2.2.1 x.2.2.2.2.2.1 x.2.2.2.2.2.2.1 x.2.2.2.2.2.2.2.1 x.2.2.2.2.2.2.2.2.1 (fun y1 => ke.1 (y1, ())) (fun y1 y2 y3 y4 y5 y6 => ke.2.1 (y1, y2, y3, y4, y5, y6, ()))⟩
noncomputable def e4 (F11 : FT11) (F14 : FT14) (F15 : FT15) (F16 : FT16) (F17 : FT17) (L9 : LT4_9) (R : Type) : Env R := ⟨TT, EQT, 0, 67, ownOf [(5, 0)], callOf [en11 F11, en14 F14, en15 F15, en16 F16, en17 F17] R, loopOf [le4_9 L9] R, [], inlOf []⟩
def p4_9 : (R : Type) → (List Int) → Int → Int → Int → Int → Int → (List Int) → Tq6 → Tq6 → ((List Int) → Int → Int → Int → Int → Int → (List Int) → Tq6 → Tq6 → Option R) → (Bool → Option R) → (Int → Int → Int → Int → Tq6 → Tq6 → Option R) → Option R := fun R x1 x2 x3 x4 x5 x6 x7 x8 x9 kc k0 k1 =>
let v10 : Int := (List.length x1 : Int);
let v11 : Bool := (decide (x6 < v10));
(match v11 with
| true => (match (bnd x6 (List.length x7 : Int)) with
| true => let v12 : Int := (List.getD x7 (Int.toNat x6) (0 : Int));
(match (bnd x6 (List.length x1 : Int)) with
| true => let v13 : Int := (List.getD x1 (Int.toNat x6) (0 : Int));
let v14 : Bool := (v12 != v13);
(match v14 with
| true => k0 false
| false => let v15 : Int := (IntKind.i64.wrap (x6 + (1 : Int)));
kc x1 x2 x3 x4 x5 v15 x7 x8 x9)
| false => none)
| false => none)
| false => k1 x2 x3 x4 x5 x8 x9)
theorem q4_9 (F11 : FT11) (F14 : FT14) (F15 : FT15) (F16 : FT16) (F17 : FT17) (L9 : LT4_9) (R : Type) (x : HT (le4_9 L9).H) (kc : HT (le4_9 L9).H → Option R) (ke : KT R (le4_9 L9).exs) :
  exec (e4 F11 F14 F15 F16 F17 L9 R) (lcode 9 (codeOf Tryz.f4)) (stOf (le4_9 L9).H x 4) (roundK (le4_9 L9).H (le4_9 L9).exs kc ke) =
    p4_9 R x.1 x.2.1 x.2.2.1 x.2.2.2.1 x.2.2.2.2.1 x.2.2.2.2.2.1 x.2.2.2.2.2.2.1 x.2.2.2.2.2.2.2.1 x.2.2.2.2.2.2.2.2.1 (fun x1 x2 x3 x4 x5 x6 x7 x8 x9 => kc (x1, x2, x3, x4, x5, x6, x7, x8, x9, ())) (fun y1 => ke.1 (y1, ())) (fun y1 y2 y3 y4 y5 y6 => ke.2.1 (y1, y2, y3, y4, y5, y6, ())) := by kernel_rfl
noncomputable def G4_9 : Nat → LT4_9
  | 0 => fun _ _ _ _ _ _ _ _ _ _ _ _ => none
  | n + 1 => fun R x1 x2 x3 x4 x5 x6 x7 x8 x9 k0 k1 => p4_9 R x1 x2 x3 x4 x5 x6 x7 x8 x9 (fun x1 x2 x3 x4 x5 x6 x7 x8 x9 => G4_9 n R x1 x2 x3 x4 x5 x6 x7 x8 x9 k0 k1) k0 k1
def p4 (F11 : FT11) (F14 : FT14) (F15 : FT15) (F16 : FT16) (F17 : FT17) (L9 : LT4_9) : FT4 := fun R a0 a1 a2 k =>
F11 R  fun y1 =>
(match (!y1) with
| true => k false
| false => F15 R a0 a1 fun y2 =>
(match y2 with
| true => k true
| false => let v3 : (List Int) := ([] : (List Int));
(match (decide (List.length v3 + List.length a0 ≤ 17592186044416)) with
| true => let v4 : (List Int) := (v3 ++ a0);
F16 R a1 a2 v4 fun y5 y6 y7 =>
F17 R a0 a1 a2 fun y8 y9 y10 =>
L9 R a0 y5 y7 y8 y10 (0 : Int) v4 y6 y9 (fun x11 =>
k x11) (fun x12 x13 x14 x15 x16 x17 =>
let v18 : Bool := (x12 == x14);
(match v18 with
| true => F14 R x16 x17 fun y19 =>
(match y19 with
| true => let v20 : Bool := (x13 == x15);
k v20
| false => k false)
| false => k false))
| false => none)))
theorem q4 (F11 : FT11) (F14 : FT14) (F15 : FT15) (F16 : FT16) (F17 : FT17) (L9 : LT4_9) (F : FT4) (R : Type) (x : AT (en4 F).ins) (k : RT (en4 F).outs → PT (en4 F).ins → Option R) :
  xfun (e4 F11 F14 F15 F16 F17 L9 R) (codeOf Tryz.f4) res4 (avs (en4 F).ins x) (finK (en4 F).outs (en4 F).ins k) = p4 F11 F14 F15 F16 F17 L9 R x.1 x.2.1 x.2.2.1 (fun y1 => k (y1, ()) ()) := by kernel_rfl
noncomputable def F4 : FT4 := p4 F11 F14 F15 F16 F17 (G4_9 FUEL)
theorem env4 (R : Type) : EnvOK Tryz.prog (e4 F11 F14 F15 F16 F17 (G4_9 FUEL) R) := ⟨tabOK, eqOK, callOf_ok (allE_cons ok11 (allE_cons ok14 (allE_cons ok15 (allE_cons ok16 (allE_cons ok17 allE_nil))))), noIns, inlOK_nil⟩
noncomputable def T4_9 : (R : Type) → HT (le4_9 (G4_9 FUEL)).H → (HT (le4_9 (G4_9 FUEL)).H → Option R) → KT R (le4_9 (G4_9 FUEL)).exs → Option R := fun R x kc ke => p4_9 R x.1 x.2.1 x.2.2.1 x.2.2.2.1 x.2.2.2.2.1 x.2.2.2.2.2.1 x.2.2.2.2.2.2.1 x.2.2.2.2.2.2.2.1 x.2.2.2.2.2.2.2.2.1 (fun x1 x2 x3 x4 x5 x6 x7 x8 x9 => kc (x1, x2, x3, x4, x5, x6, x7, x8, x9, ())) (fun y1 => ke.1 (y1, ())) (fun y1 y2 y3 y4 y5 y6 => ke.2.1 (y1, y2, y3, y4, y5, y6, ()))
theorem it4_9 : ∀ (n : Nat) (R : Type) (x : HT (le4_9 (G4_9 FUEL)).H) (ke : KT R (le4_9 (G4_9 FUEL)).exs), iter T4_9 n R x ke = G4_9 n R x.1 x.2.1 x.2.2.1 x.2.2.2.1 x.2.2.2.2.1 x.2.2.2.2.2.1 x.2.2.2.2.2.2.1 x.2.2.2.2.2.2.2.1 x.2.2.2.2.2.2.2.2.1 (fun y1 => ke.1 (y1, ())) (fun y1 y2 y3 y4 y5 y6 => ke.2.1 (y1, y2, y3, y4, y5, y6, ())) := by
  intro n
  induction n with
  | zero => intro R x ke; rfl
  | succ n ih =>
    intro R x ke
    show T4_9 R x (fun x' => iter T4_9 n R x' ke) ke = _
    rw [show (fun x' => iter T4_9 n R x' ke) = fun x => G4_9 n R x.1 x.2.1 x.2.2.1 x.2.2.2.1 x.2.2.2.2.1 x.2.2.2.2.2.1 x.2.2.2.2.2.2.1 x.2.2.2.2.2.2.2.1 x.2.2.2.2.2.2.2.2.1 (fun y1 => ke.1 (y1, ())) (fun y1 y2 y3 y4 y5 y6 => ke.2.1 (y1, y2, y3, y4, y5, y6, ())) from funext fun x' => ih R x' ke]
    rfl
theorem lok4_9 : (le4_9 (G4_9 FUEL)).OK Tryz.prog 0 67 (lcode 9 (codeOf Tryz.f4)) := fun R x ke r h =>
  iter_sound (fun R => e4 F11 F14 F15 F16 F17 (G4_9 FUEL) R) 0 67 (fun _ => rfl) (fun _ => rfl) (fun R => env4 R) mixed (by
    intro R
    rw [show loopsOf (lcode 9 (codeOf Tryz.f4)) = [] from by kernel_rfl]
    exact allM_nil) (T := T4_9) (fun R x kc ke => q4_9 F11 F14 F15 F16 F17 (G4_9 FUEL) R x kc ke) FUEL R x ke r ((it4_9 FUEL R x ke).trans h)
theorem ok4 : (en4 F4).OK Tryz.prog :=
  ent_ok (Ef := fun R => e4 F11 F14 F15 F16 F17 (G4_9 FUEL) R) (fun R => env4 R) mixed Tryz.func4 (body := codeOf Tryz.f4) (by kernel_rfl) (by kernel_rfl) (np := 0) (nt := 67) (fun _ => rfl) (fun _ => rfl) (by kernel_rfl) (res := res4) (by kernel_rfl) (fun _ => rfl) (fun _ => Nat.le_of_ble_eq_true rfl) (by
    intro R
    rw [show loopsOf (codeOf Tryz.f4) = [lcode 9 (codeOf Tryz.f4)] from by kernel_rfl]
    exact (allM_cons (loop_ok2 (e := le4_9 (G4_9 FUEL)) rfl rfl lok4_9) allM_nil)) (fun R x k => q4 F11 F14 F15 F16 F17 (G4_9 FUEL) F4 R x k)
abbrev FT73 : Type 1 := (R : Type) → Tq17 → Int → (Bool → Option R) → Option R
def p73 : FT73 := fun R a0 a1 k =>
let v1 : Bool := (decide (a1 ≥ (0 : Int)));
(match v1 with
| true => let v2 : Bool := (decide (a1 < (1024 : Int)));
(match v2 with
| true => let v3 : Bool := (decide (a0.2.1 > (0 : Int)));
(match v3 with
| true => let v4 : Bool := (decide (a0.2.1 ≤ (64 : Int)));
k v4
| false => k false)
| false => k false)
| false => k false)
noncomputable def F73 : FT73 := p73
abbrev FT92 : Type 1 := (R : Type) → (List Int) → ((List Int) → Option R) → Option R
def F92 : FT92 := fun R a0 k => match decide (List.length ([] : (List Int)) + List.length a0 ≤ 17592186044416) with | true => k a0 | false => none
abbrev FT93 : Type 1 := (R : Type) → Int → (Int → Option R) → Option R
def p93 : FT93 := fun R a0 k =>
let v1 : Int := (IntKind.i64.wrap (0 - a0));
let v2 : Int := (iand .i64 a0 v1);
k v2
noncomputable def F93 : FT93 := p93
abbrev FT50 : Type 1 := (R : Type) → (List Int) → (((List Int) × Unit) → Int → Option R) → Option R
abbrev LT50_8 : Type 1 := (R : Type) → Int → ((List Int) × Unit) → (List Int) → (((List Int) × Unit) → (List Int) → Option R) → Option R
def p50_8 (F93 : FT93) : (R : Type) → Int → ((List Int) × Unit) → (List Int) → (Int → ((List Int) × Unit) → (List Int) → Option R) → (((List Int) × Unit) → (List Int) → Option R) → Option R := fun R x1 x2 x3 kc k0 =>
let v4 : Int := (List.length x3 : Int);
let v5 : Bool := (decide (x1 ≤ v4));
(match v5 with
| true => F93 R x1 fun y6 =>
let v7 : Int := (IntKind.i64.wrap (x1 + y6));
let v8 : Int := (List.length x3 : Int);
let v9 : Bool := (decide (v7 ≤ v8));
(match v9 with
| true => let v10 : Int := (IntKind.i64.wrap (v7 - (1 : Int)));
(match (bnd v10 (List.length x3 : Int)) with
| true => let v11 : Int := (List.getD x3 (Int.toNat v10) (0 : Int));
let v12 : Int := (IntKind.i64.wrap (x1 - (1 : Int)));
(match (bnd v12 (List.length x3 : Int)) with
| true => let v13 : Int := (List.getD x3 (Int.toNat v12) (0 : Int));
let v14 : Int := (IntKind.u64.wrap (v11 + v13));
(match (bnd v10 (List.length x3 : Int)) with
| true => let v15 : (List Int) := (List.set x3 (Int.toNat v10) v14);
let v16 : Int := (IntKind.i64.wrap (x1 + (1 : Int)));
kc v16 x2 v15
| false => none)
| false => none)
| false => none)
| false => let v17 : Int := (IntKind.i64.wrap (x1 + (1 : Int)));
kc v17 x2 x3)
| false => k0 x2 x3)
noncomputable def G50_8 : Nat → LT50_8
  | 0 => fun _ _ _ _ _ => none
  | n + 1 => fun R x1 x2 x3 k0 => p50_8 F93 R x1 x2 x3 (fun x1 x2 x3 => G50_8 n R x1 x2 x3 k0) k0
def p50 (F91 : FT91) (F92 : FT92) (L8 : LT50_8) : FT50 := fun R a0 k =>
let v1 : Int := (List.length a0 : Int);
let v2 : Bool := (decide (v1 > (1048576 : Int)));
(match v2 with
| true => k (([] : (List Int)), ()) (14 : Int)
| false => F91 R a0 fun y3 y4 =>
(match (!y4) with
| true => k (([] : (List Int)), ()) (11 : Int)
| false => F92 R a0 fun y5 =>
L8 R (1 : Int) (([] : (List Int)), ()) y5 (fun x6 x7 =>
k (x7, ()) (0 : Int))))
noncomputable def F50 : FT50 := p50 F91 F92 (G50_8 FUEL)
abbrev FT115 : Type 1 := (R : Type) → Int → Int → (Int → Option R) → Option R
def p115 : FT115 := fun R a0 a1 k =>
let v1 : Int := (IntKind.u64.wrap a0);
let v2 : Int := (ishl .u64 v1 (32 : Int));
let v3 : Int := (IntKind.u64.wrap a1);
let v4 : Int := (ior .u64 v2 v3);
k v4
noncomputable def F115 : FT115 := p115
abbrev FT114 : Type 1 := (R : Type) → (List Int) → Int → (Tq6 → Option R) → Option R
def p114 : FT114 := fun R a0 a1 k =>
k ((2 : Int), ([] : (List Int)), (0 : Int), a0, a1, (0 : Int), ())
noncomputable def F114 : FT114 := p114
abbrev FT77 : Type 1 := (R : Type) → Tq17 → Int → Int → (Tq6 → Option R) → Option R
def p77 (F114 : FT114) (F115 : FT115) : FT77 := fun R a0 a1 a2 k =>
let v1 : Int := (IntKind.u32.wrap a2);
F115 R a1 v1 fun y2 =>
F114 R a0.1 y2 fun y3 =>
k y3
noncomputable def F77 : FT77 := p77 F114 F115
abbrev FT128 : Type 1 := (R : Type) → ((List Int) × Unit) → (Int → Option R) → Option R
def p128 : FT128 := fun R a0 k =>
let v1 : Int := (List.length a0.1 : Int);
k v1
noncomputable def F128 : FT128 := p128
abbrev FT127 : Type 1 := (R : Type) → ((List Int) × Unit) → Int → (Int → Option R) → Option R
abbrev LT127_1 : Type 1 := (R : Type) → Int → Int → ((List Int) × Unit) → (Int → Option R) → Option R
def p127_1 (F93 : FT93) : (R : Type) → Int → Int → ((List Int) × Unit) → (Int → Int → ((List Int) × Unit) → Option R) → (Int → Option R) → Option R := fun R x1 x2 x3 kc k0 =>
let v4 : Bool := (decide (x1 > (0 : Int)));
(match v4 with
| true => let v5 : Int := (IntKind.i64.wrap (x1 - (1 : Int)));
(match (bnd v5 (List.length x3.1 : Int)) with
| true => let v6 : Int := (List.getD x3.1 (Int.toNat v5) (0 : Int));
let v7 : Int := (IntKind.u64.wrap (x2 + v6));
F93 R x1 fun y8 =>
let v9 : Int := (IntKind.i64.wrap (x1 - y8));
kc v9 v7 x3
| false => none)
| false => k0 x2)
noncomputable def G127_1 : Nat → LT127_1
  | 0 => fun _ _ _ _ _ => none
  | n + 1 => fun R x1 x2 x3 k0 => p127_1 F93 R x1 x2 x3 (fun x1 x2 x3 => G127_1 n R x1 x2 x3 k0) k0
def p127 (L1 : LT127_1) : FT127 := fun R a0 a1 k =>
L1 R a1 (0 : Int) a0 (fun x1 =>
k x1)
noncomputable def F127 : FT127 := p127 (G127_1 FUEL)
abbrev FT96 : Type 1 := (R : Type) → ((List Int) × Unit) → (Int → Option R) → Option R
def p96 (F127 : FT127) (F128 : FT128) : FT96 := fun R a0 k =>
F128 R a0 fun y1 =>
F127 R a0 y1 fun y2 =>
k y2
noncomputable def F96 : FT96 := p96 F127 F128
abbrev FT97 : Type 1 := (R : Type) → ((List Int) × Unit) → Int → (Int → Int → Option R) → Option R
abbrev LT97_4 : Type 1 := (R : Type) → Int → Int → Int → ((List Int) × Unit) → (Int → Int → Int → ((List Int) × Unit) → Option R) → Option R
abbrev LT97_6 : Type 1 := (R : Type) → Int → Int → Int → ((List Int) × Unit) → (Int → Option R) → Option R
def p97_4 (F128 : FT128) : (R : Type) → Int → Int → Int → ((List Int) × Unit) → (Int → Int → Int → ((List Int) × Unit) → Option R) → (Int → Int → Int → ((List Int) × Unit) → Option R) → Option R := fun R x1 x2 x3 x4 kc k0 =>
let v5 : Int := (ishl .i64 x3 (1 : Int));
F128 R x4 fun y6 =>
let v7 : Bool := (decide (v5 ≤ y6));
(match v7 with
| true => let v8 : Int := (ishl .i64 x3 (1 : Int));
kc x1 x2 v8 x4
| false => k0 x1 x2 x3 x4)
noncomputable def G97_4 : Nat → LT97_4
  | 0 => fun _ _ _ _ _ _ => none
  | n + 1 => fun R x1 x2 x3 x4 k0 => p97_4 F128 R x1 x2 x3 x4 (fun x1 x2 x3 x4 => G97_4 n R x1 x2 x3 x4 k0) k0
def p97_6 (F128 : FT128) : (R : Type) → Int → Int → Int → ((List Int) × Unit) → (Int → Int → Int → ((List Int) × Unit) → Option R) → (Int → Option R) → Option R := fun R x1 x2 x3 x4 kc k0 =>
let v5 : Bool := (decide (x3 > (0 : Int)));
(match v5 with
| true => let v6 : Int := (IntKind.i64.wrap (x2 + x3));
F128 R x4 fun y7 =>
let v8 : Bool := (decide (v6 ≤ y7));
(match v8 with
| true => let v9 : Int := (IntKind.i64.wrap (v6 - (1 : Int)));
(match (bnd v9 (List.length x4.1 : Int)) with
| true => let v10 : Int := (List.getD x4.1 (Int.toNat v9) (0 : Int));
let v11 : Bool := (decide (v10 ≤ x1));
(match v11 with
| true => let v12 : Int := (IntKind.i64.wrap (v6 - (1 : Int)));
(match (bnd v12 (List.length x4.1 : Int)) with
| true => let v13 : Int := (List.getD x4.1 (Int.toNat v12) (0 : Int));
let v14 : Int := (IntKind.u64.wrap (x1 - v13));
let v15 : Int := (ishr .i64 x3 (1 : Int));
kc v14 v6 v15 x4
| false => none)
| false => let v16 : Int := (ishr .i64 x3 (1 : Int));
kc x1 x2 v16 x4)
| false => none)
| false => let v17 : Int := (ishr .i64 x3 (1 : Int));
kc x1 x2 v17 x4)
| false => k0 x2)
noncomputable def G97_6 : Nat → LT97_6
  | 0 => fun _ _ _ _ _ _ => none
  | n + 1 => fun R x1 x2 x3 x4 k0 => p97_6 F128 R x1 x2 x3 x4 (fun x1 x2 x3 x4 => G97_6 n R x1 x2 x3 x4 k0) k0
def p97 (F96 : FT96) (L4 : LT97_4) (L6 : LT97_6) : FT97 := fun R a0 a1 k =>
F96 R a0 fun y1 =>
let v2 : Bool := (decide (a1 ≥ y1));
(match v2 with
| true => k (0 : Int) (3 : Int)
| false => L4 R a1 (0 : Int) (1 : Int) a0 (fun x3 x4 x5 x6 =>
L6 R x3 x4 x5 x6 (fun x7 =>
k x7 (0 : Int))))
noncomputable def F97 : FT97 := p97 F96 (G97_4 FUEL) (G97_6 FUEL)
abbrev FT56 : Type 1 := (R : Type) → ((List Int) × Unit) → Tq6 → Int → (Int → Tq6 → Int → Option R) → Option R
def p56 (F42 : FT42) (F96 : FT96) (F97 : FT97) : FT56 := fun R a0 a1 a2 k =>
F96 R a0 fun y1 =>
let v2 : Bool := (y1 == (0 : Int));
(match v2 with
| true => k (0 : Int) a1 (10 : Int)
| false => F42 R a1 y1 a2 fun y3 y4 y5 =>
let v6 : Bool := (y5 != (0 : Int));
(match v6 with
| true => k (0 : Int) y4 y5
| false => F97 R a0 y3 fun y7 y8 =>
k y7 y4 y8))
noncomputable def F56 : FT56 := p56 F42 F96 F97
abbrev FT74 : Type 1 := (R : Type) → Tq17 → ((List Int) × Unit) → Int → (Int → Int → Option R) → Option R
def p74 (F56 : FT56) (F77 : FT77) : FT74 := fun R a0 a1 a2 k =>
F77 R a0 (1 : Int) a2 fun y1 =>
F56 R a1 y1 a0.2.1 fun y2 y3 y4 =>
k y2 y4
noncomputable def F74 : FT74 := p74 F56 F77
abbrev FT31 : Type 1 := (R : Type) → (List Int) → Int → Int → (List Int) → (Int → Int → Option R) → Option R
def en31 (F : FT31) : Ent := ⟨31, [(false, (.arr 32 (.int .u8))), (false, (.int .i64)), (false, (.int .i64)), (false, (.sl (.int .u64)))], [(false, (.int .i64)), (false, (.int .i64))], fun R x k => F R x.1 x.2.1 x.2.2.1 x.2.2.2.1 (fun y1 y2 => k (y1, y2, ()) ())⟩
def p31 (F50 : FT50) (F73 : FT73) (F74 : FT74) : FT31 := fun R a0 a1 a2 a3 k =>
F73 R (a0, a2, ()) a1 fun y1 =>
(match (!y1) with
| true => k (0 : Int) (1 : Int)
| false => F50 R a3 fun y2 y3 =>
let v4 : Bool := (y3 != (0 : Int));
(match v4 with
| true => k (0 : Int) y3
| false => F74 R (a0, a2, ()) y2 a1 fun y5 y6 =>
k y5 y6))
noncomputable def F31 : FT31 := p31 F50 F73 F74
abbrev FT35 : Type 1 := (R : Type) → (List Int) → Int → Int → (List Int) → ((List Int) → Int → Option R) → Option R
def en35 (F : FT35) : Ent := ⟨35, [(false, (.arr 32 (.int .u8))), (false, (.int .i64)), (false, (.int .i64)), (false, (.sl (.int .u64)))], [(false, (.sl (.int .i64))), (false, (.int .i64))], fun R x k => F R x.1 x.2.1 x.2.2.1 x.2.2.2.1 (fun y1 y2 => k (y1, y2, ()) ())⟩
abbrev LT35_9 : Type 1 := (R : Type) → Int → Int → Tq17 → ((List Int) × Unit) → (List Int) → ((List Int) → Option R) → Option R
def p35_9 (F74 : FT74) : (R : Type) → Int → Int → Tq17 → ((List Int) × Unit) → (List Int) → (Int → Int → Tq17 → ((List Int) × Unit) → (List Int) → Option R) → ((List Int) → Option R) → Option R := fun R x1 x2 x3 x4 x5 kc k0 =>
let v6 : Bool := (decide (x2 < x1));
(match v6 with
| true => F74 R x3 x4 x2 fun y7 y8 =>
(match (bnd x2 (List.length x5 : Int)) with
| true => let v9 : (List Int) := (List.set x5 (Int.toNat x2) y7);
let v10 : Bool := (y8 != (0 : Int));
(match v10 with
| true => (match (bnd x2 (List.length v9 : Int)) with
| true => let v11 : (List Int) := (List.set v9 (Int.toNat x2) (-1 : Int));
let v12 : Int := (IntKind.i64.wrap (x2 + (1 : Int)));
kc x1 v12 x3 x4 v11
| false => none)
| false => let v13 : Int := (IntKind.i64.wrap (x2 + (1 : Int)));
kc x1 v13 x3 x4 v9)
| false => none)
| false => k0 x5)
noncomputable def G35_9 : Nat → LT35_9
  | 0 => fun _ _ _ _ _ _ _ => none
  | n + 1 => fun R x1 x2 x3 x4 x5 k0 => p35_9 F74 R x1 x2 x3 x4 x5 (fun x1 x2 x3 x4 x5 => G35_9 n R x1 x2 x3 x4 x5 k0) k0
def p35 (F50 : FT50) (F73 : FT73) (L9 : LT35_9) : FT35 := fun R a0 a1 a2 a3 k =>
let v1 : Bool := (decide (a1 < (1 : Int)));
(match v1 with
| true => k ([] : (List Int)) (1 : Int)
| false => let v2 : Int := (IntKind.i64.wrap (a1 - (1 : Int)));
F73 R (a0, a2, ()) v2 fun y3 =>
(match (!y3) with
| true => k ([] : (List Int)) (1 : Int)
| false => F50 R a3 fun y4 y5 =>
let v6 : Bool := (y5 != (0 : Int));
(match v6 with
| true => k ([] : (List Int)) y5
| false => (match (decide (0 ≤ a1 ∧ a1 ≤ a1 ∧ a1 ≤ (17592186044416 : Int))) with
| true => let v7 : (List Int) := (List.replicate (Int.toNat a1) (0 : Int));
let v8 : Int := (List.length v7 : Int);
L9 R v8 (0 : Int) (a0, a2, ()) y4 v7 (fun x9 =>
k x9 (0 : Int))
| false => none))))
noncomputable def F35 : FT35 := p35 F50 F73 (G35_9 FUEL)
abbrev FT33 : Type 1 := (R : Type) → (List Int) → Int → Int → (List Int) → (Int → Int → Option R) → Option R
def en33 (F : FT33) : Ent := ⟨33, [(false, (.arr 32 (.int .u8))), (false, (.int .i64)), (false, (.int .i64)), (false, (.sl (.int .u64)))], [(false, (.int .i64)), (false, (.int .i64))], fun R x k => F R x.1 x.2.1 x.2.2.1 x.2.2.2.1 (fun y1 y2 => k (y1, y2, ()) ())⟩
def p33 (F16 : FT16) (F73 : FT73) (F77 : FT77) : FT33 := fun R a0 a1 a2 a3 k =>
F73 R (a0, a2, ()) a1 fun y1 =>
(match (!y1) with
| true => k (0 : Int) (1 : Int)
| false => F77 R (a0, a2, ()) (2 : Int) a1 fun y2 =>
F16 R y2 a2 a3 fun y3 y4 y5 =>
k y3 y5)
noncomputable def F33 : FT33 := p33 F16 F73 F77
abbrev FT53 : Type 1 := (R : Type) → Int → Tq6 → Int → (Bool → Option R) → Option R
def p53 (F95 : FT95) : FT53 := fun R a0 a1 a2 k =>
let v1 : Bool := (decide (a0 ≥ (0 : Int)));
(match v1 with
| true => let v2 : Bool := (decide (a0 ≤ (256 : Int)));
(match v2 with
| true => F95 R a1 fun y3 =>
(match y3 with
| true => let v4 : Bool := (decide (a2 > (0 : Int)));
(match v4 with
| true => let v5 : Bool := (decide (a2 ≤ (64 : Int)));
k v5
| false => k false)
| false => k false)
| false => k false)
| false => k false)
noncomputable def F53 : FT53 := p53 F95
abbrev FT55 : Type 1 := (R : Type) → ((List Int) × Unit) → ((List Int) → Option R) → Option R
abbrev LT55_3 : Type 1 := (R : Type) → Int → (List Int) → ((List Int) → Option R) → Option R
def p55_3 (F93 : FT93) : (R : Type) → Int → (List Int) → (Int → (List Int) → Option R) → ((List Int) → Option R) → Option R := fun R x1 x2 kc k0 =>
let v3 : Bool := (decide (x1 > (0 : Int)));
(match v3 with
| true => F93 R x1 fun y4 =>
let v5 : Int := (IntKind.i64.wrap (x1 + y4));
let v6 : Int := (List.length x2 : Int);
let v7 : Bool := (decide (v5 ≤ v6));
(match v7 with
| true => let v8 : Int := (IntKind.i64.wrap (v5 - (1 : Int)));
(match (bnd v8 (List.length x2 : Int)) with
| true => let v9 : Int := (List.getD x2 (Int.toNat v8) (0 : Int));
let v10 : Int := (IntKind.i64.wrap (x1 - (1 : Int)));
(match (bnd v10 (List.length x2 : Int)) with
| true => let v11 : Int := (List.getD x2 (Int.toNat v10) (0 : Int));
let v12 : Int := (IntKind.u64.wrap (v9 - v11));
(match (bnd v8 (List.length x2 : Int)) with
| true => let v13 : (List Int) := (List.set x2 (Int.toNat v8) v12);
let v14 : Int := (IntKind.i64.wrap (x1 - (1 : Int)));
kc v14 v13
| false => none)
| false => none)
| false => none)
| false => let v15 : Int := (IntKind.i64.wrap (x1 - (1 : Int)));
kc v15 x2)
| false => k0 x2)
noncomputable def G55_3 : Nat → LT55_3
  | 0 => fun _ _ _ _ => none
  | n + 1 => fun R x1 x2 k0 => p55_3 F93 R x1 x2 (fun x1 x2 => G55_3 n R x1 x2 k0) k0
def p55 (F92 : FT92) (L3 : LT55_3) : FT55 := fun R a0 k =>
F92 R a0.1 fun y1 =>
let v2 : Int := (List.length y1 : Int);
L3 R v2 y1 (fun x3 =>
k x3)
noncomputable def F55 : FT55 := p55 F92 (G55_3 FUEL)
abbrev FT54 : Type 1 := (R : Type) → (List Int) → (Int → Option R) → Option R
abbrev LT54_2 : Type 1 := (R : Type) → Int → (List Int) → Int → Int → (Int → Option R) → Option R
def p54_2 : (R : Type) → Int → (List Int) → Int → Int → (Int → (List Int) → Int → Int → Option R) → (Int → Option R) → Option R := fun R x1 x2 x3 x4 kc k0 =>
let v5 : Bool := (decide (x4 < x3));
(match v5 with
| true => (match (bnd x4 (List.length x2 : Int)) with
| true => let v6 : Int := (List.getD x2 (Int.toNat x4) (0 : Int));
let v7 : Bool := (decide (v6 > (0 : Int)));
(match v7 with
| true => let v8 : Int := (IntKind.i64.wrap (x1 + (1 : Int)));
let v9 : Int := (IntKind.i64.wrap (x4 + (1 : Int)));
kc v8 x2 x3 v9
| false => let v10 : Int := (IntKind.i64.wrap (x4 + (1 : Int)));
kc x1 x2 x3 v10)
| false => none)
| false => k0 x1)
noncomputable def G54_2 : Nat → LT54_2
  | 0 => fun _ _ _ _ _ _ => none
  | n + 1 => fun R x1 x2 x3 x4 k0 => p54_2 R x1 x2 x3 x4 (fun x1 x2 x3 x4 => G54_2 n R x1 x2 x3 x4 k0) k0
def p54 (L2 : LT54_2) : FT54 := fun R a0 k =>
let v1 : Int := (List.length a0 : Int);
L2 R (0 : Int) a0 v1 (0 : Int) (fun x2 =>
k x2)
noncomputable def F54 : FT54 := p54 (G54_2 FUEL)
abbrev FT98 : Type 1 := (R : Type) → ((List Int) × Unit) → Int → (Int → Int → Option R) → Option R
def p98 (F127 : FT127) (F128 : FT128) : FT98 := fun R a0 a1 k =>
let v1 : Bool := (decide (a1 < (0 : Int)));
(match v1 with
| true => k (0 : Int) (3 : Int)
| false => F128 R a0 fun y2 =>
let v3 : Bool := (decide (a1 ≥ y2));
(match v3 with
| true => k (0 : Int) (3 : Int)
| false => let v4 : Int := (IntKind.i64.wrap (a1 + (1 : Int)));
F127 R a0 v4 fun y5 =>
F127 R a0 a1 fun y6 =>
let v7 : Int := (IntKind.u64.wrap (y5 - y6));
k v7 (0 : Int)))
noncomputable def F98 : FT98 := p98 F127 F128
abbrev FT57 : Type 1 := (R : Type) → ((List Int) × Unit) → Int → Int → (((List Int) × Unit) → Int → Option R) → Option R
abbrev LT57_9 : Type 1 := (R : Type) → Int → Int → Int → ((List Int) × Unit) → (List Int) → (((List Int) × Unit) → (List Int) → Option R) → Option R
def p57_9 (F93 : FT93) : (R : Type) → Int → Int → Int → ((List Int) × Unit) → (List Int) → (Int → Int → Int → ((List Int) × Unit) → (List Int) → Option R) → (((List Int) × Unit) → (List Int) → Option R) → Option R := fun R x1 x2 x3 x4 x5 kc k0 =>
let v6 : Int := (List.length x5 : Int);
let v7 : Bool := (decide (x3 ≤ v6));
(match v7 with
| true => let v8 : Int := (IntKind.i64.wrap (x3 - (1 : Int)));
let v9 : Int := (IntKind.i64.wrap (x3 - (1 : Int)));
(match (bnd v9 (List.length x5 : Int)) with
| true => let v10 : Int := (List.getD x5 (Int.toNat v9) (0 : Int));
let v11 : Int := (IntKind.u64.wrap (v10 - x2));
let v12 : Int := (IntKind.u64.wrap (v11 + x1));
(match (bnd v8 (List.length x5 : Int)) with
| true => let v13 : (List Int) := (List.set x5 (Int.toNat v8) v12);
F93 R x3 fun y14 =>
let v15 : Int := (IntKind.i64.wrap (x3 + y14));
kc x1 x2 v15 x4 v13
| false => none)
| false => none)
| false => k0 x4 x5)
noncomputable def G57_9 : Nat → LT57_9
  | 0 => fun _ _ _ _ _ _ _ => none
  | n + 1 => fun R x1 x2 x3 x4 x5 k0 => p57_9 F93 R x1 x2 x3 x4 x5 (fun x1 x2 x3 x4 x5 => G57_9 n R x1 x2 x3 x4 x5 k0) k0
def p57 (F92 : FT92) (F96 : FT96) (F98 : FT98) (F99 : FT99) (L9 : LT57_9) : FT57 := fun R a0 a1 a2 k =>
F98 R a0 a1 fun y1 y2 =>
let v3 : Bool := (y2 != (0 : Int));
(match v3 with
| true => k (([] : (List Int)), ()) y2
| false => F96 R a0 fun y4 =>
let v5 : Int := (IntKind.u64.wrap (y4 - y1));
F99 R v5 a2 fun y6 y7 =>
(match (!y7) with
| true => k (([] : (List Int)), ()) (11 : Int)
| false => F92 R a0.1 fun y8 =>
let v9 : Int := (IntKind.i64.wrap (a1 + (1 : Int)));
L9 R a2 y1 v9 (([] : (List Int)), ()) y8 (fun x10 x11 =>
k (x11, ()) (0 : Int))))
noncomputable def F57 : FT57 := p57 F92 F96 F98 F99 (G57_9 FUEL)
abbrev FT23 : Type 1 := (R : Type) → ((List Int) × Unit) → Int → Tq6 → Int → ((List Int) → Tq6 → Int → Option R) → Option R
abbrev LT23_5 : Type 1 := (R : Type) → Int → Int → ((List Int) × Unit) → Tq6 → (List Int) → Tq6 → (Int → Tq6 → Option R) → (Tq6 → (List Int) → Tq6 → Option R) → Option R
def p23_5 (F56 : FT56) (F57 : FT57) : (R : Type) → Int → Int → ((List Int) × Unit) → Tq6 → (List Int) → Tq6 → (Int → Int → ((List Int) × Unit) → Tq6 → (List Int) → Tq6 → Option R) → (Int → Tq6 → Option R) → (Tq6 → (List Int) → Tq6 → Option R) → Option R := fun R x1 x2 x3 x4 x5 x6 kc k0 k1 =>
let v7 : Int := (List.length x5 : Int);
let v8 : Bool := (decide (v7 < x1));
(match v8 with
| true => F56 R x3 x4 x2 fun y9 y10 y11 =>
let v12 : Bool := (y11 != (0 : Int));
(match v12 with
| true => k0 y11 y10
| false => let v13 : (List Int) := ([y9] : (List Int));
(match (decide (List.length x5 + List.length v13 ≤ 17592186044416)) with
| true => let v14 : (List Int) := (x5 ++ v13);
F57 R x3 y9 (0 : Int) fun y15 y16 =>
let v17 : Bool := (y16 != (0 : Int));
(match v17 with
| true => k0 y16 y10
| false => kc x1 x2 y15 y10 v14 x6)
| false => none))
| false => k1 x4 x5 x6)
noncomputable def G23_5 : Nat → LT23_5
  | 0 => fun _ _ _ _ _ _ _ _ _ => none
  | n + 1 => fun R x1 x2 x3 x4 x5 x6 k0 k1 => p23_5 F56 F57 R x1 x2 x3 x4 x5 x6 (fun x1 x2 x3 x4 x5 x6 => G23_5 n R x1 x2 x3 x4 x5 x6 k0 k1) k0 k1
def p23 (F53 : FT53) (F54 : FT54) (F55 : FT55) (L5 : LT23_5) : FT23 := fun R a0 a1 a2 a3 k =>
F53 R a1 a2 a3 fun y1 =>
(match (!y1) with
| true => k ([] : (List Int)) a2 (1 : Int)
| false => F55 R a0 fun y2 =>
F54 R y2 fun y3 =>
let v4 : Bool := (decide (y3 < a1));
(match v4 with
| true => k ([] : (List Int)) a2 (12 : Int)
| false => L5 R a1 a3 a0 a2 ([] : (List Int)) ((0 : Int), ([] : (List Int)), (0 : Int), (List.replicate 32 (0 : Int)), (0 : Int), (0 : Int), ()) (fun x5 x6 =>
k ([] : (List Int)) x6 x5) (fun x7 x8 x9 =>
k x8 x7 (0 : Int))))
noncomputable def F23 : FT23 := p23 F53 F54 F55 (G23_5 FUEL)
abbrev FT19 : Type 1 := (R : Type) → Int → Tq6 → Int → (List Int) → ((List Int) → Tq6 → Int → Option R) → Option R
def p19 (F23 : FT23) (F50 : FT50) : FT19 := fun R a0 a1 a2 a3 k =>
F50 R a3 fun y1 y2 =>
let v3 : Bool := (y2 != (0 : Int));
(match v3 with
| true => k ([] : (List Int)) a1 y2
| false => F23 R y1 a0 a1 a2 fun y4 y5 y6 =>
k y4 y5 y6)
noncomputable def F19 : FT19 := p19 F23 F50
abbrev FT37 : Type 1 := (R : Type) → (List Int) → Int → Int → Int → (List Int) → ((List Int) → Int → Option R) → Option R
def p37 (F19 : FT19) (F73 : FT73) (F77 : FT77) : FT37 := fun R a0 a1 a2 a3 a4 k =>
F73 R (a0, a3, ()) a1 fun y1 =>
(match (!y1) with
| true => k ([] : (List Int)) (1 : Int)
| false => F77 R (a0, a3, ()) (3 : Int) a1 fun y2 =>
F19 R a2 y2 a3 a4 fun y3 y4 y5 =>
k y3 y5)
noncomputable def F37 : FT37 := p37 F19 F73 F77
abbrev FT21 : Type 1 := (R : Type) → (List Int) → (List Int) → (Bool → Option R) → Option R
def en21 (F : FT21) : Ent := ⟨21, [(false, (.sl (.int .i64))), (false, (.sl (.int .i64)))], [(false, .bool)], fun R x k => F R x.1 x.2.1 (fun y1 => k (y1, ()) ())⟩
abbrev LT21_4 : Type 1 := (R : Type) → (List Int) → (List Int) → Int → (Bool → Option R) → (Option R) → Option R
def p21_4 : (R : Type) → (List Int) → (List Int) → Int → ((List Int) → (List Int) → Int → Option R) → (Bool → Option R) → (Option R) → Option R := fun R x1 x2 x3 kc k0 k1 =>
let v4 : Int := (List.length x1 : Int);
let v5 : Bool := (decide (x3 < v4));
(match v5 with
| true => (match (bnd x3 (List.length x1 : Int)) with
| true => let v6 : Int := (List.getD x1 (Int.toNat x3) (0 : Int));
(match (bnd x3 (List.length x2 : Int)) with
| true => let v7 : Int := (List.getD x2 (Int.toNat x3) (0 : Int));
let v8 : Bool := (v6 != v7);
(match v8 with
| true => k0 false
| false => let v9 : Int := (IntKind.i64.wrap (x3 + (1 : Int)));
kc x1 x2 v9)
| false => none)
| false => none)
| false => k1)
noncomputable def G21_4 : Nat → LT21_4
  | 0 => fun _ _ _ _ _ _ => none
  | n + 1 => fun R x1 x2 x3 k0 k1 => p21_4 R x1 x2 x3 (fun x1 x2 x3 => G21_4 n R x1 x2 x3 k0 k1) k0 k1
def p21 (L4 : LT21_4) : FT21 := fun R a0 a1 k =>
let v1 : Int := (List.length a0 : Int);
let v2 : Int := (List.length a1 : Int);
let v3 : Bool := (v1 != v2);
(match v3 with
| true => k false
| false => L4 R a0 a1 (0 : Int) (fun x4 =>
k x4) (k true))
noncomputable def F21 : FT21 := p21 (G21_4 FUEL)
abbrev FT30 : Type 1 := (R : Type) → (Bool → Option R) → Option R
def en30 (F : FT30) : Ent := ⟨30, [], [(false, .bool)], fun R x k => F R  (fun y1 => k (y1, ()) ())⟩
def p30 (F21 : FT21) (F31 : FT31) (F33 : FT33) (F35 : FT35) (F37 : FT37) : FT30 := fun R k =>
let v1 : (List Int) := (List.replicate 32 (0 : Int));
let v2 : (List Int) := ([(0 : Int), (1 : Int)] : (List Int));
F31 R v1 (3 : Int) (64 : Int) v2 fun y3 y4 =>
let v5 : (List Int) := (List.replicate 32 (0 : Int));
let v6 : (List Int) := ([(0 : Int), (1 : Int)] : (List Int));
F35 R v5 (3 : Int) (64 : Int) v6 fun y7 y8 =>
let v9 : (List Int) := (List.replicate 32 (0 : Int));
let v10 : (List Int) := ([(0 : Int), (1 : Int)] : (List Int));
F33 R v9 (3 : Int) (64 : Int) v10 fun y11 y12 =>
let v13 : (List Int) := (List.replicate 32 (0 : Int));
let v14 : (List Int) := ([(0 : Int), (9 : Int)] : (List Int));
F37 R v13 (3 : Int) (1 : Int) (64 : Int) v14 fun y15 y16 =>
let v17 : (List Int) := (List.replicate 32 (0 : Int));
let v18 : (List Int) := ([(1 : Int)] : (List Int));
F31 R v17 (1024 : Int) (64 : Int) v18 fun y19 y20 =>
let v21 : (List Int) := (List.replicate 32 (0 : Int));
let v22 : (List Int) := ([(0 : Int)] : (List Int));
F35 R v21 (2 : Int) (64 : Int) v22 fun y23 y24 =>
let v25 : (List Int) := (List.replicate 32 (0 : Int));
let v26 : (List Int) := ([(0 : Int)] : (List Int));
F31 R v25 (0 : Int) (64 : Int) v26 fun y27 y28 =>
let v29 : Bool := (y4 == (0 : Int));
(match v29 with
| true => let v30 : Bool := (y8 == (0 : Int));
(match v30 with
| true => let v31 : Bool := (y12 == (0 : Int));
(match v31 with
| true => let v32 : Bool := (y11 == (1 : Int));
(match v32 with
| true => let v33 : Bool := (y16 == (0 : Int));
(match v33 with
| true => let v34 : Bool := (y20 == (1 : Int));
(match v34 with
| true => let v35 : Bool := (y24 == (0 : Int));
(match v35 with
| true => let v36 : Bool := (y28 == (10 : Int));
(match v36 with
| true => let v37 : Bool := (y3 == (1 : Int));
(match v37 with
| true => let v38 : (List Int) := ([(1 : Int), (1 : Int), (1 : Int)] : (List Int));
F21 R y7 v38 fun y39 =>
(match y39 with
| true => let v40 : (List Int) := ([(1 : Int)] : (List Int));
F21 R y15 v40 fun y41 =>
(match y41 with
| true => let v42 : (List Int) := ([(-1 : Int), (-1 : Int)] : (List Int));
F21 R y23 v42 fun y43 =>
k y43
| false => k false)
| false => k false)
| false => k false)
| false => k false)
| false => k false)
| false => k false)
| false => k false)
| false => let v44 : Bool := (y12 == (9 : Int));
(match v44 with
| true => let v45 : Bool := (y16 == (0 : Int));
(match v45 with
| true => let v46 : Bool := (y20 == (1 : Int));
(match v46 with
| true => let v47 : Bool := (y24 == (0 : Int));
(match v47 with
| true => let v48 : Bool := (y28 == (10 : Int));
(match v48 with
| true => let v49 : Bool := (y3 == (1 : Int));
(match v49 with
| true => let v50 : (List Int) := ([(1 : Int), (1 : Int), (1 : Int)] : (List Int));
F21 R y7 v50 fun y51 =>
(match y51 with
| true => let v52 : (List Int) := ([(1 : Int)] : (List Int));
F21 R y15 v52 fun y53 =>
(match y53 with
| true => let v54 : (List Int) := ([(-1 : Int), (-1 : Int)] : (List Int));
F21 R y23 v54 fun y55 =>
k y55
| false => k false)
| false => k false)
| false => k false)
| false => k false)
| false => k false)
| false => k false)
| false => k false)
| false => k false))
| false => let v56 : Bool := (y12 == (9 : Int));
(match v56 with
| true => let v57 : Bool := (y16 == (0 : Int));
(match v57 with
| true => let v58 : Bool := (y20 == (1 : Int));
(match v58 with
| true => let v59 : Bool := (y24 == (0 : Int));
(match v59 with
| true => let v60 : Bool := (y28 == (10 : Int));
(match v60 with
| true => let v61 : Bool := (y3 == (1 : Int));
(match v61 with
| true => let v62 : (List Int) := ([(1 : Int), (1 : Int), (1 : Int)] : (List Int));
F21 R y7 v62 fun y63 =>
(match y63 with
| true => let v64 : (List Int) := ([(1 : Int)] : (List Int));
F21 R y15 v64 fun y65 =>
(match y65 with
| true => let v66 : (List Int) := ([(-1 : Int), (-1 : Int)] : (List Int));
F21 R y23 v66 fun y67 =>
k y67
| false => k false)
| false => k false)
| false => k false)
| false => k false)
| false => k false)
| false => k false)
| false => k false)
| false => k false))
| false => k false)
| false => k false)
noncomputable def F30 : FT30 := p30 F21 F31 F33 F35 F37
abbrev FT75 : Type 1 := (R : Type) → Int → Int → (Bool → Option R) → Option R
def p75 : FT75 := fun R a0 a1 k =>
let v1 : Bool := (decide (a0 ≥ (0 : Int)));
(match v1 with
| true => let v2 : Bool := (decide (a0 < (1024 : Int)));
(match v2 with
| true => let v3 : Bool := (decide (a1 ≥ (1 : Int)));
(match v3 with
| true => let v4 : Bool := (decide (a1 ≤ (64 : Int)));
k v4
| false => k false)
| false => k false)
| false => k false)
noncomputable def F75 : FT75 := p75
abbrev FT63 : Type 1 := (R : Type) → Int → (Int → Option R) → Option R
abbrev LT63_2 : Type 1 := (R : Type) → Int → Int → (Int → Option R) → Option R
def p63_2 : (R : Type) → Int → Int → (Int → Int → Option R) → (Int → Option R) → Option R := fun R x1 x2 kc k0 =>
let v3 : Int := (Int.tmod x1 (2 : Int));
let v4 : Bool := (v3 == (0 : Int));
(match v4 with
| true => let v5 : Int := (IntKind.i64.wrap (Int.tdiv x1 (2 : Int)));
let v6 : Int := (IntKind.i64.wrap ((2 : Int) * x2));
kc v5 v6
| false => k0 x2)
noncomputable def G63_2 : Nat → LT63_2
  | 0 => fun _ _ _ _ => none
  | n + 1 => fun R x1 x2 k0 => p63_2 R x1 x2 (fun x1 x2 => G63_2 n R x1 x2 k0) k0
def p63 (L2 : LT63_2) : FT63 := fun R a0 k =>
L2 R a0 (1 : Int) (fun x1 =>
k x1)
noncomputable def F63 : FT63 := p63 (G63_2 FUEL)
abbrev FT62 : Type 1 := (R : Type) → (List Int) → Int → Int → (Int → Option R) → Option R
abbrev LT62_3 : Type 1 := (R : Type) → (List Int) → Int → Int → Int → (Int → Option R) → Option R
def p62_3 : (R : Type) → (List Int) → Int → Int → Int → ((List Int) → Int → Int → Int → Option R) → (Int → Option R) → Option R := fun R x1 x2 x3 x4 kc k0 =>
let v5 : Bool := (decide (x4 < x2));
(match v5 with
| true => (match (bnd x4 (List.length x1 : Int)) with
| true => let v6 : Int := (List.getD x1 (Int.toNat x4) (0 : Int));
let v7 : Int := (IntKind.u64.wrap (x3 + v6));
let v8 : Int := (IntKind.i64.wrap (x4 + (1 : Int)));
kc x1 x2 v7 v8
| false => none)
| false => k0 x3)
noncomputable def G62_3 : Nat → LT62_3
  | 0 => fun _ _ _ _ _ _ => none
  | n + 1 => fun R x1 x2 x3 x4 k0 => p62_3 R x1 x2 x3 x4 (fun x1 x2 x3 x4 => G62_3 n R x1 x2 x3 x4 k0) k0
def p62 (L3 : LT62_3) : FT62 := fun R a0 a1 a2 k =>
L3 R a0 a2 (0 : Int) a1 (fun x1 =>
k x1)
noncomputable def F62 : FT62 := p62 (G62_3 FUEL)
abbrev FT26 : Type 1 := (R : Type) → (List Int) → (((List Int) × Unit) → Option R) → Option R
abbrev LT26_3 : Type 1 := (R : Type) → (List Int) → Int → ((List Int) × Unit) → (List Int) → Unit → (((List Int) × Unit) → (List Int) → Unit → Option R) → Option R
def p26_3 (F62 : FT62) (F63 : FT63) : (R : Type) → (List Int) → Int → ((List Int) × Unit) → (List Int) → Unit → ((List Int) → Int → ((List Int) × Unit) → (List Int) → Unit → Option R) → (((List Int) × Unit) → (List Int) → Unit → Option R) → Option R := fun R x1 x2 x3 x4 x5 kc k0 =>
let v6 : Int := (List.length x1 : Int);
let v7 : Bool := (decide (x2 < v6));
(match v7 with
| true => let v8 : Int := (IntKind.i64.wrap (x2 + (1 : Int)));
let v9 : Int := (IntKind.i64.wrap (x2 + (1 : Int)));
F63 R v9 fun y10 =>
let v11 : Int := (IntKind.i64.wrap (v8 - y10));
let v12 : Int := (IntKind.i64.wrap (x2 + (1 : Int)));
F62 R x1 v11 v12 fun y13 =>
let v14 : (List Int) := ([y13] : (List Int));
(match (decide (List.length x4 + List.length v14 ≤ 17592186044416)) with
| true => let v15 : (List Int) := (x4 ++ v14);
let v16 : Int := (IntKind.i64.wrap (x2 + (1 : Int)));
kc x1 v16 x3 v15 ()
| false => none)
| false => k0 x3 x4 ())
noncomputable def G26_3 : Nat → LT26_3
  | 0 => fun _ _ _ _ _ _ _ => none
  | n + 1 => fun R x1 x2 x3 x4 x5 k0 => p26_3 F62 F63 R x1 x2 x3 x4 x5 (fun x1 x2 x3 x4 x5 => G26_3 n R x1 x2 x3 x4 x5 k0) k0
def p26 (L3 : LT26_3) : FT26 := fun R a0 k =>
L3 R a0 (0 : Int) (([] : (List Int)), ()) ([] : (List Int)) () (fun x1 x2 x3 =>
k (x2, ()))
noncomputable def F26 : FT26 := p26 (G26_3 FUEL)
abbrev FT22 : Type 1 := (R : Type) → (List Int) → (((List Int) × Unit) → Int → Option R) → Option R
def p22 (F26 : FT26) (F52 : FT52) : FT22 := fun R a0 k =>
let v1 : Int := (List.length a0 : Int);
let v2 : Bool := (decide (v1 > (1048576 : Int)));
(match v2 with
| true => k (([] : (List Int)), ()) (14 : Int)
| false => F52 R a0 fun y3 y4 =>
(match (!y4) with
| true => k (([] : (List Int)), ()) (11 : Int)
| false => F26 R a0 fun y5 =>
k y5 (0 : Int)))
noncomputable def F22 : FT22 := p22 F26 F52
abbrev FT113 : Type 1 := (R : Type) → Int → Int → (Int → Option R) → Option R
def p113 : FT113 := fun R a0 a1 k =>
let v1 : Int := (IntKind.u64.wrap a0);
let v2 : Int := (IntKind.u64.wrap (v1 * (4294967296 : Int)));
let v3 : Int := (IntKind.u64.wrap a1);
let v4 : Int := (IntKind.u64.wrap (v2 + v3));
k v4
noncomputable def F113 : FT113 := p113
abbrev FT76 : Type 1 := (R : Type) → (List Int) → Int → Int → (Tq6 → Option R) → Option R
def p76 (F113 : FT113) : FT76 := fun R a0 a1 a2 k =>
let v1 : Int := (IntKind.u32.wrap a2);
F113 R a1 v1 fun y2 =>
k ((2 : Int), ([] : (List Int)), (0 : Int), a0, y2, (0 : Int), ())
noncomputable def F76 : FT76 := p76 F113
abbrev FT100 : Type 1 := (R : Type) → (List Int) → Int → (Int → Int → Option R) → Option R
def en100 (F : FT100) : Ent := ⟨100, [(false, (.sl (.int .u64))), (false, (.int .u64))], [(false, (.int .i64)), (false, (.int .i64))], fun R x k => F R x.1 x.2.1 (fun y1 y2 => k (y1, y2, ()) ())⟩
abbrev LT100_2 : Type 1 := (R : Type) → (List Int) → Int → Int → (Int → Int → Option R) → (Option R) → Option R
def p100_2 : (R : Type) → (List Int) → Int → Int → ((List Int) → Int → Int → Option R) → (Int → Int → Option R) → (Option R) → Option R := fun R x1 x2 x3 kc k0 k1 =>
let v4 : Int := (List.length x1 : Int);
let v5 : Bool := (decide (x3 < v4));
(match v5 with
| true => (match (bnd x3 (List.length x1 : Int)) with
| true => let v6 : Int := (List.getD x1 (Int.toNat x3) (0 : Int));
let v7 : Bool := (decide (x2 < v6));
(match v7 with
| true => k0 x3 (0 : Int)
| false => (match (bnd x3 (List.length x1 : Int)) with
| true => let v8 : Int := (List.getD x1 (Int.toNat x3) (0 : Int));
let v9 : Int := (IntKind.u64.wrap (x2 - v8));
let v10 : Int := (IntKind.i64.wrap (x3 + (1 : Int)));
kc x1 v9 v10
| false => none))
| false => none)
| false => k1)
noncomputable def G100_2 : Nat → LT100_2
  | 0 => fun _ _ _ _ _ _ => none
  | n + 1 => fun R x1 x2 x3 k0 k1 => p100_2 R x1 x2 x3 (fun x1 x2 x3 => G100_2 n R x1 x2 x3 k0 k1) k0 k1
def p100 (L2 : LT100_2) : FT100 := fun R a0 a1 k =>
L2 R a0 a1 (0 : Int) (fun x1 x2 =>
k x1 x2) (k (0 : Int) (3 : Int))
noncomputable def F100 : FT100 := p100 (G100_2 FUEL)
abbrev FT60 : Type 1 := (R : Type) → (List Int) → Tq6 → Int → (Int → Tq6 → Int → Option R) → Option R
def p60 (F46 : FT46) (F52 : FT52) (F100 : FT100) : FT60 := fun R a0 a1 a2 k =>
F52 R a0 fun y1 y2 =>
(match (!y2) with
| true => k (0 : Int) a1 (11 : Int)
| false => let v3 : Bool := (y1 == (0 : Int));
(match v3 with
| true => k (0 : Int) a1 (10 : Int)
| false => F46 R a1 y1 a2 fun y4 y5 y6 =>
let v7 : Bool := (y6 != (0 : Int));
(match v7 with
| true => k (0 : Int) y5 y6
| false => F100 R a0 y4 fun y8 y9 =>
k y8 y5 (0 : Int))))
noncomputable def F60 : FT60 := p60 F46 F52 F100
end Go.PG
set_option maxRecDepth 100000
namespace Go.PG
open Go.Proofs
abbrev FT32 : Type 1 := (R : Type) → (List Int) → Int → Int → (List Int) → (Int → Int → Option R) → Option R
def en32 (F : FT32) : Ent := ⟨32, [(false, (.arr 32 (.int .u8))), (false, (.int .i64)), (false, (.int .i64)), (false, (.sl (.int .u64)))], [(false, (.int .i64)), (false, (.int .i64))], fun R x k => F R x.1 x.2.1 x.2.2.1 x.2.2.2.1 (fun y1 y2 => k (y1, y2, ()) ())⟩
def p32 (F22 : FT22) (F60 : FT60) (F75 : FT75) (F76 : FT76) : FT32 := fun R a0 a1 a2 a3 k =>
F75 R a1 a2 fun y1 =>
(match (!y1) with
| true => k (0 : Int) (1 : Int)
| false => F22 R a3 fun y2 y3 =>
let v4 : Bool := (y3 != (0 : Int));
(match v4 with
| true => k (0 : Int) y3
| false => F76 R a0 (1 : Int) a1 fun y5 =>
F60 R a3 y5 a2 fun y6 y7 y8 =>
k y6 y8))
noncomputable def F32 : FT32 := p32 F22 F60 F75 F76
abbrev FT34 : Type 1 := (R : Type) → (List Int) → Int → Int → (List Int) → (Int → Int → Option R) → Option R
def en34 (F : FT34) : Ent := ⟨34, [(false, (.arr 32 (.int .u8))), (false, (.int .i64)), (false, (.int .i64)), (false, (.sl (.int .u64)))], [(false, (.int .i64)), (false, (.int .i64))], fun R x k => F R x.1 x.2.1 x.2.2.1 x.2.2.2.1 (fun y1 y2 => k (y1, y2, ()) ())⟩
def p34 (F17 : FT17) (F75 : FT75) (F76 : FT76) : FT34 := fun R a0 a1 a2 a3 k =>
F75 R a1 a2 fun y1 =>
(match (!y1) with
| true => k (0 : Int) (1 : Int)
| false => F76 R a0 (2 : Int) a1 fun y2 =>
F17 R a3 y2 a2 fun y3 y4 y5 =>
k y3 y5)
noncomputable def F34 : FT34 := p34 F17 F75 F76
abbrev FT8 : Type 1 := (R : Type) → (List Int) → (List Int) → (List Int) → (Bool → Option R) → Option R
noncomputable def e8 (F30 : FT30) (F31 : FT31) (F32 : FT32) (F33 : FT33) (F34 : FT34) (R : Type) : Env R := ⟨TT, EQT, 0, 78, ownOf [], callOf [en30 F30, en31 F31, en32 F32, en33 F33, en34 F34] R, loopOf [] R, [], inlOf []⟩
def p8 (F30 : FT30) (F31 : FT31) (F32 : FT32) (F33 : FT33) (F34 : FT34) : FT8 := fun R a0 a1 a2 k =>
F30 R  fun y1 =>
(match (!y1) with
| true => k false
| false => let v2 : Int := (List.length a2 : Int);
let v3 : Bool := (decide (v2 > (100 : Int)));
(match v3 with
| true => k true
| false => let v4 : Int := (List.getD a1 0 (0 : Int));
let v5 : Int := (List.getD a1 1 (0 : Int));
F31 R a0 v4 v5 a2 fun y6 y7 =>
let v8 : Int := (List.getD a1 0 (0 : Int));
let v9 : Int := (List.getD a1 1 (0 : Int));
F32 R a0 v8 v9 a2 fun y10 y11 =>
let v12 : Int := (List.getD a1 0 (0 : Int));
let v13 : Int := (List.getD a1 1 (0 : Int));
F33 R a0 v12 v13 a2 fun y14 y15 =>
let v16 : Int := (List.getD a1 0 (0 : Int));
let v17 : Int := (List.getD a1 1 (0 : Int));
F34 R a0 v16 v17 a2 fun y18 y19 =>
let v20 : Bool := (y6 == y10);
(match v20 with
| true => let v21 : Bool := (y7 == y11);
(match v21 with
| true => let v22 : Bool := (y14 == y18);
(match v22 with
| true => let v23 : Bool := (y15 == y19);
k v23
| false => k false)
| false => k false)
| false => k false)))
abbrev FT36 : Type 1 := (R : Type) → (List Int) → Int → Int → (List Int) → ((List Int) → Int → Option R) → Option R
def en36 (F : FT36) : Ent := ⟨36, [(false, (.arr 32 (.int .u8))), (false, (.int .i64)), (false, (.int .i64)), (false, (.sl (.int .u64)))], [(false, (.sl (.int .i64))), (false, (.int .i64))], fun R x k => F R x.1 x.2.1 x.2.2.1 x.2.2.2.1 (fun y1 y2 => k (y1, y2, ()) ())⟩
abbrev LT36_8 : Type 1 := (R : Type) → Int → Int → (List Int) → Int → (List Int) → (List Int) → ((List Int) → Option R) → Option R
def p36_8 (F32 : FT32) : (R : Type) → Int → Int → (List Int) → Int → (List Int) → (List Int) → (Int → Int → (List Int) → Int → (List Int) → (List Int) → Option R) → ((List Int) → Option R) → Option R := fun R x1 x2 x3 x4 x5 x6 kc k0 =>
let v7 : Bool := (decide (x4 < x1));
(match v7 with
| true => F32 R x5 x4 x2 x3 fun y8 y9 =>
let v10 : Bool := (y9 != (0 : Int));
(match v10 with
| true => let v11 : (List Int) := ([(-1 : Int)] : (List Int));
(match (decide (List.length x6 + List.length v11 ≤ 17592186044416)) with
| true => let v12 : (List Int) := (x6 ++ v11);
let v13 : Int := (IntKind.i64.wrap (x4 + (1 : Int)));
kc x1 x2 x3 v13 x5 v12
| false => none)
| false => let v14 : (List Int) := ([y8] : (List Int));
(match (decide (List.length x6 + List.length v14 ≤ 17592186044416)) with
| true => let v15 : (List Int) := (x6 ++ v14);
let v16 : Int := (IntKind.i64.wrap (x4 + (1 : Int)));
kc x1 x2 x3 v16 x5 v15
| false => none))
| false => k0 x6)
noncomputable def G36_8 : Nat → LT36_8
  | 0 => fun _ _ _ _ _ _ _ _ => none
  | n + 1 => fun R x1 x2 x3 x4 x5 x6 k0 => p36_8 F32 R x1 x2 x3 x4 x5 x6 (fun x1 x2 x3 x4 x5 x6 => G36_8 n R x1 x2 x3 x4 x5 x6 k0) k0
def p36 (F22 : FT22) (F75 : FT75) (L8 : LT36_8) : FT36 := fun R a0 a1 a2 a3 k =>
let v1 : Bool := (decide (a1 < (1 : Int)));
(match v1 with
| true => k ([] : (List Int)) (1 : Int)
| false => let v2 : Int := (IntKind.i64.wrap (a1 - (1 : Int)));
F75 R v2 a2 fun y3 =>
(match (!y3) with
| true => k ([] : (List Int)) (1 : Int)
| false => F22 R a3 fun y4 y5 =>
let v6 : Bool := (y5 != (0 : Int));
(match v6 with
| true => k ([] : (List Int)) y5
| false => L8 R a1 a2 a3 (0 : Int) a0 ([] : (List Int)) (fun x7 =>
k x7 (0 : Int)))))
noncomputable def F36 : FT36 := p36 F22 F75 (G36_8 FUEL)
abbrev FT9 : Type 1 := (R : Type) → (List Int) → (List Int) → (List Int) → (Bool → Option R) → Option R
noncomputable def e9 (F21 : FT21) (F30 : FT30) (F35 : FT35) (F36 : FT36) (R : Type) : Env R := ⟨TT, EQT, 0, 54, ownOf [], callOf [en21 F21, en30 F30, en35 F35, en36 F36] R, loopOf [] R, [], inlOf []⟩
def p9 (F21 : FT21) (F30 : FT30) (F35 : FT35) (F36 : FT36) : FT9 := fun R a0 a1 a2 k =>
F30 R  fun y1 =>
(match (!y1) with
| true => k false
| false => let v2 : Int := (List.length a2 : Int);
let v3 : Bool := (decide (v2 > (100 : Int)));
(match v3 with
| true => k true
| false => let v4 : Int := (List.getD a1 0 (0 : Int));
let v5 : Bool := (decide (v4 > (40 : Int)));
(match v5 with
| true => let v6 : Int := (List.getD a1 0 (0 : Int));
let v7 : Bool := (decide (v6 ≤ (1024 : Int)));
(match v7 with
| true => k true
| false => let v8 : Int := (List.getD a1 0 (0 : Int));
let v9 : Int := (List.getD a1 1 (0 : Int));
F35 R a0 v8 v9 a2 fun y10 y11 =>
let v12 : Int := (List.getD a1 0 (0 : Int));
let v13 : Int := (List.getD a1 1 (0 : Int));
F36 R a0 v12 v13 a2 fun y14 y15 =>
F21 R y10 y14 fun y16 =>
(match y16 with
| true => let v17 : Bool := (y11 == y15);
k v17
| false => k false))
| false => let v18 : Int := (List.getD a1 0 (0 : Int));
let v19 : Int := (List.getD a1 1 (0 : Int));
F35 R a0 v18 v19 a2 fun y20 y21 =>
let v22 : Int := (List.getD a1 0 (0 : Int));
let v23 : Int := (List.getD a1 1 (0 : Int));
F36 R a0 v22 v23 a2 fun y24 y25 =>
F21 R y20 y24 fun y26 =>
(match y26 with
| true => let v27 : Bool := (y21 == y25);
k v27
| false => k false))))
abbrev FT59 : Type 1 := (R : Type) → (List Int) → (Int → Option R) → Option R
def en59 (F : FT59) : Ent := ⟨59, [(false, (.sl (.int .u64)))], [(false, (.int .i64))], fun R x k => F R x.1 (fun y1 => k (y1, ()) ())⟩
abbrev LT59_3 : Type 1 := (R : Type) → (List Int) → Int → Int → (Int → Option R) → Option R
def p59_3 : (R : Type) → (List Int) → Int → Int → ((List Int) → Int → Int → Option R) → (Int → Option R) → Option R := fun R x1 x2 x3 kc k0 =>
let v4 : Int := (List.length x1 : Int);
let v5 : Bool := (decide (x3 < v4));
(match v5 with
| true => (match (bnd x3 (List.length x1 : Int)) with
| true => let v6 : Int := (List.getD x1 (Int.toNat x3) (0 : Int));
let v7 : Bool := (decide (v6 > (0 : Int)));
(match v7 with
| true => let v8 : Int := (IntKind.i64.wrap (x2 + (1 : Int)));
let v9 : Int := (IntKind.i64.wrap (x3 + (1 : Int)));
kc x1 v8 v9
| false => let v10 : Int := (IntKind.i64.wrap (x3 + (1 : Int)));
kc x1 x2 v10)
| false => none)
| false => k0 x2)
noncomputable def G59_3 : Nat → LT59_3
  | 0 => fun _ _ _ _ _ => none
  | n + 1 => fun R x1 x2 x3 k0 => p59_3 R x1 x2 x3 (fun x1 x2 x3 => G59_3 n R x1 x2 x3 k0) k0
def p59 (L3 : LT59_3) : FT59 := fun R a0 k =>
L3 R a0 (0 : Int) (0 : Int) (fun x1 =>
k x1)
noncomputable def F59 : FT59 := p59 (G59_3 FUEL)
abbrev FT24 : Type 1 := (R : Type) → (List Int) → Int → Tq6 → Int → ((List Int) → Tq6 → Int → Option R) → Option R
abbrev LT24_7 : Type 1 := (R : Type) → Int → Int → Tq6 → Tq6 → (List Int) → (List Int) → (Int → Tq6 → Option R) → (Tq6 → Tq6 → (List Int) → Option R) → Option R
def le24_7 (L : LT24_7) : LEnt := ⟨7, [.val 1 (.int .i64), .val 3 (.int .i64), .fix 6 (.ptr 0 [] Kq6), .fix 9 (.ptr 1 [] Kq6), .fix 11 (.own 2 0), .fix 12 (.own 3 0), .var 0 Kq6 false, .var 1 Kq6 false, .row 2 (.int .u64) false, .row 3 (.int .i64) false], 4, [(.ret, [.fix 8 .nil, .fix 9 (.ptr 1 [] Kq6), .val 10 (.int .i64), .var 1 Kq6 false]), (.exit 0, [.fix 6 (.ptr 0 [] Kq6), .fix 9 (.ptr 1 [] Kq6), .fix 12 (.own 3 0), .var 0 Kq6 false, .var 1 Kq6 false, .row 3 (.int .i64) false])], fun R x ke => L R x.1 x.2.1 x.2.2.1 x.2.2.2.1 x.2.2.2.2.1 x.2.2.2.2.2.1 (fun y1 y2 => ke.1 (y1, y2, ())) (fun y1 y2 y3 => ke.2.1 (y1, y2, y3, ()))⟩
noncomputable def e60i0 (F46 : FT46) (F52 : FT52) (F100 : FT100) (R : Type) : Env R := ⟨TT, EQT, 0, 47, ownOf [], callOf [en46 F46, en52 F52, en100 F100] R, fun _ _ _ => none, [], inlOf []⟩
noncomputable def e24 (F46 : FT46) (F52 : FT52) (F58 : FT58) (F59 : FT59) (F100 : FT100) (L7 : LT24_7) (R : Type) : Env R := ⟨TT, EQT, 0, 70, ownOf [(5, 0), (6, 0), (8, 3)], callOf [en46 F46, en52 F52, en58 F58, en59 F59, en100 F100] R, loopOf [le24_7 L7] R, [], inlOf [(60, xinl (e60i0 F46 F52 F100 R) (codeOf Tryz.f60) [.tmp 6, .cell 7 30, .tmp 8] 3)]⟩
def p24_7 (F46 : FT46) (F52 : FT52) (F100 : FT100) : (R : Type) → Int → Int → Tq6 → Tq6 → (List Int) → (List Int) → (Int → Int → Tq6 → Tq6 → (List Int) → (List Int) → Option R) → (Int → Tq6 → Option R) → (Tq6 → Tq6 → (List Int) → Option R) → Option R := fun R x1 x2 x3 x4 x5 x6 kc k0 k1 =>
let v7 : Int := (List.length x6 : Int);
let v8 : Bool := (decide (v7 < x1));
(match v8 with
| true => F52 R x5 fun y9 y10 =>
(match (!y10) with
| true => k0 (11 : Int) x3
| false => let v11 : Bool := (y9 == (0 : Int));
(match v11 with
| true => k0 (10 : Int) x3
| false => F46 R x3 y9 x2 fun y12 y13 y14 =>
let v15 : Bool := (y14 != (0 : Int));
(match v15 with
| true => let v16 : Bool := (y14 != (0 : Int));
(match v16 with
| true => k0 y14 y13
| false => (match (bnd (0 : Int) (List.length x5 : Int)) with
| true => let v17 : (List Int) := (List.set x5 0 (0 : Int));
let v18 : (List Int) := ([(0 : Int)] : (List Int));
(match (decide (List.length x6 + List.length v18 ≤ 17592186044416)) with
| true => let v19 : (List Int) := (x6 ++ v18);
kc x1 x2 y13 x4 v17 v19
| false => none)
| false => none))
| false => F100 R x5 y12 fun y20 y21 =>
(match (bnd y20 (List.length x5 : Int)) with
| true => let v22 : (List Int) := (List.set x5 (Int.toNat y20) (0 : Int));
let v23 : (List Int) := ([y20] : (List Int));
(match (decide (List.length x6 + List.length v23 ≤ 17592186044416)) with
| true => let v24 : (List Int) := (x6 ++ v23);
kc x1 x2 y13 x4 v22 v24
| false => none)
| false => none))))
| false => k1 x3 x4 x6)
noncomputable def G24_7 : Nat → LT24_7
  | 0 => fun _ _ _ _ _ _ _ _ _ => none
  | n + 1 => fun R x1 x2 x3 x4 x5 x6 k0 k1 => p24_7 F46 F52 F100 R x1 x2 x3 x4 x5 x6 (fun x1 x2 x3 x4 x5 x6 => G24_7 n R x1 x2 x3 x4 x5 x6 k0 k1) k0 k1
def p24 (F58 : FT58) (F59 : FT59) (L7 : LT24_7) : FT24 := fun R a0 a1 a2 a3 k =>
let v1 : Bool := (decide (a1 < (0 : Int)));
(match v1 with
| true => k ([] : (List Int)) a2 (1 : Int)
| false => let v2 : Bool := (decide (a1 > (256 : Int)));
(match v2 with
| true => k ([] : (List Int)) a2 (1 : Int)
| false => F58 R a2 fun y3 =>
(match (!y3) with
| true => k ([] : (List Int)) a2 (1 : Int)
| false => let v4 : Bool := (decide (a3 < (1 : Int)));
(match v4 with
| true => k ([] : (List Int)) a2 (1 : Int)
| false => let v5 : Bool := (decide (a3 > (64 : Int)));
(match v5 with
| true => k ([] : (List Int)) a2 (1 : Int)
| false => F59 R a0 fun y6 =>
let v7 : Bool := (decide (y6 < a1));
(match v7 with
| true => k ([] : (List Int)) a2 (12 : Int)
| false => let v8 : (List Int) := ([] : (List Int));
(match (decide (List.length v8 + List.length a0 ≤ 17592186044416)) with
| true => let v9 : (List Int) := (v8 ++ a0);
L7 R a1 a3 a2 ((0 : Int), ([] : (List Int)), (0 : Int), (List.replicate 32 (0 : Int)), (0 : Int), (0 : Int), ()) v9 ([] : (List Int)) (fun x10 x11 =>
k ([] : (List Int)) x11 x10) (fun x12 x13 x14 =>
k x14 x12 (0 : Int))
| false => none)))))))
noncomputable def F24 : FT24 := p24 F58 F59 (G24_7 FUEL)
abbrev FT38 : Type 1 := (R : Type) → (List Int) → Int → Int → Int → (List Int) → ((List Int) → Int → Option R) → Option R
def p38 (F22 : FT22) (F24 : FT24) (F75 : FT75) (F76 : FT76) : FT38 := fun R a0 a1 a2 a3 a4 k =>
F75 R a1 a3 fun y1 =>
(match (!y1) with
| true => k ([] : (List Int)) (1 : Int)
| false => F22 R a4 fun y2 y3 =>
let v4 : Bool := (y3 != (0 : Int));
(match v4 with
| true => k ([] : (List Int)) y3
| false => F76 R a0 (3 : Int) a1 fun y5 =>
F24 R a4 a2 y5 a3 fun y6 y7 y8 =>
k y6 y8))
noncomputable def F38 : FT38 := p38 F22 F24 F75 F76
abbrev FT10 : Type 1 := (R : Type) → (List Int) → (List Int) → (List Int) → (Bool → Option R) → Option R
def p10 (F21 : FT21) (F30 : FT30) (F37 : FT37) (F38 : FT38) : FT10 := fun R a0 a1 a2 k =>
F30 R  fun y1 =>
(match (!y1) with
| true => k false
| false => let v2 : Int := (List.length a2 : Int);
let v3 : Bool := (decide (v2 > (60 : Int)));
(match v3 with
| true => k true
| false => let v4 : Int := (List.getD a1 0 (0 : Int));
let v5 : Int := (List.getD a1 1 (0 : Int));
let v6 : Int := (List.getD a1 2 (0 : Int));
F37 R a0 v4 v5 v6 a2 fun y7 y8 =>
let v9 : Int := (List.getD a1 0 (0 : Int));
let v10 : Int := (List.getD a1 1 (0 : Int));
let v11 : Int := (List.getD a1 2 (0 : Int));
F38 R a0 v9 v10 v11 a2 fun y12 y13 =>
F21 R y7 y12 fun y14 =>
(match y14 with
| true => let v15 : Bool := (y8 == y13);
k v15
| false => k false)))
end Go.PG
namespace Go.PG
end Go.PG
namespace Go.PG
def U32 (x : Int) : Prop := 0 ≤ x ∧ x < 4294967296
def U8 (x : Int) : Prop := 0 ≤ x ∧ x < 256
theorem ofInt_toNat32 {x : Int} (h : U32 x) : (BitVec.ofInt 32 x).toNat = x.toNat := by
  rw [BitVec.toNat_ofInt]
  unfold U32 at h
  have : x % ((2 ^ 32 : Nat) : Int) = x := by omega
  rw [this]
theorem wrap_bv32 (b : BitVec 32) : IntKind.u32.wrap ((b.toNat : Nat) : Int) = (b.toNat : Int) := by
  have := b.isLt
  exact wrap_u32 (by omega) (by omega)
theorem iand_u32 (a b : Int) : iand .u32 a b = ((BitVec.ofInt 32 a &&& BitVec.ofInt 32 b).toNat : Int) := wrap_bv32 _
theorem ior_u32 (a b : Int) : ior .u32 a b = ((BitVec.ofInt 32 a ||| BitVec.ofInt 32 b).toNat : Int) := wrap_bv32 _
theorem ixor_u32 (a b : Int) : ixor .u32 a b = ((BitVec.ofInt 32 a ^^^ BitVec.ofInt 32 b).toNat : Int) := wrap_bv32 _
theorem wrap_lt32 (a : Int) : U32 (IntKind.u32.wrap a) := by rw [wrap_u32_mod]; unfold U32; omega
theorem ofInt_natCast32 (b : BitVec 32) : BitVec.ofInt 32 ((b.toNat : Nat) : Int) = b := by
  rw [BitVec.ofInt_natCast, BitVec.ofNat_toNat, BitVec.setWidth_eq]
theorem choice_eq {a : Int} (b c : Int) (ha : U32 a) : ixor .u32 (iand .u32 a b) (iand .u32 (ixor .u32 4294967295 a) c) = ior .u32 (iand .u32 a b) (iand .u32 (IntKind.u32.wrap (4294967295 - a)) c) := by
  have h1 : IntKind.u32.wrap (4294967295 - a) = ixor .u32 4294967295 a := by
    rw [ixor_u32, wrap_u32 (by unfold U32 at ha; omega) (by unfold U32 at ha; omega)]
    have e : BitVec.ofInt 32 4294967295 = BitVec.allOnes 32 := by decide
    rw [e, BitVec.allOnes_xor, BitVec.toNat_not, ofInt_toNat32 ha]
    unfold U32 at ha
    omega
  rw [h1]
  simp only [iand_u32, ior_u32, ixor_u32, ofInt_natCast32]
  congr 2
  have e : BitVec.ofInt 32 4294967295 = BitVec.allOnes 32 := by decide
  rw [e]
  ext i hi
  simp only [BitVec.getElem_xor, BitVec.getElem_and, BitVec.getElem_or, BitVec.getElem_allOnes]
  cases (BitVec.ofInt 32 a)[i] <;> simp
theorem majority_eq (a b c : Int) : ixor .u32 (ixor .u32 (iand .u32 a b) (iand .u32 a c)) (iand .u32 b c) = ior .u32 (ior .u32 (iand .u32 a b) (iand .u32 a c)) (iand .u32 b c) := by
  simp only [iand_u32, ior_u32, ixor_u32, ofInt_natCast32]
  congr 2
  ext i hi
  simp
  cases (BitVec.ofInt 32 a)[i] <;> cases (BitVec.ofInt 32 b)[i] <;> cases (BitVec.ofInt 32 c)[i] <;> rfl
def rotS (x : Int) (r : Nat) : Int := x / 2 ^ r + (x % 2 ^ r) * 2 ^ (32 - r)
theorem rotS_step {x : Int} {r : Nat} (hx : U32 x) (hr : r < 32) : rotS x (r + 1) = rotS x r / 2 + (rotS x r % 2) * 2147483648 := by
  unfold rotS U32 at *
  have e1 : (2 : Int) ^ (32 - r) = 2 * 2 ^ (31 - r) := by
    rw [show 32 - r = (31 - r) + 1 by omega, Int.pow_succ]; omega
  have e2 : (2 : Int) ^ (32 - (r + 1)) = 2 ^ (31 - r) := by rw [show 32 - (r + 1) = 31 - r by omega]
  have e3 : (2 : Int) ^ (r + 1) = 2 ^ r * 2 := Int.pow_succ _ _
  have e4 : (2 : Int) ^ r * 2 ^ (31 - r) = 2147483648 := by
    rw [← Int.pow_add, show r + (31 - r) = 31 by omega]; decide
  rw [e1, e2, e3]
  have hp : (0 : Int) < 2 ^ r := Int.pow_pos (by decide)
  generalize (2 : Int) ^ r = p at *
  generalize (2 : Int) ^ (31 - r) = s at *
  have d1 : x / (p * 2) = x / p / 2 := (Int.ediv_ediv_of_nonneg (by omega)).symm
  have d2 : x % (p * 2) = x % p + p * (x / p % 2) := by
    have a1 := Int.emod_add_mul_ediv x p
    have a2 := Int.emod_add_mul_ediv x (p * 2)
    have a3 := Int.emod_add_mul_ediv (x / p) 2
    rw [d1] at a2
    generalize x / p = q at *
    generalize x % p = m at *
    generalize q / 2 = h at *
    generalize q % 2 = t at *
    have : p * (t + 2 * h) = p * q := by rw [a3]
    rw [Int.mul_add, ← Int.mul_assoc] at this
    omega
  rw [d1, d2, Int.add_mul]
  have e5 : p * (x / p % 2) * s = (x / p % 2) * 2147483648 := by
    rw [Int.mul_comm p, Int.mul_assoc, e4]
  rw [e5]
  have e6 : x % p * (2 * s) = 2 * (x % p * s) := by rw [Int.mul_left_comm]
  rw [e6]
  generalize x % p * s = u
  omega
theorem rotS_zero (x : Int) : rotS x 0 = x := by simp [rotS]
theorem rotS_lt {x : Int} (hx : U32 x) : ∀ {r : Nat}, r ≤ 32 → U32 (rotS x r)
  | 0, _ => by rw [rotS_zero]; exact hx
  | r + 1, h => by
    have ih := rotS_lt hx (r := r) (by omega)
    rw [rotS_step hx (by omega)]
    unfold U32 at *
    omega
theorem two_pow_pos (r : Nat) : (0 : Int) < 2 ^ r := Int.pow_pos (by decide)
theorem rot_or {x : Int} (hx : U32 x) {r : Nat} (h0 : 0 < r) (hr : r < 32) : ior .u32 (ishr .u32 x r) (ishl .u32 x ((32 : Int) - r)) = rotS x r := by
  unfold U32 at hx
  obtain ⟨n, rfl⟩ : ∃ n : Nat, x = n := ⟨x.toNat, by omega⟩
  have hn : n < 2 ^ 32 := by omega
  have e1 : ishr .u32 (n : Int) r = ((n / 2 ^ r : Nat) : Int) := by
    unfold ishr
    rw [show IntKind.u32.bits = 32 from rfl, show ((r : Int).toNat) = r by simp, Nat.min_eq_left (by omega), Int.fdiv_eq_ediv_of_nonneg _ (by have := two_pow_pos r; omega)]
    simp
  have e2 : ishl .u32 (n : Int) ((32 : Int) - r) = ((n * 2 ^ (32 - r) % 2 ^ 32 : Nat) : Int) := by
    unfold ishl
    rw [show IntKind.u32.bits = 32 from rfl, show ((32 : Int) - r).toNat = 32 - r by omega, Nat.min_eq_left (by omega), wrap_u32_mod]
    simp
  rw [e1, e2, ior_u32, BitVec.ofInt_natCast, BitVec.ofInt_natCast, BitVec.toNat_or, BitVec.toNat_ofNat, BitVec.toNat_ofNat]
  have hd : n / 2 ^ r < 2 ^ (32 - r) := by
    rw [Nat.div_lt_iff_lt_mul (Nat.two_pow_pos r), ← Nat.pow_add, show 32 - r + r = 32 by omega]; exact hn
  have h3 : n * 2 ^ (32 - r) % 2 ^ 32 = (n % 2 ^ r) * 2 ^ (32 - r) := by
    have : 2 ^ 32 = 2 ^ r * 2 ^ (32 - r) := by rw [← Nat.pow_add, show r + (32 - r) = 32 by omega]
    rw [this, Nat.mul_mod_mul_right]
  have h4 : n / 2 ^ r < 2 ^ 32 := Nat.lt_of_le_of_lt (Nat.div_le_self _ _) hn
  rw [h3, Nat.mod_eq_of_lt h4, Nat.mod_eq_of_lt (by
    have : n % 2 ^ r < 2 ^ r := Nat.mod_lt _ (Nat.two_pow_pos r)
    have h5 : 2 ^ 32 = 2 ^ r * 2 ^ (32 - r) := by rw [← Nat.pow_add, show r + (32 - r) = 32 by omega]
    rw [h5]; exact Nat.mul_lt_mul_of_pos_right this (Nat.two_pow_pos _)), Nat.or_comm]
  have h6 := Nat.shiftLeft_add_eq_or_of_lt hd (n % 2 ^ r)
  rw [Nat.shiftLeft_eq] at h6
  rw [← h6]
  unfold rotS
  simp
  omega
end Go.PG
namespace Go.PG
theorem F193_eq (R : Type) {x : Int} (hx : U32 x) {r : Nat} (h0 : 0 < r) (hr : r < 32) (k : Int → Option R) : F193 R x (r : Int) k = k (rotS x r) := by
  simp only [F193, p193]
  rw [wrap_u64 (n := (r : Int)) (by omega) (by omega), Int.tmod_eq_of_lt (by omega) (by omega), wrap_u64 (by omega) (by omega)]
  rw [show decide (0 ≤ (r : Int)) = true by simp, show decide (0 ≤ (32 : Int) - r) = true by simp; omega]
  simp only
  rw [rot_or hx h0 hr]
theorem G190_eq (R : Type) {x : Int} (hx : U32 x) {r : Nat} (hr : r ≤ 32) (k : Int → Option R) : ∀ (m i : Nat), i ≤ r → r - i < m → G190_5 m R (rotS x i) (r : Int) (i : Int) k = k (rotS x r)
  | 0, i, _, h => by omega
  | m + 1, i, h1, h2 => by
    simp only [G190_5, p190_5]
    by_cases hi : i < r
    · have hd : decide ((i : Int) < (r : Int)) = true := by simpa using hi
      have hu := rotS_lt hx (r := i) (by omega)
      have hs := rotS_step hx (r := i) (by omega)
      simp only [hd]
      have ih := G190_eq R hx hr k m (i + 1) (by omega) (by omega)
      rw [hs] at ih
      rw [← ih]
      unfold U32 at hu
      rw [Int.tdiv_eq_ediv_of_nonneg hu.1, Int.tmod_eq_emod_of_nonneg hu.1]
      rw [wrap_u32 (n := rotS x i / 2) (by omega) (by omega), wrap_u32 (n := rotS x i % 2 * 2147483648) (by omega) (by omega), wrap_u32 (by omega) (by omega), wrap_i64 (by omega) (by omega)]
      rfl
    · have hd : decide ((i : Int) < (r : Int)) = false := by simpa using hi
      have : i = r := by omega
      subst this
      simp only [hd]
theorem F190_eq (R : Type) {x : Int} (hx : U32 x) {r : Nat} (hr : r < 32) (k : Int → Option R) : F190 R x (r : Int) k = k (rotS x r) := by
  simp only [F190, p190]
  rw [Int.tmod_eq_of_lt (by omega) (by omega)]
  have hd : decide ((r : Int) < 0) = false := by simp
  simp only [hd]
  have := G190_eq R hx (r := r) (by omega) k FUEL 0 (by omega) (by rw [FUEL_eq]; omega)
  rw [rotS_zero] at this
  exact this
def shrS (x : Int) (r : Nat) : Int := x / 2 ^ r
theorem shr_eq {x : Int} (hx : U32 x) {r : Nat} (hr : r ≤ 32) : ishr .u32 x r = shrS x r := by
  unfold ishr shrS
  rw [show IntKind.u32.bits = 32 from rfl, show ((r : Int).toNat) = r by simp, Nat.min_eq_left hr, Int.fdiv_eq_ediv_of_nonneg _ (by have := two_pow_pos r; omega)]
theorem F194_eq (R : Type) {x : Int} (hx : U32 x) {r : Nat} (hr : r ≤ 32) (k : Int → Option R) : F194 R x (r : Int) k = k (shrS x r) := by
  simp only [F194, p194]
  have e : (if (0 : Int) > (r : Int) then (0 : Int) else (r : Int)) = r := by split <;> omega
  rw [e, wrap_u64 (by omega) (by omega), shr_eq hx hr]
  have hd : decide ((0 : Int) ≤ (r : Int)) = true := by simp
  simp only [hd]
theorem shrS_lt {x : Int} (hx : U32 x) (r : Nat) : U32 (shrS x r) := by
  unfold shrS U32 at *
  have hp := two_pow_pos r
  exact ⟨Int.ediv_nonneg hx.1 (by omega), Int.lt_of_le_of_lt (Int.ediv_le_self _ hx.1) hx.2⟩
theorem shrS_step (x : Int) (r : Nat) : shrS x (r + 1) = shrS x r / 2 := by
  unfold shrS
  rw [Int.pow_succ, Int.ediv_ediv_of_nonneg (by have := two_pow_pos r; omega)]
theorem G139_eq (R : Type) {x : Int} (hx : U32 x) {r : Nat} (hr : r ≤ 32) (k : Int → Option R) : ∀ (m i : Nat), i ≤ r → r - i < m → G139_4 m R (shrS x i) (r : Int) (i : Int) k = k (shrS x r)
  | 0, i, _, h => by omega
  | m + 1, i, h1, h2 => by
    simp only [G139_4, p139_4]
    by_cases hi : i < r
    · have hd : decide ((i : Int) < (r : Int)) = true := by simpa using hi
      have hu := shrS_lt hx i
      simp only [hd]
      have ih := G139_eq R hx hr k m (i + 1) (by omega) (by omega)
      rw [shrS_step] at ih
      rw [← ih]
      unfold U32 at hu
      rw [Int.tdiv_eq_ediv_of_nonneg hu.1, wrap_u32 (by omega) (by omega), wrap_i64 (by omega) (by omega)]
      rfl
    · have hd : decide ((i : Int) < (r : Int)) = false := by simpa using hi
      have : i = r := by omega
      subst this
      simp only [hd]
theorem F139_eq (R : Type) {x : Int} (hx : U32 x) {r : Nat} (hr : r < 32) (k : Int → Option R) : F139 R x (r : Int) k = k (shrS x r) := by
  simp only [F139, p139]
  have hd : decide ((r : Int) > 31) = false := by simp; omega
  simp only [hd]
  have := G139_eq R hx (r := r) (by omega) k FUEL 0 (by omega) (by rw [FUEL_eq]; omega)
  rw [show shrS x 0 = x by simp [shrS]] at this
  exact this
theorem F193_lit (R : Type) {x : Int} (hx : U32 x) {n : Int} (r : Nat) (e : n = (r : Int)) (h0 : 0 < r) (hr : r < 32) (k : Int → Option R) : F193 R x n k = k (rotS x r) := by rw [e]; exact F193_eq R hx h0 hr k
theorem F190_lit (R : Type) {x : Int} (hx : U32 x) {n : Int} (r : Nat) (e : n = (r : Int)) (hr : r < 32) (k : Int → Option R) : F190 R x n k = k (rotS x r) := by rw [e]; exact F190_eq R hx hr k
theorem F194_lit (R : Type) {x : Int} (hx : U32 x) {n : Int} (r : Nat) (e : n = (r : Int)) (hr : r ≤ 32) (k : Int → Option R) : F194 R x n k = k (shrS x r) := by rw [e]; exact F194_eq R hx hr k
theorem F139_lit (R : Type) {x : Int} (hx : U32 x) {n : Int} (r : Nat) (e : n = (r : Int)) (hr : r < 32) (k : Int → Option R) : F139 R x n k = k (shrS x r) := by rw [e]; exact F139_eq R hx hr k
def sig3 (x : Int) (a b c : Nat) : Int := ixor .u32 (ixor .u32 (rotS x a) (rotS x b)) (rotS x c)
def sig2 (x : Int) (a b c : Nat) : Int := ixor .u32 (ixor .u32 (rotS x a) (rotS x b)) (shrS x c)
theorem F186_eq (R : Type) {x : Int} (hx : U32 x) (k : Int → Option R) : F186 R x k = k (sig2 x 17 19 10) := by
  simp only [F186, p186, F191, p191]
  rw [F193_lit R hx (n := 17) 17 rfl (by omega) (by omega), F193_lit R hx (n := 19) 19 rfl (by omega) (by omega), F194_lit R hx (n := 10) 10 rfl (by omega)]
  simp only [sig2]
theorem F187_eq (R : Type) {x : Int} (hx : U32 x) (k : Int → Option R) : F187 R x k = k (sig2 x 7 18 3) := by
  simp only [F187, p187, F191, p191]
  rw [F193_lit R hx (n := 7) 7 rfl (by omega) (by omega), F193_lit R hx (n := 18) 18 rfl (by omega) (by omega), F194_lit R hx (n := 3) 3 rfl (by omega)]
  simp only [sig2]
theorem F180_eq (R : Type) {x : Int} (hx : U32 x) (k : Int → Option R) : F180 R x k = k (sig2 x 17 19 10) := by
  have h1 := F190_lit R hx (n := 17) 17 rfl (by omega)
  have h2 := F190_lit R hx (n := 19) 19 rfl (by omega)
  have h3 := F139_lit R hx (n := 10) 10 rfl (by omega)
  show p180 F139 F190 R x k = _
  generalize F190 = f at *
  generalize F139 = g at *
  simp only [p180, h1, h2, h3, sig2]
theorem F181_eq (R : Type) {x : Int} (hx : U32 x) (k : Int → Option R) : F181 R x k = k (sig2 x 7 18 3) := by
  have h1 := F190_lit R hx (n := 7) 7 rfl (by omega)
  have h2 := F190_lit R hx (n := 18) 18 rfl (by omega)
  have h3 := F139_lit R hx (n := 3) 3 rfl (by omega)
  show p181 F139 F190 R x k = _
  generalize F190 = f at *
  generalize F139 = g at *
  simp only [p181, h1, h2, h3, sig2]
def chS (a b c : Int) : Int := ior .u32 (iand .u32 a b) (iand .u32 (IntKind.u32.wrap (4294967295 - a)) c)
def majS (a b c : Int) : Int := ior .u32 (ior .u32 (iand .u32 a b) (iand .u32 a c)) (iand .u32 b c)
theorem F188_eq (R : Type) {a : Int} (ha : U32 a) (b c : Int) (k : Int → Option R) : F188 R a b c k = k (IntKind.u32.wrap (sig3 a 6 11 25 + chS a b c)) := by
  simp only [F188, p188, F192, p192]
  rw [F193_lit R ha (n := 6) 6 rfl (by omega) (by omega), F193_lit R ha (n := 11) 11 rfl (by omega) (by omega), F193_lit R ha (n := 25) 25 rfl (by omega) (by omega)]
  simp only [sig3, chS, choice_eq b c ha]
theorem F189_eq (R : Type) {a : Int} (ha : U32 a) (b c : Int) (k : Int → Option R) : F189 R a b c k = k (IntKind.u32.wrap (sig3 a 2 13 22 + majS a b c)) := by
  simp only [F189, p189, F192, p192]
  rw [F193_lit R ha (n := 2) 2 rfl (by omega) (by omega), F193_lit R ha (n := 13) 13 rfl (by omega) (by omega), F193_lit R ha (n := 22) 22 rfl (by omega) (by omega)]
  simp only [sig3, majS, majority_eq]
theorem F182_eq (R : Type) {x : Int} (hx : U32 x) {a b c : Int} (p q r : Nat) (ea : a = (p : Int)) (eb : b = (q : Int)) (ec : c = (r : Int)) (hp : p < 32) (hq : q < 32) (hr : r < 32) (k : Int → Option R) : F182 R x a b c k = k (sig3 x p q r) := by
  simp only [F182, p182]
  rw [F190_lit R hx p ea hp, F190_lit R hx q eb hq, F190_lit R hx r ec hr]
  simp only [sig3]
def roundS (s : List Int) (w c : Int) : List Int :=
  let t := IntKind.u32.wrap (s.getD 7 0 + sig3 (s.getD 4 0) 6 11 25 + chS (s.getD 4 0) (s.getD 5 0) (s.getD 6 0) + c + w)
  [IntKind.u32.wrap (t + (sig3 (s.getD 0 0) 2 13 22 + majS (s.getD 0 0) (s.getD 1 0) (s.getD 2 0))), s.getD 0 0, s.getD 1 0, s.getD 2 0, IntKind.u32.wrap (s.getD 3 0 + t), s.getD 4 0, s.getD 5 0, s.getD 6 0]
theorem F174_eq (R : Type) {s : List Int} (h0 : U32 (s.getD 0 0)) (h4 : U32 (s.getD 4 0)) (w c : Int) (k : List Int → Option R) : F174 R s w c k = k (roundS s w c) := by
  have e1 := F182_eq R h4 (a := 6) (b := 11) (c := 25) 6 11 25 rfl rfl rfl (by omega) (by omega) (by omega)
  have e2 := F182_eq R h0 (a := 2) (b := 13) (c := 22) 2 13 22 rfl rfl rfl (by omega) (by omega) (by omega)
  show p174 F182 F183 F184 R s w c k = _
  generalize F182 = f at *
  simp only [p174, e1, e2, F183, p183, F184, p184]
  congr 1
  simp only [roundS, chS, majS, List.replicate, List.set]
  simp only [wrap_u32_mod]
  congr 1
  · omega
  · congr 4
    omega
theorem F178_eq (R : Type) {a0 a1 a2 a3 a4 a5 a6 a7 : Int} (h0 : U32 a0) (h4 : U32 a4) (w c : Int) (k : List Int → Option R) : F178 R [a0, a1, a2, a3, a4, a5, a6, a7] w c k = k (roundS [a0, a1, a2, a3, a4, a5, a6, a7] w c) := by
  simp only [F178, p178, List.getD_cons_zero, List.getD_cons_succ]
  rw [F188_eq R h4, F189_eq R h0]
  congr 1
  simp [roundS, lay, List.replicate]
  simp only [wrap_u32_mod]
  refine ⟨?_, ?_⟩ <;> omega
end Go.PG
namespace Go.PG
theorem list8 {l : List Int} (h : l.length = 8) : ∃ a b c d e f g i, l = [a, b, c, d, e, f, g, i] := by
  match l, h with
  | [a, b, c, d, e, f, g, i], _ => exact ⟨a, b, c, d, e, f, g, i, rfl⟩
def AllU8 (l : List Int) : Prop := ∀ x ∈ l, U8 x
def AllU32 (l : List Int) : Prop := ∀ x ∈ l, U32 x
def get32S (a b c d : Int) : Int := ((a * 256 + b) * 256 + c) * 256 + d
theorem FUEL_succ (n : Nat) (h : n ≤ 1000) : ∃ m, FUEL = m + n := ⟨FUEL - n, by rw [FUEL_eq]; omega⟩
theorem F179_eq (R : Type) {a b c d : Int} (ha : U8 a) (hb : U8 b) (hc : U8 c) (hd : U8 d) (k : Int → Option R) : F179 R [a, b, c, d] k = k (get32S a b c d) := by
  obtain ⟨m, hm⟩ := FUEL_succ 5 (by omega)
  unfold U8 at *
  simp only [F179, p179, hm, G179_3, p179_3]
  simp [bnd, wrap_i64_def, wrap_u32_mod, get32S]
  congr 1
  omega
theorem ior_shl8 {x b : Int} (hx : 0 ≤ x ∧ x < 16777216) (hb : U8 b) : ior .u32 (ishl .u32 x 8) b = x * 256 + b := by
  unfold U8 at hb
  obtain ⟨n, rfl⟩ : ∃ n : Nat, x = n := ⟨x.toNat, by omega⟩
  obtain ⟨c, rfl⟩ : ∃ c : Nat, b = c := ⟨b.toNat, by omega⟩
  have e2 : ishl .u32 (n : Int) 8 = ((n * 256 : Nat) : Int) := by
    unfold ishl
    rw [show (2 : Int) ^ (min (8 : Int).toNat IntKind.u32.bits) = 256 by decide, wrap_u32 (by omega) (by omega)]
    simp
  rw [e2, ior_u32, BitVec.ofInt_natCast, BitVec.ofInt_natCast, BitVec.toNat_or, BitVec.toNat_ofNat, BitVec.toNat_ofNat, Nat.mod_eq_of_lt (by omega), Nat.mod_eq_of_lt (by omega)]
  have h6 := Nat.shiftLeft_add_eq_or_of_lt (i := 8) (b := c) (by omega) n
  rw [Nat.shiftLeft_eq] at h6
  rw [show n * 256 = n * 2 ^ 8 by rfl, ← h6]
  simp
theorem F185_eq (R : Type) {a b c d : Int} (ha : U8 a) (hb : U8 b) (hc : U8 c) (hd : U8 d) (k : Int → Option R) : F185 R [a, b, c, d] k = k (get32S a b c d) := by
  obtain ⟨m, hm⟩ := FUEL_succ 5 (by omega)
  simp only [F185, p185, hm, G185_2, p185_2]
  have w : ∀ x, U8 x → IntKind.u32.wrap x = x := fun x h => wrap_u32 h.1 (by unfold U8 at h; omega)
  simp [bnd, wrap_i64_def, w a ha, w b hb, w c hc, w d hd]
  have u := ha; have v := hb; have y := hc; have z := hd
  unfold U8 at u v y z
  rw [ior_shl8 (x := 0) (by omega) ha, ior_shl8 (by omega) hb, ior_shl8 (by omega) hc, ior_shl8 (by omega) hd]
  simp [get32S]
theorem get32S_lt {a b c d : Int} (ha : U8 a) (hb : U8 b) (hc : U8 c) (hd : U8 d) : U32 (get32S a b c d) := by
  unfold U8 U32 get32S at *; omega
def word4 (blk : List Int) (i : Nat) : Int := get32S (blk.getD (4 * i) 0) (blk.getD (4 * i + 1) 0) (blk.getD (4 * i + 2) 0) (blk.getD (4 * i + 3) 0)
def planW (l : List Int) (i : Nat) : Int := IntKind.u32.wrap (IntKind.u32.wrap (IntKind.u32.wrap (sig2 (l.getD (i - 2) 0) 17 19 10 + l.getD (i - 7) 0) + sig2 (l.getD (i - 15) 0) 7 18 3) + l.getD (i - 16) 0)
def planStep (blk l : List Int) (i : Nat) : List Int := l.set i (if i < 16 then word4 blk i else planW l i)
def planS (blk : List Int) : List Int := (List.range' 0 64).foldl (planStep blk) (List.replicate 64 0)
theorem getD_all {p : Int → Prop} {l : List Int} (h : ∀ x ∈ l, p x) (h0 : p 0) (i : Nat) : p (l.getD i 0) := by
  rw [List.getD_eq_getElem?_getD]
  cases hi : l[i]? with
  | none => exact h0
  | some x => exact h x (List.mem_of_getElem? hi)
theorem u8_0 : U8 0 := by unfold U8; omega
theorem u32_0 : U32 0 := by unfold U32; omega
theorem AllU32.set {l : List Int} (h : AllU32 l) {i : Nat} {x : Int} (hx : U32 x) : AllU32 (l.set i x) := fun y hy => by
  rcases List.mem_or_eq_of_mem_set hy with h1 | h1
  · exact h y h1
  · rw [h1]; exact hx
theorem AllU32.rep (n : Nat) : AllU32 (List.replicate n 0) := fun y hy => by rw [List.eq_of_mem_replicate hy]; exact u32_0
theorem word4_lt {blk : List Int} (h : AllU8 blk) (i : Nat) : U32 (word4 blk i) := get32S_lt (getD_all h u8_0 _) (getD_all h u8_0 _) (getD_all h u8_0 _) (getD_all h u8_0 _)
theorem planStep_ok {blk l : List Int} (hb : AllU8 blk) (hl : l.length = 64) (h : AllU32 l) (i : Nat) : (planStep blk l i).length = 64 ∧ AllU32 (planStep blk l i) := by
  unfold planStep
  refine ⟨by simpa using hl, h.set ?_⟩
  split
  · exact word4_lt hb i
  · exact wrap_lt32 _
theorem take4 {l : List Int} {i : Nat} (h : i + 4 ≤ l.length) : List.take 4 (List.drop i l) = [l.getD i 0, l.getD (i + 1) 0, l.getD (i + 2) 0, l.getD (i + 3) 0] := by
  have e0 : List.drop i l = l[i] :: List.drop (i + 1) l := List.drop_eq_getElem_cons (by omega)
  have e1 : List.drop (i + 1) l = l[i + 1] :: List.drop (i + 1 + 1) l := List.drop_eq_getElem_cons (by omega)
  have e2 : List.drop (i + 1 + 1) l = l[i + 1 + 1] :: List.drop (i + 1 + 1 + 1) l := List.drop_eq_getElem_cons (by omega)
  have e3 : List.drop (i + 1 + 1 + 1) l = l[i + 1 + 1 + 1] :: List.drop (i + 1 + 1 + 1 + 1) l := List.drop_eq_getElem_cons (by omega)
  rw [e0, e1, e2, e3]
  show [l[i], l[i + 1], l[i + 1 + 1], l[i + 1 + 1 + 1]] = _
  simp [show i < l.length by omega, show i + 1 < l.length by omega, show i + 2 < l.length by omega, show i + 3 < l.length by omega]
theorem range'_step {i n : Nat} (h : i < n) : List.range' i (n - i) = i :: List.range' (i + 1) (n - (i + 1)) := by
  rw [show n - i = (n - (i + 1)) + 1 by omega, List.range'_succ]
theorem G177_eq (R : Type) {blk : List Int} (hb : blk.length = 64) (h8 : AllU8 blk) (k0 : List Int → Option R) : ∀ (m i : Nat) (l : List Int), i ≤ 64 → 64 - i < m → l.length = 64 → AllU32 l →
    G177_2 m R (i : Int) blk l k0 = k0 ((List.range' i (64 - i)).foldl (planStep blk) l)
  | 0, i, l, _, h, _, _ => by omega
  | m + 1, i, l, h1, h2, hl, hu => by
    simp only [G177_2, p177_2]
    by_cases hi : i < 64
    · have ok := planStep_ok h8 hl hu i
      have ih := G177_eq R hb h8 k0 m (i + 1) (planStep blk l i) (by omega) (by omega) ok.1 ok.2
      rw [range'_step hi, List.foldl_cons, ← ih]
      rw [wrap_i64 (n := 4 * (i : Int)) (by omega) (by omega), wrap_i64 (n := (i : Int) + 1) (by omega) (by omega), wrap_i64 (n := 4 * (i : Int) + 4) (by omega) (by omega)]
      have hd : decide ((i : Int) < 64) = true := by simp; omega
      have hbn : bnd (i : Int) 64 = true := by unfold bnd; simp; omega
      by_cases h16 : i < 16
      · have c1 : decide (4 * (i : Int) < 64) = true := by simp; omega
        have c2 : decide (0 ≤ 4 * (i : Int) ∧ 4 * (i : Int) ≤ 4 * (i : Int) + 4 ∧ 4 * (i : Int) + 4 ≤ 64) = true := by simp; omega
        have c3 : decide ((4 : Int) ≤ ((Int.toNat (4 * (i : Int) + 4 - 4 * (i : Int)) : Nat) : Int)) = true := by simp; omega
        have e1 : (4 * (i : Int)).toNat = 4 * i := by omega
        simp only [hd, c1, c2, c3, e1, hbn]
        rw [take4 (by omega), F185_eq R (getD_all h8 u8_0 _) (getD_all h8 u8_0 _) (getD_all h8 u8_0 _) (getD_all h8 u8_0 _)]
        simp only [planStep, if_pos h16, word4, Int.toNat_natCast]
        rfl
      · have c1 : decide (4 * (i : Int) < 64) = false := by simp; omega
        rw [wrap_i64 (n := (i : Int) - 2) (by omega) (by omega), wrap_i64 (n := (i : Int) - 7) (by omega) (by omega), wrap_i64 (n := (i : Int) - 15) (by omega) (by omega), wrap_i64 (n := (i : Int) - 16) (by omega) (by omega)]
        have b2 : bnd ((i : Int) - 2) 64 = true := by unfold bnd; simp; omega
        have b7 : bnd ((i : Int) - 7) 64 = true := by unfold bnd; simp; omega
        have b15 : bnd ((i : Int) - 15) 64 = true := by unfold bnd; simp; omega
        have b16 : bnd ((i : Int) - 16) 64 = true := by unfold bnd; simp; omega
        have n2 : ((i : Int) - 2).toNat = i - 2 := by omega
        have n7 : ((i : Int) - 7).toNat = i - 7 := by omega
        have n15 : ((i : Int) - 15).toNat = i - 15 := by omega
        have n16 : ((i : Int) - 16).toNat = i - 16 := by omega
        simp only [hd, c1, hbn, b2, b7, b15, b16, n2, n7, n15, n16]
        rw [F186_eq R (getD_all hu u32_0 _), F187_eq R (getD_all hu u32_0 _)]
        simp only [planStep, if_neg h16, planW, Int.toNat_natCast]
        rfl
    · have : i = 64 := by omega
      subst this
      rfl
theorem F177_eq (R : Type) {blk : List Int} (hb : blk.length = 64) (h8 : AllU8 blk) (k : List Int → Option R) : F177 R blk k = k (planS blk) := by
  simp only [F177, p177]
  exact G177_eq R hb h8 _ FUEL 0 (List.replicate 64 0) (by omega) (by rw [FUEL_eq]; omega) (by simp) (AllU32.rep 64)
theorem G173_3_eq (R : Type) {blk : List Int} (hb : blk.length = 64) (h8 : AllU8 blk) (x3 : List Int) (k0 : List Int → List Int → Option R) : ∀ (m i : Nat) (l : List Int), i ≤ 16 → 16 - i < m → l.length = 64 → AllU32 l →
    G173_3 m R (i : Int) blk x3 l k0 = k0 x3 ((List.range' i (16 - i)).foldl (planStep blk) l)
  | 0, i, l, _, h, _, _ => by omega
  | m + 1, i, l, h1, h2, hl, hu => by
    simp only [G173_3, p173_3]
    by_cases hi : i < 16
    · have ok := planStep_ok h8 hl hu i
      have ih := G173_3_eq R hb h8 x3 k0 m (i + 1) (planStep blk l i) (by omega) (by omega) ok.1 ok.2
      rw [range'_step hi, List.foldl_cons, ← ih]
      rw [wrap_i64 (n := 4 * (i : Int)) (by omega) (by omega), wrap_i64 (n := (i : Int) + 1) (by omega) (by omega), wrap_i64 (n := 4 * (i : Int) + 1) (by omega) (by omega), wrap_i64 (n := 4 * (i : Int) + 2) (by omega) (by omega), wrap_i64 (n := 4 * (i : Int) + 3) (by omega) (by omega)]
      have hd : decide ((i : Int) < 16) = true := by simp; omega
      have hbn : bnd (i : Int) 64 = true := by unfold bnd; simp; omega
      have b0 : bnd (4 * (i : Int)) 64 = true := by unfold bnd; simp; omega
      have b1 : bnd (4 * (i : Int) + 1) 64 = true := by unfold bnd; simp; omega
      have b2 : bnd (4 * (i : Int) + 2) 64 = true := by unfold bnd; simp; omega
      have b3 : bnd (4 * (i : Int) + 3) 64 = true := by unfold bnd; simp; omega
      have n0 : (4 * (i : Int)).toNat = 4 * i := by omega
      have n1 : (4 * (i : Int) + 1).toNat = 4 * i + 1 := by omega
      have n2 : (4 * (i : Int) + 2).toNat = 4 * i + 2 := by omega
      have n3 : (4 * (i : Int) + 3).toNat = 4 * i + 3 := by omega
      simp only [hd, hbn, b0, b1, b2, b3, n0, n1, n2, n3, List.replicate, List.set]
      rw [F179_eq R (getD_all h8 u8_0 _) (getD_all h8 u8_0 _) (getD_all h8 u8_0 _) (getD_all h8 u8_0 _)]
      simp only [planStep, if_pos hi, word4, Int.toNat_natCast]
      rfl
    · have : i = 16 := by omega
      subst this
      rfl
theorem G173_7_eq (R : Type) {blk : List Int} (h8 : AllU8 blk) (x2 : List Int) (k0 : List Int → List Int → Option R) : ∀ (m i : Nat) (l : List Int), 16 ≤ i → i ≤ 64 → 64 - i < m → l.length = 64 → AllU32 l →
    G173_7 m R (i : Int) x2 l k0 = k0 x2 ((List.range' i (64 - i)).foldl (planStep blk) l)
  | 0, i, l, _, _, h, _, _ => by omega
  | m + 1, i, l, h16, h1, h2, hl, hu => by
    simp only [G173_7, p173_7]
    by_cases hi : i < 64
    · have ok := planStep_ok h8 hl hu i
      have ih := G173_7_eq R h8 x2 k0 m (i + 1) (planStep blk l i) (by omega) (by omega) (by omega) ok.1 ok.2
      rw [range'_step hi, List.foldl_cons, ← ih]
      rw [wrap_i64 (n := (i : Int) + 1) (by omega) (by omega), wrap_i64 (n := (i : Int) - 2) (by omega) (by omega), wrap_i64 (n := (i : Int) - 7) (by omega) (by omega), wrap_i64 (n := (i : Int) - 15) (by omega) (by omega), wrap_i64 (n := (i : Int) - 16) (by omega) (by omega)]
      have hd : decide ((i : Int) < 64) = true := by simp; omega
      have hbn : bnd (i : Int) 64 = true := by unfold bnd; simp; omega
      have b2 : bnd ((i : Int) - 2) 64 = true := by unfold bnd; simp; omega
      have b7 : bnd ((i : Int) - 7) 64 = true := by unfold bnd; simp; omega
      have b15 : bnd ((i : Int) - 15) 64 = true := by unfold bnd; simp; omega
      have b16 : bnd ((i : Int) - 16) 64 = true := by unfold bnd; simp; omega
      have n2 : ((i : Int) - 2).toNat = i - 2 := by omega
      have n7 : ((i : Int) - 7).toNat = i - 7 := by omega
      have n15 : ((i : Int) - 15).toNat = i - 15 := by omega
      have n16 : ((i : Int) - 16).toNat = i - 16 := by omega
      simp only [hd, hbn, b2, b7, b15, b16, n2, n7, n15, n16]
      rw [F180_eq R (getD_all hu u32_0 _), F181_eq R (getD_all hu u32_0 _)]
      simp only [planStep, if_neg (show ¬ i < 16 by omega), planW, Int.toNat_natCast]
      rfl
    · have : i = 64 := by omega
      subst this
      rfl
theorem planFold_ok {blk : List Int} (h8 : AllU8 blk) : ∀ (is : List Nat) (l : List Int), l.length = 64 → AllU32 l → (is.foldl (planStep blk) l).length = 64 ∧ AllU32 (is.foldl (planStep blk) l)
  | [], l, h1, h2 => ⟨h1, h2⟩
  | i :: is, l, h1, h2 => by
    have ok := planStep_ok h8 h1 h2 i
    exact planFold_ok h8 is _ ok.1 ok.2
theorem F173_eq (R : Type) {blk : List Int} (hb : blk.length = 64) (h8 : AllU8 blk) (k : List Int → Option R) : F173 R blk k = k (planS blk) := by
  simp only [F173, p173]
  have g1 := G173_3_eq R hb h8 (List.replicate 64 0) (fun x1 x2 => G173_7 FUEL R 16 x1 x2 fun x3 x4 => k x4) FUEL 0 (List.replicate 64 0) (by omega) (by rw [FUEL_eq]; omega) (by simp) (AllU32.rep 64)
  refine g1.trans ?_
  have ok := planFold_ok h8 (List.range' 0 (16 - 0)) (List.replicate 64 0) (by simp) (AllU32.rep 64)
  have g2 := G173_7_eq R h8 (List.replicate 64 0) (fun _ x4 => k x4) FUEL 16 _ (by omega) (by omega) (by rw [FUEL_eq]; omega) ok.1 ok.2
  refine g2.trans ?_
  rw [← List.foldl_append]
  rfl
end Go.PG
namespace Go.PG
def KS : List Int := [1116352408, 1899447441, 3049323471, 3921009573, 961987163, 1508970993, 2453635748, 2870763221, 3624381080, 310598401, 607225278, 1426881987, 1925078388, 2162078206, 2614888103, 3248222580, 3835390401, 4022224774, 264347078, 604807628, 770255983, 1249150122, 1555081692, 1996064986, 2554220882, 2821834349, 2952996808, 3210313671, 3336571891, 3584528711, 113926993, 338241895, 666307205, 773529912, 1294757372, 1396182291, 1695183700, 1986661051, 2177026350, 2456956037, 2730485921, 2820302411, 3259730800, 3345764771, 3516065817, 3600352804, 4094571909, 275423344, 430227734, 506948616, 659060556, 883997877, 958139571, 1322822218, 1537002063, 1747873779, 1955562222, 2024104815, 2227730452, 2361852424, 2428436474, 2756734187, 3204031479, 3329325298]
theorem F176_eq (R : Type) (k : List Int → Option R) : F176 R k = k KS := by kernel_rfl
theorem F175_form (R : Type) (a : Int) (k : Int → Option R) : F175 R a k = (match decide (a < 0) with | true => k 0 | false => match decide (a > 63) with | true => k 0 | false => match bnd a 64 with | true => k (List.getD KS a.toNat 0) | false => none) := by kernel_rfl
theorem F175_eq (R : Type) {i : Nat} (h : i < 64) (k : Int → Option R) : F175 R (i : Int) k = k (KS.getD i 0) := by
  rw [F175_form]
  have h1 : decide ((i : Int) < 0) = false := by simp
  have h2 : decide ((i : Int) > 63) = false := by simp; omega
  have h3 : bnd (i : Int) 64 = true := by unfold bnd; simp; omega
  simp only [h1, h2, h3, Int.toNat_natCast]
def roundsStep (plan s : List Int) (i : Nat) : List Int := roundS s (plan.getD i 0) (KS.getD i 0)
theorem roundS_ok {s : List Int} (h : AllU32 s) (w c : Int) : (roundS s w c).length = 8 ∧ AllU32 (roundS s w c) := by
  refine ⟨rfl, fun x hx => ?_⟩
  have g := fun i => getD_all h u32_0 i
  simp only [roundS, List.mem_cons, List.not_mem_nil, or_false] at hx
  rcases hx with rfl | rfl | rfl | rfl | rfl | rfl | rfl | rfl
  · exact wrap_lt32 _
  · exact g 0
  · exact g 1
  · exact g 2
  · exact wrap_lt32 _
  · exact g 4
  · exact g 5
  · exact g 6
theorem F178_eq' (R : Type) {s : List Int} (hl : s.length = 8) (h : AllU32 s) (w c : Int) (k : List Int → Option R) : F178 R s w c k = k (roundS s w c) := by
  obtain ⟨a0, a1, a2, a3, a4, a5, a6, a7, rfl⟩ := list8 hl
  exact F178_eq R (h a0 (by simp)) (h a4 (by simp)) w c k
theorem G171_3_eq (R : Type) (plan : List Int) (x3 x4 : List Int) (k0 : List Int → List Int → List Int → Option R) : ∀ (m i : Nat) (s : List Int), i ≤ 64 → 64 - i < m → s.length = 8 → AllU32 s →
    G171_3 m R plan (i : Int) x3 x4 s KS k0 = k0 x3 x4 ((List.range' i (64 - i)).foldl (roundsStep plan) s)
  | 0, i, s, _, h, _, _ => by omega
  | m + 1, i, s, h1, h2, hl, hu => by
    simp only [G171_3, p171_3]
    by_cases hi : i < 64
    · have ok := roundS_ok hu (plan.getD i 0) (KS.getD i 0)
      have ih := G171_3_eq R plan x3 x4 k0 m (i + 1) (roundsStep plan s i) (by omega) (by omega) ok.1 ok.2
      rw [range'_step hi, List.foldl_cons, ← ih, wrap_i64 (n := (i : Int) + 1) (by omega) (by omega)]
      have hd : decide ((i : Int) < 64) = true := by simp; omega
      have hbn : bnd (i : Int) 64 = true := by unfold bnd; simp; omega
      simp only [hd, hbn, Int.toNat_natCast]
      rw [F178_eq' R hl hu]
      rfl
    · have : i = 64 := by omega
      subst this
      rfl
theorem G167_4_eq (R : Type) (plan : List Int) (x2 x3 : List Int) (k0 : List Int → List Int → List Int → Option R) : ∀ (m i : Nat) (s : List Int), i ≤ 64 → 64 - i < m → s.length = 8 → AllU32 s →
    G167_4 m R (i : Int) x2 x3 plan s k0 = k0 x2 x3 ((List.range' i (64 - i)).foldl (roundsStep plan) s)
  | 0, i, s, _, h, _, _ => by omega
  | m + 1, i, s, h1, h2, hl, hu => by
    simp only [G167_4, p167_4]
    by_cases hi : i < 64
    · have ok := roundS_ok hu (plan.getD i 0) (KS.getD i 0)
      have ih := G167_4_eq R plan x2 x3 k0 m (i + 1) (roundsStep plan s i) (by omega) (by omega) ok.1 ok.2
      rw [range'_step hi, List.foldl_cons, ← ih, wrap_i64 (n := (i : Int) + 1) (by omega) (by omega)]
      have hd : decide ((i : Int) < 64) = true := by simp; omega
      have hbn : bnd (i : Int) 64 = true := by unfold bnd; simp; omega
      simp only [hd, hbn, Int.toNat_natCast]
      rw [F175_eq R hi, F174_eq R (getD_all hu u32_0 _) (getD_all hu u32_0 _)]
      rfl
    · have : i = 64 := by omega
      subst this
      rfl
def addStep (a l : List Int) (i : Nat) : List Int := l.set i (IntKind.u32.wrap (l.getD i 0 + a.getD i 0))
theorem addStep_ok {a l : List Int} (hl : l.length = 8) (h : AllU32 l) (i : Nat) : (addStep a l i).length = 8 ∧ AllU32 (addStep a l i) := ⟨by simpa [addStep] using hl, h.set (wrap_lt32 _)⟩
theorem G171_8_eq (R : Type) (a x3 : List Int) (k0 : List Int → List Int → Option R) : ∀ (m i : Nat) (l : List Int), i ≤ 8 → 8 - i < m → G171_8 m R (i : Int) a x3 l k0 = k0 x3 ((List.range' i (8 - i)).foldl (addStep a) l)
  | 0, i, l, _, h => by omega
  | m + 1, i, l, h1, h2 => by
    simp only [G171_8, p171_8]
    by_cases hi : i < 8
    · have ih := G171_8_eq R a x3 k0 m (i + 1) (addStep a l i) (by omega) (by omega)
      rw [range'_step hi, List.foldl_cons, ← ih, wrap_i64 (n := (i : Int) + 1) (by omega) (by omega)]
      have hd : decide ((i : Int) < 8) = true := by simp; omega
      have hbn : bnd (i : Int) 8 = true := by unfold bnd; simp; omega
      simp only [hd, hbn, Int.toNat_natCast]
      rfl
    · have : i = 8 := by omega
      subst this
      rfl
theorem G167_8_eq (R : Type) (a x3 : List Int) (k0 : List Int → List Int → Option R) : ∀ (m i : Nat) (l : List Int), i ≤ 8 → 8 - i < m → G167_8 m R (i : Int) a x3 l k0 = k0 x3 ((List.range' i (8 - i)).foldl (addStep a) l)
  | 0, i, l, _, h => by omega
  | m + 1, i, l, h1, h2 => by
    simp only [G167_8, p167_8]
    by_cases hi : i < 8
    · have ih := G167_8_eq R a x3 k0 m (i + 1) (addStep a l i) (by omega) (by omega)
      rw [range'_step hi, List.foldl_cons, ← ih, wrap_i64 (n := (i : Int) + 1) (by omega) (by omega)]
      have hd : decide ((i : Int) < 8) = true := by simp; omega
      have hbn : bnd (i : Int) 8 = true := by unfold bnd; simp; omega
      simp only [hd, hbn, Int.toNat_natCast]
      rfl
    · have : i = 8 := by omega
      subst this
      rfl
def takeS (st blk : List Int) : List Int := (List.range' 0 8).foldl (addStep st) ((List.range' 0 64).foldl (roundsStep (planS blk)) st)
theorem F171_eq (R : Type) {st blk : List Int} (hl : st.length = 8) (hu : AllU32 st) (hb : blk.length = 64) (h8 : AllU8 blk) (k : List Int → Option R) : F171 R st blk k = k (takeS st blk) := by
  simp only [F171, p171]
  rw [F176_eq, F177_eq R hb h8]
  refine (G171_3_eq R (planS blk) st (List.replicate 8 0) (fun x3 x4 x5 => G171_8 FUEL R 0 x3 x4 x5 fun x6 x7 => k x7) FUEL 0 st (by omega) (by rw [FUEL_eq]; omega) hl hu).trans ?_
  exact G171_8_eq R st (List.replicate 8 0) (fun _ x7 => k x7) FUEL 0 _ (by omega) (by rw [FUEL_eq]; omega)
theorem F167_eq (R : Type) {st blk : List Int} (hl : st.length = 8) (hu : AllU32 st) (hb : blk.length = 64) (h8 : AllU8 blk) (k : List Int → Option R) : F167 R st blk k = k (takeS st blk) := by
  simp only [F167, p167]
  rw [F173_eq R hb h8]
  refine (G167_4_eq R (planS blk) st (List.replicate 8 0) (fun x3 x4 x5 => G167_8 FUEL R 0 x3 x4 x5 fun x6 x7 => k x7) FUEL 0 st (by omega) (by rw [FUEL_eq]; omega) hl hu).trans ?_
  exact G167_8_eq R st (List.replicate 8 0) (fun _ x7 => k x7) FUEL 0 _ (by omega) (by rw [FUEL_eq]; omega)
theorem roundsFold_ok (plan : List Int) : ∀ (is : List Nat) (s : List Int), s.length = 8 → AllU32 s → (is.foldl (roundsStep plan) s).length = 8 ∧ AllU32 (is.foldl (roundsStep plan) s)
  | [], s, h1, h2 => ⟨h1, h2⟩
  | i :: is, s, h1, h2 => by
    have ok := roundS_ok h2 (plan.getD i 0) (KS.getD i 0)
    exact roundsFold_ok plan is _ ok.1 ok.2
theorem addFold_ok (a : List Int) : ∀ (is : List Nat) (s : List Int), s.length = 8 → AllU32 s → (is.foldl (addStep a) s).length = 8 ∧ AllU32 (is.foldl (addStep a) s)
  | [], s, h1, h2 => ⟨h1, h2⟩
  | i :: is, s, h1, h2 => by
    have ok := addStep_ok (a := a) h1 h2 i
    exact addFold_ok a is _ ok.1 ok.2
theorem takeS_ok {st : List Int} (blk : List Int) (hl : st.length = 8) (hu : AllU32 st) : (takeS st blk).length = 8 ∧ AllU32 (takeS st blk) := by
  have h := roundsFold_ok (planS blk) (List.range' 0 64) st hl hu
  exact addFold_ok st _ _ h.1 h.2
end Go.PG
namespace Go.PG
def blkF : Nat → List Int → List (List Int)
  | 0, _ => []
  | n + 1, b => if 64 ≤ b.length then b.take 64 :: blkF n (b.drop 64) else []
def tailF : Nat → List Int → List Int
  | 0, b => b
  | n + 1, b => if 64 ≤ b.length then tailF n (b.drop 64) else b
def blkS (b : List Int) : List (List Int) := blkF (b.length / 64 + 1) b
def tailS (b : List Int) : List Int := tailF (b.length / 64 + 1) b
theorem blkF_big : ∀ (n m : Nat) (b : List Int), b.length / 64 < n → b.length / 64 < m → blkF n b = blkF m b
  | 0, _, _, h, _ => by omega
  | _, 0, _, _, h => by omega
  | n + 1, m + 1, b, h1, h2 => by
    simp only [blkF]
    by_cases h : 64 ≤ b.length
    · rw [if_pos h, if_pos h, blkF_big n m (b.drop 64) (by rw [List.length_drop]; omega) (by rw [List.length_drop]; omega)]
    · rw [if_neg h, if_neg h]
theorem tailF_big : ∀ (n m : Nat) (b : List Int), b.length / 64 < n → b.length / 64 < m → tailF n b = tailF m b
  | 0, _, _, h, _ => by omega
  | _, 0, _, _, h => by omega
  | n + 1, m + 1, b, h1, h2 => by
    simp only [tailF]
    by_cases h : 64 ≤ b.length
    · rw [if_pos h, if_pos h, tailF_big n m (b.drop 64) (by rw [List.length_drop]; omega) (by rw [List.length_drop]; omega)]
    · rw [if_neg h, if_neg h]
theorem blkS_step {b : List Int} (h : 64 ≤ b.length) : blkS b = b.take 64 :: blkS (b.drop 64) := by
  unfold blkS
  rw [show blkF (b.length / 64 + 1) b = b.take 64 :: blkF (b.length / 64) (b.drop 64) by simp only [blkF, if_pos h]]
  rw [blkF_big (b.length / 64) ((b.drop 64).length / 64 + 1) (b.drop 64) (by rw [List.length_drop]; omega) (by omega)]
theorem blkS_end {b : List Int} (h : b.length < 64) : blkS b = [] := by
  unfold blkS; simp only [blkF, if_neg (show ¬ 64 ≤ b.length by omega)]
theorem tailS_step {b : List Int} (h : 64 ≤ b.length) : tailS b = tailS (b.drop 64) := by
  unfold tailS
  rw [show tailF (b.length / 64 + 1) b = tailF (b.length / 64) (b.drop 64) by simp only [tailF, if_pos h]]
  rw [tailF_big (b.length / 64) ((b.drop 64).length / 64 + 1) (b.drop 64) (by rw [List.length_drop]; omega) (by omega)]
theorem tailS_end {b : List Int} (h : b.length < 64) : tailS b = b := by
  unfold tailS; simp only [tailF, if_neg (show ¬ 64 ≤ b.length by omega)]
theorem tailS_len : ∀ (n : Nat) (b : List Int), b.length ≤ n → (tailS b).length = b.length % 64 ∧ (blkS b).length = b.length / 64
  | 0, b, h => by
    rw [tailS_end (by omega), blkS_end (by omega)]
    simp; omega
  | n + 1, b, h => by
    by_cases h6 : 64 ≤ b.length
    · have ih := tailS_len n (b.drop 64) (by rw [List.length_drop]; omega)
      rw [tailS_step h6, blkS_step h6, ih.1, List.length_cons, ih.2, List.length_drop]
      omega
    · rw [tailS_end (by omega), blkS_end (by omega)]
      simp; omega
theorem blk_append : ∀ (n : Nat) (a b : List Int), a.length ≤ n → blkS (a ++ b) = blkS a ++ blkS (tailS a ++ b) ∧ tailS (a ++ b) = tailS (tailS a ++ b)
  | 0, a, b, h => by
    rw [blkS_end (show a.length < 64 by omega), tailS_end (show a.length < 64 by omega)]
    exact ⟨rfl, rfl⟩
  | n + 1, a, b, h => by
    by_cases h6 : 64 ≤ a.length
    · have ih := blk_append n (a.drop 64) b (by rw [List.length_drop]; omega)
      have hl : 64 ≤ (a ++ b).length := by rw [List.length_append]; omega
      rw [blkS_step hl, blkS_step h6, tailS_step hl, tailS_step h6, List.take_append_of_le_length h6, List.drop_append_of_le_length h6, ih.1, ih.2]
      exact ⟨rfl, rfl⟩
    · rw [blkS_end (show a.length < 64 by omega), tailS_end (show a.length < 64 by omega)]
      exact ⟨rfl, rfl⟩
theorem G170_eq (R : Type) (k0 : List Int → List (List Int) → Option R) : ∀ (m : Nat) (b : List Int) (acc : List (List Int)), b.length / 64 < m → acc.length + b.length / 64 ≤ 1000000000 → b.length ≤ 100000000000 →
    G170_1 m R b acc k0 = k0 (tailS b) (acc ++ blkS b)
  | 0, b, acc, h, _, _ => by omega
  | m + 1, b, acc, h1, h2, h3 => by
    simp only [G170_1, p170_1]
    by_cases h6 : 64 ≤ b.length
    · have ih := G170_eq R k0 m (b.drop 64) (acc ++ [b.take 64]) (by rw [List.length_drop]; omega) (by rw [List.length_drop, List.length_append]; simp; omega) (by rw [List.length_drop]; omega)
      have c1 : decide ((b.length : Int) ≥ 64) = true := by simp; omega
      have c2 : decide ((64 : Int) ≤ (b.length : Int)) = true := by simp; omega
      have c3 : decide (acc.length + [b.take 64].length ≤ 2199023255552) = true := by simp; omega
      have c4 : decide (0 ≤ (64 : Int) ∧ (64 : Int) ≤ (b.length : Int) ∧ (b.length : Int) ≤ (b.length : Int) ∧ (b.length : Int) ≤ (b.length : Int)) = true := by simp; omega
      have e1 : List.take (Int.toNat ((b.length : Int) - 64)) (List.drop 64 b) = List.drop 64 b := List.take_of_length_le (by rw [List.length_drop]; omega)
      simp only [c1, c2, c3, c4, e1]
      rw [ih, blkS_step h6, tailS_step h6, List.append_assoc]
      rfl
    · have c1 : decide ((b.length : Int) ≥ 64) = false := by simp; omega
      simp only [c1]
      rw [blkS_end (by omega), tailS_end (by omega), List.append_nil]
theorem F170_eq (R : Type) {b : List Int} (h : b.length ≤ 1000000000) (k : List (List Int) → List Int → Option R) : F170 R b k = k (blkS b) (tailS b) := by
  simp only [F170, p170]
  refine (G170_eq R (fun x1 x2 => k x2 x1) FUEL b [] (by rw [FUEL_eq]; omega) (by simp; omega) (by omega)).trans ?_
  rw [List.nil_append]
end Go.PG
namespace Go.PG
abbrev Wr := List Int × List Int × Int × Unit
def foldB (st : List Int) (bs : List (List Int)) : List Int := bs.foldl takeS st
theorem blkS_ok : ∀ (n : Nat) (b : List Int), b.length ≤ n → AllU8 b → (∀ x ∈ blkS b, x.length = 64 ∧ AllU8 x) ∧ AllU8 (tailS b)
  | 0, b, h, h8 => by
    rw [blkS_end (by omega), tailS_end (by omega)]
    exact ⟨fun x hx => (by cases hx), h8⟩
  | n + 1, b, h, h8 => by
    by_cases h6 : 64 ≤ b.length
    · have ih := blkS_ok n (b.drop 64) (by rw [List.length_drop]; omega) (fun x hx => h8 x (List.mem_of_mem_drop hx))
      rw [blkS_step h6, tailS_step h6]
      refine ⟨fun x hx => ?_, ih.2⟩
      rcases List.mem_cons.1 hx with rfl | hx
      · exact ⟨by rw [List.length_take]; omega, fun y hy => h8 y (List.mem_of_mem_take hy)⟩
      · exact ih.1 x hx
    · rw [blkS_end (by omega), tailS_end (by omega)]
      exact ⟨fun x hx => (by cases hx), h8⟩
theorem foldB_ok : ∀ (bs : List (List Int)) {st : List Int}, st.length = 8 → AllU32 st → (foldB st bs).length = 8 ∧ AllU32 (foldB st bs)
  | [], st, h1, h2 => ⟨h1, h2⟩
  | b :: bs, st, h1, h2 => by
    have ok := takeS_ok b h1 h2
    exact foldB_ok bs ok.1 ok.2
theorem G163_eq (R : Type) (rest : List Int) (bs : List (List Int)) (hb : ∀ x ∈ bs, x.length = 64 ∧ AllU8 x) (hn : bs.length ≤ 1000000000) (u : List Int × Int × Unit) (k0 : List Int → (Wr × Unit) → Option R) :
    ∀ (m i : Nat) (st : List Int), i ≤ bs.length → bs.length - i < m → st.length = 8 → AllU32 st → G163_3 m R rest bs (bs.length : Int) (i : Int) ((st, u), ()) k0 = k0 rest ((foldB st (bs.drop i), u), ())
  | 0, i, st, _, h, _, _ => by omega
  | m + 1, i, st, h1, h2, hl, hu => by
    simp only [G163_3, p163_3]
    by_cases hi : i < bs.length
    · have hd : decide ((i : Int) < (bs.length : Int)) = true := by simpa using hi
      have hbn : bnd (i : Int) (bs.length : Int) = true := by unfold bnd; simp; omega
      have hx := hb bs[i] (List.getElem_mem hi)
      have hg : List.getD bs i (List.replicate 64 0) = bs[i] := by simp [hi]
      simp only [hd, hbn, Int.toNat_natCast, hg]
      rw [F171_eq R hl hu hx.1 hx.2, wrap_i64 (by omega) (by omega)]
      have ok := takeS_ok bs[i] hl hu
      have ih := G163_eq R rest bs hb hn u k0 m (i + 1) (takeS st bs[i]) (by omega) (by omega) ok.1 ok.2
      rw [List.drop_eq_getElem_cons hi]
      exact ih
    · have : i = bs.length := by omega
      subst this
      have hd : decide ((bs.length : Int) < (bs.length : Int)) = false := by simp
      simp only [hd]
      rw [List.drop_of_length_le (Nat.le_refl _)]
      rfl
theorem F163_eq (R : Type) {st : List Int} (u : List Int × Int × Unit) {b : List Int} (hl : st.length = 8) (hu : AllU32 st) (h8 : AllU8 b) (hn : b.length ≤ 1000000000) (k : List Int → (Wr × Unit) → Option R) :
    F163 R ((st, u), ()) b k = k (tailS b) ((foldB st (blkS b), u), ()) := by
  simp only [F163, p163]
  rw [F170_eq R hn]
  have ok := blkS_ok b.length b (Nat.le_refl _) h8
  have hlen := (tailS_len b.length b (Nat.le_refl _)).2
  exact G163_eq R (tailS b) (blkS b) ok.1 (by omega) u (fun x4 x5 => k x4 x5) FUEL 0 st (by omega) (by rw [FUEL_eq]; omega) hl hu
theorem F160_eq (R : Type) {st rest part : List Int} {n : Nat} (hl : st.length = 8) (hu : AllU32 st) (hr : AllU8 rest) (hp : AllU8 part) (hlen : rest.length + part.length ≤ 1000000000) (hn : n + part.length ≤ 1000000000) (k : (Wr × Unit) → Option R) :
    F160 R ((st, rest, (n : Int), ()), ()) part k = k ((foldB st (blkS (rest ++ part)), tailS (rest ++ part), ((n + part.length : Nat) : Int), ()), ()) := by
  simp only [F160, p160, F168]
  rw [wrap_u64 (n := (part.length : Int)) (by omega) (by omega), wrap_u64 (by omega) (by omega)]
  have c1 : decide (([] : List Int).length + rest.length ≤ 140737488355328) = true := by simp; omega
  have c2 : decide (rest.length + part.length ≤ 140737488355328) = true := by simp; omega
  simp only [c1, c2]
  have h8 : AllU8 (rest ++ part) := fun x hx => by
    rcases List.mem_append.1 hx with h | h
    · exact hr x h
    · exact hp x h
  rw [F163_eq R _ hl hu h8 (by rw [List.length_append]; omega)]
  congr 1
def wrS (st m : List Int) : Wr := (foldB st (blkS m), tailS m, (m.length : Int), ())
theorem AllU8.append {a b : List Int} (ha : AllU8 a) (hb : AllU8 b) : AllU8 (a ++ b) := fun x hx => by
  rcases List.mem_append.1 hx with h | h
  · exact ha x h
  · exact hb x h
theorem wrS_append (st m p : List Int) : foldB (foldB st (blkS m)) (blkS (tailS m ++ p)) = foldB st (blkS (m ++ p)) ∧ tailS (tailS m ++ p) = tailS (m ++ p) := by
  obtain ⟨h1, h2⟩ := blk_append m.length m p (Nat.le_refl _)
  rw [h1, h2]
  refine ⟨?_, rfl⟩
  unfold foldB
  rw [List.foldl_append]
theorem G151_eq (R : Type) {st : List Int} (hl : st.length = 8) (hu : AllU32 st) (x4 : Wr) (k0 : Int → Wr → Option R) (k1 : Wr → (Wr × Unit) → Option R) : ∀ (n : Nat) (ps done : List (List Int)) (m : List Int), m = done.flatten → AllU8 m → (∀ p ∈ ps, AllU8 p) →
    m.length + ps.flatten.length ≤ 500000000 → (done ++ ps).length ≤ 1000000000 → ps.length < n → G151_5 n R (done ++ ps) ((done ++ ps).length : Int) (done.length : Int) x4 (wrS st m, ()) k0 k1 = k1 x4 (wrS st (m ++ ps.flatten), ())
  | 0, ps, done, m, _, _, _, _, _, h => by omega
  | n + 1, [], done, m, hm, h8, hps, hlen, hnum, h => by
    simp only [G151_5, p151_5]
    have hd : decide ((done.length : Int) < ((done ++ []).length : Int)) = false := by simp
    simp only [hd]
    simp
  | n + 1, p :: ps, done, m, hm, h8, hps, hlen, hnum, h => by
    simp only [G151_5, p151_5]
    have hlt : done.length < (done ++ p :: ps).length := by simp
    have hd : decide ((done.length : Int) < ((done ++ p :: ps).length : Int)) = true := by simp; omega
    have hbn : bnd (done.length : Int) ((done ++ p :: ps).length : Int) = true := by unfold bnd; simp; omega
    have hg : List.getD (done ++ p :: ps) done.length [] = p := by simp
    have hp8 := hps p (by simp)
    have hfl : (p :: ps).flatten = p ++ ps.flatten := by simp
    rw [hfl, List.length_append] at hlen
    have ok := foldB_ok (blkS m) hl hu
    have ok2 := blkS_ok m.length m (Nat.le_refl _) h8
    have tl := (tailS_len m.length m (Nat.le_refl _)).1
    simp only [hd, hbn, Int.toNat_natCast, hg]
    unfold wrS
    rw [F160_eq R ok.1 ok.2 ok2.2 hp8 (by omega) (by omega)]
    obtain ⟨a1, a2⟩ := wrS_append st m p
    rw [a1, a2, ← List.length_append]
    have hb : decide (((m ++ p).length : Int) ≥ 2305843009213693952) = false := by simp; omega
    simp only [hb]
    rw [wrap_i64 (by omega) (by simp at hnum; omega)]
    have ih := G151_eq R hl hu x4 k0 k1 n ps (done ++ [p]) (m ++ p) (by rw [hm]; simp) (h8.append hp8) (fun q hq => hps q (by simp [hq])) (by rw [List.length_append]; omega) (by simpa using hnum) (by simp at h; omega)
    unfold wrS at ih
    rw [hfl, ← List.append_assoc]
    have e1 : done ++ [p] ++ ps = done ++ p :: ps := by simp
    have e2 : (((done ++ [p]).length : Nat) : Int) = (done.length : Int) + 1 := by simp
    rw [e1, e2] at ih
    exact ih
theorem F151_eq (R : Type) {st : List Int} (hl : st.length = 8) (hu : AllU32 st) {ps : List (List Int)} (h8 : ∀ p ∈ ps, AllU8 p) (hlen : ps.flatten.length ≤ 500000000) (hnum : ps.length ≤ 1000000000) (k : Wr → Int → Option R) :
    F151 R (st, [], (0 : Int), ()) ps k = k (wrS st ps.flatten) 0 := by
  have hr : F159 R (st, [], (0 : Int), ()) = fun k => k true := by
    funext k
    simp only [F159, p159]
    rfl
  simp only [F151, p151]
  rw [hr]
  have := G151_eq R hl hu (List.replicate 8 0, [], 0, ()) (fun x3 x4 => k x4 x3) (fun _ x6 => k x6.1 0) FUEL ps [] [] rfl (fun x hx => by cases hx) h8 (by simpa using hlen) (by simpa using hnum) (by rw [FUEL_eq]; omega)
  rw [List.nil_append] at this
  refine Eq.trans ?_ this
  unfold wrS
  rw [blkS_end (by simp), tailS_end (by simp)]
  rfl
end Go.PG
namespace Go.PG
def putS (x : Int) : List Int := [x / 72057594037927936 % 256, x / 281474976710656 % 256, x / 1099511627776 % 256, x / 4294967296 % 256, x / 16777216 % 256, x / 65536 % 256, x / 256 % 256, x % 256]
theorem shr64 {x : Int} (r : Nat) (hr : r ≤ 64) : ishr .u64 x (r : Int) = x / 2 ^ r := by
  unfold ishr
  rw [show IntKind.u64.bits = 64 from rfl, show ((r : Int).toNat) = r by simp, Nat.min_eq_left hr, Int.fdiv_eq_ediv_of_nonneg _ (by have := two_pow_pos r; omega)]
theorem G147_eq (R : Type) (x : Int) (k0 : List Int → Option R) : ∀ (m i : Nat) (l : List Int), i ≤ 8 → 8 - i < m → G147_2 m R x (i : Int) l k0 = k0 ((List.range' i (8 - i)).foldl (fun l i => l.set i (x / 2 ^ (8 * (7 - i)) % 256)) l)
  | 0, i, l, _, h => by omega
  | m + 1, i, l, h1, h2 => by
    simp only [G147_2, p147_2]
    by_cases hi : i < 8
    · have ih := G147_eq R x k0 m (i + 1) (l.set i (x / 2 ^ (8 * (7 - i)) % 256)) (by omega) (by omega)
      rw [range'_step hi, List.foldl_cons, ← ih]
      have hd : decide ((i : Int) < 8) = true := by simp; omega
      have hbn : bnd (i : Int) 8 = true := by unfold bnd; simp; omega
      rw [wrap_i64 (n := 7 - (i : Int)) (by omega) (by omega), wrap_i64 (n := 8 * (7 - (i : Int))) (by omega) (by omega), wrap_u64 (n := 8 * (7 - (i : Int))) (by omega) (by omega), wrap_i64 (n := (i : Int) + 1) (by omega) (by omega)]
      have e1 : 8 * (7 - (i : Int)) = ((8 * (7 - i) : Nat) : Int) := by omega
      have hp : decide ((0 : Int) ≤ ((8 * (7 - i) : Nat) : Int)) = true := decide_eq_true (by omega)
      rw [e1, shr64 _ (by omega), wrap_u8_mod]
      simp only [hd, hbn, hp, Int.toNat_natCast]
      rfl
    · have : i = 8 := by omega
      subst this
      rfl
theorem F147_eq (R : Type) (x : Int) (k : List Int → Option R) : F147 R x k = k (putS x) := by
  simp only [F147, p147]
  refine (G147_eq R x (fun x1 => k x1) FUEL 0 (List.replicate 8 0) (by omega) (by rw [FUEL_eq]; omega)).trans ?_
  congr 1
  simp [List.range'_succ, putS, List.replicate]
theorem G149_eq (R : Type) {x : Int} (hx : 0 ≤ x ∧ x < 18446744073709551616) (x3 : List Int) (k0 : List Int → List Int → Option R) : ∀ (i m : Nat) (l : List Int), i ≤ 8 → i < m → G149_3 m R (x / 2 ^ (8 * (8 - i))) ((i : Int) - 1) x3 l k0 = k0 x3 ((List.range i).reverse.foldl (fun l j => l.set j (x / 2 ^ (8 * (7 - j)) % 256)) l)
  | i, 0, l, _, h => by omega
  | 0, m + 1, l, h1, h2 => by
    simp only [G149_3, p149_3]
    have hd : decide (((0 : Nat) : Int) - 1 ≥ 0) = false := by simp
    simp only [hd]
    rfl
  | i + 1, m + 1, l, h1, h2 => by
    simp only [G149_3, p149_3]
    have ih := G149_eq R hx x3 k0 i m (l.set i (x / 2 ^ (8 * (7 - i)) % 256)) (by omega) (by omega)
    rw [List.range_succ, List.reverse_append, List.reverse_singleton, List.singleton_append, List.foldl_cons, ← ih]
    have e0 : (((i + 1 : Nat) : Int) - 1) = (i : Int) := by omega
    rw [e0]
    have hd : decide ((i : Int) ≥ 0) = true := by simp
    have hbn : bnd (i : Int) 8 = true := by unfold bnd; simp; omega
    have e1 : 8 - (i + 1) = 7 - i := by omega
    rw [e1]
    have hp := two_pow_pos (8 * (7 - i))
    have hge : 0 ≤ x / 2 ^ (8 * (7 - i)) := Int.ediv_nonneg hx.1 (by omega)
    have hle : x / 2 ^ (8 * (7 - i)) ≤ x := Int.ediv_le_self _ hx.1
    have hstep : x / 2 ^ (8 * (8 - i)) = x / 2 ^ (8 * (7 - i)) / 256 := by
      rw [show 8 * (8 - i) = 8 * (7 - i) + 8 by omega, Int.pow_add, ← Int.ediv_ediv_of_nonneg (by omega)]
      rfl
    rw [hstep]
    generalize x / 2 ^ (8 * (7 - i)) = q at *
    rw [Int.tmod_eq_emod_of_nonneg hge, Int.tdiv_eq_ediv_of_nonneg hge, wrap_u8 (by omega) (by omega), wrap_u64 (by omega) (by omega), wrap_i64 (by omega) (by omega)]
    simp only [hd, hbn, Int.toNat_natCast]
theorem F149_eq (R : Type) {x : Int} (hx : 0 ≤ x ∧ x < 18446744073709551616) (k : List Int → Option R) : F149 R x k = k (putS x) := by
  simp only [F149, p149]
  have := G149_eq R hx (List.replicate 8 0) (fun _ x2 => k x2) 8 FUEL (List.replicate 8 0) (by omega) (by rw [FUEL_eq]; omega)
  rw [show x / 2 ^ (8 * (8 - 8)) = x by simp] at this
  refine Eq.trans this ?_
  congr 1
  simp [List.range_succ, putS, List.replicate]
end Go.PG
namespace Go.PG
def zerosN (n : Nat) : Nat := (119 - n % 64) % 64
def padT (rest : List Int) (n : Nat) : List Int := rest ++ 128 :: (List.replicate (zerosN n) 0 ++ putS (8 * (n : Int)))
theorem G165_4_eq (R : Type) (x : Int) (k0 : Int → List Int → Option R) : ∀ (z m : Nat) (l : List Int), z < 64 → (l.length + z) % 64 = 56 → (∀ y, y < z → (l.length + y) % 64 ≠ 56) → z < m → l.length + z ≤ 100000 → G165_4 m R x l k0 = k0 x (l ++ List.replicate z 0)
  | z, 0, l, _, _, _, h, _ => by omega
  | 0, m + 1, l, h1, h2, _, h3, h4 => by
    simp only [G165_4, p165_4]
    have hm : Int.tmod (l.length : Int) 64 = 56 := by rw [Int.tmod_eq_emod_of_nonneg (by omega)]; omega
    rw [hm]
    have : ((56 : Int) != 56) = false := by simp
    simp only [this]
    simp
  | z + 1, m + 1, l, h1, h2, h5, h3, h4 => by
    simp only [G165_4, p165_4]
    have hne : (Int.tmod (l.length : Int) 64 != 56) = true := by
      rw [Int.tmod_eq_emod_of_nonneg (by omega)]
      have := h5 0 (by omega)
      simp; omega
    have hc : decide (l.length + [(0 : Int)].length ≤ 140737488355328) = true := by simp; omega
    have ih := G165_4_eq R x k0 z m (l ++ [0]) (by omega) (by rw [List.length_append]; simp; omega) (fun y hy => by rw [List.length_append]; have := h5 (y + 1) (by omega); simp; omega) (by omega) (by rw [List.length_append]; simp; omega)
    simp only [hne, hc]
    rw [ih, List.append_assoc]
    rfl
theorem G165_8_eq (R : Type) (ds : List Int) (k0 : List Int → Option R) : ∀ (m i : Nat) (l : List Int), i ≤ 8 → 8 - i < m → ds.length = 8 → l.length ≤ 100000 + i → G165_8 m R (i : Int) l ds k0 = k0 (l ++ ds.drop i)
  | 0, i, l, _, h, _, _ => by omega
  | m + 1, i, l, h1, h2, hd8, hl => by
    simp only [G165_8, p165_8]
    by_cases hi : i < 8
    · have hd : decide ((i : Int) < 8) = true := by simp; omega
      have hbn : bnd (i : Int) 8 = true := by unfold bnd; simp; omega
      have hg : List.getD ds i 0 = ds[i] := by simp [show i < ds.length by omega]
      have hc : decide (l.length + [ds[i]].length ≤ 140737488355328) = true := by simp; omega
      have ih := G165_8_eq R ds k0 m (i + 1) (l ++ [ds[i]]) (by omega) (by omega) hd8 (by rw [List.length_append]; simp; omega)
      simp only [hd, hbn, Int.toNat_natCast, hg, hc]
      rw [wrap_i64 (by omega) (by omega), List.drop_eq_getElem_cons (show i < ds.length by omega)]
      rw [List.append_assoc] at ih
      exact ih
    · have : i = 8 := by omega
      subst this
      have hd : decide (((8 : Nat) : Int) < 8) = false := by simp
      simp only [hd]
      rw [List.drop_of_length_le (by omega), List.append_nil]
theorem F165_eq (R : Type) {rest : List Int} {n : Nat} (hr : rest.length = n % 64) (hn : n ≤ 1000000000) (k : List Int → Bool → Option R) : F165 R rest (n : Int) k = k (padT rest n) true := by
  simp only [F165, p165]
  have c0 : decide ((n : Int) ≥ 2305843009213693952) = false := by simp; omega
  have c1 : (IntKind.u64.wrap (rest.length : Int) != Int.tmod (n : Int) 64) = false := by
    rw [wrap_u64 (by omega) (by omega), Int.tmod_eq_emod_of_nonneg (by omega)]
    simp; omega
  have c2 : decide (([] : List Int).length + rest.length ≤ 140737488355328) = true := by simp; omega
  have c3 : decide (([] ++ rest).length + [(128 : Int)].length ≤ 140737488355328) = true := by simp; omega
  simp only [c0, c1, c2, c3]
  have g := G165_4_eq R (n : Int) (fun x10 x11 => F149 R (IntKind.u64.wrap (8 * x10)) fun y13 => G165_8 FUEL R 0 x11 y13 fun x14 => k x14 true) (zerosN n) FUEL ([] ++ rest ++ [128]) (by unfold zerosN; omega) (by simp; unfold zerosN; omega) (fun y hy => by simp; unfold zerosN at hy; omega) (by rw [FUEL_eq]; unfold zerosN; omega) (by simp; unfold zerosN; omega)
  refine g.trans ?_
  rw [wrap_u64 (by omega) (by omega), F149_eq R (by omega)]
  refine (G165_8_eq R (putS (8 * (n : Int))) (fun x14 => k x14 true) FUEL 0 _ (by omega) (by rw [FUEL_eq]; omega) rfl (by simp; unfold zerosN; omega)).trans ?_
  congr 1
  simp [padT]
theorem F169_eq (R : Type) {n : Nat} (hn : n ≤ 1000000000) (k : Int → Option R) : F169 R (n : Int) k = k (((n + 72) / 64 : Nat) : Int) := by
  simp only [F169, p169]
  have c0 : decide ((n : Int) ≥ 2305843009213693952) = false := by simp; omega
  simp only [c0]
  rw [wrap_u64 (n := (n : Int) + 8) (by omega) (by omega), wrap_u64 (n := (n : Int) + 8 + 64) (by omega) (by omega), Int.tdiv_eq_ediv_of_nonneg (by omega), wrap_u64 (by omega) (by omega)]
  congr 1
theorem lay_mid {a b c xs : List Int} (h : xs.length = b.length) : lay (a ++ b ++ c) a.length xs = a ++ xs ++ c := by
  unfold lay
  have e1 : List.take a.length (a ++ b ++ c) = a := by rw [List.append_assoc, List.take_left]
  have e2 : List.drop (a.length + xs.length) (a ++ b ++ c) = c := by
    rw [h, show a.length + b.length = (a ++ b).length by simp, List.drop_left]
  rw [e1, e2]
theorem F162_eq (R : Type) {rest : List Int} {n : Nat} (hr : rest.length = n % 64) (hn : n ≤ 1000000000) (k : List Int → Bool → Option R) : F162 R rest (n : Int) k = k (padT rest n) true := by
  simp only [F162, p162]
  have c0 : decide ((n : Int) ≥ 2305843009213693952) = false := by simp; omega
  have c1 : (IntKind.u64.wrap (rest.length : Int) != Int.tmod (n : Int) 64) = false := by
    rw [wrap_u64 (by omega) (by omega), Int.tmod_eq_emod_of_nonneg (by omega)]
    simp; omega
  simp only [c0, c1]
  rw [F169_eq R hn, Int.tdiv_eq_ediv_of_nonneg (by omega), wrap_u64 (n := (n : Int) / 64) (by omega) (by omega), wrap_u64 (by omega) (by omega), wrap_i64 (n := (((n + 72) / 64 : Nat) : Int) - (n : Int) / 64) (by omega) (by omega), wrap_i64 (n := _ * 64) (by omega) (by omega)]
  obtain ⟨sz, hsz⟩ : ∃ sz : Nat, ((((n + 72) / 64 : Nat) : Int) - (n : Int) / 64) * 64 = sz := ⟨((n + 72) / 64 - n / 64) * 64, by omega⟩
  have hz : sz = rest.length + 1 + zerosN n + 8 := by unfold zerosN; omega
  rw [hsz]
  have l1 : lay (List.replicate sz (0 : Int)) 0 (List.take (List.replicate sz (0 : Int)).length rest) = rest ++ List.replicate (1 + zerosN n + 8) 0 := by
    unfold lay
    rw [List.take_of_length_le (l := rest) (by simp; omega)]
    simp
    omega
  have l2 : List.set (rest ++ List.replicate (1 + zerosN n + 8) 0) rest.length 128 = (rest ++ 128 :: List.replicate (zerosN n) 0) ++ List.replicate 8 0 ++ [] := by
    rw [List.set_append_right _ _ (Nat.le_refl _), Nat.sub_self, show 1 + zerosN n + 8 = (zerosN n + 8) + 1 by omega, List.replicate_succ, List.set_cons_zero, ← List.replicate_append_replicate]
    simp
  have sh : ishl .u64 (n : Int) 3 = 8 * (n : Int) := by
    unfold ishl
    rw [show (2 : Int) ^ (min (3 : Int).toNat IntKind.u64.bits) = 8 by decide, wrap_u64 (by omega) (by omega)]
    omega
  have hl3 : ((rest ++ 128 :: List.replicate (zerosN n) 0) ++ List.replicate 8 (0 : Int) ++ []).length = sz := by simp; omega
  have d1 : decide (0 ≤ (sz : Int) ∧ (sz : Int) ≤ (sz : Int) ∧ (sz : Int) ≤ 140737488355328) = true := decide_eq_true (by omega)
  have d2 : bnd (rest.length : Int) ((rest ++ List.replicate (1 + zerosN n + 8) (0 : Int)).length : Int) = true := by unfold bnd; simp; omega
  have d3 : decide (0 ≤ (sz : Int) - 8 ∧ (sz : Int) - 8 ≤ (sz : Int) ∧ (sz : Int) ≤ (sz : Int) ∧ (sz : Int) ≤ (sz : Int)) = true := decide_eq_true (by omega)
  have e8 : ((sz : Int) - 8).toNat = (rest ++ 128 :: List.replicate (zerosN n) 0).length := by simp; omega
  have e9 : List.take ((sz : Int) - ((sz : Int) - 8)).toNat (List.take 8 (List.drop 0 (putS (8 * (n : Int))))) = putS (8 * (n : Int)) := by
    rw [show ((sz : Int) - ((sz : Int) - 8)).toNat = 8 by omega]; rfl
  simp only [d1, Int.toNat_natCast, l1, d2, l2, sh]
  rw [F147_eq, wrap_i64 (by omega) (by omega)]
  simp only [hl3, d3, e9, e8]
  rw [lay_mid (by rfl)]
  congr 1
  simp [padT]
end Go.PG
namespace Go.PG
def put32S (a : Int) : List Int := [a / 16777216 % 256, a / 65536 % 256, a / 256 % 256, a % 256]
theorem F172_eq (R : Type) {a : Int} (ha : U32 a) (k : List Int → Option R) : F172 R a k = k (put32S a) := by
  have e24 : ishr .u32 a 24 = a / 16777216 := shr_eq ha (r := 24) (by omega)
  have e16 : ishr .u32 a 16 = a / 65536 := shr_eq ha (r := 16) (by omega)
  have e8 : ishr .u32 a 8 = a / 256 := shr_eq ha (r := 8) (by omega)
  simp only [F172, p172, e24, e16, e8, wrap_u8_mod]
  rfl
theorem F166_eq (R : Type) {a : Int} (ha : U32 a) (k : List Int → Option R) : F166 R a k = k (put32S a) := by
  have h := ha
  unfold U32 at h
  simp only [F166, p166]
  rw [Int.tdiv_eq_ediv_of_nonneg h.1, Int.tdiv_eq_ediv_of_nonneg h.1, Int.tdiv_eq_ediv_of_nonneg h.1, wrap_u32 (n := a / 16777216) (by omega) (by omega), wrap_u32 (n := a / 65536) (by omega) (by omega), wrap_u32 (n := a / 256) (by omega) (by omega)]
  rw [Int.tmod_eq_emod_of_nonneg (a := a / 65536) (by omega), Int.tmod_eq_emod_of_nonneg (a := a / 256) (by omega), Int.tmod_eq_emod_of_nonneg h.1]
  simp only [wrap_u8_mod, Int.emod_emod]
  rfl
theorem G157_eq (R : Type) (bs : List (List Int)) (hb : ∀ x ∈ bs, x.length = 64 ∧ AllU8 x) (hn : bs.length ≤ 1000000000) (x4 : List Int) (k0 : List Int → List Int → Option R) :
    ∀ (m i : Nat) (st : List Int), i ≤ bs.length → bs.length - i < m → st.length = 8 → AllU32 st → G157_2 m R bs (i : Int) st x4 k0 = k0 (foldB st (bs.drop i)) x4
  | 0, i, st, _, h, _, _ => by omega
  | m + 1, i, st, h1, h2, hl, hu => by
    simp only [G157_2, p157_2]
    by_cases hi : i < bs.length
    · have hd : decide ((i : Int) < (bs.length : Int)) = true := by simpa using hi
      have hbn : bnd (i : Int) (bs.length : Int) = true := by unfold bnd; simp; omega
      have hx := hb bs[i] (List.getElem_mem hi)
      have hg : List.getD bs i (List.replicate 64 0) = bs[i] := by simp [hi]
      simp only [hd, hbn, Int.toNat_natCast, hg]
      rw [F167_eq R hl hu hx.1 hx.2, wrap_i64 (by omega) (by omega)]
      have ok := takeS_ok bs[i] hl hu
      have ih := G157_eq R bs hb hn x4 k0 m (i + 1) (takeS st bs[i]) (by omega) (by omega) ok.1 ok.2
      rw [List.drop_eq_getElem_cons hi]
      exact ih
    · have : i = bs.length := by omega
      subst this
      have hd : decide ((bs.length : Int) < (bs.length : Int)) = false := by simp
      simp only [hd]
      rw [List.drop_of_length_le (Nat.le_refl _)]
      rfl
theorem F157_eq (R : Type) {st : List Int} {bs : List (List Int)} (hl : st.length = 8) (hu : AllU32 st) (hb : ∀ x ∈ bs, x.length = 64 ∧ AllU8 x) (hn : bs.length ≤ 1000000000) (k : List Int → Option R) : F157 R st bs k = k (foldB st bs) := by
  simp only [F157, p157]
  exact G157_eq R bs hb hn (List.replicate 8 0) (fun x1 _ => k x1) FUEL 0 st (by omega) (by rw [FUEL_eq]; omega) hl hu
def H0 : List Int := [1779033703, 3144134277, 1013904242, 2773480762, 1359893119, 2600822924, 528734635, 1541459225]
theorem F158_eq (R : Type) (k : List Int → Option R) : F158 R k = k H0 := by kernel_rfl
theorem F152_eq (R : Type) (k : Wr → Option R) : F152 R k = k (H0, [], 0, ()) := by kernel_rfl
theorem H0_ok : H0.length = 8 ∧ AllU32 H0 := ⟨rfl, fun x hx => by
  simp only [H0, List.mem_cons, List.not_mem_nil, or_false] at hx
  unfold U32
  omega⟩
def layStep (st l : List Int) (i : Nat) : List Int := lay l (4 * i) (put32S (st.getD i 0))
theorem lay_len {l xs : List Int} {lo : Nat} (h : lo + xs.length ≤ l.length) : (lay l lo xs).length = l.length := by
  unfold lay; simp; omega
theorem G164_eq (R : Type) {st : List Int} (hu : AllU32 st) (w : Wr × Unit) (k0 : (Wr × Unit) → List Int → Option R) : ∀ (m i : Nat) (l : List Int), i ≤ 8 → 8 - i < m → G164_2 m R st (i : Int) w l k0 = k0 w ((List.range' i (8 - i)).foldl (layStep st) l)
  | 0, i, l, _, h => by omega
  | m + 1, i, l, h1, h2 => by
    simp only [G164_2, p164_2]
    by_cases hi : i < 8
    · have ih := G164_eq R hu w k0 m (i + 1) (layStep st l i) (by omega) (by omega)
      rw [range'_step hi, List.foldl_cons, ← ih]
      have hd : decide ((i : Int) < 8) = true := by simp; omega
      have hbn : bnd (i : Int) 8 = true := by unfold bnd; simp; omega
      rw [wrap_i64 (n := 4 * (i : Int)) (by omega) (by omega), wrap_i64 (n := (i : Int) + 1) (by omega) (by omega)]
      have c : decide (0 ≤ 4 * (i : Int) ∧ 4 * (i : Int) ≤ 32 ∧ (32 : Int) ≤ 32) = true := decide_eq_true (by omega)
      have e1 : (4 * (i : Int)).toNat = 4 * i := by omega
      have e2 : ∀ a, List.take (Int.toNat (32 - 4 * (i : Int))) (List.take 4 (List.drop 0 (put32S a))) = put32S a := fun a => by
        rw [List.take_of_length_le (l := List.take 4 (List.drop 0 (put32S a))) (by simp [put32S]; omega)]
        rfl
      simp only [hd, hbn, c, Int.toNat_natCast]
      rw [F172_eq R (getD_all hu u32_0 _)]
      simp only [c, e1, e2]
      rfl
    · have : i = 8 := by omega
      subst this
      rfl
end Go.PG
namespace Go.PG
theorem G154_6_eq (R : Type) {b : List Int} {o : Nat} (ho : o + 64 ≤ b.length) (hb : b.length ≤ 1000000000) (acc : List (List Int)) (k0 : List Int → Int → List (List Int) → List Int → Option R) : ∀ (m i : Nat), i ≤ 64 → 64 - i < m →
    G154_6 m R b (o : Int) (i : Int) acc ((b.drop o).take i ++ List.replicate (64 - i) 0) k0 = k0 b (o : Int) acc ((b.drop o).take 64)
  | 0, i, _, h => by omega
  | m + 1, i, h1, h2 => by
    simp only [G154_6, p154_6]
    by_cases hi : i < 64
    · have ih := G154_6_eq R ho hb acc k0 m (i + 1) (by omega) (by omega)
      have hd : decide ((i : Int) < 64) = true := by simp; omega
      have hbn : bnd (i : Int) 64 = true := by unfold bnd; simp; omega
      have hb2 : bnd ((o : Int) + (i : Int)) (b.length : Int) = true := by unfold bnd; simp; omega
      have e1 : ((o : Int) + (i : Int)).toNat = o + i := by omega
      have hl : ((b.drop o).take i).length = i := by rw [List.length_take, List.length_drop]; omega
      have hs : List.set ((b.drop o).take i ++ List.replicate (64 - i) 0) i (List.getD b (o + i) 0) = (b.drop o).take (i + 1) ++ List.replicate (64 - (i + 1)) 0 := by
        rw [List.set_append_right _ _ (by omega), hl, Nat.sub_self, show 64 - i = (64 - (i + 1)) + 1 by omega, List.replicate_succ, List.set_cons_zero]
        rw [List.take_succ_eq_append_getElem (by rw [List.length_drop]; omega), List.append_assoc]
        simp [show o + i < b.length by omega]
      rw [wrap_i64 (n := (o : Int) + (i : Int)) (by omega) (by omega), wrap_i64 (n := (i : Int) + 1) (by omega) (by omega)]
      simp only [hd, hbn, hb2, e1, Int.toNat_natCast, hs]
      exact ih
    · have : i = 64 := by omega
      subst this
      have hd : decide (((64 : Nat) : Int) < 64) = false := by simp
      simp only [hd]
      simp
theorem G154_3_eq (R : Type) {b : List Int} (hb : b.length ≤ 1000000000) (k0 : List Int → Int → List (List Int) → Option R) : ∀ (m o : Nat) (acc : List (List Int)), o ≤ b.length → (b.length - o) / 64 < m → acc.length + (b.length - o) / 64 ≤ 1000000000 →
    ∃ o' : Nat, o' ≤ b.length ∧ b.drop o' = tailS (b.drop o) ∧ G154_3 m R b (o : Int) acc k0 = k0 b (o' : Int) (acc ++ blkS (b.drop o))
  | 0, o, acc, _, h, _ => by omega
  | m + 1, o, acc, h0, h1, h2 => by
    simp only [G154_3, p154_3]
    rw [wrap_i64 (n := (o : Int) + 64) (by omega) (by omega)]
    by_cases hi : o + 64 ≤ b.length
    · have hd : decide ((o : Int) + 64 ≤ (b.length : Int)) = true := by simp; omega
      obtain ⟨o', g1, g2, g3⟩ := G154_3_eq R hb k0 m (o + 64) (acc ++ [(b.drop o).take 64]) (by omega) (by omega) (by rw [List.length_append]; simp; omega)
      have hl : 64 ≤ (b.drop o).length := by rw [List.length_drop]; omega
      refine ⟨o', g1, ?_, ?_⟩
      · rw [g2, tailS_step hl, List.drop_drop]
      · have g := G154_6_eq R hi hb acc (fun x7 x8 x9 x10 => match decide (x9.length + [x10].length ≤ 2199023255552) with | true => G154_3 m R x7 (IntKind.i64.wrap (x8 + 64)) (x9 ++ [x10]) k0 | false => none) FUEL 0 (by omega) (by rw [FUEL_eq]; omega)
        have hc : decide (acc.length + [(b.drop o).take 64].length ≤ 2199023255552) = true := by simp; omega
        simp only [hd]
        refine Eq.trans ?_ (g.trans ?_)
        · rfl
        · simp only [hc]
          rw [wrap_i64 (by omega) (by omega), blkS_step hl, List.drop_drop]
          rw [List.append_assoc] at g3
          exact g3
    · have hd : decide ((o : Int) + 64 ≤ (b.length : Int)) = false := by simp; omega
      simp only [hd]
      have hl : (b.drop o).length < 64 := by rw [List.length_drop]; omega
      exact ⟨o, h0, by rw [tailS_end hl], by rw [blkS_end hl, List.append_nil]⟩
theorem F154_eq (R : Type) {b : List Int} (hb : b.length ≤ 1000000000) (k : List (List Int) → List Int → Option R) : F154 R b k = k (blkS b) (tailS b) := by
  simp only [F154, p154]
  obtain ⟨o', g1, g2, g3⟩ := G154_3_eq R hb (fun x1 x2 x3 => match decide (0 ≤ x2 ∧ x2 ≤ (x1.length : Int) ∧ (x1.length : Int) ≤ (x1.length : Int) ∧ (x1.length : Int) ≤ (x1.length : Int)) with | true => k x3 (List.take (Int.toNat ((x1.length : Int) - x2)) (List.drop (Int.toNat x2) x1)) | false => none) FUEL 0 [] (by omega) (by rw [FUEL_eq]; omega) (by simp; omega)
  refine g3.trans ?_
  have c : decide (0 ≤ (o' : Int) ∧ (o' : Int) ≤ (b.length : Int) ∧ (b.length : Int) ≤ (b.length : Int) ∧ (b.length : Int) ≤ (b.length : Int)) = true := decide_eq_true (by omega)
  simp only [c, Int.toNat_natCast]
  rw [List.take_of_length_le (by rw [List.length_drop]; omega), g2]
  rfl
def padM (m : List Int) : List Int := m ++ 128 :: (List.replicate (zerosN m.length) 0 ++ putS (8 * (m.length : Int)))
theorem F155_eq (R : Type) {m : List Int} (hm : m.length ≤ 500000000) (k : List Int → Option R) : F155 R m k = k (padM m) := by
  simp only [F155, p155]
  rw [Int.tmod_eq_emod_of_nonneg (by omega), wrap_i64 (by omega) (by omega), wrap_u64 (n := (m.length : Int)) (by omega) (by omega)]
  obtain ⟨q, hq⟩ : ∃ q : Nat, (m.length : Int) - (m.length : Int) % 64 = q := ⟨m.length - m.length % 64, by omega⟩
  have hq' : q = m.length - m.length % 64 := by omega
  rw [hq]
  have c1 : decide (0 ≤ (q : Int) ∧ (q : Int) ≤ (m.length : Int) ∧ (m.length : Int) ≤ (m.length : Int) ∧ (m.length : Int) ≤ (m.length : Int)) = true := decide_eq_true (by omega)
  have c2 : decide (0 ≤ (0 : Int) ∧ (0 : Int) ≤ (q : Int) ∧ (q : Int) ≤ (q : Int) ∧ (q : Int) ≤ (m.length : Int)) = true := decide_eq_true (by omega)
  have e1 : List.take (Int.toNat ((m.length : Int) - (q : Int))) (List.drop q m) = List.drop q m := List.take_of_length_le (by rw [List.length_drop]; omega)
  have e2 : List.take (Int.toNat ((q : Int) - 0)) (List.drop 0 m) = List.take q m := by simp
  simp only [c1, Int.toNat_natCast, e1]
  rw [F165_eq R (by rw [List.length_drop]; omega) (by omega)]
  have c3 : decide (([] : List Int).length + (List.take q m).length ≤ 140737488355328) = true := decide_eq_true (by simp; omega)
  have c4 : decide (([] ++ List.take q m).length + (padT (List.drop q m) m.length).length ≤ 140737488355328) = true := decide_eq_true (by simp [padT, putS]; unfold zerosN; omega)
  simp only [c2, e2, c3, c4]
  congr 1
  simp only [padT, padM, List.nil_append]
  rw [← List.append_assoc, List.take_append_drop]
end Go.PG
namespace Go.PG
def hashS (st : List Int) : List Int := (List.range' 0 8).foldl (layStep st) (List.replicate 32 0)
theorem F164_eq (R : Type) {st : List Int} (u : List Int × Int × Unit) (hu : AllU32 st) (k : List Int → (Wr × Unit) → Option R) : F164 R ((st, u), ()) k = k (hashS st) ((st, u), ()) := by
  simp only [F164, p164]
  exact G164_eq R hu ((st, u), ()) (fun x1 x2 => k x2 x1) FUEL 0 (List.replicate 32 0) (by omega) (by rw [FUEL_eq]; omega)
def SHA (m : List Int) : List Int := hashS (foldB H0 (blkS (padM m)))
theorem putS_u8 (x : Int) : AllU8 (putS x) := fun y hy => by
  simp only [putS, List.mem_cons, List.not_mem_nil, or_false] at hy
  unfold U8
  omega
theorem padT_u8 {rest : List Int} (h : AllU8 rest) (n : Nat) : AllU8 (padT rest n) := fun y hy => by
  unfold padT at hy
  rcases List.mem_append.1 hy with h1 | h1
  · exact h y h1
  · rcases List.mem_cons.1 h1 with rfl | h1
    · unfold U8; omega
    · rcases List.mem_append.1 h1 with h1 | h1
      · rw [List.eq_of_mem_replicate h1]; exact u8_0
      · exact putS_u8 _ y h1
theorem padM_blk (m : List Int) : blkS (padM m) = blkS m ++ blkS (padT (tailS m) m.length) := (blk_append m.length m _ (Nat.le_refl _)).1
theorem F153_eq (R : Type) {m : List Int} (h8 : AllU8 m) (hm : m.length ≤ 500000000) (k : List Int → Int → Option R) : F153 R (wrS H0 m) k = k (SHA m) 0 := by
  have tl := (tailS_len m.length m (Nat.le_refl _)).1
  have ok := blkS_ok m.length m (Nat.le_refl _) h8
  have hf := foldB_ok (blkS m) H0_ok.1 H0_ok.2
  have hp := padT_u8 ok.2 m.length
  simp only [F153, p153, wrS]
  rw [F162_eq R tl (by omega)]
  simp only [Bool.not_true]
  rw [F163_eq R (tailS m, (m.length : Int), ()) hf.1 hf.2 hp (by simp [padT, putS]; unfold zerosN; omega)]
  have hf2 := foldB_ok (blkS (padT (tailS m) m.length)) hf.1 hf.2
  rw [F164_eq R _ hf2.2]
  unfold SHA
  rw [padM_blk]
  unfold foldB
  rw [List.foldl_append]
theorem F148_eq (R : Type) {ps : List (List Int)} (h8 : ∀ p ∈ ps, AllU8 p) (hlen : ps.flatten.length ≤ 500000000) (hnum : ps.length ≤ 1000000000) (k : List Int → Option R) : F148 R ps k = k (SHA ps.flatten) := by
  simp only [F148, p148]
  rw [F152_eq, F151_eq R H0_ok.1 H0_ok.2 h8 hlen hnum]
  refine F153_eq R (fun x hx => ?_) hlen _
  obtain ⟨p, h1, h2⟩ := List.mem_flatten.1 hx
  exact h8 p h1 x h2
end Go.PG
namespace Go.PG
theorem G156_7_eq (R : Type) (x1 : Nat) (h : x1 < 8) (x3 x4 ys : List Int) (hy : ys.length = 4) (k0 : Int → List Int → List Int → List Int → Option R) : ∀ (m j : Nat) (l : List Int), j ≤ 4 → 4 - j < m → G156_7 m R (x1 : Int) (j : Int) x3 x4 l ys k0 = k0 (x1 : Int) x3 x4 ((List.range' j (4 - j)).foldl (fun l j => l.set (4 * x1 + j) (ys.getD j 0)) l)
  | 0, j, l, _, h => by omega
  | m + 1, j, l, h1, h2 => by
    simp only [G156_7, p156_7]
    by_cases hi : j < 4
    · have ih := G156_7_eq R x1 h x3 x4 ys hy k0 m (j + 1) (l.set (4 * x1 + j) (ys.getD j 0)) (by omega) (by omega)
      rw [range'_step hi, List.foldl_cons, ← ih]
      have hd : decide ((j : Int) < 4) = true := by simp; omega
      have hbn : bnd (j : Int) 4 = true := by unfold bnd; simp; omega
      rw [wrap_i64 (n := 4 * (x1 : Int)) (by omega) (by omega), wrap_i64 (n := 4 * (x1 : Int) + (j : Int)) (by omega) (by omega), wrap_i64 (n := (j : Int) + 1) (by omega) (by omega)]
      have hb2 : bnd (4 * (x1 : Int) + (j : Int)) 32 = true := by unfold bnd; simp; omega
      have e1 : (4 * (x1 : Int) + (j : Int)).toNat = 4 * x1 + j := by omega
      simp only [hd, hbn, hb2, e1, Int.toNat_natCast]
      rfl
    · have : j = 4 := by omega
      subst this
      rfl
end Go.PG
namespace Go.PG
theorem set4_lay (l : List Int) (p : Nat) (h : p + 4 ≤ l.length) (a b c d : Int) :
    (List.range' 0 4).foldl (fun l j => l.set (p + j) (List.getD [a, b, c, d] j 0)) l = lay l p [a, b, c, d] := by
  have e : (List.range' 0 4).foldl (fun l j => l.set (p + j) (List.getD [a, b, c, d] j 0)) l = (((l.set p a).set (p + 1) b).set (p + 2) c).set (p + 3) d := rfl
  rw [e]
  apply List.ext_getElem?
  intro i
  unfold lay
  simp only [List.getElem?_set, List.getElem?_append, List.length_take, List.length_set, List.getElem?_drop, List.length_append, List.length_cons, List.length_nil, List.getElem?_take]
  have hm : min p l.length = p := by omega
  have hx : [a, b, c, d].length = 4 := rfl
  by_cases h1 : i < p
  · have n1 : ¬ p + 3 = i := by omega
    have n2 : ¬ p + 2 = i := by omega
    have n3 : ¬ p + 1 = i := by omega
    have n4 : ¬ p = i := by omega
    simp only [n1, n2, n3, n4, if_false, hm]
    rw [if_pos (by omega), if_pos (by omega), if_pos h1]
  · by_cases h2 : i < p + 4
    · obtain ⟨q, rfl⟩ : ∃ q, i = p + q := ⟨i - p, by omega⟩
      have hq : q = 0 ∨ q = 1 ∨ q = 2 ∨ q = 3 := by omega
      rcases hq with rfl | rfl | rfl | rfl
      · simp [hm, show ¬ p + 3 = p from by omega, show p < l.length from by omega]
      · simp [hm, show p + 1 < l.length from by omega, show ¬ p + 1 < p from by omega]
      · simp [hm, show p + 2 < l.length from by omega, show ¬ p + 2 < p from by omega]
      · simp [hm, show p + 3 < l.length from by omega, show ¬ p + 3 < p from by omega]
    · have n1 : ¬ p + 3 = i := by omega
      have n2 : ¬ p + 2 = i := by omega
      have n3 : ¬ p + 1 = i := by omega
      have n4 : ¬ p = i := by omega
      simp only [n1, n2, n3, n4, if_false, hm]
      rw [if_neg (by omega)]
      congr 1
      omega
theorem G156_3_eq (R : Type) {st : List Int} (hu : AllU32 st) (x3 : List Int) (k0 : List Int → List Int → Option R) : ∀ (m i : Nat) (l : List Int), i ≤ 8 → 8 - i < m → l.length = 32 → G156_3 m R (i : Int) st x3 l k0 = k0 x3 ((List.range' i (8 - i)).foldl (layStep st) l)
  | 0, i, l, _, h, _ => by omega
  | m + 1, i, l, h1, h2, hl => by
    simp only [G156_3, p156_3]
    by_cases hi : i < 8
    · have hs : lay l (4 * i) (put32S (st.getD i 0)) = layStep st l i := rfl
      have ih := G156_3_eq R hu x3 k0 m (i + 1) (layStep st l i) (by omega) (by omega) (by rw [← hs, lay_len (by simp [put32S]; omega)]; exact hl)
      rw [range'_step hi, List.foldl_cons, ← ih]
      have hd : decide ((i : Int) < 8) = true := by simp; omega
      have hbn : bnd (i : Int) 8 = true := by unfold bnd; simp; omega
      simp only [hd, hbn, Int.toNat_natCast]
      rw [F166_eq R (getD_all hu u32_0 _)]
      refine (G156_7_eq R i hi st x3 _ rfl _ FUEL 0 l (by omega) (by rw [FUEL_eq]; omega)).trans ?_
      have e4 := set4_lay l (4 * i) (by omega) (st.getD i 0 / 16777216 % 256) (st.getD i 0 / 65536 % 256) (st.getD i 0 / 256 % 256) (st.getD i 0 % 256)
      rw [wrap_i64 (n := (i : Int) + 1) (by omega) (by omega)]
      show G156_3 m R ((i : Int) + 1) st x3 _ k0 = G156_3 m R ((i + 1 : Nat) : Int) st x3 _ k0
      rw [← hs]
      show G156_3 m R ((i : Int) + 1) st x3 _ k0 = G156_3 m R ((i : Int) + 1) st x3 _ k0
      congr 1
    · have : i = 8 := by omega
      subst this
      rfl
theorem F156_eq (R : Type) {st : List Int} (hu : AllU32 st) (k : List Int → Option R) : F156 R st k = k (hashS st) := by
  simp only [F156, p156]
  exact G156_3_eq R hu _ (fun x1 x2 => k x2) FUEL 0 (List.replicate 32 0) (by omega) (by rw [FUEL_eq]; omega) rfl
theorem padM_u8 {m : List Int} (h : AllU8 m) : AllU8 (padM m) := fun x hx => by
  unfold padM at hx
  rcases List.mem_append.1 hx with h1 | h1
  · exact h x h1
  · exact padT_u8 (rest := []) (fun y hy => absurd hy (by simp)) m.length x h1
theorem padM_len (m : List Int) : (padM m).length ≤ m.length + 72 := by
  simp [padM, putS, zerosN]; omega
theorem blkF_len : ∀ (n : Nat) (b : List Int), (blkF n b).length ≤ n
  | 0, b => by simp [blkF]
  | n + 1, b => by
    simp only [blkF]
    split
    · simp only [List.length_cons]
      have := blkF_len n (b.drop 64)
      omega
    · simp
theorem F150_eq (R : Type) {m : List Int} (h8 : AllU8 m) (hm : m.length ≤ 500000000) (k : List Int → Option R) : F150 R m k = k (SHA m) := by
  simp only [F150, p150]
  have hp := padM_len m
  rw [F155_eq R hm, F154_eq R (by omega), F158_eq]
  have ok := blkS_ok (padM m).length (padM m) (Nat.le_refl _) (padM_u8 h8)
  rw [F157_eq R H0_ok.1 H0_ok.2 ok.1 (by have := blkF_len ((padM m).length / 64 + 1) (padM m); unfold blkS; omega), F156_eq R (foldB_ok (blkS (padM m)) H0_ok.1 H0_ok.2).2]
  rfl
end Go.PG
namespace Go.PG
theorem eqvL_self {α : Type} {f : α → α → Bool} (h : ∀ x, f x x = true) : ∀ l : List α, eqvL f l l = true
  | [] => rfl
  | x :: xs => by simp only [eqvL, h x, eqvL_self h xs, Bool.and_self]
theorem eqv32 (l : List Int) : Kd.eqv (.arr 32 (.int .u8)) l l = true := eqvL_self (fun x => by simp [Kd.eqv]) l
theorem wrap_bv8 (b : BitVec 8) : IntKind.u8.wrap ((b.toNat : Nat) : Int) = (b.toNat : Int) := by
  have := b.isLt
  exact wrap_u8 (by omega) (by omega)
def zero32 : List Int := List.replicate 32 0
def H32 (l : List Int) : Prop := l.length = 32 ∧ AllU8 l
theorem zero32_ok : H32 zero32 := ⟨by simp [zero32], fun x hx => by rw [List.eq_of_mem_replicate hx]; exact u8_0⟩
end Go.PG
namespace Go.PG
theorem putS_len (x : Int) : (putS x).length = 8 := rfl
theorem take32 {l : List Int} (h : H32 l) : List.take 32 (List.drop 0 l) = l := by
  rw [List.drop_zero, List.take_of_length_le (by rw [h.1]; omega)]
theorem take8 (x : Int) : List.take 8 (List.drop 0 (putS x)) = putS x := rfl
theorem drop_step {l : List Int} {i : Nat} (h : i < l.length) : l.drop i = l.getD i 0 :: l.drop (i + 1) := by
  rw [List.drop_eq_getElem_cons h]
  simp [h]
theorem AllU8.app {a b : List Int} (ha : AllU8 a) (hb : AllU8 b) : AllU8 (a ++ b) := fun x hx => (List.mem_append.1 hx).elim (ha x) (hb x)
theorem fit_h32 {x : List Int} (h : Fit (.arr 32 (.int .u8)) x) : H32 x := ⟨h.1, fun y hy => by have := fit_u8 (h.2 y hy); unfold U8; omega⟩
end Go.PG
namespace Go.PG
end Go.PG
namespace Go.PG
theorem layStep_ok {st l : List Int} (hl : H32 l) {i : Nat} (hi : i < 8) : H32 (layStep st l i) := by
  refine ⟨by unfold layStep; rw [lay_len (by simp [put32S, hl.1]; omega)]; exact hl.1, ?_⟩
  unfold layStep lay
  refine AllU8.app (AllU8.app (fun x hx => hl.2 x (List.mem_of_mem_take hx)) ?_) (fun x hx => hl.2 x (List.mem_of_mem_drop hx))
  intro y hy
  simp only [put32S, List.mem_cons, List.not_mem_nil, or_false] at hy
  unfold U8
  omega
theorem layFold_ok (st : List Int) : ∀ (is : List Nat) {l : List Int}, (∀ i ∈ is, i < 8) → H32 l → H32 (is.foldl (layStep st) l)
  | [], _, _, hl => hl
  | i :: is, _, h, hl => layFold_ok st is (fun j hj => h j (List.mem_cons_of_mem _ hj)) (layStep_ok hl (h i List.mem_cons_self))
theorem SHA_ok (m : List Int) : H32 (SHA m) := by
  unfold SHA hashS
  refine layFold_ok _ _ (fun i hi => ?_) zero32_ok
  rw [List.mem_range'] at hi
  obtain ⟨j, hj, rfl⟩ := hi
  omega
def blockS (a : List Int) (d i : Int) : List Int := SHA (a ++ (putS d ++ putS i))
theorem blockS_ok (a : List Int) (d i : Int) : H32 (blockS a d i) := SHA_ok _
theorem F143_eq (R : Type) {a : List Int} (ha : H32 a) (d i : Int) (k : List Int → Option R) : F143 R a d i k = k (blockS a d i) := by
  simp only [F143, p143]
  rw [F147_eq, F147_eq]
  simp only [take32 ha, take8]
  rw [F148_eq R (fun p hp => by
    simp only [List.mem_cons, List.not_mem_nil, or_false] at hp
    rcases hp with rfl | rfl | rfl
    · exact ha.2
    · exact putS_u8 d
    · exact putS_u8 i) (by simp [ha.1, putS_len]) (by simp)]
  simp [blockS]
theorem G144_3_eq (R : Type) {a : List Int} (ha : a.length = 32) (x1 x2 : Int) (x5 : List Int) (k0 : Int → Int → List Int → List Int → Option R) : ∀ (m i : Nat) (o : List Int), i ≤ 32 → 32 - i < m → o.length ≤ 1000000 + i → G144_3 m R x1 x2 (i : Int) a x5 o k0 = k0 x1 x2 x5 (o ++ a.drop i)
  | 0, i, _, _, h, _ => by omega
  | m + 1, i, o, h1, h2, h3 => by
    simp only [G144_3, p144_3]
    by_cases hi : i < 32
    · have ih := G144_3_eq R ha x1 x2 x5 k0 m (i + 1) (o ++ [a.getD i 0]) (by omega) (by omega) (by simp; omega)
      have hd : decide ((i : Int) < 32) = true := by simp; omega
      have hbn : bnd (i : Int) 32 = true := by unfold bnd; simp; omega
      have hc : ∀ y : Int, decide (List.length o + List.length [y] ≤ 140737488355328) = true := fun y => by simp; omega
      simp only [hd, hbn, Int.toNat_natCast, hc]
      rw [wrap_i64 (n := (i : Int) + 1) (by omega) (by omega), drop_step (by omega)]
      simp only [List.append_assoc, List.cons_append, List.nil_append] at ih
      exact ih
    · have : i = 32 := by omega
      subst this
      rw [List.drop_of_length_le (by omega), List.append_nil]
      rfl
theorem G144_8_eq (R : Type) {a : List Int} (ha : a.length = 8) (x2 x5 : List Int) (k0 : List Int → List Int → List Int → Option R) : ∀ (m i : Nat) (o : List Int), i ≤ 8 → 8 - i < m → o.length ≤ 1000000 + i → G144_8 m R (i : Int) x2 o a x5 k0 = k0 x2 (o ++ a.drop i) x5
  | 0, i, _, _, h, _ => by omega
  | m + 1, i, o, h1, h2, h3 => by
    simp only [G144_8, p144_8]
    by_cases hi : i < 8
    · have ih := G144_8_eq R ha x2 x5 k0 m (i + 1) (o ++ [a.getD i 0]) (by omega) (by omega) (by simp; omega)
      have hd : decide ((i : Int) < 8) = true := by simp; omega
      have hbn : bnd (i : Int) 8 = true := by unfold bnd; simp; omega
      have hc : ∀ y : Int, decide (List.length o + List.length [y] ≤ 140737488355328) = true := fun y => by simp; omega
      simp only [hd, hbn, Int.toNat_natCast, hc]
      rw [wrap_i64 (n := (i : Int) + 1) (by omega) (by omega), drop_step (by omega)]
      simp only [List.append_assoc, List.cons_append, List.nil_append] at ih
      exact ih
    · have : i = 8 := by omega
      subst this
      rw [List.drop_of_length_le (by omega), List.append_nil]
      rfl
theorem G144_12_eq (R : Type) {a : List Int} (ha : a.length = 8) (x2 : List Int) (k0 : List Int → List Int → Option R) : ∀ (m i : Nat) (o : List Int), i ≤ 8 → 8 - i < m → o.length ≤ 1000000 + i → G144_12 m R (i : Int) x2 o a k0 = k0 x2 (o ++ a.drop i)
  | 0, i, _, _, h, _ => by omega
  | m + 1, i, o, h1, h2, h3 => by
    simp only [G144_12, p144_12]
    by_cases hi : i < 8
    · have ih := G144_12_eq R ha x2 k0 m (i + 1) (o ++ [a.getD i 0]) (by omega) (by omega) (by simp; omega)
      have hd : decide ((i : Int) < 8) = true := by simp; omega
      have hbn : bnd (i : Int) 8 = true := by unfold bnd; simp; omega
      have hc : ∀ y : Int, decide (List.length o + List.length [y] ≤ 140737488355328) = true := fun y => by simp; omega
      simp only [hd, hbn, Int.toNat_natCast, hc]
      rw [wrap_i64 (n := (i : Int) + 1) (by omega) (by omega), drop_step (by omega)]
      simp only [List.append_assoc, List.cons_append, List.nil_append] at ih
      exact ih
    · have : i = 8 := by omega
      subst this
      rw [List.drop_of_length_le (by omega), List.append_nil]
      rfl
def U64 (x : Int) : Prop := 0 ≤ x ∧ x < 18446744073709551616
theorem F144_eq (R : Type) {a : List Int} (ha : H32 a) {d i : Int} (hd : U64 d) (hi : U64 i) (k : List Int → Option R) : F144 R a d i k = k (blockS a d i) := by
  simp only [F144, p144]
  refine (G144_3_eq R ha.1 d i _ _ FUEL 0 [] (by omega) (by rw [FUEL_eq]; omega) (by simp)).trans ?_
  simp only [List.drop_zero, List.nil_append]
  rw [F149_eq R hd, F149_eq R hi]
  refine (G144_8_eq R (putS_len d) _ _ _ FUEL 0 a (by omega) (by rw [FUEL_eq]; omega) (by rw [ha.1]; omega)).trans ?_
  simp only [List.drop_zero]
  refine (G144_12_eq R (putS_len i) _ _ FUEL 0 (a ++ putS d) (by omega) (by rw [FUEL_eq]; omega) (by simp [ha.1, putS_len])).trans ?_
  simp only [List.drop_zero]
  rw [F150_eq R ((ha.2.app (putS_u8 d)).app (putS_u8 i)) (by simp [ha.1, putS_len]), List.append_assoc]
  rfl
theorem wrap_bv64 (b : BitVec 64) : IntKind.u64.wrap ((b.toNat : Nat) : Int) = (b.toNat : Int) := by
  have := b.isLt
  exact wrap_u64 (by omega) (by omega)
theorem iand_u64 (a b : Int) : iand .u64 a b = ((BitVec.ofInt 64 a &&& BitVec.ofInt 64 b).toNat : Int) := wrap_bv64 _
theorem ior_u64 (a b : Int) : ior .u64 a b = ((BitVec.ofInt 64 a ||| BitVec.ofInt 64 b).toNat : Int) := wrap_bv64 _
theorem iand_mask {x : Int} (hx : U64 x) (n : Nat) (hn : n < 64) : iand .u64 x ((2 ^ n - 1 : Nat) : Int) = x % 2 ^ n := by
  unfold U64 at hx
  obtain ⟨y, rfl⟩ : ∃ y : Nat, x = y := ⟨x.toNat, by omega⟩
  have h1 : (2 : Nat) ^ n < 2 ^ 64 := Nat.pow_lt_pow_right (by omega) hn
  have h0 : 0 < (2 : Nat) ^ n := Nat.pow_pos (by omega)
  rw [iand_u64, BitVec.ofInt_natCast, BitVec.ofInt_natCast, BitVec.toNat_and, BitVec.toNat_ofNat, BitVec.toNat_ofNat, Nat.mod_eq_of_lt (by omega), Nat.mod_eq_of_lt (by omega), Nat.and_two_pow_sub_one_eq_mod]
  simp
def bitS (a : List Int) (d n : Int) : Int := (blockS a d (n / 256)).getD (n % 256 / 8).toNat 0 / 2 ^ (7 - n % 8).toNat % 2
theorem G145_eq (R : Type) {n : Nat} (hn : n ≤ 7) (k0 : Int → Option R) : ∀ (m i : Nat), i ≤ n → n - i < m → G145_3 m R (n : Int) (2 ^ i) (i : Int) k0 = k0 (2 ^ n)
  | 0, i, _, h => by omega
  | m + 1, i, h1, h2 => by
    simp only [G145_3, p145_3]
    by_cases hi : i < n
    · have hd : decide ((i : Int) < (n : Int)) = true := by simpa using hi
      have ih := G145_eq R hn k0 m (i + 1) (by omega) (by omega)
      have hp : (2 : Int) ^ i ≤ 128 := by
        have : (2 : Nat) ^ i ≤ 2 ^ 7 := Nat.pow_le_pow_right (by omega) (by omega)
        have e : ((2 ^ i : Nat) : Int) = (2 : Int) ^ i := by simp
        omega
      have hq : (0 : Int) < 2 ^ i := Int.pow_pos (by decide)
      simp only [hd]
      rw [wrap_u64 (n := 2 * 2 ^ i) (by omega) (by omega), wrap_u64 (n := (i : Int) + 1) (by omega) (by omega), show (2 : Int) * 2 ^ i = 2 ^ (i + 1) by rw [Int.pow_succ, Int.mul_comm]]
      exact ih
    · have : i = n := by omega
      subst this
      have hd : decide ((i : Int) < (i : Int)) = false := by simp
      simp only [hd]
theorem F145_eq (R : Type) {n : Nat} (hn : n ≤ 7) (k : Int → Option R) : F145 R (n : Int) k = k (2 ^ n) := by
  simp only [F145, p145]
  exact G145_eq R hn (fun x => k x) FUEL 0 (by omega) (by rw [FUEL_eq]; omega)
theorem F138_eq (R : Type) {a : List Int} (ha : H32 a) {d n : Int} (hd : U64 d) (hn : U64 n) (k : Int → Option R) : F138 R a d n k = k (bitS a d n) := by
  have hn' := hn
  unfold U64 at hn
  simp only [F138, p138]
  rw [Int.tdiv_eq_ediv_of_nonneg hn.1, Int.tmod_eq_emod_of_nonneg hn.1, Int.tmod_eq_emod_of_nonneg hn.1, wrap_u64 (n := n / 256) (by omega) (by omega), F144_eq R ha hd (by unfold U64; omega), Int.tdiv_eq_ediv_of_nonneg (a := n % 256) (by omega), wrap_u64 (n := n % 256 / 8) (by omega) (by omega), wrap_u64 (n := 7 - n % 8) (by omega) (by omega)]
  have hbn : bnd (n % 256 / 8) 32 = true := by unfold bnd; simp; omega
  simp only [hbn]
  have hb : U8 ((blockS a d (n / 256)).getD (n % 256 / 8).toNat 0) := getD_all (blockS_ok a d _).2 u8_0 _
  obtain ⟨r, hr⟩ : ∃ r : Nat, 7 - n % 8 = r := ⟨(7 - n % 8).toNat, by omega⟩
  unfold bitS
  rw [hr, F145_eq R (by omega)]
  generalize (blockS a d (n / 256)).getD (n % 256 / 8).toNat 0 = b at *
  unfold U8 at hb
  have hp : (0 : Int) < 2 ^ r := Int.pow_pos (by decide)
  have hq : 0 ≤ b / 2 ^ r ∧ b / 2 ^ r ≤ b := ⟨Int.ediv_nonneg hb.1 (by omega), Int.ediv_le_self _ hb.1⟩
  have hz : ((2 : Int) ^ r == 0) = false := by simp; omega
  simp only [hz, Bool.not_false]
  rw [wrap_u64 (n := b) (by omega) (by omega), Int.tdiv_eq_ediv_of_nonneg (by omega), wrap_u64 (n := b / 2 ^ r) (by omega) (by omega), Int.tmod_eq_emod_of_nonneg hq.1, Int.toNat_natCast]
end Go.PG
namespace Go.PG
end Go.PG
