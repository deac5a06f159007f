/- A part of the proof over this seat (own work; the framework that reads a Go function as a pure one, or a use of it). No condition of its own. -/
import Derived.Test.YtapdakmnlclboaaGreatA5
import Derived.Test.YtapdakmnlclboaaGreatProg
import Derived.KernelRfl
set_option linter.unusedVariables false
set_option linter.unusedSimpArgs false
set_option linter.unusedSectionVars false
set_option maxRecDepth 100000
namespace Go.PG
open Go.Proofs
abbrev FT155 : Type 1 := (R : Type) → (List Int) → ((List Int) → Option R) → Option R
def en155 (F : FT155) : Ent := ⟨155, [(false, (.sl (.int .u8)))], [(false, (.sl (.int .u8)))], fun R x k => F R x.1 (fun y1 => k (y1, ()) ())⟩
def res155 : List (ResultVar × TypeId × Bool) := [(.tmp 2, 26, false)]
noncomputable def e155 (F165 : FT165) (R : Type) : Env R := ⟨TT, EQT, 0, 29, ownOf [(3, 0)], callOf [en165 F165] R, loopOf [] R, [], inlOf []⟩
def p155 (F165 : FT165) : FT155 := fun R a0 k =>
let v1 : Int := (List.length a0 : Int);
let v2 : Int := (List.length a0 : Int);
let v3 : Int := (Int.tmod v2 (64 : Int));
let v4 : Int := (IntKind.i64.wrap (v1 - v3));
(match (decide (0 ≤ v4 ∧ v4 ≤ (List.length a0 : Int) ∧ (List.length a0 : Int) ≤ (List.length a0 : Int) ∧ (List.length a0 : Int) ≤ (List.length a0 : Int))) with
| true => let v5 : (List Int) := (List.take (Int.toNat ((List.length a0 : Int) - v4)) (List.drop (Int.toNat v4) a0));
let v6 : Int := (List.length a0 : Int);
let v7 : Int := (IntKind.u64.wrap v6);
F165 R v5 v7 fun y8 y9 =>
let v10 : (List Int) := ([] : (List Int));
(match (decide (0 ≤ (0 : Int) ∧ (0 : Int) ≤ v4 ∧ v4 ≤ v4 ∧ v4 ≤ (List.length a0 : Int))) with
| true => let v11 : (List Int) := (List.take (Int.toNat (v4 - (0 : Int))) (List.drop 0 a0));
(match (decide (List.length v10 + List.length v11 ≤ 140737488355328)) with
| true => let v12 : (List Int) := (v10 ++ v11);
(match (decide (List.length v12 + List.length y8 ≤ 140737488355328)) with
| true => let v13 : (List Int) := (v12 ++ y8);
k v13
| false => none)
| false => none)
| false => none)
| false => none)
theorem q155 (F165 : FT165) (F : FT155) (R : Type) (x : AT (en155 F).ins) (k : RT (en155 F).outs → PT (en155 F).ins → Option R) :
  xfun (e155 F165 R) (codeOf Tryz.f155) res155 (avs (en155 F).ins x) (finK (en155 F).outs (en155 F).ins k) = p155 F165 R x.1 (fun y1 => k (y1, ()) ()) := by kernel_rfl
noncomputable def F155 : FT155 := p155 F165
theorem env155 (R : Type) : EnvOK Tryz.prog (e155 F165 R) := ⟨tabOK, eqOK, callOf_ok (allE_cons ok165 allE_nil), noIns, inlOK_nil⟩
theorem ok155 : (en155 F155).OK Tryz.prog :=
  ent_ok (Ef := fun R => e155 F165 R) (fun R => env155 R) mixed Tryz.func155 (body := codeOf Tryz.f155) (by kernel_rfl) (by kernel_rfl) (np := 0) (nt := 29) (fun _ => rfl) (fun _ => rfl) (by kernel_rfl) (res := res155) (by kernel_rfl) (fun _ => rfl) (fun _ => Nat.le_of_ble_eq_true rfl) (by
    intro R
    rw [show loopsOf (codeOf Tryz.f155) = [] from by kernel_rfl]
    exact allM_nil) (fun R x k => q155 F165 F155 R x k)
abbrev FT154 : Type 1 := (R : Type) → (List Int) → ((List (List Int)) → (List Int) → Option R) → Option R
def en154 (F : FT154) : Ent := ⟨154, [(false, (.sl (.int .u8)))], [(false, (.sl (.arr 64 (.int .u8)))), (false, (.sl (.int .u8)))], fun R x k => F R x.1 (fun y1 y2 => k (y1, y2, ()) ())⟩
def res154 : List (ResultVar × TypeId × Bool) := [(.tmp 2, 194, false), (.tmp 3, 26, false)]
abbrev LT154_3 : Type 1 := (R : Type) → (List Int) → Int → (List (List Int)) → ((List Int) → Int → (List (List Int)) → Option R) → Option R
def le154_3 (L : LT154_3) : LEnt := ⟨3, [.val 0 (.sl (.int .u8)), .fix 4 (.own 0 0), .val 5 (.int .i64), .row 0 (.arr 64 (.int .u8)) false], 1, [(.exit 0, [.val 0 (.sl (.int .u8)), .fix 4 (.own 0 0), .val 5 (.int .i64), .row 0 (.arr 64 (.int .u8)) false])], fun R x ke => L R x.1 x.2.1 x.2.2.1 (fun y1 y2 y3 => ke.1 (y1, y2, y3, ()))⟩
abbrev LT154_6 : Type 1 := (R : Type) → (List Int) → Int → Int → (List (List Int)) → (List Int) → ((List Int) → Int → (List (List Int)) → (List Int) → Option R) → Option R
def le154_6 (L : LT154_6) : LEnt := ⟨6, [.val 0 (.sl (.int .u8)), .fix 4 (.own 0 0), .val 5 (.int .i64), .fix 6 (.ptr 1 [] (.arr 64 (.int .u8))), .val 7 (.int .i64), .row 0 (.arr 64 (.int .u8)) false, .var 1 (.arr 64 (.int .u8)) false], 2, [(.exit 2, [.val 0 (.sl (.int .u8)), .fix 4 (.own 0 0), .val 5 (.int .i64), .fix 6 (.ptr 1 [] (.arr 64 (.int .u8))), .row 0 (.arr 64 (.int .u8)) false, .var 1 (.arr 64 (.int .u8)) false])], fun R x ke => L R x.1 x.2.1 x.2.2.1 x.2.2.2.1 x.2.2.2.2.1 (fun y1 y2 y3 y4 => ke.1 (y1, y2, y3, y4, ()))⟩
noncomputable def e154 (L3 : LT154_3) (L6 : LT154_6) (R : Type) : Env R := ⟨TT, EQT, 0, 35, ownOf [(1, 0)], callOf [] R, loopOf [le154_3 L3, le154_6 L6] R, [], inlOf []⟩
def p154_6 : (R : Type) → (List Int) → Int → Int → (List (List Int)) → (List Int) → ((List Int) → Int → Int → (List (List Int)) → (List Int) → Option R) → ((List Int) → Int → (List (List Int)) → (List Int) → Option R) → Option R := fun R x1 x2 x3 x4 x5 kc k0 =>
let v6 : Bool := (decide (x3 < (64 : Int)));
(match v6 with
| true => let v7 : Int := (IntKind.i64.wrap (x2 + x3));
(match (bnd v7 (List.length x1 : Int)) with
| true => let v8 : Int := (List.getD x1 (Int.toNat v7) (0 : Int));
(match (bnd x3 (64 : Int)) with
| true => let v9 : (List Int) := (List.set x5 (Int.toNat x3) v8);
let v10 : Int := (IntKind.i64.wrap (x3 + (1 : Int)));
kc x1 x2 v10 x4 v9
| false => none)
| false => none)
| false => k0 x1 x2 x4 x5)
theorem q154_6 (L3 : LT154_3) (L6 : LT154_6) (R : Type) (x : HT (le154_6 L6).H) (kc : HT (le154_6 L6).H → Option R) (ke : KT R (le154_6 L6).exs) :
  exec (e154 L3 L6 R) (lcode 6 (codeOf Tryz.f154)) (stOf (le154_6 L6).H x 2) (roundK (le154_6 L6).H (le154_6 L6).exs kc ke) =
    p154_6 R x.1 x.2.1 x.2.2.1 x.2.2.2.1 x.2.2.2.2.1 (fun x1 x2 x3 x4 x5 => kc (x1, x2, x3, x4, x5, ())) (fun y1 y2 y3 y4 => ke.1 (y1, y2, y3, y4, ())) := by kernel_rfl
noncomputable def G154_6 : Nat → LT154_6
  | 0 => fun _ _ _ _ _ _ _ => none
  | n + 1 => fun R x1 x2 x3 x4 x5 k0 => p154_6 R x1 x2 x3 x4 x5 (fun x1 x2 x3 x4 x5 => G154_6 n R x1 x2 x3 x4 x5 k0) k0
def p154_3 (L6 : LT154_6) : (R : Type) → (List Int) → Int → (List (List Int)) → ((List Int) → Int → (List (List Int)) → Option R) → ((List Int) → Int → (List (List Int)) → Option R) → Option R := fun R x1 x2 x3 kc k0 =>
let v4 : Int := (IntKind.i64.wrap (x2 + (64 : Int)));
let v5 : Int := (List.length x1 : Int);
let v6 : Bool := (decide (v4 ≤ v5));
(match v6 with
| true => L6 R x1 x2 (0 : Int) x3 (List.replicate 64 (0 : Int)) (fun x7 x8 x9 x10 =>
let v11 : (List (List Int)) := ([x10] : (List (List Int)));
(match (decide (List.length x9 + List.length v11 ≤ 2199023255552)) with
| true => let v12 : (List (List Int)) := (x9 ++ v11);
let v13 : Int := (IntKind.i64.wrap (x8 + (64 : Int)));
kc x7 v13 v12
| false => none))
| false => k0 x1 x2 x3)
theorem q154_3 (L3 : LT154_3) (L6 : LT154_6) (R : Type) (x : HT (le154_3 L3).H) (kc : HT (le154_3 L3).H → Option R) (ke : KT R (le154_3 L3).exs) :
  exec (e154 L3 L6 R) (lcode 3 (codeOf Tryz.f154)) (stOf (le154_3 L3).H x 1) (roundK (le154_3 L3).H (le154_3 L3).exs kc ke) =
    p154_3 L6 R x.1 x.2.1 x.2.2.1 (fun x1 x2 x3 => kc (x1, x2, x3, ())) (fun y1 y2 y3 => ke.1 (y1, y2, y3, ())) := by kernel_rfl
noncomputable def G154_3 : Nat → LT154_3
  | 0 => fun _ _ _ _ _ => none
  | n + 1 => fun R x1 x2 x3 k0 => p154_3 (G154_6 FUEL) R x1 x2 x3 (fun x1 x2 x3 => G154_3 n R x1 x2 x3 k0) k0
def p154 (L3 : LT154_3) : FT154 := fun R a0 k =>
L3 R a0 (0 : Int) ([] : (List (List Int))) (fun x1 x2 x3 =>
(match (decide (0 ≤ x2 ∧ x2 ≤ (List.length x1 : Int) ∧ (List.length x1 : Int) ≤ (List.length x1 : Int) ∧ (List.length x1 : Int) ≤ (List.length x1 : Int))) with
| true => let v4 : (List Int) := (List.take (Int.toNat ((List.length x1 : Int) - x2)) (List.drop (Int.toNat x2) x1));
k x3 v4
| false => none))
theorem q154 (L3 : LT154_3) (L6 : LT154_6) (F : FT154) (R : Type) (x : AT (en154 F).ins) (k : RT (en154 F).outs → PT (en154 F).ins → Option R) :
  xfun (e154 L3 L6 R) (codeOf Tryz.f154) res154 (avs (en154 F).ins x) (finK (en154 F).outs (en154 F).ins k) = p154 L3 R x.1 (fun y1 y2 => k (y1, y2, ()) ()) := by kernel_rfl
noncomputable def F154 : FT154 := p154 (G154_3 FUEL)
theorem env154 (R : Type) : EnvOK Tryz.prog (e154 (G154_3 FUEL) (G154_6 FUEL) R) := ⟨tabOK, eqOK, callOf_ok allE_nil, noIns, inlOK_nil⟩
noncomputable def T154_6 : (R : Type) → HT (le154_6 (G154_6 FUEL)).H → (HT (le154_6 (G154_6 FUEL)).H → Option R) → KT R (le154_6 (G154_6 FUEL)).exs → Option R := fun R x kc ke => p154_6 R x.1 x.2.1 x.2.2.1 x.2.2.2.1 x.2.2.2.2.1 (fun x1 x2 x3 x4 x5 => kc (x1, x2, x3, x4, x5, ())) (fun y1 y2 y3 y4 => ke.1 (y1, y2, y3, y4, ()))
theorem it154_6 : ∀ (n : Nat) (R : Type) (x : HT (le154_6 (G154_6 FUEL)).H) (ke : KT R (le154_6 (G154_6 FUEL)).exs), iter T154_6 n R x ke = G154_6 n R x.1 x.2.1 x.2.2.1 x.2.2.2.1 x.2.2.2.2.1 (fun y1 y2 y3 y4 => ke.1 (y1, y2, y3, y4, ())) := by
  intro n
  induction n with
  | zero => intro R x ke; rfl
  | succ n ih =>
    intro R x ke
    show T154_6 R x (fun x' => iter T154_6 n R x' ke) ke = _
    rw [show (fun x' => iter T154_6 n R x' ke) = fun x => G154_6 n R x.1 x.2.1 x.2.2.1 x.2.2.2.1 x.2.2.2.2.1 (fun y1 y2 y3 y4 => ke.1 (y1, y2, y3, y4, ())) from funext fun x' => ih R x' ke]
    rfl
theorem lok154_6 : (le154_6 (G154_6 FUEL)).OK Tryz.prog 0 35 (lcode 6 (codeOf Tryz.f154)) := fun R x ke r h =>
  iter_sound (fun R => e154 (G154_3 FUEL) (G154_6 FUEL) R) 0 35 (fun _ => rfl) (fun _ => rfl) (fun R => env154 R) mixed (by
    intro R
    rw [show loopsOf (lcode 6 (codeOf Tryz.f154)) = [] from by kernel_rfl]
    exact allM_nil) (T := T154_6) (fun R x kc ke => q154_6 (G154_3 FUEL) (G154_6 FUEL) R x kc ke) FUEL R x ke r ((it154_6 FUEL R x ke).trans h)
noncomputable def T154_3 : (R : Type) → HT (le154_3 (G154_3 FUEL)).H → (HT (le154_3 (G154_3 FUEL)).H → Option R) → KT R (le154_3 (G154_3 FUEL)).exs → Option R := fun R x kc ke => p154_3 (G154_6 FUEL) R x.1 x.2.1 x.2.2.1 (fun x1 x2 x3 => kc (x1, x2, x3, ())) (fun y1 y2 y3 => ke.1 (y1, y2, y3, ()))
theorem it154_3 : ∀ (n : Nat) (R : Type) (x : HT (le154_3 (G154_3 FUEL)).H) (ke : KT R (le154_3 (G154_3 FUEL)).exs), iter T154_3 n R x ke = G154_3 n R x.1 x.2.1 x.2.2.1 (fun y1 y2 y3 => ke.1 (y1, y2, y3, ())) := by
  intro n
  induction n with
  | zero => intro R x ke; rfl
  | succ n ih =>
    intro R x ke
    show T154_3 R x (fun x' => iter T154_3 n R x' ke) ke = _
    rw [show (fun x' => iter T154_3 n R x' ke) = fun x => G154_3 n R x.1 x.2.1 x.2.2.1 (fun y1 y2 y3 => ke.1 (y1, y2, y3, ())) from funext fun x' => ih R x' ke]
    rfl
theorem lok154_3 : (le154_3 (G154_3 FUEL)).OK Tryz.prog 0 35 (lcode 3 (codeOf Tryz.f154)) := fun R x ke r h =>
  iter_sound (fun R => e154 (G154_3 FUEL) (G154_6 FUEL) R) 0 35 (fun _ => rfl) (fun _ => rfl) (fun R => env154 R) mixed (by
    intro R
    rw [show loopsOf (lcode 3 (codeOf Tryz.f154)) = [lcode 6 (codeOf Tryz.f154)] from by kernel_rfl]
    exact (allM_cons (loop_ok2 (e := le154_6 (G154_6 FUEL)) rfl rfl lok154_6) allM_nil)) (T := T154_3) (fun R x kc ke => q154_3 (G154_3 FUEL) (G154_6 FUEL) R x kc ke) FUEL R x ke r ((it154_3 FUEL R x ke).trans h)
theorem ok154 : (en154 F154).OK Tryz.prog :=
  ent_ok (Ef := fun R => e154 (G154_3 FUEL) (G154_6 FUEL) R) (fun R => env154 R) mixed Tryz.func154 (body := codeOf Tryz.f154) (by kernel_rfl) (by kernel_rfl) (np := 0) (nt := 35) (fun _ => rfl) (fun _ => rfl) (by kernel_rfl) (res := res154) (by kernel_rfl) (fun _ => rfl) (fun _ => Nat.le_of_ble_eq_true rfl) (by
    intro R
    rw [show loopsOf (codeOf Tryz.f154) = [lcode 3 (codeOf Tryz.f154)] from by kernel_rfl]
    exact (allM_cons (loop_ok2 (e := le154_3 (G154_3 FUEL)) rfl rfl lok154_3) allM_nil)) (fun R x k => q154 (G154_3 FUEL) (G154_6 FUEL) F154 R x k)
abbrev FT158 : Type 1 := (R : Type) → ((List Int) → Option R) → Option R
def en158 (F : FT158) : Ent := ⟨158, [], [(false, (.arr 8 (.int .u32)))], fun R x k => F R  (fun y1 => k (y1, ()) ())⟩
def res158 : List (ResultVar × TypeId × Bool) := [(.cell 0 186, 186, false)]
noncomputable def e158 (R : Type) : Env R := ⟨TT, EQT, 0, 2, ownOf [], callOf [] R, loopOf [] R, [], inlOf []⟩
def p158 : FT158 := fun R k =>
let v1 : (List Int) := (List.set (List.set (List.set (List.set (List.set (List.set (List.set (List.set (List.replicate 8 (0 : Int)) 0 (1779033703 : Int)) 1 (3144134277 : Int)) 2 (1013904242 : Int)) 3 (2773480762 : Int)) 4 (1359893119 : Int)) 5 (2600822924 : Int)) 6 (528734635 : Int)) 7 (1541459225 : Int));
k v1
theorem q158 (F : FT158) (R : Type) (x : AT (en158 F).ins) (k : RT (en158 F).outs → PT (en158 F).ins → Option R) :
  xfun (e158 R) (codeOf Tryz.f158) res158 (avs (en158 F).ins x) (finK (en158 F).outs (en158 F).ins k) = p158 R  (fun y1 => k (y1, ()) ()) := by kernel_rfl
noncomputable def F158 : FT158 := p158
theorem env158 (R : Type) : EnvOK Tryz.prog (e158 R) := ⟨tabOK, eqOK, callOf_ok allE_nil, noIns, inlOK_nil⟩
theorem ok158 : (en158 F158).OK Tryz.prog :=
  ent_ok (Ef := fun R => e158 R) (fun R => env158 R) mixed Tryz.func158 (body := codeOf Tryz.f158) (by kernel_rfl) (by kernel_rfl) (np := 0) (nt := 2) (fun _ => rfl) (fun _ => rfl) (by kernel_rfl) (res := res158) (by kernel_rfl) (fun _ => rfl) (fun _ => Nat.le_of_ble_eq_true rfl) (by
    intro R
    rw [show loopsOf (codeOf Tryz.f158) = [] from by kernel_rfl]
    exact allM_nil) (fun R x k => q158 F158 R x k)
abbrev FT179 : Type 1 := (R : Type) → (List Int) → (Int → Option R) → Option R
def en179 (F : FT179) : Ent := ⟨179, [(false, (.arr 4 (.int .u8)))], [(false, (.int .u32))], fun R x k => F R x.1 (fun y1 => k (y1, ()) ())⟩
def res179 : List (ResultVar × TypeId × Bool) := [(.tmp 2, 84, false)]
abbrev LT179_3 : Type 1 := (R : Type) → Int → Int → (List Int) → (Int → Option R) → Option R
def le179_3 (L : LT179_3) : LEnt := ⟨3, [.fix 1 (.ptr 0 [] (.arr 4 (.int .u8))), .val 3 (.int .u32), .val 4 (.int .i64), .var 0 (.arr 4 (.int .u8)) false], 1, [(.exit 0, [.val 3 (.int .u32)])], fun R x ke => L R x.1 x.2.1 x.2.2.1 (fun y1 => ke.1 (y1, ()))⟩
noncomputable def e179 (L3 : LT179_3) (R : Type) : Env R := ⟨TT, EQT, 0, 17, ownOf [], callOf [] R, loopOf [le179_3 L3] R, [], inlOf []⟩
def p179_3 : (R : Type) → Int → Int → (List Int) → (Int → Int → (List Int) → Option R) → (Int → Option R) → Option R := fun R x1 x2 x3 kc k0 =>
let v4 : Bool := (decide (x2 < (4 : Int)));
(match v4 with
| true => let v5 : Int := (IntKind.u32.wrap (x1 * (256 : Int)));
(match (bnd x2 (4 : Int)) with
| true => let v6 : Int := (List.getD x3 (Int.toNat x2) (0 : Int));
let v7 : Int := (IntKind.u32.wrap v6);
let v8 : Int := (IntKind.u32.wrap (v5 + v7));
let v9 : Int := (IntKind.i64.wrap (x2 + (1 : Int)));
kc v8 v9 x3
| false => none)
| false => k0 x1)
theorem q179_3 (L3 : LT179_3) (R : Type) (x : HT (le179_3 L3).H) (kc : HT (le179_3 L3).H → Option R) (ke : KT R (le179_3 L3).exs) :
  exec (e179 L3 R) (lcode 3 (codeOf Tryz.f179)) (stOf (le179_3 L3).H x 1) (roundK (le179_3 L3).H (le179_3 L3).exs kc ke) =
    p179_3 R x.1 x.2.1 x.2.2.1 (fun x1 x2 x3 => kc (x1, x2, x3, ())) (fun y1 => ke.1 (y1, ())) := by kernel_rfl
noncomputable def G179_3 : Nat → LT179_3
  | 0 => fun _ _ _ _ _ => none
  | n + 1 => fun R x1 x2 x3 k0 => p179_3 R x1 x2 x3 (fun x1 x2 x3 => G179_3 n R x1 x2 x3 k0) k0
def p179 (L3 : LT179_3) : FT179 := fun R a0 k =>
L3 R (0 : Int) (0 : Int) a0 (fun x1 =>
k x1)
theorem q179 (L3 : LT179_3) (F : FT179) (R : Type) (x : AT (en179 F).ins) (k : RT (en179 F).outs → PT (en179 F).ins → Option R) :
  xfun (e179 L3 R) (codeOf Tryz.f179) res179 (avs (en179 F).ins x) (finK (en179 F).outs (en179 F).ins k) = p179 L3 R x.1 (fun y1 => k (y1, ()) ()) := by kernel_rfl
noncomputable def F179 : FT179 := p179 (G179_3 FUEL)
theorem env179 (R : Type) : EnvOK Tryz.prog (e179 (G179_3 FUEL) R) := ⟨tabOK, eqOK, callOf_ok allE_nil, noIns, inlOK_nil⟩
noncomputable def T179_3 : (R : Type) → HT (le179_3 (G179_3 FUEL)).H → (HT (le179_3 (G179_3 FUEL)).H → Option R) → KT R (le179_3 (G179_3 FUEL)).exs → Option R := fun R x kc ke => p179_3 R x.1 x.2.1 x.2.2.1 (fun x1 x2 x3 => kc (x1, x2, x3, ())) (fun y1 => ke.1 (y1, ()))
theorem it179_3 : ∀ (n : Nat) (R : Type) (x : HT (le179_3 (G179_3 FUEL)).H) (ke : KT R (le179_3 (G179_3 FUEL)).exs), iter T179_3 n R x ke = G179_3 n R x.1 x.2.1 x.2.2.1 (fun y1 => ke.1 (y1, ())) := by
  intro n
  induction n with
  | zero => intro R x ke; rfl
  | succ n ih =>
    intro R x ke
    show T179_3 R x (fun x' => iter T179_3 n R x' ke) ke = _
    rw [show (fun x' => iter T179_3 n R x' ke) = fun x => G179_3 n R x.1 x.2.1 x.2.2.1 (fun y1 => ke.1 (y1, ())) from funext fun x' => ih R x' ke]
    rfl
theorem lok179_3 : (le179_3 (G179_3 FUEL)).OK Tryz.prog 0 17 (lcode 3 (codeOf Tryz.f179)) := fun R x ke r h =>
  iter_sound (fun R => e179 (G179_3 FUEL) R) 0 17 (fun _ => rfl) (fun _ => rfl) (fun R => env179 R) mixed (by
    intro R
    rw [show loopsOf (lcode 3 (codeOf Tryz.f179)) = [] from by kernel_rfl]
    exact allM_nil) (T := T179_3) (fun R x kc ke => q179_3 (G179_3 FUEL) R x kc ke) FUEL R x ke r ((it179_3 FUEL R x ke).trans h)
theorem ok179 : (en179 F179).OK Tryz.prog :=
  ent_ok (Ef := fun R => e179 (G179_3 FUEL) R) (fun R => env179 R) mixed Tryz.func179 (body := codeOf Tryz.f179) (by kernel_rfl) (by kernel_rfl) (np := 0) (nt := 17) (fun _ => rfl) (fun _ => rfl) (by kernel_rfl) (res := res179) (by kernel_rfl) (fun _ => rfl) (fun _ => Nat.le_of_ble_eq_true rfl) (by
    intro R
    rw [show loopsOf (codeOf Tryz.f179) = [lcode 3 (codeOf Tryz.f179)] from by kernel_rfl]
    exact (allM_cons (loop_ok2 (e := le179_3 (G179_3 FUEL)) rfl rfl lok179_3) allM_nil)) (fun R x k => q179 (G179_3 FUEL) F179 R x k)
abbrev FT190 : Type 1 := (R : Type) → Int → Int → (Int → Option R) → Option R
def en190 (F : FT190) : Ent := ⟨190, [(false, (.int .u32)), (false, (.int .i64))], [(false, (.int .u32))], fun R x k => F R x.1 x.2.1 (fun y1 => k (y1, ()) ())⟩
def res190 : List (ResultVar × TypeId × Bool) := [(.tmp 4, 84, false)]
abbrev LT190_5 : Type 1 := (R : Type) → Int → Int → Int → (Int → Option R) → Option R
def le190_5 (L : LT190_5) : LEnt := ⟨5, [.val 0 (.int .u32), .val 1 (.int .i64), .val 5 (.int .i64)], 0, [(.exit 0, [.val 0 (.int .u32)])], fun R x ke => L R x.1 x.2.1 x.2.2.1 (fun y1 => ke.1 (y1, ()))⟩
noncomputable def e190 (L5 : LT190_5) (R : Type) : Env R := ⟨TT, EQT, 0, 24, ownOf [], callOf [] R, loopOf [le190_5 L5] R, [], inlOf []⟩
def p190_5 : (R : Type) → Int → Int → Int → (Int → Int → Int → Option R) → (Int → Option R) → Option R := fun R x1 x2 x3 kc k0 =>
let v4 : Bool := (decide (x3 < x2));
(match v4 with
| true => let v5 : Int := (IntKind.u32.wrap (Int.tdiv x1 (2 : Int)));
let v6 : Int := (Int.tmod x1 (2 : Int));
let v7 : Int := (IntKind.u32.wrap (v6 * (2147483648 : Int)));
let v8 : Int := (IntKind.u32.wrap (v5 + v7));
let v9 : Int := (IntKind.i64.wrap (x3 + (1 : Int)));
kc v8 x2 v9
| false => k0 x1)
theorem q190_5 (L5 : LT190_5) (R : Type) (x : HT (le190_5 L5).H) (kc : HT (le190_5 L5).H → Option R) (ke : KT R (le190_5 L5).exs) :
  exec (e190 L5 R) (lcode 5 (codeOf Tryz.f190)) (stOf (le190_5 L5).H x 0) (roundK (le190_5 L5).H (le190_5 L5).exs kc ke) =
    p190_5 R x.1 x.2.1 x.2.2.1 (fun x1 x2 x3 => kc (x1, x2, x3, ())) (fun y1 => ke.1 (y1, ())) := by kernel_rfl
noncomputable def G190_5 : Nat → LT190_5
  | 0 => fun _ _ _ _ _ => none
  | n + 1 => fun R x1 x2 x3 k0 => p190_5 R x1 x2 x3 (fun x1 x2 x3 => G190_5 n R x1 x2 x3 k0) k0
def p190 (L5 : LT190_5) : FT190 := fun R a0 a1 k =>
let v1 : Int := (Int.tmod a1 (32 : Int));
let v2 : Bool := (decide (v1 < (0 : Int)));
(match v2 with
| true => let v3 : Int := (IntKind.i64.wrap (v1 + (32 : Int)));
L5 R a0 v3 (0 : Int) (fun x4 =>
k x4)
| false => L5 R a0 v1 (0 : Int) (fun x5 =>
k x5))
theorem q190 (L5 : LT190_5) (F : FT190) (R : Type) (x : AT (en190 F).ins) (k : RT (en190 F).outs → PT (en190 F).ins → Option R) :
  xfun (e190 L5 R) (codeOf Tryz.f190) res190 (avs (en190 F).ins x) (finK (en190 F).outs (en190 F).ins k) = p190 L5 R x.1 x.2.1 (fun y1 => k (y1, ()) ()) := by kernel_rfl
noncomputable def F190 : FT190 := p190 (G190_5 FUEL)
theorem env190 (R : Type) : EnvOK Tryz.prog (e190 (G190_5 FUEL) R) := ⟨tabOK, eqOK, callOf_ok allE_nil, noIns, inlOK_nil⟩
noncomputable def T190_5 : (R : Type) → HT (le190_5 (G190_5 FUEL)).H → (HT (le190_5 (G190_5 FUEL)).H → Option R) → KT R (le190_5 (G190_5 FUEL)).exs → Option R := fun R x kc ke => p190_5 R x.1 x.2.1 x.2.2.1 (fun x1 x2 x3 => kc (x1, x2, x3, ())) (fun y1 => ke.1 (y1, ()))
theorem it190_5 : ∀ (n : Nat) (R : Type) (x : HT (le190_5 (G190_5 FUEL)).H) (ke : KT R (le190_5 (G190_5 FUEL)).exs), iter T190_5 n R x ke = G190_5 n R x.1 x.2.1 x.2.2.1 (fun y1 => ke.1 (y1, ())) := by
  intro n
  induction n with
  | zero => intro R x ke; rfl
  | succ n ih =>
    intro R x ke
    show T190_5 R x (fun x' => iter T190_5 n R x' ke) ke = _
    rw [show (fun x' => iter T190_5 n R x' ke) = fun x => G190_5 n R x.1 x.2.1 x.2.2.1 (fun y1 => ke.1 (y1, ())) from funext fun x' => ih R x' ke]
    rfl
theorem lok190_5 : (le190_5 (G190_5 FUEL)).OK Tryz.prog 0 24 (lcode 5 (codeOf Tryz.f190)) := fun R x ke r h =>
  iter_sound (fun R => e190 (G190_5 FUEL) R) 0 24 (fun _ => rfl) (fun _ => rfl) (fun R => env190 R) mixed (by
    intro R
    rw [show loopsOf (lcode 5 (codeOf Tryz.f190)) = [] from by kernel_rfl]
    exact allM_nil) (T := T190_5) (fun R x kc ke => q190_5 (G190_5 FUEL) R x kc ke) FUEL R x ke r ((it190_5 FUEL R x ke).trans h)
theorem ok190 : (en190 F190).OK Tryz.prog :=
  ent_ok (Ef := fun R => e190 (G190_5 FUEL) R) (fun R => env190 R) mixed Tryz.func190 (body := codeOf Tryz.f190) (by kernel_rfl) (by kernel_rfl) (np := 0) (nt := 24) (fun _ => rfl) (fun _ => rfl) (by kernel_rfl) (res := res190) (by kernel_rfl) (fun _ => rfl) (fun _ => Nat.le_of_ble_eq_true rfl) (by
    intro R
    rw [show loopsOf (codeOf Tryz.f190) = [lcode 5 (codeOf Tryz.f190)] from by kernel_rfl]
    exact (allM_cons (loop_ok2 (e := le190_5 (G190_5 FUEL)) rfl rfl lok190_5) allM_nil)) (fun R x k => q190 (G190_5 FUEL) F190 R x k)
abbrev FT139 : Type 1 := (R : Type) → Int → Int → (Int → Option R) → Option R
def en139 (F : FT139) : Ent := ⟨139, [(false, (.int .u32)), (false, (.int .i64))], [(false, (.int .u32))], fun R x k => F R x.1 x.2.1 (fun y1 => k (y1, ()) ())⟩
def res139 : List (ResultVar × TypeId × Bool) := [(.tmp 4, 84, false)]
abbrev LT139_4 : Type 1 := (R : Type) → Int → Int → Int → (Int → Option R) → Option R
def le139_4 (L : LT139_4) : LEnt := ⟨4, [.val 0 (.int .u32), .val 1 (.int .i64), .val 5 (.int .i64)], 0, [(.exit 0, [.val 0 (.int .u32)])], fun R x ke => L R x.1 x.2.1 x.2.2.1 (fun y1 => ke.1 (y1, ()))⟩
noncomputable def e139 (L4 : LT139_4) (R : Type) : Env R := ⟨TT, EQT, 0, 16, ownOf [], callOf [] R, loopOf [le139_4 L4] R, [], inlOf []⟩
def p139_4 : (R : Type) → Int → Int → Int → (Int → Int → Int → Option R) → (Int → Option R) → Option R := fun R x1 x2 x3 kc k0 =>
let v4 : Bool := (decide (x3 < x2));
(match v4 with
| true => let v5 : Int := (IntKind.u32.wrap (Int.tdiv x1 (2 : Int)));
let v6 : Int := (IntKind.i64.wrap (x3 + (1 : Int)));
kc v5 x2 v6
| false => k0 x1)
theorem q139_4 (L4 : LT139_4) (R : Type) (x : HT (le139_4 L4).H) (kc : HT (le139_4 L4).H → Option R) (ke : KT R (le139_4 L4).exs) :
  exec (e139 L4 R) (lcode 4 (codeOf Tryz.f139)) (stOf (le139_4 L4).H x 0) (roundK (le139_4 L4).H (le139_4 L4).exs kc ke) =
    p139_4 R x.1 x.2.1 x.2.2.1 (fun x1 x2 x3 => kc (x1, x2, x3, ())) (fun y1 => ke.1 (y1, ())) := by kernel_rfl
noncomputable def G139_4 : Nat → LT139_4
  | 0 => fun _ _ _ _ _ => none
  | n + 1 => fun R x1 x2 x3 k0 => p139_4 R x1 x2 x3 (fun x1 x2 x3 => G139_4 n R x1 x2 x3 k0) k0
def p139 (L4 : LT139_4) : FT139 := fun R a0 a1 k =>
let v1 : Bool := (decide (a1 > (31 : Int)));
(match v1 with
| true => k (0 : Int)
| false => L4 R a0 a1 (0 : Int) (fun x2 =>
k x2))
theorem q139 (L4 : LT139_4) (F : FT139) (R : Type) (x : AT (en139 F).ins) (k : RT (en139 F).outs → PT (en139 F).ins → Option R) :
  xfun (e139 L4 R) (codeOf Tryz.f139) res139 (avs (en139 F).ins x) (finK (en139 F).outs (en139 F).ins k) = p139 L4 R x.1 x.2.1 (fun y1 => k (y1, ()) ()) := by kernel_rfl
noncomputable def F139 : FT139 := p139 (G139_4 FUEL)
theorem env139 (R : Type) : EnvOK Tryz.prog (e139 (G139_4 FUEL) R) := ⟨tabOK, eqOK, callOf_ok allE_nil, noIns, inlOK_nil⟩
noncomputable def T139_4 : (R : Type) → HT (le139_4 (G139_4 FUEL)).H → (HT (le139_4 (G139_4 FUEL)).H → Option R) → KT R (le139_4 (G139_4 FUEL)).exs → Option R := fun R x kc ke => p139_4 R x.1 x.2.1 x.2.2.1 (fun x1 x2 x3 => kc (x1, x2, x3, ())) (fun y1 => ke.1 (y1, ()))
theorem it139_4 : ∀ (n : Nat) (R : Type) (x : HT (le139_4 (G139_4 FUEL)).H) (ke : KT R (le139_4 (G139_4 FUEL)).exs), iter T139_4 n R x ke = G139_4 n R x.1 x.2.1 x.2.2.1 (fun y1 => ke.1 (y1, ())) := by
  intro n
  induction n with
  | zero => intro R x ke; rfl
  | succ n ih =>
    intro R x ke
    show T139_4 R x (fun x' => iter T139_4 n R x' ke) ke = _
    rw [show (fun x' => iter T139_4 n R x' ke) = fun x => G139_4 n R x.1 x.2.1 x.2.2.1 (fun y1 => ke.1 (y1, ())) from funext fun x' => ih R x' ke]
    rfl
theorem lok139_4 : (le139_4 (G139_4 FUEL)).OK Tryz.prog 0 16 (lcode 4 (codeOf Tryz.f139)) := fun R x ke r h =>
  iter_sound (fun R => e139 (G139_4 FUEL) R) 0 16 (fun _ => rfl) (fun _ => rfl) (fun R => env139 R) mixed (by
    intro R
    rw [show loopsOf (lcode 4 (codeOf Tryz.f139)) = [] from by kernel_rfl]
    exact allM_nil) (T := T139_4) (fun R x kc ke => q139_4 (G139_4 FUEL) R x kc ke) FUEL R x ke r ((it139_4 FUEL R x ke).trans h)
theorem ok139 : (en139 F139).OK Tryz.prog :=
  ent_ok (Ef := fun R => e139 (G139_4 FUEL) R) (fun R => env139 R) mixed Tryz.func139 (body := codeOf Tryz.f139) (by kernel_rfl) (by kernel_rfl) (np := 0) (nt := 16) (fun _ => rfl) (fun _ => rfl) (by kernel_rfl) (res := res139) (by kernel_rfl) (fun _ => rfl) (fun _ => Nat.le_of_ble_eq_true rfl) (by
    intro R
    rw [show loopsOf (codeOf Tryz.f139) = [lcode 4 (codeOf Tryz.f139)] from by kernel_rfl]
    exact (allM_cons (loop_ok2 (e := le139_4 (G139_4 FUEL)) rfl rfl lok139_4) allM_nil)) (fun R x k => q139 (G139_4 FUEL) F139 R x k)
abbrev FT180 : Type 1 := (R : Type) → Int → (Int → Option R) → Option R
def en180 (F : FT180) : Ent := ⟨180, [(false, (.int .u32))], [(false, (.int .u32))], fun R x k => F R x.1 (fun y1 => k (y1, ()) ())⟩
def res180 : List (ResultVar × TypeId × Bool) := [(.tmp 2, 84, false)]
noncomputable def e180 (F139 : FT139) (F190 : FT190) (R : Type) : Env R := ⟨TT, EQT, 0, 11, ownOf [], callOf [en139 F139, en190 F190] R, loopOf [] R, [], inlOf []⟩
def p180 (F139 : FT139) (F190 : FT190) : FT180 := fun R a0 k =>
F190 R a0 (17 : Int) fun y1 =>
F190 R a0 (19 : Int) fun y2 =>
let v3 : Int := (ixor .u32 y1 y2);
F139 R a0 (10 : Int) fun y4 =>
let v5 : Int := (ixor .u32 v3 y4);
k v5
theorem q180 (F139 : FT139) (F190 : FT190) (F : FT180) (R : Type) (x : AT (en180 F).ins) (k : RT (en180 F).outs → PT (en180 F).ins → Option R) :
  xfun (e180 F139 F190 R) (codeOf Tryz.f180) res180 (avs (en180 F).ins x) (finK (en180 F).outs (en180 F).ins k) = p180 F139 F190 R x.1 (fun y1 => k (y1, ()) ()) := by kernel_rfl
noncomputable def F180 : FT180 := p180 F139 F190
theorem env180 (R : Type) : EnvOK Tryz.prog (e180 F139 F190 R) := ⟨tabOK, eqOK, callOf_ok (allE_cons ok139 (allE_cons ok190 allE_nil)), noIns, inlOK_nil⟩
theorem ok180 : (en180 F180).OK Tryz.prog :=
  ent_ok (Ef := fun R => e180 F139 F190 R) (fun R => env180 R) mixed Tryz.func180 (body := codeOf Tryz.f180) (by kernel_rfl) (by kernel_rfl) (np := 0) (nt := 11) (fun _ => rfl) (fun _ => rfl) (by kernel_rfl) (res := res180) (by kernel_rfl) (fun _ => rfl) (fun _ => Nat.le_of_ble_eq_true rfl) (by
    intro R
    rw [show loopsOf (codeOf Tryz.f180) = [] from by kernel_rfl]
    exact allM_nil) (fun R x k => q180 F139 F190 F180 R x k)
abbrev FT181 : Type 1 := (R : Type) → Int → (Int → Option R) → Option R
def en181 (F : FT181) : Ent := ⟨181, [(false, (.int .u32))], [(false, (.int .u32))], fun R x k => F R x.1 (fun y1 => k (y1, ()) ())⟩
def res181 : List (ResultVar × TypeId × Bool) := [(.tmp 2, 84, false)]
noncomputable def e181 (F139 : FT139) (F190 : FT190) (R : Type) : Env R := ⟨TT, EQT, 0, 11, ownOf [], callOf [en139 F139, en190 F190] R, loopOf [] R, [], inlOf []⟩
def p181 (F139 : FT139) (F190 : FT190) : FT181 := fun R a0 k =>
F190 R a0 (7 : Int) fun y1 =>
F190 R a0 (18 : Int) fun y2 =>
let v3 : Int := (ixor .u32 y1 y2);
F139 R a0 (3 : Int) fun y4 =>
let v5 : Int := (ixor .u32 v3 y4);
k v5
theorem q181 (F139 : FT139) (F190 : FT190) (F : FT181) (R : Type) (x : AT (en181 F).ins) (k : RT (en181 F).outs → PT (en181 F).ins → Option R) :
  xfun (e181 F139 F190 R) (codeOf Tryz.f181) res181 (avs (en181 F).ins x) (finK (en181 F).outs (en181 F).ins k) = p181 F139 F190 R x.1 (fun y1 => k (y1, ()) ()) := by kernel_rfl
noncomputable def F181 : FT181 := p181 F139 F190
theorem env181 (R : Type) : EnvOK Tryz.prog (e181 F139 F190 R) := ⟨tabOK, eqOK, callOf_ok (allE_cons ok139 (allE_cons ok190 allE_nil)), noIns, inlOK_nil⟩
theorem ok181 : (en181 F181).OK Tryz.prog :=
  ent_ok (Ef := fun R => e181 F139 F190 R) (fun R => env181 R) mixed Tryz.func181 (body := codeOf Tryz.f181) (by kernel_rfl) (by kernel_rfl) (np := 0) (nt := 11) (fun _ => rfl) (fun _ => rfl) (by kernel_rfl) (res := res181) (by kernel_rfl) (fun _ => rfl) (fun _ => Nat.le_of_ble_eq_true rfl) (by
    intro R
    rw [show loopsOf (codeOf Tryz.f181) = [] from by kernel_rfl]
    exact allM_nil) (fun R x k => q181 F139 F190 F181 R x k)
abbrev FT173 : Type 1 := (R : Type) → (List Int) → ((List Int) → Option R) → Option R
def en173 (F : FT173) : Ent := ⟨173, [(false, (.arr 64 (.int .u8)))], [(false, (.arr 64 (.int .u32)))], fun R x k => F R x.1 (fun y1 => k (y1, ()) ())⟩
def res173 : List (ResultVar × TypeId × Bool) := [(.cell 2 214, 214, false)]
abbrev LT173_3 : Type 1 := (R : Type) → Int → (List Int) → (List Int) → (List Int) → ((List Int) → (List Int) → Option R) → Option R
def le173_3 (L : LT173_3) : LEnt := ⟨3, [.fix 1 (.ptr 0 [] (.arr 64 (.int .u8))), .fix 2 (.ptr 1 [] (.arr 64 (.int .u32))), .fix 3 (.ptr 2 [] (.arr 64 (.int .u32))), .val 4 (.int .i64), .var 0 (.arr 64 (.int .u8)) false, .var 1 (.arr 64 (.int .u32)) false, .var 2 (.arr 64 (.int .u32)) false], 3, [(.exit 0, [.fix 2 (.ptr 1 [] (.arr 64 (.int .u32))), .fix 3 (.ptr 2 [] (.arr 64 (.int .u32))), .var 1 (.arr 64 (.int .u32)) false, .var 2 (.arr 64 (.int .u32)) false])], fun R x ke => L R x.1 x.2.1 x.2.2.1 x.2.2.2.1 (fun y1 y2 => ke.1 (y1, y2, ()))⟩
abbrev LT173_7 : Type 1 := (R : Type) → Int → (List Int) → (List Int) → ((List Int) → (List Int) → Option R) → Option R
def le173_7 (L : LT173_7) : LEnt := ⟨7, [.fix 2 (.ptr 1 [] (.arr 64 (.int .u32))), .fix 3 (.ptr 2 [] (.arr 64 (.int .u32))), .val 5 (.int .i64), .var 1 (.arr 64 (.int .u32)) false, .var 2 (.arr 64 (.int .u32)) false], 3, [(.exit 2, [.fix 2 (.ptr 1 [] (.arr 64 (.int .u32))), .fix 3 (.ptr 2 [] (.arr 64 (.int .u32))), .var 1 (.arr 64 (.int .u32)) false, .var 2 (.arr 64 (.int .u32)) false])], fun R x ke => L R x.1 x.2.1 x.2.2.1 (fun y1 y2 => ke.1 (y1, y2, ()))⟩
noncomputable def e173 (F179 : FT179) (F180 : FT180) (F181 : FT181) (L3 : LT173_3) (L7 : LT173_7) (R : Type) : Env R := ⟨TT, EQT, 0, 61, ownOf [], callOf [en179 F179, en180 F180, en181 F181] R, loopOf [le173_3 L3, le173_7 L7] R, [], inlOf []⟩
def p173_3 (F179 : FT179) : (R : Type) → Int → (List Int) → (List Int) → (List Int) → (Int → (List Int) → (List Int) → (List Int) → Option R) → ((List Int) → (List Int) → Option R) → Option R := fun R x1 x2 x3 x4 kc k0 =>
let v5 : Bool := (decide (x1 < (16 : Int)));
(match v5 with
| true => let v6 : Int := (IntKind.i64.wrap ((4 : Int) * x1));
(match (bnd v6 (64 : Int)) with
| true => let v7 : Int := (List.getD x2 (Int.toNat v6) (0 : Int));
let v8 : Int := (IntKind.i64.wrap ((4 : Int) * x1));
let v9 : Int := (IntKind.i64.wrap (v8 + (1 : Int)));
(match (bnd v9 (64 : Int)) with
| true => let v10 : Int := (List.getD x2 (Int.toNat v9) (0 : Int));
let v11 : Int := (IntKind.i64.wrap ((4 : Int) * x1));
let v12 : Int := (IntKind.i64.wrap (v11 + (2 : Int)));
(match (bnd v12 (64 : Int)) with
| true => let v13 : Int := (List.getD x2 (Int.toNat v12) (0 : Int));
let v14 : Int := (IntKind.i64.wrap ((4 : Int) * x1));
let v15 : Int := (IntKind.i64.wrap (v14 + (3 : Int)));
(match (bnd v15 (64 : Int)) with
| true => let v16 : Int := (List.getD x2 (Int.toNat v15) (0 : Int));
let v17 : (List Int) := (List.set (List.set (List.set (List.set (List.replicate 4 (0 : Int)) 0 v7) 1 v10) 2 v13) 3 v16);
F179 R v17 fun y18 =>
(match (bnd x1 (64 : Int)) with
| true => let v19 : (List Int) := (List.set x4 (Int.toNat x1) y18);
let v20 : Int := (IntKind.i64.wrap (x1 + (1 : Int)));
kc v20 x2 x3 v19
| false => none)
| false => none)
| false => none)
| false => none)
| false => none)
| false => k0 x3 x4)
theorem q173_3 (F179 : FT179) (F180 : FT180) (F181 : FT181) (L3 : LT173_3) (L7 : LT173_7) (R : Type) (x : HT (le173_3 L3).H) (kc : HT (le173_3 L3).H → Option R) (ke : KT R (le173_3 L3).exs) :
  exec (e173 F179 F180 F181 L3 L7 R) (lcode 3 (codeOf Tryz.f173)) (stOf (le173_3 L3).H x 3) (roundK (le173_3 L3).H (le173_3 L3).exs kc ke) =
    p173_3 F179 R x.1 x.2.1 x.2.2.1 x.2.2.2.1 (fun x1 x2 x3 x4 => kc (x1, x2, x3, x4, ())) (fun y1 y2 => ke.1 (y1, y2, ())) := by kernel_rfl
noncomputable def G173_3 : Nat → LT173_3
  | 0 => fun _ _ _ _ _ _ => none
  | n + 1 => fun R x1 x2 x3 x4 k0 => p173_3 F179 R x1 x2 x3 x4 (fun x1 x2 x3 x4 => G173_3 n R x1 x2 x3 x4 k0) k0
def p173_7 (F180 : FT180) (F181 : FT181) : (R : Type) → Int → (List Int) → (List Int) → (Int → (List Int) → (List Int) → Option R) → ((List Int) → (List Int) → Option R) → Option R := fun R x1 x2 x3 kc k0 =>
let v4 : Bool := (decide (x1 < (64 : Int)));
(match v4 with
| true => let v5 : Int := (IntKind.i64.wrap (x1 - (2 : Int)));
(match (bnd v5 (64 : Int)) with
| true => let v6 : Int := (List.getD x3 (Int.toNat v5) (0 : Int));
F180 R v6 fun y7 =>
let v8 : Int := (IntKind.i64.wrap (x1 - (7 : Int)));
(match (bnd v8 (64 : Int)) with
| true => let v9 : Int := (List.getD x3 (Int.toNat v8) (0 : Int));
let v10 : Int := (IntKind.u32.wrap (y7 + v9));
let v11 : Int := (IntKind.i64.wrap (x1 - (15 : Int)));
(match (bnd v11 (64 : Int)) with
| true => let v12 : Int := (List.getD x3 (Int.toNat v11) (0 : Int));
F181 R v12 fun y13 =>
let v14 : Int := (IntKind.u32.wrap (v10 + y13));
let v15 : Int := (IntKind.i64.wrap (x1 - (16 : Int)));
(match (bnd v15 (64 : Int)) with
| true => let v16 : Int := (List.getD x3 (Int.toNat v15) (0 : Int));
let v17 : Int := (IntKind.u32.wrap (v14 + v16));
(match (bnd x1 (64 : Int)) with
| true => let v18 : (List Int) := (List.set x3 (Int.toNat x1) v17);
let v19 : Int := (IntKind.i64.wrap (x1 + (1 : Int)));
kc v19 x2 v18
| false => none)
| false => none)
| false => none)
| false => none)
| false => none)
| false => k0 x2 x3)
theorem q173_7 (F179 : FT179) (F180 : FT180) (F181 : FT181) (L3 : LT173_3) (L7 : LT173_7) (R : Type) (x : HT (le173_7 L7).H) (kc : HT (le173_7 L7).H → Option R) (ke : KT R (le173_7 L7).exs) :
  exec (e173 F179 F180 F181 L3 L7 R) (lcode 7 (codeOf Tryz.f173)) (stOf (le173_7 L7).H x 3) (roundK (le173_7 L7).H (le173_7 L7).exs kc ke) =
    p173_7 F180 F181 R x.1 x.2.1 x.2.2.1 (fun x1 x2 x3 => kc (x1, x2, x3, ())) (fun y1 y2 => ke.1 (y1, y2, ())) := by kernel_rfl
noncomputable def G173_7 : Nat → LT173_7
  | 0 => fun _ _ _ _ _ => none
  | n + 1 => fun R x1 x2 x3 k0 => p173_7 F180 F181 R x1 x2 x3 (fun x1 x2 x3 => G173_7 n R x1 x2 x3 k0) k0
def p173 (L3 : LT173_3) (L7 : LT173_7) : FT173 := fun R a0 k =>
L3 R (0 : Int) a0 (List.replicate 64 (0 : Int)) (List.replicate 64 (0 : Int)) (fun x1 x2 =>
L7 R (16 : Int) x1 x2 (fun x3 x4 =>
k x4))
theorem q173 (F179 : FT179) (F180 : FT180) (F181 : FT181) (L3 : LT173_3) (L7 : LT173_7) (F : FT173) (R : Type) (x : AT (en173 F).ins) (k : RT (en173 F).outs → PT (en173 F).ins → Option R) :
  xfun (e173 F179 F180 F181 L3 L7 R) (codeOf Tryz.f173) res173 (avs (en173 F).ins x) (finK (en173 F).outs (en173 F).ins k) = p173 L3 L7 R x.1 (fun y1 => k (y1, ()) ()) := by kernel_rfl
noncomputable def F173 : FT173 := p173 (G173_3 FUEL) (G173_7 FUEL)
theorem env173 (R : Type) : EnvOK Tryz.prog (e173 F179 F180 F181 (G173_3 FUEL) (G173_7 FUEL) R) := ⟨tabOK, eqOK, callOf_ok (allE_cons ok179 (allE_cons ok180 (allE_cons ok181 allE_nil))), noIns, inlOK_nil⟩
noncomputable def T173_3 : (R : Type) → HT (le173_3 (G173_3 FUEL)).H → (HT (le173_3 (G173_3 FUEL)).H → Option R) → KT R (le173_3 (G173_3 FUEL)).exs → Option R := fun R x kc ke => p173_3 F179 R x.1 x.2.1 x.2.2.1 x.2.2.2.1 (fun x1 x2 x3 x4 => kc (x1, x2, x3, x4, ())) (fun y1 y2 => ke.1 (y1, y2, ()))
theorem it173_3 : ∀ (n : Nat) (R : Type) (x : HT (le173_3 (G173_3 FUEL)).H) (ke : KT R (le173_3 (G173_3 FUEL)).exs), iter T173_3 n R x ke = G173_3 n R x.1 x.2.1 x.2.2.1 x.2.2.2.1 (fun y1 y2 => ke.1 (y1, y2, ())) := by
  intro n
  induction n with
  | zero => intro R x ke; rfl
  | succ n ih =>
    intro R x ke
    show T173_3 R x (fun x' => iter T173_3 n R x' ke) ke = _
    rw [show (fun x' => iter T173_3 n R x' ke) = fun x => G173_3 n R x.1 x.2.1 x.2.2.1 x.2.2.2.1 (fun y1 y2 => ke.1 (y1, y2, ())) from funext fun x' => ih R x' ke]
    rfl
theorem lok173_3 : (le173_3 (G173_3 FUEL)).OK Tryz.prog 0 61 (lcode 3 (codeOf Tryz.f173)) := fun R x ke r h =>
  iter_sound (fun R => e173 F179 F180 F181 (G173_3 FUEL) (G173_7 FUEL) R) 0 61 (fun _ => rfl) (fun _ => rfl) (fun R => env173 R) mixed (by
    intro R
    rw [show loopsOf (lcode 3 (codeOf Tryz.f173)) = [] from by kernel_rfl]
    exact allM_nil) (T := T173_3) (fun R x kc ke => q173_3 F179 F180 F181 (G173_3 FUEL) (G173_7 FUEL) R x kc ke) FUEL R x ke r ((it173_3 FUEL R x ke).trans h)
noncomputable def T173_7 : (R : Type) → HT (le173_7 (G173_7 FUEL)).H → (HT (le173_7 (G173_7 FUEL)).H → Option R) → KT R (le173_7 (G173_7 FUEL)).exs → Option R := fun R x kc ke => p173_7 F180 F181 R x.1 x.2.1 x.2.2.1 (fun x1 x2 x3 => kc (x1, x2, x3, ())) (fun y1 y2 => ke.1 (y1, y2, ()))
theorem it173_7 : ∀ (n : Nat) (R : Type) (x : HT (le173_7 (G173_7 FUEL)).H) (ke : KT R (le173_7 (G173_7 FUEL)).exs), iter T173_7 n R x ke = G173_7 n R x.1 x.2.1 x.2.2.1 (fun y1 y2 => ke.1 (y1, y2, ())) := by
  intro n
  induction n with
  | zero => intro R x ke; rfl
  | succ n ih =>
    intro R x ke
    show T173_7 R x (fun x' => iter T173_7 n R x' ke) ke = _
    rw [show (fun x' => iter T173_7 n R x' ke) = fun x => G173_7 n R x.1 x.2.1 x.2.2.1 (fun y1 y2 => ke.1 (y1, y2, ())) from funext fun x' => ih R x' ke]
    rfl
theorem lok173_7 : (le173_7 (G173_7 FUEL)).OK Tryz.prog 0 61 (lcode 7 (codeOf Tryz.f173)) := fun R x ke r h =>
  iter_sound (fun R => e173 F179 F180 F181 (G173_3 FUEL) (G173_7 FUEL) R) 0 61 (fun _ => rfl) (fun _ => rfl) (fun R => env173 R) mixed (by
    intro R
    rw [show loopsOf (lcode 7 (codeOf Tryz.f173)) = [] from by kernel_rfl]
    exact allM_nil) (T := T173_7) (fun R x kc ke => q173_7 F179 F180 F181 (G173_3 FUEL) (G173_7 FUEL) R x kc ke) FUEL R x ke r ((it173_7 FUEL R x ke).trans h)
theorem ok173 : (en173 F173).OK Tryz.prog :=
  ent_ok (Ef := fun R => e173 F179 F180 F181 (G173_3 FUEL) (G173_7 FUEL) R) (fun R => env173 R) mixed Tryz.func173 (body := codeOf Tryz.f173) (by kernel_rfl) (by kernel_rfl) (np := 0) (nt := 61) (fun _ => rfl) (fun _ => rfl) (by kernel_rfl) (res := res173) (by kernel_rfl) (fun _ => rfl) (fun _ => Nat.le_of_ble_eq_true rfl) (by
    intro R
    rw [show loopsOf (codeOf Tryz.f173) = [lcode 3 (codeOf Tryz.f173), lcode 7 (codeOf Tryz.f173)] from by kernel_rfl]
    exact (allM_cons (loop_ok2 (e := le173_3 (G173_3 FUEL)) rfl rfl lok173_3) (allM_cons (loop_ok2 (e := le173_7 (G173_7 FUEL)) rfl rfl lok173_7) allM_nil))) (fun R x k => q173 F179 F180 F181 (G173_3 FUEL) (G173_7 FUEL) F173 R x k)
abbrev FT175 : Type 1 := (R : Type) → Int → (Int → Option R) → Option R
def en175 (F : FT175) : Ent := ⟨175, [(false, (.int .i64))], [(false, (.int .u32))], fun R x k => F R x.1 (fun y1 => k (y1, ()) ())⟩
def res175 : List (ResultVar × TypeId × Bool) := [(.tmp 2, 84, false)]
noncomputable def e175 (R : Type) : Env R := ⟨TT, EQT, 0, 12, ownOf [], callOf [] R, loopOf [] R, [], inlOf []⟩
def p175 : FT175 := fun R a0 k =>
let v1 : Bool := (decide (a0 < (0 : Int)));
(match v1 with
| true => k (0 : Int)
| false => let v2 : Bool := (decide (a0 > (63 : Int)));
(match v2 with
| true => k (0 : Int)
| false => let v3 : (List Int) := (List.set (List.set (List.set (List.set (List.set (List.set (List.set (List.set (List.set (List.set (List.set (List.set (List.set (List.set (List.set (List.set (List.set (List.set (List.set (List.set (List.set (List.set (List.set (List.set (List.set (List.set (List.set (List.set (List.set (List.set (List.set (List.set (List.set (List.set (List.set (List.set (List.set (List.set (List.set (List.set (List.set (List.set (List.set (List.set (List.set (List.set (List.set (List.set (List.set (List.set (List.set (List.set (List.set (List.set (List.set (List.set (List.set (List.set (List.set (List.set (List.set (List.set (List.set (List.set (List.replicate 64 (0 : Int)) 0 (1116352408 : Int)) 1 (1899447441 : Int)) 2 (3049323471 : Int)) 3 (3921009573 : Int)) 4 (961987163 : Int)) 5 (1508970993 : Int)) 6 (2453635748 : Int)) 7 (2870763221 : Int)) 8 (3624381080 : Int)) 9 (310598401 : Int)) 10 (607225278 : Int)) 11 (1426881987 : Int)) 12 (1925078388 : Int)) 13 (2162078206 : Int)) 14 (2614888103 : Int)) 15 (3248222580 : Int)) 16 (3835390401 : Int)) 17 (4022224774 : Int)) 18 (264347078 : Int)) 19 (604807628 : Int)) 20 (770255983 : Int)) 21 (1249150122 : Int)) 22 (1555081692 : Int)) 23 (1996064986 : Int)) 24 (2554220882 : Int)) 25 (2821834349 : Int)) 26 (2952996808 : Int)) 27 (3210313671 : Int)) 28 (3336571891 : Int)) 29 (3584528711 : Int)) 30 (113926993 : Int)) 31 (338241895 : Int)) 32 (666307205 : Int)) 33 (773529912 : Int)) 34 (1294757372 : Int)) 35 (1396182291 : Int)) 36 (1695183700 : Int)) 37 (1986661051 : Int)) 38 (2177026350 : Int)) 39 (2456956037 : Int)) 40 (2730485921 : Int)) 41 (2820302411 : Int)) 42 (3259730800 : Int)) 43 (3345764771 : Int)) 44 (3516065817 : Int)) 45 (3600352804 : Int)) 46 (4094571909 : Int)) 47 (275423344 : Int)) 48 (430227734 : Int)) 49 (506948616 : Int)) 50 (659060556 : Int)) 51 (883997877 : Int)) 52 (958139571 : Int)) 53 (1322822218 : Int)) 54 (1537002063 : Int)) 55 (1747873779 : Int)) 56 (1955562222 : Int)) 57 (2024104815 : Int)) 58 (2227730452 : Int)) 59 (2361852424 : Int)) 60 (2428436474 : Int)) 61 (2756734187 : Int)) 62 (3204031479 : Int)) 63 (3329325298 : Int));
(match (bnd a0 (64 : Int)) with
| true => let v4 : Int := (List.getD v3 (Int.toNat a0) (0 : Int));
k v4
| false => none)))
theorem q175 (F : FT175) (R : Type) (x : AT (en175 F).ins) (k : RT (en175 F).outs → PT (en175 F).ins → Option R) :
  xfun (e175 R) (codeOf Tryz.f175) res175 (avs (en175 F).ins x) (finK (en175 F).outs (en175 F).ins k) = p175 R x.1 (fun y1 => k (y1, ()) ()) := by kernel_rfl
noncomputable def F175 : FT175 := p175
theorem env175 (R : Type) : EnvOK Tryz.prog (e175 R) := ⟨tabOK, eqOK, callOf_ok allE_nil, noIns, inlOK_nil⟩
theorem ok175 : (en175 F175).OK Tryz.prog :=
  ent_ok (Ef := fun R => e175 R) (fun R => env175 R) mixed Tryz.func175 (body := codeOf Tryz.f175) (by kernel_rfl) (by kernel_rfl) (np := 0) (nt := 12) (fun _ => rfl) (fun _ => rfl) (by kernel_rfl) (res := res175) (by kernel_rfl) (fun _ => rfl) (fun _ => Nat.le_of_ble_eq_true rfl) (by
    intro R
    rw [show loopsOf (codeOf Tryz.f175) = [] from by kernel_rfl]
    exact allM_nil) (fun R x k => q175 F175 R x k)
abbrev FT182 : Type 1 := (R : Type) → Int → Int → Int → Int → (Int → Option R) → Option R
def en182 (F : FT182) : Ent := ⟨182, [(false, (.int .u32)), (false, (.int .i64)), (false, (.int .i64)), (false, (.int .i64))], [(false, (.int .u32))], fun R x k => F R x.1 x.2.1 x.2.2.1 x.2.2.2.1 (fun y1 => k (y1, ()) ())⟩
def res182 : List (ResultVar × TypeId × Bool) := [(.tmp 8, 84, false)]
noncomputable def e182 (F190 : FT190) (R : Type) : Env R := ⟨TT, EQT, 0, 20, ownOf [], callOf [en190 F190] R, loopOf [] R, [], inlOf []⟩
def p182 (F190 : FT190) : FT182 := fun R a0 a1 a2 a3 k =>
F190 R a0 a1 fun y1 =>
F190 R a0 a2 fun y2 =>
let v3 : Int := (ixor .u32 y1 y2);
F190 R a0 a3 fun y4 =>
let v5 : Int := (ixor .u32 v3 y4);
k v5
theorem q182 (F190 : FT190) (F : FT182) (R : Type) (x : AT (en182 F).ins) (k : RT (en182 F).outs → PT (en182 F).ins → Option R) :
  xfun (e182 F190 R) (codeOf Tryz.f182) res182 (avs (en182 F).ins x) (finK (en182 F).outs (en182 F).ins k) = p182 F190 R x.1 x.2.1 x.2.2.1 x.2.2.2.1 (fun y1 => k (y1, ()) ()) := by kernel_rfl
noncomputable def F182 : FT182 := p182 F190
theorem env182 (R : Type) : EnvOK Tryz.prog (e182 F190 R) := ⟨tabOK, eqOK, callOf_ok (allE_cons ok190 allE_nil), noIns, inlOK_nil⟩
theorem ok182 : (en182 F182).OK Tryz.prog :=
  ent_ok (Ef := fun R => e182 F190 R) (fun R => env182 R) mixed Tryz.func182 (body := codeOf Tryz.f182) (by kernel_rfl) (by kernel_rfl) (np := 0) (nt := 20) (fun _ => rfl) (fun _ => rfl) (by kernel_rfl) (res := res182) (by kernel_rfl) (fun _ => rfl) (fun _ => Nat.le_of_ble_eq_true rfl) (by
    intro R
    rw [show loopsOf (codeOf Tryz.f182) = [] from by kernel_rfl]
    exact allM_nil) (fun R x k => q182 F190 F182 R x k)
abbrev FT183 : Type 1 := (R : Type) → Int → Int → Int → (Int → Option R) → Option R
def en183 (F : FT183) : Ent := ⟨183, [(false, (.int .u32)), (false, (.int .u32)), (false, (.int .u32))], [(false, (.int .u32))], fun R x k => F R x.1 x.2.1 x.2.2.1 (fun y1 => k (y1, ()) ())⟩
def res183 : List (ResultVar × TypeId × Bool) := [(.tmp 6, 84, false)]
noncomputable def e183 (R : Type) : Env R := ⟨TT, EQT, 0, 15, ownOf [], callOf [] R, loopOf [] R, [], inlOf []⟩
def p183 : FT183 := fun R a0 a1 a2 k =>
let v1 : Int := (iand .u32 a0 a1);
let v2 : Int := (IntKind.u32.wrap ((4294967295 : Int) - a0));
let v3 : Int := (iand .u32 v2 a2);
let v4 : Int := (ior .u32 v1 v3);
k v4
theorem q183 (F : FT183) (R : Type) (x : AT (en183 F).ins) (k : RT (en183 F).outs → PT (en183 F).ins → Option R) :
  xfun (e183 R) (codeOf Tryz.f183) res183 (avs (en183 F).ins x) (finK (en183 F).outs (en183 F).ins k) = p183 R x.1 x.2.1 x.2.2.1 (fun y1 => k (y1, ()) ()) := by kernel_rfl
noncomputable def F183 : FT183 := p183
theorem env183 (R : Type) : EnvOK Tryz.prog (e183 R) := ⟨tabOK, eqOK, callOf_ok allE_nil, noIns, inlOK_nil⟩
theorem ok183 : (en183 F183).OK Tryz.prog :=
  ent_ok (Ef := fun R => e183 R) (fun R => env183 R) mixed Tryz.func183 (body := codeOf Tryz.f183) (by kernel_rfl) (by kernel_rfl) (np := 0) (nt := 15) (fun _ => rfl) (fun _ => rfl) (by kernel_rfl) (res := res183) (by kernel_rfl) (fun _ => rfl) (fun _ => Nat.le_of_ble_eq_true rfl) (by
    intro R
    rw [show loopsOf (codeOf Tryz.f183) = [] from by kernel_rfl]
    exact allM_nil) (fun R x k => q183 F183 R x k)
abbrev FT184 : Type 1 := (R : Type) → Int → Int → Int → (Int → Option R) → Option R
def en184 (F : FT184) : Ent := ⟨184, [(false, (.int .u32)), (false, (.int .u32)), (false, (.int .u32))], [(false, (.int .u32))], fun R x k => F R x.1 x.2.1 x.2.2.1 (fun y1 => k (y1, ()) ())⟩
def res184 : List (ResultVar × TypeId × Bool) := [(.tmp 6, 84, false)]
noncomputable def e184 (R : Type) : Env R := ⟨TT, EQT, 0, 18, ownOf [], callOf [] R, loopOf [] R, [], inlOf []⟩
def p184 : FT184 := fun R a0 a1 a2 k =>
let v1 : Int := (iand .u32 a0 a1);
let v2 : Int := (iand .u32 a0 a2);
let v3 : Int := (ior .u32 v1 v2);
let v4 : Int := (iand .u32 a1 a2);
let v5 : Int := (ior .u32 v3 v4);
k v5
theorem q184 (F : FT184) (R : Type) (x : AT (en184 F).ins) (k : RT (en184 F).outs → PT (en184 F).ins → Option R) :
  xfun (e184 R) (codeOf Tryz.f184) res184 (avs (en184 F).ins x) (finK (en184 F).outs (en184 F).ins k) = p184 R x.1 x.2.1 x.2.2.1 (fun y1 => k (y1, ()) ()) := by kernel_rfl
noncomputable def F184 : FT184 := p184
theorem env184 (R : Type) : EnvOK Tryz.prog (e184 R) := ⟨tabOK, eqOK, callOf_ok allE_nil, noIns, inlOK_nil⟩
theorem ok184 : (en184 F184).OK Tryz.prog :=
  ent_ok (Ef := fun R => e184 R) (fun R => env184 R) mixed Tryz.func184 (body := codeOf Tryz.f184) (by kernel_rfl) (by kernel_rfl) (np := 0) (nt := 18) (fun _ => rfl) (fun _ => rfl) (by kernel_rfl) (res := res184) (by kernel_rfl) (fun _ => rfl) (fun _ => Nat.le_of_ble_eq_true rfl) (by
    intro R
    rw [show loopsOf (codeOf Tryz.f184) = [] from by kernel_rfl]
    exact allM_nil) (fun R x k => q184 F184 R x k)
abbrev FT174 : Type 1 := (R : Type) → (List Int) → Int → Int → ((List Int) → Option R) → Option R
def en174 (F : FT174) : Ent := ⟨174, [(false, (.arr 8 (.int .u32))), (false, (.int .u32)), (false, (.int .u32))], [(false, (.arr 8 (.int .u32)))], fun R x k => F R x.1 x.2.1 x.2.2.1 (fun y1 => k (y1, ()) ())⟩
def res174 : List (ResultVar × TypeId × Bool) := [(.cell 6 186, 186, false)]
noncomputable def e174 (F182 : FT182) (F183 : FT183) (F184 : FT184) (R : Type) : Env R := ⟨TT, EQT, 0, 58, ownOf [], callOf [en182 F182, en183 F183, en184 F184] R, loopOf [] R, [], inlOf []⟩
def p174 (F182 : FT182) (F183 : FT183) (F184 : FT184) : FT174 := fun R a0 a1 a2 k =>
let v1 : Int := (List.getD a0 7 (0 : Int));
let v2 : Int := (List.getD a0 4 (0 : Int));
F182 R v2 (6 : Int) (11 : Int) (25 : Int) fun y3 =>
let v4 : Int := (IntKind.u32.wrap (v1 + y3));
let v5 : Int := (List.getD a0 4 (0 : Int));
let v6 : Int := (List.getD a0 5 (0 : Int));
let v7 : Int := (List.getD a0 6 (0 : Int));
F183 R v5 v6 v7 fun y8 =>
let v9 : Int := (IntKind.u32.wrap (v4 + y8));
let v10 : Int := (IntKind.u32.wrap (v9 + a2));
let v11 : Int := (IntKind.u32.wrap (v10 + a1));
let v12 : Int := (List.getD a0 0 (0 : Int));
F182 R v12 (2 : Int) (13 : Int) (22 : Int) fun y13 =>
let v14 : Int := (List.getD a0 0 (0 : Int));
let v15 : Int := (List.getD a0 1 (0 : Int));
let v16 : Int := (List.getD a0 2 (0 : Int));
F184 R v14 v15 v16 fun y17 =>
let v18 : Int := (IntKind.u32.wrap (y13 + y17));
let v19 : Int := (IntKind.u32.wrap (v11 + v18));
let v20 : Int := (List.getD a0 0 (0 : Int));
let v21 : Int := (List.getD a0 1 (0 : Int));
let v22 : Int := (List.getD a0 2 (0 : Int));
let v23 : Int := (List.getD a0 3 (0 : Int));
let v24 : Int := (IntKind.u32.wrap (v23 + v11));
let v25 : Int := (List.getD a0 4 (0 : Int));
let v26 : Int := (List.getD a0 5 (0 : Int));
let v27 : Int := (List.getD a0 6 (0 : Int));
let v28 : (List Int) := (List.set (List.set (List.set (List.set (List.set (List.set (List.set (List.set (List.replicate 8 (0 : Int)) 0 v19) 1 v20) 2 v21) 3 v22) 4 v24) 5 v25) 6 v26) 7 v27);
k v28
theorem q174 (F182 : FT182) (F183 : FT183) (F184 : FT184) (F : FT174) (R : Type) (x : AT (en174 F).ins) (k : RT (en174 F).outs → PT (en174 F).ins → Option R) :
  xfun (e174 F182 F183 F184 R) (codeOf Tryz.f174) res174 (avs (en174 F).ins x) (finK (en174 F).outs (en174 F).ins k) = p174 F182 F183 F184 R x.1 x.2.1 x.2.2.1 (fun y1 => k (y1, ()) ()) := by kernel_rfl
noncomputable def F174 : FT174 := p174 F182 F183 F184
theorem env174 (R : Type) : EnvOK Tryz.prog (e174 F182 F183 F184 R) := ⟨tabOK, eqOK, callOf_ok (allE_cons ok182 (allE_cons ok183 (allE_cons ok184 allE_nil))), noIns, inlOK_nil⟩
theorem ok174 : (en174 F174).OK Tryz.prog :=
  ent_ok (Ef := fun R => e174 F182 F183 F184 R) (fun R => env174 R) mixed Tryz.func174 (body := codeOf Tryz.f174) (by kernel_rfl) (by kernel_rfl) (np := 0) (nt := 58) (fun _ => rfl) (fun _ => rfl) (by kernel_rfl) (res := res174) (by kernel_rfl) (fun _ => rfl) (fun _ => Nat.le_of_ble_eq_true rfl) (by
    intro R
    rw [show loopsOf (codeOf Tryz.f174) = [] from by kernel_rfl]
    exact allM_nil) (fun R x k => q174 F182 F183 F184 F174 R x k)
abbrev FT167 : Type 1 := (R : Type) → (List Int) → (List Int) → ((List Int) → Option R) → Option R
def en167 (F : FT167) : Ent := ⟨167, [(false, (.arr 8 (.int .u32))), (false, (.arr 64 (.int .u8)))], [(false, (.arr 8 (.int .u32)))], fun R x k => F R x.1 x.2.1 (fun y1 => k (y1, ()) ())⟩
def res167 : List (ResultVar × TypeId × Bool) := [(.cell 4 186, 186, false)]
abbrev LT167_4 : Type 1 := (R : Type) → Int → (List Int) → (List Int) → (List Int) → (List Int) → ((List Int) → (List Int) → (List Int) → Option R) → Option R
def le167_4 (L : LT167_4) : LEnt := ⟨4, [.fix 2 (.ptr 0 [] (.arr 8 (.int .u32))), .fix 4 (.ptr 2 [] (.arr 8 (.int .u32))), .fix 5 (.ptr 3 [] (.arr 64 (.int .u32))), .fix 6 (.ptr 4 [] (.arr 8 (.int .u32))), .val 7 (.int .i64), .var 0 (.arr 8 (.int .u32)) false, .var 2 (.arr 8 (.int .u32)) false, .var 3 (.arr 64 (.int .u32)) false, .var 4 (.arr 8 (.int .u32)) false], 5, [(.exit 0, [.fix 2 (.ptr 0 [] (.arr 8 (.int .u32))), .fix 4 (.ptr 2 [] (.arr 8 (.int .u32))), .fix 6 (.ptr 4 [] (.arr 8 (.int .u32))), .var 0 (.arr 8 (.int .u32)) false, .var 2 (.arr 8 (.int .u32)) false, .var 4 (.arr 8 (.int .u32)) false])], fun R x ke => L R x.1 x.2.1 x.2.2.1 x.2.2.2.1 x.2.2.2.2.1 (fun y1 y2 y3 => ke.1 (y1, y2, y3, ()))⟩
abbrev LT167_8 : Type 1 := (R : Type) → Int → (List Int) → (List Int) → (List Int) → ((List Int) → (List Int) → Option R) → Option R
def le167_8 (L : LT167_8) : LEnt := ⟨8, [.fix 2 (.ptr 0 [] (.arr 8 (.int .u32))), .fix 4 (.ptr 2 [] (.arr 8 (.int .u32))), .fix 6 (.ptr 4 [] (.arr 8 (.int .u32))), .val 8 (.int .i64), .var 0 (.arr 8 (.int .u32)) false, .var 2 (.arr 8 (.int .u32)) false, .var 4 (.arr 8 (.int .u32)) false], 5, [(.exit 2, [.fix 4 (.ptr 2 [] (.arr 8 (.int .u32))), .fix 6 (.ptr 4 [] (.arr 8 (.int .u32))), .var 2 (.arr 8 (.int .u32)) false, .var 4 (.arr 8 (.int .u32)) false])], fun R x ke => L R x.1 x.2.1 x.2.2.1 x.2.2.2.1 (fun y1 y2 => ke.1 (y1, y2, ()))⟩
noncomputable def e167 (F173 : FT173) (F174 : FT174) (F175 : FT175) (L4 : LT167_4) (L8 : LT167_8) (R : Type) : Env R := ⟨TT, EQT, 0, 37, ownOf [], callOf [en173 F173, en174 F174, en175 F175] R, loopOf [le167_4 L4, le167_8 L8] R, [], inlOf []⟩
def p167_4 (F174 : FT174) (F175 : FT175) : (R : Type) → Int → (List Int) → (List Int) → (List Int) → (List Int) → (Int → (List Int) → (List Int) → (List Int) → (List Int) → Option R) → ((List Int) → (List Int) → (List Int) → Option R) → Option R := fun R x1 x2 x3 x4 x5 kc k0 =>
let v6 : Bool := (decide (x1 < (64 : Int)));
(match v6 with
| true => (match (bnd x1 (64 : Int)) with
| true => let v7 : Int := (List.getD x4 (Int.toNat x1) (0 : Int));
F175 R x1 fun y8 =>
F174 R x5 v7 y8 fun y9 =>
let v10 : Int := (IntKind.i64.wrap (x1 + (1 : Int)));
kc v10 x2 x3 x4 y9
| false => none)
| false => k0 x2 x3 x5)
theorem q167_4 (F173 : FT173) (F174 : FT174) (F175 : FT175) (L4 : LT167_4) (L8 : LT167_8) (R : Type) (x : HT (le167_4 L4).H) (kc : HT (le167_4 L4).H → Option R) (ke : KT R (le167_4 L4).exs) :
  exec (e167 F173 F174 F175 L4 L8 R) (lcode 4 (codeOf Tryz.f167)) (stOf (le167_4 L4).H x 5) (roundK (le167_4 L4).H (le167_4 L4).exs kc ke) =
    p167_4 F174 F175 R x.1 x.2.1 x.2.2.1 x.2.2.2.1 x.2.2.2.2.1 (fun x1 x2 x3 x4 x5 => kc (x1, x2, x3, x4, x5, ())) (fun y1 y2 y3 => ke.1 (y1, y2, y3, ())) := by kernel_rfl
noncomputable def G167_4 : Nat → LT167_4
  | 0 => fun _ _ _ _ _ _ _ => none
  | n + 1 => fun R x1 x2 x3 x4 x5 k0 => p167_4 F174 F175 R x1 x2 x3 x4 x5 (fun x1 x2 x3 x4 x5 => G167_4 n R x1 x2 x3 x4 x5 k0) k0
def p167_8 : (R : Type) → Int → (List Int) → (List Int) → (List Int) → (Int → (List Int) → (List Int) → (List Int) → Option R) → ((List Int) → (List Int) → Option R) → Option R := fun R x1 x2 x3 x4 kc k0 =>
let v5 : Bool := (decide (x1 < (8 : Int)));
(match v5 with
| true => (match (bnd x1 (8 : Int)) with
| true => let v6 : Int := (List.getD x4 (Int.toNat x1) (0 : Int));
(match (bnd x1 (8 : Int)) with
| true => let v7 : Int := (List.getD x2 (Int.toNat x1) (0 : Int));
let v8 : Int := (IntKind.u32.wrap (v6 + v7));
(match (bnd x1 (8 : Int)) with
| true => let v9 : (List Int) := (List.set x4 (Int.toNat x1) v8);
let v10 : Int := (IntKind.i64.wrap (x1 + (1 : Int)));
kc v10 x2 x3 v9
| false => none)
| false => none)
| false => none)
| false => k0 x3 x4)
theorem q167_8 (F173 : FT173) (F174 : FT174) (F175 : FT175) (L4 : LT167_4) (L8 : LT167_8) (R : Type) (x : HT (le167_8 L8).H) (kc : HT (le167_8 L8).H → Option R) (ke : KT R (le167_8 L8).exs) :
  exec (e167 F173 F174 F175 L4 L8 R) (lcode 8 (codeOf Tryz.f167)) (stOf (le167_8 L8).H x 5) (roundK (le167_8 L8).H (le167_8 L8).exs kc ke) =
    p167_8 R x.1 x.2.1 x.2.2.1 x.2.2.2.1 (fun x1 x2 x3 x4 => kc (x1, x2, x3, x4, ())) (fun y1 y2 => ke.1 (y1, y2, ())) := by kernel_rfl
noncomputable def G167_8 : Nat → LT167_8
  | 0 => fun _ _ _ _ _ _ => none
  | n + 1 => fun R x1 x2 x3 x4 k0 => p167_8 R x1 x2 x3 x4 (fun x1 x2 x3 x4 => G167_8 n R x1 x2 x3 x4 k0) k0
def p167 (F173 : FT173) (L4 : LT167_4) (L8 : LT167_8) : FT167 := fun R a0 a1 k =>
F173 R a1 fun y1 =>
L4 R (0 : Int) a0 (List.replicate 8 (0 : Int)) y1 a0 (fun x2 x3 x4 =>
L8 R (0 : Int) x2 x3 x4 (fun x5 x6 =>
k x6))
theorem q167 (F173 : FT173) (F174 : FT174) (F175 : FT175) (L4 : LT167_4) (L8 : LT167_8) (F : FT167) (R : Type) (x : AT (en167 F).ins) (k : RT (en167 F).outs → PT (en167 F).ins → Option R) :
  xfun (e167 F173 F174 F175 L4 L8 R) (codeOf Tryz.f167) res167 (avs (en167 F).ins x) (finK (en167 F).outs (en167 F).ins k) = p167 F173 L4 L8 R x.1 x.2.1 (fun y1 => k (y1, ()) ()) := by kernel_rfl
noncomputable def F167 : FT167 := p167 F173 (G167_4 FUEL) (G167_8 FUEL)
theorem env167 (R : Type) : EnvOK Tryz.prog (e167 F173 F174 F175 (G167_4 FUEL) (G167_8 FUEL) R) := ⟨tabOK, eqOK, callOf_ok (allE_cons ok173 (allE_cons ok174 (allE_cons ok175 allE_nil))), noIns, inlOK_nil⟩
noncomputable def T167_4 : (R : Type) → HT (le167_4 (G167_4 FUEL)).H → (HT (le167_4 (G167_4 FUEL)).H → Option R) → KT R (le167_4 (G167_4 FUEL)).exs → Option R := fun R x kc ke => p167_4 F174 F175 R x.1 x.2.1 x.2.2.1 x.2.2.2.1 x.2.2.2.2.1 (fun x1 x2 x3 x4 x5 => kc (x1, x2, x3, x4, x5, ())) (fun y1 y2 y3 => ke.1 (y1, y2, y3, ()))
theorem it167_4 : ∀ (n : Nat) (R : Type) (x : HT (le167_4 (G167_4 FUEL)).H) (ke : KT R (le167_4 (G167_4 FUEL)).exs), iter T167_4 n R x ke = G167_4 n R x.1 x.2.1 x.2.2.1 x.2.2.2.1 x.2.2.2.2.1 (fun y1 y2 y3 => ke.1 (y1, y2, y3, ())) := by
  intro n
  induction n with
  | zero => intro R x ke; rfl
  | succ n ih =>
    intro R x ke
    show T167_4 R x (fun x' => iter T167_4 n R x' ke) ke = _
    rw [show (fun x' => iter T167_4 n R x' ke) = fun x => G167_4 n R x.1 x.2.1 x.2.2.1 x.2.2.2.1 x.2.2.2.2.1 (fun y1 y2 y3 => ke.1 (y1, y2, y3, ())) from funext fun x' => ih R x' ke]
    rfl
theorem lok167_4 : (le167_4 (G167_4 FUEL)).OK Tryz.prog 0 37 (lcode 4 (codeOf Tryz.f167)) := fun R x ke r h =>
  iter_sound (fun R => e167 F173 F174 F175 (G167_4 FUEL) (G167_8 FUEL) R) 0 37 (fun _ => rfl) (fun _ => rfl) (fun R => env167 R) mixed (by
    intro R
    rw [show loopsOf (lcode 4 (codeOf Tryz.f167)) = [] from by kernel_rfl]
    exact allM_nil) (T := T167_4) (fun R x kc ke => q167_4 F173 F174 F175 (G167_4 FUEL) (G167_8 FUEL) R x kc ke) FUEL R x ke r ((it167_4 FUEL R x ke).trans h)
noncomputable def T167_8 : (R : Type) → HT (le167_8 (G167_8 FUEL)).H → (HT (le167_8 (G167_8 FUEL)).H → Option R) → KT R (le167_8 (G167_8 FUEL)).exs → Option R := fun R x kc ke => p167_8 R x.1 x.2.1 x.2.2.1 x.2.2.2.1 (fun x1 x2 x3 x4 => kc (x1, x2, x3, x4, ())) (fun y1 y2 => ke.1 (y1, y2, ()))
theorem it167_8 : ∀ (n : Nat) (R : Type) (x : HT (le167_8 (G167_8 FUEL)).H) (ke : KT R (le167_8 (G167_8 FUEL)).exs), iter T167_8 n R x ke = G167_8 n R x.1 x.2.1 x.2.2.1 x.2.2.2.1 (fun y1 y2 => ke.1 (y1, y2, ())) := by
  intro n
  induction n with
  | zero => intro R x ke; rfl
  | succ n ih =>
    intro R x ke
    show T167_8 R x (fun x' => iter T167_8 n R x' ke) ke = _
    rw [show (fun x' => iter T167_8 n R x' ke) = fun x => G167_8 n R x.1 x.2.1 x.2.2.1 x.2.2.2.1 (fun y1 y2 => ke.1 (y1, y2, ())) from funext fun x' => ih R x' ke]
    rfl
theorem lok167_8 : (le167_8 (G167_8 FUEL)).OK Tryz.prog 0 37 (lcode 8 (codeOf Tryz.f167)) := fun R x ke r h =>
  iter_sound (fun R => e167 F173 F174 F175 (G167_4 FUEL) (G167_8 FUEL) R) 0 37 (fun _ => rfl) (fun _ => rfl) (fun R => env167 R) mixed (by
    intro R
    rw [show loopsOf (lcode 8 (codeOf Tryz.f167)) = [] from by kernel_rfl]
    exact allM_nil) (T := T167_8) (fun R x kc ke => q167_8 F173 F174 F175 (G167_4 FUEL) (G167_8 FUEL) R x kc ke) FUEL R x ke r ((it167_8 FUEL R x ke).trans h)
theorem ok167 : (en167 F167).OK Tryz.prog :=
  ent_ok (Ef := fun R => e167 F173 F174 F175 (G167_4 FUEL) (G167_8 FUEL) R) (fun R => env167 R) mixed Tryz.func167 (body := codeOf Tryz.f167) (by kernel_rfl) (by kernel_rfl) (np := 0) (nt := 37) (fun _ => rfl) (fun _ => rfl) (by kernel_rfl) (res := res167) (by kernel_rfl) (fun _ => rfl) (fun _ => Nat.le_of_ble_eq_true rfl) (by
    intro R
    rw [show loopsOf (codeOf Tryz.f167) = [lcode 4 (codeOf Tryz.f167), lcode 8 (codeOf Tryz.f167)] from by kernel_rfl]
    exact (allM_cons (loop_ok2 (e := le167_4 (G167_4 FUEL)) rfl rfl lok167_4) (allM_cons (loop_ok2 (e := le167_8 (G167_8 FUEL)) rfl rfl lok167_8) allM_nil))) (fun R x k => q167 F173 F174 F175 (G167_4 FUEL) (G167_8 FUEL) F167 R x k)
abbrev FT157 : Type 1 := (R : Type) → (List Int) → (List (List Int)) → ((List Int) → Option R) → Option R
def en157 (F : FT157) : Ent := ⟨157, [(false, (.arr 8 (.int .u32))), (false, (.sl (.arr 64 (.int .u8))))], [(false, (.arr 8 (.int .u32)))], fun R x k => F R x.1 x.2.1 (fun y1 => k (y1, ()) ())⟩
def res157 : List (ResultVar × TypeId × Bool) := [(.cell 4 186, 186, false)]
abbrev LT157_2 : Type 1 := (R : Type) → (List (List Int)) → Int → (List Int) → (List Int) → ((List Int) → (List Int) → Option R) → Option R
def le157_2 (L : LT157_2) : LEnt := ⟨2, [.val 1 (.sl (.arr 64 (.int .u8))), .fix 2 (.ptr 0 [] (.arr 8 (.int .u32))), .fix 4 (.ptr 1 [] (.arr 8 (.int .u32))), .val 5 (.int .i64), .var 0 (.arr 8 (.int .u32)) false, .var 1 (.arr 8 (.int .u32)) false], 2, [(.exit 0, [.fix 2 (.ptr 0 [] (.arr 8 (.int .u32))), .fix 4 (.ptr 1 [] (.arr 8 (.int .u32))), .var 0 (.arr 8 (.int .u32)) false, .var 1 (.arr 8 (.int .u32)) false])], fun R x ke => L R x.1 x.2.1 x.2.2.1 x.2.2.2.1 (fun y1 y2 => ke.1 (y1, y2, ()))⟩
noncomputable def e157 (F167 : FT167) (L2 : LT157_2) (R : Type) : Env R := ⟨TT, EQT, 0, 19, ownOf [], callOf [en167 F167] R, loopOf [le157_2 L2] R, [], inlOf []⟩
def p157_2 (F167 : FT167) : (R : Type) → (List (List Int)) → Int → (List Int) → (List Int) → ((List (List Int)) → Int → (List Int) → (List Int) → Option R) → ((List Int) → (List Int) → Option R) → Option R := fun R x1 x2 x3 x4 kc k0 =>
let v5 : Int := (List.length x1 : Int);
let v6 : Bool := (decide (x2 < v5));
(match v6 with
| true => (match (bnd x2 (List.length x1 : Int)) with
| true => let v7 : (List Int) := (List.getD x1 (Int.toNat x2) (List.replicate 64 (0 : Int)));
F167 R x3 v7 fun y8 =>
let v9 : Int := (IntKind.i64.wrap (x2 + (1 : Int)));
kc x1 v9 y8 x4
| false => none)
| false => k0 x3 x4)
theorem q157_2 (F167 : FT167) (L2 : LT157_2) (R : Type) (x : HT (le157_2 L2).H) (kc : HT (le157_2 L2).H → Option R) (ke : KT R (le157_2 L2).exs) :
  exec (e157 F167 L2 R) (lcode 2 (codeOf Tryz.f157)) (stOf (le157_2 L2).H x 2) (roundK (le157_2 L2).H (le157_2 L2).exs kc ke) =
    p157_2 F167 R x.1 x.2.1 x.2.2.1 x.2.2.2.1 (fun x1 x2 x3 x4 => kc (x1, x2, x3, x4, ())) (fun y1 y2 => ke.1 (y1, y2, ())) := by kernel_rfl
noncomputable def G157_2 : Nat → LT157_2
  | 0 => fun _ _ _ _ _ _ => none
  | n + 1 => fun R x1 x2 x3 x4 k0 => p157_2 F167 R x1 x2 x3 x4 (fun x1 x2 x3 x4 => G157_2 n R x1 x2 x3 x4 k0) k0
def p157 (L2 : LT157_2) : FT157 := fun R a0 a1 k =>
L2 R a1 (0 : Int) a0 (List.replicate 8 (0 : Int)) (fun x1 x2 =>
k x1)
theorem q157 (F167 : FT167) (L2 : LT157_2) (F : FT157) (R : Type) (x : AT (en157 F).ins) (k : RT (en157 F).outs → PT (en157 F).ins → Option R) :
  xfun (e157 F167 L2 R) (codeOf Tryz.f157) res157 (avs (en157 F).ins x) (finK (en157 F).outs (en157 F).ins k) = p157 L2 R x.1 x.2.1 (fun y1 => k (y1, ()) ()) := by kernel_rfl
noncomputable def F157 : FT157 := p157 (G157_2 FUEL)
theorem env157 (R : Type) : EnvOK Tryz.prog (e157 F167 (G157_2 FUEL) R) := ⟨tabOK, eqOK, callOf_ok (allE_cons ok167 allE_nil), noIns, inlOK_nil⟩
noncomputable def T157_2 : (R : Type) → HT (le157_2 (G157_2 FUEL)).H → (HT (le157_2 (G157_2 FUEL)).H → Option R) → KT R (le157_2 (G157_2 FUEL)).exs → Option R := fun R x kc ke => p157_2 F167 R x.1 x.2.1 x.2.2.1 x.2.2.2.1 (fun x1 x2 x3 x4 => kc (x1, x2, x3, x4, ())) (fun y1 y2 => ke.1 (y1, y2, ()))
theorem it157_2 : ∀ (n : Nat) (R : Type) (x : HT (le157_2 (G157_2 FUEL)).H) (ke : KT R (le157_2 (G157_2 FUEL)).exs), iter T157_2 n R x ke = G157_2 n R x.1 x.2.1 x.2.2.1 x.2.2.2.1 (fun y1 y2 => ke.1 (y1, y2, ())) := by
  intro n
  induction n with
  | zero => intro R x ke; rfl
  | succ n ih =>
    intro R x ke
    show T157_2 R x (fun x' => iter T157_2 n R x' ke) ke = _
    rw [show (fun x' => iter T157_2 n R x' ke) = fun x => G157_2 n R x.1 x.2.1 x.2.2.1 x.2.2.2.1 (fun y1 y2 => ke.1 (y1, y2, ())) from funext fun x' => ih R x' ke]
    rfl
theorem lok157_2 : (le157_2 (G157_2 FUEL)).OK Tryz.prog 0 19 (lcode 2 (codeOf Tryz.f157)) := fun R x ke r h =>
  iter_sound (fun R => e157 F167 (G157_2 FUEL) R) 0 19 (fun _ => rfl) (fun _ => rfl) (fun R => env157 R) mixed (by
    intro R
    rw [show loopsOf (lcode 2 (codeOf Tryz.f157)) = [] from by kernel_rfl]
    exact allM_nil) (T := T157_2) (fun R x kc ke => q157_2 F167 (G157_2 FUEL) R x kc ke) FUEL R x ke r ((it157_2 FUEL R x ke).trans h)
theorem ok157 : (en157 F157).OK Tryz.prog :=
  ent_ok (Ef := fun R => e157 F167 (G157_2 FUEL) R) (fun R => env157 R) mixed Tryz.func157 (body := codeOf Tryz.f157) (by kernel_rfl) (by kernel_rfl) (np := 0) (nt := 19) (fun _ => rfl) (fun _ => rfl) (by kernel_rfl) (res := res157) (by kernel_rfl) (fun _ => rfl) (fun _ => Nat.le_of_ble_eq_true rfl) (by
    intro R
    rw [show loopsOf (codeOf Tryz.f157) = [lcode 2 (codeOf Tryz.f157)] from by kernel_rfl]
    exact (allM_cons (loop_ok2 (e := le157_2 (G157_2 FUEL)) rfl rfl lok157_2) allM_nil)) (fun R x k => q157 F167 (G157_2 FUEL) F157 R x k)
abbrev FT166 : Type 1 := (R : Type) → Int → ((List Int) → Option R) → Option R
def en166 (F : FT166) : Ent := ⟨166, [(false, (.int .u32))], [(false, (.arr 4 (.int .u8)))], fun R x k => F R x.1 (fun y1 => k (y1, ()) ())⟩
def res166 : List (ResultVar × TypeId × Bool) := [(.cell 2 209, 209, false)]
noncomputable def e166 (R : Type) : Env R := ⟨TT, EQT, 0, 18, ownOf [], callOf [] R, loopOf [] R, [], inlOf []⟩
def p166 : FT166 := fun R a0 k =>
let v1 : Int := (IntKind.u32.wrap (Int.tdiv a0 (16777216 : Int)));
let v2 : Int := (IntKind.u8.wrap v1);
let v3 : Int := (IntKind.u32.wrap (Int.tdiv a0 (65536 : Int)));
let v4 : Int := (Int.tmod v3 (256 : Int));
let v5 : Int := (IntKind.u8.wrap v4);
let v6 : Int := (IntKind.u32.wrap (Int.tdiv a0 (256 : Int)));
let v7 : Int := (Int.tmod v6 (256 : Int));
let v8 : Int := (IntKind.u8.wrap v7);
let v9 : Int := (Int.tmod a0 (256 : Int));
let v10 : Int := (IntKind.u8.wrap v9);
let v11 : (List Int) := (List.set (List.set (List.set (List.set (List.replicate 4 (0 : Int)) 0 v2) 1 v5) 2 v8) 3 v10);
k v11
theorem q166 (F : FT166) (R : Type) (x : AT (en166 F).ins) (k : RT (en166 F).outs → PT (en166 F).ins → Option R) :
  xfun (e166 R) (codeOf Tryz.f166) res166 (avs (en166 F).ins x) (finK (en166 F).outs (en166 F).ins k) = p166 R x.1 (fun y1 => k (y1, ()) ()) := by kernel_rfl
noncomputable def F166 : FT166 := p166
theorem env166 (R : Type) : EnvOK Tryz.prog (e166 R) := ⟨tabOK, eqOK, callOf_ok allE_nil, noIns, inlOK_nil⟩
theorem ok166 : (en166 F166).OK Tryz.prog :=
  ent_ok (Ef := fun R => e166 R) (fun R => env166 R) mixed Tryz.func166 (body := codeOf Tryz.f166) (by kernel_rfl) (by kernel_rfl) (np := 0) (nt := 18) (fun _ => rfl) (fun _ => rfl) (by kernel_rfl) (res := res166) (by kernel_rfl) (fun _ => rfl) (fun _ => Nat.le_of_ble_eq_true rfl) (by
    intro R
    rw [show loopsOf (codeOf Tryz.f166) = [] from by kernel_rfl]
    exact allM_nil) (fun R x k => q166 F166 R x k)
abbrev FT156 : Type 1 := (R : Type) → (List Int) → ((List Int) → Option R) → Option R
def en156 (F : FT156) : Ent := ⟨156, [(false, (.arr 8 (.int .u32)))], [(false, (.arr 32 (.int .u8)))], fun R x k => F R x.1 (fun y1 => k (y1, ()) ())⟩
def res156 : List (ResultVar × TypeId × Bool) := [(.cell 2 28, 28, false)]
abbrev LT156_3 : Type 1 := (R : Type) → Int → (List Int) → (List Int) → (List Int) → ((List Int) → (List Int) → Option R) → Option R
def le156_3 (L : LT156_3) : LEnt := ⟨3, [.fix 1 (.ptr 0 [] (.arr 8 (.int .u32))), .fix 2 (.ptr 1 [] (.arr 32 (.int .u8))), .fix 3 (.ptr 2 [] (.arr 32 (.int .u8))), .val 4 (.int .i64), .var 0 (.arr 8 (.int .u32)) false, .var 1 (.arr 32 (.int .u8)) false, .var 2 (.arr 32 (.int .u8)) false], 3, [(.exit 0, [.fix 2 (.ptr 1 [] (.arr 32 (.int .u8))), .fix 3 (.ptr 2 [] (.arr 32 (.int .u8))), .var 1 (.arr 32 (.int .u8)) false, .var 2 (.arr 32 (.int .u8)) false])], fun R x ke => L R x.1 x.2.1 x.2.2.1 x.2.2.2.1 (fun y1 y2 => ke.1 (y1, y2, ()))⟩
abbrev LT156_7 : Type 1 := (R : Type) → Int → Int → (List Int) → (List Int) → (List Int) → (List Int) → (Int → (List Int) → (List Int) → (List Int) → Option R) → Option R
def le156_7 (L : LT156_7) : LEnt := ⟨7, [.fix 1 (.ptr 0 [] (.arr 8 (.int .u32))), .fix 2 (.ptr 1 [] (.arr 32 (.int .u8))), .fix 3 (.ptr 2 [] (.arr 32 (.int .u8))), .val 4 (.int .i64), .fix 5 (.ptr 3 [] (.arr 4 (.int .u8))), .val 6 (.int .i64), .var 0 (.arr 8 (.int .u32)) false, .var 1 (.arr 32 (.int .u8)) false, .var 2 (.arr 32 (.int .u8)) false, .var 3 (.arr 4 (.int .u8)) false], 4, [(.exit 2, [.fix 1 (.ptr 0 [] (.arr 8 (.int .u32))), .fix 2 (.ptr 1 [] (.arr 32 (.int .u8))), .fix 3 (.ptr 2 [] (.arr 32 (.int .u8))), .val 4 (.int .i64), .var 0 (.arr 8 (.int .u32)) false, .var 1 (.arr 32 (.int .u8)) false, .var 2 (.arr 32 (.int .u8)) false])], fun R x ke => L R x.1 x.2.1 x.2.2.1 x.2.2.2.1 x.2.2.2.2.1 x.2.2.2.2.2.1 (fun y1 y2 y3 y4 => ke.1 (y1, y2, y3, y4, ()))⟩
noncomputable def e156 (F166 : FT166) (L3 : LT156_3) (L7 : LT156_7) (R : Type) : Env R := ⟨TT, EQT, 0, 28, ownOf [], callOf [en166 F166] R, loopOf [le156_3 L3, le156_7 L7] R, [], inlOf []⟩
def p156_7 : (R : Type) → Int → Int → (List Int) → (List Int) → (List Int) → (List Int) → (Int → Int → (List Int) → (List Int) → (List Int) → (List Int) → Option R) → (Int → (List Int) → (List Int) → (List Int) → Option R) → Option R := fun R x1 x2 x3 x4 x5 x6 kc k0 =>
let v7 : Bool := (decide (x2 < (4 : Int)));
(match v7 with
| true => let v8 : Int := (IntKind.i64.wrap ((4 : Int) * x1));
let v9 : Int := (IntKind.i64.wrap (v8 + x2));
(match (bnd x2 (4 : Int)) with
| true => let v10 : Int := (List.getD x6 (Int.toNat x2) (0 : Int));
(match (bnd v9 (32 : Int)) with
| true => let v11 : (List Int) := (List.set x5 (Int.toNat v9) v10);
let v12 : Int := (IntKind.i64.wrap (x2 + (1 : Int)));
kc x1 v12 x3 x4 v11 x6
| false => none)
| false => none)
| false => k0 x1 x3 x4 x5)
theorem q156_7 (F166 : FT166) (L3 : LT156_3) (L7 : LT156_7) (R : Type) (x : HT (le156_7 L7).H) (kc : HT (le156_7 L7).H → Option R) (ke : KT R (le156_7 L7).exs) :
  exec (e156 F166 L3 L7 R) (lcode 7 (codeOf Tryz.f156)) (stOf (le156_7 L7).H x 4) (roundK (le156_7 L7).H (le156_7 L7).exs kc ke) =
    p156_7 R x.1 x.2.1 x.2.2.1 x.2.2.2.1 x.2.2.2.2.1 x.2.2.2.2.2.1 (fun x1 x2 x3 x4 x5 x6 => kc (x1, x2, x3, x4, x5, x6, ())) (fun y1 y2 y3 y4 => ke.1 (y1, y2, y3, y4, ())) := by kernel_rfl
noncomputable def G156_7 : Nat → LT156_7
  | 0 => fun _ _ _ _ _ _ _ _ => none
  | n + 1 => fun R x1 x2 x3 x4 x5 x6 k0 => p156_7 R x1 x2 x3 x4 x5 x6 (fun x1 x2 x3 x4 x5 x6 => G156_7 n R x1 x2 x3 x4 x5 x6 k0) k0
def p156_3 (F166 : FT166) (L7 : LT156_7) : (R : Type) → Int → (List Int) → (List Int) → (List Int) → (Int → (List Int) → (List Int) → (List Int) → Option R) → ((List Int) → (List Int) → Option R) → Option R := fun R x1 x2 x3 x4 kc k0 =>
let v5 : Bool := (decide (x1 < (8 : Int)));
(match v5 with
| true => (match (bnd x1 (8 : Int)) with
| true => let v6 : Int := (List.getD x2 (Int.toNat x1) (0 : Int));
F166 R v6 fun y7 =>
L7 R x1 (0 : Int) x2 x3 x4 y7 (fun x8 x9 x10 x11 =>
let v12 : Int := (IntKind.i64.wrap (x8 + (1 : Int)));
kc v12 x9 x10 x11)
| false => none)
| false => k0 x3 x4)
theorem q156_3 (F166 : FT166) (L3 : LT156_3) (L7 : LT156_7) (R : Type) (x : HT (le156_3 L3).H) (kc : HT (le156_3 L3).H → Option R) (ke : KT R (le156_3 L3).exs) :
  exec (e156 F166 L3 L7 R) (lcode 3 (codeOf Tryz.f156)) (stOf (le156_3 L3).H x 3) (roundK (le156_3 L3).H (le156_3 L3).exs kc ke) =
    p156_3 F166 L7 R x.1 x.2.1 x.2.2.1 x.2.2.2.1 (fun x1 x2 x3 x4 => kc (x1, x2, x3, x4, ())) (fun y1 y2 => ke.1 (y1, y2, ())) := by kernel_rfl
noncomputable def G156_3 : Nat → LT156_3
  | 0 => fun _ _ _ _ _ _ => none
  | n + 1 => fun R x1 x2 x3 x4 k0 => p156_3 F166 (G156_7 FUEL) R x1 x2 x3 x4 (fun x1 x2 x3 x4 => G156_3 n R x1 x2 x3 x4 k0) k0
def p156 (L3 : LT156_3) : FT156 := fun R a0 k =>
L3 R (0 : Int) a0 (List.replicate 32 (0 : Int)) (List.replicate 32 (0 : Int)) (fun x1 x2 =>
k x2)
theorem q156 (F166 : FT166) (L3 : LT156_3) (L7 : LT156_7) (F : FT156) (R : Type) (x : AT (en156 F).ins) (k : RT (en156 F).outs → PT (en156 F).ins → Option R) :
  xfun (e156 F166 L3 L7 R) (codeOf Tryz.f156) res156 (avs (en156 F).ins x) (finK (en156 F).outs (en156 F).ins k) = p156 L3 R x.1 (fun y1 => k (y1, ()) ()) := by kernel_rfl
noncomputable def F156 : FT156 := p156 (G156_3 FUEL)
theorem env156 (R : Type) : EnvOK Tryz.prog (e156 F166 (G156_3 FUEL) (G156_7 FUEL) R) := ⟨tabOK, eqOK, callOf_ok (allE_cons ok166 allE_nil), noIns, inlOK_nil⟩
noncomputable def T156_7 : (R : Type) → HT (le156_7 (G156_7 FUEL)).H → (HT (le156_7 (G156_7 FUEL)).H → Option R) → KT R (le156_7 (G156_7 FUEL)).exs → Option R := fun R x kc ke => p156_7 R x.1 x.2.1 x.2.2.1 x.2.2.2.1 x.2.2.2.2.1 x.2.2.2.2.2.1 (fun x1 x2 x3 x4 x5 x6 => kc (x1, x2, x3, x4, x5, x6, ())) (fun y1 y2 y3 y4 => ke.1 (y1, y2, y3, y4, ()))
theorem it156_7 : ∀ (n : Nat) (R : Type) (x : HT (le156_7 (G156_7 FUEL)).H) (ke : KT R (le156_7 (G156_7 FUEL)).exs), iter T156_7 n R x ke = G156_7 n R x.1 x.2.1 x.2.2.1 x.2.2.2.1 x.2.2.2.2.1 x.2.2.2.2.2.1 (fun y1 y2 y3 y4 => ke.1 (y1, y2, y3, y4, ())) := by
  intro n
  induction n with
  | zero => intro R x ke; rfl
  | succ n ih =>
    intro R x ke
    show T156_7 R x (fun x' => iter T156_7 n R x' ke) ke = _
    rw [show (fun x' => iter T156_7 n R x' ke) = fun x => G156_7 n R x.1 x.2.1 x.2.2.1 x.2.2.2.1 x.2.2.2.2.1 x.2.2.2.2.2.1 (fun y1 y2 y3 y4 => ke.1 (y1, y2, y3, y4, ())) from funext fun x' => ih R x' ke]
    rfl
theorem lok156_7 : (le156_7 (G156_7 FUEL)).OK Tryz.prog 0 28 (lcode 7 (codeOf Tryz.f156)) := fun R x ke r h =>
  iter_sound (fun R => e156 F166 (G156_3 FUEL) (G156_7 FUEL) R) 0 28 (fun _ => rfl) (fun _ => rfl) (fun R => env156 R) mixed (by
    intro R
    rw [show loopsOf (lcode 7 (codeOf Tryz.f156)) = [] from by kernel_rfl]
    exact allM_nil) (T := T156_7) (fun R x kc ke => q156_7 F166 (G156_3 FUEL) (G156_7 FUEL) R x kc ke) FUEL R x ke r ((it156_7 FUEL R x ke).trans h)
noncomputable def T156_3 : (R : Type) → HT (le156_3 (G156_3 FUEL)).H → (HT (le156_3 (G156_3 FUEL)).H → Option R) → KT R (le156_3 (G156_3 FUEL)).exs → Option R := fun R x kc ke => p156_3 F166 (G156_7 FUEL) R x.1 x.2.1 x.2.2.1 x.2.2.2.1 (fun x1 x2 x3 x4 => kc (x1, x2, x3, x4, ())) (fun y1 y2 => ke.1 (y1, y2, ()))
theorem it156_3 : ∀ (n : Nat) (R : Type) (x : HT (le156_3 (G156_3 FUEL)).H) (ke : KT R (le156_3 (G156_3 FUEL)).exs), iter T156_3 n R x ke = G156_3 n R x.1 x.2.1 x.2.2.1 x.2.2.2.1 (fun y1 y2 => ke.1 (y1, y2, ())) := by
  intro n
  induction n with
  | zero => intro R x ke; rfl
  | succ n ih =>
    intro R x ke
    show T156_3 R x (fun x' => iter T156_3 n R x' ke) ke = _
    rw [show (fun x' => iter T156_3 n R x' ke) = fun x => G156_3 n R x.1 x.2.1 x.2.2.1 x.2.2.2.1 (fun y1 y2 => ke.1 (y1, y2, ())) from funext fun x' => ih R x' ke]
    rfl
theorem lok156_3 : (le156_3 (G156_3 FUEL)).OK Tryz.prog 0 28 (lcode 3 (codeOf Tryz.f156)) := fun R x ke r h =>
  iter_sound (fun R => e156 F166 (G156_3 FUEL) (G156_7 FUEL) R) 0 28 (fun _ => rfl) (fun _ => rfl) (fun R => env156 R) mixed (by
    intro R
    rw [show loopsOf (lcode 3 (codeOf Tryz.f156)) = [lcode 7 (codeOf Tryz.f156)] from by kernel_rfl]
    exact (allM_cons (loop_ok2 (e := le156_7 (G156_7 FUEL)) rfl rfl lok156_7) allM_nil)) (T := T156_3) (fun R x kc ke => q156_3 F166 (G156_3 FUEL) (G156_7 FUEL) R x kc ke) FUEL R x ke r ((it156_3 FUEL R x ke).trans h)
theorem ok156 : (en156 F156).OK Tryz.prog :=
  ent_ok (Ef := fun R => e156 F166 (G156_3 FUEL) (G156_7 FUEL) R) (fun R => env156 R) mixed Tryz.func156 (body := codeOf Tryz.f156) (by kernel_rfl) (by kernel_rfl) (np := 0) (nt := 28) (fun _ => rfl) (fun _ => rfl) (by kernel_rfl) (res := res156) (by kernel_rfl) (fun _ => rfl) (fun _ => Nat.le_of_ble_eq_true rfl) (by
    intro R
    rw [show loopsOf (codeOf Tryz.f156) = [lcode 3 (codeOf Tryz.f156)] from by kernel_rfl]
    exact (allM_cons (loop_ok2 (e := le156_3 (G156_3 FUEL)) rfl rfl lok156_3) allM_nil)) (fun R x k => q156 F166 (G156_3 FUEL) (G156_7 FUEL) F156 R x k)
abbrev FT150 : Type 1 := (R : Type) → (List Int) → ((List Int) → Option R) → Option R
def en150 (F : FT150) : Ent := ⟨150, [(false, (.sl (.int .u8)))], [(false, (.arr 32 (.int .u8)))], fun R x k => F R x.1 (fun y1 => k (y1, ()) ())⟩
def res150 : List (ResultVar × TypeId × Bool) := [(.cell 2 28, 28, false)]
noncomputable def e150 (F154 : FT154) (F155 : FT155) (F156 : FT156) (F157 : FT157) (F158 : FT158) (R : Type) : Env R := ⟨TT, EQT, 0, 15, ownOf [], callOf [en154 F154, en155 F155, en156 F156, en157 F157, en158 F158] R, loopOf [] R, [], inlOf []⟩
def p150 (F154 : FT154) (F155 : FT155) (F156 : FT156) (F157 : FT157) (F158 : FT158) : FT150 := fun R a0 k =>
F155 R a0 fun y1 =>
F154 R y1 fun y2 y3 =>
F158 R  fun y4 =>
F157 R y4 y2 fun y5 =>
F156 R y5 fun y6 =>
k y6
theorem q150 (F154 : FT154) (F155 : FT155) (F156 : FT156) (F157 : FT157) (F158 : FT158) (F : FT150) (R : Type) (x : AT (en150 F).ins) (k : RT (en150 F).outs → PT (en150 F).ins → Option R) :
  xfun (e150 F154 F155 F156 F157 F158 R) (codeOf Tryz.f150) res150 (avs (en150 F).ins x) (finK (en150 F).outs (en150 F).ins k) = p150 F154 F155 F156 F157 F158 R x.1 (fun y1 => k (y1, ()) ()) := by kernel_rfl
noncomputable def F150 : FT150 := p150 F154 F155 F156 F157 F158
theorem env150 (R : Type) : EnvOK Tryz.prog (e150 F154 F155 F156 F157 F158 R) := ⟨tabOK, eqOK, callOf_ok (allE_cons ok154 (allE_cons ok155 (allE_cons ok156 (allE_cons ok157 (allE_cons ok158 allE_nil))))), noIns, inlOK_nil⟩
theorem ok150 : (en150 F150).OK Tryz.prog :=
  ent_ok (Ef := fun R => e150 F154 F155 F156 F157 F158 R) (fun R => env150 R) mixed Tryz.func150 (body := codeOf Tryz.f150) (by kernel_rfl) (by kernel_rfl) (np := 0) (nt := 15) (fun _ => rfl) (fun _ => rfl) (by kernel_rfl) (res := res150) (by kernel_rfl) (fun _ => rfl) (fun _ => Nat.le_of_ble_eq_true rfl) (by
    intro R
    rw [show loopsOf (codeOf Tryz.f150) = [] from by kernel_rfl]
    exact allM_nil) (fun R x k => q150 F154 F155 F156 F157 F158 F150 R x k)
abbrev FT144 : Type 1 := (R : Type) → (List Int) → Int → Int → ((List Int) → Option R) → Option R
def en144 (F : FT144) : Ent := ⟨144, [(false, (.arr 32 (.int .u8))), (false, (.int .u64)), (false, (.int .u64))], [(false, (.arr 32 (.int .u8)))], fun R x k => F R x.1 x.2.1 x.2.2.1 (fun y1 => k (y1, ()) ())⟩
def res144 : List (ResultVar × TypeId × Bool) := [(.cell 6 28, 28, false)]
abbrev LT144_3 : Type 1 := (R : Type) → Int → Int → Int → (List Int) → (List Int) → (List Int) → (Int → Int → (List Int) → (List Int) → Option R) → Option R
def le144_3 (L : LT144_3) : LEnt := ⟨3, [.val 1 (.int .u64), .val 2 (.int .u64), .fix 3 (.ptr 0 [] (.arr 32 (.int .u8))), .fix 6 (.ptr 1 [] (.arr 32 (.int .u8))), .fix 7 (.own 2 0), .val 8 (.int .i64), .var 0 (.arr 32 (.int .u8)) false, .var 1 (.arr 32 (.int .u8)) false, .row 2 (.int .u8) false], 3, [(.exit 0, [.val 1 (.int .u64), .val 2 (.int .u64), .fix 6 (.ptr 1 [] (.arr 32 (.int .u8))), .fix 7 (.own 2 0), .var 1 (.arr 32 (.int .u8)) false, .row 2 (.int .u8) false])], fun R x ke => L R x.1 x.2.1 x.2.2.1 x.2.2.2.1 x.2.2.2.2.1 x.2.2.2.2.2.1 (fun y1 y2 y3 y4 => ke.1 (y1, y2, y3, y4, ()))⟩
abbrev LT144_8 : Type 1 := (R : Type) → Int → (List Int) → (List Int) → (List Int) → (List Int) → ((List Int) → (List Int) → (List Int) → Option R) → Option R
def le144_8 (L : LT144_8) : LEnt := ⟨8, [.fix 6 (.ptr 1 [] (.arr 32 (.int .u8))), .fix 7 (.own 2 0), .fix 9 (.ptr 3 [] (.arr 8 (.int .u8))), .fix 10 (.ptr 4 [] (.arr 8 (.int .u8))), .val 11 (.int .i64), .var 1 (.arr 32 (.int .u8)) false, .row 2 (.int .u8) false, .var 3 (.arr 8 (.int .u8)) false, .var 4 (.arr 8 (.int .u8)) false], 5, [(.exit 2, [.fix 6 (.ptr 1 [] (.arr 32 (.int .u8))), .fix 7 (.own 2 0), .fix 10 (.ptr 4 [] (.arr 8 (.int .u8))), .var 1 (.arr 32 (.int .u8)) false, .row 2 (.int .u8) false, .var 4 (.arr 8 (.int .u8)) false])], fun R x ke => L R x.1 x.2.1 x.2.2.1 x.2.2.2.1 x.2.2.2.2.1 (fun y1 y2 y3 => ke.1 (y1, y2, y3, ()))⟩
abbrev LT144_12 : Type 1 := (R : Type) → Int → (List Int) → (List Int) → (List Int) → ((List Int) → (List Int) → Option R) → Option R
def le144_12 (L : LT144_12) : LEnt := ⟨12, [.fix 6 (.ptr 1 [] (.arr 32 (.int .u8))), .fix 7 (.own 2 0), .fix 10 (.ptr 4 [] (.arr 8 (.int .u8))), .val 12 (.int .i64), .var 1 (.arr 32 (.int .u8)) false, .row 2 (.int .u8) false, .var 4 (.arr 8 (.int .u8)) false], 5, [(.exit 4, [.fix 6 (.ptr 1 [] (.arr 32 (.int .u8))), .fix 7 (.own 2 0), .var 1 (.arr 32 (.int .u8)) false, .row 2 (.int .u8) false])], fun R x ke => L R x.1 x.2.1 x.2.2.1 x.2.2.2.1 (fun y1 y2 => ke.1 (y1, y2, ()))⟩
noncomputable def e144 (F149 : FT149) (F150 : FT150) (L3 : LT144_3) (L8 : LT144_8) (L12 : LT144_12) (R : Type) : Env R := ⟨TT, EQT, 0, 49, ownOf [(1, 0)], callOf [en149 F149, en150 F150] R, loopOf [le144_3 L3, le144_8 L8, le144_12 L12] R, [], inlOf []⟩
def p144_3 : (R : Type) → Int → Int → Int → (List Int) → (List Int) → (List Int) → (Int → Int → Int → (List Int) → (List Int) → (List Int) → Option R) → (Int → Int → (List Int) → (List Int) → Option R) → Option R := fun R x1 x2 x3 x4 x5 x6 kc k0 =>
let v7 : Bool := (decide (x3 < (32 : Int)));
(match v7 with
| true => (match (bnd x3 (32 : Int)) with
| true => let v8 : Int := (List.getD x4 (Int.toNat x3) (0 : Int));
let v9 : (List Int) := ([v8] : (List Int));
(match (decide (List.length x6 + List.length v9 ≤ 140737488355328)) with
| true => let v10 : (List Int) := (x6 ++ v9);
let v11 : Int := (IntKind.i64.wrap (x3 + (1 : Int)));
kc x1 x2 v11 x4 x5 v10
| false => none)
| false => none)
| false => k0 x1 x2 x5 x6)
theorem q144_3 (F149 : FT149) (F150 : FT150) (L3 : LT144_3) (L8 : LT144_8) (L12 : LT144_12) (R : Type) (x : HT (le144_3 L3).H) (kc : HT (le144_3 L3).H → Option R) (ke : KT R (le144_3 L3).exs) :
  exec (e144 F149 F150 L3 L8 L12 R) (lcode 3 (codeOf Tryz.f144)) (stOf (le144_3 L3).H x 3) (roundK (le144_3 L3).H (le144_3 L3).exs kc ke) =
    p144_3 R x.1 x.2.1 x.2.2.1 x.2.2.2.1 x.2.2.2.2.1 x.2.2.2.2.2.1 (fun x1 x2 x3 x4 x5 x6 => kc (x1, x2, x3, x4, x5, x6, ())) (fun y1 y2 y3 y4 => ke.1 (y1, y2, y3, y4, ())) := by kernel_rfl
noncomputable def G144_3 : Nat → LT144_3
  | 0 => fun _ _ _ _ _ _ _ _ => none
  | n + 1 => fun R x1 x2 x3 x4 x5 x6 k0 => p144_3 R x1 x2 x3 x4 x5 x6 (fun x1 x2 x3 x4 x5 x6 => G144_3 n R x1 x2 x3 x4 x5 x6 k0) k0
def p144_8 : (R : Type) → Int → (List Int) → (List Int) → (List Int) → (List Int) → (Int → (List Int) → (List Int) → (List Int) → (List Int) → Option R) → ((List Int) → (List Int) → (List Int) → Option R) → Option R := fun R x1 x2 x3 x4 x5 kc k0 =>
let v6 : Bool := (decide (x1 < (8 : Int)));
(match v6 with
| true => (match (bnd x1 (8 : Int)) with
| true => let v7 : Int := (List.getD x4 (Int.toNat x1) (0 : Int));
let v8 : (List Int) := ([v7] : (List Int));
(match (decide (List.length x3 + List.length v8 ≤ 140737488355328)) with
| true => let v9 : (List Int) := (x3 ++ v8);
let v10 : Int := (IntKind.i64.wrap (x1 + (1 : Int)));
kc v10 x2 v9 x4 x5
| false => none)
| false => none)
| false => k0 x2 x3 x5)
theorem q144_8 (F149 : FT149) (F150 : FT150) (L3 : LT144_3) (L8 : LT144_8) (L12 : LT144_12) (R : Type) (x : HT (le144_8 L8).H) (kc : HT (le144_8 L8).H → Option R) (ke : KT R (le144_8 L8).exs) :
  exec (e144 F149 F150 L3 L8 L12 R) (lcode 8 (codeOf Tryz.f144)) (stOf (le144_8 L8).H x 5) (roundK (le144_8 L8).H (le144_8 L8).exs kc ke) =
    p144_8 R x.1 x.2.1 x.2.2.1 x.2.2.2.1 x.2.2.2.2.1 (fun x1 x2 x3 x4 x5 => kc (x1, x2, x3, x4, x5, ())) (fun y1 y2 y3 => ke.1 (y1, y2, y3, ())) := by kernel_rfl
noncomputable def G144_8 : Nat → LT144_8
  | 0 => fun _ _ _ _ _ _ _ => none
  | n + 1 => fun R x1 x2 x3 x4 x5 k0 => p144_8 R x1 x2 x3 x4 x5 (fun x1 x2 x3 x4 x5 => G144_8 n R x1 x2 x3 x4 x5 k0) k0
def p144_12 : (R : Type) → Int → (List Int) → (List Int) → (List Int) → (Int → (List Int) → (List Int) → (List Int) → Option R) → ((List Int) → (List Int) → Option R) → Option R := fun R x1 x2 x3 x4 kc k0 =>
let v5 : Bool := (decide (x1 < (8 : Int)));
(match v5 with
| true => (match (bnd x1 (8 : Int)) with
| true => let v6 : Int := (List.getD x4 (Int.toNat x1) (0 : Int));
let v7 : (List Int) := ([v6] : (List Int));
(match (decide (List.length x3 + List.length v7 ≤ 140737488355328)) with
| true => let v8 : (List Int) := (x3 ++ v7);
let v9 : Int := (IntKind.i64.wrap (x1 + (1 : Int)));
kc v9 x2 v8 x4
| false => none)
| false => none)
| false => k0 x2 x3)
theorem q144_12 (F149 : FT149) (F150 : FT150) (L3 : LT144_3) (L8 : LT144_8) (L12 : LT144_12) (R : Type) (x : HT (le144_12 L12).H) (kc : HT (le144_12 L12).H → Option R) (ke : KT R (le144_12 L12).exs) :
  exec (e144 F149 F150 L3 L8 L12 R) (lcode 12 (codeOf Tryz.f144)) (stOf (le144_12 L12).H x 5) (roundK (le144_12 L12).H (le144_12 L12).exs kc ke) =
    p144_12 R x.1 x.2.1 x.2.2.1 x.2.2.2.1 (fun x1 x2 x3 x4 => kc (x1, x2, x3, x4, ())) (fun y1 y2 => ke.1 (y1, y2, ())) := by kernel_rfl
noncomputable def G144_12 : Nat → LT144_12
  | 0 => fun _ _ _ _ _ _ => none
  | n + 1 => fun R x1 x2 x3 x4 k0 => p144_12 R x1 x2 x3 x4 (fun x1 x2 x3 x4 => G144_12 n R x1 x2 x3 x4 k0) k0
def p144 (F149 : FT149) (F150 : FT150) (L3 : LT144_3) (L8 : LT144_8) (L12 : LT144_12) : FT144 := fun R a0 a1 a2 k =>
L3 R a1 a2 (0 : Int) a0 (List.replicate 32 (0 : Int)) ([] : (List Int)) (fun x1 x2 x3 x4 =>
F149 R x1 fun y5 =>
F149 R x2 fun y6 =>
L8 R (0 : Int) x3 x4 y5 y6 (fun x7 x8 x9 =>
L12 R (0 : Int) x7 x8 x9 (fun x10 x11 =>
F150 R x11 fun y12 =>
k y12)))
theorem q144 (F149 : FT149) (F150 : FT150) (L3 : LT144_3) (L8 : LT144_8) (L12 : LT144_12) (F : FT144) (R : Type) (x : AT (en144 F).ins) (k : RT (en144 F).outs → PT (en144 F).ins → Option R) :
  xfun (e144 F149 F150 L3 L8 L12 R) (codeOf Tryz.f144) res144 (avs (en144 F).ins x) (finK (en144 F).outs (en144 F).ins k) = p144 F149 F150 L3 L8 L12 R x.1 x.2.1 x.2.2.1 (fun y1 => k (y1, ()) ()) := by kernel_rfl
noncomputable def F144 : FT144 := p144 F149 F150 (G144_3 FUEL) (G144_8 FUEL) (G144_12 FUEL)
theorem env144 (R : Type) : EnvOK Tryz.prog (e144 F149 F150 (G144_3 FUEL) (G144_8 FUEL) (G144_12 FUEL) R) := ⟨tabOK, eqOK, callOf_ok (allE_cons ok149 (allE_cons ok150 allE_nil)), noIns, inlOK_nil⟩
noncomputable def T144_3 : (R : Type) → HT (le144_3 (G144_3 FUEL)).H → (HT (le144_3 (G144_3 FUEL)).H → Option R) → KT R (le144_3 (G144_3 FUEL)).exs → Option R := fun R x kc ke => p144_3 R x.1 x.2.1 x.2.2.1 x.2.2.2.1 x.2.2.2.2.1 x.2.2.2.2.2.1 (fun x1 x2 x3 x4 x5 x6 => kc (x1, x2, x3, x4, x5, x6, ())) (fun y1 y2 y3 y4 => ke.1 (y1, y2, y3, y4, ()))
theorem it144_3 : ∀ (n : Nat) (R : Type) (x : HT (le144_3 (G144_3 FUEL)).H) (ke : KT R (le144_3 (G144_3 FUEL)).exs), iter T144_3 n R x ke = G144_3 n R x.1 x.2.1 x.2.2.1 x.2.2.2.1 x.2.2.2.2.1 x.2.2.2.2.2.1 (fun y1 y2 y3 y4 => ke.1 (y1, y2, y3, y4, ())) := by
  intro n
  induction n with
  | zero => intro R x ke; rfl
  | succ n ih =>
    intro R x ke
    show T144_3 R x (fun x' => iter T144_3 n R x' ke) ke = _
    rw [show (fun x' => iter T144_3 n R x' ke) = fun x => G144_3 n R x.1 x.2.1 x.2.2.1 x.2.2.2.1 x.2.2.2.2.1 x.2.2.2.2.2.1 (fun y1 y2 y3 y4 => ke.1 (y1, y2, y3, y4, ())) from funext fun x' => ih R x' ke]
    rfl
theorem lok144_3 : (le144_3 (G144_3 FUEL)).OK Tryz.prog 0 49 (lcode 3 (codeOf Tryz.f144)) := fun R x ke r h =>
  iter_sound (fun R => e144 F149 F150 (G144_3 FUEL) (G144_8 FUEL) (G144_12 FUEL) R) 0 49 (fun _ => rfl) (fun _ => rfl) (fun R => env144 R) mixed (by
    intro R
    rw [show loopsOf (lcode 3 (codeOf Tryz.f144)) = [] from by kernel_rfl]
    exact allM_nil) (T := T144_3) (fun R x kc ke => q144_3 F149 F150 (G144_3 FUEL) (G144_8 FUEL) (G144_12 FUEL) R x kc ke) FUEL R x ke r ((it144_3 FUEL R x ke).trans h)
noncomputable def T144_8 : (R : Type) → HT (le144_8 (G144_8 FUEL)).H → (HT (le144_8 (G144_8 FUEL)).H → Option R) → KT R (le144_8 (G144_8 FUEL)).exs → Option R := fun R x kc ke => p144_8 R x.1 x.2.1 x.2.2.1 x.2.2.2.1 x.2.2.2.2.1 (fun x1 x2 x3 x4 x5 => kc (x1, x2, x3, x4, x5, ())) (fun y1 y2 y3 => ke.1 (y1, y2, y3, ()))
theorem it144_8 : ∀ (n : Nat) (R : Type) (x : HT (le144_8 (G144_8 FUEL)).H) (ke : KT R (le144_8 (G144_8 FUEL)).exs), iter T144_8 n R x ke = G144_8 n R x.1 x.2.1 x.2.2.1 x.2.2.2.1 x.2.2.2.2.1 (fun y1 y2 y3 => ke.1 (y1, y2, y3, ())) := by
  intro n
  induction n with
  | zero => intro R x ke; rfl
  | succ n ih =>
    intro R x ke
    show T144_8 R x (fun x' => iter T144_8 n R x' ke) ke = _
    rw [show (fun x' => iter T144_8 n R x' ke) = fun x => G144_8 n R x.1 x.2.1 x.2.2.1 x.2.2.2.1 x.2.2.2.2.1 (fun y1 y2 y3 => ke.1 (y1, y2, y3, ())) from funext fun x' => ih R x' ke]
    rfl
theorem lok144_8 : (le144_8 (G144_8 FUEL)).OK Tryz.prog 0 49 (lcode 8 (codeOf Tryz.f144)) := fun R x ke r h =>
  iter_sound (fun R => e144 F149 F150 (G144_3 FUEL) (G144_8 FUEL) (G144_12 FUEL) R) 0 49 (fun _ => rfl) (fun _ => rfl) (fun R => env144 R) mixed (by
    intro R
    rw [show loopsOf (lcode 8 (codeOf Tryz.f144)) = [] from by kernel_rfl]
    exact allM_nil) (T := T144_8) (fun R x kc ke => q144_8 F149 F150 (G144_3 FUEL) (G144_8 FUEL) (G144_12 FUEL) R x kc ke) FUEL R x ke r ((it144_8 FUEL R x ke).trans h)
noncomputable def T144_12 : (R : Type) → HT (le144_12 (G144_12 FUEL)).H → (HT (le144_12 (G144_12 FUEL)).H → Option R) → KT R (le144_12 (G144_12 FUEL)).exs → Option R := fun R x kc ke => p144_12 R x.1 x.2.1 x.2.2.1 x.2.2.2.1 (fun x1 x2 x3 x4 => kc (x1, x2, x3, x4, ())) (fun y1 y2 => ke.1 (y1, y2, ()))
theorem it144_12 : ∀ (n : Nat) (R : Type) (x : HT (le144_12 (G144_12 FUEL)).H) (ke : KT R (le144_12 (G144_12 FUEL)).exs), iter T144_12 n R x ke = G144_12 n R x.1 x.2.1 x.2.2.1 x.2.2.2.1 (fun y1 y2 => ke.1 (y1, y2, ())) := by
  intro n
  induction n with
  | zero => intro R x ke; rfl
  | succ n ih =>
    intro R x ke
    show T144_12 R x (fun x' => iter T144_12 n R x' ke) ke = _
    rw [show (fun x' => iter T144_12 n R x' ke) = fun x => G144_12 n R x.1 x.2.1 x.2.2.1 x.2.2.2.1 (fun y1 y2 => ke.1 (y1, y2, ())) from funext fun x' => ih R x' ke]
    rfl
theorem lok144_12 : (le144_12 (G144_12 FUEL)).OK Tryz.prog 0 49 (lcode 12 (codeOf Tryz.f144)) := fun R x ke r h =>
  iter_sound (fun R => e144 F149 F150 (G144_3 FUEL) (G144_8 FUEL) (G144_12 FUEL) R) 0 49 (fun _ => rfl) (fun _ => rfl) (fun R => env144 R) mixed (by
    intro R
    rw [show loopsOf (lcode 12 (codeOf Tryz.f144)) = [] from by kernel_rfl]
    exact allM_nil) (T := T144_12) (fun R x kc ke => q144_12 F149 F150 (G144_3 FUEL) (G144_8 FUEL) (G144_12 FUEL) R x kc ke) FUEL R x ke r ((it144_12 FUEL R x ke).trans h)
theorem ok144 : (en144 F144).OK Tryz.prog :=
  ent_ok (Ef := fun R => e144 F149 F150 (G144_3 FUEL) (G144_8 FUEL) (G144_12 FUEL) R) (fun R => env144 R) mixed Tryz.func144 (body := codeOf Tryz.f144) (by kernel_rfl) (by kernel_rfl) (np := 0) (nt := 49) (fun _ => rfl) (fun _ => rfl) (by kernel_rfl) (res := res144) (by kernel_rfl) (fun _ => rfl) (fun _ => Nat.le_of_ble_eq_true rfl) (by
    intro R
    rw [show loopsOf (codeOf Tryz.f144) = [lcode 3 (codeOf Tryz.f144), lcode 8 (codeOf Tryz.f144), lcode 12 (codeOf Tryz.f144)] from by kernel_rfl]
    exact (allM_cons (loop_ok2 (e := le144_3 (G144_3 FUEL)) rfl rfl lok144_3) (allM_cons (loop_ok2 (e := le144_8 (G144_8 FUEL)) rfl rfl lok144_8) (allM_cons (loop_ok2 (e := le144_12 (G144_12 FUEL)) rfl rfl lok144_12) allM_nil)))) (fun R x k => q144 F149 F150 (G144_3 FUEL) (G144_8 FUEL) (G144_12 FUEL) F144 R x k)
abbrev FT145 : Type 1 := (R : Type) → Int → (Int → Option R) → Option R
def en145 (F : FT145) : Ent := ⟨145, [(false, (.int .u64))], [(false, (.int .u64))], fun R x k => F R x.1 (fun y1 => k (y1, ()) ())⟩
def res145 : List (ResultVar × TypeId × Bool) := [(.tmp 2, 22, false)]
abbrev LT145_3 : Type 1 := (R : Type) → Int → Int → Int → (Int → Option R) → Option R
def le145_3 (L : LT145_3) : LEnt := ⟨3, [.val 0 (.int .u64), .val 3 (.int .u64), .val 4 (.int .u64)], 0, [(.exit 0, [.val 3 (.int .u64)])], fun R x ke => L R x.1 x.2.1 x.2.2.1 (fun y1 => ke.1 (y1, ()))⟩
noncomputable def e145 (L3 : LT145_3) (R : Type) : Env R := ⟨TT, EQT, 0, 13, ownOf [], callOf [] R, loopOf [le145_3 L3] R, [], inlOf []⟩
def p145_3 : (R : Type) → Int → Int → Int → (Int → Int → Int → Option R) → (Int → Option R) → Option R := fun R x1 x2 x3 kc k0 =>
let v4 : Bool := (decide (x3 < x1));
(match v4 with
| true => let v5 : Int := (IntKind.u64.wrap ((2 : Int) * x2));
let v6 : Int := (IntKind.u64.wrap (x3 + (1 : Int)));
kc x1 v5 v6
| false => k0 x2)
theorem q145_3 (L3 : LT145_3) (R : Type) (x : HT (le145_3 L3).H) (kc : HT (le145_3 L3).H → Option R) (ke : KT R (le145_3 L3).exs) :
  exec (e145 L3 R) (lcode 3 (codeOf Tryz.f145)) (stOf (le145_3 L3).H x 0) (roundK (le145_3 L3).H (le145_3 L3).exs kc ke) =
    p145_3 R x.1 x.2.1 x.2.2.1 (fun x1 x2 x3 => kc (x1, x2, x3, ())) (fun y1 => ke.1 (y1, ())) := by kernel_rfl
noncomputable def G145_3 : Nat → LT145_3
  | 0 => fun _ _ _ _ _ => none
  | n + 1 => fun R x1 x2 x3 k0 => p145_3 R x1 x2 x3 (fun x1 x2 x3 => G145_3 n R x1 x2 x3 k0) k0
def p145 (L3 : LT145_3) : FT145 := fun R a0 k =>
L3 R a0 (1 : Int) (0 : Int) (fun x1 =>
k x1)
theorem q145 (L3 : LT145_3) (F : FT145) (R : Type) (x : AT (en145 F).ins) (k : RT (en145 F).outs → PT (en145 F).ins → Option R) :
  xfun (e145 L3 R) (codeOf Tryz.f145) res145 (avs (en145 F).ins x) (finK (en145 F).outs (en145 F).ins k) = p145 L3 R x.1 (fun y1 => k (y1, ()) ()) := by kernel_rfl
noncomputable def F145 : FT145 := p145 (G145_3 FUEL)
theorem env145 (R : Type) : EnvOK Tryz.prog (e145 (G145_3 FUEL) R) := ⟨tabOK, eqOK, callOf_ok allE_nil, noIns, inlOK_nil⟩
noncomputable def T145_3 : (R : Type) → HT (le145_3 (G145_3 FUEL)).H → (HT (le145_3 (G145_3 FUEL)).H → Option R) → KT R (le145_3 (G145_3 FUEL)).exs → Option R := fun R x kc ke => p145_3 R x.1 x.2.1 x.2.2.1 (fun x1 x2 x3 => kc (x1, x2, x3, ())) (fun y1 => ke.1 (y1, ()))
theorem it145_3 : ∀ (n : Nat) (R : Type) (x : HT (le145_3 (G145_3 FUEL)).H) (ke : KT R (le145_3 (G145_3 FUEL)).exs), iter T145_3 n R x ke = G145_3 n R x.1 x.2.1 x.2.2.1 (fun y1 => ke.1 (y1, ())) := by
  intro n
  induction n with
  | zero => intro R x ke; rfl
  | succ n ih =>
    intro R x ke
    show T145_3 R x (fun x' => iter T145_3 n R x' ke) ke = _
    rw [show (fun x' => iter T145_3 n R x' ke) = fun x => G145_3 n R x.1 x.2.1 x.2.2.1 (fun y1 => ke.1 (y1, ())) from funext fun x' => ih R x' ke]
    rfl
theorem lok145_3 : (le145_3 (G145_3 FUEL)).OK Tryz.prog 0 13 (lcode 3 (codeOf Tryz.f145)) := fun R x ke r h =>
  iter_sound (fun R => e145 (G145_3 FUEL) R) 0 13 (fun _ => rfl) (fun _ => rfl) (fun R => env145 R) mixed (by
    intro R
    rw [show loopsOf (lcode 3 (codeOf Tryz.f145)) = [] from by kernel_rfl]
    exact allM_nil) (T := T145_3) (fun R x kc ke => q145_3 (G145_3 FUEL) R x kc ke) FUEL R x ke r ((it145_3 FUEL R x ke).trans h)
theorem ok145 : (en145 F145).OK Tryz.prog :=
  ent_ok (Ef := fun R => e145 (G145_3 FUEL) R) (fun R => env145 R) mixed Tryz.func145 (body := codeOf Tryz.f145) (by kernel_rfl) (by kernel_rfl) (np := 0) (nt := 13) (fun _ => rfl) (fun _ => rfl) (by kernel_rfl) (res := res145) (by kernel_rfl) (fun _ => rfl) (fun _ => Nat.le_of_ble_eq_true rfl) (by
    intro R
    rw [show loopsOf (codeOf Tryz.f145) = [lcode 3 (codeOf Tryz.f145)] from by kernel_rfl]
    exact (allM_cons (loop_ok2 (e := le145_3 (G145_3 FUEL)) rfl rfl lok145_3) allM_nil)) (fun R x k => q145 (G145_3 FUEL) F145 R x k)
abbrev FT138 : Type 1 := (R : Type) → (List Int) → Int → Int → (Int → Option R) → Option R
def en138 (F : FT138) : Ent := ⟨138, [(false, (.arr 32 (.int .u8))), (false, (.int .u64)), (false, (.int .u64))], [(false, (.int .u64))], fun R x k => F R x.1 x.2.1 x.2.2.1 (fun y1 => k (y1, ()) ())⟩
def res138 : List (ResultVar × TypeId × Bool) := [(.tmp 6, 22, false)]
noncomputable def e138 (F144 : FT144) (F145 : FT145) (R : Type) : Env R := ⟨TT, EQT, 0, 25, ownOf [], callOf [en144 F144, en145 F145] R, loopOf [] R, [], inlOf []⟩
def p138 (F144 : FT144) (F145 : FT145) : FT138 := fun R a0 a1 a2 k =>
let v1 : Int := (IntKind.u64.wrap (Int.tdiv a2 (256 : Int)));
F144 R a0 a1 v1 fun y2 =>
let v3 : Int := (Int.tmod a2 (256 : Int));
let v4 : Int := (IntKind.u64.wrap (Int.tdiv v3 (8 : Int)));
(match (bnd v4 (32 : Int)) with
| true => let v5 : Int := (List.getD y2 (Int.toNat v4) (0 : Int));
let v6 : Int := (IntKind.u64.wrap v5);
let v7 : Int := (Int.tmod a2 (8 : Int));
let v8 : Int := (IntKind.u64.wrap ((7 : Int) - v7));
F145 R v8 fun y9 =>
(match (!(y9 == 0)) with
| true => let v10 : Int := (IntKind.u64.wrap (Int.tdiv v6 y9));
let v11 : Int := (Int.tmod v10 (2 : Int));
k v11
| false => none)
| false => none)
theorem q138 (F144 : FT144) (F145 : FT145) (F : FT138) (R : Type) (x : AT (en138 F).ins) (k : RT (en138 F).outs → PT (en138 F).ins → Option R) :
  xfun (e138 F144 F145 R) (codeOf Tryz.f138) res138 (avs (en138 F).ins x) (finK (en138 F).outs (en138 F).ins k) = p138 F144 F145 R x.1 x.2.1 x.2.2.1 (fun y1 => k (y1, ()) ()) := by kernel_rfl
noncomputable def F138 : FT138 := p138 F144 F145
theorem env138 (R : Type) : EnvOK Tryz.prog (e138 F144 F145 R) := ⟨tabOK, eqOK, callOf_ok (allE_cons ok144 (allE_cons ok145 allE_nil)), noIns, inlOK_nil⟩
theorem ok138 : (en138 F138).OK Tryz.prog :=
  ent_ok (Ef := fun R => e138 F144 F145 R) (fun R => env138 R) mixed Tryz.func138 (body := codeOf Tryz.f138) (by kernel_rfl) (by kernel_rfl) (np := 0) (nt := 25) (fun _ => rfl) (fun _ => rfl) (by kernel_rfl) (res := res138) (by kernel_rfl) (fun _ => rfl) (fun _ => Nat.le_of_ble_eq_true rfl) (by
    intro R
    rw [show loopsOf (codeOf Tryz.f138) = [] from by kernel_rfl]
    exact allM_nil) (fun R x k => q138 F144 F145 F138 R x k)
abbrev FT124 : Type 1 := (R : Type) → Tq6 → Int → (Int → Option R) → Option R
def en124 (F : FT124) : Ent := ⟨124, [(false, Kq6), (false, (.int .u64))], [(false, (.int .u64))], fun R x k => F R x.1 x.2.1 (fun y1 => k (y1, ()) ())⟩
def res124 : List (ResultVar × TypeId × Bool) := [(.tmp 4, 22, false)]
noncomputable def e124 (F138 : FT138) (F139 : FT139) (R : Type) : Env R := ⟨TT, EQT, 0, 28, ownOf [], callOf [en138 F138, en139 F139] R, loopOf [] R, [], inlOf []⟩
def p124 (F138 : FT138) (F139 : FT139) : FT124 := fun R a0 a1 k =>
let v1 : Bool := (a0.1 == (2 : Int));
(match v1 with
| true => F138 R a0.2.2.2.1 a0.2.2.2.2.1 a1 fun y2 =>
k y2
| false => let v3 : Int := (IntKind.u64.wrap (Int.tdiv a1 (8 : Int)));
(match (bnd v3 (List.length a0.2.1 : Int)) with
| true => let v4 : Int := (List.getD a0.2.1 (Int.toNat v3) (0 : Int));
let v5 : Int := (IntKind.u32.wrap v4);
let v6 : Int := (Int.tmod a1 (8 : Int));
let v7 : Int := (IntKind.i64.wrap v6);
let v8 : Int := (IntKind.i64.wrap ((7 : Int) - v7));
F139 R v5 v8 fun y9 =>
let v10 : Int := (Int.tmod y9 (2 : Int));
let v11 : Int := (IntKind.u64.wrap v10);
k v11
| false => none))
theorem q124 (F138 : FT138) (F139 : FT139) (F : FT124) (R : Type) (x : AT (en124 F).ins) (k : RT (en124 F).outs → PT (en124 F).ins → Option R) :
  xfun (e124 F138 F139 R) (codeOf Tryz.f124) res124 (avs (en124 F).ins x) (finK (en124 F).outs (en124 F).ins k) = p124 F138 F139 R x.1 x.2.1 (fun y1 => k (y1, ()) ()) := by kernel_rfl
noncomputable def F124 : FT124 := p124 F138 F139
theorem env124 (R : Type) : EnvOK Tryz.prog (e124 F138 F139 R) := ⟨tabOK, eqOK, callOf_ok (allE_cons ok138 (allE_cons ok139 allE_nil)), noIns, inlOK_nil⟩
theorem ok124 : (en124 F124).OK Tryz.prog :=
  ent_ok (Ef := fun R => e124 F138 F139 R) (fun R => env124 R) mixed Tryz.func124 (body := codeOf Tryz.f124) (by kernel_rfl) (by kernel_rfl) (np := 0) (nt := 28) (fun _ => rfl) (fun _ => rfl) (by kernel_rfl) (res := res124) (by kernel_rfl) (fun _ => rfl) (fun _ => Nat.le_of_ble_eq_true rfl) (by
    intro R
    rw [show loopsOf (codeOf Tryz.f124) = [] from by kernel_rfl]
    exact allM_nil) (fun R x k => q124 F138 F139 F124 R x k)
abbrev FT86 : Type 1 := (R : Type) → Tq6 → Int → (Int → Tq6 → Int → Option R) → Option R
def en86 (F : FT86) : Ent := ⟨86, [(false, Kq6), (false, (.int .i64))], [(false, (.int .u64)), (false, Kq6), (false, (.int .i64))], fun R x k => F R x.1 x.2.1 (fun y1 y2 y3 => k (y1, y2, y3, ()) ())⟩
def res86 : List (ResultVar × TypeId × Bool) := [(.tmp 4, 22, false), (.cell 5 30, 30, false), (.tmp 6, 32, false)]
abbrev LT86_7 : Type 1 := (R : Type) → Int → Int → Int → Tq6 → Tq6 → (Int → Tq6 → Tq6 → Option R) → Option R
def le86_7 (L : LT86_7) : LEnt := ⟨7, [.val 1 (.int .i64), .fix 2 (.ptr 0 [] Kq6), .fix 5 (.ptr 1 [] Kq6), .val 7 (.int .u64), .val 8 (.int .i64), .var 0 Kq6 false, .var 1 Kq6 false], 2, [(.exit 0, [.fix 2 (.ptr 0 [] Kq6), .fix 5 (.ptr 1 [] Kq6), .val 7 (.int .u64), .var 0 Kq6 false, .var 1 Kq6 false])], fun R x ke => L R x.1 x.2.1 x.2.2.1 x.2.2.2.1 x.2.2.2.2.1 (fun y1 y2 y3 => ke.1 (y1, y2, y3, ()))⟩
noncomputable def e86 (F58 : FT58) (F123 : FT123) (F124 : FT124) (L7 : LT86_7) (R : Type) : Env R := ⟨TT, EQT, 0, 45, ownOf [], callOf [en58 F58, en123 F123, en124 F124] R, loopOf [le86_7 L7] R, [], inlOf []⟩
def p86_7 (F124 : FT124) : (R : Type) → Int → Int → Int → Tq6 → Tq6 → (Int → Int → Int → Tq6 → Tq6 → Option R) → (Int → Tq6 → Tq6 → Option R) → Option R := fun R x1 x2 x3 x4 x5 kc k0 =>
let v6 : Bool := (decide (x3 < x1));
(match v6 with
| true => let v7 : Int := (IntKind.u64.wrap ((2 : Int) * x2));
F124 R x4 x4.2.2.2.2.2.1 fun y8 =>
let v9 : Int := (IntKind.u64.wrap (v7 + y8));
let v10 : Int := (IntKind.u64.wrap (x4.2.2.2.2.2.1 + (1 : Int)));
let v11 : Int := (IntKind.i64.wrap (x3 + (1 : Int)));
kc x1 v9 v11 (x4.1, x4.2.1, x4.2.2.1, x4.2.2.2.1, x4.2.2.2.2.1, v10, x4.2.2.2.2.2.2) x5
| false => k0 x2 x4 x5)
theorem q86_7 (F58 : FT58) (F123 : FT123) (F124 : FT124) (L7 : LT86_7) (R : Type) (x : HT (le86_7 L7).H) (kc : HT (le86_7 L7).H → Option R) (ke : KT R (le86_7 L7).exs) :
  exec (e86 F58 F123 F124 L7 R) (lcode 7 (codeOf Tryz.f86)) (stOf (le86_7 L7).H x 2) (roundK (le86_7 L7).H (le86_7 L7).exs kc ke) =
    p86_7 F124 R x.1 x.2.1 x.2.2.1 x.2.2.2.1 x.2.2.2.2.1 (fun x1 x2 x3 x4 x5 => kc (x1, x2, x3, x4, x5, ())) (fun y1 y2 y3 => ke.1 (y1, y2, y3, ())) := by kernel_rfl
noncomputable def G86_7 : Nat → LT86_7
  | 0 => fun _ _ _ _ _ _ _ => none
  | n + 1 => fun R x1 x2 x3 x4 x5 k0 => p86_7 F124 R x1 x2 x3 x4 x5 (fun x1 x2 x3 x4 x5 => G86_7 n R x1 x2 x3 x4 x5 k0) k0
def p86 (F58 : FT58) (F123 : FT123) (L7 : LT86_7) : FT86 := fun R a0 a1 k =>
F58 R a0 fun y1 =>
(match (!y1) with
| true => k (0 : Int) a0 (1 : Int)
| false => let v2 : Bool := (decide (a1 < (0 : Int)));
(match v2 with
| true => k (0 : Int) a0 (1 : Int)
| false => let v3 : Bool := (decide (a1 > (64 : Int)));
(match v3 with
| true => k (0 : Int) a0 (1 : Int)
| false => let v4 : Int := (IntKind.u64.wrap a1);
F123 R a0 fun y5 =>
let v6 : Bool := (decide (v4 > y5));
(match v6 with
| true => k (0 : Int) a0 (8 : Int)
| false => L7 R a1 (0 : Int) (0 : Int) a0 ((0 : Int), ([] : (List Int)), (0 : Int), (List.replicate 32 (0 : Int)), (0 : Int), (0 : Int), ()) (fun x7 x8 x9 =>
k x7 x8 (0 : Int))))))
theorem q86 (F58 : FT58) (F123 : FT123) (F124 : FT124) (L7 : LT86_7) (F : FT86) (R : Type) (x : AT (en86 F).ins) (k : RT (en86 F).outs → PT (en86 F).ins → Option R) :
  xfun (e86 F58 F123 F124 L7 R) (codeOf Tryz.f86) res86 (avs (en86 F).ins x) (finK (en86 F).outs (en86 F).ins k) = p86 F58 F123 L7 R x.1 x.2.1 (fun y1 y2 y3 => k (y1, y2, y3, ()) ()) := by kernel_rfl
noncomputable def F86 : FT86 := p86 F58 F123 (G86_7 FUEL)
theorem env86 (R : Type) : EnvOK Tryz.prog (e86 F58 F123 F124 (G86_7 FUEL) R) := ⟨tabOK, eqOK, callOf_ok (allE_cons ok58 (allE_cons ok123 (allE_cons ok124 allE_nil))), noIns, inlOK_nil⟩
noncomputable def T86_7 : (R : Type) → HT (le86_7 (G86_7 FUEL)).H → (HT (le86_7 (G86_7 FUEL)).H → Option R) → KT R (le86_7 (G86_7 FUEL)).exs → Option R := fun R x kc ke => p86_7 F124 R x.1 x.2.1 x.2.2.1 x.2.2.2.1 x.2.2.2.2.1 (fun x1 x2 x3 x4 x5 => kc (x1, x2, x3, x4, x5, ())) (fun y1 y2 y3 => ke.1 (y1, y2, y3, ()))
theorem it86_7 : ∀ (n : Nat) (R : Type) (x : HT (le86_7 (G86_7 FUEL)).H) (ke : KT R (le86_7 (G86_7 FUEL)).exs), iter T86_7 n R x ke = G86_7 n R x.1 x.2.1 x.2.2.1 x.2.2.2.1 x.2.2.2.2.1 (fun y1 y2 y3 => ke.1 (y1, y2, y3, ())) := by
  intro n
  induction n with
  | zero => intro R x ke; rfl
  | succ n ih =>
    intro R x ke
    show T86_7 R x (fun x' => iter T86_7 n R x' ke) ke = _
    rw [show (fun x' => iter T86_7 n R x' ke) = fun x => G86_7 n R x.1 x.2.1 x.2.2.1 x.2.2.2.1 x.2.2.2.2.1 (fun y1 y2 y3 => ke.1 (y1, y2, y3, ())) from funext fun x' => ih R x' ke]
    rfl
theorem lok86_7 : (le86_7 (G86_7 FUEL)).OK Tryz.prog 0 45 (lcode 7 (codeOf Tryz.f86)) := fun R x ke r h =>
  iter_sound (fun R => e86 F58 F123 F124 (G86_7 FUEL) R) 0 45 (fun _ => rfl) (fun _ => rfl) (fun R => env86 R) mixed (by
    intro R
    rw [show loopsOf (lcode 7 (codeOf Tryz.f86)) = [] from by kernel_rfl]
    exact allM_nil) (T := T86_7) (fun R x kc ke => q86_7 F58 F123 F124 (G86_7 FUEL) R x kc ke) FUEL R x ke r ((it86_7 FUEL R x ke).trans h)
theorem ok86 : (en86 F86).OK Tryz.prog :=
  ent_ok (Ef := fun R => e86 F58 F123 F124 (G86_7 FUEL) R) (fun R => env86 R) mixed Tryz.func86 (body := codeOf Tryz.f86) (by kernel_rfl) (by kernel_rfl) (np := 0) (nt := 45) (fun _ => rfl) (fun _ => rfl) (by kernel_rfl) (res := res86) (by kernel_rfl) (fun _ => rfl) (fun _ => Nat.le_of_ble_eq_true rfl) (by
    intro R
    rw [show loopsOf (codeOf Tryz.f86) = [lcode 7 (codeOf Tryz.f86)] from by kernel_rfl]
    exact (allM_cons (loop_ok2 (e := le86_7 (G86_7 FUEL)) rfl rfl lok86_7) allM_nil)) (fun R x k => q86 F58 F123 F124 (G86_7 FUEL) F86 R x k)
abbrev FT46 : Type 1 := (R : Type) → Tq6 → Int → Int → (Int → Tq6 → Int → Option R) → Option R
def en46 (F : FT46) : Ent := ⟨46, [(false, Kq6), (false, (.int .u64)), (false, (.int .i64))], [(false, (.int .u64)), (false, Kq6), (false, (.int .i64))], fun R x k => F R x.1 x.2.1 x.2.2.1 (fun y1 y2 y3 => k (y1, y2, y3, ()) ())⟩
def res46 : List (ResultVar × TypeId × Bool) := [(.tmp 6, 22, false), (.cell 7 30, 30, false), (.tmp 8, 32, false)]
abbrev LT46_4 : Type 1 := (R : Type) → Int → Int → Int → Tq6 → Tq6 → (Int → Int → Tq6 → Option R) → (Tq6 → Tq6 → Option R) → Option R
def le46_4 (L : LT46_4) : LEnt := ⟨4, [.val 1 (.int .u64), .val 2 (.int .i64), .fix 3 (.ptr 0 [] Kq6), .fix 7 (.ptr 1 [] Kq6), .val 9 (.int .i64), .var 0 Kq6 false, .var 1 Kq6 false], 2, [(.ret, [.val 6 (.int .u64), .fix 7 (.ptr 1 [] Kq6), .val 8 (.int .i64), .var 1 Kq6 false]), (.exit 0, [.fix 3 (.ptr 0 [] Kq6), .fix 7 (.ptr 1 [] Kq6), .var 0 Kq6 false, .var 1 Kq6 false])], fun R x ke => L R x.1 x.2.1 x.2.2.1 x.2.2.2.1 x.2.2.2.2.1 (fun y1 y2 y3 => ke.1 (y1, y2, y3, ())) (fun y1 y2 => ke.2.1 (y1, y2, ()))⟩
noncomputable def e46 (F58 : FT58) (F67 : FT67) (F86 : FT86) (L4 : LT46_4) (R : Type) : Env R := ⟨TT, EQT, 0, 57, ownOf [], callOf [en58 F58, en67 F67, en86 F86] R, loopOf [le46_4 L4] R, [], inlOf []⟩
def p46_4 (F67 : FT67) (F86 : FT86) : (R : Type) → Int → Int → Int → Tq6 → Tq6 → (Int → Int → Int → Tq6 → Tq6 → Option R) → (Int → Int → Tq6 → Option R) → (Tq6 → Tq6 → Option R) → Option R := fun R x1 x2 x3 x4 x5 kc k0 k1 =>
let v6 : Bool := (decide (x3 < x2));
(match v6 with
| true => F67 R x1 fun y7 =>
F86 R x4 y7 fun y8 y9 y10 =>
let v11 : Bool := (y10 != (0 : Int));
(match v11 with
| true => k0 (0 : Int) y10 x4
| false => let v12 : Bool := (decide (y8 < x1));
(match v12 with
| true => k0 y8 (0 : Int) y9
| false => let v13 : Int := (IntKind.i64.wrap (x3 + (1 : Int)));
kc x1 x2 v13 y9 x5))
| false => k1 x4 x5)
theorem q46_4 (F58 : FT58) (F67 : FT67) (F86 : FT86) (L4 : LT46_4) (R : Type) (x : HT (le46_4 L4).H) (kc : HT (le46_4 L4).H → Option R) (ke : KT R (le46_4 L4).exs) :
  exec (e46 F58 F67 F86 L4 R) (lcode 4 (codeOf Tryz.f46)) (stOf (le46_4 L4).H x 2) (roundK (le46_4 L4).H (le46_4 L4).exs kc ke) =
    p46_4 F67 F86 R x.1 x.2.1 x.2.2.1 x.2.2.2.1 x.2.2.2.2.1 (fun x1 x2 x3 x4 x5 => kc (x1, x2, x3, x4, x5, ())) (fun y1 y2 y3 => ke.1 (y1, y2, y3, ())) (fun y1 y2 => ke.2.1 (y1, y2, ())) := by kernel_rfl
noncomputable def G46_4 : Nat → LT46_4
  | 0 => fun _ _ _ _ _ _ _ _ => none
  | n + 1 => fun R x1 x2 x3 x4 x5 k0 k1 => p46_4 F67 F86 R x1 x2 x3 x4 x5 (fun x1 x2 x3 x4 x5 => G46_4 n R x1 x2 x3 x4 x5 k0 k1) k0 k1
def p46 (F58 : FT58) (L4 : LT46_4) : FT46 := fun R a0 a1 a2 k =>
F58 R a0 fun y1 =>
(match (!y1) with
| true => k (0 : Int) a0 (1 : Int)
| false => let v2 : Bool := (decide (a1 < (1 : Int)));
(match v2 with
| true => k (0 : Int) a0 (1 : Int)
| false => let v3 : Bool := (decide (a1 ≥ (9223372036854775808 : Int)));
(match v3 with
| true => k (0 : Int) a0 (1 : Int)
| false => let v4 : Bool := (decide (a2 < (1 : Int)));
(match v4 with
| true => k (0 : Int) a0 (1 : Int)
| false => let v5 : Bool := (decide (a2 > (64 : Int)));
(match v5 with
| true => k (0 : Int) a0 (1 : Int)
| false => L4 R a1 a2 (0 : Int) a0 ((0 : Int), ([] : (List Int)), (0 : Int), (List.replicate 32 (0 : Int)), (0 : Int), (0 : Int), ()) (fun x6 x7 x8 =>
k x6 x8 x7) (fun x9 x10 =>
k (0 : Int) x9 (9 : Int)))))))
theorem q46 (F58 : FT58) (F67 : FT67) (F86 : FT86) (L4 : LT46_4) (F : FT46) (R : Type) (x : AT (en46 F).ins) (k : RT (en46 F).outs → PT (en46 F).ins → Option R) :
  xfun (e46 F58 F67 F86 L4 R) (codeOf Tryz.f46) res46 (avs (en46 F).ins x) (finK (en46 F).outs (en46 F).ins k) = p46 F58 L4 R x.1 x.2.1 x.2.2.1 (fun y1 y2 y3 => k (y1, y2, y3, ()) ()) := by kernel_rfl
noncomputable def F46 : FT46 := p46 F58 (G46_4 FUEL)
theorem env46 (R : Type) : EnvOK Tryz.prog (e46 F58 F67 F86 (G46_4 FUEL) R) := ⟨tabOK, eqOK, callOf_ok (allE_cons ok58 (allE_cons ok67 (allE_cons ok86 allE_nil))), noIns, inlOK_nil⟩
noncomputable def T46_4 : (R : Type) → HT (le46_4 (G46_4 FUEL)).H → (HT (le46_4 (G46_4 FUEL)).H → Option R) → KT R (le46_4 (G46_4 FUEL)).exs → Option R := fun R x kc ke => p46_4 F67 F86 R x.1 x.2.1 x.2.2.1 x.2.2.2.1 x.2.2.2.2.1 (fun x1 x2 x3 x4 x5 => kc (x1, x2, x3, x4, x5, ())) (fun y1 y2 y3 => ke.1 (y1, y2, y3, ())) (fun y1 y2 => ke.2.1 (y1, y2, ()))
theorem it46_4 : ∀ (n : Nat) (R : Type) (x : HT (le46_4 (G46_4 FUEL)).H) (ke : KT R (le46_4 (G46_4 FUEL)).exs), iter T46_4 n R x ke = G46_4 n R x.1 x.2.1 x.2.2.1 x.2.2.2.1 x.2.2.2.2.1 (fun y1 y2 y3 => ke.1 (y1, y2, y3, ())) (fun y1 y2 => ke.2.1 (y1, y2, ())) := by
  intro n
  induction n with
  | zero => intro R x ke; rfl
  | succ n ih =>
    intro R x ke
    show T46_4 R x (fun x' => iter T46_4 n R x' ke) ke = _
    rw [show (fun x' => iter T46_4 n R x' ke) = fun x => G46_4 n R x.1 x.2.1 x.2.2.1 x.2.2.2.1 x.2.2.2.2.1 (fun y1 y2 y3 => ke.1 (y1, y2, y3, ())) (fun y1 y2 => ke.2.1 (y1, y2, ())) from funext fun x' => ih R x' ke]
    rfl
theorem lok46_4 : (le46_4 (G46_4 FUEL)).OK Tryz.prog 0 57 (lcode 4 (codeOf Tryz.f46)) := fun R x ke r h =>
  iter_sound (fun R => e46 F58 F67 F86 (G46_4 FUEL) R) 0 57 (fun _ => rfl) (fun _ => rfl) (fun R => env46 R) mixed (by
    intro R
    rw [show loopsOf (lcode 4 (codeOf Tryz.f46)) = [] from by kernel_rfl]
    exact allM_nil) (T := T46_4) (fun R x kc ke => q46_4 F58 F67 F86 (G46_4 FUEL) R x kc ke) FUEL R x ke r ((it46_4 FUEL R x ke).trans h)
theorem ok46 : (en46 F46).OK Tryz.prog :=
  ent_ok (Ef := fun R => e46 F58 F67 F86 (G46_4 FUEL) R) (fun R => env46 R) mixed Tryz.func46 (body := codeOf Tryz.f46) (by kernel_rfl) (by kernel_rfl) (np := 0) (nt := 57) (fun _ => rfl) (fun _ => rfl) (by kernel_rfl) (res := res46) (by kernel_rfl) (fun _ => rfl) (fun _ => Nat.le_of_ble_eq_true rfl) (by
    intro R
    rw [show loopsOf (codeOf Tryz.f46) = [lcode 4 (codeOf Tryz.f46)] from by kernel_rfl]
    exact (allM_cons (loop_ok2 (e := le46_4 (G46_4 FUEL)) rfl rfl lok46_4) allM_nil)) (fun R x k => q46 F58 F67 F86 (G46_4 FUEL) F46 R x k)
abbrev FT87 : Type 1 := (R : Type) → Tq7 → Int → Int → (Int → Int → Option R) → Option R
def en87 (F : FT87) : Ent := ⟨87, [(false, Kq7), (false, (.int .i64)), (false, (.int .u64))], [(false, (.int .i64)), (false, (.int .i64))], fun R x k => F R x.1 x.2.1 x.2.2.1 (fun y1 y2 => k (y1, y2, ()) ())⟩
def res87 : List (ResultVar × TypeId × Bool) := [(.tmp 6, 3, false), (.tmp 7, 32, false)]
noncomputable def e87 (F45 : FT45) (R : Type) : Env R := ⟨TT, EQT, 0, 41, ownOf [], callOf [en45 F45] R, loopOf [] R, [], inlOf []⟩
def p87 (F45 : FT45) : FT87 := fun R a0 a1 a2 k =>
F45 R a0 fun y1 =>
(match (!y1) with
| true => k (0 : Int) (1 : Int)
| false => let v2 : Bool := (decide (a1 < (0 : Int)));
(match v2 with
| true => k (0 : Int) (3 : Int)
| false => let v3 : Int := (List.length a0.2.1 : Int);
let v4 : Bool := (decide (a1 ≥ v3));
(match v4 with
| true => k (0 : Int) (3 : Int)
| false => let v5 : Bool := (decide (a2 ≥ a0.1));
(match v5 with
| true => k (0 : Int) (3 : Int)
| false => (match (bnd a1 (List.length a0.2.1 : Int)) with
| true => let v6 : Int := (List.getD a0.2.1 (Int.toNat a1) ((0 : Int), (0 : Int), ())).1;
let v7 : Bool := (decide (a2 < v6));
(match v7 with
| true => k a1 (0 : Int)
| false => (match (bnd a1 (List.length a0.2.1 : Int)) with
| true => let v8 : Int := (List.getD a0.2.1 (Int.toNat a1) ((0 : Int), (0 : Int), ())).2.1;
k v8 (0 : Int)
| false => none))
| false => none)))))
theorem q87 (F45 : FT45) (F : FT87) (R : Type) (x : AT (en87 F).ins) (k : RT (en87 F).outs → PT (en87 F).ins → Option R) :
  xfun (e87 F45 R) (codeOf Tryz.f87) res87 (avs (en87 F).ins x) (finK (en87 F).outs (en87 F).ins k) = p87 F45 R x.1 x.2.1 x.2.2.1 (fun y1 y2 => k (y1, y2, ()) ()) := by kernel_rfl
noncomputable def F87 : FT87 := p87 F45
theorem env87 (R : Type) : EnvOK Tryz.prog (e87 F45 R) := ⟨tabOK, eqOK, callOf_ok (allE_cons ok45 allE_nil), noIns, inlOK_nil⟩
theorem ok87 : (en87 F87).OK Tryz.prog :=
  ent_ok (Ef := fun R => e87 F45 R) (fun R => env87 R) mixed Tryz.func87 (body := codeOf Tryz.f87) (by kernel_rfl) (by kernel_rfl) (np := 0) (nt := 41) (fun _ => rfl) (fun _ => rfl) (by kernel_rfl) (res := res87) (by kernel_rfl) (fun _ => rfl) (fun _ => Nat.le_of_ble_eq_true rfl) (by
    intro R
    rw [show loopsOf (codeOf Tryz.f87) = [] from by kernel_rfl]
    exact allM_nil) (fun R x k => q87 F45 F87 R x k)
abbrev FT48 : Type 1 := (R : Type) → Tq7 → Int → (Int → Int → Option R) → Option R
def en48 (F : FT48) : Ent := ⟨48, [(false, Kq7), (false, (.int .u64))], [(false, (.int .i64)), (false, (.int .i64))], fun R x k => F R x.1 x.2.1 (fun y1 y2 => k (y1, y2, ()) ())⟩
def res48 : List (ResultVar × TypeId × Bool) := [(.tmp 4, 3, false), (.tmp 5, 32, false)]
noncomputable def e48 (F45 : FT45) (F47 : FT47) (F87 : FT87) (R : Type) : Env R := ⟨TT, EQT, 0, 26, ownOf [], callOf [en45 F45, en47 F47, en87 F87] R, loopOf [] R, [], inlOf []⟩
def p48 (F45 : FT45) (F47 : FT47) (F87 : FT87) : FT48 := fun R a0 a1 k =>
F45 R a0 fun y1 =>
(match (!y1) with
| true => k (0 : Int) (1 : Int)
| false => F47 R a0 fun y2 =>
let v3 : Bool := (decide (a1 ≥ y2));
(match v3 with
| true => k (0 : Int) (3 : Int)
| false => (match (!(a0.1 == 0)) with
| true => let v4 : Int := (IntKind.u64.wrap (Int.tdiv a1 a0.1));
let v5 : Int := (IntKind.i64.wrap v4);
(match (!(a0.1 == 0)) with
| true => let v6 : Int := (Int.tmod a1 a0.1);
F87 R a0 v5 v6 fun y7 y8 =>
k y7 y8
| false => none)
| false => none)))
theorem q48 (F45 : FT45) (F47 : FT47) (F87 : FT87) (F : FT48) (R : Type) (x : AT (en48 F).ins) (k : RT (en48 F).outs → PT (en48 F).ins → Option R) :
  xfun (e48 F45 F47 F87 R) (codeOf Tryz.f48) res48 (avs (en48 F).ins x) (finK (en48 F).outs (en48 F).ins k) = p48 F45 F47 F87 R x.1 x.2.1 (fun y1 y2 => k (y1, y2, ()) ()) := by kernel_rfl
noncomputable def F48 : FT48 := p48 F45 F47 F87
theorem env48 (R : Type) : EnvOK Tryz.prog (e48 F45 F47 F87 R) := ⟨tabOK, eqOK, callOf_ok (allE_cons ok45 (allE_cons ok47 (allE_cons ok87 allE_nil))), noIns, inlOK_nil⟩
theorem ok48 : (en48 F48).OK Tryz.prog :=
  ent_ok (Ef := fun R => e48 F45 F47 F87 R) (fun R => env48 R) mixed Tryz.func48 (body := codeOf Tryz.f48) (by kernel_rfl) (by kernel_rfl) (np := 0) (nt := 26) (fun _ => rfl) (fun _ => rfl) (by kernel_rfl) (res := res48) (by kernel_rfl) (fun _ => rfl) (fun _ => Nat.le_of_ble_eq_true rfl) (by
    intro R
    rw [show loopsOf (codeOf Tryz.f48) = [] from by kernel_rfl]
    exact allM_nil) (fun R x k => q48 F45 F47 F87 F48 R x k)
abbrev FT13 : Type 1 := (R : Type) → Tq7 → Tq6 → Int → (Int → Tq6 → Int → Option R) → Option R
def en13 (F : FT13) : Ent := ⟨13, [(false, Kq7), (false, Kq6), (false, (.int .i64))], [(false, (.int .i64)), (false, Kq6), (false, (.int .i64))], fun R x k => F R x.1 x.2.1 x.2.2.1 (fun y1 y2 y3 => k (y1, y2, y3, ()) ())⟩
def res13 : List (ResultVar × TypeId × Bool) := [(.tmp 6, 3, false), (.cell 7 30, 30, false), (.tmp 8, 32, false)]
noncomputable def e13 (F45 : FT45) (F46 : FT46) (F47 : FT47) (F48 : FT48) (R : Type) : Env R := ⟨TT, EQT, 0, 39, ownOf [], callOf [en45 F45, en46 F46, en47 F47, en48 F48] R, loopOf [] R, [], inlOf []⟩
def p13 (F45 : FT45) (F46 : FT46) (F47 : FT47) (F48 : FT48) : FT13 := fun R a0 a1 a2 k =>
F45 R a0 fun y1 =>
(match (!y1) with
| true => k (0 : Int) a1 (1 : Int)
| false => F47 R a0 fun y2 =>
F46 R a1 y2 a2 fun y3 y4 y5 =>
let v6 : Bool := (y5 != (0 : Int));
(match v6 with
| true => k (0 : Int) y4 y5
| false => F48 R a0 y3 fun y7 y8 =>
k y7 y4 (0 : Int)))
theorem q13 (F45 : FT45) (F46 : FT46) (F47 : FT47) (F48 : FT48) (F : FT13) (R : Type) (x : AT (en13 F).ins) (k : RT (en13 F).outs → PT (en13 F).ins → Option R) :
  xfun (e13 F45 F46 F47 F48 R) (codeOf Tryz.f13) res13 (avs (en13 F).ins x) (finK (en13 F).outs (en13 F).ins k) = p13 F45 F46 F47 F48 R x.1 x.2.1 x.2.2.1 (fun y1 y2 y3 => k (y1, y2, y3, ()) ()) := by kernel_rfl
noncomputable def F13 : FT13 := p13 F45 F46 F47 F48
theorem env13 (R : Type) : EnvOK Tryz.prog (e13 F45 F46 F47 F48 R) := ⟨tabOK, eqOK, callOf_ok (allE_cons ok45 (allE_cons ok46 (allE_cons ok47 (allE_cons ok48 allE_nil)))), noIns, inlOK_nil⟩
theorem ok13 : (en13 F13).OK Tryz.prog :=
  ent_ok (Ef := fun R => e13 F45 F46 F47 F48 R) (fun R => env13 R) mixed Tryz.func13 (body := codeOf Tryz.f13) (by kernel_rfl) (by kernel_rfl) (np := 0) (nt := 39) (fun _ => rfl) (fun _ => rfl) (by kernel_rfl) (res := res13) (by kernel_rfl) (fun _ => rfl) (fun _ => Nat.le_of_ble_eq_true rfl) (by
    intro R
    rw [show loopsOf (codeOf Tryz.f13) = [] from by kernel_rfl]
    exact allM_nil) (fun R x k => q13 F45 F46 F47 F48 F13 R x k)
abbrev FT14 : Type 1 := (R : Type) → Tq6 → Tq6 → (Bool → Option R) → Option R
def en14 (F : FT14) : Ent := ⟨14, [(false, Kq6), (false, Kq6)], [(false, .bool)], fun R x k => F R x.1 x.2.1 (fun y1 => k (y1, ()) ())⟩
def p14 : FT14 := fun R a0 a1 k =>
let v1 : Bool := (a0.1 == a1.1);
(match v1 with
| true => let v2 : ByteArray := (strOf a0.2.1);
let v3 : ByteArray := (strOf a1.2.1);
let v4 : Bool := (ByteArray.toList v2 == ByteArray.toList v3);
(match v4 with
| true => let v5 : Bool := (a0.2.2.1 == a1.2.2.1);
(match v5 with
| true => let v6 : Bool := (Kd.eqv (.arr 32 (.int .u8)) a0.2.2.2.1 a1.2.2.2.1);
(match v6 with
| true => let v7 : Bool := (a0.2.2.2.2.1 == a1.2.2.2.2.1);
(match v7 with
| true => let v8 : Bool := (a0.2.2.2.2.2.1 == a1.2.2.2.2.2.1);
k v8
| false => k false)
| false => k false)
| false => k false)
| false => k false)
| false => k false)
noncomputable def F14 : FT14 := p14
abbrev FT3 : Type 1 := (R : Type) → Tq7 → Tq6 → Int → (Bool → Option R) → Option R
def en3 (F : FT3) : Ent := ⟨3, [(false, Kq7), (false, Kq6), (false, (.int .i64))], [(false, .bool)], fun R x k => F R x.1 x.2.1 x.2.2.1 (fun y1 => k (y1, ()) ())⟩
def res3 : List (ResultVar × TypeId × Bool) := [(.tmp 6, 4, false)]
noncomputable def e3 (F11 : FT11) (F12 : FT12) (F13 : FT13) (F14 : FT14) (R : Type) : Env R := ⟨TT, EQT, 0, 54, ownOf [], callOf [en11 F11, en12 F12, en13 F13, en14 F14] R, loopOf [] R, [], inlOf []⟩
def p3 (F11 : FT11) (F12 : FT12) (F13 : FT13) (F14 : FT14) : FT3 := fun R a0 a1 a2 k =>
F11 R  fun y1 =>
(match (!y1) with
| true => k false
| false => let v2 : Int := (List.length a0.2.1 : Int);
let v3 : Bool := (decide (v2 > (200 : Int)));
(match v3 with
| true => k true
| false => let v4 : Int := (List.length a1.2.1 : Int);
let v5 : Bool := (decide (v4 > (500 : Int)));
(match v5 with
| true => k true
| false => F12 R a0 a1 a2 fun y6 y7 y8 =>
F13 R a0 a1 a2 fun y9 y10 y11 =>
let v12 : Bool := (y6 == y9);
(match v12 with
| true => F14 R y7 y10 fun y13 =>
(match y13 with
| true => let v14 : Bool := (y8 == y11);
k v14
| false => k false)
| false => k false))))
theorem q3 (F11 : FT11) (F12 : FT12) (F13 : FT13) (F14 : FT14) (F : FT3) (R : Type) (x : AT (en3 F).ins) (k : RT (en3 F).outs → PT (en3 F).ins → Option R) :
  xfun (e3 F11 F12 F13 F14 R) (codeOf Tryz.f3) res3 (avs (en3 F).ins x) (finK (en3 F).outs (en3 F).ins k) = p3 F11 F12 F13 F14 R x.1 x.2.1 x.2.2.1 (fun y1 => k (y1, ()) ()) := by kernel_rfl
abbrev FT15 : Type 1 := (R : Type) → (List Int) → Tq6 → (Bool → Option R) → Option R
def en15 (F : FT15) : Ent := ⟨15, [(false, (.sl (.int .u64))), (false, Kq6)], [(false, .bool)], fun R x k => F R x.1 x.2.1 (fun y1 => k (y1, ()) ())⟩
def p15 : FT15 := fun R a0 a1 k =>
let v1 : Int := (List.length a0 : Int);
let v2 : Bool := (decide (v1 > (200 : Int)));
(match v2 with
| true => k true
| false => let v3 : Int := (List.length a1.2.1 : Int);
let v4 : Bool := (decide (v3 > (500 : Int)));
k v4)
noncomputable def F15 : FT15 := p15
abbrev FT17 : Type 1 := (R : Type) → (List Int) → Tq6 → Int → (Int → Tq6 → Int → Option R) → Option R
def en17 (F : FT17) : Ent := ⟨17, [(false, (.sl (.int .u64))), (false, Kq6), (false, (.int .i64))], [(false, (.int .i64)), (false, Kq6), (false, (.int .i64))], fun R x k => F R x.1 x.2.1 x.2.2.1 (fun y1 y2 y3 => k (y1, y2, y3, ()) ())⟩
def res17 : List (ResultVar × TypeId × Bool) := [(.tmp 6, 3, false), (.cell 7 30, 30, false), (.tmp 8, 32, false)]
noncomputable def e17 (F13 : FT13) (F40 : FT40) (R : Type) : Env R := ⟨TT, EQT, 0, 27, ownOf [], callOf [en13 F13, en40 F40] R, loopOf [] R, [], inlOf []⟩
def p17 (F13 : FT13) (F40 : FT40) : FT17 := fun R a0 a1 a2 k =>
F40 R a0 fun y1 y2 =>
let v3 : Bool := (y2 != (0 : Int));
(match v3 with
| true => k (0 : Int) a1 y2
| false => F13 R y1 a1 a2 fun y4 y5 y6 =>
k y4 y5 y6)
theorem q17 (F13 : FT13) (F40 : FT40) (F : FT17) (R : Type) (x : AT (en17 F).ins) (k : RT (en17 F).outs → PT (en17 F).ins → Option R) :
  xfun (e17 F13 F40 R) (codeOf Tryz.f17) res17 (avs (en17 F).ins x) (finK (en17 F).outs (en17 F).ins k) = p17 F13 F40 R x.1 x.2.1 x.2.2.1 (fun y1 y2 y3 => k (y1, y2, y3, ()) ()) := by kernel_rfl
noncomputable def F17 : FT17 := p17 F13 F40
theorem env17 (R : Type) : EnvOK Tryz.prog (e17 F13 F40 R) := ⟨tabOK, eqOK, callOf_ok (allE_cons ok13 (allE_cons ok40 allE_nil)), noIns, inlOK_nil⟩
theorem ok17 : (en17 F17).OK Tryz.prog :=
  ent_ok (Ef := fun R => e17 F13 F40 R) (fun R => env17 R) mixed Tryz.func17 (body := codeOf Tryz.f17) (by kernel_rfl) (by kernel_rfl) (np := 0) (nt := 27) (fun _ => rfl) (fun _ => rfl) (by kernel_rfl) (res := res17) (by kernel_rfl) (fun _ => rfl) (fun _ => Nat.le_of_ble_eq_true rfl) (by
    intro R
    rw [show loopsOf (codeOf Tryz.f17) = [] from by kernel_rfl]
    exact allM_nil) (fun R x k => q17 F13 F40 F17 R x k)
abbrev FT4 : Type 1 := (R : Type) → (List Int) → Tq6 → Int → (Bool → Option R) → Option R
def en4 (F : FT4) : Ent := ⟨4, [(false, (.sl (.int .u64))), (false, Kq6), (false, (.int .i64))], [(false, .bool)], fun R x k => F R x.1 x.2.1 x.2.2.1 (fun y1 => k (y1, ()) ())⟩
def res4 : List (ResultVar × TypeId × Bool) := [(.tmp 6, 4, false)]
abbrev LT4_9 : Type 1 := (R : Type) → (List Int) → Int → Int → Int → Int → Int → (List Int) → Tq6 → Tq6 → (Bool → Option R) → (Int → Int → Int → Int → Tq6 → Tq6 → Option R) → Option R
def le4_9 (L : LT4_9) : LEnt := ⟨9, [.val 0 (.sl (.int .u64)), .fix 7 (.own 1 0), .val 8 (.int .i64), .fix 9 (.ptr 2 [] Kq6), .val 10 (.int .i64), .val 11 (.int .i64), .fix 12 (.ptr 3 [] Kq6), .val 13 (.int .i64), .val 14 (.int .i64), .row 1 (.int .u64) true, .var 2 Kq6 false, .var 3 Kq6 false], 4, [(.ret, [.val 6 .bool]), (.exit 0, [.val 8 (.int .i64), .fix 9 (.ptr 2 [] Kq6), .val 10 (.int .i64), .val 11 (.int .i64), .fix 12 (.ptr 3 [] Kq6), .val 13 (.int .i64), .var 2 Kq6 false, .var 3 Kq6 false])], fun R x ke => L R x.1 x.2.1 x.2.2.1 x.2.2.2.1 x.2.2.2.2.1 x.2.2.2.2.2.1 x.2.2.2.2.2.2.1 x.2.2.2.2.2.2.2.1 x.2.2.2.2.2.2.2.2.1 (fun y1 => ke.1 (y1, ())) (fun y1 y2 y3 y4 y5 y6 => ke.2.1 (y1, y2, y3, y4, y5, y6, ()))⟩
noncomputable def e4 (F11 : FT11) (F14 : FT14) (F15 : FT15) (F16 : FT16) (F17 : FT17) (L9 : LT4_9) (R : Type) : Env R := ⟨TT, EQT, 0, 67, ownOf [(5, 0)], callOf [en11 F11, en14 F14, en15 F15, en16 F16, en17 F17] R, loopOf [le4_9 L9] R, [], inlOf []⟩
def p4 (F11 : FT11) (F14 : FT14) (F15 : FT15) (F16 : FT16) (F17 : FT17) (L9 : LT4_9) : FT4 := fun R a0 a1 a2 k =>
F11 R  fun y1 =>
(match (!y1) with
| true => k false
| false => F15 R a0 a1 fun y2 =>
(match y2 with
| true => k true
| false => let v3 : (List Int) := ([] : (List Int));
(match (decide (List.length v3 + List.length a0 ≤ 17592186044416)) with
| true => let v4 : (List Int) := (v3 ++ a0);
F16 R a1 a2 v4 fun y5 y6 y7 =>
F17 R a0 a1 a2 fun y8 y9 y10 =>
L9 R a0 y5 y7 y8 y10 (0 : Int) v4 y6 y9 (fun x11 =>
k x11) (fun x12 x13 x14 x15 x16 x17 =>
let v18 : Bool := (x12 == x14);
(match v18 with
| true => F14 R x16 x17 fun y19 =>
(match y19 with
| true => let v20 : Bool := (x13 == x15);
k v20
| false => k false)
| false => k false))
| false => none)))
theorem q4 (F11 : FT11) (F14 : FT14) (F15 : FT15) (F16 : FT16) (F17 : FT17) (L9 : LT4_9) (F : FT4) (R : Type) (x : AT (en4 F).ins) (k : RT (en4 F).outs → PT (en4 F).ins → Option R) :
  xfun (e4 F11 F14 F15 F16 F17 L9 R) (codeOf Tryz.f4) res4 (avs (en4 F).ins x) (finK (en4 F).outs (en4 F).ins k) = p4 F11 F14 F15 F16 F17 L9 R x.1 x.2.1 x.2.2.1 (fun y1 => k (y1, ()) ()) := by kernel_rfl
abbrev FT73 : Type 1 := (R : Type) → Tq17 → Int → (Bool → Option R) → Option R
def en73 (F : FT73) : Ent := ⟨73, [(false, Kq17), (false, (.int .i64))], [(false, .bool)], fun R x k => F R x.1 x.2.1 (fun y1 => k (y1, ()) ())⟩
def res73 : List (ResultVar × TypeId × Bool) := [(.tmp 4, 4, false)]
noncomputable def e73 (R : Type) : Env R := ⟨TT, EQT, 0, 21, ownOf [], callOf [] R, loopOf [] R, [], inlOf []⟩
def p73 : FT73 := fun R a0 a1 k =>
let v1 : Bool := (decide (a1 ≥ (0 : Int)));
(match v1 with
| true => let v2 : Bool := (decide (a1 < (1024 : Int)));
(match v2 with
| true => let v3 : Bool := (decide (a0.2.1 > (0 : Int)));
(match v3 with
| true => let v4 : Bool := (decide (a0.2.1 ≤ (64 : Int)));
k v4
| false => k false)
| false => k false)
| false => k false)
theorem q73 (F : FT73) (R : Type) (x : AT (en73 F).ins) (k : RT (en73 F).outs → PT (en73 F).ins → Option R) :
  xfun (e73 R) (codeOf Tryz.f73) res73 (avs (en73 F).ins x) (finK (en73 F).outs (en73 F).ins k) = p73 R x.1 x.2.1 (fun y1 => k (y1, ()) ()) := by kernel_rfl
noncomputable def F73 : FT73 := p73
theorem env73 (R : Type) : EnvOK Tryz.prog (e73 R) := ⟨tabOK, eqOK, callOf_ok allE_nil, noIns, inlOK_nil⟩
theorem ok73 : (en73 F73).OK Tryz.prog :=
  ent_ok (Ef := fun R => e73 R) (fun R => env73 R) mixed Tryz.func73 (body := codeOf Tryz.f73) (by kernel_rfl) (by kernel_rfl) (np := 0) (nt := 21) (fun _ => rfl) (fun _ => rfl) (by kernel_rfl) (res := res73) (by kernel_rfl) (fun _ => rfl) (fun _ => Nat.le_of_ble_eq_true rfl) (by
    intro R
    rw [show loopsOf (codeOf Tryz.f73) = [] from by kernel_rfl]
    exact allM_nil) (fun R x k => q73 F73 R x k)
abbrev FT92 : Type 1 := (R : Type) → (List Int) → ((List Int) → Option R) → Option R
def en92 (F : FT92) : Ent := ⟨92, [(false, (.sl (.int .u64)))], [(true, (.int .u64))], fun R x k => F R x.1 (fun y1 => k (y1, ()) ())⟩
def e92 : Env (RT [(true, (.int .u64))]) := ⟨TT, EQT, 0, 8, ownOf [(2, 0), (3, 0)], fun _ _ _ => none, fun _ _ _ => none, [], inlOf []⟩
def F92 : FT92 := fun R a0 k => match decide (List.length ([] : (List Int)) + List.length a0 ≤ 17592186044416) with | true => k a0 | false => none
theorem ok92 : (en92 F92).OK Tryz.prog :=
  clone_ok (e := (.int .u64)) e92 ⟨tabOK, eqOK, (fun f b K r h => by cases h), noIns, inlOK_nil⟩ mixed Tryz.func92 (body := codeOf Tryz.f92) (by kernel_rfl) (by kernel_rfl) (by kernel_rfl) (res := [(.tmp 2, 37, true)]) (by kernel_rfl) rfl (by decide) (by kernel_rfl) (lim := 17592186044416) (by kernel_rfl) (fun l => by kernel_rfl)
abbrev FT93 : Type 1 := (R : Type) → Int → (Int → Option R) → Option R
def en93 (F : FT93) : Ent := ⟨93, [(false, (.int .i64))], [(false, (.int .i64))], fun R x k => F R x.1 (fun y1 => k (y1, ()) ())⟩
def res93 : List (ResultVar × TypeId × Bool) := [(.tmp 2, 3, false)]
noncomputable def e93 (R : Type) : Env R := ⟨TT, EQT, 0, 7, ownOf [], callOf [] R, loopOf [] R, [], inlOf []⟩
def p93 : FT93 := fun R a0 k =>
let v1 : Int := (IntKind.i64.wrap (0 - a0));
let v2 : Int := (iand .i64 a0 v1);
k v2
theorem q93 (F : FT93) (R : Type) (x : AT (en93 F).ins) (k : RT (en93 F).outs → PT (en93 F).ins → Option R) :
  xfun (e93 R) (codeOf Tryz.f93) res93 (avs (en93 F).ins x) (finK (en93 F).outs (en93 F).ins k) = p93 R x.1 (fun y1 => k (y1, ()) ()) := by kernel_rfl
noncomputable def F93 : FT93 := p93
theorem env93 (R : Type) : EnvOK Tryz.prog (e93 R) := ⟨tabOK, eqOK, callOf_ok allE_nil, noIns, inlOK_nil⟩
theorem ok93 : (en93 F93).OK Tryz.prog :=
  ent_ok (Ef := fun R => e93 R) (fun R => env93 R) mixed Tryz.func93 (body := codeOf Tryz.f93) (by kernel_rfl) (by kernel_rfl) (np := 0) (nt := 7) (fun _ => rfl) (fun _ => rfl) (by kernel_rfl) (res := res93) (by kernel_rfl) (fun _ => rfl) (fun _ => Nat.le_of_ble_eq_true rfl) (by
    intro R
    rw [show loopsOf (codeOf Tryz.f93) = [] from by kernel_rfl]
    exact allM_nil) (fun R x k => q93 F93 R x k)
abbrev FT50 : Type 1 := (R : Type) → (List Int) → (((List Int) × Unit) → Int → Option R) → Option R
def en50 (F : FT50) : Ent := ⟨50, [(false, (.sl (.int .u64)))], [(false, (.pair (.sl (.int .u64)) .unit)), (false, (.int .i64))], fun R x k => F R x.1 (fun y1 y2 => k (y1, y2, ()) ())⟩
def res50 : List (ResultVar × TypeId × Bool) := [(.cell 2 49, 49, false), (.tmp 3, 32, false)]
abbrev LT50_8 : Type 1 := (R : Type) → Int → ((List Int) × Unit) → (List Int) → (((List Int) × Unit) → (List Int) → Option R) → Option R
def le50_8 (L : LT50_8) : LEnt := ⟨8, [.fix 2 (.ptr 0 [] (.pair (.sl (.int .u64)) .unit)), .fix 6 (.own 1 0), .val 7 (.int .i64), .var 0 (.pair (.sl (.int .u64)) .unit) false, .row 1 (.int .u64) false], 2, [(.exit 0, [.fix 2 (.ptr 0 [] (.pair (.sl (.int .u64)) .unit)), .fix 6 (.own 1 0), .var 0 (.pair (.sl (.int .u64)) .unit) false, .row 1 (.int .u64) false])], fun R x ke => L R x.1 x.2.1 x.2.2.1 (fun y1 y2 => ke.1 (y1, y2, ()))⟩
noncomputable def e50 (F91 : FT91) (F92 : FT92) (F93 : FT93) (L8 : LT50_8) (R : Type) : Env R := ⟨TT, EQT, 0, 51, ownOf [], callOf [en91 F91, en92 F92, en93 F93] R, loopOf [le50_8 L8] R, [], inlOf []⟩
def p50_8 (F93 : FT93) : (R : Type) → Int → ((List Int) × Unit) → (List Int) → (Int → ((List Int) × Unit) → (List Int) → Option R) → (((List Int) × Unit) → (List Int) → Option R) → Option R := fun R x1 x2 x3 kc k0 =>
let v4 : Int := (List.length x3 : Int);
let v5 : Bool := (decide (x1 ≤ v4));
(match v5 with
| true => F93 R x1 fun y6 =>
let v7 : Int := (IntKind.i64.wrap (x1 + y6));
let v8 : Int := (List.length x3 : Int);
let v9 : Bool := (decide (v7 ≤ v8));
(match v9 with
| true => let v10 : Int := (IntKind.i64.wrap (v7 - (1 : Int)));
(match (bnd v10 (List.length x3 : Int)) with
| true => let v11 : Int := (List.getD x3 (Int.toNat v10) (0 : Int));
let v12 : Int := (IntKind.i64.wrap (x1 - (1 : Int)));
(match (bnd v12 (List.length x3 : Int)) with
| true => let v13 : Int := (List.getD x3 (Int.toNat v12) (0 : Int));
let v14 : Int := (IntKind.u64.wrap (v11 + v13));
(match (bnd v10 (List.length x3 : Int)) with
| true => let v15 : (List Int) := (List.set x3 (Int.toNat v10) v14);
let v16 : Int := (IntKind.i64.wrap (x1 + (1 : Int)));
kc v16 x2 v15
| false => none)
| false => none)
| false => none)
| false => let v17 : Int := (IntKind.i64.wrap (x1 + (1 : Int)));
kc v17 x2 x3)
| false => k0 x2 x3)
theorem q50_8 (F91 : FT91) (F92 : FT92) (F93 : FT93) (L8 : LT50_8) (R : Type) (x : HT (le50_8 L8).H) (kc : HT (le50_8 L8).H → Option R) (ke : KT R (le50_8 L8).exs) :
  exec (e50 F91 F92 F93 L8 R) (lcode 8 (codeOf Tryz.f50)) (stOf (le50_8 L8).H x 2) (roundK (le50_8 L8).H (le50_8 L8).exs kc ke) =
    p50_8 F93 R x.1 x.2.1 x.2.2.1 (fun x1 x2 x3 => kc (x1, x2, x3, ())) (fun y1 y2 => ke.1 (y1, y2, ())) := by kernel_rfl
noncomputable def G50_8 : Nat → LT50_8
  | 0 => fun _ _ _ _ _ => none
  | n + 1 => fun R x1 x2 x3 k0 => p50_8 F93 R x1 x2 x3 (fun x1 x2 x3 => G50_8 n R x1 x2 x3 k0) k0
def p50 (F91 : FT91) (F92 : FT92) (L8 : LT50_8) : FT50 := fun R a0 k =>
let v1 : Int := (List.length a0 : Int);
let v2 : Bool := (decide (v1 > (1048576 : Int)));
(match v2 with
| true => k (([] : (List Int)), ()) (14 : Int)
| false => F91 R a0 fun y3 y4 =>
(match (!y4) with
| true => k (([] : (List Int)), ()) (11 : Int)
| false => F92 R a0 fun y5 =>
L8 R (1 : Int) (([] : (List Int)), ()) y5 (fun x6 x7 =>
k (x7, ()) (0 : Int))))
theorem q50 (F91 : FT91) (F92 : FT92) (F93 : FT93) (L8 : LT50_8) (F : FT50) (R : Type) (x : AT (en50 F).ins) (k : RT (en50 F).outs → PT (en50 F).ins → Option R) :
  xfun (e50 F91 F92 F93 L8 R) (codeOf Tryz.f50) res50 (avs (en50 F).ins x) (finK (en50 F).outs (en50 F).ins k) = p50 F91 F92 L8 R x.1 (fun y1 y2 => k (y1, y2, ()) ()) := by kernel_rfl
noncomputable def F50 : FT50 := p50 F91 F92 (G50_8 FUEL)
theorem env50 (R : Type) : EnvOK Tryz.prog (e50 F91 F92 F93 (G50_8 FUEL) R) := ⟨tabOK, eqOK, callOf_ok (allE_cons ok91 (allE_cons ok92 (allE_cons ok93 allE_nil))), noIns, inlOK_nil⟩
noncomputable def T50_8 : (R : Type) → HT (le50_8 (G50_8 FUEL)).H → (HT (le50_8 (G50_8 FUEL)).H → Option R) → KT R (le50_8 (G50_8 FUEL)).exs → Option R := fun R x kc ke => p50_8 F93 R x.1 x.2.1 x.2.2.1 (fun x1 x2 x3 => kc (x1, x2, x3, ())) (fun y1 y2 => ke.1 (y1, y2, ()))
theorem it50_8 : ∀ (n : Nat) (R : Type) (x : HT (le50_8 (G50_8 FUEL)).H) (ke : KT R (le50_8 (G50_8 FUEL)).exs), iter T50_8 n R x ke = G50_8 n R x.1 x.2.1 x.2.2.1 (fun y1 y2 => ke.1 (y1, y2, ())) := by
  intro n
  induction n with
  | zero => intro R x ke; rfl
  | succ n ih =>
    intro R x ke
    show T50_8 R x (fun x' => iter T50_8 n R x' ke) ke = _
    rw [show (fun x' => iter T50_8 n R x' ke) = fun x => G50_8 n R x.1 x.2.1 x.2.2.1 (fun y1 y2 => ke.1 (y1, y2, ())) from funext fun x' => ih R x' ke]
    rfl
theorem lok50_8 : (le50_8 (G50_8 FUEL)).OK Tryz.prog 0 51 (lcode 8 (codeOf Tryz.f50)) := fun R x ke r h =>
  iter_sound (fun R => e50 F91 F92 F93 (G50_8 FUEL) R) 0 51 (fun _ => rfl) (fun _ => rfl) (fun R => env50 R) mixed (by
    intro R
    rw [show loopsOf (lcode 8 (codeOf Tryz.f50)) = [] from by kernel_rfl]
    exact allM_nil) (T := T50_8) (fun R x kc ke => q50_8 F91 F92 F93 (G50_8 FUEL) R x kc ke) FUEL R x ke r ((it50_8 FUEL R x ke).trans h)
theorem ok50 : (en50 F50).OK Tryz.prog :=
  ent_ok (Ef := fun R => e50 F91 F92 F93 (G50_8 FUEL) R) (fun R => env50 R) mixed Tryz.func50 (body := codeOf Tryz.f50) (by kernel_rfl) (by kernel_rfl) (np := 0) (nt := 51) (fun _ => rfl) (fun _ => rfl) (by kernel_rfl) (res := res50) (by kernel_rfl) (fun _ => rfl) (fun _ => Nat.le_of_ble_eq_true rfl) (by
    intro R
    rw [show loopsOf (codeOf Tryz.f50) = [lcode 8 (codeOf Tryz.f50)] from by kernel_rfl]
    exact (allM_cons (loop_ok2 (e := le50_8 (G50_8 FUEL)) rfl rfl lok50_8) allM_nil)) (fun R x k => q50 F91 F92 F93 (G50_8 FUEL) F50 R x k)
abbrev FT115 : Type 1 := (R : Type) → Int → Int → (Int → Option R) → Option R
def en115 (F : FT115) : Ent := ⟨115, [(false, (.int .u32)), (false, (.int .u32))], [(false, (.int .u64))], fun R x k => F R x.1 x.2.1 (fun y1 => k (y1, ()) ())⟩
def res115 : List (ResultVar × TypeId × Bool) := [(.tmp 4, 22, false)]
noncomputable def e115 (R : Type) : Env R := ⟨TT, EQT, 0, 11, ownOf [], callOf [] R, loopOf [] R, [], inlOf []⟩
def p115 : FT115 := fun R a0 a1 k =>
let v1 : Int := (IntKind.u64.wrap a0);
let v2 : Int := (ishl .u64 v1 (32 : Int));
let v3 : Int := (IntKind.u64.wrap a1);
let v4 : Int := (ior .u64 v2 v3);
k v4
theorem q115 (F : FT115) (R : Type) (x : AT (en115 F).ins) (k : RT (en115 F).outs → PT (en115 F).ins → Option R) :
  xfun (e115 R) (codeOf Tryz.f115) res115 (avs (en115 F).ins x) (finK (en115 F).outs (en115 F).ins k) = p115 R x.1 x.2.1 (fun y1 => k (y1, ()) ()) := by kernel_rfl
noncomputable def F115 : FT115 := p115
theorem env115 (R : Type) : EnvOK Tryz.prog (e115 R) := ⟨tabOK, eqOK, callOf_ok allE_nil, noIns, inlOK_nil⟩
theorem ok115 : (en115 F115).OK Tryz.prog :=
  ent_ok (Ef := fun R => e115 R) (fun R => env115 R) mixed Tryz.func115 (body := codeOf Tryz.f115) (by kernel_rfl) (by kernel_rfl) (np := 0) (nt := 11) (fun _ => rfl) (fun _ => rfl) (by kernel_rfl) (res := res115) (by kernel_rfl) (fun _ => rfl) (fun _ => Nat.le_of_ble_eq_true rfl) (by
    intro R
    rw [show loopsOf (codeOf Tryz.f115) = [] from by kernel_rfl]
    exact allM_nil) (fun R x k => q115 F115 R x k)
abbrev FT114 : Type 1 := (R : Type) → (List Int) → Int → (Tq6 → Option R) → Option R
def en114 (F : FT114) : Ent := ⟨114, [(false, (.arr 32 (.int .u8))), (false, (.int .u64))], [(false, Kq6)], fun R x k => F R x.1 x.2.1 (fun y1 => k (y1, ()) ())⟩
def res114 : List (ResultVar × TypeId × Bool) := [(.cell 4 30, 30, false)]
noncomputable def e114 (R : Type) : Env R := ⟨TT, EQT, 0, 8, ownOf [], callOf [] R, loopOf [] R, [], inlOf []⟩
def p114 : FT114 := fun R a0 a1 k =>
k ((2 : Int), ([] : (List Int)), (0 : Int), a0, a1, (0 : Int), ())
theorem q114 (F : FT114) (R : Type) (x : AT (en114 F).ins) (k : RT (en114 F).outs → PT (en114 F).ins → Option R) :
  xfun (e114 R) (codeOf Tryz.f114) res114 (avs (en114 F).ins x) (finK (en114 F).outs (en114 F).ins k) = p114 R x.1 x.2.1 (fun y1 => k (y1, ()) ()) := by kernel_rfl
noncomputable def F114 : FT114 := p114
theorem env114 (R : Type) : EnvOK Tryz.prog (e114 R) := ⟨tabOK, eqOK, callOf_ok allE_nil, noIns, inlOK_nil⟩
theorem ok114 : (en114 F114).OK Tryz.prog :=
  ent_ok (Ef := fun R => e114 R) (fun R => env114 R) mixed Tryz.func114 (body := codeOf Tryz.f114) (by kernel_rfl) (by kernel_rfl) (np := 0) (nt := 8) (fun _ => rfl) (fun _ => rfl) (by kernel_rfl) (res := res114) (by kernel_rfl) (fun _ => rfl) (fun _ => Nat.le_of_ble_eq_true rfl) (by
    intro R
    rw [show loopsOf (codeOf Tryz.f114) = [] from by kernel_rfl]
    exact allM_nil) (fun R x k => q114 F114 R x k)
abbrev FT77 : Type 1 := (R : Type) → Tq17 → Int → Int → (Tq6 → Option R) → Option R
def en77 (F : FT77) : Ent := ⟨77, [(false, Kq17), (false, (.int .u32)), (false, (.int .i64))], [(false, Kq6)], fun R x k => F R x.1 x.2.1 x.2.2.1 (fun y1 => k (y1, ()) ())⟩
def res77 : List (ResultVar × TypeId × Bool) := [(.cell 6 30, 30, false)]
noncomputable def e77 (F114 : FT114) (F115 : FT115) (R : Type) : Env R := ⟨TT, EQT, 0, 14, ownOf [], callOf [en114 F114, en115 F115] R, loopOf [] R, [], inlOf []⟩
def p77 (F114 : FT114) (F115 : FT115) : FT77 := fun R a0 a1 a2 k =>
let v1 : Int := (IntKind.u32.wrap a2);
F115 R a1 v1 fun y2 =>
F114 R a0.1 y2 fun y3 =>
k y3
theorem q77 (F114 : FT114) (F115 : FT115) (F : FT77) (R : Type) (x : AT (en77 F).ins) (k : RT (en77 F).outs → PT (en77 F).ins → Option R) :
  xfun (e77 F114 F115 R) (codeOf Tryz.f77) res77 (avs (en77 F).ins x) (finK (en77 F).outs (en77 F).ins k) = p77 F114 F115 R x.1 x.2.1 x.2.2.1 (fun y1 => k (y1, ()) ()) := by kernel_rfl
noncomputable def F77 : FT77 := p77 F114 F115
theorem env77 (R : Type) : EnvOK Tryz.prog (e77 F114 F115 R) := ⟨tabOK, eqOK, callOf_ok (allE_cons ok114 (allE_cons ok115 allE_nil)), noIns, inlOK_nil⟩
theorem ok77 : (en77 F77).OK Tryz.prog :=
  ent_ok (Ef := fun R => e77 F114 F115 R) (fun R => env77 R) mixed Tryz.func77 (body := codeOf Tryz.f77) (by kernel_rfl) (by kernel_rfl) (np := 0) (nt := 14) (fun _ => rfl) (fun _ => rfl) (by kernel_rfl) (res := res77) (by kernel_rfl) (fun _ => rfl) (fun _ => Nat.le_of_ble_eq_true rfl) (by
    intro R
    rw [show loopsOf (codeOf Tryz.f77) = [] from by kernel_rfl]
    exact allM_nil) (fun R x k => q77 F114 F115 F77 R x k)
abbrev FT128 : Type 1 := (R : Type) → ((List Int) × Unit) → (Int → Option R) → Option R
def en128 (F : FT128) : Ent := ⟨128, [(false, (.pair (.sl (.int .u64)) .unit))], [(false, (.int .i64))], fun R x k => F R x.1 (fun y1 => k (y1, ()) ())⟩
def res128 : List (ResultVar × TypeId × Bool) := [(.tmp 2, 3, false)]
noncomputable def e128 (R : Type) : Env R := ⟨TT, EQT, 0, 6, ownOf [], callOf [] R, loopOf [] R, [], inlOf []⟩
def p128 : FT128 := fun R a0 k =>
let v1 : Int := (List.length a0.1 : Int);
k v1
theorem q128 (F : FT128) (R : Type) (x : AT (en128 F).ins) (k : RT (en128 F).outs → PT (en128 F).ins → Option R) :
  xfun (e128 R) (codeOf Tryz.f128) res128 (avs (en128 F).ins x) (finK (en128 F).outs (en128 F).ins k) = p128 R x.1 (fun y1 => k (y1, ()) ()) := by kernel_rfl
noncomputable def F128 : FT128 := p128
theorem env128 (R : Type) : EnvOK Tryz.prog (e128 R) := ⟨tabOK, eqOK, callOf_ok allE_nil, noIns, inlOK_nil⟩
theorem ok128 : (en128 F128).OK Tryz.prog :=
  ent_ok (Ef := fun R => e128 R) (fun R => env128 R) mixed Tryz.func128 (body := codeOf Tryz.f128) (by kernel_rfl) (by kernel_rfl) (np := 0) (nt := 6) (fun _ => rfl) (fun _ => rfl) (by kernel_rfl) (res := res128) (by kernel_rfl) (fun _ => rfl) (fun _ => Nat.le_of_ble_eq_true rfl) (by
    intro R
    rw [show loopsOf (codeOf Tryz.f128) = [] from by kernel_rfl]
    exact allM_nil) (fun R x k => q128 F128 R x k)
abbrev FT127 : Type 1 := (R : Type) → ((List Int) × Unit) → Int → (Int → Option R) → Option R
def en127 (F : FT127) : Ent := ⟨127, [(false, (.pair (.sl (.int .u64)) .unit)), (false, (.int .i64))], [(false, (.int .u64))], fun R x k => F R x.1 x.2.1 (fun y1 => k (y1, ()) ())⟩
def res127 : List (ResultVar × TypeId × Bool) := [(.tmp 4, 22, false)]
abbrev LT127_1 : Type 1 := (R : Type) → Int → Int → ((List Int) × Unit) → (Int → Option R) → Option R
def le127_1 (L : LT127_1) : LEnt := ⟨1, [.val 1 (.int .i64), .fix 2 (.ptr 0 [] (.pair (.sl (.int .u64)) .unit)), .val 4 (.int .u64), .var 0 (.pair (.sl (.int .u64)) .unit) false], 1, [(.exit 0, [.val 4 (.int .u64)])], fun R x ke => L R x.1 x.2.1 x.2.2.1 (fun y1 => ke.1 (y1, ()))⟩
noncomputable def e127 (F93 : FT93) (L1 : LT127_1) (R : Type) : Env R := ⟨TT, EQT, 0, 20, ownOf [], callOf [en93 F93] R, loopOf [le127_1 L1] R, [], inlOf []⟩
def p127_1 (F93 : FT93) : (R : Type) → Int → Int → ((List Int) × Unit) → (Int → Int → ((List Int) × Unit) → Option R) → (Int → Option R) → Option R := fun R x1 x2 x3 kc k0 =>
let v4 : Bool := (decide (x1 > (0 : Int)));
(match v4 with
| true => let v5 : Int := (IntKind.i64.wrap (x1 - (1 : Int)));
(match (bnd v5 (List.length x3.1 : Int)) with
| true => let v6 : Int := (List.getD x3.1 (Int.toNat v5) (0 : Int));
let v7 : Int := (IntKind.u64.wrap (x2 + v6));
F93 R x1 fun y8 =>
let v9 : Int := (IntKind.i64.wrap (x1 - y8));
kc v9 v7 x3
| false => none)
| false => k0 x2)
theorem q127_1 (F93 : FT93) (L1 : LT127_1) (R : Type) (x : HT (le127_1 L1).H) (kc : HT (le127_1 L1).H → Option R) (ke : KT R (le127_1 L1).exs) :
  exec (e127 F93 L1 R) (lcode 1 (codeOf Tryz.f127)) (stOf (le127_1 L1).H x 1) (roundK (le127_1 L1).H (le127_1 L1).exs kc ke) =
    p127_1 F93 R x.1 x.2.1 x.2.2.1 (fun x1 x2 x3 => kc (x1, x2, x3, ())) (fun y1 => ke.1 (y1, ())) := by kernel_rfl
noncomputable def G127_1 : Nat → LT127_1
  | 0 => fun _ _ _ _ _ => none
  | n + 1 => fun R x1 x2 x3 k0 => p127_1 F93 R x1 x2 x3 (fun x1 x2 x3 => G127_1 n R x1 x2 x3 k0) k0
def p127 (L1 : LT127_1) : FT127 := fun R a0 a1 k =>
L1 R a1 (0 : Int) a0 (fun x1 =>
k x1)
theorem q127 (F93 : FT93) (L1 : LT127_1) (F : FT127) (R : Type) (x : AT (en127 F).ins) (k : RT (en127 F).outs → PT (en127 F).ins → Option R) :
  xfun (e127 F93 L1 R) (codeOf Tryz.f127) res127 (avs (en127 F).ins x) (finK (en127 F).outs (en127 F).ins k) = p127 L1 R x.1 x.2.1 (fun y1 => k (y1, ()) ()) := by kernel_rfl
noncomputable def F127 : FT127 := p127 (G127_1 FUEL)
theorem env127 (R : Type) : EnvOK Tryz.prog (e127 F93 (G127_1 FUEL) R) := ⟨tabOK, eqOK, callOf_ok (allE_cons ok93 allE_nil), noIns, inlOK_nil⟩
noncomputable def T127_1 : (R : Type) → HT (le127_1 (G127_1 FUEL)).H → (HT (le127_1 (G127_1 FUEL)).H → Option R) → KT R (le127_1 (G127_1 FUEL)).exs → Option R := fun R x kc ke => p127_1 F93 R x.1 x.2.1 x.2.2.1 (fun x1 x2 x3 => kc (x1, x2, x3, ())) (fun y1 => ke.1 (y1, ()))
theorem it127_1 : ∀ (n : Nat) (R : Type) (x : HT (le127_1 (G127_1 FUEL)).H) (ke : KT R (le127_1 (G127_1 FUEL)).exs), iter T127_1 n R x ke = G127_1 n R x.1 x.2.1 x.2.2.1 (fun y1 => ke.1 (y1, ())) := by
  intro n
  induction n with
  | zero => intro R x ke; rfl
  | succ n ih =>
    intro R x ke
    show T127_1 R x (fun x' => iter T127_1 n R x' ke) ke = _
    rw [show (fun x' => iter T127_1 n R x' ke) = fun x => G127_1 n R x.1 x.2.1 x.2.2.1 (fun y1 => ke.1 (y1, ())) from funext fun x' => ih R x' ke]
    rfl
theorem lok127_1 : (le127_1 (G127_1 FUEL)).OK Tryz.prog 0 20 (lcode 1 (codeOf Tryz.f127)) := fun R x ke r h =>
  iter_sound (fun R => e127 F93 (G127_1 FUEL) R) 0 20 (fun _ => rfl) (fun _ => rfl) (fun R => env127 R) mixed (by
    intro R
    rw [show loopsOf (lcode 1 (codeOf Tryz.f127)) = [] from by kernel_rfl]
    exact allM_nil) (T := T127_1) (fun R x kc ke => q127_1 F93 (G127_1 FUEL) R x kc ke) FUEL R x ke r ((it127_1 FUEL R x ke).trans h)
theorem ok127 : (en127 F127).OK Tryz.prog :=
  ent_ok (Ef := fun R => e127 F93 (G127_1 FUEL) R) (fun R => env127 R) mixed Tryz.func127 (body := codeOf Tryz.f127) (by kernel_rfl) (by kernel_rfl) (np := 0) (nt := 20) (fun _ => rfl) (fun _ => rfl) (by kernel_rfl) (res := res127) (by kernel_rfl) (fun _ => rfl) (fun _ => Nat.le_of_ble_eq_true rfl) (by
    intro R
    rw [show loopsOf (codeOf Tryz.f127) = [lcode 1 (codeOf Tryz.f127)] from by kernel_rfl]
    exact (allM_cons (loop_ok2 (e := le127_1 (G127_1 FUEL)) rfl rfl lok127_1) allM_nil)) (fun R x k => q127 F93 (G127_1 FUEL) F127 R x k)
abbrev FT96 : Type 1 := (R : Type) → ((List Int) × Unit) → (Int → Option R) → Option R
def en96 (F : FT96) : Ent := ⟨96, [(false, (.pair (.sl (.int .u64)) .unit))], [(false, (.int .u64))], fun R x k => F R x.1 (fun y1 => k (y1, ()) ())⟩
def res96 : List (ResultVar × TypeId × Bool) := [(.tmp 2, 22, false)]
noncomputable def e96 (F127 : FT127) (F128 : FT128) (R : Type) : Env R := ⟨TT, EQT, 0, 7, ownOf [], callOf [en127 F127, en128 F128] R, loopOf [] R, [], inlOf []⟩
def p96 (F127 : FT127) (F128 : FT128) : FT96 := fun R a0 k =>
F128 R a0 fun y1 =>
F127 R a0 y1 fun y2 =>
k y2
theorem q96 (F127 : FT127) (F128 : FT128) (F : FT96) (R : Type) (x : AT (en96 F).ins) (k : RT (en96 F).outs → PT (en96 F).ins → Option R) :
  xfun (e96 F127 F128 R) (codeOf Tryz.f96) res96 (avs (en96 F).ins x) (finK (en96 F).outs (en96 F).ins k) = p96 F127 F128 R x.1 (fun y1 => k (y1, ()) ()) := by kernel_rfl
noncomputable def F96 : FT96 := p96 F127 F128
theorem env96 (R : Type) : EnvOK Tryz.prog (e96 F127 F128 R) := ⟨tabOK, eqOK, callOf_ok (allE_cons ok127 (allE_cons ok128 allE_nil)), noIns, inlOK_nil⟩
theorem ok96 : (en96 F96).OK Tryz.prog :=
  ent_ok (Ef := fun R => e96 F127 F128 R) (fun R => env96 R) mixed Tryz.func96 (body := codeOf Tryz.f96) (by kernel_rfl) (by kernel_rfl) (np := 0) (nt := 7) (fun _ => rfl) (fun _ => rfl) (by kernel_rfl) (res := res96) (by kernel_rfl) (fun _ => rfl) (fun _ => Nat.le_of_ble_eq_true rfl) (by
    intro R
    rw [show loopsOf (codeOf Tryz.f96) = [] from by kernel_rfl]
    exact allM_nil) (fun R x k => q96 F127 F128 F96 R x k)
abbrev FT97 : Type 1 := (R : Type) → ((List Int) × Unit) → Int → (Int → Int → Option R) → Option R
def en97 (F : FT97) : Ent := ⟨97, [(false, (.pair (.sl (.int .u64)) .unit)), (false, (.int .u64))], [(false, (.int .i64)), (false, (.int .i64))], fun R x k => F R x.1 x.2.1 (fun y1 y2 => k (y1, y2, ()) ())⟩
def res97 : List (ResultVar × TypeId × Bool) := [(.tmp 4, 3, false), (.tmp 5, 32, false)]
abbrev LT97_4 : Type 1 := (R : Type) → Int → Int → Int → ((List Int) × Unit) → (Int → Int → Int → ((List Int) × Unit) → Option R) → Option R
def le97_4 (L : LT97_4) : LEnt := ⟨4, [.val 1 (.int .u64), .fix 2 (.ptr 0 [] (.pair (.sl (.int .u64)) .unit)), .val 6 (.int .i64), .val 7 (.int .i64), .var 0 (.pair (.sl (.int .u64)) .unit) false], 1, [(.exit 0, [.val 1 (.int .u64), .fix 2 (.ptr 0 [] (.pair (.sl (.int .u64)) .unit)), .val 6 (.int .i64), .val 7 (.int .i64), .var 0 (.pair (.sl (.int .u64)) .unit) false])], fun R x ke => L R x.1 x.2.1 x.2.2.1 x.2.2.2.1 (fun y1 y2 y3 y4 => ke.1 (y1, y2, y3, y4, ()))⟩
abbrev LT97_6 : Type 1 := (R : Type) → Int → Int → Int → ((List Int) × Unit) → (Int → Option R) → Option R
def le97_6 (L : LT97_6) : LEnt := ⟨6, [.val 1 (.int .u64), .fix 2 (.ptr 0 [] (.pair (.sl (.int .u64)) .unit)), .val 6 (.int .i64), .val 7 (.int .i64), .var 0 (.pair (.sl (.int .u64)) .unit) false], 1, [(.exit 2, [.val 6 (.int .i64)])], fun R x ke => L R x.1 x.2.1 x.2.2.1 x.2.2.2.1 (fun y1 => ke.1 (y1, ()))⟩
noncomputable def e97 (F96 : FT96) (F128 : FT128) (L4 : LT97_4) (L6 : LT97_6) (R : Type) : Env R := ⟨TT, EQT, 0, 51, ownOf [], callOf [en96 F96, en128 F128] R, loopOf [le97_4 L4, le97_6 L6] R, [], inlOf []⟩
def p97_4 (F128 : FT128) : (R : Type) → Int → Int → Int → ((List Int) × Unit) → (Int → Int → Int → ((List Int) × Unit) → Option R) → (Int → Int → Int → ((List Int) × Unit) → Option R) → Option R := fun R x1 x2 x3 x4 kc k0 =>
let v5 : Int := (ishl .i64 x3 (1 : Int));
F128 R x4 fun y6 =>
let v7 : Bool := (decide (v5 ≤ y6));
(match v7 with
| true => let v8 : Int := (ishl .i64 x3 (1 : Int));
kc x1 x2 v8 x4
| false => k0 x1 x2 x3 x4)
theorem q97_4 (F96 : FT96) (F128 : FT128) (L4 : LT97_4) (L6 : LT97_6) (R : Type) (x : HT (le97_4 L4).H) (kc : HT (le97_4 L4).H → Option R) (ke : KT R (le97_4 L4).exs) :
  exec (e97 F96 F128 L4 L6 R) (lcode 4 (codeOf Tryz.f97)) (stOf (le97_4 L4).H x 1) (roundK (le97_4 L4).H (le97_4 L4).exs kc ke) =
    p97_4 F128 R x.1 x.2.1 x.2.2.1 x.2.2.2.1 (fun x1 x2 x3 x4 => kc (x1, x2, x3, x4, ())) (fun y1 y2 y3 y4 => ke.1 (y1, y2, y3, y4, ())) := by kernel_rfl
noncomputable def G97_4 : Nat → LT97_4
  | 0 => fun _ _ _ _ _ _ => none
  | n + 1 => fun R x1 x2 x3 x4 k0 => p97_4 F128 R x1 x2 x3 x4 (fun x1 x2 x3 x4 => G97_4 n R x1 x2 x3 x4 k0) k0
def p97_6 (F128 : FT128) : (R : Type) → Int → Int → Int → ((List Int) × Unit) → (Int → Int → Int → ((List Int) × Unit) → Option R) → (Int → Option R) → Option R := fun R x1 x2 x3 x4 kc k0 =>
let v5 : Bool := (decide (x3 > (0 : Int)));
(match v5 with
| true => let v6 : Int := (IntKind.i64.wrap (x2 + x3));
F128 R x4 fun y7 =>
let v8 : Bool := (decide (v6 ≤ y7));
(match v8 with
| true => let v9 : Int := (IntKind.i64.wrap (v6 - (1 : Int)));
(match (bnd v9 (List.length x4.1 : Int)) with
| true => let v10 : Int := (List.getD x4.1 (Int.toNat v9) (0 : Int));
let v11 : Bool := (decide (v10 ≤ x1));
(match v11 with
| true => let v12 : Int := (IntKind.i64.wrap (v6 - (1 : Int)));
(match (bnd v12 (List.length x4.1 : Int)) with
| true => let v13 : Int := (List.getD x4.1 (Int.toNat v12) (0 : Int));
let v14 : Int := (IntKind.u64.wrap (x1 - v13));
let v15 : Int := (ishr .i64 x3 (1 : Int));
kc v14 v6 v15 x4
| false => none)
| false => let v16 : Int := (ishr .i64 x3 (1 : Int));
kc x1 x2 v16 x4)
| false => none)
| false => let v17 : Int := (ishr .i64 x3 (1 : Int));
kc x1 x2 v17 x4)
| false => k0 x2)
theorem q97_6 (F96 : FT96) (F128 : FT128) (L4 : LT97_4) (L6 : LT97_6) (R : Type) (x : HT (le97_6 L6).H) (kc : HT (le97_6 L6).H → Option R) (ke : KT R (le97_6 L6).exs) :
  exec (e97 F96 F128 L4 L6 R) (lcode 6 (codeOf Tryz.f97)) (stOf (le97_6 L6).H x 1) (roundK (le97_6 L6).H (le97_6 L6).exs kc ke) =
    p97_6 F128 R x.1 x.2.1 x.2.2.1 x.2.2.2.1 (fun x1 x2 x3 x4 => kc (x1, x2, x3, x4, ())) (fun y1 => ke.1 (y1, ())) := by kernel_rfl
noncomputable def G97_6 : Nat → LT97_6
  | 0 => fun _ _ _ _ _ _ => none
  | n + 1 => fun R x1 x2 x3 x4 k0 => p97_6 F128 R x1 x2 x3 x4 (fun x1 x2 x3 x4 => G97_6 n R x1 x2 x3 x4 k0) k0
def p97 (F96 : FT96) (L4 : LT97_4) (L6 : LT97_6) : FT97 := fun R a0 a1 k =>
F96 R a0 fun y1 =>
let v2 : Bool := (decide (a1 ≥ y1));
(match v2 with
| true => k (0 : Int) (3 : Int)
| false => L4 R a1 (0 : Int) (1 : Int) a0 (fun x3 x4 x5 x6 =>
L6 R x3 x4 x5 x6 (fun x7 =>
k x7 (0 : Int))))
theorem q97 (F96 : FT96) (F128 : FT128) (L4 : LT97_4) (L6 : LT97_6) (F : FT97) (R : Type) (x : AT (en97 F).ins) (k : RT (en97 F).outs → PT (en97 F).ins → Option R) :
  xfun (e97 F96 F128 L4 L6 R) (codeOf Tryz.f97) res97 (avs (en97 F).ins x) (finK (en97 F).outs (en97 F).ins k) = p97 F96 L4 L6 R x.1 x.2.1 (fun y1 y2 => k (y1, y2, ()) ()) := by kernel_rfl
noncomputable def F97 : FT97 := p97 F96 (G97_4 FUEL) (G97_6 FUEL)
theorem env97 (R : Type) : EnvOK Tryz.prog (e97 F96 F128 (G97_4 FUEL) (G97_6 FUEL) R) := ⟨tabOK, eqOK, callOf_ok (allE_cons ok96 (allE_cons ok128 allE_nil)), noIns, inlOK_nil⟩
noncomputable def T97_4 : (R : Type) → HT (le97_4 (G97_4 FUEL)).H → (HT (le97_4 (G97_4 FUEL)).H → Option R) → KT R (le97_4 (G97_4 FUEL)).exs → Option R := fun R x kc ke => p97_4 F128 R x.1 x.2.1 x.2.2.1 x.2.2.2.1 (fun x1 x2 x3 x4 => kc (x1, x2, x3, x4, ())) (fun y1 y2 y3 y4 => ke.1 (y1, y2, y3, y4, ()))
theorem it97_4 : ∀ (n : Nat) (R : Type) (x : HT (le97_4 (G97_4 FUEL)).H) (ke : KT R (le97_4 (G97_4 FUEL)).exs), iter T97_4 n R x ke = G97_4 n R x.1 x.2.1 x.2.2.1 x.2.2.2.1 (fun y1 y2 y3 y4 => ke.1 (y1, y2, y3, y4, ())) := by
  intro n
  induction n with
  | zero => intro R x ke; rfl
  | succ n ih =>
    intro R x ke
    show T97_4 R x (fun x' => iter T97_4 n R x' ke) ke = _
    rw [show (fun x' => iter T97_4 n R x' ke) = fun x => G97_4 n R x.1 x.2.1 x.2.2.1 x.2.2.2.1 (fun y1 y2 y3 y4 => ke.1 (y1, y2, y3, y4, ())) from funext fun x' => ih R x' ke]
    rfl
theorem lok97_4 : (le97_4 (G97_4 FUEL)).OK Tryz.prog 0 51 (lcode 4 (codeOf Tryz.f97)) := fun R x ke r h =>
  iter_sound (fun R => e97 F96 F128 (G97_4 FUEL) (G97_6 FUEL) R) 0 51 (fun _ => rfl) (fun _ => rfl) (fun R => env97 R) mixed (by
    intro R
    rw [show loopsOf (lcode 4 (codeOf Tryz.f97)) = [] from by kernel_rfl]
    exact allM_nil) (T := T97_4) (fun R x kc ke => q97_4 F96 F128 (G97_4 FUEL) (G97_6 FUEL) R x kc ke) FUEL R x ke r ((it97_4 FUEL R x ke).trans h)
noncomputable def T97_6 : (R : Type) → HT (le97_6 (G97_6 FUEL)).H → (HT (le97_6 (G97_6 FUEL)).H → Option R) → KT R (le97_6 (G97_6 FUEL)).exs → Option R := fun R x kc ke => p97_6 F128 R x.1 x.2.1 x.2.2.1 x.2.2.2.1 (fun x1 x2 x3 x4 => kc (x1, x2, x3, x4, ())) (fun y1 => ke.1 (y1, ()))
theorem it97_6 : ∀ (n : Nat) (R : Type) (x : HT (le97_6 (G97_6 FUEL)).H) (ke : KT R (le97_6 (G97_6 FUEL)).exs), iter T97_6 n R x ke = G97_6 n R x.1 x.2.1 x.2.2.1 x.2.2.2.1 (fun y1 => ke.1 (y1, ())) := by
  intro n
  induction n with
  | zero => intro R x ke; rfl
  | succ n ih =>
    intro R x ke
    show T97_6 R x (fun x' => iter T97_6 n R x' ke) ke = _
    rw [show (fun x' => iter T97_6 n R x' ke) = fun x => G97_6 n R x.1 x.2.1 x.2.2.1 x.2.2.2.1 (fun y1 => ke.1 (y1, ())) from funext fun x' => ih R x' ke]
    rfl
theorem lok97_6 : (le97_6 (G97_6 FUEL)).OK Tryz.prog 0 51 (lcode 6 (codeOf Tryz.f97)) := fun R x ke r h =>
  iter_sound (fun R => e97 F96 F128 (G97_4 FUEL) (G97_6 FUEL) R) 0 51 (fun _ => rfl) (fun _ => rfl) (fun R => env97 R) mixed (by
    intro R
    rw [show loopsOf (lcode 6 (codeOf Tryz.f97)) = [] from by kernel_rfl]
    exact allM_nil) (T := T97_6) (fun R x kc ke => q97_6 F96 F128 (G97_4 FUEL) (G97_6 FUEL) R x kc ke) FUEL R x ke r ((it97_6 FUEL R x ke).trans h)
theorem ok97 : (en97 F97).OK Tryz.prog :=
  ent_ok (Ef := fun R => e97 F96 F128 (G97_4 FUEL) (G97_6 FUEL) R) (fun R => env97 R) mixed Tryz.func97 (body := codeOf Tryz.f97) (by kernel_rfl) (by kernel_rfl) (np := 0) (nt := 51) (fun _ => rfl) (fun _ => rfl) (by kernel_rfl) (res := res97) (by kernel_rfl) (fun _ => rfl) (fun _ => Nat.le_of_ble_eq_true rfl) (by
    intro R
    rw [show loopsOf (codeOf Tryz.f97) = [lcode 4 (codeOf Tryz.f97), lcode 6 (codeOf Tryz.f97)] from by kernel_rfl]
    exact (allM_cons (loop_ok2 (e := le97_4 (G97_4 FUEL)) rfl rfl lok97_4) (allM_cons (loop_ok2 (e := le97_6 (G97_6 FUEL)) rfl rfl lok97_6) allM_nil))) (fun R x k => q97 F96 F128 (G97_4 FUEL) (G97_6 FUEL) F97 R x k)
abbrev FT56 : Type 1 := (R : Type) → ((List Int) × Unit) → Tq6 → Int → (Int → Tq6 → Int → Option R) → Option R
def en56 (F : FT56) : Ent := ⟨56, [(false, (.pair (.sl (.int .u64)) .unit)), (false, Kq6), (false, (.int .i64))], [(false, (.int .i64)), (false, Kq6), (false, (.int .i64))], fun R x k => F R x.1 x.2.1 x.2.2.1 (fun y1 y2 y3 => k (y1, y2, y3, ()) ())⟩
def res56 : List (ResultVar × TypeId × Bool) := [(.tmp 6, 3, false), (.cell 7 30, 30, false), (.tmp 8, 32, false)]
noncomputable def e56 (F42 : FT42) (F96 : FT96) (F97 : FT97) (R : Type) : Env R := ⟨TT, EQT, 0, 40, ownOf [], callOf [en42 F42, en96 F96, en97 F97] R, loopOf [] R, [], inlOf []⟩
def p56 (F42 : FT42) (F96 : FT96) (F97 : FT97) : FT56 := fun R a0 a1 a2 k =>
F96 R a0 fun y1 =>
let v2 : Bool := (y1 == (0 : Int));
(match v2 with
| true => k (0 : Int) a1 (10 : Int)
| false => F42 R a1 y1 a2 fun y3 y4 y5 =>
let v6 : Bool := (y5 != (0 : Int));
(match v6 with
| true => k (0 : Int) y4 y5
| false => F97 R a0 y3 fun y7 y8 =>
k y7 y4 y8))
theorem q56 (F42 : FT42) (F96 : FT96) (F97 : FT97) (F : FT56) (R : Type) (x : AT (en56 F).ins) (k : RT (en56 F).outs → PT (en56 F).ins → Option R) :
  xfun (e56 F42 F96 F97 R) (codeOf Tryz.f56) res56 (avs (en56 F).ins x) (finK (en56 F).outs (en56 F).ins k) = p56 F42 F96 F97 R x.1 x.2.1 x.2.2.1 (fun y1 y2 y3 => k (y1, y2, y3, ()) ()) := by kernel_rfl
noncomputable def F56 : FT56 := p56 F42 F96 F97
theorem env56 (R : Type) : EnvOK Tryz.prog (e56 F42 F96 F97 R) := ⟨tabOK, eqOK, callOf_ok (allE_cons ok42 (allE_cons ok96 (allE_cons ok97 allE_nil))), noIns, inlOK_nil⟩
theorem ok56 : (en56 F56).OK Tryz.prog :=
  ent_ok (Ef := fun R => e56 F42 F96 F97 R) (fun R => env56 R) mixed Tryz.func56 (body := codeOf Tryz.f56) (by kernel_rfl) (by kernel_rfl) (np := 0) (nt := 40) (fun _ => rfl) (fun _ => rfl) (by kernel_rfl) (res := res56) (by kernel_rfl) (fun _ => rfl) (fun _ => Nat.le_of_ble_eq_true rfl) (by
    intro R
    rw [show loopsOf (codeOf Tryz.f56) = [] from by kernel_rfl]
    exact allM_nil) (fun R x k => q56 F42 F96 F97 F56 R x k)
abbrev FT74 : Type 1 := (R : Type) → Tq17 → ((List Int) × Unit) → Int → (Int → Int → Option R) → Option R
def en74 (F : FT74) : Ent := ⟨74, [(false, Kq17), (false, (.pair (.sl (.int .u64)) .unit)), (false, (.int .i64))], [(false, (.int .i64)), (false, (.int .i64))], fun R x k => F R x.1 x.2.1 x.2.2.1 (fun y1 y2 => k (y1, y2, ()) ())⟩
def res74 : List (ResultVar × TypeId × Bool) := [(.tmp 6, 3, false), (.tmp 7, 32, false)]
noncomputable def e74 (F56 : FT56) (F77 : FT77) (R : Type) : Env R := ⟨TT, EQT, 0, 24, ownOf [], callOf [en56 F56, en77 F77] R, loopOf [] R, [], inlOf []⟩
def p74 (F56 : FT56) (F77 : FT77) : FT74 := fun R a0 a1 a2 k =>
F77 R a0 (1 : Int) a2 fun y1 =>
F56 R a1 y1 a0.2.1 fun y2 y3 y4 =>
k y2 y4
theorem q74 (F56 : FT56) (F77 : FT77) (F : FT74) (R : Type) (x : AT (en74 F).ins) (k : RT (en74 F).outs → PT (en74 F).ins → Option R) :
  xfun (e74 F56 F77 R) (codeOf Tryz.f74) res74 (avs (en74 F).ins x) (finK (en74 F).outs (en74 F).ins k) = p74 F56 F77 R x.1 x.2.1 x.2.2.1 (fun y1 y2 => k (y1, y2, ()) ()) := by kernel_rfl
noncomputable def F74 : FT74 := p74 F56 F77
theorem env74 (R : Type) : EnvOK Tryz.prog (e74 F56 F77 R) := ⟨tabOK, eqOK, callOf_ok (allE_cons ok56 (allE_cons ok77 allE_nil)), noIns, inlOK_nil⟩
theorem ok74 : (en74 F74).OK Tryz.prog :=
  ent_ok (Ef := fun R => e74 F56 F77 R) (fun R => env74 R) mixed Tryz.func74 (body := codeOf Tryz.f74) (by kernel_rfl) (by kernel_rfl) (np := 0) (nt := 24) (fun _ => rfl) (fun _ => rfl) (by kernel_rfl) (res := res74) (by kernel_rfl) (fun _ => rfl) (fun _ => Nat.le_of_ble_eq_true rfl) (by
    intro R
    rw [show loopsOf (codeOf Tryz.f74) = [] from by kernel_rfl]
    exact allM_nil) (fun R x k => q74 F56 F77 F74 R x k)
abbrev FT31 : Type 1 := (R : Type) → (List Int) → Int → Int → (List Int) → (Int → Int → Option R) → Option R
def en31 (F : FT31) : Ent := ⟨31, [(false, (.arr 32 (.int .u8))), (false, (.int .i64)), (false, (.int .i64)), (false, (.sl (.int .u64)))], [(false, (.int .i64)), (false, (.int .i64))], fun R x k => F R x.1 x.2.1 x.2.2.1 x.2.2.2.1 (fun y1 y2 => k (y1, y2, ()) ())⟩
def res31 : List (ResultVar × TypeId × Bool) := [(.tmp 8, 3, false), (.tmp 9, 32, false)]
noncomputable def e31 (F50 : FT50) (F73 : FT73) (F74 : FT74) (R : Type) : Env R := ⟨TT, EQT, 0, 34, ownOf [], callOf [en50 F50, en73 F73, en74 F74] R, loopOf [] R, [], inlOf []⟩
def p31 (F50 : FT50) (F73 : FT73) (F74 : FT74) : FT31 := fun R a0 a1 a2 a3 k =>
F73 R (a0, a2, ()) a1 fun y1 =>
(match (!y1) with
| true => k (0 : Int) (1 : Int)
| false => F50 R a3 fun y2 y3 =>
let v4 : Bool := (y3 != (0 : Int));
(match v4 with
| true => k (0 : Int) y3
| false => F74 R (a0, a2, ()) y2 a1 fun y5 y6 =>
k y5 y6))
theorem q31 (F50 : FT50) (F73 : FT73) (F74 : FT74) (F : FT31) (R : Type) (x : AT (en31 F).ins) (k : RT (en31 F).outs → PT (en31 F).ins → Option R) :
  xfun (e31 F50 F73 F74 R) (codeOf Tryz.f31) res31 (avs (en31 F).ins x) (finK (en31 F).outs (en31 F).ins k) = p31 F50 F73 F74 R x.1 x.2.1 x.2.2.1 x.2.2.2.1 (fun y1 y2 => k (y1, y2, ()) ()) := by kernel_rfl
noncomputable def F31 : FT31 := p31 F50 F73 F74
theorem env31 (R : Type) : EnvOK Tryz.prog (e31 F50 F73 F74 R) := ⟨tabOK, eqOK, callOf_ok (allE_cons ok50 (allE_cons ok73 (allE_cons ok74 allE_nil))), noIns, inlOK_nil⟩
theorem ok31 : (en31 F31).OK Tryz.prog :=
  ent_ok (Ef := fun R => e31 F50 F73 F74 R) (fun R => env31 R) mixed Tryz.func31 (body := codeOf Tryz.f31) (by kernel_rfl) (by kernel_rfl) (np := 0) (nt := 34) (fun _ => rfl) (fun _ => rfl) (by kernel_rfl) (res := res31) (by kernel_rfl) (fun _ => rfl) (fun _ => Nat.le_of_ble_eq_true rfl) (by
    intro R
    rw [show loopsOf (codeOf Tryz.f31) = [] from by kernel_rfl]
    exact allM_nil) (fun R x k => q31 F50 F73 F74 F31 R x k)
abbrev FT35 : Type 1 := (R : Type) → (List Int) → Int → Int → (List Int) → ((List Int) → Int → Option R) → Option R
def en35 (F : FT35) : Ent := ⟨35, [(false, (.arr 32 (.int .u8))), (false, (.int .i64)), (false, (.int .i64)), (false, (.sl (.int .u64)))], [(false, (.sl (.int .i64))), (false, (.int .i64))], fun R x k => F R x.1 x.2.1 x.2.2.1 x.2.2.2.1 (fun y1 y2 => k (y1, y2, ()) ())⟩
def res35 : List (ResultVar × TypeId × Bool) := [(.tmp 8, 42, false), (.tmp 9, 32, false)]
abbrev LT35_9 : Type 1 := (R : Type) → Int → Int → Tq17 → ((List Int) × Unit) → (List Int) → ((List Int) → Option R) → Option R
def le35_9 (L : LT35_9) : LEnt := ⟨9, [.fix 10 (.ptr 1 [] Kq17), .fix 11 (.ptr 2 [] (.pair (.sl (.int .u64)) .unit)), .fix 13 (.own 3 0), .val 38 (.int .i64), .val 39 (.int .i64), .var 1 Kq17 false, .var 2 (.pair (.sl (.int .u64)) .unit) false, .row 3 (.int .i64) false], 4, [(.exit 0, [.fix 13 (.own 3 0), .row 3 (.int .i64) false])], fun R x ke => L R x.1 x.2.1 x.2.2.1 x.2.2.2.1 x.2.2.2.2.1 (fun y1 => ke.1 (y1, ()))⟩
noncomputable def e35 (F50 : FT50) (F73 : FT73) (F74 : FT74) (L9 : LT35_9) (R : Type) : Env R := ⟨TT, EQT, 0, 59, ownOf [], callOf [en50 F50, en73 F73, en74 F74] R, loopOf [le35_9 L9] R, [], inlOf []⟩
def p35_9 (F74 : FT74) : (R : Type) → Int → Int → Tq17 → ((List Int) × Unit) → (List Int) → (Int → Int → Tq17 → ((List Int) × Unit) → (List Int) → Option R) → ((List Int) → Option R) → Option R := fun R x1 x2 x3 x4 x5 kc k0 =>
let v6 : Bool := (decide (x2 < x1));
(match v6 with
| true => F74 R x3 x4 x2 fun y7 y8 =>
(match (bnd x2 (List.length x5 : Int)) with
| true => let v9 : (List Int) := (List.set x5 (Int.toNat x2) y7);
let v10 : Bool := (y8 != (0 : Int));
(match v10 with
| true => (match (bnd x2 (List.length v9 : Int)) with
| true => let v11 : (List Int) := (List.set v9 (Int.toNat x2) (-1 : Int));
let v12 : Int := (IntKind.i64.wrap (x2 + (1 : Int)));
kc x1 v12 x3 x4 v11
| false => none)
| false => let v13 : Int := (IntKind.i64.wrap (x2 + (1 : Int)));
kc x1 v13 x3 x4 v9)
| false => none)
| false => k0 x5)
theorem q35_9 (F50 : FT50) (F73 : FT73) (F74 : FT74) (L9 : LT35_9) (R : Type) (x : HT (le35_9 L9).H) (kc : HT (le35_9 L9).H → Option R) (ke : KT R (le35_9 L9).exs) :
  exec (e35 F50 F73 F74 L9 R) (lcode 9 (codeOf Tryz.f35)) (stOf (le35_9 L9).H x 4) (roundK (le35_9 L9).H (le35_9 L9).exs kc ke) =
    p35_9 F74 R x.1 x.2.1 x.2.2.1 x.2.2.2.1 x.2.2.2.2.1 (fun x1 x2 x3 x4 x5 => kc (x1, x2, x3, x4, x5, ())) (fun y1 => ke.1 (y1, ())) := by kernel_rfl
noncomputable def G35_9 : Nat → LT35_9
  | 0 => fun _ _ _ _ _ _ _ => none
  | n + 1 => fun R x1 x2 x3 x4 x5 k0 => p35_9 F74 R x1 x2 x3 x4 x5 (fun x1 x2 x3 x4 x5 => G35_9 n R x1 x2 x3 x4 x5 k0) k0
def p35 (F50 : FT50) (F73 : FT73) (L9 : LT35_9) : FT35 := fun R a0 a1 a2 a3 k =>
let v1 : Bool := (decide (a1 < (1 : Int)));
(match v1 with
| true => k ([] : (List Int)) (1 : Int)
| false => let v2 : Int := (IntKind.i64.wrap (a1 - (1 : Int)));
F73 R (a0, a2, ()) v2 fun y3 =>
(match (!y3) with
| true => k ([] : (List Int)) (1 : Int)
| false => F50 R a3 fun y4 y5 =>
let v6 : Bool := (y5 != (0 : Int));
(match v6 with
| true => k ([] : (List Int)) y5
| false => (match (decide (0 ≤ a1 ∧ a1 ≤ a1 ∧ a1 ≤ (17592186044416 : Int))) with
| true => let v7 : (List Int) := (List.replicate (Int.toNat a1) (0 : Int));
let v8 : Int := (List.length v7 : Int);
L9 R v8 (0 : Int) (a0, a2, ()) y4 v7 (fun x9 =>
k x9 (0 : Int))
| false => none))))
theorem q35 (F50 : FT50) (F73 : FT73) (F74 : FT74) (L9 : LT35_9) (F : FT35) (R : Type) (x : AT (en35 F).ins) (k : RT (en35 F).outs → PT (en35 F).ins → Option R) :
  xfun (e35 F50 F73 F74 L9 R) (codeOf Tryz.f35) res35 (avs (en35 F).ins x) (finK (en35 F).outs (en35 F).ins k) = p35 F50 F73 L9 R x.1 x.2.1 x.2.2.1 x.2.2.2.1 (fun y1 y2 => k (y1, y2, ()) ()) := by kernel_rfl
noncomputable def F35 : FT35 := p35 F50 F73 (G35_9 FUEL)
theorem env35 (R : Type) : EnvOK Tryz.prog (e35 F50 F73 F74 (G35_9 FUEL) R) := ⟨tabOK, eqOK, callOf_ok (allE_cons ok50 (allE_cons ok73 (allE_cons ok74 allE_nil))), noIns, inlOK_nil⟩
noncomputable def T35_9 : (R : Type) → HT (le35_9 (G35_9 FUEL)).H → (HT (le35_9 (G35_9 FUEL)).H → Option R) → KT R (le35_9 (G35_9 FUEL)).exs → Option R := fun R x kc ke => p35_9 F74 R x.1 x.2.1 x.2.2.1 x.2.2.2.1 x.2.2.2.2.1 (fun x1 x2 x3 x4 x5 => kc (x1, x2, x3, x4, x5, ())) (fun y1 => ke.1 (y1, ()))
theorem it35_9 : ∀ (n : Nat) (R : Type) (x : HT (le35_9 (G35_9 FUEL)).H) (ke : KT R (le35_9 (G35_9 FUEL)).exs), iter T35_9 n R x ke = G35_9 n R x.1 x.2.1 x.2.2.1 x.2.2.2.1 x.2.2.2.2.1 (fun y1 => ke.1 (y1, ())) := by
  intro n
  induction n with
  | zero => intro R x ke; rfl
  | succ n ih =>
    intro R x ke
    show T35_9 R x (fun x' => iter T35_9 n R x' ke) ke = _
    rw [show (fun x' => iter T35_9 n R x' ke) = fun x => G35_9 n R x.1 x.2.1 x.2.2.1 x.2.2.2.1 x.2.2.2.2.1 (fun y1 => ke.1 (y1, ())) from funext fun x' => ih R x' ke]
    rfl
theorem lok35_9 : (le35_9 (G35_9 FUEL)).OK Tryz.prog 0 59 (lcode 9 (codeOf Tryz.f35)) := fun R x ke r h =>
  iter_sound (fun R => e35 F50 F73 F74 (G35_9 FUEL) R) 0 59 (fun _ => rfl) (fun _ => rfl) (fun R => env35 R) mixed (by
    intro R
    rw [show loopsOf (lcode 9 (codeOf Tryz.f35)) = [] from by kernel_rfl]
    exact allM_nil) (T := T35_9) (fun R x kc ke => q35_9 F50 F73 F74 (G35_9 FUEL) R x kc ke) FUEL R x ke r ((it35_9 FUEL R x ke).trans h)
theorem ok35 : (en35 F35).OK Tryz.prog :=
  ent_ok (Ef := fun R => e35 F50 F73 F74 (G35_9 FUEL) R) (fun R => env35 R) mixed Tryz.func35 (body := codeOf Tryz.f35) (by kernel_rfl) (by kernel_rfl) (np := 0) (nt := 59) (fun _ => rfl) (fun _ => rfl) (by kernel_rfl) (res := res35) (by kernel_rfl) (fun _ => rfl) (fun _ => Nat.le_of_ble_eq_true rfl) (by
    intro R
    rw [show loopsOf (codeOf Tryz.f35) = [lcode 9 (codeOf Tryz.f35)] from by kernel_rfl]
    exact (allM_cons (loop_ok2 (e := le35_9 (G35_9 FUEL)) rfl rfl lok35_9) allM_nil)) (fun R x k => q35 F50 F73 F74 (G35_9 FUEL) F35 R x k)
abbrev FT33 : Type 1 := (R : Type) → (List Int) → Int → Int → (List Int) → (Int → Int → Option R) → Option R
def en33 (F : FT33) : Ent := ⟨33, [(false, (.arr 32 (.int .u8))), (false, (.int .i64)), (false, (.int .i64)), (false, (.sl (.int .u64)))], [(false, (.int .i64)), (false, (.int .i64))], fun R x k => F R x.1 x.2.1 x.2.2.1 x.2.2.2.1 (fun y1 y2 => k (y1, y2, ()) ())⟩
def res33 : List (ResultVar × TypeId × Bool) := [(.tmp 8, 3, false), (.tmp 9, 32, false)]
noncomputable def e33 (F16 : FT16) (F73 : FT73) (F77 : FT77) (R : Type) : Env R := ⟨TT, EQT, 0, 33, ownOf [], callOf [en16 F16, en73 F73, en77 F77] R, loopOf [] R, [], inlOf []⟩
def p33 (F16 : FT16) (F73 : FT73) (F77 : FT77) : FT33 := fun R a0 a1 a2 a3 k =>
F73 R (a0, a2, ()) a1 fun y1 =>
(match (!y1) with
| true => k (0 : Int) (1 : Int)
| false => F77 R (a0, a2, ()) (2 : Int) a1 fun y2 =>
F16 R y2 a2 a3 fun y3 y4 y5 =>
k y3 y5)
theorem q33 (F16 : FT16) (F73 : FT73) (F77 : FT77) (F : FT33) (R : Type) (x : AT (en33 F).ins) (k : RT (en33 F).outs → PT (en33 F).ins → Option R) :
  xfun (e33 F16 F73 F77 R) (codeOf Tryz.f33) res33 (avs (en33 F).ins x) (finK (en33 F).outs (en33 F).ins k) = p33 F16 F73 F77 R x.1 x.2.1 x.2.2.1 x.2.2.2.1 (fun y1 y2 => k (y1, y2, ()) ()) := by kernel_rfl
noncomputable def F33 : FT33 := p33 F16 F73 F77
theorem env33 (R : Type) : EnvOK Tryz.prog (e33 F16 F73 F77 R) := ⟨tabOK, eqOK, callOf_ok (allE_cons ok16 (allE_cons ok73 (allE_cons ok77 allE_nil))), noIns, inlOK_nil⟩
theorem ok33 : (en33 F33).OK Tryz.prog :=
  ent_ok (Ef := fun R => e33 F16 F73 F77 R) (fun R => env33 R) mixed Tryz.func33 (body := codeOf Tryz.f33) (by kernel_rfl) (by kernel_rfl) (np := 0) (nt := 33) (fun _ => rfl) (fun _ => rfl) (by kernel_rfl) (res := res33) (by kernel_rfl) (fun _ => rfl) (fun _ => Nat.le_of_ble_eq_true rfl) (by
    intro R
    rw [show loopsOf (codeOf Tryz.f33) = [] from by kernel_rfl]
    exact allM_nil) (fun R x k => q33 F16 F73 F77 F33 R x k)
abbrev FT53 : Type 1 := (R : Type) → Int → Tq6 → Int → (Bool → Option R) → Option R
def en53 (F : FT53) : Ent := ⟨53, [(false, (.int .i64)), (false, Kq6), (false, (.int .i64))], [(false, .bool)], fun R x k => F R x.1 x.2.1 x.2.2.1 (fun y1 => k (y1, ()) ())⟩
def res53 : List (ResultVar × TypeId × Bool) := [(.tmp 6, 4, false)]
noncomputable def e53 (F95 : FT95) (R : Type) : Env R := ⟨TT, EQT, 0, 25, ownOf [], callOf [en95 F95] R, loopOf [] R, [], inlOf []⟩
def p53 (F95 : FT95) : FT53 := fun R a0 a1 a2 k =>
let v1 : Bool := (decide (a0 ≥ (0 : Int)));
(match v1 with
| true => let v2 : Bool := (decide (a0 ≤ (256 : Int)));
(match v2 with
| true => F95 R a1 fun y3 =>
(match y3 with
| true => let v4 : Bool := (decide (a2 > (0 : Int)));
(match v4 with
| true => let v5 : Bool := (decide (a2 ≤ (64 : Int)));
k v5
| false => k false)
| false => k false)
| false => k false)
| false => k false)
theorem q53 (F95 : FT95) (F : FT53) (R : Type) (x : AT (en53 F).ins) (k : RT (en53 F).outs → PT (en53 F).ins → Option R) :
  xfun (e53 F95 R) (codeOf Tryz.f53) res53 (avs (en53 F).ins x) (finK (en53 F).outs (en53 F).ins k) = p53 F95 R x.1 x.2.1 x.2.2.1 (fun y1 => k (y1, ()) ()) := by kernel_rfl
noncomputable def F53 : FT53 := p53 F95
theorem env53 (R : Type) : EnvOK Tryz.prog (e53 F95 R) := ⟨tabOK, eqOK, callOf_ok (allE_cons ok95 allE_nil), noIns, inlOK_nil⟩
theorem ok53 : (en53 F53).OK Tryz.prog :=
  ent_ok (Ef := fun R => e53 F95 R) (fun R => env53 R) mixed Tryz.func53 (body := codeOf Tryz.f53) (by kernel_rfl) (by kernel_rfl) (np := 0) (nt := 25) (fun _ => rfl) (fun _ => rfl) (by kernel_rfl) (res := res53) (by kernel_rfl) (fun _ => rfl) (fun _ => Nat.le_of_ble_eq_true rfl) (by
    intro R
    rw [show loopsOf (codeOf Tryz.f53) = [] from by kernel_rfl]
    exact allM_nil) (fun R x k => q53 F95 F53 R x k)
abbrev FT55 : Type 1 := (R : Type) → ((List Int) × Unit) → ((List Int) → Option R) → Option R
def en55 (F : FT55) : Ent := ⟨55, [(false, (.pair (.sl (.int .u64)) .unit))], [(false, (.sl (.int .u64)))], fun R x k => F R x.1 (fun y1 => k (y1, ()) ())⟩
def res55 : List (ResultVar × TypeId × Bool) := [(.tmp 2, 37, false)]
abbrev LT55_3 : Type 1 := (R : Type) → Int → (List Int) → ((List Int) → Option R) → Option R
def le55_3 (L : LT55_3) : LEnt := ⟨3, [.fix 3 (.own 1 0), .val 4 (.int .i64), .row 1 (.int .u64) false], 2, [(.exit 0, [.fix 3 (.own 1 0), .row 1 (.int .u64) false])], fun R x ke => L R x.1 x.2.1 (fun y1 => ke.1 (y1, ()))⟩
noncomputable def e55 (F92 : FT92) (F93 : FT93) (L3 : LT55_3) (R : Type) : Env R := ⟨TT, EQT, 0, 36, ownOf [], callOf [en92 F92, en93 F93] R, loopOf [le55_3 L3] R, [], inlOf []⟩
def p55_3 (F93 : FT93) : (R : Type) → Int → (List Int) → (Int → (List Int) → Option R) → ((List Int) → Option R) → Option R := fun R x1 x2 kc k0 =>
let v3 : Bool := (decide (x1 > (0 : Int)));
(match v3 with
| true => F93 R x1 fun y4 =>
let v5 : Int := (IntKind.i64.wrap (x1 + y4));
let v6 : Int := (List.length x2 : Int);
let v7 : Bool := (decide (v5 ≤ v6));
(match v7 with
| true => let v8 : Int := (IntKind.i64.wrap (v5 - (1 : Int)));
(match (bnd v8 (List.length x2 : Int)) with
| true => let v9 : Int := (List.getD x2 (Int.toNat v8) (0 : Int));
let v10 : Int := (IntKind.i64.wrap (x1 - (1 : Int)));
(match (bnd v10 (List.length x2 : Int)) with
| true => let v11 : Int := (List.getD x2 (Int.toNat v10) (0 : Int));
let v12 : Int := (IntKind.u64.wrap (v9 - v11));
(match (bnd v8 (List.length x2 : Int)) with
| true => let v13 : (List Int) := (List.set x2 (Int.toNat v8) v12);
let v14 : Int := (IntKind.i64.wrap (x1 - (1 : Int)));
kc v14 v13
| false => none)
| false => none)
| false => none)
| false => let v15 : Int := (IntKind.i64.wrap (x1 - (1 : Int)));
kc v15 x2)
| false => k0 x2)
theorem q55_3 (F92 : FT92) (F93 : FT93) (L3 : LT55_3) (R : Type) (x : HT (le55_3 L3).H) (kc : HT (le55_3 L3).H → Option R) (ke : KT R (le55_3 L3).exs) :
  exec (e55 F92 F93 L3 R) (lcode 3 (codeOf Tryz.f55)) (stOf (le55_3 L3).H x 2) (roundK (le55_3 L3).H (le55_3 L3).exs kc ke) =
    p55_3 F93 R x.1 x.2.1 (fun x1 x2 => kc (x1, x2, ())) (fun y1 => ke.1 (y1, ())) := by kernel_rfl
noncomputable def G55_3 : Nat → LT55_3
  | 0 => fun _ _ _ _ => none
  | n + 1 => fun R x1 x2 k0 => p55_3 F93 R x1 x2 (fun x1 x2 => G55_3 n R x1 x2 k0) k0
def p55 (F92 : FT92) (L3 : LT55_3) : FT55 := fun R a0 k =>
F92 R a0.1 fun y1 =>
let v2 : Int := (List.length y1 : Int);
L3 R v2 y1 (fun x3 =>
k x3)
theorem q55 (F92 : FT92) (F93 : FT93) (L3 : LT55_3) (F : FT55) (R : Type) (x : AT (en55 F).ins) (k : RT (en55 F).outs → PT (en55 F).ins → Option R) :
  xfun (e55 F92 F93 L3 R) (codeOf Tryz.f55) res55 (avs (en55 F).ins x) (finK (en55 F).outs (en55 F).ins k) = p55 F92 L3 R x.1 (fun y1 => k (y1, ()) ()) := by kernel_rfl
noncomputable def F55 : FT55 := p55 F92 (G55_3 FUEL)
theorem env55 (R : Type) : EnvOK Tryz.prog (e55 F92 F93 (G55_3 FUEL) R) := ⟨tabOK, eqOK, callOf_ok (allE_cons ok92 (allE_cons ok93 allE_nil)), noIns, inlOK_nil⟩
noncomputable def T55_3 : (R : Type) → HT (le55_3 (G55_3 FUEL)).H → (HT (le55_3 (G55_3 FUEL)).H → Option R) → KT R (le55_3 (G55_3 FUEL)).exs → Option R := fun R x kc ke => p55_3 F93 R x.1 x.2.1 (fun x1 x2 => kc (x1, x2, ())) (fun y1 => ke.1 (y1, ()))
theorem it55_3 : ∀ (n : Nat) (R : Type) (x : HT (le55_3 (G55_3 FUEL)).H) (ke : KT R (le55_3 (G55_3 FUEL)).exs), iter T55_3 n R x ke = G55_3 n R x.1 x.2.1 (fun y1 => ke.1 (y1, ())) := by
  intro n
  induction n with
  | zero => intro R x ke; rfl
  | succ n ih =>
    intro R x ke
    show T55_3 R x (fun x' => iter T55_3 n R x' ke) ke = _
    rw [show (fun x' => iter T55_3 n R x' ke) = fun x => G55_3 n R x.1 x.2.1 (fun y1 => ke.1 (y1, ())) from funext fun x' => ih R x' ke]
    rfl
theorem lok55_3 : (le55_3 (G55_3 FUEL)).OK Tryz.prog 0 36 (lcode 3 (codeOf Tryz.f55)) := fun R x ke r h =>
  iter_sound (fun R => e55 F92 F93 (G55_3 FUEL) R) 0 36 (fun _ => rfl) (fun _ => rfl) (fun R => env55 R) mixed (by
    intro R
    rw [show loopsOf (lcode 3 (codeOf Tryz.f55)) = [] from by kernel_rfl]
    exact allM_nil) (T := T55_3) (fun R x kc ke => q55_3 F92 F93 (G55_3 FUEL) R x kc ke) FUEL R x ke r ((it55_3 FUEL R x ke).trans h)
theorem ok55 : (en55 F55).OK Tryz.prog :=
  ent_ok (Ef := fun R => e55 F92 F93 (G55_3 FUEL) R) (fun R => env55 R) mixed Tryz.func55 (body := codeOf Tryz.f55) (by kernel_rfl) (by kernel_rfl) (np := 0) (nt := 36) (fun _ => rfl) (fun _ => rfl) (by kernel_rfl) (res := res55) (by kernel_rfl) (fun _ => rfl) (fun _ => Nat.le_of_ble_eq_true rfl) (by
    intro R
    rw [show loopsOf (codeOf Tryz.f55) = [lcode 3 (codeOf Tryz.f55)] from by kernel_rfl]
    exact (allM_cons (loop_ok2 (e := le55_3 (G55_3 FUEL)) rfl rfl lok55_3) allM_nil)) (fun R x k => q55 F92 F93 (G55_3 FUEL) F55 R x k)
abbrev FT54 : Type 1 := (R : Type) → (List Int) → (Int → Option R) → Option R
def en54 (F : FT54) : Ent := ⟨54, [(false, (.sl (.int .u64)))], [(false, (.int .i64))], fun R x k => F R x.1 (fun y1 => k (y1, ()) ())⟩
def res54 : List (ResultVar × TypeId × Bool) := [(.tmp 2, 3, false)]
abbrev LT54_2 : Type 1 := (R : Type) → Int → (List Int) → Int → Int → (Int → Option R) → Option R
def le54_2 (L : LT54_2) : LEnt := ⟨2, [.val 2 (.int .i64), .val 5 (.sl (.int .u64)), .val 6 (.int .i64), .val 7 (.int .i64)], 0, [(.exit 0, [.val 2 (.int .i64)])], fun R x ke => L R x.1 x.2.1 x.2.2.1 x.2.2.2.1 (fun y1 => ke.1 (y1, ()))⟩
noncomputable def e54 (L2 : LT54_2) (R : Type) : Env R := ⟨TT, EQT, 0, 17, ownOf [], callOf [] R, loopOf [le54_2 L2] R, [], inlOf []⟩
def p54_2 : (R : Type) → Int → (List Int) → Int → Int → (Int → (List Int) → Int → Int → Option R) → (Int → Option R) → Option R := fun R x1 x2 x3 x4 kc k0 =>
let v5 : Bool := (decide (x4 < x3));
(match v5 with
| true => (match (bnd x4 (List.length x2 : Int)) with
| true => let v6 : Int := (List.getD x2 (Int.toNat x4) (0 : Int));
let v7 : Bool := (decide (v6 > (0 : Int)));
(match v7 with
| true => let v8 : Int := (IntKind.i64.wrap (x1 + (1 : Int)));
let v9 : Int := (IntKind.i64.wrap (x4 + (1 : Int)));
kc v8 x2 x3 v9
| false => let v10 : Int := (IntKind.i64.wrap (x4 + (1 : Int)));
kc x1 x2 x3 v10)
| false => none)
| false => k0 x1)
theorem q54_2 (L2 : LT54_2) (R : Type) (x : HT (le54_2 L2).H) (kc : HT (le54_2 L2).H → Option R) (ke : KT R (le54_2 L2).exs) :
  exec (e54 L2 R) (lcode 2 (codeOf Tryz.f54)) (stOf (le54_2 L2).H x 0) (roundK (le54_2 L2).H (le54_2 L2).exs kc ke) =
    p54_2 R x.1 x.2.1 x.2.2.1 x.2.2.2.1 (fun x1 x2 x3 x4 => kc (x1, x2, x3, x4, ())) (fun y1 => ke.1 (y1, ())) := by kernel_rfl
noncomputable def G54_2 : Nat → LT54_2
  | 0 => fun _ _ _ _ _ _ => none
  | n + 1 => fun R x1 x2 x3 x4 k0 => p54_2 R x1 x2 x3 x4 (fun x1 x2 x3 x4 => G54_2 n R x1 x2 x3 x4 k0) k0
def p54 (L2 : LT54_2) : FT54 := fun R a0 k =>
let v1 : Int := (List.length a0 : Int);
L2 R (0 : Int) a0 v1 (0 : Int) (fun x2 =>
k x2)
theorem q54 (L2 : LT54_2) (F : FT54) (R : Type) (x : AT (en54 F).ins) (k : RT (en54 F).outs → PT (en54 F).ins → Option R) :
  xfun (e54 L2 R) (codeOf Tryz.f54) res54 (avs (en54 F).ins x) (finK (en54 F).outs (en54 F).ins k) = p54 L2 R x.1 (fun y1 => k (y1, ()) ()) := by kernel_rfl
noncomputable def F54 : FT54 := p54 (G54_2 FUEL)
theorem env54 (R : Type) : EnvOK Tryz.prog (e54 (G54_2 FUEL) R) := ⟨tabOK, eqOK, callOf_ok allE_nil, noIns, inlOK_nil⟩
noncomputable def T54_2 : (R : Type) → HT (le54_2 (G54_2 FUEL)).H → (HT (le54_2 (G54_2 FUEL)).H → Option R) → KT R (le54_2 (G54_2 FUEL)).exs → Option R := fun R x kc ke => p54_2 R x.1 x.2.1 x.2.2.1 x.2.2.2.1 (fun x1 x2 x3 x4 => kc (x1, x2, x3, x4, ())) (fun y1 => ke.1 (y1, ()))
theorem it54_2 : ∀ (n : Nat) (R : Type) (x : HT (le54_2 (G54_2 FUEL)).H) (ke : KT R (le54_2 (G54_2 FUEL)).exs), iter T54_2 n R x ke = G54_2 n R x.1 x.2.1 x.2.2.1 x.2.2.2.1 (fun y1 => ke.1 (y1, ())) := by
  intro n
  induction n with
  | zero => intro R x ke; rfl
  | succ n ih =>
    intro R x ke
    show T54_2 R x (fun x' => iter T54_2 n R x' ke) ke = _
    rw [show (fun x' => iter T54_2 n R x' ke) = fun x => G54_2 n R x.1 x.2.1 x.2.2.1 x.2.2.2.1 (fun y1 => ke.1 (y1, ())) from funext fun x' => ih R x' ke]
    rfl
theorem lok54_2 : (le54_2 (G54_2 FUEL)).OK Tryz.prog 0 17 (lcode 2 (codeOf Tryz.f54)) := fun R x ke r h =>
  iter_sound (fun R => e54 (G54_2 FUEL) R) 0 17 (fun _ => rfl) (fun _ => rfl) (fun R => env54 R) mixed (by
    intro R
    rw [show loopsOf (lcode 2 (codeOf Tryz.f54)) = [] from by kernel_rfl]
    exact allM_nil) (T := T54_2) (fun R x kc ke => q54_2 (G54_2 FUEL) R x kc ke) FUEL R x ke r ((it54_2 FUEL R x ke).trans h)
theorem ok54 : (en54 F54).OK Tryz.prog :=
  ent_ok (Ef := fun R => e54 (G54_2 FUEL) R) (fun R => env54 R) mixed Tryz.func54 (body := codeOf Tryz.f54) (by kernel_rfl) (by kernel_rfl) (np := 0) (nt := 17) (fun _ => rfl) (fun _ => rfl) (by kernel_rfl) (res := res54) (by kernel_rfl) (fun _ => rfl) (fun _ => Nat.le_of_ble_eq_true rfl) (by
    intro R
    rw [show loopsOf (codeOf Tryz.f54) = [lcode 2 (codeOf Tryz.f54)] from by kernel_rfl]
    exact (allM_cons (loop_ok2 (e := le54_2 (G54_2 FUEL)) rfl rfl lok54_2) allM_nil)) (fun R x k => q54 (G54_2 FUEL) F54 R x k)
abbrev FT98 : Type 1 := (R : Type) → ((List Int) × Unit) → Int → (Int → Int → Option R) → Option R
def en98 (F : FT98) : Ent := ⟨98, [(false, (.pair (.sl (.int .u64)) .unit)), (false, (.int .i64))], [(false, (.int .u64)), (false, (.int .i64))], fun R x k => F R x.1 x.2.1 (fun y1 y2 => k (y1, y2, ()) ())⟩
def res98 : List (ResultVar × TypeId × Bool) := [(.tmp 4, 22, false), (.tmp 5, 32, false)]
noncomputable def e98 (F127 : FT127) (F128 : FT128) (R : Type) : Env R := ⟨TT, EQT, 0, 22, ownOf [], callOf [en127 F127, en128 F128] R, loopOf [] R, [], inlOf []⟩
def p98 (F127 : FT127) (F128 : FT128) : FT98 := fun R a0 a1 k =>
let v1 : Bool := (decide (a1 < (0 : Int)));
(match v1 with
| true => k (0 : Int) (3 : Int)
| false => F128 R a0 fun y2 =>
let v3 : Bool := (decide (a1 ≥ y2));
(match v3 with
| true => k (0 : Int) (3 : Int)
| false => let v4 : Int := (IntKind.i64.wrap (a1 + (1 : Int)));
F127 R a0 v4 fun y5 =>
F127 R a0 a1 fun y6 =>
let v7 : Int := (IntKind.u64.wrap (y5 - y6));
k v7 (0 : Int)))
theorem q98 (F127 : FT127) (F128 : FT128) (F : FT98) (R : Type) (x : AT (en98 F).ins) (k : RT (en98 F).outs → PT (en98 F).ins → Option R) :
  xfun (e98 F127 F128 R) (codeOf Tryz.f98) res98 (avs (en98 F).ins x) (finK (en98 F).outs (en98 F).ins k) = p98 F127 F128 R x.1 x.2.1 (fun y1 y2 => k (y1, y2, ()) ()) := by kernel_rfl
noncomputable def F98 : FT98 := p98 F127 F128
theorem env98 (R : Type) : EnvOK Tryz.prog (e98 F127 F128 R) := ⟨tabOK, eqOK, callOf_ok (allE_cons ok127 (allE_cons ok128 allE_nil)), noIns, inlOK_nil⟩
theorem ok98 : (en98 F98).OK Tryz.prog :=
  ent_ok (Ef := fun R => e98 F127 F128 R) (fun R => env98 R) mixed Tryz.func98 (body := codeOf Tryz.f98) (by kernel_rfl) (by kernel_rfl) (np := 0) (nt := 22) (fun _ => rfl) (fun _ => rfl) (by kernel_rfl) (res := res98) (by kernel_rfl) (fun _ => rfl) (fun _ => Nat.le_of_ble_eq_true rfl) (by
    intro R
    rw [show loopsOf (codeOf Tryz.f98) = [] from by kernel_rfl]
    exact allM_nil) (fun R x k => q98 F127 F128 F98 R x k)
abbrev FT57 : Type 1 := (R : Type) → ((List Int) × Unit) → Int → Int → (((List Int) × Unit) → Int → Option R) → Option R
def en57 (F : FT57) : Ent := ⟨57, [(false, (.pair (.sl (.int .u64)) .unit)), (false, (.int .i64)), (false, (.int .u64))], [(false, (.pair (.sl (.int .u64)) .unit)), (false, (.int .i64))], fun R x k => F R x.1 x.2.1 x.2.2.1 (fun y1 y2 => k (y1, y2, ()) ())⟩
def res57 : List (ResultVar × TypeId × Bool) := [(.cell 6 49, 49, false), (.tmp 7, 32, false)]
abbrev LT57_9 : Type 1 := (R : Type) → Int → Int → Int → ((List Int) × Unit) → (List Int) → (((List Int) × Unit) → (List Int) → Option R) → Option R
def le57_9 (L : LT57_9) : LEnt := ⟨9, [.val 2 (.int .u64), .fix 6 (.ptr 1 [] (.pair (.sl (.int .u64)) .unit)), .val 8 (.int .u64), .fix 12 (.own 2 0), .val 13 (.int .i64), .var 1 (.pair (.sl (.int .u64)) .unit) false, .row 2 (.int .u64) false], 3, [(.exit 0, [.fix 6 (.ptr 1 [] (.pair (.sl (.int .u64)) .unit)), .fix 12 (.own 2 0), .var 1 (.pair (.sl (.int .u64)) .unit) false, .row 2 (.int .u64) false])], fun R x ke => L R x.1 x.2.1 x.2.2.1 x.2.2.2.1 x.2.2.2.2.1 (fun y1 y2 => ke.1 (y1, y2, ()))⟩
noncomputable def e57 (F92 : FT92) (F93 : FT93) (F96 : FT96) (F98 : FT98) (F99 : FT99) (L9 : LT57_9) (R : Type) : Env R := ⟨TT, EQT, 0, 64, ownOf [], callOf [en92 F92, en93 F93, en96 F96, en98 F98, en99 F99] R, loopOf [le57_9 L9] R, [], inlOf []⟩
def p57_9 (F93 : FT93) : (R : Type) → Int → Int → Int → ((List Int) × Unit) → (List Int) → (Int → Int → Int → ((List Int) × Unit) → (List Int) → Option R) → (((List Int) × Unit) → (List Int) → Option R) → Option R := fun R x1 x2 x3 x4 x5 kc k0 =>
let v6 : Int := (List.length x5 : Int);
let v7 : Bool := (decide (x3 ≤ v6));
(match v7 with
| true => let v8 : Int := (IntKind.i64.wrap (x3 - (1 : Int)));
let v9 : Int := (IntKind.i64.wrap (x3 - (1 : Int)));
(match (bnd v9 (List.length x5 : Int)) with
| true => let v10 : Int := (List.getD x5 (Int.toNat v9) (0 : Int));
let v11 : Int := (IntKind.u64.wrap (v10 - x2));
let v12 : Int := (IntKind.u64.wrap (v11 + x1));
(match (bnd v8 (List.length x5 : Int)) with
| true => let v13 : (List Int) := (List.set x5 (Int.toNat v8) v12);
F93 R x3 fun y14 =>
let v15 : Int := (IntKind.i64.wrap (x3 + y14));
kc x1 x2 v15 x4 v13
| false => none)
| false => none)
| false => k0 x4 x5)
theorem q57_9 (F92 : FT92) (F93 : FT93) (F96 : FT96) (F98 : FT98) (F99 : FT99) (L9 : LT57_9) (R : Type) (x : HT (le57_9 L9).H) (kc : HT (le57_9 L9).H → Option R) (ke : KT R (le57_9 L9).exs) :
  exec (e57 F92 F93 F96 F98 F99 L9 R) (lcode 9 (codeOf Tryz.f57)) (stOf (le57_9 L9).H x 3) (roundK (le57_9 L9).H (le57_9 L9).exs kc ke) =
    p57_9 F93 R x.1 x.2.1 x.2.2.1 x.2.2.2.1 x.2.2.2.2.1 (fun x1 x2 x3 x4 x5 => kc (x1, x2, x3, x4, x5, ())) (fun y1 y2 => ke.1 (y1, y2, ())) := by kernel_rfl
noncomputable def G57_9 : Nat → LT57_9
  | 0 => fun _ _ _ _ _ _ _ => none
  | n + 1 => fun R x1 x2 x3 x4 x5 k0 => p57_9 F93 R x1 x2 x3 x4 x5 (fun x1 x2 x3 x4 x5 => G57_9 n R x1 x2 x3 x4 x5 k0) k0
def p57 (F92 : FT92) (F96 : FT96) (F98 : FT98) (F99 : FT99) (L9 : LT57_9) : FT57 := fun R a0 a1 a2 k =>
F98 R a0 a1 fun y1 y2 =>
let v3 : Bool := (y2 != (0 : Int));
(match v3 with
| true => k (([] : (List Int)), ()) y2
| false => F96 R a0 fun y4 =>
let v5 : Int := (IntKind.u64.wrap (y4 - y1));
F99 R v5 a2 fun y6 y7 =>
(match (!y7) with
| true => k (([] : (List Int)), ()) (11 : Int)
| false => F92 R a0.1 fun y8 =>
let v9 : Int := (IntKind.i64.wrap (a1 + (1 : Int)));
L9 R a2 y1 v9 (([] : (List Int)), ()) y8 (fun x10 x11 =>
k (x11, ()) (0 : Int))))
theorem q57 (F92 : FT92) (F93 : FT93) (F96 : FT96) (F98 : FT98) (F99 : FT99) (L9 : LT57_9) (F : FT57) (R : Type) (x : AT (en57 F).ins) (k : RT (en57 F).outs → PT (en57 F).ins → Option R) :
  xfun (e57 F92 F93 F96 F98 F99 L9 R) (codeOf Tryz.f57) res57 (avs (en57 F).ins x) (finK (en57 F).outs (en57 F).ins k) = p57 F92 F96 F98 F99 L9 R x.1 x.2.1 x.2.2.1 (fun y1 y2 => k (y1, y2, ()) ()) := by kernel_rfl
noncomputable def F57 : FT57 := p57 F92 F96 F98 F99 (G57_9 FUEL)
theorem env57 (R : Type) : EnvOK Tryz.prog (e57 F92 F93 F96 F98 F99 (G57_9 FUEL) R) := ⟨tabOK, eqOK, callOf_ok (allE_cons ok92 (allE_cons ok93 (allE_cons ok96 (allE_cons ok98 (allE_cons ok99 allE_nil))))), noIns, inlOK_nil⟩
noncomputable def T57_9 : (R : Type) → HT (le57_9 (G57_9 FUEL)).H → (HT (le57_9 (G57_9 FUEL)).H → Option R) → KT R (le57_9 (G57_9 FUEL)).exs → Option R := fun R x kc ke => p57_9 F93 R x.1 x.2.1 x.2.2.1 x.2.2.2.1 x.2.2.2.2.1 (fun x1 x2 x3 x4 x5 => kc (x1, x2, x3, x4, x5, ())) (fun y1 y2 => ke.1 (y1, y2, ()))
theorem it57_9 : ∀ (n : Nat) (R : Type) (x : HT (le57_9 (G57_9 FUEL)).H) (ke : KT R (le57_9 (G57_9 FUEL)).exs), iter T57_9 n R x ke = G57_9 n R x.1 x.2.1 x.2.2.1 x.2.2.2.1 x.2.2.2.2.1 (fun y1 y2 => ke.1 (y1, y2, ())) := by
  intro n
  induction n with
  | zero => intro R x ke; rfl
  | succ n ih =>
    intro R x ke
    show T57_9 R x (fun x' => iter T57_9 n R x' ke) ke = _
    rw [show (fun x' => iter T57_9 n R x' ke) = fun x => G57_9 n R x.1 x.2.1 x.2.2.1 x.2.2.2.1 x.2.2.2.2.1 (fun y1 y2 => ke.1 (y1, y2, ())) from funext fun x' => ih R x' ke]
    rfl
theorem lok57_9 : (le57_9 (G57_9 FUEL)).OK Tryz.prog 0 64 (lcode 9 (codeOf Tryz.f57)) := fun R x ke r h =>
  iter_sound (fun R => e57 F92 F93 F96 F98 F99 (G57_9 FUEL) R) 0 64 (fun _ => rfl) (fun _ => rfl) (fun R => env57 R) mixed (by
    intro R
    rw [show loopsOf (lcode 9 (codeOf Tryz.f57)) = [] from by kernel_rfl]
    exact allM_nil) (T := T57_9) (fun R x kc ke => q57_9 F92 F93 F96 F98 F99 (G57_9 FUEL) R x kc ke) FUEL R x ke r ((it57_9 FUEL R x ke).trans h)
theorem ok57 : (en57 F57).OK Tryz.prog :=
  ent_ok (Ef := fun R => e57 F92 F93 F96 F98 F99 (G57_9 FUEL) R) (fun R => env57 R) mixed Tryz.func57 (body := codeOf Tryz.f57) (by kernel_rfl) (by kernel_rfl) (np := 0) (nt := 64) (fun _ => rfl) (fun _ => rfl) (by kernel_rfl) (res := res57) (by kernel_rfl) (fun _ => rfl) (fun _ => Nat.le_of_ble_eq_true rfl) (by
    intro R
    rw [show loopsOf (codeOf Tryz.f57) = [lcode 9 (codeOf Tryz.f57)] from by kernel_rfl]
    exact (allM_cons (loop_ok2 (e := le57_9 (G57_9 FUEL)) rfl rfl lok57_9) allM_nil)) (fun R x k => q57 F92 F93 F96 F98 F99 (G57_9 FUEL) F57 R x k)
abbrev FT23 : Type 1 := (R : Type) → ((List Int) × Unit) → Int → Tq6 → Int → ((List Int) → Tq6 → Int → Option R) → Option R
def en23 (F : FT23) : Ent := ⟨23, [(false, (.pair (.sl (.int .u64)) .unit)), (false, (.int .i64)), (false, Kq6), (false, (.int .i64))], [(false, (.sl (.int .i64))), (false, Kq6), (false, (.int .i64))], fun R x k => F R x.1 x.2.1 x.2.2.1 x.2.2.2.1 (fun y1 y2 y3 => k (y1, y2, y3, ()) ())⟩
def res23 : List (ResultVar × TypeId × Bool) := [(.tmp 8, 42, false), (.cell 9 30, 30, false), (.tmp 10, 32, false)]
abbrev LT23_5 : Type 1 := (R : Type) → Int → Int → ((List Int) × Unit) → Tq6 → (List Int) → Tq6 → (Int → Tq6 → Option R) → (Tq6 → (List Int) → Tq6 → Option R) → Option R
def le23_5 (L : LT23_5) : LEnt := ⟨5, [.val 1 (.int .i64), .val 3 (.int .i64), .fix 4 (.ptr 0 [] (.pair (.sl (.int .u64)) .unit)), .fix 6 (.ptr 1 [] Kq6), .fix 8 (.own 2 0), .fix 9 (.ptr 3 [] Kq6), .var 0 (.pair (.sl (.int .u64)) .unit) false, .var 1 Kq6 false, .row 2 (.int .i64) false, .var 3 Kq6 false], 4, [(.ret, [.fix 8 .nil, .fix 9 (.ptr 3 [] Kq6), .val 10 (.int .i64), .var 3 Kq6 false]), (.exit 1, [.fix 6 (.ptr 1 [] Kq6), .fix 8 (.own 2 0), .fix 9 (.ptr 3 [] Kq6), .var 1 Kq6 false, .row 2 (.int .i64) false, .var 3 Kq6 false])], fun R x ke => L R x.1 x.2.1 x.2.2.1 x.2.2.2.1 x.2.2.2.2.1 x.2.2.2.2.2.1 (fun y1 y2 => ke.1 (y1, y2, ())) (fun y1 y2 y3 => ke.2.1 (y1, y2, y3, ()))⟩
noncomputable def e23 (F53 : FT53) (F54 : FT54) (F55 : FT55) (F56 : FT56) (F57 : FT57) (L5 : LT23_5) (R : Type) : Env R := ⟨TT, EQT, 0, 61, ownOf [(0, 2)], callOf [en53 F53, en54 F54, en55 F55, en56 F56, en57 F57] R, loopOf [le23_5 L5] R, [], inlOf []⟩
def p23_5 (F56 : FT56) (F57 : FT57) : (R : Type) → Int → Int → ((List Int) × Unit) → Tq6 → (List Int) → Tq6 → (Int → Int → ((List Int) × Unit) → Tq6 → (List Int) → Tq6 → Option R) → (Int → Tq6 → Option R) → (Tq6 → (List Int) → Tq6 → Option R) → Option R := fun R x1 x2 x3 x4 x5 x6 kc k0 k1 =>
let v7 : Int := (List.length x5 : Int);
let v8 : Bool := (decide (v7 < x1));
(match v8 with
| true => F56 R x3 x4 x2 fun y9 y10 y11 =>
let v12 : Bool := (y11 != (0 : Int));
(match v12 with
| true => k0 y11 y10
| false => let v13 : (List Int) := ([y9] : (List Int));
(match (decide (List.length x5 + List.length v13 ≤ 17592186044416)) with
| true => let v14 : (List Int) := (x5 ++ v13);
F57 R x3 y9 (0 : Int) fun y15 y16 =>
let v17 : Bool := (y16 != (0 : Int));
(match v17 with
| true => k0 y16 y10
| false => kc x1 x2 y15 y10 v14 x6)
| false => none))
| false => k1 x4 x5 x6)
theorem q23_5 (F53 : FT53) (F54 : FT54) (F55 : FT55) (F56 : FT56) (F57 : FT57) (L5 : LT23_5) (R : Type) (x : HT (le23_5 L5).H) (kc : HT (le23_5 L5).H → Option R) (ke : KT R (le23_5 L5).exs) :
  exec (e23 F53 F54 F55 F56 F57 L5 R) (lcode 5 (codeOf Tryz.f23)) (stOf (le23_5 L5).H x 4) (roundK (le23_5 L5).H (le23_5 L5).exs kc ke) =
    p23_5 F56 F57 R x.1 x.2.1 x.2.2.1 x.2.2.2.1 x.2.2.2.2.1 x.2.2.2.2.2.1 (fun x1 x2 x3 x4 x5 x6 => kc (x1, x2, x3, x4, x5, x6, ())) (fun y1 y2 => ke.1 (y1, y2, ())) (fun y1 y2 y3 => ke.2.1 (y1, y2, y3, ())) := by kernel_rfl
noncomputable def G23_5 : Nat → LT23_5
  | 0 => fun _ _ _ _ _ _ _ _ _ => none
  | n + 1 => fun R x1 x2 x3 x4 x5 x6 k0 k1 => p23_5 F56 F57 R x1 x2 x3 x4 x5 x6 (fun x1 x2 x3 x4 x5 x6 => G23_5 n R x1 x2 x3 x4 x5 x6 k0 k1) k0 k1
def p23 (F53 : FT53) (F54 : FT54) (F55 : FT55) (L5 : LT23_5) : FT23 := fun R a0 a1 a2 a3 k =>
F53 R a1 a2 a3 fun y1 =>
(match (!y1) with
| true => k ([] : (List Int)) a2 (1 : Int)
| false => F55 R a0 fun y2 =>
F54 R y2 fun y3 =>
let v4 : Bool := (decide (y3 < a1));
(match v4 with
| true => k ([] : (List Int)) a2 (12 : Int)
| false => L5 R a1 a3 a0 a2 ([] : (List Int)) ((0 : Int), ([] : (List Int)), (0 : Int), (List.replicate 32 (0 : Int)), (0 : Int), (0 : Int), ()) (fun x5 x6 =>
k ([] : (List Int)) x6 x5) (fun x7 x8 x9 =>
k x8 x7 (0 : Int))))
theorem q23 (F53 : FT53) (F54 : FT54) (F55 : FT55) (F56 : FT56) (F57 : FT57) (L5 : LT23_5) (F : FT23) (R : Type) (x : AT (en23 F).ins) (k : RT (en23 F).outs → PT (en23 F).ins → Option R) :
  xfun (e23 F53 F54 F55 F56 F57 L5 R) (codeOf Tryz.f23) res23 (avs (en23 F).ins x) (finK (en23 F).outs (en23 F).ins k) = p23 F53 F54 F55 L5 R x.1 x.2.1 x.2.2.1 x.2.2.2.1 (fun y1 y2 y3 => k (y1, y2, y3, ()) ()) := by kernel_rfl
noncomputable def F23 : FT23 := p23 F53 F54 F55 (G23_5 FUEL)
theorem env23 (R : Type) : EnvOK Tryz.prog (e23 F53 F54 F55 F56 F57 (G23_5 FUEL) R) := ⟨tabOK, eqOK, callOf_ok (allE_cons ok53 (allE_cons ok54 (allE_cons ok55 (allE_cons ok56 (allE_cons ok57 allE_nil))))), noIns, inlOK_nil⟩
noncomputable def T23_5 : (R : Type) → HT (le23_5 (G23_5 FUEL)).H → (HT (le23_5 (G23_5 FUEL)).H → Option R) → KT R (le23_5 (G23_5 FUEL)).exs → Option R := fun R x kc ke => p23_5 F56 F57 R x.1 x.2.1 x.2.2.1 x.2.2.2.1 x.2.2.2.2.1 x.2.2.2.2.2.1 (fun x1 x2 x3 x4 x5 x6 => kc (x1, x2, x3, x4, x5, x6, ())) (fun y1 y2 => ke.1 (y1, y2, ())) (fun y1 y2 y3 => ke.2.1 (y1, y2, y3, ()))
theorem it23_5 : ∀ (n : Nat) (R : Type) (x : HT (le23_5 (G23_5 FUEL)).H) (ke : KT R (le23_5 (G23_5 FUEL)).exs), iter T23_5 n R x ke = G23_5 n R x.1 x.2.1 x.2.2.1 x.2.2.2.1 x.2.2.2.2.1 x.2.2.2.2.2.1 (fun y1 y2 => ke.1 (y1, y2, ())) (fun y1 y2 y3 => ke.2.1 (y1, y2, y3, ())) := by
  intro n
  induction n with
  | zero => intro R x ke; rfl
  | succ n ih =>
    intro R x ke
    show T23_5 R x (fun x' => iter T23_5 n R x' ke) ke = _
    rw [show (fun x' => iter T23_5 n R x' ke) = fun x => G23_5 n R x.1 x.2.1 x.2.2.1 x.2.2.2.1 x.2.2.2.2.1 x.2.2.2.2.2.1 (fun y1 y2 => ke.1 (y1, y2, ())) (fun y1 y2 y3 => ke.2.1 (y1, y2, y3, ())) from funext fun x' => ih R x' ke]
    rfl
theorem lok23_5 : (le23_5 (G23_5 FUEL)).OK Tryz.prog 0 61 (lcode 5 (codeOf Tryz.f23)) := fun R x ke r h =>
  iter_sound (fun R => e23 F53 F54 F55 F56 F57 (G23_5 FUEL) R) 0 61 (fun _ => rfl) (fun _ => rfl) (fun R => env23 R) mixed (by
    intro R
    rw [show loopsOf (lcode 5 (codeOf Tryz.f23)) = [] from by kernel_rfl]
    exact allM_nil) (T := T23_5) (fun R x kc ke => q23_5 F53 F54 F55 F56 F57 (G23_5 FUEL) R x kc ke) FUEL R x ke r ((it23_5 FUEL R x ke).trans h)
theorem ok23 : (en23 F23).OK Tryz.prog :=
  ent_ok (Ef := fun R => e23 F53 F54 F55 F56 F57 (G23_5 FUEL) R) (fun R => env23 R) mixed Tryz.func23 (body := codeOf Tryz.f23) (by kernel_rfl) (by kernel_rfl) (np := 0) (nt := 61) (fun _ => rfl) (fun _ => rfl) (by kernel_rfl) (res := res23) (by kernel_rfl) (fun _ => rfl) (fun _ => Nat.le_of_ble_eq_true rfl) (by
    intro R
    rw [show loopsOf (codeOf Tryz.f23) = [lcode 5 (codeOf Tryz.f23)] from by kernel_rfl]
    exact (allM_cons (loop_ok2 (e := le23_5 (G23_5 FUEL)) rfl rfl lok23_5) allM_nil)) (fun R x k => q23 F53 F54 F55 F56 F57 (G23_5 FUEL) F23 R x k)
abbrev FT19 : Type 1 := (R : Type) → Int → Tq6 → Int → (List Int) → ((List Int) → Tq6 → Int → Option R) → Option R
def en19 (F : FT19) : Ent := ⟨19, [(false, (.int .i64)), (false, Kq6), (false, (.int .i64)), (false, (.sl (.int .u64)))], [(false, (.sl (.int .i64))), (false, Kq6), (false, (.int .i64))], fun R x k => F R x.1 x.2.1 x.2.2.1 x.2.2.2.1 (fun y1 y2 y3 => k (y1, y2, y3, ()) ())⟩
def res19 : List (ResultVar × TypeId × Bool) := [(.tmp 8, 42, false), (.cell 9 30, 30, false), (.tmp 10, 32, false)]
noncomputable def e19 (F23 : FT23) (F50 : FT50) (R : Type) : Env R := ⟨TT, EQT, 0, 30, ownOf [], callOf [en23 F23, en50 F50] R, loopOf [] R, [], inlOf []⟩
def p19 (F23 : FT23) (F50 : FT50) : FT19 := fun R a0 a1 a2 a3 k =>
F50 R a3 fun y1 y2 =>
let v3 : Bool := (y2 != (0 : Int));
(match v3 with
| true => k ([] : (List Int)) a1 y2
| false => F23 R y1 a0 a1 a2 fun y4 y5 y6 =>
k y4 y5 y6)
theorem q19 (F23 : FT23) (F50 : FT50) (F : FT19) (R : Type) (x : AT (en19 F).ins) (k : RT (en19 F).outs → PT (en19 F).ins → Option R) :
  xfun (e19 F23 F50 R) (codeOf Tryz.f19) res19 (avs (en19 F).ins x) (finK (en19 F).outs (en19 F).ins k) = p19 F23 F50 R x.1 x.2.1 x.2.2.1 x.2.2.2.1 (fun y1 y2 y3 => k (y1, y2, y3, ()) ()) := by kernel_rfl
noncomputable def F19 : FT19 := p19 F23 F50
theorem env19 (R : Type) : EnvOK Tryz.prog (e19 F23 F50 R) := ⟨tabOK, eqOK, callOf_ok (allE_cons ok23 (allE_cons ok50 allE_nil)), noIns, inlOK_nil⟩
theorem ok19 : (en19 F19).OK Tryz.prog :=
  ent_ok (Ef := fun R => e19 F23 F50 R) (fun R => env19 R) mixed Tryz.func19 (body := codeOf Tryz.f19) (by kernel_rfl) (by kernel_rfl) (np := 0) (nt := 30) (fun _ => rfl) (fun _ => rfl) (by kernel_rfl) (res := res19) (by kernel_rfl) (fun _ => rfl) (fun _ => Nat.le_of_ble_eq_true rfl) (by
    intro R
    rw [show loopsOf (codeOf Tryz.f19) = [] from by kernel_rfl]
    exact allM_nil) (fun R x k => q19 F23 F50 F19 R x k)
abbrev FT37 : Type 1 := (R : Type) → (List Int) → Int → Int → Int → (List Int) → ((List Int) → Int → Option R) → Option R
def en37 (F : FT37) : Ent := ⟨37, [(false, (.arr 32 (.int .u8))), (false, (.int .i64)), (false, (.int .i64)), (false, (.int .i64)), (false, (.sl (.int .u64)))], [(false, (.sl (.int .i64))), (false, (.int .i64))], fun R x k => F R x.1 x.2.1 x.2.2.1 x.2.2.2.1 x.2.2.2.2.1 (fun y1 y2 => k (y1, y2, ()) ())⟩
def res37 : List (ResultVar × TypeId × Bool) := [(.tmp 10, 42, false), (.tmp 11, 32, false)]
noncomputable def e37 (F19 : FT19) (F73 : FT73) (F77 : FT77) (R : Type) : Env R := ⟨TT, EQT, 0, 36, ownOf [], callOf [en19 F19, en73 F73, en77 F77] R, loopOf [] R, [], inlOf []⟩
def p37 (F19 : FT19) (F73 : FT73) (F77 : FT77) : FT37 := fun R a0 a1 a2 a3 a4 k =>
F73 R (a0, a3, ()) a1 fun y1 =>
(match (!y1) with
| true => k ([] : (List Int)) (1 : Int)
| false => F77 R (a0, a3, ()) (3 : Int) a1 fun y2 =>
F19 R a2 y2 a3 a4 fun y3 y4 y5 =>
k y3 y5)
theorem q37 (F19 : FT19) (F73 : FT73) (F77 : FT77) (F : FT37) (R : Type) (x : AT (en37 F).ins) (k : RT (en37 F).outs → PT (en37 F).ins → Option R) :
  xfun (e37 F19 F73 F77 R) (codeOf Tryz.f37) res37 (avs (en37 F).ins x) (finK (en37 F).outs (en37 F).ins k) = p37 F19 F73 F77 R x.1 x.2.1 x.2.2.1 x.2.2.2.1 x.2.2.2.2.1 (fun y1 y2 => k (y1, y2, ()) ()) := by kernel_rfl
noncomputable def F37 : FT37 := p37 F19 F73 F77
theorem env37 (R : Type) : EnvOK Tryz.prog (e37 F19 F73 F77 R) := ⟨tabOK, eqOK, callOf_ok (allE_cons ok19 (allE_cons ok73 (allE_cons ok77 allE_nil))), noIns, inlOK_nil⟩
theorem ok37 : (en37 F37).OK Tryz.prog :=
  ent_ok (Ef := fun R => e37 F19 F73 F77 R) (fun R => env37 R) mixed Tryz.func37 (body := codeOf Tryz.f37) (by kernel_rfl) (by kernel_rfl) (np := 0) (nt := 36) (fun _ => rfl) (fun _ => rfl) (by kernel_rfl) (res := res37) (by kernel_rfl) (fun _ => rfl) (fun _ => Nat.le_of_ble_eq_true rfl) (by
    intro R
    rw [show loopsOf (codeOf Tryz.f37) = [] from by kernel_rfl]
    exact allM_nil) (fun R x k => q37 F19 F73 F77 F37 R x k)
abbrev FT21 : Type 1 := (R : Type) → (List Int) → (List Int) → (Bool → Option R) → Option R
def en21 (F : FT21) : Ent := ⟨21, [(false, (.sl (.int .i64))), (false, (.sl (.int .i64)))], [(false, .bool)], fun R x k => F R x.1 x.2.1 (fun y1 => k (y1, ()) ())⟩
def res21 : List (ResultVar × TypeId × Bool) := [(.tmp 4, 4, false)]
abbrev LT21_4 : Type 1 := (R : Type) → (List Int) → (List Int) → Int → (Bool → Option R) → (Option R) → Option R
def le21_4 (L : LT21_4) : LEnt := ⟨4, [.val 0 (.sl (.int .i64)), .val 1 (.sl (.int .i64)), .val 5 (.int .i64)], 0, [(.ret, [.val 4 .bool]), (.exit 0, [])], fun R x ke => L R x.1 x.2.1 x.2.2.1 (fun y1 => ke.1 (y1, ())) (ke.2.1 ())⟩
noncomputable def e21 (L4 : LT21_4) (R : Type) : Env R := ⟨TT, EQT, 0, 26, ownOf [], callOf [] R, loopOf [le21_4 L4] R, [], inlOf []⟩
def p21_4 : (R : Type) → (List Int) → (List Int) → Int → ((List Int) → (List Int) → Int → Option R) → (Bool → Option R) → (Option R) → Option R := fun R x1 x2 x3 kc k0 k1 =>
let v4 : Int := (List.length x1 : Int);
let v5 : Bool := (decide (x3 < v4));
(match v5 with
| true => (match (bnd x3 (List.length x1 : Int)) with
| true => let v6 : Int := (List.getD x1 (Int.toNat x3) (0 : Int));
(match (bnd x3 (List.length x2 : Int)) with
| true => let v7 : Int := (List.getD x2 (Int.toNat x3) (0 : Int));
let v8 : Bool := (v6 != v7);
(match v8 with
| true => k0 false
| false => let v9 : Int := (IntKind.i64.wrap (x3 + (1 : Int)));
kc x1 x2 v9)
| false => none)
| false => none)
| false => k1)
theorem q21_4 (L4 : LT21_4) (R : Type) (x : HT (le21_4 L4).H) (kc : HT (le21_4 L4).H → Option R) (ke : KT R (le21_4 L4).exs) :
  exec (e21 L4 R) (lcode 4 (codeOf Tryz.f21)) (stOf (le21_4 L4).H x 0) (roundK (le21_4 L4).H (le21_4 L4).exs kc ke) =
    p21_4 R x.1 x.2.1 x.2.2.1 (fun x1 x2 x3 => kc (x1, x2, x3, ())) (fun y1 => ke.1 (y1, ())) (ke.2.1 ()) := by kernel_rfl
noncomputable def G21_4 : Nat → LT21_4
  | 0 => fun _ _ _ _ _ _ => none
  | n + 1 => fun R x1 x2 x3 k0 k1 => p21_4 R x1 x2 x3 (fun x1 x2 x3 => G21_4 n R x1 x2 x3 k0 k1) k0 k1
def p21 (L4 : LT21_4) : FT21 := fun R a0 a1 k =>
let v1 : Int := (List.length a0 : Int);
let v2 : Int := (List.length a1 : Int);
let v3 : Bool := (v1 != v2);
(match v3 with
| true => k false
| false => L4 R a0 a1 (0 : Int) (fun x4 =>
k x4) (k true))
theorem q21 (L4 : LT21_4) (F : FT21) (R : Type) (x : AT (en21 F).ins) (k : RT (en21 F).outs → PT (en21 F).ins → Option R) :
  xfun (e21 L4 R) (codeOf Tryz.f21) res21 (avs (en21 F).ins x) (finK (en21 F).outs (en21 F).ins k) = p21 L4 R x.1 x.2.1 (fun y1 => k (y1, ()) ()) := by kernel_rfl
noncomputable def F21 : FT21 := p21 (G21_4 FUEL)
theorem env21 (R : Type) : EnvOK Tryz.prog (e21 (G21_4 FUEL) R) := ⟨tabOK, eqOK, callOf_ok allE_nil, noIns, inlOK_nil⟩
noncomputable def T21_4 : (R : Type) → HT (le21_4 (G21_4 FUEL)).H → (HT (le21_4 (G21_4 FUEL)).H → Option R) → KT R (le21_4 (G21_4 FUEL)).exs → Option R := fun R x kc ke => p21_4 R x.1 x.2.1 x.2.2.1 (fun x1 x2 x3 => kc (x1, x2, x3, ())) (fun y1 => ke.1 (y1, ())) (ke.2.1 ())
theorem it21_4 : ∀ (n : Nat) (R : Type) (x : HT (le21_4 (G21_4 FUEL)).H) (ke : KT R (le21_4 (G21_4 FUEL)).exs), iter T21_4 n R x ke = G21_4 n R x.1 x.2.1 x.2.2.1 (fun y1 => ke.1 (y1, ())) (ke.2.1 ()) := by
  intro n
  induction n with
  | zero => intro R x ke; rfl
  | succ n ih =>
    intro R x ke
    show T21_4 R x (fun x' => iter T21_4 n R x' ke) ke = _
    rw [show (fun x' => iter T21_4 n R x' ke) = fun x => G21_4 n R x.1 x.2.1 x.2.2.1 (fun y1 => ke.1 (y1, ())) (ke.2.1 ()) from funext fun x' => ih R x' ke]
    rfl
theorem lok21_4 : (le21_4 (G21_4 FUEL)).OK Tryz.prog 0 26 (lcode 4 (codeOf Tryz.f21)) := fun R x ke r h =>
  iter_sound (fun R => e21 (G21_4 FUEL) R) 0 26 (fun _ => rfl) (fun _ => rfl) (fun R => env21 R) mixed (by
    intro R
    rw [show loopsOf (lcode 4 (codeOf Tryz.f21)) = [] from by kernel_rfl]
    exact allM_nil) (T := T21_4) (fun R x kc ke => q21_4 (G21_4 FUEL) R x kc ke) FUEL R x ke r ((it21_4 FUEL R x ke).trans h)
theorem ok21 : (en21 F21).OK Tryz.prog :=
  ent_ok (Ef := fun R => e21 (G21_4 FUEL) R) (fun R => env21 R) mixed Tryz.func21 (body := codeOf Tryz.f21) (by kernel_rfl) (by kernel_rfl) (np := 0) (nt := 26) (fun _ => rfl) (fun _ => rfl) (by kernel_rfl) (res := res21) (by kernel_rfl) (fun _ => rfl) (fun _ => Nat.le_of_ble_eq_true rfl) (by
    intro R
    rw [show loopsOf (codeOf Tryz.f21) = [lcode 4 (codeOf Tryz.f21)] from by kernel_rfl]
    exact (allM_cons (loop_ok2 (e := le21_4 (G21_4 FUEL)) rfl rfl lok21_4) allM_nil)) (fun R x k => q21 (G21_4 FUEL) F21 R x k)
abbrev FT30 : Type 1 := (R : Type) → (Bool → Option R) → Option R
def en30 (F : FT30) : Ent := ⟨30, [], [(false, .bool)], fun R x k => F R  (fun y1 => k (y1, ()) ())⟩
def res30 : List (ResultVar × TypeId × Bool) := [(.tmp 0, 4, false)]
noncomputable def e30 (F21 : FT21) (F31 : FT31) (F33 : FT33) (F35 : FT35) (F37 : FT37) (R : Type) : Env R := ⟨TT, EQT, 0, 110, ownOf [], callOf [en21 F21, en31 F31, en33 F33, en35 F35, en37 F37] R, loopOf [] R, [], inlOf []⟩
def p30 (F21 : FT21) (F31 : FT31) (F33 : FT33) (F35 : FT35) (F37 : FT37) : FT30 := fun R k =>
let v1 : (List Int) := (List.replicate 32 (0 : Int));
let v2 : (List Int) := ([(0 : Int), (1 : Int)] : (List Int));
F31 R v1 (3 : Int) (64 : Int) v2 fun y3 y4 =>
let v5 : (List Int) := (List.replicate 32 (0 : Int));
let v6 : (List Int) := ([(0 : Int), (1 : Int)] : (List Int));
F35 R v5 (3 : Int) (64 : Int) v6 fun y7 y8 =>
let v9 : (List Int) := (List.replicate 32 (0 : Int));
let v10 : (List Int) := ([(0 : Int), (1 : Int)] : (List Int));
F33 R v9 (3 : Int) (64 : Int) v10 fun y11 y12 =>
let v13 : (List Int) := (List.replicate 32 (0 : Int));
let v14 : (List Int) := ([(0 : Int), (9 : Int)] : (List Int));
F37 R v13 (3 : Int) (1 : Int) (64 : Int) v14 fun y15 y16 =>
let v17 : (List Int) := (List.replicate 32 (0 : Int));
let v18 : (List Int) := ([(1 : Int)] : (List Int));
F31 R v17 (1024 : Int) (64 : Int) v18 fun y19 y20 =>
let v21 : (List Int) := (List.replicate 32 (0 : Int));
let v22 : (List Int) := ([(0 : Int)] : (List Int));
F35 R v21 (2 : Int) (64 : Int) v22 fun y23 y24 =>
let v25 : (List Int) := (List.replicate 32 (0 : Int));
let v26 : (List Int) := ([(0 : Int)] : (List Int));
F31 R v25 (0 : Int) (64 : Int) v26 fun y27 y28 =>
let v29 : Bool := (y4 == (0 : Int));
(match v29 with
| true => let v30 : Bool := (y8 == (0 : Int));
(match v30 with
| true => let v31 : Bool := (y12 == (0 : Int));
(match v31 with
| true => let v32 : Bool := (y11 == (1 : Int));
(match v32 with
| true => let v33 : Bool := (y16 == (0 : Int));
(match v33 with
| true => let v34 : Bool := (y20 == (1 : Int));
(match v34 with
| true => let v35 : Bool := (y24 == (0 : Int));
(match v35 with
| true => let v36 : Bool := (y28 == (10 : Int));
(match v36 with
| true => let v37 : Bool := (y3 == (1 : Int));
(match v37 with
| true => let v38 : (List Int) := ([(1 : Int), (1 : Int), (1 : Int)] : (List Int));
F21 R y7 v38 fun y39 =>
(match y39 with
| true => let v40 : (List Int) := ([(1 : Int)] : (List Int));
F21 R y15 v40 fun y41 =>
(match y41 with
| true => let v42 : (List Int) := ([(-1 : Int), (-1 : Int)] : (List Int));
F21 R y23 v42 fun y43 =>
k y43
| false => k false)
| false => k false)
| false => k false)
| false => k false)
| false => k false)
| false => k false)
| false => k false)
| false => let v44 : Bool := (y12 == (9 : Int));
(match v44 with
| true => let v45 : Bool := (y16 == (0 : Int));
(match v45 with
| true => let v46 : Bool := (y20 == (1 : Int));
(match v46 with
| true => let v47 : Bool := (y24 == (0 : Int));
(match v47 with
| true => let v48 : Bool := (y28 == (10 : Int));
(match v48 with
| true => let v49 : Bool := (y3 == (1 : Int));
(match v49 with
| true => let v50 : (List Int) := ([(1 : Int), (1 : Int), (1 : Int)] : (List Int));
F21 R y7 v50 fun y51 =>
(match y51 with
| true => let v52 : (List Int) := ([(1 : Int)] : (List Int));
F21 R y15 v52 fun y53 =>
(match y53 with
| true => let v54 : (List Int) := ([(-1 : Int), (-1 : Int)] : (List Int));
F21 R y23 v54 fun y55 =>
k y55
| false => k false)
| false => k false)
| false => k false)
| false => k false)
| false => k false)
| false => k false)
| false => k false)
| false => k false))
| false => let v56 : Bool := (y12 == (9 : Int));
(match v56 with
| true => let v57 : Bool := (y16 == (0 : Int));
(match v57 with
| true => let v58 : Bool := (y20 == (1 : Int));
(match v58 with
| true => let v59 : Bool := (y24 == (0 : Int));
(match v59 with
| true => let v60 : Bool := (y28 == (10 : Int));
(match v60 with
| true => let v61 : Bool := (y3 == (1 : Int));
(match v61 with
| true => let v62 : (List Int) := ([(1 : Int), (1 : Int), (1 : Int)] : (List Int));
F21 R y7 v62 fun y63 =>
(match y63 with
| true => let v64 : (List Int) := ([(1 : Int)] : (List Int));
F21 R y15 v64 fun y65 =>
(match y65 with
| true => let v66 : (List Int) := ([(-1 : Int), (-1 : Int)] : (List Int));
F21 R y23 v66 fun y67 =>
k y67
| false => k false)
| false => k false)
| false => k false)
| false => k false)
| false => k false)
| false => k false)
| false => k false)
| false => k false))
| false => k false)
| false => k false)
theorem q30 (F21 : FT21) (F31 : FT31) (F33 : FT33) (F35 : FT35) (F37 : FT37) (F : FT30) (R : Type) (x : AT (en30 F).ins) (k : RT (en30 F).outs → PT (en30 F).ins → Option R) :
  xfun (e30 F21 F31 F33 F35 F37 R) (codeOf Tryz.f30) res30 (avs (en30 F).ins x) (finK (en30 F).outs (en30 F).ins k) = p30 F21 F31 F33 F35 F37 R  (fun y1 => k (y1, ()) ()) := by kernel_rfl
noncomputable def F30 : FT30 := p30 F21 F31 F33 F35 F37
theorem env30 (R : Type) : EnvOK Tryz.prog (e30 F21 F31 F33 F35 F37 R) := ⟨tabOK, eqOK, callOf_ok (allE_cons ok21 (allE_cons ok31 (allE_cons ok33 (allE_cons ok35 (allE_cons ok37 allE_nil))))), noIns, inlOK_nil⟩
theorem ok30 : (en30 F30).OK Tryz.prog :=
  ent_ok (Ef := fun R => e30 F21 F31 F33 F35 F37 R) (fun R => env30 R) mixed Tryz.func30 (body := codeOf Tryz.f30) (by kernel_rfl) (by kernel_rfl) (np := 0) (nt := 110) (fun _ => rfl) (fun _ => rfl) (by kernel_rfl) (res := res30) (by kernel_rfl) (fun _ => rfl) (fun _ => Nat.le_of_ble_eq_true rfl) (by
    intro R
    rw [show loopsOf (codeOf Tryz.f30) = [] from by kernel_rfl]
    exact allM_nil) (fun R x k => q30 F21 F31 F33 F35 F37 F30 R x k)
abbrev FT75 : Type 1 := (R : Type) → Int → Int → (Bool → Option R) → Option R
def en75 (F : FT75) : Ent := ⟨75, [(false, (.int .i64)), (false, (.int .i64))], [(false, .bool)], fun R x k => F R x.1 x.2.1 (fun y1 => k (y1, ()) ())⟩
def res75 : List (ResultVar × TypeId × Bool) := [(.tmp 4, 4, false)]
noncomputable def e75 (R : Type) : Env R := ⟨TT, EQT, 0, 19, ownOf [], callOf [] R, loopOf [] R, [], inlOf []⟩
def p75 : FT75 := fun R a0 a1 k =>
let v1 : Bool := (decide (a0 ≥ (0 : Int)));
(match v1 with
| true => let v2 : Bool := (decide (a0 < (1024 : Int)));
(match v2 with
| true => let v3 : Bool := (decide (a1 ≥ (1 : Int)));
(match v3 with
| true => let v4 : Bool := (decide (a1 ≤ (64 : Int)));
k v4
| false => k false)
| false => k false)
| false => k false)
theorem q75 (F : FT75) (R : Type) (x : AT (en75 F).ins) (k : RT (en75 F).outs → PT (en75 F).ins → Option R) :
  xfun (e75 R) (codeOf Tryz.f75) res75 (avs (en75 F).ins x) (finK (en75 F).outs (en75 F).ins k) = p75 R x.1 x.2.1 (fun y1 => k (y1, ()) ()) := by kernel_rfl
noncomputable def F75 : FT75 := p75
theorem env75 (R : Type) : EnvOK Tryz.prog (e75 R) := ⟨tabOK, eqOK, callOf_ok allE_nil, noIns, inlOK_nil⟩
theorem ok75 : (en75 F75).OK Tryz.prog :=
  ent_ok (Ef := fun R => e75 R) (fun R => env75 R) mixed Tryz.func75 (body := codeOf Tryz.f75) (by kernel_rfl) (by kernel_rfl) (np := 0) (nt := 19) (fun _ => rfl) (fun _ => rfl) (by kernel_rfl) (res := res75) (by kernel_rfl) (fun _ => rfl) (fun _ => Nat.le_of_ble_eq_true rfl) (by
    intro R
    rw [show loopsOf (codeOf Tryz.f75) = [] from by kernel_rfl]
    exact allM_nil) (fun R x k => q75 F75 R x k)
abbrev FT63 : Type 1 := (R : Type) → Int → (Int → Option R) → Option R
def en63 (F : FT63) : Ent := ⟨63, [(false, (.int .i64))], [(false, (.int .i64))], fun R x k => F R x.1 (fun y1 => k (y1, ()) ())⟩
def res63 : List (ResultVar × TypeId × Bool) := [(.tmp 2, 3, false)]
abbrev LT63_2 : Type 1 := (R : Type) → Int → Int → (Int → Option R) → Option R
def le63_2 (L : LT63_2) : LEnt := ⟨2, [.val 0 (.int .i64), .val 3 (.int .i64)], 0, [(.exit 0, [.val 3 (.int .i64)])], fun R x ke => L R x.1 x.2.1 (fun y1 => ke.1 (y1, ()))⟩
noncomputable def e63 (L2 : LT63_2) (R : Type) : Env R := ⟨TT, EQT, 0, 12, ownOf [], callOf [] R, loopOf [le63_2 L2] R, [], inlOf []⟩
def p63_2 : (R : Type) → Int → Int → (Int → Int → Option R) → (Int → Option R) → Option R := fun R x1 x2 kc k0 =>
let v3 : Int := (Int.tmod x1 (2 : Int));
let v4 : Bool := (v3 == (0 : Int));
(match v4 with
| true => let v5 : Int := (IntKind.i64.wrap (Int.tdiv x1 (2 : Int)));
let v6 : Int := (IntKind.i64.wrap ((2 : Int) * x2));
kc v5 v6
| false => k0 x2)
theorem q63_2 (L2 : LT63_2) (R : Type) (x : HT (le63_2 L2).H) (kc : HT (le63_2 L2).H → Option R) (ke : KT R (le63_2 L2).exs) :
  exec (e63 L2 R) (lcode 2 (codeOf Tryz.f63)) (stOf (le63_2 L2).H x 0) (roundK (le63_2 L2).H (le63_2 L2).exs kc ke) =
    p63_2 R x.1 x.2.1 (fun x1 x2 => kc (x1, x2, ())) (fun y1 => ke.1 (y1, ())) := by kernel_rfl
noncomputable def G63_2 : Nat → LT63_2
  | 0 => fun _ _ _ _ => none
  | n + 1 => fun R x1 x2 k0 => p63_2 R x1 x2 (fun x1 x2 => G63_2 n R x1 x2 k0) k0
def p63 (L2 : LT63_2) : FT63 := fun R a0 k =>
L2 R a0 (1 : Int) (fun x1 =>
k x1)
theorem q63 (L2 : LT63_2) (F : FT63) (R : Type) (x : AT (en63 F).ins) (k : RT (en63 F).outs → PT (en63 F).ins → Option R) :
  xfun (e63 L2 R) (codeOf Tryz.f63) res63 (avs (en63 F).ins x) (finK (en63 F).outs (en63 F).ins k) = p63 L2 R x.1 (fun y1 => k (y1, ()) ()) := by kernel_rfl
noncomputable def F63 : FT63 := p63 (G63_2 FUEL)
theorem env63 (R : Type) : EnvOK Tryz.prog (e63 (G63_2 FUEL) R) := ⟨tabOK, eqOK, callOf_ok allE_nil, noIns, inlOK_nil⟩
noncomputable def T63_2 : (R : Type) → HT (le63_2 (G63_2 FUEL)).H → (HT (le63_2 (G63_2 FUEL)).H → Option R) → KT R (le63_2 (G63_2 FUEL)).exs → Option R := fun R x kc ke => p63_2 R x.1 x.2.1 (fun x1 x2 => kc (x1, x2, ())) (fun y1 => ke.1 (y1, ()))
theorem it63_2 : ∀ (n : Nat) (R : Type) (x : HT (le63_2 (G63_2 FUEL)).H) (ke : KT R (le63_2 (G63_2 FUEL)).exs), iter T63_2 n R x ke = G63_2 n R x.1 x.2.1 (fun y1 => ke.1 (y1, ())) := by
  intro n
  induction n with
  | zero => intro R x ke; rfl
  | succ n ih =>
    intro R x ke
    show T63_2 R x (fun x' => iter T63_2 n R x' ke) ke = _
    rw [show (fun x' => iter T63_2 n R x' ke) = fun x => G63_2 n R x.1 x.2.1 (fun y1 => ke.1 (y1, ())) from funext fun x' => ih R x' ke]
    rfl
theorem lok63_2 : (le63_2 (G63_2 FUEL)).OK Tryz.prog 0 12 (lcode 2 (codeOf Tryz.f63)) := fun R x ke r h =>
  iter_sound (fun R => e63 (G63_2 FUEL) R) 0 12 (fun _ => rfl) (fun _ => rfl) (fun R => env63 R) mixed (by
    intro R
    rw [show loopsOf (lcode 2 (codeOf Tryz.f63)) = [] from by kernel_rfl]
    exact allM_nil) (T := T63_2) (fun R x kc ke => q63_2 (G63_2 FUEL) R x kc ke) FUEL R x ke r ((it63_2 FUEL R x ke).trans h)
theorem ok63 : (en63 F63).OK Tryz.prog :=
  ent_ok (Ef := fun R => e63 (G63_2 FUEL) R) (fun R => env63 R) mixed Tryz.func63 (body := codeOf Tryz.f63) (by kernel_rfl) (by kernel_rfl) (np := 0) (nt := 12) (fun _ => rfl) (fun _ => rfl) (by kernel_rfl) (res := res63) (by kernel_rfl) (fun _ => rfl) (fun _ => Nat.le_of_ble_eq_true rfl) (by
    intro R
    rw [show loopsOf (codeOf Tryz.f63) = [lcode 2 (codeOf Tryz.f63)] from by kernel_rfl]
    exact (allM_cons (loop_ok2 (e := le63_2 (G63_2 FUEL)) rfl rfl lok63_2) allM_nil)) (fun R x k => q63 (G63_2 FUEL) F63 R x k)
abbrev FT62 : Type 1 := (R : Type) → (List Int) → Int → Int → (Int → Option R) → Option R
def en62 (F : FT62) : Ent := ⟨62, [(false, (.sl (.int .u64))), (false, (.int .i64)), (false, (.int .i64))], [(false, (.int .u64))], fun R x k => F R x.1 x.2.1 x.2.2.1 (fun y1 => k (y1, ()) ())⟩
def res62 : List (ResultVar × TypeId × Bool) := [(.tmp 6, 22, false)]
abbrev LT62_3 : Type 1 := (R : Type) → (List Int) → Int → Int → Int → (Int → Option R) → Option R
def le62_3 (L : LT62_3) : LEnt := ⟨3, [.val 0 (.sl (.int .u64)), .val 2 (.int .i64), .val 7 (.int .u64), .val 8 (.int .i64)], 0, [(.exit 0, [.val 7 (.int .u64)])], fun R x ke => L R x.1 x.2.1 x.2.2.1 x.2.2.2.1 (fun y1 => ke.1 (y1, ()))⟩
noncomputable def e62 (L3 : LT62_3) (R : Type) : Env R := ⟨TT, EQT, 0, 22, ownOf [], callOf [] R, loopOf [le62_3 L3] R, [], inlOf []⟩
def p62_3 : (R : Type) → (List Int) → Int → Int → Int → ((List Int) → Int → Int → Int → Option R) → (Int → Option R) → Option R := fun R x1 x2 x3 x4 kc k0 =>
let v5 : Bool := (decide (x4 < x2));
(match v5 with
| true => (match (bnd x4 (List.length x1 : Int)) with
| true => let v6 : Int := (List.getD x1 (Int.toNat x4) (0 : Int));
let v7 : Int := (IntKind.u64.wrap (x3 + v6));
let v8 : Int := (IntKind.i64.wrap (x4 + (1 : Int)));
kc x1 x2 v7 v8
| false => none)
| false => k0 x3)
theorem q62_3 (L3 : LT62_3) (R : Type) (x : HT (le62_3 L3).H) (kc : HT (le62_3 L3).H → Option R) (ke : KT R (le62_3 L3).exs) :
  exec (e62 L3 R) (lcode 3 (codeOf Tryz.f62)) (stOf (le62_3 L3).H x 0) (roundK (le62_3 L3).H (le62_3 L3).exs kc ke) =
    p62_3 R x.1 x.2.1 x.2.2.1 x.2.2.2.1 (fun x1 x2 x3 x4 => kc (x1, x2, x3, x4, ())) (fun y1 => ke.1 (y1, ())) := by kernel_rfl
noncomputable def G62_3 : Nat → LT62_3
  | 0 => fun _ _ _ _ _ _ => none
  | n + 1 => fun R x1 x2 x3 x4 k0 => p62_3 R x1 x2 x3 x4 (fun x1 x2 x3 x4 => G62_3 n R x1 x2 x3 x4 k0) k0
def p62 (L3 : LT62_3) : FT62 := fun R a0 a1 a2 k =>
L3 R a0 a2 (0 : Int) a1 (fun x1 =>
k x1)
theorem q62 (L3 : LT62_3) (F : FT62) (R : Type) (x : AT (en62 F).ins) (k : RT (en62 F).outs → PT (en62 F).ins → Option R) :
  xfun (e62 L3 R) (codeOf Tryz.f62) res62 (avs (en62 F).ins x) (finK (en62 F).outs (en62 F).ins k) = p62 L3 R x.1 x.2.1 x.2.2.1 (fun y1 => k (y1, ()) ()) := by kernel_rfl
noncomputable def F62 : FT62 := p62 (G62_3 FUEL)
theorem env62 (R : Type) : EnvOK Tryz.prog (e62 (G62_3 FUEL) R) := ⟨tabOK, eqOK, callOf_ok allE_nil, noIns, inlOK_nil⟩
noncomputable def T62_3 : (R : Type) → HT (le62_3 (G62_3 FUEL)).H → (HT (le62_3 (G62_3 FUEL)).H → Option R) → KT R (le62_3 (G62_3 FUEL)).exs → Option R := fun R x kc ke => p62_3 R x.1 x.2.1 x.2.2.1 x.2.2.2.1 (fun x1 x2 x3 x4 => kc (x1, x2, x3, x4, ())) (fun y1 => ke.1 (y1, ()))
theorem it62_3 : ∀ (n : Nat) (R : Type) (x : HT (le62_3 (G62_3 FUEL)).H) (ke : KT R (le62_3 (G62_3 FUEL)).exs), iter T62_3 n R x ke = G62_3 n R x.1 x.2.1 x.2.2.1 x.2.2.2.1 (fun y1 => ke.1 (y1, ())) := by
  intro n
  induction n with
  | zero => intro R x ke; rfl
  | succ n ih =>
    intro R x ke
    show T62_3 R x (fun x' => iter T62_3 n R x' ke) ke = _
    rw [show (fun x' => iter T62_3 n R x' ke) = fun x => G62_3 n R x.1 x.2.1 x.2.2.1 x.2.2.2.1 (fun y1 => ke.1 (y1, ())) from funext fun x' => ih R x' ke]
    rfl
theorem lok62_3 : (le62_3 (G62_3 FUEL)).OK Tryz.prog 0 22 (lcode 3 (codeOf Tryz.f62)) := fun R x ke r h =>
  iter_sound (fun R => e62 (G62_3 FUEL) R) 0 22 (fun _ => rfl) (fun _ => rfl) (fun R => env62 R) mixed (by
    intro R
    rw [show loopsOf (lcode 3 (codeOf Tryz.f62)) = [] from by kernel_rfl]
    exact allM_nil) (T := T62_3) (fun R x kc ke => q62_3 (G62_3 FUEL) R x kc ke) FUEL R x ke r ((it62_3 FUEL R x ke).trans h)
theorem ok62 : (en62 F62).OK Tryz.prog :=
  ent_ok (Ef := fun R => e62 (G62_3 FUEL) R) (fun R => env62 R) mixed Tryz.func62 (body := codeOf Tryz.f62) (by kernel_rfl) (by kernel_rfl) (np := 0) (nt := 22) (fun _ => rfl) (fun _ => rfl) (by kernel_rfl) (res := res62) (by kernel_rfl) (fun _ => rfl) (fun _ => Nat.le_of_ble_eq_true rfl) (by
    intro R
    rw [show loopsOf (codeOf Tryz.f62) = [lcode 3 (codeOf Tryz.f62)] from by kernel_rfl]
    exact (allM_cons (loop_ok2 (e := le62_3 (G62_3 FUEL)) rfl rfl lok62_3) allM_nil)) (fun R x k => q62 (G62_3 FUEL) F62 R x k)
abbrev FT26 : Type 1 := (R : Type) → (List Int) → (((List Int) × Unit) → Option R) → Option R
def en26 (F : FT26) : Ent := ⟨26, [(false, (.sl (.int .u64)))], [(false, (.pair (.sl (.int .u64)) .unit))], fun R x k => F R x.1 (fun y1 => k (y1, ()) ())⟩
def res26 : List (ResultVar × TypeId × Bool) := [(.cell 2 49, 49, false)]
abbrev LT26_3 : Type 1 := (R : Type) → (List Int) → Int → ((List Int) × Unit) → (List Int) → Unit → (((List Int) × Unit) → (List Int) → Unit → Option R) → Option R
def le26_3 (L : LT26_3) : LEnt := ⟨3, [.val 0 (.sl (.int .u64)), .fix 2 (.ptr 0 [] (.pair (.sl (.int .u64)) .unit)), .fix 3 (.mptr 2 0 (.pair (.sl (.int .u64)) .unit)), .val 4 (.int .i64), .var 0 (.pair (.sl (.int .u64)) .unit) false, .row 1 (.int .u64) false, .mix 2 [((.sl (.int .u64)), some 1)]], 3, [(.exit 0, [.fix 2 (.ptr 0 [] (.pair (.sl (.int .u64)) .unit)), .fix 3 (.mptr 2 0 (.pair (.sl (.int .u64)) .unit)), .var 0 (.pair (.sl (.int .u64)) .unit) false, .row 1 (.int .u64) false, .mix 2 [((.sl (.int .u64)), some 1)]])], fun R x ke => L R x.1 x.2.1 x.2.2.1 x.2.2.2.1 x.2.2.2.2.1 (fun y1 y2 y3 => ke.1 (y1, y2, y3, ()))⟩
noncomputable def e26 (F62 : FT62) (F63 : FT63) (L3 : LT26_3) (R : Type) : Env R := ⟨TT, EQT, 0, 27, ownOf [(1, 0)], callOf [en62 F62, en63 F63] R, loopOf [le26_3 L3] R, [], inlOf []⟩
def p26_3 (F62 : FT62) (F63 : FT63) : (R : Type) → (List Int) → Int → ((List Int) × Unit) → (List Int) → Unit → ((List Int) → Int → ((List Int) × Unit) → (List Int) → Unit → Option R) → (((List Int) × Unit) → (List Int) → Unit → Option R) → Option R := fun R x1 x2 x3 x4 x5 kc k0 =>
let v6 : Int := (List.length x1 : Int);
let v7 : Bool := (decide (x2 < v6));
(match v7 with
| true => let v8 : Int := (IntKind.i64.wrap (x2 + (1 : Int)));
let v9 : Int := (IntKind.i64.wrap (x2 + (1 : Int)));
F63 R v9 fun y10 =>
let v11 : Int := (IntKind.i64.wrap (v8 - y10));
let v12 : Int := (IntKind.i64.wrap (x2 + (1 : Int)));
F62 R x1 v11 v12 fun y13 =>
let v14 : (List Int) := ([y13] : (List Int));
(match (decide (List.length x4 + List.length v14 ≤ 17592186044416)) with
| true => let v15 : (List Int) := (x4 ++ v14);
let v16 : Int := (IntKind.i64.wrap (x2 + (1 : Int)));
kc x1 v16 x3 v15 ()
| false => none)
| false => k0 x3 x4 ())
theorem q26_3 (F62 : FT62) (F63 : FT63) (L3 : LT26_3) (R : Type) (x : HT (le26_3 L3).H) (kc : HT (le26_3 L3).H → Option R) (ke : KT R (le26_3 L3).exs) :
  exec (e26 F62 F63 L3 R) (lcode 3 (codeOf Tryz.f26)) (stOf (le26_3 L3).H x 3) (roundK (le26_3 L3).H (le26_3 L3).exs kc ke) =
    p26_3 F62 F63 R x.1 x.2.1 x.2.2.1 x.2.2.2.1 x.2.2.2.2.1 (fun x1 x2 x3 x4 x5 => kc (x1, x2, x3, x4, x5, ())) (fun y1 y2 y3 => ke.1 (y1, y2, y3, ())) := by kernel_rfl
noncomputable def G26_3 : Nat → LT26_3
  | 0 => fun _ _ _ _ _ _ _ => none
  | n + 1 => fun R x1 x2 x3 x4 x5 k0 => p26_3 F62 F63 R x1 x2 x3 x4 x5 (fun x1 x2 x3 x4 x5 => G26_3 n R x1 x2 x3 x4 x5 k0) k0
def p26 (L3 : LT26_3) : FT26 := fun R a0 k =>
L3 R a0 (0 : Int) (([] : (List Int)), ()) ([] : (List Int)) () (fun x1 x2 x3 =>
k (x2, ()))
theorem q26 (F62 : FT62) (F63 : FT63) (L3 : LT26_3) (F : FT26) (R : Type) (x : AT (en26 F).ins) (k : RT (en26 F).outs → PT (en26 F).ins → Option R) :
  xfun (e26 F62 F63 L3 R) (codeOf Tryz.f26) res26 (avs (en26 F).ins x) (finK (en26 F).outs (en26 F).ins k) = p26 L3 R x.1 (fun y1 => k (y1, ()) ()) := by kernel_rfl
noncomputable def F26 : FT26 := p26 (G26_3 FUEL)
theorem env26 (R : Type) : EnvOK Tryz.prog (e26 F62 F63 (G26_3 FUEL) R) := ⟨tabOK, eqOK, callOf_ok (allE_cons ok62 (allE_cons ok63 allE_nil)), noIns, inlOK_nil⟩
noncomputable def T26_3 : (R : Type) → HT (le26_3 (G26_3 FUEL)).H → (HT (le26_3 (G26_3 FUEL)).H → Option R) → KT R (le26_3 (G26_3 FUEL)).exs → Option R := fun R x kc ke => p26_3 F62 F63 R x.1 x.2.1 x.2.2.1 x.2.2.2.1 x.2.2.2.2.1 (fun x1 x2 x3 x4 x5 => kc (x1, x2, x3, x4, x5, ())) (fun y1 y2 y3 => ke.1 (y1, y2, y3, ()))
theorem it26_3 : ∀ (n : Nat) (R : Type) (x : HT (le26_3 (G26_3 FUEL)).H) (ke : KT R (le26_3 (G26_3 FUEL)).exs), iter T26_3 n R x ke = G26_3 n R x.1 x.2.1 x.2.2.1 x.2.2.2.1 x.2.2.2.2.1 (fun y1 y2 y3 => ke.1 (y1, y2, y3, ())) := by
  intro n
  induction n with
  | zero => intro R x ke; rfl
  | succ n ih =>
    intro R x ke
    show T26_3 R x (fun x' => iter T26_3 n R x' ke) ke = _
    rw [show (fun x' => iter T26_3 n R x' ke) = fun x => G26_3 n R x.1 x.2.1 x.2.2.1 x.2.2.2.1 x.2.2.2.2.1 (fun y1 y2 y3 => ke.1 (y1, y2, y3, ())) from funext fun x' => ih R x' ke]
    rfl
theorem lok26_3 : (le26_3 (G26_3 FUEL)).OK Tryz.prog 0 27 (lcode 3 (codeOf Tryz.f26)) := fun R x ke r h =>
  iter_sound (fun R => e26 F62 F63 (G26_3 FUEL) R) 0 27 (fun _ => rfl) (fun _ => rfl) (fun R => env26 R) mixed (by
    intro R
    rw [show loopsOf (lcode 3 (codeOf Tryz.f26)) = [] from by kernel_rfl]
    exact allM_nil) (T := T26_3) (fun R x kc ke => q26_3 F62 F63 (G26_3 FUEL) R x kc ke) FUEL R x ke r ((it26_3 FUEL R x ke).trans h)
theorem ok26 : (en26 F26).OK Tryz.prog :=
  ent_ok (Ef := fun R => e26 F62 F63 (G26_3 FUEL) R) (fun R => env26 R) mixed Tryz.func26 (body := codeOf Tryz.f26) (by kernel_rfl) (by kernel_rfl) (np := 0) (nt := 27) (fun _ => rfl) (fun _ => rfl) (by kernel_rfl) (res := res26) (by kernel_rfl) (fun _ => rfl) (fun _ => Nat.le_of_ble_eq_true rfl) (by
    intro R
    rw [show loopsOf (codeOf Tryz.f26) = [lcode 3 (codeOf Tryz.f26)] from by kernel_rfl]
    exact (allM_cons (loop_ok2 (e := le26_3 (G26_3 FUEL)) rfl rfl lok26_3) allM_nil)) (fun R x k => q26 F62 F63 (G26_3 FUEL) F26 R x k)
abbrev FT22 : Type 1 := (R : Type) → (List Int) → (((List Int) × Unit) → Int → Option R) → Option R
def en22 (F : FT22) : Ent := ⟨22, [(false, (.sl (.int .u64)))], [(false, (.pair (.sl (.int .u64)) .unit)), (false, (.int .i64))], fun R x k => F R x.1 (fun y1 y2 => k (y1, y2, ()) ())⟩
def res22 : List (ResultVar × TypeId × Bool) := [(.cell 2 49, 49, false), (.tmp 3, 32, false)]
noncomputable def e22 (F26 : FT26) (F52 : FT52) (R : Type) : Env R := ⟨TT, EQT, 0, 20, ownOf [], callOf [en26 F26, en52 F52] R, loopOf [] R, [], inlOf []⟩
def p22 (F26 : FT26) (F52 : FT52) : FT22 := fun R a0 k =>
let v1 : Int := (List.length a0 : Int);
let v2 : Bool := (decide (v1 > (1048576 : Int)));
(match v2 with
| true => k (([] : (List Int)), ()) (14 : Int)
| false => F52 R a0 fun y3 y4 =>
(match (!y4) with
| true => k (([] : (List Int)), ()) (11 : Int)
| false => F26 R a0 fun y5 =>
k y5 (0 : Int)))
theorem q22 (F26 : FT26) (F52 : FT52) (F : FT22) (R : Type) (x : AT (en22 F).ins) (k : RT (en22 F).outs → PT (en22 F).ins → Option R) :
  xfun (e22 F26 F52 R) (codeOf Tryz.f22) res22 (avs (en22 F).ins x) (finK (en22 F).outs (en22 F).ins k) = p22 F26 F52 R x.1 (fun y1 y2 => k (y1, y2, ()) ()) := by kernel_rfl
noncomputable def F22 : FT22 := p22 F26 F52
theorem env22 (R : Type) : EnvOK Tryz.prog (e22 F26 F52 R) := ⟨tabOK, eqOK, callOf_ok (allE_cons ok26 (allE_cons ok52 allE_nil)), noIns, inlOK_nil⟩
theorem ok22 : (en22 F22).OK Tryz.prog :=
  ent_ok (Ef := fun R => e22 F26 F52 R) (fun R => env22 R) mixed Tryz.func22 (body := codeOf Tryz.f22) (by kernel_rfl) (by kernel_rfl) (np := 0) (nt := 20) (fun _ => rfl) (fun _ => rfl) (by kernel_rfl) (res := res22) (by kernel_rfl) (fun _ => rfl) (fun _ => Nat.le_of_ble_eq_true rfl) (by
    intro R
    rw [show loopsOf (codeOf Tryz.f22) = [] from by kernel_rfl]
    exact allM_nil) (fun R x k => q22 F26 F52 F22 R x k)
abbrev FT113 : Type 1 := (R : Type) → Int → Int → (Int → Option R) → Option R
def en113 (F : FT113) : Ent := ⟨113, [(false, (.int .u32)), (false, (.int .u32))], [(false, (.int .u64))], fun R x k => F R x.1 x.2.1 (fun y1 => k (y1, ()) ())⟩
def res113 : List (ResultVar × TypeId × Bool) := [(.tmp 4, 22, false)]
noncomputable def e113 (R : Type) : Env R := ⟨TT, EQT, 0, 11, ownOf [], callOf [] R, loopOf [] R, [], inlOf []⟩
def p113 : FT113 := fun R a0 a1 k =>
let v1 : Int := (IntKind.u64.wrap a0);
let v2 : Int := (IntKind.u64.wrap (v1 * (4294967296 : Int)));
let v3 : Int := (IntKind.u64.wrap a1);
let v4 : Int := (IntKind.u64.wrap (v2 + v3));
k v4
theorem q113 (F : FT113) (R : Type) (x : AT (en113 F).ins) (k : RT (en113 F).outs → PT (en113 F).ins → Option R) :
  xfun (e113 R) (codeOf Tryz.f113) res113 (avs (en113 F).ins x) (finK (en113 F).outs (en113 F).ins k) = p113 R x.1 x.2.1 (fun y1 => k (y1, ()) ()) := by kernel_rfl
noncomputable def F113 : FT113 := p113
theorem env113 (R : Type) : EnvOK Tryz.prog (e113 R) := ⟨tabOK, eqOK, callOf_ok allE_nil, noIns, inlOK_nil⟩
theorem ok113 : (en113 F113).OK Tryz.prog :=
  ent_ok (Ef := fun R => e113 R) (fun R => env113 R) mixed Tryz.func113 (body := codeOf Tryz.f113) (by kernel_rfl) (by kernel_rfl) (np := 0) (nt := 11) (fun _ => rfl) (fun _ => rfl) (by kernel_rfl) (res := res113) (by kernel_rfl) (fun _ => rfl) (fun _ => Nat.le_of_ble_eq_true rfl) (by
    intro R
    rw [show loopsOf (codeOf Tryz.f113) = [] from by kernel_rfl]
    exact allM_nil) (fun R x k => q113 F113 R x k)
abbrev FT76 : Type 1 := (R : Type) → (List Int) → Int → Int → (Tq6 → Option R) → Option R
def en76 (F : FT76) : Ent := ⟨76, [(false, (.arr 32 (.int .u8))), (false, (.int .u32)), (false, (.int .i64))], [(false, Kq6)], fun R x k => F R x.1 x.2.1 x.2.2.1 (fun y1 => k (y1, ()) ())⟩
def res76 : List (ResultVar × TypeId × Bool) := [(.cell 6 30, 30, false)]
noncomputable def e76 (F113 : FT113) (R : Type) : Env R := ⟨TT, EQT, 0, 13, ownOf [], callOf [en113 F113] R, loopOf [] R, [], inlOf []⟩
def p76 (F113 : FT113) : FT76 := fun R a0 a1 a2 k =>
let v1 : Int := (IntKind.u32.wrap a2);
F113 R a1 v1 fun y2 =>
k ((2 : Int), ([] : (List Int)), (0 : Int), a0, y2, (0 : Int), ())
theorem q76 (F113 : FT113) (F : FT76) (R : Type) (x : AT (en76 F).ins) (k : RT (en76 F).outs → PT (en76 F).ins → Option R) :
  xfun (e76 F113 R) (codeOf Tryz.f76) res76 (avs (en76 F).ins x) (finK (en76 F).outs (en76 F).ins k) = p76 F113 R x.1 x.2.1 x.2.2.1 (fun y1 => k (y1, ()) ()) := by kernel_rfl
noncomputable def F76 : FT76 := p76 F113
theorem env76 (R : Type) : EnvOK Tryz.prog (e76 F113 R) := ⟨tabOK, eqOK, callOf_ok (allE_cons ok113 allE_nil), noIns, inlOK_nil⟩
theorem ok76 : (en76 F76).OK Tryz.prog :=
  ent_ok (Ef := fun R => e76 F113 R) (fun R => env76 R) mixed Tryz.func76 (body := codeOf Tryz.f76) (by kernel_rfl) (by kernel_rfl) (np := 0) (nt := 13) (fun _ => rfl) (fun _ => rfl) (by kernel_rfl) (res := res76) (by kernel_rfl) (fun _ => rfl) (fun _ => Nat.le_of_ble_eq_true rfl) (by
    intro R
    rw [show loopsOf (codeOf Tryz.f76) = [] from by kernel_rfl]
    exact allM_nil) (fun R x k => q76 F113 F76 R x k)
abbrev FT100 : Type 1 := (R : Type) → (List Int) → Int → (Int → Int → Option R) → Option R
def en100 (F : FT100) : Ent := ⟨100, [(false, (.sl (.int .u64))), (false, (.int .u64))], [(false, (.int .i64)), (false, (.int .i64))], fun R x k => F R x.1 x.2.1 (fun y1 y2 => k (y1, y2, ()) ())⟩
def res100 : List (ResultVar × TypeId × Bool) := [(.tmp 4, 3, false), (.tmp 5, 32, false)]
abbrev LT100_2 : Type 1 := (R : Type) → (List Int) → Int → Int → (Int → Int → Option R) → (Option R) → Option R
def le100_2 (L : LT100_2) : LEnt := ⟨2, [.val 0 (.sl (.int .u64)), .val 1 (.int .u64), .val 6 (.int .i64)], 0, [(.ret, [.val 4 (.int .i64), .val 5 (.int .i64)]), (.exit 0, [])], fun R x ke => L R x.1 x.2.1 x.2.2.1 (fun y1 y2 => ke.1 (y1, y2, ())) (ke.2.1 ())⟩
noncomputable def e100 (L2 : LT100_2) (R : Type) : Env R := ⟨TT, EQT, 0, 26, ownOf [], callOf [] R, loopOf [le100_2 L2] R, [], inlOf []⟩
def p100_2 : (R : Type) → (List Int) → Int → Int → ((List Int) → Int → Int → Option R) → (Int → Int → Option R) → (Option R) → Option R := fun R x1 x2 x3 kc k0 k1 =>
let v4 : Int := (List.length x1 : Int);
let v5 : Bool := (decide (x3 < v4));
(match v5 with
| true => (match (bnd x3 (List.length x1 : Int)) with
| true => let v6 : Int := (List.getD x1 (Int.toNat x3) (0 : Int));
let v7 : Bool := (decide (x2 < v6));
(match v7 with
| true => k0 x3 (0 : Int)
| false => (match (bnd x3 (List.length x1 : Int)) with
| true => let v8 : Int := (List.getD x1 (Int.toNat x3) (0 : Int));
let v9 : Int := (IntKind.u64.wrap (x2 - v8));
let v10 : Int := (IntKind.i64.wrap (x3 + (1 : Int)));
kc x1 v9 v10
| false => none))
| false => none)
| false => k1)
theorem q100_2 (L2 : LT100_2) (R : Type) (x : HT (le100_2 L2).H) (kc : HT (le100_2 L2).H → Option R) (ke : KT R (le100_2 L2).exs) :
  exec (e100 L2 R) (lcode 2 (codeOf Tryz.f100)) (stOf (le100_2 L2).H x 0) (roundK (le100_2 L2).H (le100_2 L2).exs kc ke) =
    p100_2 R x.1 x.2.1 x.2.2.1 (fun x1 x2 x3 => kc (x1, x2, x3, ())) (fun y1 y2 => ke.1 (y1, y2, ())) (ke.2.1 ()) := by kernel_rfl
noncomputable def G100_2 : Nat → LT100_2
  | 0 => fun _ _ _ _ _ _ => none
  | n + 1 => fun R x1 x2 x3 k0 k1 => p100_2 R x1 x2 x3 (fun x1 x2 x3 => G100_2 n R x1 x2 x3 k0 k1) k0 k1
def p100 (L2 : LT100_2) : FT100 := fun R a0 a1 k =>
L2 R a0 a1 (0 : Int) (fun x1 x2 =>
k x1 x2) (k (0 : Int) (3 : Int))
theorem q100 (L2 : LT100_2) (F : FT100) (R : Type) (x : AT (en100 F).ins) (k : RT (en100 F).outs → PT (en100 F).ins → Option R) :
  xfun (e100 L2 R) (codeOf Tryz.f100) res100 (avs (en100 F).ins x) (finK (en100 F).outs (en100 F).ins k) = p100 L2 R x.1 x.2.1 (fun y1 y2 => k (y1, y2, ()) ()) := by kernel_rfl
noncomputable def F100 : FT100 := p100 (G100_2 FUEL)
theorem env100 (R : Type) : EnvOK Tryz.prog (e100 (G100_2 FUEL) R) := ⟨tabOK, eqOK, callOf_ok allE_nil, noIns, inlOK_nil⟩
noncomputable def T100_2 : (R : Type) → HT (le100_2 (G100_2 FUEL)).H → (HT (le100_2 (G100_2 FUEL)).H → Option R) → KT R (le100_2 (G100_2 FUEL)).exs → Option R := fun R x kc ke => p100_2 R x.1 x.2.1 x.2.2.1 (fun x1 x2 x3 => kc (x1, x2, x3, ())) (fun y1 y2 => ke.1 (y1, y2, ())) (ke.2.1 ())
theorem it100_2 : ∀ (n : Nat) (R : Type) (x : HT (le100_2 (G100_2 FUEL)).H) (ke : KT R (le100_2 (G100_2 FUEL)).exs), iter T100_2 n R x ke = G100_2 n R x.1 x.2.1 x.2.2.1 (fun y1 y2 => ke.1 (y1, y2, ())) (ke.2.1 ()) := by
  intro n
  induction n with
  | zero => intro R x ke; rfl
  | succ n ih =>
    intro R x ke
    show T100_2 R x (fun x' => iter T100_2 n R x' ke) ke = _
    rw [show (fun x' => iter T100_2 n R x' ke) = fun x => G100_2 n R x.1 x.2.1 x.2.2.1 (fun y1 y2 => ke.1 (y1, y2, ())) (ke.2.1 ()) from funext fun x' => ih R x' ke]
    rfl
theorem lok100_2 : (le100_2 (G100_2 FUEL)).OK Tryz.prog 0 26 (lcode 2 (codeOf Tryz.f100)) := fun R x ke r h =>
  iter_sound (fun R => e100 (G100_2 FUEL) R) 0 26 (fun _ => rfl) (fun _ => rfl) (fun R => env100 R) mixed (by
    intro R
    rw [show loopsOf (lcode 2 (codeOf Tryz.f100)) = [] from by kernel_rfl]
    exact allM_nil) (T := T100_2) (fun R x kc ke => q100_2 (G100_2 FUEL) R x kc ke) FUEL R x ke r ((it100_2 FUEL R x ke).trans h)
theorem ok100 : (en100 F100).OK Tryz.prog :=
  ent_ok (Ef := fun R => e100 (G100_2 FUEL) R) (fun R => env100 R) mixed Tryz.func100 (body := codeOf Tryz.f100) (by kernel_rfl) (by kernel_rfl) (np := 0) (nt := 26) (fun _ => rfl) (fun _ => rfl) (by kernel_rfl) (res := res100) (by kernel_rfl) (fun _ => rfl) (fun _ => Nat.le_of_ble_eq_true rfl) (by
    intro R
    rw [show loopsOf (codeOf Tryz.f100) = [lcode 2 (codeOf Tryz.f100)] from by kernel_rfl]
    exact (allM_cons (loop_ok2 (e := le100_2 (G100_2 FUEL)) rfl rfl lok100_2) allM_nil)) (fun R x k => q100 (G100_2 FUEL) F100 R x k)
abbrev FT60 : Type 1 := (R : Type) → (List Int) → Tq6 → Int → (Int → Tq6 → Int → Option R) → Option R
def en60 (F : FT60) : Ent := ⟨60, [(false, (.sl (.int .u64))), (false, Kq6), (false, (.int .i64))], [(false, (.int .i64)), (false, Kq6), (false, (.int .i64))], fun R x k => F R x.1 x.2.1 x.2.2.1 (fun y1 y2 y3 => k (y1, y2, y3, ()) ())⟩
def res60 : List (ResultVar × TypeId × Bool) := [(.tmp 6, 3, false), (.cell 7 30, 30, false), (.tmp 8, 32, false)]
noncomputable def e60 (F46 : FT46) (F52 : FT52) (F100 : FT100) (R : Type) : Env R := ⟨TT, EQT, 0, 47, ownOf [], callOf [en46 F46, en52 F52, en100 F100] R, loopOf [] R, [], inlOf []⟩
def p60 (F46 : FT46) (F52 : FT52) (F100 : FT100) : FT60 := fun R a0 a1 a2 k =>
F52 R a0 fun y1 y2 =>
(match (!y2) with
| true => k (0 : Int) a1 (11 : Int)
| false => let v3 : Bool := (y1 == (0 : Int));
(match v3 with
| true => k (0 : Int) a1 (10 : Int)
| false => F46 R a1 y1 a2 fun y4 y5 y6 =>
let v7 : Bool := (y6 != (0 : Int));
(match v7 with
| true => k (0 : Int) y5 y6
| false => F100 R a0 y4 fun y8 y9 =>
k y8 y5 (0 : Int))))
theorem q60 (F46 : FT46) (F52 : FT52) (F100 : FT100) (F : FT60) (R : Type) (x : AT (en60 F).ins) (k : RT (en60 F).outs → PT (en60 F).ins → Option R) :
  xfun (e60 F46 F52 F100 R) (codeOf Tryz.f60) res60 (avs (en60 F).ins x) (finK (en60 F).outs (en60 F).ins k) = p60 F46 F52 F100 R x.1 x.2.1 x.2.2.1 (fun y1 y2 y3 => k (y1, y2, y3, ()) ()) := by kernel_rfl
noncomputable def F60 : FT60 := p60 F46 F52 F100
theorem env60 (R : Type) : EnvOK Tryz.prog (e60 F46 F52 F100 R) := ⟨tabOK, eqOK, callOf_ok (allE_cons ok46 (allE_cons ok52 (allE_cons ok100 allE_nil))), noIns, inlOK_nil⟩
theorem ok60 : (en60 F60).OK Tryz.prog :=
  ent_ok (Ef := fun R => e60 F46 F52 F100 R) (fun R => env60 R) mixed Tryz.func60 (body := codeOf Tryz.f60) (by kernel_rfl) (by kernel_rfl) (np := 0) (nt := 47) (fun _ => rfl) (fun _ => rfl) (by kernel_rfl) (res := res60) (by kernel_rfl) (fun _ => rfl) (fun _ => Nat.le_of_ble_eq_true rfl) (by
    intro R
    rw [show loopsOf (codeOf Tryz.f60) = [] from by kernel_rfl]
    exact allM_nil) (fun R x k => q60 F46 F52 F100 F60 R x k)
end Go.PG
set_option maxRecDepth 100000
namespace Go.PG
open Go.Proofs
abbrev FT32 : Type 1 := (R : Type) → (List Int) → Int → Int → (List Int) → (Int → Int → Option R) → Option R
def en32 (F : FT32) : Ent := ⟨32, [(false, (.arr 32 (.int .u8))), (false, (.int .i64)), (false, (.int .i64)), (false, (.sl (.int .u64)))], [(false, (.int .i64)), (false, (.int .i64))], fun R x k => F R x.1 x.2.1 x.2.2.1 x.2.2.2.1 (fun y1 y2 => k (y1, y2, ()) ())⟩
def res32 : List (ResultVar × TypeId × Bool) := [(.tmp 8, 3, false), (.tmp 9, 32, false)]
noncomputable def e32 (F22 : FT22) (F60 : FT60) (F75 : FT75) (F76 : FT76) (R : Type) : Env R := ⟨TT, EQT, 0, 38, ownOf [], callOf [en22 F22, en60 F60, en75 F75, en76 F76] R, loopOf [] R, [], inlOf []⟩
def p32 (F22 : FT22) (F60 : FT60) (F75 : FT75) (F76 : FT76) : FT32 := fun R a0 a1 a2 a3 k =>
F75 R a1 a2 fun y1 =>
(match (!y1) with
| true => k (0 : Int) (1 : Int)
| false => F22 R a3 fun y2 y3 =>
let v4 : Bool := (y3 != (0 : Int));
(match v4 with
| true => k (0 : Int) y3
| false => F76 R a0 (1 : Int) a1 fun y5 =>
F60 R a3 y5 a2 fun y6 y7 y8 =>
k y6 y8))
theorem q32 (F22 : FT22) (F60 : FT60) (F75 : FT75) (F76 : FT76) (F : FT32) (R : Type) (x : AT (en32 F).ins) (k : RT (en32 F).outs → PT (en32 F).ins → Option R) :
  xfun (e32 F22 F60 F75 F76 R) (codeOf Tryz.f32) res32 (avs (en32 F).ins x) (finK (en32 F).outs (en32 F).ins k) = p32 F22 F60 F75 F76 R x.1 x.2.1 x.2.2.1 x.2.2.2.1 (fun y1 y2 => k (y1, y2, ()) ()) := by kernel_rfl
noncomputable def F32 : FT32 := p32 F22 F60 F75 F76
theorem env32 (R : Type) : EnvOK Tryz.prog (e32 F22 F60 F75 F76 R) := ⟨tabOK, eqOK, callOf_ok (allE_cons ok22 (allE_cons ok60 (allE_cons ok75 (allE_cons ok76 allE_nil)))), noIns, inlOK_nil⟩
theorem ok32 : (en32 F32).OK Tryz.prog :=
  ent_ok (Ef := fun R => e32 F22 F60 F75 F76 R) (fun R => env32 R) mixed Tryz.func32 (body := codeOf Tryz.f32) (by kernel_rfl) (by kernel_rfl) (np := 0) (nt := 38) (fun _ => rfl) (fun _ => rfl) (by kernel_rfl) (res := res32) (by kernel_rfl) (fun _ => rfl) (fun _ => Nat.le_of_ble_eq_true rfl) (by
    intro R
    rw [show loopsOf (codeOf Tryz.f32) = [] from by kernel_rfl]
    exact allM_nil) (fun R x k => q32 F22 F60 F75 F76 F32 R x k)
abbrev FT34 : Type 1 := (R : Type) → (List Int) → Int → Int → (List Int) → (Int → Int → Option R) → Option R
def en34 (F : FT34) : Ent := ⟨34, [(false, (.arr 32 (.int .u8))), (false, (.int .i64)), (false, (.int .i64)), (false, (.sl (.int .u64)))], [(false, (.int .i64)), (false, (.int .i64))], fun R x k => F R x.1 x.2.1 x.2.2.1 x.2.2.2.1 (fun y1 y2 => k (y1, y2, ()) ())⟩
def res34 : List (ResultVar × TypeId × Bool) := [(.tmp 8, 3, false), (.tmp 9, 32, false)]
noncomputable def e34 (F17 : FT17) (F75 : FT75) (F76 : FT76) (R : Type) : Env R := ⟨TT, EQT, 0, 29, ownOf [], callOf [en17 F17, en75 F75, en76 F76] R, loopOf [] R, [], inlOf []⟩
def p34 (F17 : FT17) (F75 : FT75) (F76 : FT76) : FT34 := fun R a0 a1 a2 a3 k =>
F75 R a1 a2 fun y1 =>
(match (!y1) with
| true => k (0 : Int) (1 : Int)
| false => F76 R a0 (2 : Int) a1 fun y2 =>
F17 R a3 y2 a2 fun y3 y4 y5 =>
k y3 y5)
theorem q34 (F17 : FT17) (F75 : FT75) (F76 : FT76) (F : FT34) (R : Type) (x : AT (en34 F).ins) (k : RT (en34 F).outs → PT (en34 F).ins → Option R) :
  xfun (e34 F17 F75 F76 R) (codeOf Tryz.f34) res34 (avs (en34 F).ins x) (finK (en34 F).outs (en34 F).ins k) = p34 F17 F75 F76 R x.1 x.2.1 x.2.2.1 x.2.2.2.1 (fun y1 y2 => k (y1, y2, ()) ()) := by kernel_rfl
noncomputable def F34 : FT34 := p34 F17 F75 F76
theorem env34 (R : Type) : EnvOK Tryz.prog (e34 F17 F75 F76 R) := ⟨tabOK, eqOK, callOf_ok (allE_cons ok17 (allE_cons ok75 (allE_cons ok76 allE_nil))), noIns, inlOK_nil⟩
theorem ok34 : (en34 F34).OK Tryz.prog :=
  ent_ok (Ef := fun R => e34 F17 F75 F76 R) (fun R => env34 R) mixed Tryz.func34 (body := codeOf Tryz.f34) (by kernel_rfl) (by kernel_rfl) (np := 0) (nt := 29) (fun _ => rfl) (fun _ => rfl) (by kernel_rfl) (res := res34) (by kernel_rfl) (fun _ => rfl) (fun _ => Nat.le_of_ble_eq_true rfl) (by
    intro R
    rw [show loopsOf (codeOf Tryz.f34) = [] from by kernel_rfl]
    exact allM_nil) (fun R x k => q34 F17 F75 F76 F34 R x k)
abbrev FT8 : Type 1 := (R : Type) → (List Int) → (List Int) → (List Int) → (Bool → Option R) → Option R
def en8 (F : FT8) : Ent := ⟨8, [(false, (.arr 32 (.int .u8))), (false, (.arr 2 (.int .i64))), (false, (.sl (.int .u64)))], [(false, .bool)], fun R x k => F R x.1 x.2.1 x.2.2.1 (fun y1 => k (y1, ()) ())⟩
def res8 : List (ResultVar × TypeId × Bool) := [(.tmp 6, 4, false)]
noncomputable def e8 (F30 : FT30) (F31 : FT31) (F32 : FT32) (F33 : FT33) (F34 : FT34) (R : Type) : Env R := ⟨TT, EQT, 0, 78, ownOf [], callOf [en30 F30, en31 F31, en32 F32, en33 F33, en34 F34] R, loopOf [] R, [], inlOf []⟩
def p8 (F30 : FT30) (F31 : FT31) (F32 : FT32) (F33 : FT33) (F34 : FT34) : FT8 := fun R a0 a1 a2 k =>
F30 R  fun y1 =>
(match (!y1) with
| true => k false
| false => let v2 : Int := (List.length a2 : Int);
let v3 : Bool := (decide (v2 > (100 : Int)));
(match v3 with
| true => k true
| false => let v4 : Int := (List.getD a1 0 (0 : Int));
let v5 : Int := (List.getD a1 1 (0 : Int));
F31 R a0 v4 v5 a2 fun y6 y7 =>
let v8 : Int := (List.getD a1 0 (0 : Int));
let v9 : Int := (List.getD a1 1 (0 : Int));
F32 R a0 v8 v9 a2 fun y10 y11 =>
let v12 : Int := (List.getD a1 0 (0 : Int));
let v13 : Int := (List.getD a1 1 (0 : Int));
F33 R a0 v12 v13 a2 fun y14 y15 =>
let v16 : Int := (List.getD a1 0 (0 : Int));
let v17 : Int := (List.getD a1 1 (0 : Int));
F34 R a0 v16 v17 a2 fun y18 y19 =>
let v20 : Bool := (y6 == y10);
(match v20 with
| true => let v21 : Bool := (y7 == y11);
(match v21 with
| true => let v22 : Bool := (y14 == y18);
(match v22 with
| true => let v23 : Bool := (y15 == y19);
k v23
| false => k false)
| false => k false)
| false => k false)))
theorem q8 (F30 : FT30) (F31 : FT31) (F32 : FT32) (F33 : FT33) (F34 : FT34) (F : FT8) (R : Type) (x : AT (en8 F).ins) (k : RT (en8 F).outs → PT (en8 F).ins → Option R) :
  xfun (e8 F30 F31 F32 F33 F34 R) (codeOf Tryz.f8) res8 (avs (en8 F).ins x) (finK (en8 F).outs (en8 F).ins k) = p8 F30 F31 F32 F33 F34 R x.1 x.2.1 x.2.2.1 (fun y1 => k (y1, ()) ()) := by kernel_rfl
noncomputable def F8 : FT8 := p8 F30 F31 F32 F33 F34
theorem env8 (R : Type) : EnvOK Tryz.prog (e8 F30 F31 F32 F33 F34 R) := ⟨tabOK, eqOK, callOf_ok (allE_cons ok30 (allE_cons ok31 (allE_cons ok32 (allE_cons ok33 (allE_cons ok34 allE_nil))))), noIns, inlOK_nil⟩
theorem ok8 : (en8 F8).OK Tryz.prog :=
  ent_ok (Ef := fun R => e8 F30 F31 F32 F33 F34 R) (fun R => env8 R) mixed Tryz.func8 (body := codeOf Tryz.f8) (by kernel_rfl) (by kernel_rfl) (np := 0) (nt := 78) (fun _ => rfl) (fun _ => rfl) (by kernel_rfl) (res := res8) (by kernel_rfl) (fun _ => rfl) (fun _ => Nat.le_of_ble_eq_true rfl) (by
    intro R
    rw [show loopsOf (codeOf Tryz.f8) = [] from by kernel_rfl]
    exact allM_nil) (fun R x k => q8 F30 F31 F32 F33 F34 F8 R x k)
abbrev FT36 : Type 1 := (R : Type) → (List Int) → Int → Int → (List Int) → ((List Int) → Int → Option R) → Option R
def en36 (F : FT36) : Ent := ⟨36, [(false, (.arr 32 (.int .u8))), (false, (.int .i64)), (false, (.int .i64)), (false, (.sl (.int .u64)))], [(false, (.sl (.int .i64))), (false, (.int .i64))], fun R x k => F R x.1 x.2.1 x.2.2.1 x.2.2.2.1 (fun y1 y2 => k (y1, y2, ()) ())⟩
def res36 : List (ResultVar × TypeId × Bool) := [(.tmp 8, 42, false), (.tmp 9, 32, false)]
abbrev LT36_8 : Type 1 := (R : Type) → Int → Int → (List Int) → Int → (List Int) → (List Int) → ((List Int) → Option R) → Option R
def le36_8 (L : LT36_8) : LEnt := ⟨8, [.val 1 (.int .i64), .val 2 (.int .i64), .val 3 (.sl (.int .u64)), .fix 4 (.ptr 0 [] (.arr 32 (.int .u8))), .fix 12 (.own 2 0), .val 13 (.int .i64), .var 0 (.arr 32 (.int .u8)) false, .row 2 (.int .i64) false], 3, [(.exit 0, [.fix 12 (.own 2 0), .row 2 (.int .i64) false])], fun R x ke => L R x.1 x.2.1 x.2.2.1 x.2.2.2.1 x.2.2.2.2.1 x.2.2.2.2.2.1 (fun y1 => ke.1 (y1, ()))⟩
noncomputable def e36 (F22 : FT22) (F32 : FT32) (F75 : FT75) (L8 : LT36_8) (R : Type) : Env R := ⟨TT, EQT, 0, 53, ownOf [(6, 0)], callOf [en22 F22, en32 F32, en75 F75] R, loopOf [le36_8 L8] R, [], inlOf []⟩
def p36_8 (F32 : FT32) : (R : Type) → Int → Int → (List Int) → Int → (List Int) → (List Int) → (Int → Int → (List Int) → Int → (List Int) → (List Int) → Option R) → ((List Int) → Option R) → Option R := fun R x1 x2 x3 x4 x5 x6 kc k0 =>
let v7 : Bool := (decide (x4 < x1));
(match v7 with
| true => F32 R x5 x4 x2 x3 fun y8 y9 =>
let v10 : Bool := (y9 != (0 : Int));
(match v10 with
| true => let v11 : (List Int) := ([(-1 : Int)] : (List Int));
(match (decide (List.length x6 + List.length v11 ≤ 17592186044416)) with
| true => let v12 : (List Int) := (x6 ++ v11);
let v13 : Int := (IntKind.i64.wrap (x4 + (1 : Int)));
kc x1 x2 x3 v13 x5 v12
| false => none)
| false => let v14 : (List Int) := ([y8] : (List Int));
(match (decide (List.length x6 + List.length v14 ≤ 17592186044416)) with
| true => let v15 : (List Int) := (x6 ++ v14);
let v16 : Int := (IntKind.i64.wrap (x4 + (1 : Int)));
kc x1 x2 x3 v16 x5 v15
| false => none))
| false => k0 x6)
theorem q36_8 (F22 : FT22) (F32 : FT32) (F75 : FT75) (L8 : LT36_8) (R : Type) (x : HT (le36_8 L8).H) (kc : HT (le36_8 L8).H → Option R) (ke : KT R (le36_8 L8).exs) :
  exec (e36 F22 F32 F75 L8 R) (lcode 8 (codeOf Tryz.f36)) (stOf (le36_8 L8).H x 3) (roundK (le36_8 L8).H (le36_8 L8).exs kc ke) =
    p36_8 F32 R x.1 x.2.1 x.2.2.1 x.2.2.2.1 x.2.2.2.2.1 x.2.2.2.2.2.1 (fun x1 x2 x3 x4 x5 x6 => kc (x1, x2, x3, x4, x5, x6, ())) (fun y1 => ke.1 (y1, ())) := by kernel_rfl
noncomputable def G36_8 : Nat → LT36_8
  | 0 => fun _ _ _ _ _ _ _ _ => none
  | n + 1 => fun R x1 x2 x3 x4 x5 x6 k0 => p36_8 F32 R x1 x2 x3 x4 x5 x6 (fun x1 x2 x3 x4 x5 x6 => G36_8 n R x1 x2 x3 x4 x5 x6 k0) k0
def p36 (F22 : FT22) (F75 : FT75) (L8 : LT36_8) : FT36 := fun R a0 a1 a2 a3 k =>
let v1 : Bool := (decide (a1 < (1 : Int)));
(match v1 with
| true => k ([] : (List Int)) (1 : Int)
| false => let v2 : Int := (IntKind.i64.wrap (a1 - (1 : Int)));
F75 R v2 a2 fun y3 =>
(match (!y3) with
| true => k ([] : (List Int)) (1 : Int)
| false => F22 R a3 fun y4 y5 =>
let v6 : Bool := (y5 != (0 : Int));
(match v6 with
| true => k ([] : (List Int)) y5
| false => L8 R a1 a2 a3 (0 : Int) a0 ([] : (List Int)) (fun x7 =>
k x7 (0 : Int)))))
theorem q36 (F22 : FT22) (F32 : FT32) (F75 : FT75) (L8 : LT36_8) (F : FT36) (R : Type) (x : AT (en36 F).ins) (k : RT (en36 F).outs → PT (en36 F).ins → Option R) :
  xfun (e36 F22 F32 F75 L8 R) (codeOf Tryz.f36) res36 (avs (en36 F).ins x) (finK (en36 F).outs (en36 F).ins k) = p36 F22 F75 L8 R x.1 x.2.1 x.2.2.1 x.2.2.2.1 (fun y1 y2 => k (y1, y2, ()) ()) := by kernel_rfl
noncomputable def F36 : FT36 := p36 F22 F75 (G36_8 FUEL)
theorem env36 (R : Type) : EnvOK Tryz.prog (e36 F22 F32 F75 (G36_8 FUEL) R) := ⟨tabOK, eqOK, callOf_ok (allE_cons ok22 (allE_cons ok32 (allE_cons ok75 allE_nil))), noIns, inlOK_nil⟩
noncomputable def T36_8 : (R : Type) → HT (le36_8 (G36_8 FUEL)).H → (HT (le36_8 (G36_8 FUEL)).H → Option R) → KT R (le36_8 (G36_8 FUEL)).exs → Option R := fun R x kc ke => p36_8 F32 R x.1 x.2.1 x.2.2.1 x.2.2.2.1 x.2.2.2.2.1 x.2.2.2.2.2.1 (fun x1 x2 x3 x4 x5 x6 => kc (x1, x2, x3, x4, x5, x6, ())) (fun y1 => ke.1 (y1, ()))
theorem it36_8 : ∀ (n : Nat) (R : Type) (x : HT (le36_8 (G36_8 FUEL)).H) (ke : KT R (le36_8 (G36_8 FUEL)).exs), iter T36_8 n R x ke = G36_8 n R x.1 x.2.1 x.2.2.1 x.2.2.2.1 x.2.2.2.2.1 x.2.2.2.2.2.1 (fun y1 => ke.1 (y1, ())) := by
  intro n
  induction n with
  | zero => intro R x ke; rfl
  | succ n ih =>
    intro R x ke
    show T36_8 R x (fun x' => iter T36_8 n R x' ke) ke = _
    rw [show (fun x' => iter T36_8 n R x' ke) = fun x => G36_8 n R x.1 x.2.1 x.2.2.1 x.2.2.2.1 x.2.2.2.2.1 x.2.2.2.2.2.1 (fun y1 => ke.1 (y1, ())) from funext fun x' => ih R x' ke]
    rfl
theorem lok36_8 : (le36_8 (G36_8 FUEL)).OK Tryz.prog 0 53 (lcode 8 (codeOf Tryz.f36)) := fun R x ke r h =>
  iter_sound (fun R => e36 F22 F32 F75 (G36_8 FUEL) R) 0 53 (fun _ => rfl) (fun _ => rfl) (fun R => env36 R) mixed (by
    intro R
    rw [show loopsOf (lcode 8 (codeOf Tryz.f36)) = [] from by kernel_rfl]
    exact allM_nil) (T := T36_8) (fun R x kc ke => q36_8 F22 F32 F75 (G36_8 FUEL) R x kc ke) FUEL R x ke r ((it36_8 FUEL R x ke).trans h)
theorem ok36 : (en36 F36).OK Tryz.prog :=
  ent_ok (Ef := fun R => e36 F22 F32 F75 (G36_8 FUEL) R) (fun R => env36 R) mixed Tryz.func36 (body := codeOf Tryz.f36) (by kernel_rfl) (by kernel_rfl) (np := 0) (nt := 53) (fun _ => rfl) (fun _ => rfl) (by kernel_rfl) (res := res36) (by kernel_rfl) (fun _ => rfl) (fun _ => Nat.le_of_ble_eq_true rfl) (by
    intro R
    rw [show loopsOf (codeOf Tryz.f36) = [lcode 8 (codeOf Tryz.f36)] from by kernel_rfl]
    exact (allM_cons (loop_ok2 (e := le36_8 (G36_8 FUEL)) rfl rfl lok36_8) allM_nil)) (fun R x k => q36 F22 F32 F75 (G36_8 FUEL) F36 R x k)
abbrev FT9 : Type 1 := (R : Type) → (List Int) → (List Int) → (List Int) → (Bool → Option R) → Option R
def en9 (F : FT9) : Ent := ⟨9, [(false, (.arr 32 (.int .u8))), (false, (.arr 2 (.int .i64))), (false, (.sl (.int .u64)))], [(false, .bool)], fun R x k => F R x.1 x.2.1 x.2.2.1 (fun y1 => k (y1, ()) ())⟩
def res9 : List (ResultVar × TypeId × Bool) := [(.tmp 6, 4, false)]
noncomputable def e9 (F21 : FT21) (F30 : FT30) (F35 : FT35) (F36 : FT36) (R : Type) : Env R := ⟨TT, EQT, 0, 54, ownOf [], callOf [en21 F21, en30 F30, en35 F35, en36 F36] R, loopOf [] R, [], inlOf []⟩
def p9 (F21 : FT21) (F30 : FT30) (F35 : FT35) (F36 : FT36) : FT9 := fun R a0 a1 a2 k =>
F30 R  fun y1 =>
(match (!y1) with
| true => k false
| false => let v2 : Int := (List.length a2 : Int);
let v3 : Bool := (decide (v2 > (100 : Int)));
(match v3 with
| true => k true
| false => let v4 : Int := (List.getD a1 0 (0 : Int));
let v5 : Bool := (decide (v4 > (40 : Int)));
(match v5 with
| true => let v6 : Int := (List.getD a1 0 (0 : Int));
let v7 : Bool := (decide (v6 ≤ (1024 : Int)));
(match v7 with
| true => k true
| false => let v8 : Int := (List.getD a1 0 (0 : Int));
let v9 : Int := (List.getD a1 1 (0 : Int));
F35 R a0 v8 v9 a2 fun y10 y11 =>
let v12 : Int := (List.getD a1 0 (0 : Int));
let v13 : Int := (List.getD a1 1 (0 : Int));
F36 R a0 v12 v13 a2 fun y14 y15 =>
F21 R y10 y14 fun y16 =>
(match y16 with
| true => let v17 : Bool := (y11 == y15);
k v17
| false => k false))
| false => let v18 : Int := (List.getD a1 0 (0 : Int));
let v19 : Int := (List.getD a1 1 (0 : Int));
F35 R a0 v18 v19 a2 fun y20 y21 =>
let v22 : Int := (List.getD a1 0 (0 : Int));
let v23 : Int := (List.getD a1 1 (0 : Int));
F36 R a0 v22 v23 a2 fun y24 y25 =>
F21 R y20 y24 fun y26 =>
(match y26 with
| true => let v27 : Bool := (y21 == y25);
k v27
| false => k false))))
theorem q9 (F21 : FT21) (F30 : FT30) (F35 : FT35) (F36 : FT36) (F : FT9) (R : Type) (x : AT (en9 F).ins) (k : RT (en9 F).outs → PT (en9 F).ins → Option R) :
  xfun (e9 F21 F30 F35 F36 R) (codeOf Tryz.f9) res9 (avs (en9 F).ins x) (finK (en9 F).outs (en9 F).ins k) = p9 F21 F30 F35 F36 R x.1 x.2.1 x.2.2.1 (fun y1 => k (y1, ()) ()) := by kernel_rfl
noncomputable def F9 : FT9 := p9 F21 F30 F35 F36
theorem env9 (R : Type) : EnvOK Tryz.prog (e9 F21 F30 F35 F36 R) := ⟨tabOK, eqOK, callOf_ok (allE_cons ok21 (allE_cons ok30 (allE_cons ok35 (allE_cons ok36 allE_nil)))), noIns, inlOK_nil⟩
theorem ok9 : (en9 F9).OK Tryz.prog :=
  ent_ok (Ef := fun R => e9 F21 F30 F35 F36 R) (fun R => env9 R) mixed Tryz.func9 (body := codeOf Tryz.f9) (by kernel_rfl) (by kernel_rfl) (np := 0) (nt := 54) (fun _ => rfl) (fun _ => rfl) (by kernel_rfl) (res := res9) (by kernel_rfl) (fun _ => rfl) (fun _ => Nat.le_of_ble_eq_true rfl) (by
    intro R
    rw [show loopsOf (codeOf Tryz.f9) = [] from by kernel_rfl]
    exact allM_nil) (fun R x k => q9 F21 F30 F35 F36 F9 R x k)
abbrev FT59 : Type 1 := (R : Type) → (List Int) → (Int → Option R) → Option R
def en59 (F : FT59) : Ent := ⟨59, [(false, (.sl (.int .u64)))], [(false, (.int .i64))], fun R x k => F R x.1 (fun y1 => k (y1, ()) ())⟩
def res59 : List (ResultVar × TypeId × Bool) := [(.tmp 2, 3, false)]
abbrev LT59_3 : Type 1 := (R : Type) → (List Int) → Int → Int → (Int → Option R) → Option R
def le59_3 (L : LT59_3) : LEnt := ⟨3, [.val 0 (.sl (.int .u64)), .val 3 (.int .i64), .val 4 (.int .i64)], 0, [(.exit 0, [.val 3 (.int .i64)])], fun R x ke => L R x.1 x.2.1 x.2.2.1 (fun y1 => ke.1 (y1, ()))⟩
noncomputable def e59 (L3 : LT59_3) (R : Type) : Env R := ⟨TT, EQT, 0, 19, ownOf [], callOf [] R, loopOf [le59_3 L3] R, [], inlOf []⟩
def p59_3 : (R : Type) → (List Int) → Int → Int → ((List Int) → Int → Int → Option R) → (Int → Option R) → Option R := fun R x1 x2 x3 kc k0 =>
let v4 : Int := (List.length x1 : Int);
let v5 : Bool := (decide (x3 < v4));
(match v5 with
| true => (match (bnd x3 (List.length x1 : Int)) with
| true => let v6 : Int := (List.getD x1 (Int.toNat x3) (0 : Int));
let v7 : Bool := (decide (v6 > (0 : Int)));
(match v7 with
| true => let v8 : Int := (IntKind.i64.wrap (x2 + (1 : Int)));
let v9 : Int := (IntKind.i64.wrap (x3 + (1 : Int)));
kc x1 v8 v9
| false => let v10 : Int := (IntKind.i64.wrap (x3 + (1 : Int)));
kc x1 x2 v10)
| false => none)
| false => k0 x2)
theorem q59_3 (L3 : LT59_3) (R : Type) (x : HT (le59_3 L3).H) (kc : HT (le59_3 L3).H → Option R) (ke : KT R (le59_3 L3).exs) :
  exec (e59 L3 R) (lcode 3 (codeOf Tryz.f59)) (stOf (le59_3 L3).H x 0) (roundK (le59_3 L3).H (le59_3 L3).exs kc ke) =
    p59_3 R x.1 x.2.1 x.2.2.1 (fun x1 x2 x3 => kc (x1, x2, x3, ())) (fun y1 => ke.1 (y1, ())) := by kernel_rfl
noncomputable def G59_3 : Nat → LT59_3
  | 0 => fun _ _ _ _ _ => none
  | n + 1 => fun R x1 x2 x3 k0 => p59_3 R x1 x2 x3 (fun x1 x2 x3 => G59_3 n R x1 x2 x3 k0) k0
def p59 (L3 : LT59_3) : FT59 := fun R a0 k =>
L3 R a0 (0 : Int) (0 : Int) (fun x1 =>
k x1)
theorem q59 (L3 : LT59_3) (F : FT59) (R : Type) (x : AT (en59 F).ins) (k : RT (en59 F).outs → PT (en59 F).ins → Option R) :
  xfun (e59 L3 R) (codeOf Tryz.f59) res59 (avs (en59 F).ins x) (finK (en59 F).outs (en59 F).ins k) = p59 L3 R x.1 (fun y1 => k (y1, ()) ()) := by kernel_rfl
noncomputable def F59 : FT59 := p59 (G59_3 FUEL)
theorem env59 (R : Type) : EnvOK Tryz.prog (e59 (G59_3 FUEL) R) := ⟨tabOK, eqOK, callOf_ok allE_nil, noIns, inlOK_nil⟩
noncomputable def T59_3 : (R : Type) → HT (le59_3 (G59_3 FUEL)).H → (HT (le59_3 (G59_3 FUEL)).H → Option R) → KT R (le59_3 (G59_3 FUEL)).exs → Option R := fun R x kc ke => p59_3 R x.1 x.2.1 x.2.2.1 (fun x1 x2 x3 => kc (x1, x2, x3, ())) (fun y1 => ke.1 (y1, ()))
theorem it59_3 : ∀ (n : Nat) (R : Type) (x : HT (le59_3 (G59_3 FUEL)).H) (ke : KT R (le59_3 (G59_3 FUEL)).exs), iter T59_3 n R x ke = G59_3 n R x.1 x.2.1 x.2.2.1 (fun y1 => ke.1 (y1, ())) := by
  intro n
  induction n with
  | zero => intro R x ke; rfl
  | succ n ih =>
    intro R x ke
    show T59_3 R x (fun x' => iter T59_3 n R x' ke) ke = _
    rw [show (fun x' => iter T59_3 n R x' ke) = fun x => G59_3 n R x.1 x.2.1 x.2.2.1 (fun y1 => ke.1 (y1, ())) from funext fun x' => ih R x' ke]
    rfl
theorem lok59_3 : (le59_3 (G59_3 FUEL)).OK Tryz.prog 0 19 (lcode 3 (codeOf Tryz.f59)) := fun R x ke r h =>
  iter_sound (fun R => e59 (G59_3 FUEL) R) 0 19 (fun _ => rfl) (fun _ => rfl) (fun R => env59 R) mixed (by
    intro R
    rw [show loopsOf (lcode 3 (codeOf Tryz.f59)) = [] from by kernel_rfl]
    exact allM_nil) (T := T59_3) (fun R x kc ke => q59_3 (G59_3 FUEL) R x kc ke) FUEL R x ke r ((it59_3 FUEL R x ke).trans h)
theorem ok59 : (en59 F59).OK Tryz.prog :=
  ent_ok (Ef := fun R => e59 (G59_3 FUEL) R) (fun R => env59 R) mixed Tryz.func59 (body := codeOf Tryz.f59) (by kernel_rfl) (by kernel_rfl) (np := 0) (nt := 19) (fun _ => rfl) (fun _ => rfl) (by kernel_rfl) (res := res59) (by kernel_rfl) (fun _ => rfl) (fun _ => Nat.le_of_ble_eq_true rfl) (by
    intro R
    rw [show loopsOf (codeOf Tryz.f59) = [lcode 3 (codeOf Tryz.f59)] from by kernel_rfl]
    exact (allM_cons (loop_ok2 (e := le59_3 (G59_3 FUEL)) rfl rfl lok59_3) allM_nil)) (fun R x k => q59 (G59_3 FUEL) F59 R x k)
abbrev FT24 : Type 1 := (R : Type) → (List Int) → Int → Tq6 → Int → ((List Int) → Tq6 → Int → Option R) → Option R
def en24 (F : FT24) : Ent := ⟨24, [(false, (.sl (.int .u64))), (false, (.int .i64)), (false, Kq6), (false, (.int .i64))], [(false, (.sl (.int .i64))), (false, Kq6), (false, (.int .i64))], fun R x k => F R x.1 x.2.1 x.2.2.1 x.2.2.2.1 (fun y1 y2 y3 => k (y1, y2, y3, ()) ())⟩
def res24 : List (ResultVar × TypeId × Bool) := [(.tmp 8, 42, false), (.cell 9 30, 30, false), (.tmp 10, 32, false)]
abbrev LT24_7 : Type 1 := (R : Type) → Int → Int → Tq6 → Tq6 → (List Int) → (List Int) → (Int → Tq6 → Option R) → (Tq6 → Tq6 → (List Int) → Option R) → Option R
def le24_7 (L : LT24_7) : LEnt := ⟨7, [.val 1 (.int .i64), .val 3 (.int .i64), .fix 6 (.ptr 0 [] Kq6), .fix 9 (.ptr 1 [] Kq6), .fix 11 (.own 2 0), .fix 12 (.own 3 0), .var 0 Kq6 false, .var 1 Kq6 false, .row 2 (.int .u64) false, .row 3 (.int .i64) false], 4, [(.ret, [.fix 8 .nil, .fix 9 (.ptr 1 [] Kq6), .val 10 (.int .i64), .var 1 Kq6 false]), (.exit 0, [.fix 6 (.ptr 0 [] Kq6), .fix 9 (.ptr 1 [] Kq6), .fix 12 (.own 3 0), .var 0 Kq6 false, .var 1 Kq6 false, .row 3 (.int .i64) false])], fun R x ke => L R x.1 x.2.1 x.2.2.1 x.2.2.2.1 x.2.2.2.2.1 x.2.2.2.2.2.1 (fun y1 y2 => ke.1 (y1, y2, ())) (fun y1 y2 y3 => ke.2.1 (y1, y2, y3, ()))⟩
noncomputable def e60i0 (F46 : FT46) (F52 : FT52) (F100 : FT100) (R : Type) : Env R := ⟨TT, EQT, 0, 47, ownOf [], callOf [en46 F46, en52 F52, en100 F100] R, fun _ _ _ => none, [], inlOf []⟩
theorem env60i0 (R : Type) : EnvOK Tryz.prog (e60i0 F46 F52 F100 R) := ⟨tabOK, eqOK, callOf_ok (allE_cons ok46 (allE_cons ok52 (allE_cons ok100 allE_nil))), noIns, inlOK_nil⟩
noncomputable def e24 (F46 : FT46) (F52 : FT52) (F58 : FT58) (F59 : FT59) (F100 : FT100) (L7 : LT24_7) (R : Type) : Env R := ⟨TT, EQT, 0, 70, ownOf [(5, 0), (6, 0), (8, 3)], callOf [en46 F46, en52 F52, en58 F58, en59 F59, en100 F100] R, loopOf [le24_7 L7] R, [], inlOf [(60, xinl (e60i0 F46 F52 F100 R) (codeOf Tryz.f60) [.tmp 6, .cell 7 30, .tmp 8] 3)]⟩
def p24_7 (F46 : FT46) (F52 : FT52) (F100 : FT100) : (R : Type) → Int → Int → Tq6 → Tq6 → (List Int) → (List Int) → (Int → Int → Tq6 → Tq6 → (List Int) → (List Int) → Option R) → (Int → Tq6 → Option R) → (Tq6 → Tq6 → (List Int) → Option R) → Option R := fun R x1 x2 x3 x4 x5 x6 kc k0 k1 =>
let v7 : Int := (List.length x6 : Int);
let v8 : Bool := (decide (v7 < x1));
(match v8 with
| true => F52 R x5 fun y9 y10 =>
(match (!y10) with
| true => k0 (11 : Int) x3
| false => let v11 : Bool := (y9 == (0 : Int));
(match v11 with
| true => k0 (10 : Int) x3
| false => F46 R x3 y9 x2 fun y12 y13 y14 =>
let v15 : Bool := (y14 != (0 : Int));
(match v15 with
| true => let v16 : Bool := (y14 != (0 : Int));
(match v16 with
| true => k0 y14 y13
| false => (match (bnd (0 : Int) (List.length x5 : Int)) with
| true => let v17 : (List Int) := (List.set x5 0 (0 : Int));
let v18 : (List Int) := ([(0 : Int)] : (List Int));
(match (decide (List.length x6 + List.length v18 ≤ 17592186044416)) with
| true => let v19 : (List Int) := (x6 ++ v18);
kc x1 x2 y13 x4 v17 v19
| false => none)
| false => none))
| false => F100 R x5 y12 fun y20 y21 =>
(match (bnd y20 (List.length x5 : Int)) with
| true => let v22 : (List Int) := (List.set x5 (Int.toNat y20) (0 : Int));
let v23 : (List Int) := ([y20] : (List Int));
(match (decide (List.length x6 + List.length v23 ≤ 17592186044416)) with
| true => let v24 : (List Int) := (x6 ++ v23);
kc x1 x2 y13 x4 v22 v24
| false => none)
| false => none))))
| false => k1 x3 x4 x6)
theorem q24_7 (F46 : FT46) (F52 : FT52) (F58 : FT58) (F59 : FT59) (F100 : FT100) (L7 : LT24_7) (R : Type) (x : HT (le24_7 L7).H) (kc : HT (le24_7 L7).H → Option R) (ke : KT R (le24_7 L7).exs) :
  exec (e24 F46 F52 F58 F59 F100 L7 R) (lcode 7 (codeOf Tryz.f24)) (stOf (le24_7 L7).H x 4) (roundK (le24_7 L7).H (le24_7 L7).exs kc ke) =
    p24_7 F46 F52 F100 R x.1 x.2.1 x.2.2.1 x.2.2.2.1 x.2.2.2.2.1 x.2.2.2.2.2.1 (fun x1 x2 x3 x4 x5 x6 => kc (x1, x2, x3, x4, x5, x6, ())) (fun y1 y2 => ke.1 (y1, y2, ())) (fun y1 y2 y3 => ke.2.1 (y1, y2, y3, ())) := by kernel_rfl
noncomputable def G24_7 : Nat → LT24_7
  | 0 => fun _ _ _ _ _ _ _ _ _ => none
  | n + 1 => fun R x1 x2 x3 x4 x5 x6 k0 k1 => p24_7 F46 F52 F100 R x1 x2 x3 x4 x5 x6 (fun x1 x2 x3 x4 x5 x6 => G24_7 n R x1 x2 x3 x4 x5 x6 k0 k1) k0 k1
def p24 (F58 : FT58) (F59 : FT59) (L7 : LT24_7) : FT24 := fun R a0 a1 a2 a3 k =>
let v1 : Bool := (decide (a1 < (0 : Int)));
(match v1 with
| true => k ([] : (List Int)) a2 (1 : Int)
| false => let v2 : Bool := (decide (a1 > (256 : Int)));
(match v2 with
| true => k ([] : (List Int)) a2 (1 : Int)
| false => F58 R a2 fun y3 =>
(match (!y3) with
| true => k ([] : (List Int)) a2 (1 : Int)
| false => let v4 : Bool := (decide (a3 < (1 : Int)));
(match v4 with
| true => k ([] : (List Int)) a2 (1 : Int)
| false => let v5 : Bool := (decide (a3 > (64 : Int)));
(match v5 with
| true => k ([] : (List Int)) a2 (1 : Int)
| false => F59 R a0 fun y6 =>
let v7 : Bool := (decide (y6 < a1));
(match v7 with
| true => k ([] : (List Int)) a2 (12 : Int)
| false => let v8 : (List Int) := ([] : (List Int));
(match (decide (List.length v8 + List.length a0 ≤ 17592186044416)) with
| true => let v9 : (List Int) := (v8 ++ a0);
L7 R a1 a3 a2 ((0 : Int), ([] : (List Int)), (0 : Int), (List.replicate 32 (0 : Int)), (0 : Int), (0 : Int), ()) v9 ([] : (List Int)) (fun x10 x11 =>
k ([] : (List Int)) x11 x10) (fun x12 x13 x14 =>
k x14 x12 (0 : Int))
| false => none)))))))
theorem q24 (F46 : FT46) (F52 : FT52) (F58 : FT58) (F59 : FT59) (F100 : FT100) (L7 : LT24_7) (F : FT24) (R : Type) (x : AT (en24 F).ins) (k : RT (en24 F).outs → PT (en24 F).ins → Option R) :
  xfun (e24 F46 F52 F58 F59 F100 L7 R) (codeOf Tryz.f24) res24 (avs (en24 F).ins x) (finK (en24 F).outs (en24 F).ins k) = p24 F58 F59 L7 R x.1 x.2.1 x.2.2.1 x.2.2.2.1 (fun y1 y2 y3 => k (y1, y2, y3, ()) ()) := by kernel_rfl
noncomputable def F24 : FT24 := p24 F58 F59 (G24_7 FUEL)
theorem env24 (R : Type) : EnvOK Tryz.prog (e24 F46 F52 F58 F59 F100 (G24_7 FUEL) R) := ⟨tabOK, eqOK, callOf_ok (allE_cons ok46 (allE_cons ok52 (allE_cons ok58 (allE_cons ok59 (allE_cons ok100 allE_nil))))), noIns, (inlOK_cons (xinl_sound (env60i0 R) mixed Tryz.func60 (body := codeOf Tryz.f60) (by kernel_rfl) (by kernel_rfl) (by kernel_rfl) (res := [.tmp 6, .cell 7 30, .tmp 8]) (by kernel_rfl) (n := 3) (Nat.le_of_ble_eq_true rfl) (by kernel_rfl)) inlOK_nil)⟩
noncomputable def T24_7 : (R : Type) → HT (le24_7 (G24_7 FUEL)).H → (HT (le24_7 (G24_7 FUEL)).H → Option R) → KT R (le24_7 (G24_7 FUEL)).exs → Option R := fun R x kc ke => p24_7 F46 F52 F100 R x.1 x.2.1 x.2.2.1 x.2.2.2.1 x.2.2.2.2.1 x.2.2.2.2.2.1 (fun x1 x2 x3 x4 x5 x6 => kc (x1, x2, x3, x4, x5, x6, ())) (fun y1 y2 => ke.1 (y1, y2, ())) (fun y1 y2 y3 => ke.2.1 (y1, y2, y3, ()))
theorem it24_7 : ∀ (n : Nat) (R : Type) (x : HT (le24_7 (G24_7 FUEL)).H) (ke : KT R (le24_7 (G24_7 FUEL)).exs), iter T24_7 n R x ke = G24_7 n R x.1 x.2.1 x.2.2.1 x.2.2.2.1 x.2.2.2.2.1 x.2.2.2.2.2.1 (fun y1 y2 => ke.1 (y1, y2, ())) (fun y1 y2 y3 => ke.2.1 (y1, y2, y3, ())) := by
  intro n
  induction n with
  | zero => intro R x ke; rfl
  | succ n ih =>
    intro R x ke
    show T24_7 R x (fun x' => iter T24_7 n R x' ke) ke = _
    rw [show (fun x' => iter T24_7 n R x' ke) = fun x => G24_7 n R x.1 x.2.1 x.2.2.1 x.2.2.2.1 x.2.2.2.2.1 x.2.2.2.2.2.1 (fun y1 y2 => ke.1 (y1, y2, ())) (fun y1 y2 y3 => ke.2.1 (y1, y2, y3, ())) from funext fun x' => ih R x' ke]
    rfl
theorem lok24_7 : (le24_7 (G24_7 FUEL)).OK Tryz.prog 0 70 (lcode 7 (codeOf Tryz.f24)) := fun R x ke r h =>
  iter_sound (fun R => e24 F46 F52 F58 F59 F100 (G24_7 FUEL) R) 0 70 (fun _ => rfl) (fun _ => rfl) (fun R => env24 R) mixed (by
    intro R
    rw [show loopsOf (lcode 7 (codeOf Tryz.f24)) = [] from by kernel_rfl]
    exact allM_nil) (T := T24_7) (fun R x kc ke => q24_7 F46 F52 F58 F59 F100 (G24_7 FUEL) R x kc ke) FUEL R x ke r ((it24_7 FUEL R x ke).trans h)
theorem ok24 : (en24 F24).OK Tryz.prog :=
  ent_ok (Ef := fun R => e24 F46 F52 F58 F59 F100 (G24_7 FUEL) R) (fun R => env24 R) mixed Tryz.func24 (body := codeOf Tryz.f24) (by kernel_rfl) (by kernel_rfl) (np := 0) (nt := 70) (fun _ => rfl) (fun _ => rfl) (by kernel_rfl) (res := res24) (by kernel_rfl) (fun _ => rfl) (fun _ => Nat.le_of_ble_eq_true rfl) (by
    intro R
    rw [show loopsOf (codeOf Tryz.f24) = [lcode 7 (codeOf Tryz.f24)] from by kernel_rfl]
    exact (allM_cons (loop_ok2 (e := le24_7 (G24_7 FUEL)) rfl rfl lok24_7) allM_nil)) (fun R x k => q24 F46 F52 F58 F59 F100 (G24_7 FUEL) F24 R x k)
abbrev FT38 : Type 1 := (R : Type) → (List Int) → Int → Int → Int → (List Int) → ((List Int) → Int → Option R) → Option R
def en38 (F : FT38) : Ent := ⟨38, [(false, (.arr 32 (.int .u8))), (false, (.int .i64)), (false, (.int .i64)), (false, (.int .i64)), (false, (.sl (.int .u64)))], [(false, (.sl (.int .i64))), (false, (.int .i64))], fun R x k => F R x.1 x.2.1 x.2.2.1 x.2.2.2.1 x.2.2.2.2.1 (fun y1 y2 => k (y1, y2, ()) ())⟩
def res38 : List (ResultVar × TypeId × Bool) := [(.tmp 10, 42, false), (.tmp 11, 32, false)]
noncomputable def e38 (F22 : FT22) (F24 : FT24) (F75 : FT75) (F76 : FT76) (R : Type) : Env R := ⟨TT, EQT, 0, 41, ownOf [], callOf [en22 F22, en24 F24, en75 F75, en76 F76] R, loopOf [] R, [], inlOf []⟩
def p38 (F22 : FT22) (F24 : FT24) (F75 : FT75) (F76 : FT76) : FT38 := fun R a0 a1 a2 a3 a4 k =>
F75 R a1 a3 fun y1 =>
(match (!y1) with
| true => k ([] : (List Int)) (1 : Int)
| false => F22 R a4 fun y2 y3 =>
let v4 : Bool := (y3 != (0 : Int));
(match v4 with
| true => k ([] : (List Int)) y3
| false => F76 R a0 (3 : Int) a1 fun y5 =>
F24 R a4 a2 y5 a3 fun y6 y7 y8 =>
k y6 y8))
theorem q38 (F22 : FT22) (F24 : FT24) (F75 : FT75) (F76 : FT76) (F : FT38) (R : Type) (x : AT (en38 F).ins) (k : RT (en38 F).outs → PT (en38 F).ins → Option R) :
  xfun (e38 F22 F24 F75 F76 R) (codeOf Tryz.f38) res38 (avs (en38 F).ins x) (finK (en38 F).outs (en38 F).ins k) = p38 F22 F24 F75 F76 R x.1 x.2.1 x.2.2.1 x.2.2.2.1 x.2.2.2.2.1 (fun y1 y2 => k (y1, y2, ()) ()) := by kernel_rfl
noncomputable def F38 : FT38 := p38 F22 F24 F75 F76
theorem env38 (R : Type) : EnvOK Tryz.prog (e38 F22 F24 F75 F76 R) := ⟨tabOK, eqOK, callOf_ok (allE_cons ok22 (allE_cons ok24 (allE_cons ok75 (allE_cons ok76 allE_nil)))), noIns, inlOK_nil⟩
theorem ok38 : (en38 F38).OK Tryz.prog :=
  ent_ok (Ef := fun R => e38 F22 F24 F75 F76 R) (fun R => env38 R) mixed Tryz.func38 (body := codeOf Tryz.f38) (by kernel_rfl) (by kernel_rfl) (np := 0) (nt := 41) (fun _ => rfl) (fun _ => rfl) (by kernel_rfl) (res := res38) (by kernel_rfl) (fun _ => rfl) (fun _ => Nat.le_of_ble_eq_true rfl) (by
    intro R
    rw [show loopsOf (codeOf Tryz.f38) = [] from by kernel_rfl]
    exact allM_nil) (fun R x k => q38 F22 F24 F75 F76 F38 R x k)
abbrev FT10 : Type 1 := (R : Type) → (List Int) → (List Int) → (List Int) → (Bool → Option R) → Option R
def en10 (F : FT10) : Ent := ⟨10, [(false, (.arr 32 (.int .u8))), (false, (.arr 3 (.int .i64))), (false, (.sl (.int .u64)))], [(false, .bool)], fun R x k => F R x.1 x.2.1 x.2.2.1 (fun y1 => k (y1, ()) ())⟩
def res10 : List (ResultVar × TypeId × Bool) := [(.tmp 6, 4, false)]
noncomputable def e10 (F21 : FT21) (F30 : FT30) (F37 : FT37) (F38 : FT38) (R : Type) : Env R := ⟨TT, EQT, 0, 48, ownOf [], callOf [en21 F21, en30 F30, en37 F37, en38 F38] R, loopOf [] R, [], inlOf []⟩
def p10 (F21 : FT21) (F30 : FT30) (F37 : FT37) (F38 : FT38) : FT10 := fun R a0 a1 a2 k =>
F30 R  fun y1 =>
(match (!y1) with
| true => k false
| false => let v2 : Int := (List.length a2 : Int);
let v3 : Bool := (decide (v2 > (60 : Int)));
(match v3 with
| true => k true
| false => let v4 : Int := (List.getD a1 0 (0 : Int));
let v5 : Int := (List.getD a1 1 (0 : Int));
let v6 : Int := (List.getD a1 2 (0 : Int));
F37 R a0 v4 v5 v6 a2 fun y7 y8 =>
let v9 : Int := (List.getD a1 0 (0 : Int));
let v10 : Int := (List.getD a1 1 (0 : Int));
let v11 : Int := (List.getD a1 2 (0 : Int));
F38 R a0 v9 v10 v11 a2 fun y12 y13 =>
F21 R y7 y12 fun y14 =>
(match y14 with
| true => let v15 : Bool := (y8 == y13);
k v15
| false => k false)))
theorem q10 (F21 : FT21) (F30 : FT30) (F37 : FT37) (F38 : FT38) (F : FT10) (R : Type) (x : AT (en10 F).ins) (k : RT (en10 F).outs → PT (en10 F).ins → Option R) :
  xfun (e10 F21 F30 F37 F38 R) (codeOf Tryz.f10) res10 (avs (en10 F).ins x) (finK (en10 F).outs (en10 F).ins k) = p10 F21 F30 F37 F38 R x.1 x.2.1 x.2.2.1 (fun y1 => k (y1, ()) ()) := by kernel_rfl
noncomputable def F10 : FT10 := p10 F21 F30 F37 F38
theorem env10 (R : Type) : EnvOK Tryz.prog (e10 F21 F30 F37 F38 R) := ⟨tabOK, eqOK, callOf_ok (allE_cons ok21 (allE_cons ok30 (allE_cons ok37 (allE_cons ok38 allE_nil)))), noIns, inlOK_nil⟩
theorem ok10 : (en10 F10).OK Tryz.prog :=
  ent_ok (Ef := fun R => e10 F21 F30 F37 F38 R) (fun R => env10 R) mixed Tryz.func10 (body := codeOf Tryz.f10) (by kernel_rfl) (by kernel_rfl) (np := 0) (nt := 48) (fun _ => rfl) (fun _ => rfl) (by kernel_rfl) (res := res10) (by kernel_rfl) (fun _ => rfl) (fun _ => Nat.le_of_ble_eq_true rfl) (by
    intro R
    rw [show loopsOf (codeOf Tryz.f10) = [] from by kernel_rfl]
    exact allM_nil) (fun R x k => q10 F21 F30 F37 F38 F10 R x k)
end Go.PG
namespace Go.PG
end Go.PG
namespace Go.PG
def U32 (x : Int) : Prop := 0 ≤ x ∧ x < 4294967296
def U8 (x : Int) : Prop := 0 ≤ x ∧ x < 256
theorem ofInt_toNat32 {x : Int} (h : U32 x) : (BitVec.ofInt 32 x).toNat = x.toNat := by
  rw [BitVec.toNat_ofInt]
  unfold U32 at h
  have : x % ((2 ^ 32 : Nat) : Int) = x := by omega
  rw [this]
theorem wrap_bv32 (b : BitVec 32) : IntKind.u32.wrap ((b.toNat : Nat) : Int) = (b.toNat : Int) := by
  have := b.isLt
  exact wrap_u32 (by omega) (by omega)
theorem iand_u32 (a b : Int) : iand .u32 a b = ((BitVec.ofInt 32 a &&& BitVec.ofInt 32 b).toNat : Int) := wrap_bv32 _
theorem ior_u32 (a b : Int) : ior .u32 a b = ((BitVec.ofInt 32 a ||| BitVec.ofInt 32 b).toNat : Int) := wrap_bv32 _
theorem ixor_u32 (a b : Int) : ixor .u32 a b = ((BitVec.ofInt 32 a ^^^ BitVec.ofInt 32 b).toNat : Int) := wrap_bv32 _
theorem wrap_lt32 (a : Int) : U32 (IntKind.u32.wrap a) := by rw [wrap_u32_mod]; unfold U32; omega
theorem ofInt_natCast32 (b : BitVec 32) : BitVec.ofInt 32 ((b.toNat : Nat) : Int) = b := by
  rw [BitVec.ofInt_natCast, BitVec.ofNat_toNat, BitVec.setWidth_eq]
theorem choice_eq {a : Int} (b c : Int) (ha : U32 a) : ixor .u32 (iand .u32 a b) (iand .u32 (ixor .u32 4294967295 a) c) = ior .u32 (iand .u32 a b) (iand .u32 (IntKind.u32.wrap (4294967295 - a)) c) := by
  have h1 : IntKind.u32.wrap (4294967295 - a) = ixor .u32 4294967295 a := by
    rw [ixor_u32, wrap_u32 (by unfold U32 at ha; omega) (by unfold U32 at ha; omega)]
    have e : BitVec.ofInt 32 4294967295 = BitVec.allOnes 32 := by decide
    rw [e, BitVec.allOnes_xor, BitVec.toNat_not, ofInt_toNat32 ha]
    unfold U32 at ha
    omega
  rw [h1]
  simp only [iand_u32, ior_u32, ixor_u32, ofInt_natCast32]
  congr 2
  have e : BitVec.ofInt 32 4294967295 = BitVec.allOnes 32 := by decide
  rw [e]
  ext i hi
  simp only [BitVec.getElem_xor, BitVec.getElem_and, BitVec.getElem_or, BitVec.getElem_allOnes]
  cases (BitVec.ofInt 32 a)[i] <;> simp
theorem majority_eq (a b c : Int) : ixor .u32 (ixor .u32 (iand .u32 a b) (iand .u32 a c)) (iand .u32 b c) = ior .u32 (ior .u32 (iand .u32 a b) (iand .u32 a c)) (iand .u32 b c) := by
  simp only [iand_u32, ior_u32, ixor_u32, ofInt_natCast32]
  congr 2
  ext i hi
  simp
  cases (BitVec.ofInt 32 a)[i] <;> cases (BitVec.ofInt 32 b)[i] <;> cases (BitVec.ofInt 32 c)[i] <;> rfl
def rotS (x : Int) (r : Nat) : Int := x / 2 ^ r + (x % 2 ^ r) * 2 ^ (32 - r)
theorem rotS_step {x : Int} {r : Nat} (hx : U32 x) (hr : r < 32) : rotS x (r + 1) = rotS x r / 2 + (rotS x r % 2) * 2147483648 := by
  unfold rotS U32 at *
  have e1 : (2 : Int) ^ (32 - r) = 2 * 2 ^ (31 - r) := by
    rw [show 32 - r = (31 - r) + 1 by omega, Int.pow_succ]; omega
  have e2 : (2 : Int) ^ (32 - (r + 1)) = 2 ^ (31 - r) := by rw [show 32 - (r + 1) = 31 - r by omega]
  have e3 : (2 : Int) ^ (r + 1) = 2 ^ r * 2 := Int.pow_succ _ _
  have e4 : (2 : Int) ^ r * 2 ^ (31 - r) = 2147483648 := by
    rw [← Int.pow_add, show r + (31 - r) = 31 by omega]; decide
  rw [e1, e2, e3]
  have hp : (0 : Int) < 2 ^ r := Int.pow_pos (by decide)
  generalize (2 : Int) ^ r = p at *
  generalize (2 : Int) ^ (31 - r) = s at *
  have d1 : x / (p * 2) = x / p / 2 := (Int.ediv_ediv_of_nonneg (by omega)).symm
  have d2 : x % (p * 2) = x % p + p * (x / p % 2) := by
    have a1 := Int.emod_add_mul_ediv x p
    have a2 := Int.emod_add_mul_ediv x (p * 2)
    have a3 := Int.emod_add_mul_ediv (x / p) 2
    rw [d1] at a2
    generalize x / p = q at *
    generalize x % p = m at *
    generalize q / 2 = h at *
    generalize q % 2 = t at *
    have : p * (t + 2 * h) = p * q := by rw [a3]
    rw [Int.mul_add, ← Int.mul_assoc] at this
    omega
  rw [d1, d2, Int.add_mul]
  have e5 : p * (x / p % 2) * s = (x / p % 2) * 2147483648 := by
    rw [Int.mul_comm p, Int.mul_assoc, e4]
  rw [e5]
  have e6 : x % p * (2 * s) = 2 * (x % p * s) := by rw [Int.mul_left_comm]
  rw [e6]
  generalize x % p * s = u
  omega
theorem rotS_zero (x : Int) : rotS x 0 = x := by simp [rotS]
theorem rotS_lt {x : Int} (hx : U32 x) : ∀ {r : Nat}, r ≤ 32 → U32 (rotS x r)
  | 0, _ => by rw [rotS_zero]; exact hx
  | r + 1, h => by
    have ih := rotS_lt hx (r := r) (by omega)
    rw [rotS_step hx (by omega)]
    unfold U32 at *
    omega
theorem two_pow_pos (r : Nat) : (0 : Int) < 2 ^ r := Int.pow_pos (by decide)
theorem rot_or {x : Int} (hx : U32 x) {r : Nat} (h0 : 0 < r) (hr : r < 32) : ior .u32 (ishr .u32 x r) (ishl .u32 x ((32 : Int) - r)) = rotS x r := by
  unfold U32 at hx
  obtain ⟨n, rfl⟩ : ∃ n : Nat, x = n := ⟨x.toNat, by omega⟩
  have hn : n < 2 ^ 32 := by omega
  have e1 : ishr .u32 (n : Int) r = ((n / 2 ^ r : Nat) : Int) := by
    unfold ishr
    rw [show IntKind.u32.bits = 32 from rfl, show ((r : Int).toNat) = r by simp, Nat.min_eq_left (by omega), Int.fdiv_eq_ediv_of_nonneg _ (by have := two_pow_pos r; omega)]
    simp
  have e2 : ishl .u32 (n : Int) ((32 : Int) - r) = ((n * 2 ^ (32 - r) % 2 ^ 32 : Nat) : Int) := by
    unfold ishl
    rw [show IntKind.u32.bits = 32 from rfl, show ((32 : Int) - r).toNat = 32 - r by omega, Nat.min_eq_left (by omega), wrap_u32_mod]
    simp
  rw [e1, e2, ior_u32, BitVec.ofInt_natCast, BitVec.ofInt_natCast, BitVec.toNat_or, BitVec.toNat_ofNat, BitVec.toNat_ofNat]
  have hd : n / 2 ^ r < 2 ^ (32 - r) := by
    rw [Nat.div_lt_iff_lt_mul (Nat.two_pow_pos r), ← Nat.pow_add, show 32 - r + r = 32 by omega]; exact hn
  have h3 : n * 2 ^ (32 - r) % 2 ^ 32 = (n % 2 ^ r) * 2 ^ (32 - r) := by
    have : 2 ^ 32 = 2 ^ r * 2 ^ (32 - r) := by rw [← Nat.pow_add, show r + (32 - r) = 32 by omega]
    rw [this, Nat.mul_mod_mul_right]
  have h4 : n / 2 ^ r < 2 ^ 32 := Nat.lt_of_le_of_lt (Nat.div_le_self _ _) hn
  rw [h3, Nat.mod_eq_of_lt h4, Nat.mod_eq_of_lt (by
    have : n % 2 ^ r < 2 ^ r := Nat.mod_lt _ (Nat.two_pow_pos r)
    have h5 : 2 ^ 32 = 2 ^ r * 2 ^ (32 - r) := by rw [← Nat.pow_add, show r + (32 - r) = 32 by omega]
    rw [h5]; exact Nat.mul_lt_mul_of_pos_right this (Nat.two_pow_pos _)), Nat.or_comm]
  have h6 := Nat.shiftLeft_add_eq_or_of_lt hd (n % 2 ^ r)
  rw [Nat.shiftLeft_eq] at h6
  rw [← h6]
  unfold rotS
  simp
  omega
end Go.PG
