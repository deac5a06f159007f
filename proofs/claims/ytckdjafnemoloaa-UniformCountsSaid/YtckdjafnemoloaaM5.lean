/- A part of the proofs over this seat (own work; the framework that reads a Go function as a pure one, or a use of it). No condition of its own. -/
import Derived.Test.YtckdjafnemoloaaM3
import Derived.Test.YtckdjafnemoloaaM4
import Derived.Test.YtckdjafnemoloaaProg
import Derived.KernelRfl
set_option linter.unusedVariables false
set_option linter.unusedSimpArgs false
set_option maxRecDepth 100000
namespace Go.PG
open Go.Proofs
/-! drawlot/window.among -/
abbrev FT69 : Type 1 := (R : Type) → Int → Int → Int → (Bool → Option R) → Option R
def en69 (F : FT69) : Ent := ⟨69, [(false, (.int .i64)), (false, (.int .i64)), (false, (.int .i64))], [(false, .bool)], fun R x k => F R x.1 x.2.1 x.2.2.1 (fun y1 => k (y1, ()) ())⟩
def res69 : List (ResultVar × TypeId × Bool) := [(.tmp 6, 4, false)]
def e69 (R : Type) : Env R := ⟨TT, EQT, 0, 15, ownOf [], callOf [] R, loopOf [] R⟩
def p69 : FT69 := fun R a0 a1 a2 k =>
let v1 : Bool := (decide (a0 ≥ a1));
(match v1 with
| true => let v2 : Bool := (decide (a0 ≤ a2));
k v2
| false => k false)
theorem q69 (F : FT69) (R : Type) (x : AT (en69 F).ins) (k : RT (en69 F).outs → PT (en69 F).ins → Option R) :
  xfun (e69 R) (codeOf Try.f69) res69 (avs (en69 F).ins x) (finK (en69 F).outs (en69 F).ins k) = p69 R x.1 x.2.1 x.2.2.1 (fun y1 => k (y1, ()) ()) := by kernel_rfl
noncomputable def F69 : FT69 := p69
theorem env69 (R : Type) : EnvOK Try.prog (e69 R) := ⟨tabOK, eqOK, callOf_ok allE_nil⟩
theorem ok69 : (en69 F69).OK Try.prog :=
  ent_ok (Ef := fun R => e69 R) (fun R => env69 R) mixed Try.func69 (body := codeOf Try.f69) (by kernel_rfl) (by kernel_rfl) (np := 0) (nt := 15) (fun _ => rfl) (fun _ => rfl) (by kernel_rfl) (res := res69) (by kernel_rfl) (fun _ => rfl) (fun _ => Nat.le_of_ble_eq_true rfl) (by
    intro R
    rw [show loopsOf (codeOf Try.f69) = [] from by kernel_rfl]
    exact allM_nil) (fun R x k => q69 F69 R x k)
/-! drawlot/window.Right -/
abbrev FT24 : Type 1 := (R : Type) → (Int × (Int × (Int × (Int × (Int × Unit))))) → (Bool → Option R) → Option R
def en24 (F : FT24) : Ent := ⟨24, [(false, (.pair (.int .i64) (.pair (.int .i64) (.pair (.int .i64) (.pair (.int .i64) (.pair (.int .i64) .unit))))))], [(false, .bool)], fun R x k => F R x.1 (fun y1 => k (y1, ()) ())⟩
def res24 : List (ResultVar × TypeId × Bool) := [(.tmp 2, 4, false)]
def e24 (F69 : FT69) (R : Type) : Env R := ⟨TT, EQT, 0, 33, ownOf [], callOf [en69 F69] R, loopOf [] R⟩
def p24 (F69 : FT69) : FT24 := fun R a0 k =>
F69 R a0.1 (1 : Int) (1024 : Int) fun y1 =>
(match y1 with
| true => F69 R a0.2.1 (0 : Int) a0.1 fun y2 =>
(match y2 with
| true => let v3 : Int := (IntKind.i64.wrap (a0.1 - a0.2.1));
F69 R a0.2.2.1 (0 : Int) v3 fun y4 =>
(match y4 with
| true => F69 R a0.2.2.2.1 (1 : Int) (64 : Int) fun y5 =>
(match y5 with
| true => F69 R a0.2.2.2.2.1 (1 : Int) (1048576 : Int) fun y6 =>
k y6
| false => k false)
| false => k false)
| false => k false)
| false => k false)
theorem q24 (F69 : FT69) (F : FT24) (R : Type) (x : AT (en24 F).ins) (k : RT (en24 F).outs → PT (en24 F).ins → Option R) :
  xfun (e24 F69 R) (codeOf Try.f24) res24 (avs (en24 F).ins x) (finK (en24 F).outs (en24 F).ins k) = p24 F69 R x.1 (fun y1 => k (y1, ()) ()) := by kernel_rfl
noncomputable def F24 : FT24 := p24 F69
theorem env24 (R : Type) : EnvOK Try.prog (e24 F69 R) := ⟨tabOK, eqOK, callOf_ok (allE_cons ok69 allE_nil)⟩
theorem ok24 : (en24 F24).OK Try.prog :=
  ent_ok (Ef := fun R => e24 F69 R) (fun R => env24 R) mixed Try.func24 (body := codeOf Try.f24) (by kernel_rfl) (by kernel_rfl) (np := 0) (nt := 33) (fun _ => rfl) (fun _ => rfl) (by kernel_rfl) (res := res24) (by kernel_rfl) (fun _ => rfl) (fun _ => Nat.le_of_ble_eq_true rfl) (by
    intro R
    rw [show loopsOf (codeOf Try.f24) = [] from by kernel_rfl]
    exact allM_nil) (fun R x k => q24 F69 F24 R x k)
/-! drawlot/window.there -/
abbrev FT68 : Type 1 := (R : Type) → (Int × (Int × (Int × (Int × (Int × Unit))))) → Int → (Bool → Option R) → Option R
def en68 (F : FT68) : Ent := ⟨68, [(false, (.pair (.int .i64) (.pair (.int .i64) (.pair (.int .i64) (.pair (.int .i64) (.pair (.int .i64) .unit)))))), (false, (.int .i64))], [(false, .bool)], fun R x k => F R x.1 x.2.1 (fun y1 => k (y1, ()) ())⟩
def res68 : List (ResultVar × TypeId × Bool) := [(.tmp 4, 4, false)]
def e68 (F24 : FT24) (R : Type) : Env R := ⟨TT, EQT, 0, 17, ownOf [], callOf [en24 F24] R, loopOf [] R⟩
def p68 (F24 : FT24) : FT68 := fun R a0 a1 k =>
F24 R a0 fun y1 =>
(match y1 with
| true => let v2 : Bool := (decide (a1 ≥ (0 : Int)));
(match v2 with
| true => let v3 : Bool := (decide (a1 < a0.1));
k v3
| false => k false)
| false => k false)
theorem q68 (F24 : FT24) (F : FT68) (R : Type) (x : AT (en68 F).ins) (k : RT (en68 F).outs → PT (en68 F).ins → Option R) :
  xfun (e68 F24 R) (codeOf Try.f68) res68 (avs (en68 F).ins x) (finK (en68 F).outs (en68 F).ins k) = p68 F24 R x.1 x.2.1 (fun y1 => k (y1, ()) ()) := by kernel_rfl
noncomputable def F68 : FT68 := p68 F24
theorem env68 (R : Type) : EnvOK Try.prog (e68 F24 R) := ⟨tabOK, eqOK, callOf_ok (allE_cons ok24 allE_nil)⟩
theorem ok68 : (en68 F68).OK Try.prog :=
  ent_ok (Ef := fun R => e68 F24 R) (fun R => env68 R) mixed Try.func68 (body := codeOf Try.f68) (by kernel_rfl) (by kernel_rfl) (np := 0) (nt := 17) (fun _ => rfl) (fun _ => rfl) (by kernel_rfl) (res := res68) (by kernel_rfl) (fun _ => rfl) (fun _ => Nat.le_of_ble_eq_true rfl) (by
    intro R
    rw [show loopsOf (codeOf Try.f68) = [] from by kernel_rfl]
    exact allM_nil) (fun R x k => q68 F24 F68 R x k)
/-! drawlot/window.Next -/
abbrev FT22 : Type 1 := (R : Type) → (Int × (Int × (Int × (Int × (Int × Unit))))) → Int → (Int → Bool → Option R) → Option R
def en22 (F : FT22) : Ent := ⟨22, [(false, (.pair (.int .i64) (.pair (.int .i64) (.pair (.int .i64) (.pair (.int .i64) (.pair (.int .i64) .unit)))))), (false, (.int .i64))], [(false, (.int .i64)), (false, .bool)], fun R x k => F R x.1 x.2.1 (fun y1 y2 => k (y1, y2, ()) ())⟩
def res22 : List (ResultVar × TypeId × Bool) := [(.tmp 4, 3, false), (.tmp 5, 4, false)]
def e22 (F68 : FT68) (R : Type) : Env R := ⟨TT, EQT, 0, 19, ownOf [], callOf [en68 F68] R, loopOf [] R⟩
def p22 (F68 : FT68) : FT22 := fun R a0 a1 k =>
F68 R a0 a1 fun y1 =>
(match (!y1) with
| true => k (0 : Int) false
| false => let v2 : Int := (IntKind.i64.wrap (a1 + (1 : Int)));
(match (!(a0.1 == 0)) with
| true => let v3 : Int := (Int.tmod v2 a0.1);
let v4 : Bool := (v3 == (0 : Int));
k v3 v4
| false => none))
theorem q22 (F68 : FT68) (F : FT22) (R : Type) (x : AT (en22 F).ins) (k : RT (en22 F).outs → PT (en22 F).ins → Option R) :
  xfun (e22 F68 R) (codeOf Try.f22) res22 (avs (en22 F).ins x) (finK (en22 F).outs (en22 F).ins k) = p22 F68 R x.1 x.2.1 (fun y1 y2 => k (y1, y2, ()) ()) := by kernel_rfl
noncomputable def F22 : FT22 := p22 F68
theorem env22 (R : Type) : EnvOK Try.prog (e22 F68 R) := ⟨tabOK, eqOK, callOf_ok (allE_cons ok68 allE_nil)⟩
theorem ok22 : (en22 F22).OK Try.prog :=
  ent_ok (Ef := fun R => e22 F68 R) (fun R => env22 R) mixed Try.func22 (body := codeOf Try.f22) (by kernel_rfl) (by kernel_rfl) (np := 0) (nt := 19) (fun _ => rfl) (fun _ => rfl) (by kernel_rfl) (res := res22) (by kernel_rfl) (fun _ => rfl) (fun _ => Nat.le_of_ble_eq_true rfl) (by
    intro R
    rw [show loopsOf (codeOf Try.f22) = [] from by kernel_rfl]
    exact allM_nil) (fun R x k => q22 F68 F22 R x k)
/-! drawlot/window.Phase -/
abbrev FT26 : Type 1 := (R : Type) → (Int × (Int × (Int × (Int × (Int × Unit))))) → Int → (Int → Option R) → Option R
def en26 (F : FT26) : Ent := ⟨26, [(false, (.pair (.int .i64) (.pair (.int .i64) (.pair (.int .i64) (.pair (.int .i64) (.pair (.int .i64) .unit)))))), (false, (.int .i64))], [(false, (.int .i64))], fun R x k => F R x.1 x.2.1 (fun y1 => k (y1, ()) ())⟩
def res26 : List (ResultVar × TypeId × Bool) := [(.tmp 4, 3, false)]
def e26 (F68 : FT68) (R : Type) : Env R := ⟨TT, EQT, 0, 23, ownOf [], callOf [en68 F68] R, loopOf [] R⟩
def p26 (F68 : FT68) : FT26 := fun R a0 a1 k =>
F68 R a0 a1 fun y1 =>
(match (!y1) with
| true => k (0 : Int)
| false => let v2 : Bool := (decide (a1 < a0.2.1));
(match v2 with
| true => k (1 : Int)
| false => let v3 : Int := (IntKind.i64.wrap (a0.2.1 + a0.2.2.1));
let v4 : Bool := (decide (a1 < v3));
(match v4 with
| true => k (2 : Int)
| false => k (3 : Int))))
theorem q26 (F68 : FT68) (F : FT26) (R : Type) (x : AT (en26 F).ins) (k : RT (en26 F).outs → PT (en26 F).ins → Option R) :
  xfun (e26 F68 R) (codeOf Try.f26) res26 (avs (en26 F).ins x) (finK (en26 F).outs (en26 F).ins k) = p26 F68 R x.1 x.2.1 (fun y1 => k (y1, ()) ()) := by kernel_rfl
noncomputable def F26 : FT26 := p26 F68
theorem env26 (R : Type) : EnvOK Try.prog (e26 F68 R) := ⟨tabOK, eqOK, callOf_ok (allE_cons ok68 allE_nil)⟩
theorem ok26 : (en26 F26).OK Try.prog :=
  ent_ok (Ef := fun R => e26 F68 R) (fun R => env26 R) mixed Try.func26 (body := codeOf Try.f26) (by kernel_rfl) (by kernel_rfl) (np := 0) (nt := 23) (fun _ => rfl) (fun _ => rfl) (by kernel_rfl) (res := res26) (by kernel_rfl) (fun _ => rfl) (fun _ => Nat.le_of_ble_eq_true rfl) (by
    intro R
    rw [show loopsOf (codeOf Try.f26) = [] from by kernel_rfl]
    exact allM_nil) (fun R x k => q26 F68 F26 R x k)
/-! drawlot/window.Count -/
abbrev FT28 : Type 1 := (R : Type) → (Int × (Int × (Int × (Int × (Int × Unit))))) → Int → (Int → Option R) → Option R
def en28 (F : FT28) : Ent := ⟨28, [(false, (.pair (.int .i64) (.pair (.int .i64) (.pair (.int .i64) (.pair (.int .i64) (.pair (.int .i64) .unit)))))), (false, (.int .i64))], [(false, (.int .i64))], fun R x k => F R x.1 x.2.1 (fun y1 => k (y1, ()) ())⟩
def res28 : List (ResultVar × TypeId × Bool) := [(.tmp 4, 3, false)]
def e28 (F24 : FT24) (R : Type) : Env R := ⟨TT, EQT, 0, 27, ownOf [], callOf [en24 F24] R, loopOf [] R⟩
def p28 (F24 : FT24) : FT28 := fun R a0 a1 k =>
F24 R a0 fun y1 =>
(match (!y1) with
| true => k (0 : Int)
| false => let v2 : Bool := (a1 == (1 : Int));
(match v2 with
| true => k a0.2.1
| false => let v3 : Bool := (a1 == (2 : Int));
(match v3 with
| true => k a0.2.2.1
| false => let v4 : Bool := (a1 == (3 : Int));
(match v4 with
| true => let v5 : Int := (IntKind.i64.wrap (a0.1 - a0.2.1));
let v6 : Int := (IntKind.i64.wrap (v5 - a0.2.2.1));
k v6
| false => k (0 : Int)))))
theorem q28 (F24 : FT24) (F : FT28) (R : Type) (x : AT (en28 F).ins) (k : RT (en28 F).outs → PT (en28 F).ins → Option R) :
  xfun (e28 F24 R) (codeOf Try.f28) res28 (avs (en28 F).ins x) (finK (en28 F).outs (en28 F).ins k) = p28 F24 R x.1 x.2.1 (fun y1 => k (y1, ()) ()) := by kernel_rfl
noncomputable def F28 : FT28 := p28 F24
theorem env28 (R : Type) : EnvOK Try.prog (e28 F24 R) := ⟨tabOK, eqOK, callOf_ok (allE_cons ok24 allE_nil)⟩
theorem ok28 : (en28 F28).OK Try.prog :=
  ent_ok (Ef := fun R => e28 F24 R) (fun R => env28 R) mixed Try.func28 (body := codeOf Try.f28) (by kernel_rfl) (by kernel_rfl) (np := 0) (nt := 27) (fun _ => rfl) (fun _ => rfl) (by kernel_rfl) (res := res28) (by kernel_rfl) (fun _ => rfl) (fun _ => Nat.le_of_ble_eq_true rfl) (by
    intro R
    rw [show loopsOf (codeOf Try.f28) = [] from by kernel_rfl]
    exact allM_nil) (fun R x k => q28 F24 F28 R x k)
/-! drawlot/drawlotlaw19.alive -/
abbrev FT21 : Type 1 := (R : Type) → (Bool → Option R) → Option R
def en21 (F : FT21) : Ent := ⟨21, [], [(false, .bool)], fun R x k => F R  (fun y1 => k (y1, ()) ())⟩
def res21 : List (ResultVar × TypeId × Bool) := [(.tmp 0, 4, false)]
def e21 (F22 : FT22) (F24 : FT24) (F26 : FT26) (F28 : FT28) (R : Type) : Env R := ⟨TT, EQT, 0, 69, ownOf [], callOf [en22 F22, en24 F24, en26 F26, en28 F28] R, loopOf [] R⟩
def p21 (F22 : FT22) (F24 : FT24) (F26 : FT26) (F28 : FT28) : FT21 := fun R k =>
F22 R ((4 : Int), (2 : Int), (1 : Int), (1 : Int), (1 : Int), ()) (3 : Int) fun y1 y2 =>
F22 R ((4 : Int), (2 : Int), (1 : Int), (1 : Int), (1 : Int), ()) (1 : Int) fun y3 y4 =>
F24 R ((4 : Int), (2 : Int), (1 : Int), (1 : Int), (1 : Int), ()) fun y5 =>
(match y5 with
| true => F24 R ((0 : Int), (0 : Int), (0 : Int), (0 : Int), (0 : Int), ()) fun y6 =>
(match (!y6) with
| true => F26 R ((4 : Int), (2 : Int), (1 : Int), (1 : Int), (1 : Int), ()) (1 : Int) fun y7 =>
let v8 : Bool := (y7 == (1 : Int));
(match v8 with
| true => F26 R ((4 : Int), (2 : Int), (1 : Int), (1 : Int), (1 : Int), ()) (2 : Int) fun y9 =>
let v10 : Bool := (y9 == (2 : Int));
(match v10 with
| true => F26 R ((4 : Int), (2 : Int), (1 : Int), (1 : Int), (1 : Int), ()) (3 : Int) fun y11 =>
let v12 : Bool := (y11 == (3 : Int));
(match v12 with
| true => F26 R ((4 : Int), (2 : Int), (1 : Int), (1 : Int), (1 : Int), ()) (4 : Int) fun y13 =>
let v14 : Bool := (y13 == (0 : Int));
(match v14 with
| true => let v15 : Bool := (y1 == (0 : Int));
(match v15 with
| true => (match y2 with
| true => let v16 : Bool := (y3 == (2 : Int));
(match v16 with
| true => (match (!y4) with
| true => F28 R ((4 : Int), (2 : Int), (1 : Int), (1 : Int), (1 : Int), ()) (1 : Int) fun y17 =>
let v18 : Bool := (y17 == (2 : Int));
(match v18 with
| true => F28 R ((4 : Int), (2 : Int), (1 : Int), (1 : Int), (1 : Int), ()) (3 : Int) fun y19 =>
let v20 : Bool := (y19 == (1 : Int));
k v20
| false => k false)
| false => k false)
| false => k false)
| false => k false)
| false => k false)
| false => k false)
| false => k false)
| false => k false)
| false => k false)
| false => k false)
| false => k false)
theorem q21 (F22 : FT22) (F24 : FT24) (F26 : FT26) (F28 : FT28) (F : FT21) (R : Type) (x : AT (en21 F).ins) (k : RT (en21 F).outs → PT (en21 F).ins → Option R) :
  xfun (e21 F22 F24 F26 F28 R) (codeOf Try.f21) res21 (avs (en21 F).ins x) (finK (en21 F).outs (en21 F).ins k) = p21 F22 F24 F26 F28 R  (fun y1 => k (y1, ()) ()) := by kernel_rfl
noncomputable def F21 : FT21 := p21 F22 F24 F26 F28
theorem env21 (R : Type) : EnvOK Try.prog (e21 F22 F24 F26 F28 R) := ⟨tabOK, eqOK, callOf_ok (allE_cons ok22 (allE_cons ok24 (allE_cons ok26 (allE_cons ok28 allE_nil))))⟩
theorem ok21 : (en21 F21).OK Try.prog :=
  ent_ok (Ef := fun R => e21 F22 F24 F26 F28 R) (fun R => env21 R) mixed Try.func21 (body := codeOf Try.f21) (by kernel_rfl) (by kernel_rfl) (np := 0) (nt := 69) (fun _ => rfl) (fun _ => rfl) (by kernel_rfl) (res := res21) (by kernel_rfl) (fun _ => rfl) (fun _ => Nat.le_of_ble_eq_true rfl) (by
    intro R
    rw [show loopsOf (codeOf Try.f21) = [] from by kernel_rfl]
    exact allM_nil) (fun R x k => q21 F22 F24 F26 F28 F21 R x k)
/-! drawlot/drawlotref19.Right -/
abbrev FT25 : Type 1 := (R : Type) → (Int × (Int × (Int × (Int × (Int × Unit))))) → (Bool → Option R) → Option R
def en25 (F : FT25) : Ent := ⟨25, [(false, (.pair (.int .i64) (.pair (.int .i64) (.pair (.int .i64) (.pair (.int .i64) (.pair (.int .i64) .unit))))))], [(false, .bool)], fun R x k => F R x.1 (fun y1 => k (y1, ()) ())⟩
def res25 : List (ResultVar × TypeId × Bool) := [(.tmp 2, 4, false)]
def e25 (R : Type) : Env R := ⟨TT, EQT, 0, 58, ownOf [], callOf [] R, loopOf [] R⟩
def p25 : FT25 := fun R a0 k =>
let v1 : Bool := (decide (a0.1 ≥ (1 : Int)));
(match v1 with
| true => let v2 : Bool := (decide (a0.1 ≤ (1024 : Int)));
(match v2 with
| true => let v3 : Bool := (decide (a0.2.1 ≥ (0 : Int)));
(match v3 with
| true => let v4 : Bool := (decide (a0.2.1 ≤ a0.1));
(match v4 with
| true => let v5 : Bool := (decide (a0.2.2.1 ≥ (0 : Int)));
(match v5 with
| true => let v6 : Int := (IntKind.i64.wrap (a0.1 - a0.2.1));
let v7 : Bool := (decide (a0.2.2.1 ≤ v6));
(match v7 with
| true => let v8 : Bool := (decide (a0.2.2.2.1 ≥ (1 : Int)));
(match v8 with
| true => let v9 : Bool := (decide (a0.2.2.2.1 ≤ (64 : Int)));
(match v9 with
| true => let v10 : Bool := (decide (a0.2.2.2.2.1 ≥ (1 : Int)));
(match v10 with
| true => let v11 : Bool := (decide (a0.2.2.2.2.1 ≤ (1048576 : Int)));
k v11
| false => k false)
| false => k false)
| false => k false)
| false => k false)
| false => k false)
| false => k false)
| false => k false)
| false => k false)
| false => k false)
theorem q25 (F : FT25) (R : Type) (x : AT (en25 F).ins) (k : RT (en25 F).outs → PT (en25 F).ins → Option R) :
  xfun (e25 R) (codeOf Try.f25) res25 (avs (en25 F).ins x) (finK (en25 F).outs (en25 F).ins k) = p25 R x.1 (fun y1 => k (y1, ()) ()) := by kernel_rfl
noncomputable def F25 : FT25 := p25
theorem env25 (R : Type) : EnvOK Try.prog (e25 R) := ⟨tabOK, eqOK, callOf_ok allE_nil⟩
theorem ok25 : (en25 F25).OK Try.prog :=
  ent_ok (Ef := fun R => e25 R) (fun R => env25 R) mixed Try.func25 (body := codeOf Try.f25) (by kernel_rfl) (by kernel_rfl) (np := 0) (nt := 58) (fun _ => rfl) (fun _ => rfl) (by kernel_rfl) (res := res25) (by kernel_rfl) (fun _ => rfl) (fun _ => Nat.le_of_ble_eq_true rfl) (by
    intro R
    rw [show loopsOf (codeOf Try.f25) = [] from by kernel_rfl]
    exact allM_nil) (fun R x k => q25 F25 R x k)
/-! drawlot/drawlotref19.Phase -/
abbrev FT27 : Type 1 := (R : Type) → (Int × (Int × (Int × (Int × (Int × Unit))))) → Int → (Int → Option R) → Option R
def en27 (F : FT27) : Ent := ⟨27, [(false, (.pair (.int .i64) (.pair (.int .i64) (.pair (.int .i64) (.pair (.int .i64) (.pair (.int .i64) .unit)))))), (false, (.int .i64))], [(false, (.int .i64))], fun R x k => F R x.1 x.2.1 (fun y1 => k (y1, ()) ())⟩
def res27 : List (ResultVar × TypeId × Bool) := [(.tmp 4, 3, false)]
def e27 (F25 : FT25) (R : Type) : Env R := ⟨TT, EQT, 0, 32, ownOf [], callOf [en25 F25] R, loopOf [] R⟩
def p27 (F25 : FT25) : FT27 := fun R a0 a1 k =>
F25 R a0 fun y1 =>
(match (!y1) with
| true => k (0 : Int)
| false => let v2 : Bool := (decide (a1 < (0 : Int)));
(match v2 with
| true => k (0 : Int)
| false => let v3 : Bool := (decide (a1 ≥ a0.1));
(match v3 with
| true => k (0 : Int)
| false => let v4 : Bool := (decide (a1 < a0.2.1));
(match v4 with
| true => k (1 : Int)
| false => let v5 : Int := (IntKind.i64.wrap (a0.2.1 + a0.2.2.1));
let v6 : Bool := (decide (a1 < v5));
(match v6 with
| true => k (2 : Int)
| false => k (3 : Int))))))
theorem q27 (F25 : FT25) (F : FT27) (R : Type) (x : AT (en27 F).ins) (k : RT (en27 F).outs → PT (en27 F).ins → Option R) :
  xfun (e27 F25 R) (codeOf Try.f27) res27 (avs (en27 F).ins x) (finK (en27 F).outs (en27 F).ins k) = p27 F25 R x.1 x.2.1 (fun y1 => k (y1, ()) ()) := by kernel_rfl
noncomputable def F27 : FT27 := p27 F25
theorem env27 (R : Type) : EnvOK Try.prog (e27 F25 R) := ⟨tabOK, eqOK, callOf_ok (allE_cons ok25 allE_nil)⟩
theorem ok27 : (en27 F27).OK Try.prog :=
  ent_ok (Ef := fun R => e27 F25 R) (fun R => env27 R) mixed Try.func27 (body := codeOf Try.f27) (by kernel_rfl) (by kernel_rfl) (np := 0) (nt := 32) (fun _ => rfl) (fun _ => rfl) (by kernel_rfl) (res := res27) (by kernel_rfl) (fun _ => rfl) (fun _ => Nat.le_of_ble_eq_true rfl) (by
    intro R
    rw [show loopsOf (codeOf Try.f27) = [] from by kernel_rfl]
    exact allM_nil) (fun R x k => q27 F25 F27 R x k)
/-! drawlot/drawlotref19.Next -/
abbrev FT23 : Type 1 := (R : Type) → (Int × (Int × (Int × (Int × (Int × Unit))))) → Int → (Int → Bool → Option R) → Option R
def en23 (F : FT23) : Ent := ⟨23, [(false, (.pair (.int .i64) (.pair (.int .i64) (.pair (.int .i64) (.pair (.int .i64) (.pair (.int .i64) .unit)))))), (false, (.int .i64))], [(false, (.int .i64)), (false, .bool)], fun R x k => F R x.1 x.2.1 (fun y1 y2 => k (y1, y2, ()) ())⟩
def res23 : List (ResultVar × TypeId × Bool) := [(.tmp 4, 3, false), (.tmp 5, 4, false)]
def e23 (F27 : FT27) (R : Type) : Env R := ⟨TT, EQT, 0, 17, ownOf [], callOf [en27 F27] R, loopOf [] R⟩
def p23 (F27 : FT27) : FT23 := fun R a0 a1 k =>
F27 R a0 a1 fun y1 =>
let v2 : Bool := (y1 == (0 : Int));
(match v2 with
| true => k (0 : Int) false
| false => let v3 : Int := (IntKind.i64.wrap (a0.1 - (1 : Int)));
let v4 : Bool := (a1 == v3);
(match v4 with
| true => k (0 : Int) true
| false => let v5 : Int := (IntKind.i64.wrap (a1 + (1 : Int)));
k v5 false))
theorem q23 (F27 : FT27) (F : FT23) (R : Type) (x : AT (en23 F).ins) (k : RT (en23 F).outs → PT (en23 F).ins → Option R) :
  xfun (e23 F27 R) (codeOf Try.f23) res23 (avs (en23 F).ins x) (finK (en23 F).outs (en23 F).ins k) = p23 F27 R x.1 x.2.1 (fun y1 y2 => k (y1, y2, ()) ()) := by kernel_rfl
noncomputable def F23 : FT23 := p23 F27
theorem env23 (R : Type) : EnvOK Try.prog (e23 F27 R) := ⟨tabOK, eqOK, callOf_ok (allE_cons ok27 allE_nil)⟩
theorem ok23 : (en23 F23).OK Try.prog :=
  ent_ok (Ef := fun R => e23 F27 R) (fun R => env23 R) mixed Try.func23 (body := codeOf Try.f23) (by kernel_rfl) (by kernel_rfl) (np := 0) (nt := 17) (fun _ => rfl) (fun _ => rfl) (by kernel_rfl) (res := res23) (by kernel_rfl) (fun _ => rfl) (fun _ => Nat.le_of_ble_eq_true rfl) (by
    intro R
    rw [show loopsOf (codeOf Try.f23) = [] from by kernel_rfl]
    exact allM_nil) (fun R x k => q23 F27 F23 R x k)
/-! drawlot/drawlotref19.Count -/
abbrev FT29 : Type 1 := (R : Type) → (Int × (Int × (Int × (Int × (Int × Unit))))) → Int → (Int → Option R) → Option R
def en29 (F : FT29) : Ent := ⟨29, [(false, (.pair (.int .i64) (.pair (.int .i64) (.pair (.int .i64) (.pair (.int .i64) (.pair (.int .i64) .unit)))))), (false, (.int .i64))], [(false, (.int .i64))], fun R x k => F R x.1 x.2.1 (fun y1 => k (y1, ()) ())⟩
def res29 : List (ResultVar × TypeId × Bool) := [(.tmp 4, 3, false)]
abbrev LT29_5 : Type 1 := (R : Type) → Int → Int → Int → (Int × (Int × (Int × (Int × (Int × Unit))))) → (Int → Option R) → Option R
def le29_5 (L : LT29_5) : LEnt := ⟨5, [.val 1 (.int .i64), .fix 2 (.ptr 0 [] (.pair (.int .i64) (.pair (.int .i64) (.pair (.int .i64) (.pair (.int .i64) (.pair (.int .i64) .unit)))))), .val 5 (.int .i64), .val 6 (.int .i64), .var 0 (.pair (.int .i64) (.pair (.int .i64) (.pair (.int .i64) (.pair (.int .i64) (.pair (.int .i64) .unit))))) false], 1, [(.exit 0, [.val 5 (.int .i64)])], fun R x ke => L R x.1 x.2.1 x.2.2.1 x.2.2.2.1 (fun y1 => ke.1 (y1, ()))⟩
def e29 (F25 : FT25) (F27 : FT27) (L5 : LT29_5) (R : Type) : Env R := ⟨TT, EQT, 0, 24, ownOf [], callOf [en25 F25, en27 F27] R, loopOf [le29_5 L5] R⟩
def p29_5 (F27 : FT27) : (R : Type) → Int → Int → Int → (Int × (Int × (Int × (Int × (Int × Unit))))) → (Int → Int → Int → (Int × (Int × (Int × (Int × (Int × Unit))))) → Option R) → (Int → Option R) → Option R := fun R x1 x2 x3 x4 kc k0 =>
let v5 : Bool := (decide (x3 < x4.1));
(match v5 with
| true => F27 R x4 x3 fun y6 =>
let v7 : Bool := (y6 == x1);
(match v7 with
| true => let v8 : Int := (IntKind.i64.wrap (x2 + (1 : Int)));
let v9 : Int := (IntKind.i64.wrap (x3 + (1 : Int)));
kc x1 v8 v9 x4
| false => let v10 : Int := (IntKind.i64.wrap (x3 + (1 : Int)));
kc x1 x2 v10 x4)
| false => k0 x2)
theorem q29_5 (F25 : FT25) (F27 : FT27) (L5 : LT29_5) (R : Type) (x : HT (le29_5 L5).H) (kc : HT (le29_5 L5).H → Option R) (ke : KT R (le29_5 L5).exs) :
  exec (e29 F25 F27 L5 R) (lcode 5 (codeOf Try.f29)) (stOf (le29_5 L5).H x 1) (roundK (le29_5 L5).H (le29_5 L5).exs kc ke) =
    p29_5 F27 R x.1 x.2.1 x.2.2.1 x.2.2.2.1 (fun x1 x2 x3 x4 => kc (x1, x2, x3, x4, ())) (fun y1 => ke.1 (y1, ())) := by kernel_rfl
noncomputable def G29_5 : Nat → LT29_5
  | 0 => fun _ _ _ _ _ _ => none
  | n + 1 => fun R x1 x2 x3 x4 k0 => p29_5 F27 R x1 x2 x3 x4 (fun x1 x2 x3 x4 => G29_5 n R x1 x2 x3 x4 k0) k0
def p29 (F25 : FT25) (L5 : LT29_5) : FT29 := fun R a0 a1 k =>
F25 R a0 fun y1 =>
(match (!y1) with
| true => k (0 : Int)
| false => L5 R a1 (0 : Int) (0 : Int) a0 (fun x2 =>
k x2))
theorem q29 (F25 : FT25) (F27 : FT27) (L5 : LT29_5) (F : FT29) (R : Type) (x : AT (en29 F).ins) (k : RT (en29 F).outs → PT (en29 F).ins → Option R) :
  xfun (e29 F25 F27 L5 R) (codeOf Try.f29) res29 (avs (en29 F).ins x) (finK (en29 F).outs (en29 F).ins k) = p29 F25 L5 R x.1 x.2.1 (fun y1 => k (y1, ()) ()) := by kernel_rfl
noncomputable def F29 : FT29 := p29 F25 (G29_5 FUEL)
theorem env29 (R : Type) : EnvOK Try.prog (e29 F25 F27 (G29_5 FUEL) R) := ⟨tabOK, eqOK, callOf_ok (allE_cons ok25 (allE_cons ok27 allE_nil))⟩
noncomputable def T29_5 : (R : Type) → HT (le29_5 (G29_5 FUEL)).H → (HT (le29_5 (G29_5 FUEL)).H → Option R) → KT R (le29_5 (G29_5 FUEL)).exs → Option R := fun R x kc ke => p29_5 F27 R x.1 x.2.1 x.2.2.1 x.2.2.2.1 (fun x1 x2 x3 x4 => kc (x1, x2, x3, x4, ())) (fun y1 => ke.1 (y1, ()))
theorem it29_5 : ∀ (n : Nat) (R : Type) (x : HT (le29_5 (G29_5 FUEL)).H) (ke : KT R (le29_5 (G29_5 FUEL)).exs), iter T29_5 n R x ke = G29_5 n R x.1 x.2.1 x.2.2.1 x.2.2.2.1 (fun y1 => ke.1 (y1, ())) := by
  intro n
  induction n with
  | zero => intro R x ke; rfl
  | succ n ih =>
    intro R x ke
    show T29_5 R x (fun x' => iter T29_5 n R x' ke) ke = _
    rw [show (fun x' => iter T29_5 n R x' ke) = fun x => G29_5 n R x.1 x.2.1 x.2.2.1 x.2.2.2.1 (fun y1 => ke.1 (y1, ())) from funext fun x' => ih R x' ke]
    rfl
theorem lok29_5 : (le29_5 (G29_5 FUEL)).OK Try.prog 0 24 (lcode 5 (codeOf Try.f29)) := fun R x ke r h =>
  iter_sound (fun R => e29 F25 F27 (G29_5 FUEL) R) 0 24 (fun _ => rfl) (fun _ => rfl) (fun R => env29 R) mixed (by
    intro R
    rw [show loopsOf (lcode 5 (codeOf Try.f29)) = [] from by kernel_rfl]
    exact allM_nil) (T := T29_5) (fun R x kc ke => q29_5 F25 F27 (G29_5 FUEL) R x kc ke) FUEL R x ke r ((it29_5 FUEL R x ke).trans h)
theorem ok29 : (en29 F29).OK Try.prog :=
  ent_ok (Ef := fun R => e29 F25 F27 (G29_5 FUEL) R) (fun R => env29 R) mixed Try.func29 (body := codeOf Try.f29) (by kernel_rfl) (by kernel_rfl) (np := 0) (nt := 24) (fun _ => rfl) (fun _ => rfl) (by kernel_rfl) (res := res29) (by kernel_rfl) (fun _ => rfl) (fun _ => Nat.le_of_ble_eq_true rfl) (by
    intro R
    rw [show loopsOf (codeOf Try.f29) = [lcode 5 (codeOf Try.f29)] from by kernel_rfl]
    exact (allM_cons (loop_ok2 (e := le29_5 (G29_5 FUEL)) rfl rfl lok29_5) allM_nil)) (fun R x k => q29 F25 F27 (G29_5 FUEL) F29 R x k)
/-! drawlot/drawlotlaw19.WindowTells -/
abbrev FT3 : Type 1 := (R : Type) → (Int × (Int × (Int × (Int × (Int × Unit))))) → Int → Int → (Bool → Option R) → Option R
def en3 (F : FT3) : Ent := ⟨3, [(false, (.pair (.int .i64) (.pair (.int .i64) (.pair (.int .i64) (.pair (.int .i64) (.pair (.int .i64) .unit)))))), (false, (.int .i64)), (false, (.int .i64))], [(false, .bool)], fun R x k => F R x.1 x.2.1 x.2.2.1 (fun y1 => k (y1, ()) ())⟩
def res3 : List (ResultVar × TypeId × Bool) := [(.tmp 6, 4, false)]
def e3 (F21 : FT21) (F22 : FT22) (F23 : FT23) (F24 : FT24) (F25 : FT25) (F26 : FT26) (F27 : FT27) (F28 : FT28) (F29 : FT29) (R : Type) : Env R := ⟨TT, EQT, 0, 58, ownOf [], callOf [en21 F21, en22 F22, en23 F23, en24 F24, en25 F25, en26 F26, en27 F27, en28 F28, en29 F29] R, loopOf [] R⟩
def p3 (F21 : FT21) (F22 : FT22) (F23 : FT23) (F24 : FT24) (F25 : FT25) (F26 : FT26) (F27 : FT27) (F28 : FT28) (F29 : FT29) : FT3 := fun R a0 a1 a2 k =>
F21 R  fun y1 =>
(match (!y1) with
| true => k false
| false => F22 R a0 a1 fun y2 y3 =>
F23 R a0 a1 fun y4 y5 =>
F24 R a0 fun y6 =>
F25 R a0 fun y7 =>
let v8 : Bool := (y6 == y7);
(match v8 with
| true => F26 R a0 a1 fun y9 =>
F27 R a0 a1 fun y10 =>
let v11 : Bool := (y9 == y10);
(match v11 with
| true => let v12 : Bool := (y2 == y4);
(match v12 with
| true => let v13 : Bool := (y3 == y5);
(match v13 with
| true => F28 R a0 a2 fun y14 =>
F29 R a0 a2 fun y15 =>
let v16 : Bool := (y14 == y15);
k v16
| false => k false)
| false => k false)
| false => k false)
| false => k false))
theorem q3 (F21 : FT21) (F22 : FT22) (F23 : FT23) (F24 : FT24) (F25 : FT25) (F26 : FT26) (F27 : FT27) (F28 : FT28) (F29 : FT29) (F : FT3) (R : Type) (x : AT (en3 F).ins) (k : RT (en3 F).outs → PT (en3 F).ins → Option R) :
  xfun (e3 F21 F22 F23 F24 F25 F26 F27 F28 F29 R) (codeOf Try.f3) res3 (avs (en3 F).ins x) (finK (en3 F).outs (en3 F).ins k) = p3 F21 F22 F23 F24 F25 F26 F27 F28 F29 R x.1 x.2.1 x.2.2.1 (fun y1 => k (y1, ()) ()) := by kernel_rfl
noncomputable def F3 : FT3 := p3 F21 F22 F23 F24 F25 F26 F27 F28 F29
theorem env3 (R : Type) : EnvOK Try.prog (e3 F21 F22 F23 F24 F25 F26 F27 F28 F29 R) := ⟨tabOK, eqOK, callOf_ok (allE_cons ok21 (allE_cons ok22 (allE_cons ok23 (allE_cons ok24 (allE_cons ok25 (allE_cons ok26 (allE_cons ok27 (allE_cons ok28 (allE_cons ok29 allE_nil)))))))))⟩
theorem ok3 : (en3 F3).OK Try.prog :=
  ent_ok (Ef := fun R => e3 F21 F22 F23 F24 F25 F26 F27 F28 F29 R) (fun R => env3 R) mixed Try.func3 (body := codeOf Try.f3) (by kernel_rfl) (by kernel_rfl) (np := 0) (nt := 58) (fun _ => rfl) (fun _ => rfl) (by kernel_rfl) (res := res3) (by kernel_rfl) (fun _ => rfl) (fun _ => Nat.le_of_ble_eq_true rfl) (by
    intro R
    rw [show loopsOf (codeOf Try.f3) = [] from by kernel_rfl]
    exact allM_nil) (fun R x k => q3 F21 F22 F23 F24 F25 F26 F27 F28 F29 F3 R x k)
/-! drawlot/drawlotlaw19.WindowGoes -/
abbrev FT4 : Type 1 := (R : Type) → (Int × (Int × (Int × (Int × (Int × Unit))))) → (Bool → Option R) → Option R
def en4 (F : FT4) : Ent := ⟨4, [(false, (.pair (.int .i64) (.pair (.int .i64) (.pair (.int .i64) (.pair (.int .i64) (.pair (.int .i64) .unit))))))], [(false, .bool)], fun R x k => F R x.1 (fun y1 => k (y1, ()) ())⟩
def res4 : List (ResultVar × TypeId × Bool) := [(.tmp 2, 4, false)]
abbrev LT4_9 : Type 1 := (R : Type) → Int → Int → Int → (Int × (Int × (Int × (Int × (Int × Unit))))) → (List Int) → (Bool → Option R) → (Int → (Int × (Int × (Int × (Int × (Int × Unit))))) → (List Int) → Option R) → Option R
def le4_9 (L : LT4_9) : LEnt := ⟨9, [.fix 1 (.ptr 0 [] (.pair (.int .i64) (.pair (.int .i64) (.pair (.int .i64) (.pair (.int .i64) (.pair (.int .i64) .unit)))))), .val 5 (.int .i64), .val 6 (.int .i64), .fix 7 (.ptr 1 [] (.arr 4 (.int .i64))), .val 8 (.int .i64), .var 0 (.pair (.int .i64) (.pair (.int .i64) (.pair (.int .i64) (.pair (.int .i64) (.pair (.int .i64) .unit))))) false, .var 1 (.arr 4 (.int .i64)) false], 2, [(.ret, [.val 2 .bool]), (.exit 0, [.fix 1 (.ptr 0 [] (.pair (.int .i64) (.pair (.int .i64) (.pair (.int .i64) (.pair (.int .i64) (.pair (.int .i64) .unit)))))), .val 5 (.int .i64), .fix 7 (.ptr 1 [] (.arr 4 (.int .i64))), .var 0 (.pair (.int .i64) (.pair (.int .i64) (.pair (.int .i64) (.pair (.int .i64) (.pair (.int .i64) .unit))))) false, .var 1 (.arr 4 (.int .i64)) false])], fun R x ke => L R x.1 x.2.1 x.2.2.1 x.2.2.2.1 x.2.2.2.2.1 (fun y1 => ke.1 (y1, ())) (fun y1 y2 y3 => ke.2.1 (y1, y2, y3, ()))⟩
def e4 (F21 : FT21) (F22 : FT22) (F24 : FT24) (F25 : FT25) (F26 : FT26) (F28 : FT28) (L9 : LT4_9) (R : Type) : Env R := ⟨TT, EQT, 0, 115, ownOf [], callOf [en21 F21, en22 F22, en24 F24, en25 F25, en26 F26, en28 F28] R, loopOf [le4_9 L9] R⟩
def p4_9 (F22 : FT22) (F26 : FT26) : (R : Type) → Int → Int → Int → (Int × (Int × (Int × (Int × (Int × Unit))))) → (List Int) → (Int → Int → Int → (Int × (Int × (Int × (Int × (Int × Unit))))) → (List Int) → Option R) → (Bool → Option R) → (Int → (Int × (Int × (Int × (Int × (Int × Unit))))) → (List Int) → Option R) → Option R := fun R x1 x2 x3 x4 x5 kc k0 k1 =>
let v6 : Bool := (decide (x3 < x4.1));
(match v6 with
| true => F26 R x4 x1 fun y7 =>
let v8 : Bool := (x1 != x3);
(match v8 with
| true => k0 false
| false => let v9 : Bool := (decide (y7 < (1 : Int)));
(match v9 with
| true => k0 false
| false => let v10 : Bool := (decide (y7 > (3 : Int)));
(match v10 with
| true => k0 false
| false => let v11 : Bool := (decide (y7 < x2));
(match v11 with
| true => k0 false
| false => (match (bnd y7 (4 : Int)) with
| true => let v12 : Int := (List.getD x5 (Int.toNat y7) (0 : Int));
let v13 : Int := (IntKind.i64.wrap (v12 + (1 : Int)));
(match (bnd y7 (4 : Int)) with
| true => let v14 : (List Int) := (List.set x5 (Int.toNat y7) v13);
F22 R x4 x1 fun y15 y16 =>
let v17 : Int := (IntKind.i64.wrap (x4.1 - (1 : Int)));
let v18 : Bool := (x3 == v17);
let v19 : Bool := (!(y16 == v18));
(match v19 with
| true => k0 false
| false => let v20 : Int := (IntKind.i64.wrap (x3 + (1 : Int)));
kc y15 y7 v20 x4 v14)
| false => none)
| false => none)))))
| false => k1 x1 x4 x5)
theorem q4_9 (F21 : FT21) (F22 : FT22) (F24 : FT24) (F25 : FT25) (F26 : FT26) (F28 : FT28) (L9 : LT4_9) (R : Type) (x : HT (le4_9 L9).H) (kc : HT (le4_9 L9).H → Option R) (ke : KT R (le4_9 L9).exs) :
  exec (e4 F21 F22 F24 F25 F26 F28 L9 R) (lcode 9 (codeOf Try.f4)) (stOf (le4_9 L9).H x 2) (roundK (le4_9 L9).H (le4_9 L9).exs kc ke) =
    p4_9 F22 F26 R x.1 x.2.1 x.2.2.1 x.2.2.2.1 x.2.2.2.2.1 (fun x1 x2 x3 x4 x5 => kc (x1, x2, x3, x4, x5, ())) (fun y1 => ke.1 (y1, ())) (fun y1 y2 y3 => ke.2.1 (y1, y2, y3, ())) := by kernel_rfl
noncomputable def G4_9 : Nat → LT4_9
  | 0 => fun _ _ _ _ _ _ _ _ => none
  | n + 1 => fun R x1 x2 x3 x4 x5 k0 k1 => p4_9 F22 F26 R x1 x2 x3 x4 x5 (fun x1 x2 x3 x4 x5 => G4_9 n R x1 x2 x3 x4 x5 k0 k1) k0 k1
def p4 (F21 : FT21) (F22 : FT22) (F24 : FT24) (F25 : FT25) (F28 : FT28) (L9 : LT4_9) : FT4 := fun R a0 k =>
F21 R  fun y1 =>
(match (!y1) with
| true => k false
| false => F25 R a0 fun y2 =>
(match (!y2) with
| true => F22 R a0 (0 : Int) fun y3 y4 =>
F24 R a0 fun y5 =>
(match (!y5) with
| true => let v6 : Bool := (y3 == (0 : Int));
(match v6 with
| true => k (!y4)
| false => k false)
| false => k false)
| false => L9 R (0 : Int) (0 : Int) (0 : Int) a0 (List.replicate 4 (0 : Int)) (fun x7 =>
k x7) (fun x8 x9 x10 =>
let v11 : Bool := (x8 == (0 : Int));
(match v11 with
| true => let v12 : Int := (List.getD x10 1 (0 : Int));
let v13 : Bool := (v12 == x9.2.1);
(match v13 with
| true => let v14 : Int := (List.getD x10 2 (0 : Int));
let v15 : Bool := (v14 == x9.2.2.1);
(match v15 with
| true => let v16 : Int := (List.getD x10 1 (0 : Int));
F28 R x9 (1 : Int) fun y17 =>
let v18 : Bool := (v16 == y17);
(match v18 with
| true => let v19 : Int := (List.getD x10 2 (0 : Int));
F28 R x9 (2 : Int) fun y20 =>
let v21 : Bool := (v19 == y20);
(match v21 with
| true => let v22 : Int := (List.getD x10 3 (0 : Int));
F28 R x9 (3 : Int) fun y23 =>
let v24 : Bool := (v22 == y23);
k v24
| false => k false)
| false => k false)
| false => k false)
| false => k false)
| false => k false))))
theorem q4 (F21 : FT21) (F22 : FT22) (F24 : FT24) (F25 : FT25) (F26 : FT26) (F28 : FT28) (L9 : LT4_9) (F : FT4) (R : Type) (x : AT (en4 F).ins) (k : RT (en4 F).outs → PT (en4 F).ins → Option R) :
  xfun (e4 F21 F22 F24 F25 F26 F28 L9 R) (codeOf Try.f4) res4 (avs (en4 F).ins x) (finK (en4 F).outs (en4 F).ins k) = p4 F21 F22 F24 F25 F28 L9 R x.1 (fun y1 => k (y1, ()) ()) := by kernel_rfl
noncomputable def F4 : FT4 := p4 F21 F22 F24 F25 F28 (G4_9 FUEL)
theorem env4 (R : Type) : EnvOK Try.prog (e4 F21 F22 F24 F25 F26 F28 (G4_9 FUEL) R) := ⟨tabOK, eqOK, callOf_ok (allE_cons ok21 (allE_cons ok22 (allE_cons ok24 (allE_cons ok25 (allE_cons ok26 (allE_cons ok28 allE_nil))))))⟩
noncomputable def T4_9 : (R : Type) → HT (le4_9 (G4_9 FUEL)).H → (HT (le4_9 (G4_9 FUEL)).H → Option R) → KT R (le4_9 (G4_9 FUEL)).exs → Option R := fun R x kc ke => p4_9 F22 F26 R x.1 x.2.1 x.2.2.1 x.2.2.2.1 x.2.2.2.2.1 (fun x1 x2 x3 x4 x5 => kc (x1, x2, x3, x4, x5, ())) (fun y1 => ke.1 (y1, ())) (fun y1 y2 y3 => ke.2.1 (y1, y2, y3, ()))
theorem it4_9 : ∀ (n : Nat) (R : Type) (x : HT (le4_9 (G4_9 FUEL)).H) (ke : KT R (le4_9 (G4_9 FUEL)).exs), iter T4_9 n R x ke = G4_9 n R x.1 x.2.1 x.2.2.1 x.2.2.2.1 x.2.2.2.2.1 (fun y1 => ke.1 (y1, ())) (fun y1 y2 y3 => ke.2.1 (y1, y2, y3, ())) := by
  intro n
  induction n with
  | zero => intro R x ke; rfl
  | succ n ih =>
    intro R x ke
    show T4_9 R x (fun x' => iter T4_9 n R x' ke) ke = _
    rw [show (fun x' => iter T4_9 n R x' ke) = fun x => G4_9 n R x.1 x.2.1 x.2.2.1 x.2.2.2.1 x.2.2.2.2.1 (fun y1 => ke.1 (y1, ())) (fun y1 y2 y3 => ke.2.1 (y1, y2, y3, ())) from funext fun x' => ih R x' ke]
    rfl
theorem lok4_9 : (le4_9 (G4_9 FUEL)).OK Try.prog 0 115 (lcode 9 (codeOf Try.f4)) := fun R x ke r h =>
  iter_sound (fun R => e4 F21 F22 F24 F25 F26 F28 (G4_9 FUEL) R) 0 115 (fun _ => rfl) (fun _ => rfl) (fun R => env4 R) mixed (by
    intro R
    rw [show loopsOf (lcode 9 (codeOf Try.f4)) = [] from by kernel_rfl]
    exact allM_nil) (T := T4_9) (fun R x kc ke => q4_9 F21 F22 F24 F25 F26 F28 (G4_9 FUEL) R x kc ke) FUEL R x ke r ((it4_9 FUEL R x ke).trans h)
theorem ok4 : (en4 F4).OK Try.prog :=
  ent_ok (Ef := fun R => e4 F21 F22 F24 F25 F26 F28 (G4_9 FUEL) R) (fun R => env4 R) mixed Try.func4 (body := codeOf Try.f4) (by kernel_rfl) (by kernel_rfl) (np := 0) (nt := 115) (fun _ => rfl) (fun _ => rfl) (by kernel_rfl) (res := res4) (by kernel_rfl) (fun _ => rfl) (fun _ => Nat.le_of_ble_eq_true rfl) (by
    intro R
    rw [show loopsOf (codeOf Try.f4) = [lcode 9 (codeOf Try.f4)] from by kernel_rfl]
    exact (allM_cons (loop_ok2 (e := le4_9 (G4_9 FUEL)) rfl rfl lok4_9) allM_nil)) (fun R x k => q4 F21 F22 F24 F25 F26 F28 (G4_9 FUEL) F4 R x k)
/-! drawlot/drawlotlaw19.WindowSums -/
abbrev FT5 : Type 1 := (R : Type) → (Int × (Int × (Int × (Int × (Int × Unit))))) → Int → (Bool → Option R) → Option R
def en5 (F : FT5) : Ent := ⟨5, [(false, (.pair (.int .i64) (.pair (.int .i64) (.pair (.int .i64) (.pair (.int .i64) (.pair (.int .i64) .unit)))))), (false, (.int .i64))], [(false, .bool)], fun R x k => F R x.1 x.2.1 (fun y1 => k (y1, ()) ())⟩
def res5 : List (ResultVar × TypeId × Bool) := [(.tmp 4, 4, false)]
def e5 (F21 : FT21) (F25 : FT25) (F26 : FT26) (F28 : FT28) (R : Type) : Env R := ⟨TT, EQT, 0, 56, ownOf [], callOf [en21 F21, en25 F25, en26 F26, en28 F28] R, loopOf [] R⟩
def p5 (F21 : FT21) (F25 : FT25) (F26 : FT26) (F28 : FT28) : FT5 := fun R a0 a1 k =>
F21 R  fun y1 =>
(match (!y1) with
| true => k false
| false => F28 R a0 (1 : Int) fun y2 =>
F28 R a0 (2 : Int) fun y3 =>
let v4 : Int := (IntKind.i64.wrap (y2 + y3));
F28 R a0 (3 : Int) fun y5 =>
let v6 : Int := (IntKind.i64.wrap (v4 + y5));
F25 R a0 fun y7 =>
(match (!y7) with
| true => let v8 : Bool := (v6 == (0 : Int));
(match v8 with
| true => F26 R a0 a1 fun y9 =>
let v10 : Bool := (y9 == (0 : Int));
k v10
| false => k false)
| false => F26 R a0 a1 fun y11 =>
let v12 : Bool := (v6 == a0.1);
(match v12 with
| true => let v13 : Bool := (y11 == (0 : Int));
let v14 : Bool := (decide (a1 < (0 : Int)));
(match v14 with
| true => let v15 : Bool := (v13 == true);
(match v15 with
| true => let v16 : Bool := (decide (y11 ≥ (0 : Int)));
(match v16 with
| true => let v17 : Bool := (decide (y11 ≤ (3 : Int)));
k v17
| false => k false)
| false => k false)
| false => let v18 : Bool := (decide (a1 ≥ a0.1));
let v19 : Bool := (v13 == v18);
(match v19 with
| true => let v20 : Bool := (decide (y11 ≥ (0 : Int)));
(match v20 with
| true => let v21 : Bool := (decide (y11 ≤ (3 : Int)));
k v21
| false => k false)
| false => k false))
| false => k false)))
theorem q5 (F21 : FT21) (F25 : FT25) (F26 : FT26) (F28 : FT28) (F : FT5) (R : Type) (x : AT (en5 F).ins) (k : RT (en5 F).outs → PT (en5 F).ins → Option R) :
  xfun (e5 F21 F25 F26 F28 R) (codeOf Try.f5) res5 (avs (en5 F).ins x) (finK (en5 F).outs (en5 F).ins k) = p5 F21 F25 F26 F28 R x.1 x.2.1 (fun y1 => k (y1, ()) ()) := by kernel_rfl
noncomputable def F5 : FT5 := p5 F21 F25 F26 F28
theorem env5 (R : Type) : EnvOK Try.prog (e5 F21 F25 F26 F28 R) := ⟨tabOK, eqOK, callOf_ok (allE_cons ok21 (allE_cons ok25 (allE_cons ok26 (allE_cons ok28 allE_nil))))⟩
theorem ok5 : (en5 F5).OK Try.prog :=
  ent_ok (Ef := fun R => e5 F21 F25 F26 F28 R) (fun R => env5 R) mixed Try.func5 (body := codeOf Try.f5) (by kernel_rfl) (by kernel_rfl) (np := 0) (nt := 56) (fun _ => rfl) (fun _ => rfl) (by kernel_rfl) (res := res5) (by kernel_rfl) (fun _ => rfl) (fun _ => Nat.le_of_ble_eq_true rfl) (by
    intro R
    rw [show loopsOf (codeOf Try.f5) = [] from by kernel_rfl]
    exact allM_nil) (fun R x k => q5 F21 F25 F26 F28 F5 R x k)
/-! drawlot/tape.length -/
abbrev FT78 : Type 1 := (R : Type) → (Int × ((List Int) × (Int × ((List Int) × (Int × (Int × Unit)))))) → (Int → Bool → Option R) → Option R
def en78 (F : FT78) : Ent := ⟨78, [(false, (.pair (.int .i64) (.pair (.sl (.int .u8)) (.pair (.int .u64) (.pair (.arr 32 (.int .u8)) (.pair (.int .u64) (.pair (.int .u64) .unit)))))))], [(false, (.int .u64)), (false, .bool)], fun R x k => F R x.1 (fun y1 y2 => k (y1, y2, ()) ())⟩
def res78 : List (ResultVar × TypeId × Bool) := [(.tmp 2, 38, false), (.tmp 3, 4, false)]
def e78 (R : Type) : Env R := ⟨TT, EQT, 0, 20, ownOf [], callOf [] R, loopOf [] R⟩
def p78 : FT78 := fun R a0 k =>
let v1 : Bool := (a0.1 == (1 : Int));
(match v1 with
| true => let v2 : Int := (List.length a0.2.1 : Int);
let v3 : Int := (IntKind.u64.wrap v2);
let v4 : Int := (IntKind.u64.wrap (v3 * (8 : Int)));
let v5 : Bool := (decide (a0.2.2.1 ≤ v4));
k a0.2.2.1 v5
| false => let v6 : Bool := (a0.1 == (2 : Int));
(match v6 with
| true => k (4611686018427387904 : Int) true
| false => k (0 : Int) false))
theorem q78 (F : FT78) (R : Type) (x : AT (en78 F).ins) (k : RT (en78 F).outs → PT (en78 F).ins → Option R) :
  xfun (e78 R) (codeOf Try.f78) res78 (avs (en78 F).ins x) (finK (en78 F).outs (en78 F).ins k) = p78 R x.1 (fun y1 y2 => k (y1, y2, ()) ()) := by kernel_rfl
noncomputable def F78 : FT78 := p78
theorem env78 (R : Type) : EnvOK Try.prog (e78 R) := ⟨tabOK, eqOK, callOf_ok allE_nil⟩
theorem ok78 : (en78 F78).OK Try.prog :=
  ent_ok (Ef := fun R => e78 R) (fun R => env78 R) mixed Try.func78 (body := codeOf Try.f78) (by kernel_rfl) (by kernel_rfl) (np := 0) (nt := 20) (fun _ => rfl) (fun _ => rfl) (by kernel_rfl) (res := res78) (by kernel_rfl) (fun _ => rfl) (fun _ => Nat.le_of_ble_eq_true rfl) (by
    intro R
    rw [show loopsOf (codeOf Try.f78) = [] from by kernel_rfl]
    exact allM_nil) (fun R x k => q78 F78 R x k)
/-! drawlot/tape.Right -/
abbrev FT53 : Type 1 := (R : Type) → (Int × ((List Int) × (Int × ((List Int) × (Int × (Int × Unit)))))) → (Bool → Option R) → Option R
def en53 (F : FT53) : Ent := ⟨53, [(false, (.pair (.int .i64) (.pair (.sl (.int .u8)) (.pair (.int .u64) (.pair (.arr 32 (.int .u8)) (.pair (.int .u64) (.pair (.int .u64) .unit)))))))], [(false, .bool)], fun R x k => F R x.1 (fun y1 => k (y1, ()) ())⟩
def res53 : List (ResultVar × TypeId × Bool) := [(.tmp 2, 4, false)]
def e53 (F78 : FT78) (R : Type) : Env R := ⟨TT, EQT, 0, 17, ownOf [], callOf [en78 F78] R, loopOf [] R⟩
def p53 (F78 : FT78) : FT53 := fun R a0 k =>
F78 R a0 fun y1 y2 =>
(match y2 with
| true => let v3 : Bool := (decide (a0.2.2.2.2.2.1 ≤ y1));
k v3
| false => k false)
theorem q53 (F78 : FT78) (F : FT53) (R : Type) (x : AT (en53 F).ins) (k : RT (en53 F).outs → PT (en53 F).ins → Option R) :
  xfun (e53 F78 R) (codeOf Try.f53) res53 (avs (en53 F).ins x) (finK (en53 F).outs (en53 F).ins k) = p53 F78 R x.1 (fun y1 => k (y1, ()) ()) := by kernel_rfl
noncomputable def F53 : FT53 := p53 F78
theorem env53 (R : Type) : EnvOK Try.prog (e53 F78 R) := ⟨tabOK, eqOK, callOf_ok (allE_cons ok78 allE_nil)⟩
theorem ok53 : (en53 F53).OK Try.prog :=
  ent_ok (Ef := fun R => e53 F78 R) (fun R => env53 R) mixed Try.func53 (body := codeOf Try.f53) (by kernel_rfl) (by kernel_rfl) (np := 0) (nt := 17) (fun _ => rfl) (fun _ => rfl) (by kernel_rfl) (res := res53) (by kernel_rfl) (fun _ => rfl) (fun _ => Nat.le_of_ble_eq_true rfl) (by
    intro R
    rw [show loopsOf (codeOf Try.f53) = [] from by kernel_rfl]
    exact allM_nil) (fun R x k => q53 F78 F53 R x k)
/-! drawlot/tape.Tape -/
abbrev FT58 : Type 1 := (R : Type) → (List Int) → Int → ((Int × ((List Int) × (Int × ((List Int) × (Int × (Int × Unit)))))) → Int → Option R) → Option R
def en58 (F : FT58) : Ent := ⟨58, [(false, (.sl (.int .u8))), (false, (.int .u64))], [(false, (.pair (.int .i64) (.pair (.sl (.int .u8)) (.pair (.int .u64) (.pair (.arr 32 (.int .u8)) (.pair (.int .u64) (.pair (.int .u64) .unit))))))), (false, (.int .i64))], fun R x k => F R x.1 x.2.1 (fun y1 y2 => k (y1, y2, ()) ())⟩
def res58 : List (ResultVar × TypeId × Bool) := [(.cell 4 59, 59, false), (.tmp 5, 61, false)]
def e58 (F53 : FT53) (F80 : FT80) (R : Type) : Env R := ⟨TT, EQT, 0, 16, ownOf [], callOf [en53 F53, en80 F80] R, loopOf [] R⟩
def p58 (F53 : FT53) (F80 : FT80) : FT58 := fun R a0 a1 k =>
F80 R a0 fun y1 =>
F53 R ((1 : Int), y1, a1, (List.replicate 32 (0 : Int)), (0 : Int), (0 : Int), ()) fun y2 =>
(match (!y2) with
| true => k ((0 : Int), ([] : (List Int)), (0 : Int), (List.replicate 32 (0 : Int)), (0 : Int), (0 : Int), ()) (1 : Int)
| false => k ((1 : Int), y1, a1, (List.replicate 32 (0 : Int)), (0 : Int), (0 : Int), ()) (0 : Int))
theorem q58 (F53 : FT53) (F80 : FT80) (F : FT58) (R : Type) (x : AT (en58 F).ins) (k : RT (en58 F).outs → PT (en58 F).ins → Option R) :
  xfun (e58 F53 F80 R) (codeOf Try.f58) res58 (avs (en58 F).ins x) (finK (en58 F).outs (en58 F).ins k) = p58 F53 F80 R x.1 x.2.1 (fun y1 y2 => k (y1, y2, ()) ()) := by kernel_rfl
noncomputable def F58 : FT58 := p58 F53 F80
theorem env58 (R : Type) : EnvOK Try.prog (e58 F53 F80 R) := ⟨tabOK, eqOK, callOf_ok (allE_cons ok53 (allE_cons ok80 allE_nil))⟩
theorem ok58 : (en58 F58).OK Try.prog :=
  ent_ok (Ef := fun R => e58 F53 F80 R) (fun R => env58 R) mixed Try.func58 (body := codeOf Try.f58) (by kernel_rfl) (by kernel_rfl) (np := 0) (nt := 16) (fun _ => rfl) (fun _ => rfl) (by kernel_rfl) (res := res58) (by kernel_rfl) (fun _ => rfl) (fun _ => Nat.le_of_ble_eq_true rfl) (by
    intro R
    rw [show loopsOf (codeOf Try.f58) = [] from by kernel_rfl]
    exact allM_nil) (fun R x k => q58 F53 F80 F58 R x k)
/-! drawlot/tape.Left -/
abbrev FT55 : Type 1 := (R : Type) → (Int × ((List Int) × (Int × ((List Int) × (Int × (Int × Unit)))))) → (Int → Option R) → Option R
def en55 (F : FT55) : Ent := ⟨55, [(false, (.pair (.int .i64) (.pair (.sl (.int .u8)) (.pair (.int .u64) (.pair (.arr 32 (.int .u8)) (.pair (.int .u64) (.pair (.int .u64) .unit)))))))], [(false, (.int .u64))], fun R x k => F R x.1 (fun y1 => k (y1, ()) ())⟩
def res55 : List (ResultVar × TypeId × Bool) := [(.tmp 2, 38, false)]
def e55 (F53 : FT53) (F78 : FT78) (R : Type) : Env R := ⟨TT, EQT, 0, 17, ownOf [], callOf [en53 F53, en78 F78] R, loopOf [] R⟩
def p55 (F53 : FT53) (F78 : FT78) : FT55 := fun R a0 k =>
F53 R a0 fun y1 =>
(match (!y1) with
| true => k (0 : Int)
| false => F78 R a0 fun y2 y3 =>
let v4 : Int := (IntKind.u64.wrap (y2 - a0.2.2.2.2.2.1));
k v4)
theorem q55 (F53 : FT53) (F78 : FT78) (F : FT55) (R : Type) (x : AT (en55 F).ins) (k : RT (en55 F).outs → PT (en55 F).ins → Option R) :
  xfun (e55 F53 F78 R) (codeOf Try.f55) res55 (avs (en55 F).ins x) (finK (en55 F).outs (en55 F).ins k) = p55 F53 F78 R x.1 (fun y1 => k (y1, ()) ()) := by kernel_rfl
noncomputable def F55 : FT55 := p55 F53 F78
theorem env55 (R : Type) : EnvOK Try.prog (e55 F53 F78 R) := ⟨tabOK, eqOK, callOf_ok (allE_cons ok53 (allE_cons ok78 allE_nil))⟩
theorem ok55 : (en55 F55).OK Try.prog :=
  ent_ok (Ef := fun R => e55 F53 F78 R) (fun R => env55 R) mixed Try.func55 (body := codeOf Try.f55) (by kernel_rfl) (by kernel_rfl) (np := 0) (nt := 17) (fun _ => rfl) (fun _ => rfl) (by kernel_rfl) (res := res55) (by kernel_rfl) (fun _ => rfl) (fun _ => Nat.le_of_ble_eq_true rfl) (by
    intro R
    rw [show loopsOf (codeOf Try.f55) = [] from by kernel_rfl]
    exact allM_nil) (fun R x k => q55 F53 F78 F55 R x k)
/-! (*drawlot/tape.reader).octet -/
abbrev FT93 : Type 1 := (R : Type) → ((Int × ((List Int) × (Int × ((List Int) × (Int × (Int × Unit)))))) × ((List Int) × (Int × (Bool × Unit)))) → Int → (Int → ((Int × ((List Int) × (Int × ((List Int) × (Int × (Int × Unit)))))) × ((List Int) × (Int × (Bool × Unit)))) → Option R) → Option R
def en93 (F : FT93) : Ent := ⟨93, [(true, (.pair (.pair (.int .i64) (.pair (.sl (.int .u8)) (.pair (.int .u64) (.pair (.arr 32 (.int .u8)) (.pair (.int .u64) (.pair (.int .u64) .unit)))))) (.pair (.arr 32 (.int .u8)) (.pair (.int .u64) (.pair .bool .unit))))), (false, (.int .u64))], [(false, (.int .u8))], fun R x k => F R x.1 x.2.1 (fun y1 p1 => k (y1, ()) (p1, ()))⟩
def res93 : List (ResultVar × TypeId × Bool) := [(.tmp 4, 5, false)]
def e93 (F38 : FT38) (R : Type) : Env R := ⟨TT, EQT, 1, 67, ownOf [], callOf [en38 F38] R, loopOf [] R⟩
def p93 (F38 : FT38) : FT93 := fun R a0 a1 k =>
let v1 : Bool := (a0.1.1 == (1 : Int));
(match v1 with
| true => (match (bnd a1 (List.length a0.1.2.1 : Int)) with
| true => let v2 : Int := (List.getD a0.1.2.1 (Int.toNat a1) (0 : Int));
k v2 a0
| false => none)
| false => let v3 : Int := (IntKind.u64.wrap (Int.tdiv a1 (32 : Int)));
let v4 : Bool := (!a0.2.2.2.1);
(match v4 with
| true => F38 R a0.1.2.2.2.1 a0.1.2.2.2.2.1 v3 fun y5 =>
let v6 : Int := (Int.tmod a1 (32 : Int));
(match (bnd v6 (32 : Int)) with
| true => let v7 : Int := (List.getD y5 (Int.toNat v6) (0 : Int));
k v7 (a0.1, y5, v3, true, a0.2.2.2.2)
| false => none)
| false => let v8 : Bool := (v3 != a0.2.2.1);
(match v8 with
| true => F38 R a0.1.2.2.2.1 a0.1.2.2.2.2.1 v3 fun y9 =>
let v10 : Int := (Int.tmod a1 (32 : Int));
(match (bnd v10 (32 : Int)) with
| true => let v11 : Int := (List.getD y9 (Int.toNat v10) (0 : Int));
k v11 (a0.1, y9, v3, true, a0.2.2.2.2)
| false => none)
| false => let v12 : Int := (Int.tmod a1 (32 : Int));
(match (bnd v12 (32 : Int)) with
| true => let v13 : Int := (List.getD a0.2.1 (Int.toNat v12) (0 : Int));
k v13 a0
| false => none))))
theorem q93 (F38 : FT38) (F : FT93) (R : Type) (x : AT (en93 F).ins) (k : RT (en93 F).outs → PT (en93 F).ins → Option R) :
  xfun (e93 F38 R) (codeOf Try.f93) res93 (avs (en93 F).ins x) (finK (en93 F).outs (en93 F).ins k) = p93 F38 R x.1 x.2.1 (fun y1 p1 => k (y1, ()) (p1, ())) := by kernel_rfl
noncomputable def F93 : FT93 := p93 F38
theorem env93 (R : Type) : EnvOK Try.prog (e93 F38 R) := ⟨tabOK, eqOK, callOf_ok (allE_cons ok38 allE_nil)⟩
theorem ok93 : (en93 F93).OK Try.prog :=
  ent_ok (Ef := fun R => e93 F38 R) (fun R => env93 R) mixed Try.func93 (body := codeOf Try.f93) (by kernel_rfl) (by kernel_rfl) (np := 1) (nt := 67) (fun _ => rfl) (fun _ => rfl) (by kernel_rfl) (res := res93) (by kernel_rfl) (fun _ => rfl) (fun _ => Nat.le_of_ble_eq_true rfl) (by
    intro R
    rw [show loopsOf (codeOf Try.f93) = [] from by kernel_rfl]
    exact allM_nil) (fun R x k => q93 F38 F93 R x k)
/-! (*drawlot/tape.reader).bit: the order that Go leaves open there; read by hand. -/
abbrev FT76 : Type 1 := (R : Type) → ((Int × ((List Int) × (Int × ((List Int) × (Int × (Int × Unit)))))) × ((List Int) × (Int × (Bool × Unit)))) → (Int → ((Int × ((List Int) × (Int × ((List Int) × (Int × (Int × Unit)))))) × ((List Int) × (Int × (Bool × Unit)))) → Option R) → Option R
abbrev KS76 : Kd := (.pair (.int .i64) (.pair (.sl (.int .u8)) (.pair (.int .u64) (.pair (.arr 32 (.int .u8)) (.pair (.int .u64) (.pair (.int .u64) .unit))))))
abbrev KQ76 : Kd := (.pair (.arr 32 (.int .u8)) (.pair (.int .u64) (.pair .bool .unit)))
abbrev K76 : Kd := .pair KS76 KQ76
def en76 (F : FT76) : Ent := ⟨76, [(true, K76)], [(false, (.int .u64))], fun R x k => F R x.1 (fun y1 p1 => k (y1, ()) (p1, ()))⟩
def res76 : List (ResultVar × TypeId × Bool) := [(.tmp 2, 38, false)]
def at76 (a0 : K76.T) : Int := a0.1.2.2.2.2.2.1
noncomputable def u76 : (R : Type) → K76.T → Int → KQ76.T → (Int → K76.T → Option R) → Option R := fun R a0 y2 q k =>
let v6 : Int := (ishr .u8 y2 (IntKind.u64.wrap ((7 : Int) - (Int.tmod a0.1.2.2.2.2.2.1 (8 : Int)))));
let v7 : Int := (IntKind.u64.wrap (a0.1.2.2.2.2.2.1 + (1 : Int)));
let v8 : Int := (iand .u8 v6 (1 : Int));
let v9 : Int := (IntKind.u64.wrap v8);
k v9 ((a0.1.1, a0.1.2.1, a0.1.2.2.1, a0.1.2.2.2.1, a0.1.2.2.2.2.1, v7, a0.1.2.2.2.2.2.2), q)
noncomputable def F76 : FT76 := fun R a0 k =>
F93 R a0 (IntKind.u64.wrap (Int.tdiv a0.1.2.2.2.2.2.1 (8 : Int))) fun y2 p3 =>
match decide (0 ≤ IntKind.u64.wrap ((7 : Int) - (Int.tmod a0.1.2.2.2.2.2.1 (8 : Int)))) with
| true => u76 R a0 y2 p3.2 k
| false => none
theorem F93_keep (R : Type) (a0 : K76.T) (a1 : Int) (k : Int → K76.T → Option R) : F93 R a0 a1 k = F93 R a0 a1 (fun y p => @ite (Option R) (p.1 = a0.1) (Classical.propDecidable _) (k y p) none) := by
  simp only [F93, p93, if_true]
noncomputable def same2 {α : Type} (x y : α) : Bool := @decide (x = y) (Classical.propDecidable _)
theorem same2_self {α : Type} (x : α) : same2 x x = true := @decide_eq_true _ (Classical.propDecidable _) rfl
theorem same2_eq {α : Type} {x y : α} (h : same2 x y = true) : x = y := @of_decide_eq_true _ (Classical.propDecidable _) h
noncomputable def en93c (a0 : K76.T) (a1 y : Int) (q : KQ76.T) : Ent := ⟨93, [(true, K76), (false, (.int .u64))], [(false, (.int .u8))], fun _ x k => match same2 x (a0, a1, ()) with | true => k (y, ()) ((a0.1, q), ()) | false => none⟩
theorem ok93c {a0 : K76.T} {a1 y : Int} {q : KQ76.T} (h : Holds Try.prog 93 (avs [(true, K76), (false, (.int .u64))] (a0, a1, ())) (rvs [(false, (.int .u8))] (y, ())) (tvs [(true, K76), (false, (.int .u64))] ((a0.1, q), ()))) : (en93c a0 a1 y q).OK Try.prog := by
  intro R x k r hr
  simp only [en93c] at hr
  split at hr
  · rename_i he
    have := same2_eq he
    subst this
    exact ⟨(y, ()), ((a0.1, q), ()), h, hr⟩
  · cases hr
noncomputable def c76 (a0 : K76.T) (a1 y : Int) (q : KQ76.T) : Env (St × List (List Nat × List Nat)) := ⟨TT, EQT, 1, 32, ownOf [], callOf [en93c a0 a1 y q] _, loopOf [] _⟩
def e76 (R : Type) : Env R := ⟨TT, EQT, 1, 32, ownOf [], callOf [] R, loopOf [] R⟩
def first76 : Code → Code
  | .seq a _ => a
  | c => c
def ops76 : Code → Array Oper
  | .seq _ (.seq (.region _ ops _) _) => ops
  | _ => #[]
def o1276 : Code → Oper
  | .seq _ (.seq (.region _ ops _) _) => (ops[12]?).getD ⟨none, .assign (.tmp 0), 0, "", #[], none⟩
  | _ => ⟨none, .assign (.tmp 0), 0, "", #[], none⟩
def rest76 : Code → Code
  | .seq _ (.seq _ c) => c
  | c => c
def z076 (a0 : K76.T) : St := ⟨[(0, .ptr 0 [] K76)], [(0, .var K76 a0 false)], 1⟩
def z176 (a0 : K76.T) : St := ⟨[(2, .val (.int .u64) (0 : Int)), (0, .ptr 0 [] K76)], [(0, .var K76 a0 false)], 1⟩
noncomputable def z276 (a0 : K76.T) (y : Int) (q : KQ76.T) : St :=
  ⟨[(3, .val (.int .u8) (ishr .u8 y (IntKind.u64.wrap ((7 : Int) - (Int.tmod a0.1.2.2.2.2.2.1 (8 : Int)))))), (19, .val (.int .u8) (ishr .u8 y (IntKind.u64.wrap ((7 : Int) - (Int.tmod a0.1.2.2.2.2.2.1 (8 : Int)))))),
    (18, .val (.int .u64) (IntKind.u64.wrap ((7 : Int) - (Int.tmod a0.1.2.2.2.2.2.1 (8 : Int))))), (17, .val (.int .u64) (Int.tmod a0.1.2.2.2.2.2.1 (8 : Int))), (16, .val (.int .u64) a0.1.2.2.2.2.2.1),
    (15, .ptr 0 [.fld 0, .fld 5] (.int .u64)), (14, .ptr 0 [.fld 0] KS76), (13, .ptr 0 [] K76), (12, .ptr 0 [] K76), (11, .val (.int .u8) y), (10, .val (.int .u64) (IntKind.u64.wrap (Int.tdiv a0.1.2.2.2.2.2.1 (8 : Int)))), (9, .val (.int .u64) a0.1.2.2.2.2.2.1),
    (8, .ptr 0 [.fld 0, .fld 5] (.int .u64)), (7, .ptr 0 [.fld 0] KS76), (6, .ptr 0 [] K76), (5, .ptr 0 [] K76), (4, .ptr 0 [] K76), (2, .val (.int .u64) (0 : Int)), (0, .ptr 0 [] K76)],
   [(0, .var K76 (a0.1, q) false), (0, .var K76 a0 false)], 1⟩
def acc76 : List (List Nat × List Nat) := [([], []), ([], []), ([], []), ([], []), ([], [0]), ([], []), ([], []), ([], []), ([], []), ([0], [0, 0]), ([], []), ([], [0]), ([], []), ([], []), ([], []), ([], []), ([], [])]
theorem x076 (a0 : K76.T) : exec (e76 St) (first76 (codeOf Try.f76)) (z076 a0) (fun e σ => match e with | .normal => some σ | _ => none) = some (z176 a0) := by kernel_rfl
theorem x176 (a0 : K76.T) (y : Int) (q : KQ76.T) : xops (c76 a0 (IntKind.u64.wrap (Int.tdiv a0.1.2.2.2.2.2.1 (8 : Int))) y q) 1 (ops76 (codeOf Try.f76)) (ops76 (codeOf Try.f76)).toList 0 (z176 a0) [] (fun σ' accs => some (σ', accs)) =
    (match same2 (a0, IntKind.u64.wrap (Int.tdiv a0.1.2.2.2.2.2.1 (8 : Int)), ()) (a0, IntKind.u64.wrap (Int.tdiv a0.1.2.2.2.2.2.1 (8 : Int)), ()) with
     | true => (match decide (0 ≤ IntKind.u64.wrap ((7 : Int) - (Int.tmod a0.1.2.2.2.2.2.1 (8 : Int)))) with | true => some (z276 a0 y q, acc76) | false => none)
     | false => none) := by kernel_rfl
theorem x276 (R : Type) (a0 : K76.T) (y : Int) (q : KQ76.T) (k : RT [(false, Kd.int .u64)] → PT [(true, K76)] → Option R) :
    exec (e76 R) (rest76 (codeOf Try.f76)) (z276 a0 y q) (funK (e76 R) res76 (finK [(false, .int .u64)] [(true, K76)] k)) = u76 R a0 y q (fun y1 p1 => k (y1, ()) (p1, ())) := by kernel_rfl
theorem ok76 : (en76 F76).OK Try.prog := by
  intro R x k r h
  obtain ⟨a0, u⟩ := x
  change F76 R a0 (fun y1 p1 => k (y1, ()) (p1, ())) = some r at h
  unfold F76 at h
  rw [F93_keep] at h
  obtain ⟨⟨y, uy⟩, ⟨⟨p1, q⟩, up⟩, hH, hk⟩ := ok93 R (a0, IntKind.u64.wrap (Int.tdiv a0.1.2.2.2.2.2.1 (8 : Int)), ()) (fun y p => (fun (y : Int) (p : K76.T) => @ite (Option R) (p.1 = a0.1) (Classical.propDecidable _) (match decide (0 ≤ IntKind.u64.wrap ((7 : Int) - (Int.tmod a0.1.2.2.2.2.2.1 (8 : Int)))) with
    | true => u76 R a0 y p.2 (fun y1 p1 => k (y1, ()) (p1, ()))
    | false => none) none) y.1 p.1) r h
  simp only at hk
  split at hk <;> try (cases hk; done)
  rename_i hp
  subst hp
  split at hk <;> try (cases hk; done)
  rename_i hv
  have hE0 : EnvOK Try.prog (e76 R) := ⟨tabOK, eqOK, callOf_ok allE_nil⟩
  have hE1 : EnvOK Try.prog (e76 St) := ⟨tabOK, eqOK, callOf_ok allE_nil⟩
  have hE2 : EnvOK Try.prog (c76 a0 (IntKind.u64.wrap (Int.tdiv a0.1.2.2.2.2.2.1 (8 : Int))) y q) := ⟨tabOK, eqOK, callOf_ok (allE_cons (ok93c hH) allE_nil)⟩
  have hL0 : Leads 1 32 Try.prog (first76 (codeOf Try.f76)) (z076 a0) .normal (z176 a0) := by
    obtain ⟨e, σ, h1, h2⟩ := exec_sound hE1 mixed (first76 (codeOf Try.f76)) (by rw [show loopsOf (first76 (codeOf Try.f76)) = [] from by kernel_rfl]; exact allM_nil) _ _ _ (x076 a0)
    cases e with
    | normal => simp only [Option.some.injEq] at h1; subst h1; exact h2
    | exit i => cases h1
    | ret => cases h1
  have hL1 : Leads 1 32 Try.prog (.region 1 (ops76 (codeOf Try.f76)) true) (z176 a0) .normal (z276 a0 y q) := by
    have hx := x176 a0 y q
    rw [same2_self, hv] at hx
    obtain ⟨w1, w2⟩ := qWr_spec (i0 := 7) (b := 0) (l := acc76.reverse) (by kernel_rfl)
    exact leads_flex (j0 := 12) (i0 := 7) (b := 0) (d := 16) (t := 15) (nx := 1) (o := o1276 (codeOf Try.f76)) (b1 := .var K76 a0 false) (b2 := .var K76 (a0.1, q) false) hE2 mixed hx (by kernel_rfl) w1 w2 (by omega)
      (by kernel_rfl) (by kernel_rfl) (by kernel_rfl) (by kernel_rfl) (by kernel_rfl) rfl (Nat.lt_of_succ_le (Nat.le_of_ble_eq_true rfl)) (qDst_spec (by kernel_rfl)) (qTmp_spec (by kernel_rfl))
      (by rw [show (o1276 (codeOf Try.f76)).op.operands = #[.tmp 15] from by kernel_rfl]; intro x hx; simpa using hx) rfl rfl
      (fun B hB => by rcases hB with rfl | rfl <;> kernel_rfl)
  have hbody : codeOf Try.f76 = .seq (first76 (codeOf Try.f76)) (.seq (.region 1 (ops76 (codeOf Try.f76)) true) (rest76 (codeOf Try.f76))) := by kernel_rfl
  have hx2 := x276 R a0 y q k
  rw [hk] at hx2
  obtain ⟨e, σ, h1, h2⟩ := exec_sound hE0 mixed (rest76 (codeOf Try.f76)) (by rw [show loopsOf (rest76 (codeOf Try.f76)) = [] from by kernel_rfl]; exact allM_nil) _ _ _ hx2
  have hL := Leads.seq hL0 (Leads.seq hL1 h2)
  rw [← hbody] at hL
  obtain ⟨rs, os, g1, g2⟩ := xfun_leads hE0 Try.func76 (body := codeOf Try.f76) (by kernel_rfl) (enters Try.func76 (by kernel_rfl) (by kernel_rfl)) (by kernel_rfl) (res := res76) (by kernel_rfl) («as» := [.ptr K76 a0]) rfl (Nat.le_of_ble_eq_true rfl) (tm0 := (z076 a0).tm) (me0 := (z076 a0).me) rfl hL h1
  unfold finK at g2
  split at g2 <;> try (cases g2; done)
  rename_i y' hy
  split at g2 <;> try (cases g2; done)
  rename_i p' hp
  rw [asR_spec hy, asP_spec hp] at g1
  exact ⟨y', p', g1, g2⟩
/-! drawlot/tape.Take -/
abbrev FT50 : Type 1 := (R : Type) → (Int × ((List Int) × (Int × ((List Int) × (Int × (Int × Unit)))))) → Int → (Int → (Int × ((List Int) × (Int × ((List Int) × (Int × (Int × Unit)))))) → Int → Option R) → Option R
def en50 (F : FT50) : Ent := ⟨50, [(false, (.pair (.int .i64) (.pair (.sl (.int .u8)) (.pair (.int .u64) (.pair (.arr 32 (.int .u8)) (.pair (.int .u64) (.pair (.int .u64) .unit))))))), (false, (.int .i64))], [(false, (.int .u64)), (false, (.pair (.int .i64) (.pair (.sl (.int .u8)) (.pair (.int .u64) (.pair (.arr 32 (.int .u8)) (.pair (.int .u64) (.pair (.int .u64) .unit))))))), (false, (.int .i64))], fun R x k => F R x.1 x.2.1 (fun y1 y2 y3 => k (y1, y2, y3, ()) ())⟩
def res50 : List (ResultVar × TypeId × Bool) := [(.tmp 4, 38, false), (.cell 5 59, 59, false), (.tmp 6, 61, false)]
abbrev LT50_7 : Type 1 := (R : Type) → Int → Int → Int → (Int × ((List Int) × (Int × ((List Int) × (Int × (Int × Unit)))))) → ((Int × ((List Int) × (Int × ((List Int) × (Int × (Int × Unit)))))) × ((List Int) × (Int × (Bool × Unit)))) → (Int → (Int × ((List Int) × (Int × ((List Int) × (Int × (Int × Unit)))))) → ((Int × ((List Int) × (Int × ((List Int) × (Int × (Int × Unit)))))) × ((List Int) × (Int × (Bool × Unit)))) → Option R) → Option R
def le50_7 (L : LT50_7) : LEnt := ⟨7, [.val 4 (.int .u64), .fix 5 (.ptr 1 [] (.pair (.int .i64) (.pair (.sl (.int .u8)) (.pair (.int .u64) (.pair (.arr 32 (.int .u8)) (.pair (.int .u64) (.pair (.int .u64) .unit))))))), .fix 7 (.ptr 2 [] (.pair (.pair (.int .i64) (.pair (.sl (.int .u8)) (.pair (.int .u64) (.pair (.arr 32 (.int .u8)) (.pair (.int .u64) (.pair (.int .u64) .unit)))))) (.pair (.arr 32 (.int .u8)) (.pair (.int .u64) (.pair .bool .unit))))), .val 31 (.int .i64), .val 32 (.int .i64), .var 1 (.pair (.int .i64) (.pair (.sl (.int .u8)) (.pair (.int .u64) (.pair (.arr 32 (.int .u8)) (.pair (.int .u64) (.pair (.int .u64) .unit)))))) false, .var 2 (.pair (.pair (.int .i64) (.pair (.sl (.int .u8)) (.pair (.int .u64) (.pair (.arr 32 (.int .u8)) (.pair (.int .u64) (.pair (.int .u64) .unit)))))) (.pair (.arr 32 (.int .u8)) (.pair (.int .u64) (.pair .bool .unit)))) false], 3, [(.exit 1, [.val 4 (.int .u64), .fix 5 (.ptr 1 [] (.pair (.int .i64) (.pair (.sl (.int .u8)) (.pair (.int .u64) (.pair (.arr 32 (.int .u8)) (.pair (.int .u64) (.pair (.int .u64) .unit))))))), .fix 7 (.ptr 2 [] (.pair (.pair (.int .i64) (.pair (.sl (.int .u8)) (.pair (.int .u64) (.pair (.arr 32 (.int .u8)) (.pair (.int .u64) (.pair (.int .u64) .unit)))))) (.pair (.arr 32 (.int .u8)) (.pair (.int .u64) (.pair .bool .unit))))), .var 1 (.pair (.int .i64) (.pair (.sl (.int .u8)) (.pair (.int .u64) (.pair (.arr 32 (.int .u8)) (.pair (.int .u64) (.pair (.int .u64) .unit)))))) false, .var 2 (.pair (.pair (.int .i64) (.pair (.sl (.int .u8)) (.pair (.int .u64) (.pair (.arr 32 (.int .u8)) (.pair (.int .u64) (.pair (.int .u64) .unit)))))) (.pair (.arr 32 (.int .u8)) (.pair (.int .u64) (.pair .bool .unit)))) false])], fun R x ke => L R x.1 x.2.1 x.2.2.1 x.2.2.2.1 x.2.2.2.2.1 (fun y1 y2 y3 => ke.1 (y1, y2, y3, ()))⟩
def e50 (F53 : FT53) (F55 : FT55) (F76 : FT76) (L7 : LT50_7) (R : Type) : Env R := ⟨TT, EQT, 0, 45, ownOf [], callOf [en53 F53, en55 F55, en76 F76] R, loopOf [le50_7 L7] R⟩
def p50_7 (F76 : FT76) : (R : Type) → Int → Int → Int → (Int × ((List Int) × (Int × ((List Int) × (Int × (Int × Unit)))))) → ((Int × ((List Int) × (Int × ((List Int) × (Int × (Int × Unit)))))) × ((List Int) × (Int × (Bool × Unit)))) → (Int → Int → Int → (Int × ((List Int) × (Int × ((List Int) × (Int × (Int × Unit)))))) → ((Int × ((List Int) × (Int × ((List Int) × (Int × (Int × Unit)))))) × ((List Int) × (Int × (Bool × Unit)))) → Option R) → (Int → (Int × ((List Int) × (Int × ((List Int) × (Int × (Int × Unit)))))) → ((Int × ((List Int) × (Int × ((List Int) × (Int × (Int × Unit)))))) × ((List Int) × (Int × (Bool × Unit)))) → Option R) → Option R := fun R x1 x2 x3 x4 x5 kc k0 =>
let v6 : Bool := (decide (x3 < x2));
(match v6 with
| true => let v7 : Int := (ishl .u64 x1 (1 : Int));
F76 R x5 fun y8 p9 =>
let v10 : Int := (ior .u64 v7 y8);
let v11 : Int := (IntKind.i64.wrap (x3 + (1 : Int)));
kc v10 x2 v11 x4 p9
| false => k0 x1 x4 x5)
theorem q50_7 (F53 : FT53) (F55 : FT55) (F76 : FT76) (L7 : LT50_7) (R : Type) (x : HT (le50_7 L7).H) (kc : HT (le50_7 L7).H → Option R) (ke : KT R (le50_7 L7).exs) :
  exec (e50 F53 F55 F76 L7 R) (lcode 7 (codeOf Try.f50)) (stOf (le50_7 L7).H x 3) (roundK (le50_7 L7).H (le50_7 L7).exs kc ke) =
    p50_7 F76 R x.1 x.2.1 x.2.2.1 x.2.2.2.1 x.2.2.2.2.1 (fun x1 x2 x3 x4 x5 => kc (x1, x2, x3, x4, x5, ())) (fun y1 y2 y3 => ke.1 (y1, y2, y3, ())) := by kernel_rfl
noncomputable def G50_7 : Nat → LT50_7
  | 0 => fun _ _ _ _ _ _ _ => none
  | n + 1 => fun R x1 x2 x3 x4 x5 k0 => p50_7 F76 R x1 x2 x3 x4 x5 (fun x1 x2 x3 x4 x5 => G50_7 n R x1 x2 x3 x4 x5 k0) k0
def p50 (F53 : FT53) (F55 : FT55) (L7 : LT50_7) : FT50 := fun R a0 a1 k =>
F53 R a0 fun y1 =>
(match (!y1) with
| true => k (0 : Int) a0 (1 : Int)
| false => let v2 : Bool := (decide (a1 < (0 : Int)));
(match v2 with
| true => k (0 : Int) a0 (1 : Int)
| false => let v3 : Bool := (decide (a1 > (64 : Int)));
(match v3 with
| true => k (0 : Int) a0 (1 : Int)
| false => let v4 : Int := (IntKind.u64.wrap a1);
F55 R a0 fun y5 =>
let v6 : Bool := (decide (v4 > y5));
(match v6 with
| true => k (0 : Int) a0 (8 : Int)
| false => L7 R (0 : Int) a1 (0 : Int) ((0 : Int), ([] : (List Int)), (0 : Int), (List.replicate 32 (0 : Int)), (0 : Int), (0 : Int), ()) (a0, (List.replicate 32 (0 : Int)), (0 : Int), false, ()) (fun x7 x8 x9 =>
k x7 x9.1 (0 : Int))))))
theorem q50 (F53 : FT53) (F55 : FT55) (F76 : FT76) (L7 : LT50_7) (F : FT50) (R : Type) (x : AT (en50 F).ins) (k : RT (en50 F).outs → PT (en50 F).ins → Option R) :
  xfun (e50 F53 F55 F76 L7 R) (codeOf Try.f50) res50 (avs (en50 F).ins x) (finK (en50 F).outs (en50 F).ins k) = p50 F53 F55 L7 R x.1 x.2.1 (fun y1 y2 y3 => k (y1, y2, y3, ()) ()) := by kernel_rfl
noncomputable def F50 : FT50 := p50 F53 F55 (G50_7 FUEL)
theorem env50 (R : Type) : EnvOK Try.prog (e50 F53 F55 F76 (G50_7 FUEL) R) := ⟨tabOK, eqOK, callOf_ok (allE_cons ok53 (allE_cons ok55 (allE_cons ok76 allE_nil)))⟩
noncomputable def T50_7 : (R : Type) → HT (le50_7 (G50_7 FUEL)).H → (HT (le50_7 (G50_7 FUEL)).H → Option R) → KT R (le50_7 (G50_7 FUEL)).exs → Option R := fun R x kc ke => p50_7 F76 R x.1 x.2.1 x.2.2.1 x.2.2.2.1 x.2.2.2.2.1 (fun x1 x2 x3 x4 x5 => kc (x1, x2, x3, x4, x5, ())) (fun y1 y2 y3 => ke.1 (y1, y2, y3, ()))
theorem it50_7 : ∀ (n : Nat) (R : Type) (x : HT (le50_7 (G50_7 FUEL)).H) (ke : KT R (le50_7 (G50_7 FUEL)).exs), iter T50_7 n R x ke = G50_7 n R x.1 x.2.1 x.2.2.1 x.2.2.2.1 x.2.2.2.2.1 (fun y1 y2 y3 => ke.1 (y1, y2, y3, ())) := by
  intro n
  induction n with
  | zero => intro R x ke; rfl
  | succ n ih =>
    intro R x ke
    show T50_7 R x (fun x' => iter T50_7 n R x' ke) ke = _
    rw [show (fun x' => iter T50_7 n R x' ke) = fun x => G50_7 n R x.1 x.2.1 x.2.2.1 x.2.2.2.1 x.2.2.2.2.1 (fun y1 y2 y3 => ke.1 (y1, y2, y3, ())) from funext fun x' => ih R x' ke]
    rfl
theorem lok50_7 : (le50_7 (G50_7 FUEL)).OK Try.prog 0 45 (lcode 7 (codeOf Try.f50)) := fun R x ke r h =>
  iter_sound (fun R => e50 F53 F55 F76 (G50_7 FUEL) R) 0 45 (fun _ => rfl) (fun _ => rfl) (fun R => env50 R) mixed (by
    intro R
    rw [show loopsOf (lcode 7 (codeOf Try.f50)) = [] from by kernel_rfl]
    exact allM_nil) (T := T50_7) (fun R x kc ke => q50_7 F53 F55 F76 (G50_7 FUEL) R x kc ke) FUEL R x ke r ((it50_7 FUEL R x ke).trans h)
theorem ok50 : (en50 F50).OK Try.prog :=
  ent_ok (Ef := fun R => e50 F53 F55 F76 (G50_7 FUEL) R) (fun R => env50 R) mixed Try.func50 (body := codeOf Try.f50) (by kernel_rfl) (by kernel_rfl) (np := 0) (nt := 45) (fun _ => rfl) (fun _ => rfl) (by kernel_rfl) (res := res50) (by kernel_rfl) (fun _ => rfl) (fun _ => Nat.le_of_ble_eq_true rfl) (by
    intro R
    rw [show loopsOf (codeOf Try.f50) = [lcode 7 (codeOf Try.f50)] from by kernel_rfl]
    exact (allM_cons (loop_ok2 (e := le50_7 (G50_7 FUEL)) rfl rfl lok50_7) allM_nil)) (fun R x k => q50 F53 F55 F76 (G50_7 FUEL) F50 R x k)
/-! drawlot/tape.Stream -/
abbrev FT60 : Type 1 := (R : Type) → (List Int) → Int → ((Int × ((List Int) × (Int × ((List Int) × (Int × (Int × Unit)))))) → Option R) → Option R
def en60 (F : FT60) : Ent := ⟨60, [(false, (.arr 32 (.int .u8))), (false, (.int .u64))], [(false, (.pair (.int .i64) (.pair (.sl (.int .u8)) (.pair (.int .u64) (.pair (.arr 32 (.int .u8)) (.pair (.int .u64) (.pair (.int .u64) .unit)))))))], fun R x k => F R x.1 x.2.1 (fun y1 => k (y1, ()) ())⟩
def res60 : List (ResultVar × TypeId × Bool) := [(.cell 4 59, 59, false)]
def e60 (R : Type) : Env R := ⟨TT, EQT, 0, 8, ownOf [], callOf [] R, loopOf [] R⟩
def p60 : FT60 := fun R a0 a1 k =>
k ((2 : Int), ([] : (List Int)), (0 : Int), a0, a1, (0 : Int), ())
theorem q60 (F : FT60) (R : Type) (x : AT (en60 F).ins) (k : RT (en60 F).outs → PT (en60 F).ins → Option R) :
  xfun (e60 R) (codeOf Try.f60) res60 (avs (en60 F).ins x) (finK (en60 F).outs (en60 F).ins k) = p60 R x.1 x.2.1 (fun y1 => k (y1, ()) ()) := by kernel_rfl
noncomputable def F60 : FT60 := p60
theorem env60 (R : Type) : EnvOK Try.prog (e60 R) := ⟨tabOK, eqOK, callOf_ok allE_nil⟩
theorem ok60 : (en60 F60).OK Try.prog :=
  ent_ok (Ef := fun R => e60 R) (fun R => env60 R) mixed Try.func60 (body := codeOf Try.f60) (by kernel_rfl) (by kernel_rfl) (np := 0) (nt := 8) (fun _ => rfl) (fun _ => rfl) (by kernel_rfl) (res := res60) (by kernel_rfl) (fun _ => rfl) (fun _ => Nat.le_of_ble_eq_true rfl) (by
    intro R
    rw [show loopsOf (codeOf Try.f60) = [] from by kernel_rfl]
    exact allM_nil) (fun R x k => q60 F60 R x k)
/-! bytes.Equal -/
abbrev FT79 : Type 1 := (R : Type) → (List Int) → (List Int) → (Bool → Option R) → Option R
def en79 (F : FT79) : Ent := ⟨79, [(false, (.sl (.int .u8))), (false, (.sl (.int .u8)))], [(false, .bool)], fun R x k => F R x.1 x.2.1 (fun y1 => k (y1, ()) ())⟩
def res79 : List (ResultVar × TypeId × Bool) := [(.tmp 4, 4, false)]
def e79 (R : Type) : Env R := ⟨TT, EQT, 0, 10, ownOf [], callOf [] R, loopOf [] R⟩
def p79 : FT79 := fun R a0 a1 k =>
let v1 : ByteArray := (strOf a0);
let v2 : ByteArray := (strOf a1);
let v3 : Bool := (ByteArray.toList v1 == ByteArray.toList v2);
k v3
theorem q79 (F : FT79) (R : Type) (x : AT (en79 F).ins) (k : RT (en79 F).outs → PT (en79 F).ins → Option R) :
  xfun (e79 R) (codeOf Try.f79) res79 (avs (en79 F).ins x) (finK (en79 F).outs (en79 F).ins k) = p79 R x.1 x.2.1 (fun y1 => k (y1, ()) ()) := by kernel_rfl
noncomputable def F79 : FT79 := p79
theorem env79 (R : Type) : EnvOK Try.prog (e79 R) := ⟨tabOK, eqOK, callOf_ok allE_nil⟩
theorem ok79 : (en79 F79).OK Try.prog :=
  ent_ok (Ef := fun R => e79 R) (fun R => env79 R) mixed Try.func79 (body := codeOf Try.f79) (by kernel_rfl) (by kernel_rfl) (np := 0) (nt := 10) (fun _ => rfl) (fun _ => rfl) (by kernel_rfl) (res := res79) (by kernel_rfl) (fun _ => rfl) (fun _ => Nat.le_of_ble_eq_true rfl) (by
    intro R
    rw [show loopsOf (codeOf Try.f79) = [] from by kernel_rfl]
    exact allM_nil) (fun R x k => q79 F79 R x k)
/-! drawlot/tape.Same -/
abbrev FT57 : Type 1 := (R : Type) → (Int × ((List Int) × (Int × ((List Int) × (Int × (Int × Unit)))))) → (Int × ((List Int) × (Int × ((List Int) × (Int × (Int × Unit)))))) → (Bool → Option R) → Option R
def en57 (F : FT57) : Ent := ⟨57, [(false, (.pair (.int .i64) (.pair (.sl (.int .u8)) (.pair (.int .u64) (.pair (.arr 32 (.int .u8)) (.pair (.int .u64) (.pair (.int .u64) .unit))))))), (false, (.pair (.int .i64) (.pair (.sl (.int .u8)) (.pair (.int .u64) (.pair (.arr 32 (.int .u8)) (.pair (.int .u64) (.pair (.int .u64) .unit)))))))], [(false, .bool)], fun R x k => F R x.1 x.2.1 (fun y1 => k (y1, ()) ())⟩
def res57 : List (ResultVar × TypeId × Bool) := [(.tmp 4, 4, false)]
def e57 (F79 : FT79) (R : Type) : Env R := ⟨TT, EQT, 0, 45, ownOf [], callOf [en79 F79] R, loopOf [] R⟩
def p57 (F79 : FT79) : FT57 := fun R a0 a1 k =>
let v1 : Bool := (a0.1 == a1.1);
(match v1 with
| true => F79 R a0.2.1 a1.2.1 fun y2 =>
(match y2 with
| true => let v3 : Bool := (a0.2.2.1 == a1.2.2.1);
(match v3 with
| true => let v4 : Bool := (Kd.eqv (.arr 32 (.int .u8)) a0.2.2.2.1 a1.2.2.2.1);
(match v4 with
| true => let v5 : Bool := (a0.2.2.2.2.1 == a1.2.2.2.2.1);
(match v5 with
| true => let v6 : Bool := (a0.2.2.2.2.2.1 == a1.2.2.2.2.2.1);
k v6
| false => k false)
| false => k false)
| false => k false)
| false => k false)
| false => k false)
theorem q57 (F79 : FT79) (F : FT57) (R : Type) (x : AT (en57 F).ins) (k : RT (en57 F).outs → PT (en57 F).ins → Option R) :
  xfun (e57 F79 R) (codeOf Try.f57) res57 (avs (en57 F).ins x) (finK (en57 F).outs (en57 F).ins k) = p57 F79 R x.1 x.2.1 (fun y1 => k (y1, ()) ()) := by kernel_rfl
noncomputable def F57 : FT57 := p57 F79
theorem env57 (R : Type) : EnvOK Try.prog (e57 F79 R) := ⟨tabOK, eqOK, callOf_ok (allE_cons ok79 allE_nil)⟩
theorem ok57 : (en57 F57).OK Try.prog :=
  ent_ok (Ef := fun R => e57 F79 R) (fun R => env57 R) mixed Try.func57 (body := codeOf Try.f57) (by kernel_rfl) (by kernel_rfl) (np := 0) (nt := 45) (fun _ => rfl) (fun _ => rfl) (by kernel_rfl) (res := res57) (by kernel_rfl) (fun _ => rfl) (fun _ => Nat.le_of_ble_eq_true rfl) (by
    intro R
    rw [show loopsOf (codeOf Try.f57) = [] from by kernel_rfl]
    exact allM_nil) (fun R x k => q57 F79 F57 R x k)
/-! drawlot/drawlotlaw07.alive -/
abbrev FT48 : Type 1 := (R : Type) → (Bool → Option R) → Option R
def en48 (F : FT48) : Ent := ⟨48, [], [(false, .bool)], fun R x k => F R  (fun y1 => k (y1, ()) ())⟩
def res48 : List (ResultVar × TypeId × Bool) := [(.tmp 0, 4, false)]
def e48 (F50 : FT50) (F53 : FT53) (F55 : FT55) (F57 : FT57) (F58 : FT58) (F60 : FT60) (R : Type) : Env R := ⟨TT, EQT, 0, 115, ownOf [], callOf [en50 F50, en53 F53, en55 F55, en57 F57, en58 F58, en60 F60] R, loopOf [] R⟩
def p48 (F50 : FT50) (F53 : FT53) (F55 : FT55) (F57 : FT57) (F58 : FT58) (F60 : FT60) : FT48 := fun R k =>
let v1 : (List Int) := ([(176 : Int)] : (List Int));
F58 R v1 (8 : Int) fun y2 y3 =>
F50 R y2 (3 : Int) fun y4 y5 y6 =>
F50 R y5 (6 : Int) fun y7 y8 y9 =>
let v10 : (List Int) := ([(176 : Int)] : (List Int));
F58 R v10 (9 : Int) fun y11 y12 =>
let v13 : (List Int) := (List.set (List.replicate 32 (0 : Int)) 0 (1 : Int));
F60 R v13 (7 : Int) fun y14 =>
F50 R y14 (65 : Int) fun y15 y16 y17 =>
F50 R y14 (64 : Int) fun y18 y19 y20 =>
let v21 : Bool := (y3 == (0 : Int));
(match v21 with
| true => let v22 : Bool := (y6 == (0 : Int));
(match v22 with
| true => let v23 : Bool := (y9 == (8 : Int));
(match v23 with
| true => let v24 : Bool := (y12 == (1 : Int));
(match v24 with
| true => let v25 : Bool := (y17 == (1 : Int));
(match v25 with
| true => let v26 : Bool := (y20 == (0 : Int));
(match v26 with
| true => let v27 : Bool := (y4 == (5 : Int));
(match v27 with
| true => F55 R y5 fun y28 =>
let v29 : Bool := (y28 == (5 : Int));
(match v29 with
| true => F57 R y5 y8 fun y30 =>
(match y30 with
| true => F57 R y2 y5 fun y31 =>
(match (!y31) with
| true => let v32 : Bool := (y19.2.2.2.2.2.1 == (64 : Int));
(match v32 with
| true => F55 R y14 fun y33 =>
let v34 : Bool := (y33 == (4611686018427387904 : Int));
(match v34 with
| true => F53 R y14 fun y35 =>
(match y35 with
| true => F53 R ((0 : Int), ([] : (List Int)), (0 : Int), (List.replicate 32 (0 : Int)), (0 : Int), (0 : Int), ()) fun y36 =>
k (!y36)
| false => k false)
| false => k false)
| false => k false)
| false => k false)
| false => k false)
| false => k false)
| false => k false)
| false => k false)
| false => k false)
| false => k false)
| false => k false)
| false => k false)
| false => k false)
theorem q48 (F50 : FT50) (F53 : FT53) (F55 : FT55) (F57 : FT57) (F58 : FT58) (F60 : FT60) (F : FT48) (R : Type) (x : AT (en48 F).ins) (k : RT (en48 F).outs → PT (en48 F).ins → Option R) :
  xfun (e48 F50 F53 F55 F57 F58 F60 R) (codeOf Try.f48) res48 (avs (en48 F).ins x) (finK (en48 F).outs (en48 F).ins k) = p48 F50 F53 F55 F57 F58 F60 R  (fun y1 => k (y1, ()) ()) := by kernel_rfl
noncomputable def F48 : FT48 := p48 F50 F53 F55 F57 F58 F60
theorem env48 (R : Type) : EnvOK Try.prog (e48 F50 F53 F55 F57 F58 F60 R) := ⟨tabOK, eqOK, callOf_ok (allE_cons ok50 (allE_cons ok53 (allE_cons ok55 (allE_cons ok57 (allE_cons ok58 (allE_cons ok60 allE_nil))))))⟩
theorem ok48 : (en48 F48).OK Try.prog :=
  ent_ok (Ef := fun R => e48 F50 F53 F55 F57 F58 F60 R) (fun R => env48 R) mixed Try.func48 (body := codeOf Try.f48) (by kernel_rfl) (by kernel_rfl) (np := 0) (nt := 115) (fun _ => rfl) (fun _ => rfl) (by kernel_rfl) (res := res48) (by kernel_rfl) (fun _ => rfl) (fun _ => Nat.le_of_ble_eq_true rfl) (by
    intro R
    rw [show loopsOf (codeOf Try.f48) = [] from by kernel_rfl]
    exact allM_nil) (fun R x k => q48 F50 F53 F55 F57 F58 F60 F48 R x k)
/-! drawlot/drawlotlaw07.great -/
abbrev FT49 : Type 1 := (R : Type) → (Int × ((List Int) × (Int × ((List Int) × (Int × (Int × Unit)))))) → (Bool → Option R) → Option R
def en49 (F : FT49) : Ent := ⟨49, [(false, (.pair (.int .i64) (.pair (.sl (.int .u8)) (.pair (.int .u64) (.pair (.arr 32 (.int .u8)) (.pair (.int .u64) (.pair (.int .u64) .unit)))))))], [(false, .bool)], fun R x k => F R x.1 (fun y1 => k (y1, ()) ())⟩
def res49 : List (ResultVar × TypeId × Bool) := [(.tmp 2, 4, false)]
def e49 (R : Type) : Env R := ⟨TT, EQT, 0, 7, ownOf [], callOf [] R, loopOf [] R⟩
def p49 : FT49 := fun R a0 k =>
let v1 : Int := (List.length a0.2.1 : Int);
let v2 : Bool := (decide (v1 > (500 : Int)));
k v2
theorem q49 (F : FT49) (R : Type) (x : AT (en49 F).ins) (k : RT (en49 F).outs → PT (en49 F).ins → Option R) :
  xfun (e49 R) (codeOf Try.f49) res49 (avs (en49 F).ins x) (finK (en49 F).outs (en49 F).ins k) = p49 R x.1 (fun y1 => k (y1, ()) ()) := by kernel_rfl
noncomputable def F49 : FT49 := p49
theorem env49 (R : Type) : EnvOK Try.prog (e49 R) := ⟨tabOK, eqOK, callOf_ok allE_nil⟩
theorem ok49 : (en49 F49).OK Try.prog :=
  ent_ok (Ef := fun R => e49 R) (fun R => env49 R) mixed Try.func49 (body := codeOf Try.f49) (by kernel_rfl) (by kernel_rfl) (np := 0) (nt := 7) (fun _ => rfl) (fun _ => rfl) (by kernel_rfl) (res := res49) (by kernel_rfl) (fun _ => rfl) (fun _ => Nat.le_of_ble_eq_true rfl) (by
    intro R
    rw [show loopsOf (codeOf Try.f49) = [] from by kernel_rfl]
    exact allM_nil) (fun R x k => q49 F49 R x k)
/-! drawlot/drawlotref07.Right -/
abbrev FT54 : Type 1 := (R : Type) → (Int × ((List Int) × (Int × ((List Int) × (Int × (Int × Unit)))))) → (Bool → Option R) → Option R
def en54 (F : FT54) : Ent := ⟨54, [(false, (.pair (.int .i64) (.pair (.sl (.int .u8)) (.pair (.int .u64) (.pair (.arr 32 (.int .u8)) (.pair (.int .u64) (.pair (.int .u64) .unit)))))))], [(false, .bool)], fun R x k => F R x.1 (fun y1 => k (y1, ()) ())⟩
def res54 : List (ResultVar × TypeId × Bool) := [(.tmp 2, 4, false)]
def e54 (R : Type) : Env R := ⟨TT, EQT, 0, 29, ownOf [], callOf [] R, loopOf [] R⟩
def p54 : FT54 := fun R a0 k =>
let v1 : Bool := (a0.1 == (1 : Int));
(match v1 with
| true => let v2 : Int := (List.length a0.2.1 : Int);
let v3 : Int := (IntKind.u64.wrap v2);
let v4 : Int := (IntKind.u64.wrap ((8 : Int) * v3));
let v5 : Bool := (decide (a0.2.2.1 ≤ v4));
(match v5 with
| true => let v6 : Bool := (decide (a0.2.2.2.2.2.1 ≤ a0.2.2.1));
k v6
| false => k false)
| false => let v7 : Bool := (a0.1 == (2 : Int));
(match v7 with
| true => let v8 : Bool := (decide (a0.2.2.2.2.2.1 ≤ (4611686018427387904 : Int)));
k v8
| false => k false))
theorem q54 (F : FT54) (R : Type) (x : AT (en54 F).ins) (k : RT (en54 F).outs → PT (en54 F).ins → Option R) :
  xfun (e54 R) (codeOf Try.f54) res54 (avs (en54 F).ins x) (finK (en54 F).outs (en54 F).ins k) = p54 R x.1 (fun y1 => k (y1, ()) ()) := by kernel_rfl
noncomputable def F54 : FT54 := p54
theorem env54 (R : Type) : EnvOK Try.prog (e54 R) := ⟨tabOK, eqOK, callOf_ok allE_nil⟩
theorem ok54 : (en54 F54).OK Try.prog :=
  ent_ok (Ef := fun R => e54 R) (fun R => env54 R) mixed Try.func54 (body := codeOf Try.f54) (by kernel_rfl) (by kernel_rfl) (np := 0) (nt := 29) (fun _ => rfl) (fun _ => rfl) (by kernel_rfl) (res := res54) (by kernel_rfl) (fun _ => rfl) (fun _ => Nat.le_of_ble_eq_true rfl) (by
    intro R
    rw [show loopsOf (codeOf Try.f54) = [] from by kernel_rfl]
    exact allM_nil) (fun R x k => q54 F54 R x k)
/-! drawlot/drawlotref07.Left -/
abbrev FT56 : Type 1 := (R : Type) → (Int × ((List Int) × (Int × ((List Int) × (Int × (Int × Unit)))))) → (Int → Option R) → Option R
def en56 (F : FT56) : Ent := ⟨56, [(false, (.pair (.int .i64) (.pair (.sl (.int .u8)) (.pair (.int .u64) (.pair (.arr 32 (.int .u8)) (.pair (.int .u64) (.pair (.int .u64) .unit)))))))], [(false, (.int .u64))], fun R x k => F R x.1 (fun y1 => k (y1, ()) ())⟩
def res56 : List (ResultVar × TypeId × Bool) := [(.tmp 2, 38, false)]
def e56 (F54 : FT54) (R : Type) : Env R := ⟨TT, EQT, 0, 17, ownOf [], callOf [en54 F54] R, loopOf [] R⟩
def p56 (F54 : FT54) : FT56 := fun R a0 k =>
F54 R a0 fun y1 =>
(match (!y1) with
| true => k (0 : Int)
| false => let v2 : Bool := (a0.1 == (1 : Int));
(match v2 with
| true => let v3 : Int := (IntKind.u64.wrap (a0.2.2.1 - a0.2.2.2.2.2.1));
k v3
| false => let v4 : Int := (IntKind.u64.wrap ((4611686018427387904 : Int) - a0.2.2.2.2.2.1));
k v4))
theorem q56 (F54 : FT54) (F : FT56) (R : Type) (x : AT (en56 F).ins) (k : RT (en56 F).outs → PT (en56 F).ins → Option R) :
  xfun (e56 F54 R) (codeOf Try.f56) res56 (avs (en56 F).ins x) (finK (en56 F).outs (en56 F).ins k) = p56 F54 R x.1 (fun y1 => k (y1, ()) ()) := by kernel_rfl
noncomputable def F56 : FT56 := p56 F54
theorem env56 (R : Type) : EnvOK Try.prog (e56 F54 R) := ⟨tabOK, eqOK, callOf_ok (allE_cons ok54 allE_nil)⟩
theorem ok56 : (en56 F56).OK Try.prog :=
  ent_ok (Ef := fun R => e56 F54 R) (fun R => env56 R) mixed Try.func56 (body := codeOf Try.f56) (by kernel_rfl) (by kernel_rfl) (np := 0) (nt := 17) (fun _ => rfl) (fun _ => rfl) (by kernel_rfl) (res := res56) (by kernel_rfl) (fun _ => rfl) (fun _ => Nat.le_of_ble_eq_true rfl) (by
    intro R
    rw [show loopsOf (codeOf Try.f56) = [] from by kernel_rfl]
    exact allM_nil) (fun R x k => q56 F54 F56 R x k)
/-! drawlot/drawlotref07.bit -/
abbrev FT77 : Type 1 := (R : Type) → (Int × ((List Int) × (Int × ((List Int) × (Int × (Int × Unit)))))) → Int → (Int → Option R) → Option R
def en77 (F : FT77) : Ent := ⟨77, [(false, (.pair (.int .i64) (.pair (.sl (.int .u8)) (.pair (.int .u64) (.pair (.arr 32 (.int .u8)) (.pair (.int .u64) (.pair (.int .u64) .unit))))))), (false, (.int .u64))], [(false, (.int .u64))], fun R x k => F R x.1 x.2.1 (fun y1 => k (y1, ()) ())⟩
def res77 : List (ResultVar × TypeId × Bool) := [(.tmp 4, 38, false)]
def e77 (F41 : FT41) (F47 : FT47) (R : Type) : Env R := ⟨TT, EQT, 0, 28, ownOf [], callOf [en41 F41, en47 F47] R, loopOf [] R⟩
def p77 (F41 : FT41) (F47 : FT47) : FT77 := fun R a0 a1 k =>
let v1 : Bool := (a0.1 == (2 : Int));
(match v1 with
| true => F41 R a0.2.2.2.1 a0.2.2.2.2.1 a1 fun y2 =>
k y2
| false => let v3 : Int := (IntKind.u64.wrap (Int.tdiv a1 (8 : Int)));
(match (bnd v3 (List.length a0.2.1 : Int)) with
| true => let v4 : Int := (List.getD a0.2.1 (Int.toNat v3) (0 : Int));
let v5 : Int := (IntKind.u32.wrap v4);
let v6 : Int := (Int.tmod a1 (8 : Int));
let v7 : Int := (IntKind.i64.wrap v6);
let v8 : Int := (IntKind.i64.wrap ((7 : Int) - v7));
F47 R v5 v8 fun y9 =>
let v10 : Int := (Int.tmod y9 (2 : Int));
let v11 : Int := (IntKind.u64.wrap v10);
k v11
| false => none))
theorem q77 (F41 : FT41) (F47 : FT47) (F : FT77) (R : Type) (x : AT (en77 F).ins) (k : RT (en77 F).outs → PT (en77 F).ins → Option R) :
  xfun (e77 F41 F47 R) (codeOf Try.f77) res77 (avs (en77 F).ins x) (finK (en77 F).outs (en77 F).ins k) = p77 F41 F47 R x.1 x.2.1 (fun y1 => k (y1, ()) ()) := by kernel_rfl
noncomputable def F77 : FT77 := p77 F41 F47
theorem env77 (R : Type) : EnvOK Try.prog (e77 F41 F47 R) := ⟨tabOK, eqOK, callOf_ok (allE_cons ok41 (allE_cons ok47 allE_nil))⟩
theorem ok77 : (en77 F77).OK Try.prog :=
  ent_ok (Ef := fun R => e77 F41 F47 R) (fun R => env77 R) mixed Try.func77 (body := codeOf Try.f77) (by kernel_rfl) (by kernel_rfl) (np := 0) (nt := 28) (fun _ => rfl) (fun _ => rfl) (by kernel_rfl) (res := res77) (by kernel_rfl) (fun _ => rfl) (fun _ => Nat.le_of_ble_eq_true rfl) (by
    intro R
    rw [show loopsOf (codeOf Try.f77) = [] from by kernel_rfl]
    exact allM_nil) (fun R x k => q77 F41 F47 F77 R x k)
/-! drawlot/drawlotref07.Take -/
abbrev FT51 : Type 1 := (R : Type) → (Int × ((List Int) × (Int × ((List Int) × (Int × (Int × Unit)))))) → Int → (Int → (Int × ((List Int) × (Int × ((List Int) × (Int × (Int × Unit)))))) → Int → Option R) → Option R
def en51 (F : FT51) : Ent := ⟨51, [(false, (.pair (.int .i64) (.pair (.sl (.int .u8)) (.pair (.int .u64) (.pair (.arr 32 (.int .u8)) (.pair (.int .u64) (.pair (.int .u64) .unit))))))), (false, (.int .i64))], [(false, (.int .u64)), (false, (.pair (.int .i64) (.pair (.sl (.int .u8)) (.pair (.int .u64) (.pair (.arr 32 (.int .u8)) (.pair (.int .u64) (.pair (.int .u64) .unit))))))), (false, (.int .i64))], fun R x k => F R x.1 x.2.1 (fun y1 y2 y3 => k (y1, y2, y3, ()) ())⟩
def res51 : List (ResultVar × TypeId × Bool) := [(.tmp 4, 38, false), (.cell 5 59, 59, false), (.tmp 6, 61, false)]
abbrev LT51_7 : Type 1 := (R : Type) → Int → Int → Int → (Int × ((List Int) × (Int × ((List Int) × (Int × (Int × Unit)))))) → (Int × ((List Int) × (Int × ((List Int) × (Int × (Int × Unit)))))) → (Int → (Int × ((List Int) × (Int × ((List Int) × (Int × (Int × Unit)))))) → (Int × ((List Int) × (Int × ((List Int) × (Int × (Int × Unit)))))) → Option R) → Option R
def le51_7 (L : LT51_7) : LEnt := ⟨7, [.val 1 (.int .i64), .fix 2 (.ptr 0 [] (.pair (.int .i64) (.pair (.sl (.int .u8)) (.pair (.int .u64) (.pair (.arr 32 (.int .u8)) (.pair (.int .u64) (.pair (.int .u64) .unit))))))), .fix 5 (.ptr 1 [] (.pair (.int .i64) (.pair (.sl (.int .u8)) (.pair (.int .u64) (.pair (.arr 32 (.int .u8)) (.pair (.int .u64) (.pair (.int .u64) .unit))))))), .val 7 (.int .u64), .val 8 (.int .i64), .var 0 (.pair (.int .i64) (.pair (.sl (.int .u8)) (.pair (.int .u64) (.pair (.arr 32 (.int .u8)) (.pair (.int .u64) (.pair (.int .u64) .unit)))))) false, .var 1 (.pair (.int .i64) (.pair (.sl (.int .u8)) (.pair (.int .u64) (.pair (.arr 32 (.int .u8)) (.pair (.int .u64) (.pair (.int .u64) .unit)))))) false], 2, [(.exit 0, [.fix 2 (.ptr 0 [] (.pair (.int .i64) (.pair (.sl (.int .u8)) (.pair (.int .u64) (.pair (.arr 32 (.int .u8)) (.pair (.int .u64) (.pair (.int .u64) .unit))))))), .fix 5 (.ptr 1 [] (.pair (.int .i64) (.pair (.sl (.int .u8)) (.pair (.int .u64) (.pair (.arr 32 (.int .u8)) (.pair (.int .u64) (.pair (.int .u64) .unit))))))), .val 7 (.int .u64), .var 0 (.pair (.int .i64) (.pair (.sl (.int .u8)) (.pair (.int .u64) (.pair (.arr 32 (.int .u8)) (.pair (.int .u64) (.pair (.int .u64) .unit)))))) false, .var 1 (.pair (.int .i64) (.pair (.sl (.int .u8)) (.pair (.int .u64) (.pair (.arr 32 (.int .u8)) (.pair (.int .u64) (.pair (.int .u64) .unit)))))) false])], fun R x ke => L R x.1 x.2.1 x.2.2.1 x.2.2.2.1 x.2.2.2.2.1 (fun y1 y2 y3 => ke.1 (y1, y2, y3, ()))⟩
def e51 (F54 : FT54) (F56 : FT56) (F77 : FT77) (L7 : LT51_7) (R : Type) : Env R := ⟨TT, EQT, 0, 45, ownOf [], callOf [en54 F54, en56 F56, en77 F77] R, loopOf [le51_7 L7] R⟩
def p51_7 (F77 : FT77) : (R : Type) → Int → Int → Int → (Int × ((List Int) × (Int × ((List Int) × (Int × (Int × Unit)))))) → (Int × ((List Int) × (Int × ((List Int) × (Int × (Int × Unit)))))) → (Int → Int → Int → (Int × ((List Int) × (Int × ((List Int) × (Int × (Int × Unit)))))) → (Int × ((List Int) × (Int × ((List Int) × (Int × (Int × Unit)))))) → Option R) → (Int → (Int × ((List Int) × (Int × ((List Int) × (Int × (Int × Unit)))))) → (Int × ((List Int) × (Int × ((List Int) × (Int × (Int × Unit)))))) → Option R) → Option R := fun R x1 x2 x3 x4 x5 kc k0 =>
let v6 : Bool := (decide (x3 < x1));
(match v6 with
| true => let v7 : Int := (IntKind.u64.wrap ((2 : Int) * x2));
F77 R x4 x4.2.2.2.2.2.1 fun y8 =>
let v9 : Int := (IntKind.u64.wrap (v7 + y8));
let v10 : Int := (IntKind.u64.wrap (x4.2.2.2.2.2.1 + (1 : Int)));
let v11 : Int := (IntKind.i64.wrap (x3 + (1 : Int)));
kc x1 v9 v11 (x4.1, x4.2.1, x4.2.2.1, x4.2.2.2.1, x4.2.2.2.2.1, v10, x4.2.2.2.2.2.2) x5
| false => k0 x2 x4 x5)
theorem q51_7 (F54 : FT54) (F56 : FT56) (F77 : FT77) (L7 : LT51_7) (R : Type) (x : HT (le51_7 L7).H) (kc : HT (le51_7 L7).H → Option R) (ke : KT R (le51_7 L7).exs) :
  exec (e51 F54 F56 F77 L7 R) (lcode 7 (codeOf Try.f51)) (stOf (le51_7 L7).H x 2) (roundK (le51_7 L7).H (le51_7 L7).exs kc ke) =
    p51_7 F77 R x.1 x.2.1 x.2.2.1 x.2.2.2.1 x.2.2.2.2.1 (fun x1 x2 x3 x4 x5 => kc (x1, x2, x3, x4, x5, ())) (fun y1 y2 y3 => ke.1 (y1, y2, y3, ())) := by kernel_rfl
noncomputable def G51_7 : Nat → LT51_7
  | 0 => fun _ _ _ _ _ _ _ => none
  | n + 1 => fun R x1 x2 x3 x4 x5 k0 => p51_7 F77 R x1 x2 x3 x4 x5 (fun x1 x2 x3 x4 x5 => G51_7 n R x1 x2 x3 x4 x5 k0) k0
def p51 (F54 : FT54) (F56 : FT56) (L7 : LT51_7) : FT51 := fun R a0 a1 k =>
F54 R a0 fun y1 =>
(match (!y1) with
| true => k (0 : Int) a0 (1 : Int)
| false => let v2 : Bool := (decide (a1 < (0 : Int)));
(match v2 with
| true => k (0 : Int) a0 (1 : Int)
| false => let v3 : Bool := (decide (a1 > (64 : Int)));
(match v3 with
| true => k (0 : Int) a0 (1 : Int)
| false => let v4 : Int := (IntKind.u64.wrap a1);
F56 R a0 fun y5 =>
let v6 : Bool := (decide (v4 > y5));
(match v6 with
| true => k (0 : Int) a0 (8 : Int)
| false => L7 R a1 (0 : Int) (0 : Int) a0 ((0 : Int), ([] : (List Int)), (0 : Int), (List.replicate 32 (0 : Int)), (0 : Int), (0 : Int), ()) (fun x7 x8 x9 =>
k x7 x8 (0 : Int))))))
theorem q51 (F54 : FT54) (F56 : FT56) (F77 : FT77) (L7 : LT51_7) (F : FT51) (R : Type) (x : AT (en51 F).ins) (k : RT (en51 F).outs → PT (en51 F).ins → Option R) :
  xfun (e51 F54 F56 F77 L7 R) (codeOf Try.f51) res51 (avs (en51 F).ins x) (finK (en51 F).outs (en51 F).ins k) = p51 F54 F56 L7 R x.1 x.2.1 (fun y1 y2 y3 => k (y1, y2, y3, ()) ()) := by kernel_rfl
noncomputable def F51 : FT51 := p51 F54 F56 (G51_7 FUEL)
theorem env51 (R : Type) : EnvOK Try.prog (e51 F54 F56 F77 (G51_7 FUEL) R) := ⟨tabOK, eqOK, callOf_ok (allE_cons ok54 (allE_cons ok56 (allE_cons ok77 allE_nil)))⟩
noncomputable def T51_7 : (R : Type) → HT (le51_7 (G51_7 FUEL)).H → (HT (le51_7 (G51_7 FUEL)).H → Option R) → KT R (le51_7 (G51_7 FUEL)).exs → Option R := fun R x kc ke => p51_7 F77 R x.1 x.2.1 x.2.2.1 x.2.2.2.1 x.2.2.2.2.1 (fun x1 x2 x3 x4 x5 => kc (x1, x2, x3, x4, x5, ())) (fun y1 y2 y3 => ke.1 (y1, y2, y3, ()))
theorem it51_7 : ∀ (n : Nat) (R : Type) (x : HT (le51_7 (G51_7 FUEL)).H) (ke : KT R (le51_7 (G51_7 FUEL)).exs), iter T51_7 n R x ke = G51_7 n R x.1 x.2.1 x.2.2.1 x.2.2.2.1 x.2.2.2.2.1 (fun y1 y2 y3 => ke.1 (y1, y2, y3, ())) := by
  intro n
  induction n with
  | zero => intro R x ke; rfl
  | succ n ih =>
    intro R x ke
    show T51_7 R x (fun x' => iter T51_7 n R x' ke) ke = _
    rw [show (fun x' => iter T51_7 n R x' ke) = fun x => G51_7 n R x.1 x.2.1 x.2.2.1 x.2.2.2.1 x.2.2.2.2.1 (fun y1 y2 y3 => ke.1 (y1, y2, y3, ())) from funext fun x' => ih R x' ke]
    rfl
theorem lok51_7 : (le51_7 (G51_7 FUEL)).OK Try.prog 0 45 (lcode 7 (codeOf Try.f51)) := fun R x ke r h =>
  iter_sound (fun R => e51 F54 F56 F77 (G51_7 FUEL) R) 0 45 (fun _ => rfl) (fun _ => rfl) (fun R => env51 R) mixed (by
    intro R
    rw [show loopsOf (lcode 7 (codeOf Try.f51)) = [] from by kernel_rfl]
    exact allM_nil) (T := T51_7) (fun R x kc ke => q51_7 F54 F56 F77 (G51_7 FUEL) R x kc ke) FUEL R x ke r ((it51_7 FUEL R x ke).trans h)
theorem ok51 : (en51 F51).OK Try.prog :=
  ent_ok (Ef := fun R => e51 F54 F56 F77 (G51_7 FUEL) R) (fun R => env51 R) mixed Try.func51 (body := codeOf Try.f51) (by kernel_rfl) (by kernel_rfl) (np := 0) (nt := 45) (fun _ => rfl) (fun _ => rfl) (by kernel_rfl) (res := res51) (by kernel_rfl) (fun _ => rfl) (fun _ => Nat.le_of_ble_eq_true rfl) (by
    intro R
    rw [show loopsOf (codeOf Try.f51) = [lcode 7 (codeOf Try.f51)] from by kernel_rfl]
    exact (allM_cons (loop_ok2 (e := le51_7 (G51_7 FUEL)) rfl rfl lok51_7) allM_nil)) (fun R x k => q51 F54 F56 F77 (G51_7 FUEL) F51 R x k)
/-! drawlot/drawlotref07.Same -/
abbrev FT52 : Type 1 := (R : Type) → (Int × ((List Int) × (Int × ((List Int) × (Int × (Int × Unit)))))) → (Int × ((List Int) × (Int × ((List Int) × (Int × (Int × Unit)))))) → (Bool → Option R) → Option R
def en52 (F : FT52) : Ent := ⟨52, [(false, (.pair (.int .i64) (.pair (.sl (.int .u8)) (.pair (.int .u64) (.pair (.arr 32 (.int .u8)) (.pair (.int .u64) (.pair (.int .u64) .unit))))))), (false, (.pair (.int .i64) (.pair (.sl (.int .u8)) (.pair (.int .u64) (.pair (.arr 32 (.int .u8)) (.pair (.int .u64) (.pair (.int .u64) .unit)))))))], [(false, .bool)], fun R x k => F R x.1 x.2.1 (fun y1 => k (y1, ()) ())⟩
def res52 : List (ResultVar × TypeId × Bool) := [(.tmp 4, 4, false)]
def e52 (R : Type) : Env R := ⟨TT, EQT, 0, 47, ownOf [], callOf [] R, loopOf [] R⟩
def p52 : FT52 := fun R a0 a1 k =>
let v1 : Bool := (a0.1 == a1.1);
(match v1 with
| true => let v2 : ByteArray := (strOf a0.2.1);
let v3 : ByteArray := (strOf a1.2.1);
let v4 : Bool := (ByteArray.toList v2 == ByteArray.toList v3);
(match v4 with
| true => let v5 : Bool := (a0.2.2.1 == a1.2.2.1);
(match v5 with
| true => let v6 : Bool := (Kd.eqv (.arr 32 (.int .u8)) a0.2.2.2.1 a1.2.2.2.1);
(match v6 with
| true => let v7 : Bool := (a0.2.2.2.2.1 == a1.2.2.2.2.1);
(match v7 with
| true => let v8 : Bool := (a0.2.2.2.2.2.1 == a1.2.2.2.2.2.1);
k v8
| false => k false)
| false => k false)
| false => k false)
| false => k false)
| false => k false)
theorem q52 (F : FT52) (R : Type) (x : AT (en52 F).ins) (k : RT (en52 F).outs → PT (en52 F).ins → Option R) :
  xfun (e52 R) (codeOf Try.f52) res52 (avs (en52 F).ins x) (finK (en52 F).outs (en52 F).ins k) = p52 R x.1 x.2.1 (fun y1 => k (y1, ()) ()) := by kernel_rfl
noncomputable def F52 : FT52 := p52
theorem env52 (R : Type) : EnvOK Try.prog (e52 R) := ⟨tabOK, eqOK, callOf_ok allE_nil⟩
theorem ok52 : (en52 F52).OK Try.prog :=
  ent_ok (Ef := fun R => e52 R) (fun R => env52 R) mixed Try.func52 (body := codeOf Try.f52) (by kernel_rfl) (by kernel_rfl) (np := 0) (nt := 47) (fun _ => rfl) (fun _ => rfl) (by kernel_rfl) (res := res52) (by kernel_rfl) (fun _ => rfl) (fun _ => Nat.le_of_ble_eq_true rfl) (by
    intro R
    rw [show loopsOf (codeOf Try.f52) = [] from by kernel_rfl]
    exact allM_nil) (fun R x k => q52 F52 R x k)
/-! drawlot/drawlotlaw07.TapeTakes -/
abbrev FT13 : Type 1 := (R : Type) → (Int × ((List Int) × (Int × ((List Int) × (Int × (Int × Unit)))))) → (Int × ((List Int) × (Int × ((List Int) × (Int × (Int × Unit)))))) → Int → (Bool → Option R) → Option R
def en13 (F : FT13) : Ent := ⟨13, [(false, (.pair (.int .i64) (.pair (.sl (.int .u8)) (.pair (.int .u64) (.pair (.arr 32 (.int .u8)) (.pair (.int .u64) (.pair (.int .u64) .unit))))))), (false, (.pair (.int .i64) (.pair (.sl (.int .u8)) (.pair (.int .u64) (.pair (.arr 32 (.int .u8)) (.pair (.int .u64) (.pair (.int .u64) .unit))))))), (false, (.int .i64))], [(false, .bool)], fun R x k => F R x.1 x.2.1 x.2.2.1 (fun y1 => k (y1, ()) ())⟩
def res13 : List (ResultVar × TypeId × Bool) := [(.tmp 6, 4, false)]
def e13 (F48 : FT48) (F49 : FT49) (F50 : FT50) (F51 : FT51) (F52 : FT52) (F53 : FT53) (F54 : FT54) (F55 : FT55) (F56 : FT56) (F57 : FT57) (R : Type) : Env R := ⟨TT, EQT, 0, 84, ownOf [(5, 0)], callOf [en48 F48, en49 F49, en50 F50, en51 F51, en52 F52, en53 F53, en54 F54, en55 F55, en56 F56, en57 F57] R, loopOf [] R⟩
def p13 (F48 : FT48) (F49 : FT49) (F50 : FT50) (F51 : FT51) (F52 : FT52) (F53 : FT53) (F54 : FT54) (F55 : FT55) (F56 : FT56) (F57 : FT57) : FT13 := fun R a0 a1 a2 k =>
F48 R  fun y1 =>
(match (!y1) with
| true => k false
| false => F49 R a0 fun y2 =>
(match y2 with
| true => k true
| false => F49 R a1 fun y3 =>
(match y3 with
| true => k true
| false => let v4 : (List Int) := ([] : (List Int));
(match (decide (List.length v4 + List.length a0.2.1 ≤ 140737488355328)) with
| true => let v5 : (List Int) := (v4 ++ a0.2.1);
F50 R a0 a2 fun y6 y7 y8 =>
F51 R a0 a2 fun y9 y10 y11 =>
let v12 : Bool := (y6 == y9);
(match v12 with
| true => F52 R y7 y10 fun y13 =>
(match y13 with
| true => let v14 : Bool := (y8 == y11);
(match v14 with
| true => F53 R a0 fun y15 =>
F54 R a0 fun y16 =>
let v17 : Bool := (y15 == y16);
(match v17 with
| true => F55 R a0 fun y18 =>
F56 R a0 fun y19 =>
let v20 : Bool := (y18 == y19);
(match v20 with
| true => F57 R a0 a1 fun y21 =>
F52 R a0 a1 fun y22 =>
let v23 : Bool := (y21 == y22);
(match v23 with
| true => let v24 : ByteArray := (strOf v5);
let v25 : ByteArray := (strOf a0.2.1);
let v26 : Bool := (ByteArray.toList v24 == ByteArray.toList v25);
k v26
| false => k false)
| false => k false)
| false => k false)
| false => k false)
| false => k false)
| false => k false)
| false => none))))
theorem q13 (F48 : FT48) (F49 : FT49) (F50 : FT50) (F51 : FT51) (F52 : FT52) (F53 : FT53) (F54 : FT54) (F55 : FT55) (F56 : FT56) (F57 : FT57) (F : FT13) (R : Type) (x : AT (en13 F).ins) (k : RT (en13 F).outs → PT (en13 F).ins → Option R) :
  xfun (e13 F48 F49 F50 F51 F52 F53 F54 F55 F56 F57 R) (codeOf Try.f13) res13 (avs (en13 F).ins x) (finK (en13 F).outs (en13 F).ins k) = p13 F48 F49 F50 F51 F52 F53 F54 F55 F56 F57 R x.1 x.2.1 x.2.2.1 (fun y1 => k (y1, ()) ()) := by kernel_rfl
noncomputable def F13 : FT13 := p13 F48 F49 F50 F51 F52 F53 F54 F55 F56 F57
theorem env13 (R : Type) : EnvOK Try.prog (e13 F48 F49 F50 F51 F52 F53 F54 F55 F56 F57 R) := ⟨tabOK, eqOK, callOf_ok (allE_cons ok48 (allE_cons ok49 (allE_cons ok50 (allE_cons ok51 (allE_cons ok52 (allE_cons ok53 (allE_cons ok54 (allE_cons ok55 (allE_cons ok56 (allE_cons ok57 allE_nil))))))))))⟩
theorem ok13 : (en13 F13).OK Try.prog :=
  ent_ok (Ef := fun R => e13 F48 F49 F50 F51 F52 F53 F54 F55 F56 F57 R) (fun R => env13 R) mixed Try.func13 (body := codeOf Try.f13) (by kernel_rfl) (by kernel_rfl) (np := 0) (nt := 84) (fun _ => rfl) (fun _ => rfl) (by kernel_rfl) (res := res13) (by kernel_rfl) (fun _ => rfl) (fun _ => Nat.le_of_ble_eq_true rfl) (by
    intro R
    rw [show loopsOf (codeOf Try.f13) = [] from by kernel_rfl]
    exact allM_nil) (fun R x k => q13 F48 F49 F50 F51 F52 F53 F54 F55 F56 F57 F13 R x k)
/-! drawlot/drawlotref07.Tape -/
abbrev FT59 : Type 1 := (R : Type) → (List Int) → Int → ((Int × ((List Int) × (Int × ((List Int) × (Int × (Int × Unit)))))) → Int → Option R) → Option R
def en59 (F : FT59) : Ent := ⟨59, [(false, (.sl (.int .u8))), (false, (.int .u64))], [(false, (.pair (.int .i64) (.pair (.sl (.int .u8)) (.pair (.int .u64) (.pair (.arr 32 (.int .u8)) (.pair (.int .u64) (.pair (.int .u64) .unit))))))), (false, (.int .i64))], fun R x k => F R x.1 x.2.1 (fun y1 y2 => k (y1, y2, ()) ())⟩
def res59 : List (ResultVar × TypeId × Bool) := [(.cell 4 59, 59, false), (.tmp 5, 61, false)]
def e59 (R : Type) : Env R := ⟨TT, EQT, 0, 18, ownOf [(3, 0)], callOf [] R, loopOf [] R⟩
def p59 : FT59 := fun R a0 a1 k =>
let v1 : Int := (List.length a0 : Int);
let v2 : Int := (IntKind.u64.wrap v1);
let v3 : Int := (IntKind.u64.wrap ((8 : Int) * v2));
let v4 : Bool := (decide (a1 > v3));
(match v4 with
| true => k ((0 : Int), ([] : (List Int)), (0 : Int), (List.replicate 32 (0 : Int)), (0 : Int), (0 : Int), ()) (1 : Int)
| false => let v5 : (List Int) := ([] : (List Int));
(match (decide (List.length v5 + List.length a0 ≤ 140737488355328)) with
| true => let v6 : (List Int) := (v5 ++ a0);
k ((1 : Int), v6, a1, (List.replicate 32 (0 : Int)), (0 : Int), (0 : Int), ()) (0 : Int)
| false => none))
theorem q59 (F : FT59) (R : Type) (x : AT (en59 F).ins) (k : RT (en59 F).outs → PT (en59 F).ins → Option R) :
  xfun (e59 R) (codeOf Try.f59) res59 (avs (en59 F).ins x) (finK (en59 F).outs (en59 F).ins k) = p59 R x.1 x.2.1 (fun y1 y2 => k (y1, y2, ()) ()) := by kernel_rfl
noncomputable def F59 : FT59 := p59
theorem env59 (R : Type) : EnvOK Try.prog (e59 R) := ⟨tabOK, eqOK, callOf_ok allE_nil⟩
theorem ok59 : (en59 F59).OK Try.prog :=
  ent_ok (Ef := fun R => e59 R) (fun R => env59 R) mixed Try.func59 (body := codeOf Try.f59) (by kernel_rfl) (by kernel_rfl) (np := 0) (nt := 18) (fun _ => rfl) (fun _ => rfl) (by kernel_rfl) (res := res59) (by kernel_rfl) (fun _ => rfl) (fun _ => Nat.le_of_ble_eq_true rfl) (by
    intro R
    rw [show loopsOf (codeOf Try.f59) = [] from by kernel_rfl]
    exact allM_nil) (fun R x k => q59 F59 R x k)
/-! drawlot/drawlotlaw07.TapeMakes -/
abbrev FT14 : Type 1 := (R : Type) → (List Int) → Int → (List Int) → (Bool → Option R) → Option R
def en14 (F : FT14) : Ent := ⟨14, [(false, (.sl (.int .u8))), (false, (.int .u64)), (false, (.arr 32 (.int .u8)))], [(false, .bool)], fun R x k => F R x.1 x.2.1 x.2.2.1 (fun y1 => k (y1, ()) ())⟩
def res14 : List (ResultVar × TypeId × Bool) := [(.tmp 6, 4, false)]
def e14 (F48 : FT48) (F52 : FT52) (F58 : FT58) (F59 : FT59) (F60 : FT60) (R : Type) : Env R := ⟨TT, EQT, 0, 47, ownOf [], callOf [en48 F48, en52 F52, en58 F58, en59 F59, en60 F60] R, loopOf [] R⟩
def p14 (F48 : FT48) (F52 : FT52) (F58 : FT58) (F59 : FT59) (F60 : FT60) : FT14 := fun R a0 a1 a2 k =>
F48 R  fun y1 =>
(match (!y1) with
| true => k false
| false => let v2 : Int := (List.length a0 : Int);
let v3 : Bool := (decide (v2 > (500 : Int)));
(match v3 with
| true => k true
| false => F58 R a0 a1 fun y4 y5 =>
F59 R a0 a1 fun y6 y7 =>
F60 R a2 a1 fun y8 =>
F52 R y4 y6 fun y9 =>
(match y9 with
| true => let v10 : Bool := (y5 == y7);
(match v10 with
| true => F52 R y8 ((2 : Int), ([] : (List Int)), (0 : Int), a2, a1, (0 : Int), ()) fun y11 =>
k y11
| false => k false)
| false => k false)))
theorem q14 (F48 : FT48) (F52 : FT52) (F58 : FT58) (F59 : FT59) (F60 : FT60) (F : FT14) (R : Type) (x : AT (en14 F).ins) (k : RT (en14 F).outs → PT (en14 F).ins → Option R) :
  xfun (e14 F48 F52 F58 F59 F60 R) (codeOf Try.f14) res14 (avs (en14 F).ins x) (finK (en14 F).outs (en14 F).ins k) = p14 F48 F52 F58 F59 F60 R x.1 x.2.1 x.2.2.1 (fun y1 => k (y1, ()) ()) := by kernel_rfl
noncomputable def F14 : FT14 := p14 F48 F52 F58 F59 F60
theorem env14 (R : Type) : EnvOK Try.prog (e14 F48 F52 F58 F59 F60 R) := ⟨tabOK, eqOK, callOf_ok (allE_cons ok48 (allE_cons ok52 (allE_cons ok58 (allE_cons ok59 (allE_cons ok60 allE_nil)))))⟩
theorem ok14 : (en14 F14).OK Try.prog :=
  ent_ok (Ef := fun R => e14 F48 F52 F58 F59 F60 R) (fun R => env14 R) mixed Try.func14 (body := codeOf Try.f14) (by kernel_rfl) (by kernel_rfl) (np := 0) (nt := 47) (fun _ => rfl) (fun _ => rfl) (by kernel_rfl) (res := res14) (by kernel_rfl) (fun _ => rfl) (fun _ => Nat.le_of_ble_eq_true rfl) (by
    intro R
    rw [show loopsOf (codeOf Try.f14) = [] from by kernel_rfl]
    exact allM_nil) (fun R x k => q14 F48 F52 F58 F59 F60 F14 R x k)
/-! drawlot/drawlotlaw07.TapeBits -/
abbrev FT15 : Type 1 := (R : Type) → (Int × ((List Int) × (Int × ((List Int) × (Int × (Int × Unit)))))) → Int → (Bool → Option R) → Option R
def en15 (F : FT15) : Ent := ⟨15, [(false, (.pair (.int .i64) (.pair (.sl (.int .u8)) (.pair (.int .u64) (.pair (.arr 32 (.int .u8)) (.pair (.int .u64) (.pair (.int .u64) .unit))))))), (false, (.int .u8))], [(false, .bool)], fun R x k => F R x.1 x.2.1 (fun y1 => k (y1, ()) ())⟩
def res15 : List (ResultVar × TypeId × Bool) := [(.tmp 4, 4, false)]
abbrev LT15_11 : Type 1 := (R : Type) → Int → Int → Int → Int → (Int × ((List Int) × (Int × ((List Int) × (Int × (Int × Unit)))))) → (Int × ((List Int) × (Int × ((List Int) × (Int × (Int × Unit)))))) → (Bool → Option R) → (Int → Int → (Int × ((List Int) × (Int × ((List Int) × (Int × (Int × Unit)))))) → (Int × ((List Int) × (Int × ((List Int) × (Int × (Int × Unit)))))) → Option R) → Option R
def le15_11 (L : LT15_11) : LEnt := ⟨11, [.val 5 (.int .i64), .val 6 (.int .u64), .fix 7 (.ptr 1 [] (.pair (.int .i64) (.pair (.sl (.int .u8)) (.pair (.int .u64) (.pair (.arr 32 (.int .u8)) (.pair (.int .u64) (.pair (.int .u64) .unit))))))), .val 9 (.int .u64), .fix 10 (.ptr 2 [] (.pair (.int .i64) (.pair (.sl (.int .u8)) (.pair (.int .u64) (.pair (.arr 32 (.int .u8)) (.pair (.int .u64) (.pair (.int .u64) .unit))))))), .val 11 (.int .i64), .var 1 (.pair (.int .i64) (.pair (.sl (.int .u8)) (.pair (.int .u64) (.pair (.arr 32 (.int .u8)) (.pair (.int .u64) (.pair (.int .u64) .unit)))))) false, .var 2 (.pair (.int .i64) (.pair (.sl (.int .u8)) (.pair (.int .u64) (.pair (.arr 32 (.int .u8)) (.pair (.int .u64) (.pair (.int .u64) .unit)))))) false], 3, [(.ret, [.val 4 .bool]), (.exit 0, [.val 6 (.int .u64), .fix 7 (.ptr 1 [] (.pair (.int .i64) (.pair (.sl (.int .u8)) (.pair (.int .u64) (.pair (.arr 32 (.int .u8)) (.pair (.int .u64) (.pair (.int .u64) .unit))))))), .val 9 (.int .u64), .fix 10 (.ptr 2 [] (.pair (.int .i64) (.pair (.sl (.int .u8)) (.pair (.int .u64) (.pair (.arr 32 (.int .u8)) (.pair (.int .u64) (.pair (.int .u64) .unit))))))), .var 1 (.pair (.int .i64) (.pair (.sl (.int .u8)) (.pair (.int .u64) (.pair (.arr 32 (.int .u8)) (.pair (.int .u64) (.pair (.int .u64) .unit)))))) false, .var 2 (.pair (.int .i64) (.pair (.sl (.int .u8)) (.pair (.int .u64) (.pair (.arr 32 (.int .u8)) (.pair (.int .u64) (.pair (.int .u64) .unit)))))) false])], fun R x ke => L R x.1 x.2.1 x.2.2.1 x.2.2.2.1 x.2.2.2.2.1 x.2.2.2.2.2.1 (fun y1 => ke.1 (y1, ())) (fun y1 y2 y3 y4 => ke.2.1 (y1, y2, y3, y4, ()))⟩
def e15 (F48 : FT48) (F49 : FT49) (F50 : FT50) (F52 : FT52) (F55 : FT55) (L11 : LT15_11) (R : Type) : Env R := ⟨TT, EQT, 0, 85, ownOf [], callOf [en48 F48, en49 F49, en50 F50, en52 F52, en55 F55] R, loopOf [le15_11 L11] R⟩
def p15_11 (F50 : FT50) (F55 : FT55) : (R : Type) → Int → Int → Int → Int → (Int × ((List Int) × (Int × ((List Int) × (Int × (Int × Unit)))))) → (Int × ((List Int) × (Int × ((List Int) × (Int × (Int × Unit)))))) → (Int → Int → Int → Int → (Int × ((List Int) × (Int × ((List Int) × (Int × (Int × Unit)))))) → (Int × ((List Int) × (Int × ((List Int) × (Int × (Int × Unit)))))) → Option R) → (Bool → Option R) → (Int → Int → (Int × ((List Int) × (Int × ((List Int) × (Int × (Int × Unit)))))) → (Int × ((List Int) × (Int × ((List Int) × (Int × (Int × Unit)))))) → Option R) → Option R := fun R x1 x2 x3 x4 x5 x6 kc k0 k1 =>
let v7 : Bool := (decide (x4 < x1));
(match v7 with
| true => F50 R x6 (1 : Int) fun y8 y9 y10 =>
let v11 : Bool := (y10 != (0 : Int));
(match v11 with
| true => k0 false
| false => let v12 : Bool := (decide (y8 > (1 : Int)));
(match v12 with
| true => k0 false
| false => let v13 : Int := (IntKind.u64.wrap (x6.2.2.2.2.2.1 + (1 : Int)));
let v14 : Bool := (y9.2.2.2.2.2.1 != v13);
(match v14 with
| true => k0 false
| false => F55 R y9 fun y15 =>
F55 R x6 fun y16 =>
let v17 : Int := (IntKind.u64.wrap (y16 - (1 : Int)));
let v18 : Bool := (y15 != v17);
(match v18 with
| true => k0 false
| false => let v19 : Int := (IntKind.u64.wrap ((2 : Int) * x3));
let v20 : Int := (IntKind.u64.wrap (v19 + y8));
let v21 : Int := (IntKind.i64.wrap (x4 + (1 : Int)));
kc x1 x2 v20 v21 x5 y9))))
| false => k1 x2 x3 x5 x6)
theorem q15_11 (F48 : FT48) (F49 : FT49) (F50 : FT50) (F52 : FT52) (F55 : FT55) (L11 : LT15_11) (R : Type) (x : HT (le15_11 L11).H) (kc : HT (le15_11 L11).H → Option R) (ke : KT R (le15_11 L11).exs) :
  exec (e15 F48 F49 F50 F52 F55 L11 R) (lcode 11 (codeOf Try.f15)) (stOf (le15_11 L11).H x 3) (roundK (le15_11 L11).H (le15_11 L11).exs kc ke) =
    p15_11 F50 F55 R x.1 x.2.1 x.2.2.1 x.2.2.2.1 x.2.2.2.2.1 x.2.2.2.2.2.1 (fun x1 x2 x3 x4 x5 x6 => kc (x1, x2, x3, x4, x5, x6, ())) (fun y1 => ke.1 (y1, ())) (fun y1 y2 y3 y4 => ke.2.1 (y1, y2, y3, y4, ())) := by kernel_rfl
noncomputable def G15_11 : Nat → LT15_11
  | 0 => fun _ _ _ _ _ _ _ _ _ => none
  | n + 1 => fun R x1 x2 x3 x4 x5 x6 k0 k1 => p15_11 F50 F55 R x1 x2 x3 x4 x5 x6 (fun x1 x2 x3 x4 x5 x6 => G15_11 n R x1 x2 x3 x4 x5 x6 k0 k1) k0 k1
def p15 (F48 : FT48) (F49 : FT49) (F50 : FT50) (F52 : FT52) (L11 : LT15_11) : FT15 := fun R a0 a1 k =>
F48 R  fun y1 =>
(match (!y1) with
| true => k false
| false => let v2 : Int := (Int.tmod a1 (65 : Int));
let v3 : Int := (IntKind.i64.wrap v2);
F49 R a0 fun y4 =>
(match y4 with
| true => k true
| false => F50 R a0 v3 fun y5 y6 y7 =>
let v8 : Bool := (y7 != (0 : Int));
(match v8 with
| true => let v9 : Bool := (y5 == (0 : Int));
(match v9 with
| true => F52 R y6 a0 fun y10 =>
k y10
| false => k false)
| false => L11 R v3 y5 (0 : Int) (0 : Int) y6 a0 (fun x11 =>
k x11) (fun x12 x13 x14 x15 =>
let v16 : Bool := (x12 == x13);
(match v16 with
| true => F52 R x14 x15 fun y17 =>
k y17
| false => k false)))))
theorem q15 (F48 : FT48) (F49 : FT49) (F50 : FT50) (F52 : FT52) (F55 : FT55) (L11 : LT15_11) (F : FT15) (R : Type) (x : AT (en15 F).ins) (k : RT (en15 F).outs → PT (en15 F).ins → Option R) :
  xfun (e15 F48 F49 F50 F52 F55 L11 R) (codeOf Try.f15) res15 (avs (en15 F).ins x) (finK (en15 F).outs (en15 F).ins k) = p15 F48 F49 F50 F52 L11 R x.1 x.2.1 (fun y1 => k (y1, ()) ()) := by kernel_rfl
noncomputable def F15 : FT15 := p15 F48 F49 F50 F52 (G15_11 FUEL)
theorem env15 (R : Type) : EnvOK Try.prog (e15 F48 F49 F50 F52 F55 (G15_11 FUEL) R) := ⟨tabOK, eqOK, callOf_ok (allE_cons ok48 (allE_cons ok49 (allE_cons ok50 (allE_cons ok52 (allE_cons ok55 allE_nil)))))⟩
noncomputable def T15_11 : (R : Type) → HT (le15_11 (G15_11 FUEL)).H → (HT (le15_11 (G15_11 FUEL)).H → Option R) → KT R (le15_11 (G15_11 FUEL)).exs → Option R := fun R x kc ke => p15_11 F50 F55 R x.1 x.2.1 x.2.2.1 x.2.2.2.1 x.2.2.2.2.1 x.2.2.2.2.2.1 (fun x1 x2 x3 x4 x5 x6 => kc (x1, x2, x3, x4, x5, x6, ())) (fun y1 => ke.1 (y1, ())) (fun y1 y2 y3 y4 => ke.2.1 (y1, y2, y3, y4, ()))
theorem it15_11 : ∀ (n : Nat) (R : Type) (x : HT (le15_11 (G15_11 FUEL)).H) (ke : KT R (le15_11 (G15_11 FUEL)).exs), iter T15_11 n R x ke = G15_11 n R x.1 x.2.1 x.2.2.1 x.2.2.2.1 x.2.2.2.2.1 x.2.2.2.2.2.1 (fun y1 => ke.1 (y1, ())) (fun y1 y2 y3 y4 => ke.2.1 (y1, y2, y3, y4, ())) := by
  intro n
  induction n with
  | zero => intro R x ke; rfl
  | succ n ih =>
    intro R x ke
    show T15_11 R x (fun x' => iter T15_11 n R x' ke) ke = _
    rw [show (fun x' => iter T15_11 n R x' ke) = fun x => G15_11 n R x.1 x.2.1 x.2.2.1 x.2.2.2.1 x.2.2.2.2.1 x.2.2.2.2.2.1 (fun y1 => ke.1 (y1, ())) (fun y1 y2 y3 y4 => ke.2.1 (y1, y2, y3, y4, ())) from funext fun x' => ih R x' ke]
    rfl
theorem lok15_11 : (le15_11 (G15_11 FUEL)).OK Try.prog 0 85 (lcode 11 (codeOf Try.f15)) := fun R x ke r h =>
  iter_sound (fun R => e15 F48 F49 F50 F52 F55 (G15_11 FUEL) R) 0 85 (fun _ => rfl) (fun _ => rfl) (fun R => env15 R) mixed (by
    intro R
    rw [show loopsOf (lcode 11 (codeOf Try.f15)) = [] from by kernel_rfl]
    exact allM_nil) (T := T15_11) (fun R x kc ke => q15_11 F48 F49 F50 F52 F55 (G15_11 FUEL) R x kc ke) FUEL R x ke r ((it15_11 FUEL R x ke).trans h)
theorem ok15 : (en15 F15).OK Try.prog :=
  ent_ok (Ef := fun R => e15 F48 F49 F50 F52 F55 (G15_11 FUEL) R) (fun R => env15 R) mixed Try.func15 (body := codeOf Try.f15) (by kernel_rfl) (by kernel_rfl) (np := 0) (nt := 85) (fun _ => rfl) (fun _ => rfl) (by kernel_rfl) (res := res15) (by kernel_rfl) (fun _ => rfl) (fun _ => Nat.le_of_ble_eq_true rfl) (by
    intro R
    rw [show loopsOf (codeOf Try.f15) = [lcode 11 (codeOf Try.f15)] from by kernel_rfl]
    exact (allM_cons (loop_ok2 (e := le15_11 (G15_11 FUEL)) rfl rfl lok15_11) allM_nil)) (fun R x k => q15 F48 F49 F50 F52 F55 (G15_11 FUEL) F15 R x k)
/-! drawlot/drawlotlaw07.TapeTwo -/
abbrev FT16 : Type 1 := (R : Type) → (Int × ((List Int) × (Int × ((List Int) × (Int × (Int × Unit)))))) → Int → Int → (Bool → Option R) → Option R
def en16 (F : FT16) : Ent := ⟨16, [(false, (.pair (.int .i64) (.pair (.sl (.int .u8)) (.pair (.int .u64) (.pair (.arr 32 (.int .u8)) (.pair (.int .u64) (.pair (.int .u64) .unit))))))), (false, (.int .u8)), (false, (.int .u8))], [(false, .bool)], fun R x k => F R x.1 x.2.1 x.2.2.1 (fun y1 => k (y1, ()) ())⟩
def res16 : List (ResultVar × TypeId × Bool) := [(.tmp 6, 4, false)]
abbrev LT16_13 : Type 1 := (R : Type) → Int → Int → Int → Int → Int → Int → Int → (Int × ((List Int) × (Int × ((List Int) × (Int × (Int × Unit)))))) → (Int × ((List Int) × (Int × ((List Int) × (Int × (Int × Unit)))))) → (Int → Int → Int → Int → Int → (Int × ((List Int) × (Int × ((List Int) × (Int × (Int × Unit)))))) → (Int × ((List Int) × (Int × ((List Int) × (Int × (Int × Unit)))))) → Option R) → Option R
def le16_13 (L : LT16_13) : LEnt := ⟨13, [.val 8 (.int .i64), .val 9 (.int .u64), .val 12 (.int .u64), .fix 13 (.ptr 2 [] (.pair (.int .i64) (.pair (.sl (.int .u8)) (.pair (.int .u64) (.pair (.arr 32 (.int .u8)) (.pair (.int .u64) (.pair (.int .u64) .unit))))))), .val 15 (.int .u64), .fix 16 (.ptr 3 [] (.pair (.int .i64) (.pair (.sl (.int .u8)) (.pair (.int .u64) (.pair (.arr 32 (.int .u8)) (.pair (.int .u64) (.pair (.int .u64) .unit))))))), .val 17 (.int .i64), .val 18 (.int .u64), .val 19 (.int .i64), .var 2 (.pair (.int .i64) (.pair (.sl (.int .u8)) (.pair (.int .u64) (.pair (.arr 32 (.int .u8)) (.pair (.int .u64) (.pair (.int .u64) .unit)))))) false, .var 3 (.pair (.int .i64) (.pair (.sl (.int .u8)) (.pair (.int .u64) (.pair (.arr 32 (.int .u8)) (.pair (.int .u64) (.pair (.int .u64) .unit)))))) false], 4, [(.exit 0, [.val 9 (.int .u64), .val 12 (.int .u64), .fix 13 (.ptr 2 [] (.pair (.int .i64) (.pair (.sl (.int .u8)) (.pair (.int .u64) (.pair (.arr 32 (.int .u8)) (.pair (.int .u64) (.pair (.int .u64) .unit))))))), .val 15 (.int .u64), .fix 16 (.ptr 3 [] (.pair (.int .i64) (.pair (.sl (.int .u8)) (.pair (.int .u64) (.pair (.arr 32 (.int .u8)) (.pair (.int .u64) (.pair (.int .u64) .unit))))))), .val 17 (.int .i64), .val 18 (.int .u64), .var 2 (.pair (.int .i64) (.pair (.sl (.int .u8)) (.pair (.int .u64) (.pair (.arr 32 (.int .u8)) (.pair (.int .u64) (.pair (.int .u64) .unit)))))) false, .var 3 (.pair (.int .i64) (.pair (.sl (.int .u8)) (.pair (.int .u64) (.pair (.arr 32 (.int .u8)) (.pair (.int .u64) (.pair (.int .u64) .unit)))))) false])], fun R x ke => L R x.1 x.2.1 x.2.2.1 x.2.2.2.1 x.2.2.2.2.1 x.2.2.2.2.2.1 x.2.2.2.2.2.2.1 x.2.2.2.2.2.2.2.1 x.2.2.2.2.2.2.2.2.1 (fun y1 y2 y3 y4 y5 y6 y7 => ke.1 (y1, y2, y3, y4, y5, y6, y7, ()))⟩
def e16 (F48 : FT48) (F49 : FT49) (F50 : FT50) (F52 : FT52) (L13 : LT16_13) (R : Type) : Env R := ⟨TT, EQT, 0, 84, ownOf [], callOf [en48 F48, en49 F49, en50 F50, en52 F52] R, loopOf [le16_13 L13] R⟩
def p16_13 : (R : Type) → Int → Int → Int → Int → Int → Int → Int → (Int × ((List Int) × (Int × ((List Int) × (Int × (Int × Unit)))))) → (Int × ((List Int) × (Int × ((List Int) × (Int × (Int × Unit)))))) → (Int → Int → Int → Int → Int → Int → Int → (Int × ((List Int) × (Int × ((List Int) × (Int × (Int × Unit)))))) → (Int × ((List Int) × (Int × ((List Int) × (Int × (Int × Unit)))))) → Option R) → (Int → Int → Int → Int → Int → (Int × ((List Int) × (Int × ((List Int) × (Int × (Int × Unit)))))) → (Int × ((List Int) × (Int × ((List Int) × (Int × (Int × Unit)))))) → Option R) → Option R := fun R x1 x2 x3 x4 x5 x6 x7 x8 x9 kc k0 =>
let v10 : Bool := (decide (x7 < x1));
(match v10 with
| true => let v11 : Int := (IntKind.u64.wrap ((2 : Int) * x6));
let v12 : Int := (IntKind.i64.wrap (x7 + (1 : Int)));
kc x1 x2 x3 x4 x5 v11 v12 x8 x9
| false => k0 x2 x3 x4 x5 x6 x8 x9)
theorem q16_13 (F48 : FT48) (F49 : FT49) (F50 : FT50) (F52 : FT52) (L13 : LT16_13) (R : Type) (x : HT (le16_13 L13).H) (kc : HT (le16_13 L13).H → Option R) (ke : KT R (le16_13 L13).exs) :
  exec (e16 F48 F49 F50 F52 L13 R) (lcode 13 (codeOf Try.f16)) (stOf (le16_13 L13).H x 4) (roundK (le16_13 L13).H (le16_13 L13).exs kc ke) =
    p16_13 R x.1 x.2.1 x.2.2.1 x.2.2.2.1 x.2.2.2.2.1 x.2.2.2.2.2.1 x.2.2.2.2.2.2.1 x.2.2.2.2.2.2.2.1 x.2.2.2.2.2.2.2.2.1 (fun x1 x2 x3 x4 x5 x6 x7 x8 x9 => kc (x1, x2, x3, x4, x5, x6, x7, x8, x9, ())) (fun y1 y2 y3 y4 y5 y6 y7 => ke.1 (y1, y2, y3, y4, y5, y6, y7, ())) := by kernel_rfl
noncomputable def G16_13 : Nat → LT16_13
  | 0 => fun _ _ _ _ _ _ _ _ _ _ _ => none
  | n + 1 => fun R x1 x2 x3 x4 x5 x6 x7 x8 x9 k0 => p16_13 R x1 x2 x3 x4 x5 x6 x7 x8 x9 (fun x1 x2 x3 x4 x5 x6 x7 x8 x9 => G16_13 n R x1 x2 x3 x4 x5 x6 x7 x8 x9 k0) k0
def p16 (F48 : FT48) (F49 : FT49) (F50 : FT50) (F52 : FT52) (L13 : LT16_13) : FT16 := fun R a0 a1 a2 k =>
F48 R  fun y1 =>
(match (!y1) with
| true => k false
| false => F49 R a0 fun y2 =>
(match y2 with
| true => k true
| false => let v3 : Int := (Int.tmod a1 (32 : Int));
let v4 : Int := (IntKind.i64.wrap v3);
let v5 : Int := (Int.tmod a2 (32 : Int));
let v6 : Int := (IntKind.i64.wrap v5);
F50 R a0 v4 fun y7 y8 y9 =>
F50 R y8 v6 fun y10 y11 y12 =>
let v13 : Int := (IntKind.i64.wrap (v4 + v6));
F50 R a0 v13 fun y14 y15 y16 =>
let v17 : Bool := (y9 != (0 : Int));
(match v17 with
| true => let v18 : Bool := (y16 != (0 : Int));
k v18
| false => let v19 : Bool := (y12 != (0 : Int));
(match v19 with
| true => let v20 : Bool := (y16 != (0 : Int));
k v20
| false => L13 R v6 y7 y10 y14 y16 (1 : Int) (0 : Int) y11 y15 (fun x21 x22 x23 x24 x25 x26 x27 =>
let v28 : Bool := (x24 == (0 : Int));
(match v28 with
| true => let v29 : Int := (IntKind.u64.wrap (x21 * x25));
let v30 : Int := (IntKind.u64.wrap (v29 + x22));
let v31 : Bool := (x23 == v30);
(match v31 with
| true => F52 R x26 x27 fun y32 =>
k y32
| false => k false)
| false => k false))))))
theorem q16 (F48 : FT48) (F49 : FT49) (F50 : FT50) (F52 : FT52) (L13 : LT16_13) (F : FT16) (R : Type) (x : AT (en16 F).ins) (k : RT (en16 F).outs → PT (en16 F).ins → Option R) :
  xfun (e16 F48 F49 F50 F52 L13 R) (codeOf Try.f16) res16 (avs (en16 F).ins x) (finK (en16 F).outs (en16 F).ins k) = p16 F48 F49 F50 F52 L13 R x.1 x.2.1 x.2.2.1 (fun y1 => k (y1, ()) ()) := by kernel_rfl
noncomputable def F16 : FT16 := p16 F48 F49 F50 F52 (G16_13 FUEL)
theorem env16 (R : Type) : EnvOK Try.prog (e16 F48 F49 F50 F52 (G16_13 FUEL) R) := ⟨tabOK, eqOK, callOf_ok (allE_cons ok48 (allE_cons ok49 (allE_cons ok50 (allE_cons ok52 allE_nil))))⟩
noncomputable def T16_13 : (R : Type) → HT (le16_13 (G16_13 FUEL)).H → (HT (le16_13 (G16_13 FUEL)).H → Option R) → KT R (le16_13 (G16_13 FUEL)).exs → Option R := fun R x kc ke => p16_13 R x.1 x.2.1 x.2.2.1 x.2.2.2.1 x.2.2.2.2.1 x.2.2.2.2.2.1 x.2.2.2.2.2.2.1 x.2.2.2.2.2.2.2.1 x.2.2.2.2.2.2.2.2.1 (fun x1 x2 x3 x4 x5 x6 x7 x8 x9 => kc (x1, x2, x3, x4, x5, x6, x7, x8, x9, ())) (fun y1 y2 y3 y4 y5 y6 y7 => ke.1 (y1, y2, y3, y4, y5, y6, y7, ()))
theorem it16_13 : ∀ (n : Nat) (R : Type) (x : HT (le16_13 (G16_13 FUEL)).H) (ke : KT R (le16_13 (G16_13 FUEL)).exs), iter T16_13 n R x ke = G16_13 n R x.1 x.2.1 x.2.2.1 x.2.2.2.1 x.2.2.2.2.1 x.2.2.2.2.2.1 x.2.2.2.2.2.2.1 x.2.2.2.2.2.2.2.1 x.2.2.2.2.2.2.2.2.1 (fun y1 y2 y3 y4 y5 y6 y7 => ke.1 (y1, y2, y3, y4, y5, y6, y7, ())) := by
  intro n
  induction n with
  | zero => intro R x ke; rfl
  | succ n ih =>
    intro R x ke
    show T16_13 R x (fun x' => iter T16_13 n R x' ke) ke = _
    rw [show (fun x' => iter T16_13 n R x' ke) = fun x => G16_13 n R x.1 x.2.1 x.2.2.1 x.2.2.2.1 x.2.2.2.2.1 x.2.2.2.2.2.1 x.2.2.2.2.2.2.1 x.2.2.2.2.2.2.2.1 x.2.2.2.2.2.2.2.2.1 (fun y1 y2 y3 y4 y5 y6 y7 => ke.1 (y1, y2, y3, y4, y5, y6, y7, ())) from funext fun x' => ih R x' ke]
    rfl
theorem lok16_13 : (le16_13 (G16_13 FUEL)).OK Try.prog 0 84 (lcode 13 (codeOf Try.f16)) := fun R x ke r h =>
  iter_sound (fun R => e16 F48 F49 F50 F52 (G16_13 FUEL) R) 0 84 (fun _ => rfl) (fun _ => rfl) (fun R => env16 R) mixed (by
    intro R
    rw [show loopsOf (lcode 13 (codeOf Try.f16)) = [] from by kernel_rfl]
    exact allM_nil) (T := T16_13) (fun R x kc ke => q16_13 F48 F49 F50 F52 (G16_13 FUEL) R x kc ke) FUEL R x ke r ((it16_13 FUEL R x ke).trans h)
theorem ok16 : (en16 F16).OK Try.prog :=
  ent_ok (Ef := fun R => e16 F48 F49 F50 F52 (G16_13 FUEL) R) (fun R => env16 R) mixed Try.func16 (body := codeOf Try.f16) (by kernel_rfl) (by kernel_rfl) (np := 0) (nt := 84) (fun _ => rfl) (fun _ => rfl) (by kernel_rfl) (res := res16) (by kernel_rfl) (fun _ => rfl) (fun _ => Nat.le_of_ble_eq_true rfl) (by
    intro R
    rw [show loopsOf (codeOf Try.f16) = [lcode 13 (codeOf Try.f16)] from by kernel_rfl]
    exact (allM_cons (loop_ok2 (e := le16_13 (G16_13 FUEL)) rfl rfl lok16_13) allM_nil)) (fun R x k => q16 F48 F49 F50 F52 (G16_13 FUEL) F16 R x k)
/-! drawlot/uniform.may -/
abbrev FT81 : Type 1 := (R : Type) → (Int × ((List Int) × (Int × ((List Int) × (Int × (Int × Unit)))))) → Int → Int → (Bool → Option R) → Option R
def en81 (F : FT81) : Ent := ⟨81, [(false, (.pair (.int .i64) (.pair (.sl (.int .u8)) (.pair (.int .u64) (.pair (.arr 32 (.int .u8)) (.pair (.int .u64) (.pair (.int .u64) .unit))))))), (false, (.int .u64)), (false, (.int .i64))], [(false, .bool)], fun R x k => F R x.1 x.2.1 x.2.2.1 (fun y1 => k (y1, ()) ())⟩
def res81 : List (ResultVar × TypeId × Bool) := [(.tmp 6, 4, false)]
def e81 (F53 : FT53) (R : Type) : Env R := ⟨TT, EQT, 0, 25, ownOf [], callOf [en53 F53] R, loopOf [] R⟩
def p81 (F53 : FT53) : FT81 := fun R a0 a1 a2 k =>
F53 R a0 fun y1 =>
(match y1 with
| true => let v2 : Bool := (decide (a1 > (0 : Int)));
(match v2 with
| true => let v3 : Bool := (decide (a1 < (9223372036854775808 : Int)));
(match v3 with
| true => let v4 : Bool := (decide (a2 > (0 : Int)));
(match v4 with
| true => let v5 : Bool := (decide (a2 ≤ (64 : Int)));
k v5
| false => k false)
| false => k false)
| false => k false)
| false => k false)
theorem q81 (F53 : FT53) (F : FT81) (R : Type) (x : AT (en81 F).ins) (k : RT (en81 F).outs → PT (en81 F).ins → Option R) :
  xfun (e81 F53 R) (codeOf Try.f81) res81 (avs (en81 F).ins x) (finK (en81 F).outs (en81 F).ins k) = p81 F53 R x.1 x.2.1 x.2.2.1 (fun y1 => k (y1, ()) ()) := by kernel_rfl
noncomputable def F81 : FT81 := p81 F53
theorem env81 (R : Type) : EnvOK Try.prog (e81 F53 R) := ⟨tabOK, eqOK, callOf_ok (allE_cons ok53 allE_nil)⟩
theorem ok81 : (en81 F81).OK Try.prog :=
  ent_ok (Ef := fun R => e81 F53 R) (fun R => env81 R) mixed Try.func81 (body := codeOf Try.f81) (by kernel_rfl) (by kernel_rfl) (np := 0) (nt := 25) (fun _ => rfl) (fun _ => rfl) (by kernel_rfl) (res := res81) (by kernel_rfl) (fun _ => rfl) (fun _ => Nat.le_of_ble_eq_true rfl) (by
    intro R
    rw [show loopsOf (codeOf Try.f81) = [] from by kernel_rfl]
    exact allM_nil) (fun R x k => q81 F53 F81 R x k)
/-! drawlot/word.Bits -/
abbrev FT82 : Type 1 := (R : Type) → Int → (Int → Option R) → Option R
def en82 (F : FT82) : Ent := ⟨82, [(false, (.int .u64))], [(false, (.int .i64))], fun R x k => F R x.1 (fun y1 => k (y1, ()) ())⟩
def res82 : List (ResultVar × TypeId × Bool) := [(.tmp 2, 3, false)]
abbrev LT82_1 : Type 1 := (R : Type) → Int → Int → (Int → Option R) → Option R
def le82_1 (L : LT82_1) : LEnt := ⟨1, [.val 0 (.int .u64), .val 2 (.int .i64)], 0, [(.exit 0, [.val 2 (.int .i64)])], fun R x ke => L R x.1 x.2.1 (fun y1 => ke.1 (y1, ()))⟩
def e82 (L1 : LT82_1) (R : Type) : Env R := ⟨TT, EQT, 0, 10, ownOf [], callOf [] R, loopOf [le82_1 L1] R⟩
def p82_1 : (R : Type) → Int → Int → (Int → Int → Option R) → (Int → Option R) → Option R := fun R x1 x2 kc k0 =>
let v3 : Bool := (x1 != (0 : Int));
(match v3 with
| true => let v4 : Int := (IntKind.i64.wrap (x2 + (1 : Int)));
let v5 : Int := (ishr .u64 x1 (1 : Int));
kc v5 v4
| false => k0 x2)
theorem q82_1 (L1 : LT82_1) (R : Type) (x : HT (le82_1 L1).H) (kc : HT (le82_1 L1).H → Option R) (ke : KT R (le82_1 L1).exs) :
  exec (e82 L1 R) (lcode 1 (codeOf Try.f82)) (stOf (le82_1 L1).H x 0) (roundK (le82_1 L1).H (le82_1 L1).exs kc ke) =
    p82_1 R x.1 x.2.1 (fun x1 x2 => kc (x1, x2, ())) (fun y1 => ke.1 (y1, ())) := by kernel_rfl
noncomputable def G82_1 : Nat → LT82_1
  | 0 => fun _ _ _ _ => none
  | n + 1 => fun R x1 x2 k0 => p82_1 R x1 x2 (fun x1 x2 => G82_1 n R x1 x2 k0) k0
def p82 (L1 : LT82_1) : FT82 := fun R a0 k =>
L1 R a0 (0 : Int) (fun x1 =>
k x1)
theorem q82 (L1 : LT82_1) (F : FT82) (R : Type) (x : AT (en82 F).ins) (k : RT (en82 F).outs → PT (en82 F).ins → Option R) :
  xfun (e82 L1 R) (codeOf Try.f82) res82 (avs (en82 F).ins x) (finK (en82 F).outs (en82 F).ins k) = p82 L1 R x.1 (fun y1 => k (y1, ()) ()) := by kernel_rfl
noncomputable def F82 : FT82 := p82 (G82_1 FUEL)
theorem env82 (R : Type) : EnvOK Try.prog (e82 (G82_1 FUEL) R) := ⟨tabOK, eqOK, callOf_ok allE_nil⟩
noncomputable def T82_1 : (R : Type) → HT (le82_1 (G82_1 FUEL)).H → (HT (le82_1 (G82_1 FUEL)).H → Option R) → KT R (le82_1 (G82_1 FUEL)).exs → Option R := fun R x kc ke => p82_1 R x.1 x.2.1 (fun x1 x2 => kc (x1, x2, ())) (fun y1 => ke.1 (y1, ()))
theorem it82_1 : ∀ (n : Nat) (R : Type) (x : HT (le82_1 (G82_1 FUEL)).H) (ke : KT R (le82_1 (G82_1 FUEL)).exs), iter T82_1 n R x ke = G82_1 n R x.1 x.2.1 (fun y1 => ke.1 (y1, ())) := by
  intro n
  induction n with
  | zero => intro R x ke; rfl
  | succ n ih =>
    intro R x ke
    show T82_1 R x (fun x' => iter T82_1 n R x' ke) ke = _
    rw [show (fun x' => iter T82_1 n R x' ke) = fun x => G82_1 n R x.1 x.2.1 (fun y1 => ke.1 (y1, ())) from funext fun x' => ih R x' ke]
    rfl
theorem lok82_1 : (le82_1 (G82_1 FUEL)).OK Try.prog 0 10 (lcode 1 (codeOf Try.f82)) := fun R x ke r h =>
  iter_sound (fun R => e82 (G82_1 FUEL) R) 0 10 (fun _ => rfl) (fun _ => rfl) (fun R => env82 R) mixed (by
    intro R
    rw [show loopsOf (lcode 1 (codeOf Try.f82)) = [] from by kernel_rfl]
    exact allM_nil) (T := T82_1) (fun R x kc ke => q82_1 (G82_1 FUEL) R x kc ke) FUEL R x ke r ((it82_1 FUEL R x ke).trans h)
theorem ok82 : (en82 F82).OK Try.prog :=
  ent_ok (Ef := fun R => e82 (G82_1 FUEL) R) (fun R => env82 R) mixed Try.func82 (body := codeOf Try.f82) (by kernel_rfl) (by kernel_rfl) (np := 0) (nt := 10) (fun _ => rfl) (fun _ => rfl) (by kernel_rfl) (res := res82) (by kernel_rfl) (fun _ => rfl) (fun _ => Nat.le_of_ble_eq_true rfl) (by
    intro R
    rw [show loopsOf (codeOf Try.f82) = [lcode 1 (codeOf Try.f82)] from by kernel_rfl]
    exact (allM_cons (loop_ok2 (e := le82_1 (G82_1 FUEL)) rfl rfl lok82_1) allM_nil)) (fun R x k => q82 (G82_1 FUEL) F82 R x k)
/-! drawlot/uniform.Need -/
abbrev FT64 : Type 1 := (R : Type) → Int → (Int → Option R) → Option R
def en64 (F : FT64) : Ent := ⟨64, [(false, (.int .u64))], [(false, (.int .i64))], fun R x k => F R x.1 (fun y1 => k (y1, ()) ())⟩
def res64 : List (ResultVar × TypeId × Bool) := [(.tmp 2, 3, false)]
def e64 (F82 : FT82) (R : Type) : Env R := ⟨TT, EQT, 0, 7, ownOf [], callOf [en82 F82] R, loopOf [] R⟩
def p64 (F82 : FT82) : FT64 := fun R a0 k =>
let v1 : Int := (if (1 : Int) > a0 then (1 : Int) else a0);
let v2 : Int := (IntKind.u64.wrap (v1 - (1 : Int)));
F82 R v2 fun y3 =>
k y3
theorem q64 (F82 : FT82) (F : FT64) (R : Type) (x : AT (en64 F).ins) (k : RT (en64 F).outs → PT (en64 F).ins → Option R) :
  xfun (e64 F82 R) (codeOf Try.f64) res64 (avs (en64 F).ins x) (finK (en64 F).outs (en64 F).ins k) = p64 F82 R x.1 (fun y1 => k (y1, ()) ()) := by kernel_rfl
noncomputable def F64 : FT64 := p64 F82
theorem env64 (R : Type) : EnvOK Try.prog (e64 F82 R) := ⟨tabOK, eqOK, callOf_ok (allE_cons ok82 allE_nil)⟩
theorem ok64 : (en64 F64).OK Try.prog :=
  ent_ok (Ef := fun R => e64 F82 R) (fun R => env64 R) mixed Try.func64 (body := codeOf Try.f64) (by kernel_rfl) (by kernel_rfl) (np := 0) (nt := 7) (fun _ => rfl) (fun _ => rfl) (by kernel_rfl) (res := res64) (by kernel_rfl) (fun _ => rfl) (fun _ => Nat.le_of_ble_eq_true rfl) (by
    intro R
    rw [show loopsOf (codeOf Try.f64) = [] from by kernel_rfl]
    exact allM_nil) (fun R x k => q64 F82 F64 R x k)
/-! drawlot/uniform.Draw -/
abbrev FT62 : Type 1 := (R : Type) → (Int × ((List Int) × (Int × ((List Int) × (Int × (Int × Unit)))))) → Int → Int → (Int → (Int × ((List Int) × (Int × ((List Int) × (Int × (Int × Unit)))))) → Int → Option R) → Option R
def en62 (F : FT62) : Ent := ⟨62, [(false, (.pair (.int .i64) (.pair (.sl (.int .u8)) (.pair (.int .u64) (.pair (.arr 32 (.int .u8)) (.pair (.int .u64) (.pair (.int .u64) .unit))))))), (false, (.int .u64)), (false, (.int .i64))], [(false, (.int .u64)), (false, (.pair (.int .i64) (.pair (.sl (.int .u8)) (.pair (.int .u64) (.pair (.arr 32 (.int .u8)) (.pair (.int .u64) (.pair (.int .u64) .unit))))))), (false, (.int .i64))], fun R x k => F R x.1 x.2.1 x.2.2.1 (fun y1 y2 y3 => k (y1, y2, y3, ()) ())⟩
def res62 : List (ResultVar × TypeId × Bool) := [(.tmp 6, 38, false), (.cell 7 59, 59, false), (.tmp 8, 61, false)]
abbrev LT62_4 : Type 1 := (R : Type) → Int → Int → Int → (Int × ((List Int) × (Int × ((List Int) × (Int × (Int × Unit)))))) → (Int × ((List Int) × (Int × ((List Int) × (Int × (Int × Unit)))))) → (Int → Int → (Int × ((List Int) × (Int × ((List Int) × (Int × (Int × Unit)))))) → Option R) → ((Int × ((List Int) × (Int × ((List Int) × (Int × (Int × Unit)))))) → (Int × ((List Int) × (Int × ((List Int) × (Int × (Int × Unit)))))) → Option R) → Option R
def le62_4 (L : LT62_4) : LEnt := ⟨4, [.val 1 (.int .u64), .fix 3 (.ptr 0 [] (.pair (.int .i64) (.pair (.sl (.int .u8)) (.pair (.int .u64) (.pair (.arr 32 (.int .u8)) (.pair (.int .u64) (.pair (.int .u64) .unit))))))), .fix 7 (.ptr 1 [] (.pair (.int .i64) (.pair (.sl (.int .u8)) (.pair (.int .u64) (.pair (.arr 32 (.int .u8)) (.pair (.int .u64) (.pair (.int .u64) .unit))))))), .val 18 (.int .i64), .val 19 (.int .i64), .var 0 (.pair (.int .i64) (.pair (.sl (.int .u8)) (.pair (.int .u64) (.pair (.arr 32 (.int .u8)) (.pair (.int .u64) (.pair (.int .u64) .unit)))))) false, .var 1 (.pair (.int .i64) (.pair (.sl (.int .u8)) (.pair (.int .u64) (.pair (.arr 32 (.int .u8)) (.pair (.int .u64) (.pair (.int .u64) .unit)))))) false], 2, [(.ret, [.val 6 (.int .u64), .fix 7 (.ptr 1 [] (.pair (.int .i64) (.pair (.sl (.int .u8)) (.pair (.int .u64) (.pair (.arr 32 (.int .u8)) (.pair (.int .u64) (.pair (.int .u64) .unit))))))), .val 8 (.int .i64), .var 1 (.pair (.int .i64) (.pair (.sl (.int .u8)) (.pair (.int .u64) (.pair (.arr 32 (.int .u8)) (.pair (.int .u64) (.pair (.int .u64) .unit)))))) false]), (.exit 0, [.fix 3 (.ptr 0 [] (.pair (.int .i64) (.pair (.sl (.int .u8)) (.pair (.int .u64) (.pair (.arr 32 (.int .u8)) (.pair (.int .u64) (.pair (.int .u64) .unit))))))), .fix 7 (.ptr 1 [] (.pair (.int .i64) (.pair (.sl (.int .u8)) (.pair (.int .u64) (.pair (.arr 32 (.int .u8)) (.pair (.int .u64) (.pair (.int .u64) .unit))))))), .var 0 (.pair (.int .i64) (.pair (.sl (.int .u8)) (.pair (.int .u64) (.pair (.arr 32 (.int .u8)) (.pair (.int .u64) (.pair (.int .u64) .unit)))))) false, .var 1 (.pair (.int .i64) (.pair (.sl (.int .u8)) (.pair (.int .u64) (.pair (.arr 32 (.int .u8)) (.pair (.int .u64) (.pair (.int .u64) .unit)))))) false])], fun R x ke => L R x.1 x.2.1 x.2.2.1 x.2.2.2.1 x.2.2.2.2.1 (fun y1 y2 y3 => ke.1 (y1, y2, y3, ())) (fun y1 y2 => ke.2.1 (y1, y2, ()))⟩
def e62 (F50 : FT50) (F64 : FT64) (F81 : FT81) (L4 : LT62_4) (R : Type) : Env R := ⟨TT, EQT, 0, 43, ownOf [], callOf [en50 F50, en64 F64, en81 F81] R, loopOf [le62_4 L4] R⟩
def p62_4 (F50 : FT50) (F64 : FT64) : (R : Type) → Int → Int → Int → (Int × ((List Int) × (Int × ((List Int) × (Int × (Int × Unit)))))) → (Int × ((List Int) × (Int × ((List Int) × (Int × (Int × Unit)))))) → (Int → Int → Int → (Int × ((List Int) × (Int × ((List Int) × (Int × (Int × Unit)))))) → (Int × ((List Int) × (Int × ((List Int) × (Int × (Int × Unit)))))) → Option R) → (Int → Int → (Int × ((List Int) × (Int × ((List Int) × (Int × (Int × Unit)))))) → Option R) → ((Int × ((List Int) × (Int × ((List Int) × (Int × (Int × Unit)))))) → (Int × ((List Int) × (Int × ((List Int) × (Int × (Int × Unit)))))) → Option R) → Option R := fun R x1 x2 x3 x4 x5 kc k0 k1 =>
let v6 : Bool := (decide (x3 < x2));
(match v6 with
| true => F64 R x1 fun y7 =>
F50 R x4 y7 fun y8 y9 y10 =>
let v11 : Bool := (y10 != (0 : Int));
(match v11 with
| true => k0 (0 : Int) y10 x4
| false => let v12 : Bool := (decide (y8 < x1));
(match v12 with
| true => k0 y8 (0 : Int) y9
| false => let v13 : Int := (IntKind.i64.wrap (x3 + (1 : Int)));
kc x1 x2 v13 y9 x5))
| false => k1 x4 x5)
theorem q62_4 (F50 : FT50) (F64 : FT64) (F81 : FT81) (L4 : LT62_4) (R : Type) (x : HT (le62_4 L4).H) (kc : HT (le62_4 L4).H → Option R) (ke : KT R (le62_4 L4).exs) :
  exec (e62 F50 F64 F81 L4 R) (lcode 4 (codeOf Try.f62)) (stOf (le62_4 L4).H x 2) (roundK (le62_4 L4).H (le62_4 L4).exs kc ke) =
    p62_4 F50 F64 R x.1 x.2.1 x.2.2.1 x.2.2.2.1 x.2.2.2.2.1 (fun x1 x2 x3 x4 x5 => kc (x1, x2, x3, x4, x5, ())) (fun y1 y2 y3 => ke.1 (y1, y2, y3, ())) (fun y1 y2 => ke.2.1 (y1, y2, ())) := by kernel_rfl
noncomputable def G62_4 : Nat → LT62_4
  | 0 => fun _ _ _ _ _ _ _ _ => none
  | n + 1 => fun R x1 x2 x3 x4 x5 k0 k1 => p62_4 F50 F64 R x1 x2 x3 x4 x5 (fun x1 x2 x3 x4 x5 => G62_4 n R x1 x2 x3 x4 x5 k0 k1) k0 k1
def p62 (F81 : FT81) (L4 : LT62_4) : FT62 := fun R a0 a1 a2 k =>
F81 R a0 a1 a2 fun y1 =>
(match (!y1) with
| true => k (0 : Int) a0 (1 : Int)
| false => L4 R a1 a2 (0 : Int) a0 ((0 : Int), ([] : (List Int)), (0 : Int), (List.replicate 32 (0 : Int)), (0 : Int), (0 : Int), ()) (fun x2 x3 x4 =>
k x2 x4 x3) (fun x5 x6 =>
k (0 : Int) x5 (9 : Int)))
theorem q62 (F50 : FT50) (F64 : FT64) (F81 : FT81) (L4 : LT62_4) (F : FT62) (R : Type) (x : AT (en62 F).ins) (k : RT (en62 F).outs → PT (en62 F).ins → Option R) :
  xfun (e62 F50 F64 F81 L4 R) (codeOf Try.f62) res62 (avs (en62 F).ins x) (finK (en62 F).outs (en62 F).ins k) = p62 F81 L4 R x.1 x.2.1 x.2.2.1 (fun y1 y2 y3 => k (y1, y2, y3, ()) ()) := by kernel_rfl
noncomputable def F62 : FT62 := p62 F81 (G62_4 FUEL)
theorem env62 (R : Type) : EnvOK Try.prog (e62 F50 F64 F81 (G62_4 FUEL) R) := ⟨tabOK, eqOK, callOf_ok (allE_cons ok50 (allE_cons ok64 (allE_cons ok81 allE_nil)))⟩
noncomputable def T62_4 : (R : Type) → HT (le62_4 (G62_4 FUEL)).H → (HT (le62_4 (G62_4 FUEL)).H → Option R) → KT R (le62_4 (G62_4 FUEL)).exs → Option R := fun R x kc ke => p62_4 F50 F64 R x.1 x.2.1 x.2.2.1 x.2.2.2.1 x.2.2.2.2.1 (fun x1 x2 x3 x4 x5 => kc (x1, x2, x3, x4, x5, ())) (fun y1 y2 y3 => ke.1 (y1, y2, y3, ())) (fun y1 y2 => ke.2.1 (y1, y2, ()))
theorem it62_4 : ∀ (n : Nat) (R : Type) (x : HT (le62_4 (G62_4 FUEL)).H) (ke : KT R (le62_4 (G62_4 FUEL)).exs), iter T62_4 n R x ke = G62_4 n R x.1 x.2.1 x.2.2.1 x.2.2.2.1 x.2.2.2.2.1 (fun y1 y2 y3 => ke.1 (y1, y2, y3, ())) (fun y1 y2 => ke.2.1 (y1, y2, ())) := by
  intro n
  induction n with
  | zero => intro R x ke; rfl
  | succ n ih =>
    intro R x ke
    show T62_4 R x (fun x' => iter T62_4 n R x' ke) ke = _
    rw [show (fun x' => iter T62_4 n R x' ke) = fun x => G62_4 n R x.1 x.2.1 x.2.2.1 x.2.2.2.1 x.2.2.2.2.1 (fun y1 y2 y3 => ke.1 (y1, y2, y3, ())) (fun y1 y2 => ke.2.1 (y1, y2, ())) from funext fun x' => ih R x' ke]
    rfl
theorem lok62_4 : (le62_4 (G62_4 FUEL)).OK Try.prog 0 43 (lcode 4 (codeOf Try.f62)) := fun R x ke r h =>
  iter_sound (fun R => e62 F50 F64 F81 (G62_4 FUEL) R) 0 43 (fun _ => rfl) (fun _ => rfl) (fun R => env62 R) mixed (by
    intro R
    rw [show loopsOf (lcode 4 (codeOf Try.f62)) = [] from by kernel_rfl]
    exact allM_nil) (T := T62_4) (fun R x kc ke => q62_4 F50 F64 F81 (G62_4 FUEL) R x kc ke) FUEL R x ke r ((it62_4 FUEL R x ke).trans h)
theorem ok62 : (en62 F62).OK Try.prog :=
  ent_ok (Ef := fun R => e62 F50 F64 F81 (G62_4 FUEL) R) (fun R => env62 R) mixed Try.func62 (body := codeOf Try.f62) (by kernel_rfl) (by kernel_rfl) (np := 0) (nt := 43) (fun _ => rfl) (fun _ => rfl) (by kernel_rfl) (res := res62) (by kernel_rfl) (fun _ => rfl) (fun _ => Nat.le_of_ble_eq_true rfl) (by
    intro R
    rw [show loopsOf (codeOf Try.f62) = [lcode 4 (codeOf Try.f62)] from by kernel_rfl]
    exact (allM_cons (loop_ok2 (e := le62_4 (G62_4 FUEL)) rfl rfl lok62_4) allM_nil)) (fun R x k => q62 F50 F64 F81 (G62_4 FUEL) F62 R x k)
/-! drawlot/drawlotlaw08.alive -/
abbrev FT61 : Type 1 := (R : Type) → (Bool → Option R) → Option R
def en61 (F : FT61) : Ent := ⟨61, [], [(false, .bool)], fun R x k => F R  (fun y1 => k (y1, ()) ())⟩
def res61 : List (ResultVar × TypeId × Bool) := [(.tmp 0, 4, false)]
def e61 (F59 : FT59) (F62 : FT62) (F64 : FT64) (R : Type) : Env R := ⟨TT, EQT, 0, 139, ownOf [], callOf [en59 F59, en62 F62, en64 F64] R, loopOf [] R⟩
def p61 (F59 : FT59) (F62 : FT62) (F64 : FT64) : FT61 := fun R k =>
let v1 : (List Int) := ([(255 : Int), (255 : Int)] : (List Int));
F59 R v1 (9 : Int) fun y2 y3 =>
F62 R y2 (5 : Int) (3 : Int) fun y4 y5 y6 =>
let v7 : (List Int) := ([(252 : Int), (0 : Int)] : (List Int));
F59 R v7 (9 : Int) fun y8 y9 =>
F62 R y8 (5 : Int) (3 : Int) fun y10 y11 y12 =>
F62 R y8 (5 : Int) (2 : Int) fun y13 y14 y15 =>
F62 R y11 (5 : Int) (1 : Int) fun y16 y17 y18 =>
F62 R y2 (1 : Int) (1 : Int) fun y19 y20 y21 =>
F62 R y2 (0 : Int) (1 : Int) fun y22 y23 y24 =>
F64 R (5 : Int) fun y25 =>
let v26 : Bool := (y25 == (3 : Int));
(match v26 with
| true => F64 R (1 : Int) fun y27 =>
let v28 : Bool := (y27 == (0 : Int));
(match v28 with
| true => F64 R (0 : Int) fun y29 =>
let v30 : Bool := (y29 == (0 : Int));
(match v30 with
| true => F64 R (8 : Int) fun y31 =>
let v32 : Bool := (y31 == (3 : Int));
(match v32 with
| true => let v33 : Bool := (y6 == (9 : Int));
(match v33 with
| true => let v34 : Bool := (y4 == (0 : Int));
(match v34 with
| true => let v35 : Bool := (y5.2.2.2.2.2.1 == (9 : Int));
(match v35 with
| true => let v36 : Bool := (y12 == (0 : Int));
(match v36 with
| true => let v37 : Bool := (y10 == (0 : Int));
(match v37 with
| true => let v38 : Bool := (y11.2.2.2.2.2.1 == (9 : Int));
(match v38 with
| true => let v39 : Bool := (y15 == (9 : Int));
(match v39 with
| true => let v40 : Bool := (y14.2.2.2.2.2.1 == (6 : Int));
(match v40 with
| true => let v41 : Bool := (y18 == (8 : Int));
(match v41 with
| true => let v42 : Bool := (y21 == (0 : Int));
(match v42 with
| true => let v43 : Bool := (y19 == (0 : Int));
(match v43 with
| true => let v44 : Bool := (y20.2.2.2.2.2.1 == (0 : Int));
(match v44 with
| true => let v45 : Bool := (y24 == (1 : Int));
k v45
| false => k false)
| false => k false)
| false => k false)
| false => k false)
| false => k false)
| false => k false)
| false => k false)
| false => k false)
| false => k false)
| false => k false)
| false => k false)
| false => k false)
| false => k false)
| false => k false)
| false => k false)
| false => k false)
theorem q61 (F59 : FT59) (F62 : FT62) (F64 : FT64) (F : FT61) (R : Type) (x : AT (en61 F).ins) (k : RT (en61 F).outs → PT (en61 F).ins → Option R) :
  xfun (e61 F59 F62 F64 R) (codeOf Try.f61) res61 (avs (en61 F).ins x) (finK (en61 F).outs (en61 F).ins k) = p61 F59 F62 F64 R  (fun y1 => k (y1, ()) ()) := by kernel_rfl
noncomputable def F61 : FT61 := p61 F59 F62 F64
theorem env61 (R : Type) : EnvOK Try.prog (e61 F59 F62 F64 R) := ⟨tabOK, eqOK, callOf_ok (allE_cons ok59 (allE_cons ok62 (allE_cons ok64 allE_nil)))⟩
theorem ok61 : (en61 F61).OK Try.prog :=
  ent_ok (Ef := fun R => e61 F59 F62 F64 R) (fun R => env61 R) mixed Try.func61 (body := codeOf Try.f61) (by kernel_rfl) (by kernel_rfl) (np := 0) (nt := 139) (fun _ => rfl) (fun _ => rfl) (by kernel_rfl) (res := res61) (by kernel_rfl) (fun _ => rfl) (fun _ => Nat.le_of_ble_eq_true rfl) (by
    intro R
    rw [show loopsOf (codeOf Try.f61) = [] from by kernel_rfl]
    exact allM_nil) (fun R x k => q61 F59 F62 F64 F61 R x k)
/-! drawlot/drawlotref01.Bits -/
abbrev FT83 : Type 1 := (R : Type) → Int → (Int → Option R) → Option R
def en83 (F : FT83) : Ent := ⟨83, [(false, (.int .u64))], [(false, (.int .i64))], fun R x k => F R x.1 (fun y1 => k (y1, ()) ())⟩
def res83 : List (ResultVar × TypeId × Bool) := [(.tmp 2, 3, false)]
abbrev LT83_2 : Type 1 := (R : Type) → Int → Int → (Int → Option R) → Option R
def le83_2 (L : LT83_2) : LEnt := ⟨2, [.val 0 (.int .u64), .val 3 (.int .i64)], 0, [(.exit 0, [.val 3 (.int .i64)])], fun R x ke => L R x.1 x.2.1 (fun y1 => ke.1 (y1, ()))⟩
def e83 (L2 : LT83_2) (R : Type) : Env R := ⟨TT, EQT, 0, 11, ownOf [], callOf [] R, loopOf [le83_2 L2] R⟩
def p83_2 : (R : Type) → Int → Int → (Int → Int → Option R) → (Int → Option R) → Option R := fun R x1 x2 kc k0 =>
let v3 : Bool := (decide (x1 > (0 : Int)));
(match v3 with
| true => let v4 : Int := (IntKind.u64.wrap (Int.tdiv x1 (2 : Int)));
let v5 : Int := (IntKind.i64.wrap (x2 + (1 : Int)));
kc v4 v5
| false => k0 x2)
theorem q83_2 (L2 : LT83_2) (R : Type) (x : HT (le83_2 L2).H) (kc : HT (le83_2 L2).H → Option R) (ke : KT R (le83_2 L2).exs) :
  exec (e83 L2 R) (lcode 2 (codeOf Try.f83)) (stOf (le83_2 L2).H x 0) (roundK (le83_2 L2).H (le83_2 L2).exs kc ke) =
    p83_2 R x.1 x.2.1 (fun x1 x2 => kc (x1, x2, ())) (fun y1 => ke.1 (y1, ())) := by kernel_rfl
noncomputable def G83_2 : Nat → LT83_2
  | 0 => fun _ _ _ _ => none
  | n + 1 => fun R x1 x2 k0 => p83_2 R x1 x2 (fun x1 x2 => G83_2 n R x1 x2 k0) k0
def p83 (L2 : LT83_2) : FT83 := fun R a0 k =>
L2 R a0 (0 : Int) (fun x1 =>
k x1)
theorem q83 (L2 : LT83_2) (F : FT83) (R : Type) (x : AT (en83 F).ins) (k : RT (en83 F).outs → PT (en83 F).ins → Option R) :
  xfun (e83 L2 R) (codeOf Try.f83) res83 (avs (en83 F).ins x) (finK (en83 F).outs (en83 F).ins k) = p83 L2 R x.1 (fun y1 => k (y1, ()) ()) := by kernel_rfl
noncomputable def F83 : FT83 := p83 (G83_2 FUEL)
theorem env83 (R : Type) : EnvOK Try.prog (e83 (G83_2 FUEL) R) := ⟨tabOK, eqOK, callOf_ok allE_nil⟩
noncomputable def T83_2 : (R : Type) → HT (le83_2 (G83_2 FUEL)).H → (HT (le83_2 (G83_2 FUEL)).H → Option R) → KT R (le83_2 (G83_2 FUEL)).exs → Option R := fun R x kc ke => p83_2 R x.1 x.2.1 (fun x1 x2 => kc (x1, x2, ())) (fun y1 => ke.1 (y1, ()))
theorem it83_2 : ∀ (n : Nat) (R : Type) (x : HT (le83_2 (G83_2 FUEL)).H) (ke : KT R (le83_2 (G83_2 FUEL)).exs), iter T83_2 n R x ke = G83_2 n R x.1 x.2.1 (fun y1 => ke.1 (y1, ())) := by
  intro n
  induction n with
  | zero => intro R x ke; rfl
  | succ n ih =>
    intro R x ke
    show T83_2 R x (fun x' => iter T83_2 n R x' ke) ke = _
    rw [show (fun x' => iter T83_2 n R x' ke) = fun x => G83_2 n R x.1 x.2.1 (fun y1 => ke.1 (y1, ())) from funext fun x' => ih R x' ke]
    rfl
theorem lok83_2 : (le83_2 (G83_2 FUEL)).OK Try.prog 0 11 (lcode 2 (codeOf Try.f83)) := fun R x ke r h =>
  iter_sound (fun R => e83 (G83_2 FUEL) R) 0 11 (fun _ => rfl) (fun _ => rfl) (fun R => env83 R) mixed (by
    intro R
    rw [show loopsOf (lcode 2 (codeOf Try.f83)) = [] from by kernel_rfl]
    exact allM_nil) (T := T83_2) (fun R x kc ke => q83_2 (G83_2 FUEL) R x kc ke) FUEL R x ke r ((it83_2 FUEL R x ke).trans h)
theorem ok83 : (en83 F83).OK Try.prog :=
  ent_ok (Ef := fun R => e83 (G83_2 FUEL) R) (fun R => env83 R) mixed Try.func83 (body := codeOf Try.f83) (by kernel_rfl) (by kernel_rfl) (np := 0) (nt := 11) (fun _ => rfl) (fun _ => rfl) (by kernel_rfl) (res := res83) (by kernel_rfl) (fun _ => rfl) (fun _ => Nat.le_of_ble_eq_true rfl) (by
    intro R
    rw [show loopsOf (codeOf Try.f83) = [lcode 2 (codeOf Try.f83)] from by kernel_rfl]
    exact (allM_cons (loop_ok2 (e := le83_2 (G83_2 FUEL)) rfl rfl lok83_2) allM_nil)) (fun R x k => q83 (G83_2 FUEL) F83 R x k)
/-! drawlot/drawlotref08.Need -/
abbrev FT65 : Type 1 := (R : Type) → Int → (Int → Option R) → Option R
def en65 (F : FT65) : Ent := ⟨65, [(false, (.int .u64))], [(false, (.int .i64))], fun R x k => F R x.1 (fun y1 => k (y1, ()) ())⟩
def res65 : List (ResultVar × TypeId × Bool) := [(.tmp 2, 3, false)]
def e65 (F83 : FT83) (R : Type) : Env R := ⟨TT, EQT, 0, 8, ownOf [], callOf [en83 F83] R, loopOf [] R⟩
def p65 (F83 : FT83) : FT65 := fun R a0 k =>
let v1 : Bool := (a0 == (0 : Int));
(match v1 with
| true => k (0 : Int)
| false => let v2 : Int := (IntKind.u64.wrap (a0 - (1 : Int)));
F83 R v2 fun y3 =>
k y3)
theorem q65 (F83 : FT83) (F : FT65) (R : Type) (x : AT (en65 F).ins) (k : RT (en65 F).outs → PT (en65 F).ins → Option R) :
  xfun (e65 F83 R) (codeOf Try.f65) res65 (avs (en65 F).ins x) (finK (en65 F).outs (en65 F).ins k) = p65 F83 R x.1 (fun y1 => k (y1, ()) ()) := by kernel_rfl
noncomputable def F65 : FT65 := p65 F83
theorem env65 (R : Type) : EnvOK Try.prog (e65 F83 R) := ⟨tabOK, eqOK, callOf_ok (allE_cons ok83 allE_nil)⟩
theorem ok65 : (en65 F65).OK Try.prog :=
  ent_ok (Ef := fun R => e65 F83 R) (fun R => env65 R) mixed Try.func65 (body := codeOf Try.f65) (by kernel_rfl) (by kernel_rfl) (np := 0) (nt := 8) (fun _ => rfl) (fun _ => rfl) (by kernel_rfl) (res := res65) (by kernel_rfl) (fun _ => rfl) (fun _ => Nat.le_of_ble_eq_true rfl) (by
    intro R
    rw [show loopsOf (codeOf Try.f65) = [] from by kernel_rfl]
    exact allM_nil) (fun R x k => q65 F83 F65 R x k)
/-! drawlot/drawlotref08.Draw -/
abbrev FT63 : Type 1 := (R : Type) → (Int × ((List Int) × (Int × ((List Int) × (Int × (Int × Unit)))))) → Int → Int → (Int → (Int × ((List Int) × (Int × ((List Int) × (Int × (Int × Unit)))))) → Int → Option R) → Option R
def en63 (F : FT63) : Ent := ⟨63, [(false, (.pair (.int .i64) (.pair (.sl (.int .u8)) (.pair (.int .u64) (.pair (.arr 32 (.int .u8)) (.pair (.int .u64) (.pair (.int .u64) .unit))))))), (false, (.int .u64)), (false, (.int .i64))], [(false, (.int .u64)), (false, (.pair (.int .i64) (.pair (.sl (.int .u8)) (.pair (.int .u64) (.pair (.arr 32 (.int .u8)) (.pair (.int .u64) (.pair (.int .u64) .unit))))))), (false, (.int .i64))], fun R x k => F R x.1 x.2.1 x.2.2.1 (fun y1 y2 y3 => k (y1, y2, y3, ()) ())⟩
def res63 : List (ResultVar × TypeId × Bool) := [(.tmp 6, 38, false), (.cell 7 59, 59, false), (.tmp 8, 61, false)]
abbrev LT63_4 : Type 1 := (R : Type) → Int → Int → Int → (Int × ((List Int) × (Int × ((List Int) × (Int × (Int × Unit)))))) → (Int × ((List Int) × (Int × ((List Int) × (Int × (Int × Unit)))))) → (Int → Int → (Int × ((List Int) × (Int × ((List Int) × (Int × (Int × Unit)))))) → Option R) → ((Int × ((List Int) × (Int × ((List Int) × (Int × (Int × Unit)))))) → (Int × ((List Int) × (Int × ((List Int) × (Int × (Int × Unit)))))) → Option R) → Option R
def le63_4 (L : LT63_4) : LEnt := ⟨4, [.val 1 (.int .u64), .val 2 (.int .i64), .fix 3 (.ptr 0 [] (.pair (.int .i64) (.pair (.sl (.int .u8)) (.pair (.int .u64) (.pair (.arr 32 (.int .u8)) (.pair (.int .u64) (.pair (.int .u64) .unit))))))), .fix 7 (.ptr 1 [] (.pair (.int .i64) (.pair (.sl (.int .u8)) (.pair (.int .u64) (.pair (.arr 32 (.int .u8)) (.pair (.int .u64) (.pair (.int .u64) .unit))))))), .val 9 (.int .i64), .var 0 (.pair (.int .i64) (.pair (.sl (.int .u8)) (.pair (.int .u64) (.pair (.arr 32 (.int .u8)) (.pair (.int .u64) (.pair (.int .u64) .unit)))))) false, .var 1 (.pair (.int .i64) (.pair (.sl (.int .u8)) (.pair (.int .u64) (.pair (.arr 32 (.int .u8)) (.pair (.int .u64) (.pair (.int .u64) .unit)))))) false], 2, [(.ret, [.val 6 (.int .u64), .fix 7 (.ptr 1 [] (.pair (.int .i64) (.pair (.sl (.int .u8)) (.pair (.int .u64) (.pair (.arr 32 (.int .u8)) (.pair (.int .u64) (.pair (.int .u64) .unit))))))), .val 8 (.int .i64), .var 1 (.pair (.int .i64) (.pair (.sl (.int .u8)) (.pair (.int .u64) (.pair (.arr 32 (.int .u8)) (.pair (.int .u64) (.pair (.int .u64) .unit)))))) false]), (.exit 0, [.fix 3 (.ptr 0 [] (.pair (.int .i64) (.pair (.sl (.int .u8)) (.pair (.int .u64) (.pair (.arr 32 (.int .u8)) (.pair (.int .u64) (.pair (.int .u64) .unit))))))), .fix 7 (.ptr 1 [] (.pair (.int .i64) (.pair (.sl (.int .u8)) (.pair (.int .u64) (.pair (.arr 32 (.int .u8)) (.pair (.int .u64) (.pair (.int .u64) .unit))))))), .var 0 (.pair (.int .i64) (.pair (.sl (.int .u8)) (.pair (.int .u64) (.pair (.arr 32 (.int .u8)) (.pair (.int .u64) (.pair (.int .u64) .unit)))))) false, .var 1 (.pair (.int .i64) (.pair (.sl (.int .u8)) (.pair (.int .u64) (.pair (.arr 32 (.int .u8)) (.pair (.int .u64) (.pair (.int .u64) .unit)))))) false])], fun R x ke => L R x.1 x.2.1 x.2.2.1 x.2.2.2.1 x.2.2.2.2.1 (fun y1 y2 y3 => ke.1 (y1, y2, y3, ())) (fun y1 y2 => ke.2.1 (y1, y2, ()))⟩
def e63 (F51 : FT51) (F54 : FT54) (F65 : FT65) (L4 : LT63_4) (R : Type) : Env R := ⟨TT, EQT, 0, 57, ownOf [], callOf [en51 F51, en54 F54, en65 F65] R, loopOf [le63_4 L4] R⟩
def p63_4 (F51 : FT51) (F65 : FT65) : (R : Type) → Int → Int → Int → (Int × ((List Int) × (Int × ((List Int) × (Int × (Int × Unit)))))) → (Int × ((List Int) × (Int × ((List Int) × (Int × (Int × Unit)))))) → (Int → Int → Int → (Int × ((List Int) × (Int × ((List Int) × (Int × (Int × Unit)))))) → (Int × ((List Int) × (Int × ((List Int) × (Int × (Int × Unit)))))) → Option R) → (Int → Int → (Int × ((List Int) × (Int × ((List Int) × (Int × (Int × Unit)))))) → Option R) → ((Int × ((List Int) × (Int × ((List Int) × (Int × (Int × Unit)))))) → (Int × ((List Int) × (Int × ((List Int) × (Int × (Int × Unit)))))) → Option R) → Option R := fun R x1 x2 x3 x4 x5 kc k0 k1 =>
let v6 : Bool := (decide (x3 < x2));
(match v6 with
| true => F65 R x1 fun y7 =>
F51 R x4 y7 fun y8 y9 y10 =>
let v11 : Bool := (y10 != (0 : Int));
(match v11 with
| true => k0 (0 : Int) y10 x4
| false => let v12 : Bool := (decide (y8 < x1));
(match v12 with
| true => k0 y8 (0 : Int) y9
| false => let v13 : Int := (IntKind.i64.wrap (x3 + (1 : Int)));
kc x1 x2 v13 y9 x5))
| false => k1 x4 x5)
theorem q63_4 (F51 : FT51) (F54 : FT54) (F65 : FT65) (L4 : LT63_4) (R : Type) (x : HT (le63_4 L4).H) (kc : HT (le63_4 L4).H → Option R) (ke : KT R (le63_4 L4).exs) :
  exec (e63 F51 F54 F65 L4 R) (lcode 4 (codeOf Try.f63)) (stOf (le63_4 L4).H x 2) (roundK (le63_4 L4).H (le63_4 L4).exs kc ke) =
    p63_4 F51 F65 R x.1 x.2.1 x.2.2.1 x.2.2.2.1 x.2.2.2.2.1 (fun x1 x2 x3 x4 x5 => kc (x1, x2, x3, x4, x5, ())) (fun y1 y2 y3 => ke.1 (y1, y2, y3, ())) (fun y1 y2 => ke.2.1 (y1, y2, ())) := by kernel_rfl
noncomputable def G63_4 : Nat → LT63_4
  | 0 => fun _ _ _ _ _ _ _ _ => none
  | n + 1 => fun R x1 x2 x3 x4 x5 k0 k1 => p63_4 F51 F65 R x1 x2 x3 x4 x5 (fun x1 x2 x3 x4 x5 => G63_4 n R x1 x2 x3 x4 x5 k0 k1) k0 k1
def p63 (F54 : FT54) (L4 : LT63_4) : FT63 := fun R a0 a1 a2 k =>
F54 R a0 fun y1 =>
(match (!y1) with
| true => k (0 : Int) a0 (1 : Int)
| false => let v2 : Bool := (decide (a1 < (1 : Int)));
(match v2 with
| true => k (0 : Int) a0 (1 : Int)
| false => let v3 : Bool := (decide (a1 ≥ (9223372036854775808 : Int)));
(match v3 with
| true => k (0 : Int) a0 (1 : Int)
| false => let v4 : Bool := (decide (a2 < (1 : Int)));
(match v4 with
| true => k (0 : Int) a0 (1 : Int)
| false => let v5 : Bool := (decide (a2 > (64 : Int)));
(match v5 with
| true => k (0 : Int) a0 (1 : Int)
| false => L4 R a1 a2 (0 : Int) a0 ((0 : Int), ([] : (List Int)), (0 : Int), (List.replicate 32 (0 : Int)), (0 : Int), (0 : Int), ()) (fun x6 x7 x8 =>
k x6 x8 x7) (fun x9 x10 =>
k (0 : Int) x9 (9 : Int)))))))
theorem q63 (F51 : FT51) (F54 : FT54) (F65 : FT65) (L4 : LT63_4) (F : FT63) (R : Type) (x : AT (en63 F).ins) (k : RT (en63 F).outs → PT (en63 F).ins → Option R) :
  xfun (e63 F51 F54 F65 L4 R) (codeOf Try.f63) res63 (avs (en63 F).ins x) (finK (en63 F).outs (en63 F).ins k) = p63 F54 L4 R x.1 x.2.1 x.2.2.1 (fun y1 y2 y3 => k (y1, y2, y3, ()) ()) := by kernel_rfl
noncomputable def F63 : FT63 := p63 F54 (G63_4 FUEL)
theorem env63 (R : Type) : EnvOK Try.prog (e63 F51 F54 F65 (G63_4 FUEL) R) := ⟨tabOK, eqOK, callOf_ok (allE_cons ok51 (allE_cons ok54 (allE_cons ok65 allE_nil)))⟩
noncomputable def T63_4 : (R : Type) → HT (le63_4 (G63_4 FUEL)).H → (HT (le63_4 (G63_4 FUEL)).H → Option R) → KT R (le63_4 (G63_4 FUEL)).exs → Option R := fun R x kc ke => p63_4 F51 F65 R x.1 x.2.1 x.2.2.1 x.2.2.2.1 x.2.2.2.2.1 (fun x1 x2 x3 x4 x5 => kc (x1, x2, x3, x4, x5, ())) (fun y1 y2 y3 => ke.1 (y1, y2, y3, ())) (fun y1 y2 => ke.2.1 (y1, y2, ()))
theorem it63_4 : ∀ (n : Nat) (R : Type) (x : HT (le63_4 (G63_4 FUEL)).H) (ke : KT R (le63_4 (G63_4 FUEL)).exs), iter T63_4 n R x ke = G63_4 n R x.1 x.2.1 x.2.2.1 x.2.2.2.1 x.2.2.2.2.1 (fun y1 y2 y3 => ke.1 (y1, y2, y3, ())) (fun y1 y2 => ke.2.1 (y1, y2, ())) := by
  intro n
  induction n with
  | zero => intro R x ke; rfl
  | succ n ih =>
    intro R x ke
    show T63_4 R x (fun x' => iter T63_4 n R x' ke) ke = _
    rw [show (fun x' => iter T63_4 n R x' ke) = fun x => G63_4 n R x.1 x.2.1 x.2.2.1 x.2.2.2.1 x.2.2.2.2.1 (fun y1 y2 y3 => ke.1 (y1, y2, y3, ())) (fun y1 y2 => ke.2.1 (y1, y2, ())) from funext fun x' => ih R x' ke]
    rfl
theorem lok63_4 : (le63_4 (G63_4 FUEL)).OK Try.prog 0 57 (lcode 4 (codeOf Try.f63)) := fun R x ke r h =>
  iter_sound (fun R => e63 F51 F54 F65 (G63_4 FUEL) R) 0 57 (fun _ => rfl) (fun _ => rfl) (fun R => env63 R) mixed (by
    intro R
    rw [show loopsOf (lcode 4 (codeOf Try.f63)) = [] from by kernel_rfl]
    exact allM_nil) (T := T63_4) (fun R x kc ke => q63_4 F51 F54 F65 (G63_4 FUEL) R x kc ke) FUEL R x ke r ((it63_4 FUEL R x ke).trans h)
theorem ok63 : (en63 F63).OK Try.prog :=
  ent_ok (Ef := fun R => e63 F51 F54 F65 (G63_4 FUEL) R) (fun R => env63 R) mixed Try.func63 (body := codeOf Try.f63) (by kernel_rfl) (by kernel_rfl) (np := 0) (nt := 57) (fun _ => rfl) (fun _ => rfl) (by kernel_rfl) (res := res63) (by kernel_rfl) (fun _ => rfl) (fun _ => Nat.le_of_ble_eq_true rfl) (by
    intro R
    rw [show loopsOf (codeOf Try.f63) = [lcode 4 (codeOf Try.f63)] from by kernel_rfl]
    exact (allM_cons (loop_ok2 (e := le63_4 (G63_4 FUEL)) rfl rfl lok63_4) allM_nil)) (fun R x k => q63 F51 F54 F65 (G63_4 FUEL) F63 R x k)
/-! drawlot/drawlotlaw08.UniformDraws -/
abbrev FT17 : Type 1 := (R : Type) → (Int × ((List Int) × (Int × ((List Int) × (Int × (Int × Unit)))))) → Int → Int → (Bool → Option R) → Option R
def en17 (F : FT17) : Ent := ⟨17, [(false, (.pair (.int .i64) (.pair (.sl (.int .u8)) (.pair (.int .u64) (.pair (.arr 32 (.int .u8)) (.pair (.int .u64) (.pair (.int .u64) .unit))))))), (false, (.int .u64)), (false, (.int .i64))], [(false, .bool)], fun R x k => F R x.1 x.2.1 x.2.2.1 (fun y1 => k (y1, ()) ())⟩
def res17 : List (ResultVar × TypeId × Bool) := [(.tmp 6, 4, false)]
def e17 (F52 : FT52) (F61 : FT61) (F62 : FT62) (F63 : FT63) (F64 : FT64) (F65 : FT65) (R : Type) : Env R := ⟨TT, EQT, 0, 68, ownOf [(5, 0)], callOf [en52 F52, en61 F61, en62 F62, en63 F63, en64 F64, en65 F65] R, loopOf [] R⟩
def p17 (F52 : FT52) (F61 : FT61) (F62 : FT62) (F63 : FT63) (F64 : FT64) (F65 : FT65) : FT17 := fun R a0 a1 a2 k =>
F61 R  fun y1 =>
(match (!y1) with
| true => k false
| false => let v2 : Int := (List.length a0.2.1 : Int);
let v3 : Bool := (decide (v2 > (500 : Int)));
(match v3 with
| true => k true
| false => let v4 : (List Int) := ([] : (List Int));
(match (decide (List.length v4 + List.length a0.2.1 ≤ 140737488355328)) with
| true => let v5 : (List Int) := (v4 ++ a0.2.1);
F62 R a0 a1 a2 fun y6 y7 y8 =>
F63 R a0 a1 a2 fun y9 y10 y11 =>
let v12 : Bool := (y6 == y9);
(match v12 with
| true => F52 R y7 y10 fun y13 =>
(match y13 with
| true => let v14 : Bool := (y8 == y11);
(match v14 with
| true => F64 R a1 fun y15 =>
F65 R a1 fun y16 =>
let v17 : Bool := (y15 == y16);
(match v17 with
| true => let v18 : ByteArray := (strOf v5);
let v19 : ByteArray := (strOf a0.2.1);
let v20 : Bool := (ByteArray.toList v18 == ByteArray.toList v19);
k v20
| false => k false)
| false => k false)
| false => k false)
| false => k false)
| false => none)))
theorem q17 (F52 : FT52) (F61 : FT61) (F62 : FT62) (F63 : FT63) (F64 : FT64) (F65 : FT65) (F : FT17) (R : Type) (x : AT (en17 F).ins) (k : RT (en17 F).outs → PT (en17 F).ins → Option R) :
  xfun (e17 F52 F61 F62 F63 F64 F65 R) (codeOf Try.f17) res17 (avs (en17 F).ins x) (finK (en17 F).outs (en17 F).ins k) = p17 F52 F61 F62 F63 F64 F65 R x.1 x.2.1 x.2.2.1 (fun y1 => k (y1, ()) ()) := by kernel_rfl
noncomputable def F17 : FT17 := p17 F52 F61 F62 F63 F64 F65
theorem env17 (R : Type) : EnvOK Try.prog (e17 F52 F61 F62 F63 F64 F65 R) := ⟨tabOK, eqOK, callOf_ok (allE_cons ok52 (allE_cons ok61 (allE_cons ok62 (allE_cons ok63 (allE_cons ok64 (allE_cons ok65 allE_nil))))))⟩
theorem ok17 : (en17 F17).OK Try.prog :=
  ent_ok (Ef := fun R => e17 F52 F61 F62 F63 F64 F65 R) (fun R => env17 R) mixed Try.func17 (body := codeOf Try.f17) (by kernel_rfl) (by kernel_rfl) (np := 0) (nt := 68) (fun _ => rfl) (fun _ => rfl) (by kernel_rfl) (res := res17) (by kernel_rfl) (fun _ => rfl) (fun _ => Nat.le_of_ble_eq_true rfl) (by
    intro R
    rw [show loopsOf (codeOf Try.f17) = [] from by kernel_rfl]
    exact allM_nil) (fun R x k => q17 F52 F61 F62 F63 F64 F65 F17 R x k)
/-! drawlot/drawlotref08.Pow -/
abbrev FT66 : Type 1 := (R : Type) → Int → Int → (Int → Option R) → Option R
def en66 (F : FT66) : Ent := ⟨66, [(false, (.int .u64)), (false, (.int .i64))], [(false, (.int .u64))], fun R x k => F R x.1 x.2.1 (fun y1 => k (y1, ()) ())⟩
def res66 : List (ResultVar × TypeId × Bool) := [(.tmp 4, 38, false)]
abbrev LT66_3 : Type 1 := (R : Type) → Int → Int → Int → Int → (Int → Option R) → Option R
def le66_3 (L : LT66_3) : LEnt := ⟨3, [.val 0 (.int .u64), .val 1 (.int .i64), .val 5 (.int .u64), .val 6 (.int .i64)], 0, [(.exit 0, [.val 5 (.int .u64)])], fun R x ke => L R x.1 x.2.1 x.2.2.1 x.2.2.2.1 (fun y1 => ke.1 (y1, ()))⟩
def e66 (L3 : LT66_3) (R : Type) : Env R := ⟨TT, EQT, 0, 16, ownOf [], callOf [] R, loopOf [le66_3 L3] R⟩
def p66_3 : (R : Type) → Int → Int → Int → Int → (Int → Int → Int → Int → Option R) → (Int → Option R) → Option R := fun R x1 x2 x3 x4 kc k0 =>
let v5 : Bool := (decide (x4 < x2));
(match v5 with
| true => let v6 : Int := (IntKind.u64.wrap (x3 * x1));
let v7 : Int := (IntKind.i64.wrap (x4 + (1 : Int)));
kc x1 x2 v6 v7
| false => k0 x3)
theorem q66_3 (L3 : LT66_3) (R : Type) (x : HT (le66_3 L3).H) (kc : HT (le66_3 L3).H → Option R) (ke : KT R (le66_3 L3).exs) :
  exec (e66 L3 R) (lcode 3 (codeOf Try.f66)) (stOf (le66_3 L3).H x 0) (roundK (le66_3 L3).H (le66_3 L3).exs kc ke) =
    p66_3 R x.1 x.2.1 x.2.2.1 x.2.2.2.1 (fun x1 x2 x3 x4 => kc (x1, x2, x3, x4, ())) (fun y1 => ke.1 (y1, ())) := by kernel_rfl
noncomputable def G66_3 : Nat → LT66_3
  | 0 => fun _ _ _ _ _ _ => none
  | n + 1 => fun R x1 x2 x3 x4 k0 => p66_3 R x1 x2 x3 x4 (fun x1 x2 x3 x4 => G66_3 n R x1 x2 x3 x4 k0) k0
def p66 (L3 : LT66_3) : FT66 := fun R a0 a1 k =>
L3 R a0 a1 (1 : Int) (0 : Int) (fun x1 =>
k x1)
theorem q66 (L3 : LT66_3) (F : FT66) (R : Type) (x : AT (en66 F).ins) (k : RT (en66 F).outs → PT (en66 F).ins → Option R) :
  xfun (e66 L3 R) (codeOf Try.f66) res66 (avs (en66 F).ins x) (finK (en66 F).outs (en66 F).ins k) = p66 L3 R x.1 x.2.1 (fun y1 => k (y1, ()) ()) := by kernel_rfl
noncomputable def F66 : FT66 := p66 (G66_3 FUEL)
theorem env66 (R : Type) : EnvOK Try.prog (e66 (G66_3 FUEL) R) := ⟨tabOK, eqOK, callOf_ok allE_nil⟩
noncomputable def T66_3 : (R : Type) → HT (le66_3 (G66_3 FUEL)).H → (HT (le66_3 (G66_3 FUEL)).H → Option R) → KT R (le66_3 (G66_3 FUEL)).exs → Option R := fun R x kc ke => p66_3 R x.1 x.2.1 x.2.2.1 x.2.2.2.1 (fun x1 x2 x3 x4 => kc (x1, x2, x3, x4, ())) (fun y1 => ke.1 (y1, ()))
theorem it66_3 : ∀ (n : Nat) (R : Type) (x : HT (le66_3 (G66_3 FUEL)).H) (ke : KT R (le66_3 (G66_3 FUEL)).exs), iter T66_3 n R x ke = G66_3 n R x.1 x.2.1 x.2.2.1 x.2.2.2.1 (fun y1 => ke.1 (y1, ())) := by
  intro n
  induction n with
  | zero => intro R x ke; rfl
  | succ n ih =>
    intro R x ke
    show T66_3 R x (fun x' => iter T66_3 n R x' ke) ke = _
    rw [show (fun x' => iter T66_3 n R x' ke) = fun x => G66_3 n R x.1 x.2.1 x.2.2.1 x.2.2.2.1 (fun y1 => ke.1 (y1, ())) from funext fun x' => ih R x' ke]
    rfl
theorem lok66_3 : (le66_3 (G66_3 FUEL)).OK Try.prog 0 16 (lcode 3 (codeOf Try.f66)) := fun R x ke r h =>
  iter_sound (fun R => e66 (G66_3 FUEL) R) 0 16 (fun _ => rfl) (fun _ => rfl) (fun R => env66 R) mixed (by
    intro R
    rw [show loopsOf (lcode 3 (codeOf Try.f66)) = [] from by kernel_rfl]
    exact allM_nil) (T := T66_3) (fun R x kc ke => q66_3 (G66_3 FUEL) R x kc ke) FUEL R x ke r ((it66_3 FUEL R x ke).trans h)
theorem ok66 : (en66 F66).OK Try.prog :=
  ent_ok (Ef := fun R => e66 (G66_3 FUEL) R) (fun R => env66 R) mixed Try.func66 (body := codeOf Try.f66) (by kernel_rfl) (by kernel_rfl) (np := 0) (nt := 16) (fun _ => rfl) (fun _ => rfl) (by kernel_rfl) (res := res66) (by kernel_rfl) (fun _ => rfl) (fun _ => Nat.le_of_ble_eq_true rfl) (by
    intro R
    rw [show loopsOf (codeOf Try.f66) = [lcode 3 (codeOf Try.f66)] from by kernel_rfl]
    exact (allM_cons (loop_ok2 (e := le66_3 (G66_3 FUEL)) rfl rfl lok66_3) allM_nil)) (fun R x k => q66 (G66_3 FUEL) F66 R x k)
/-! drawlot/drawlotref01.Left -/
abbrev FT84 : Type 1 := (R : Type) → Int → Int → (Int → Option R) → Option R
def en84 (F : FT84) : Ent := ⟨84, [(false, (.int .u32)), (false, (.int .i64))], [(false, (.int .u32))], fun R x k => F R x.1 x.2.1 (fun y1 => k (y1, ()) ())⟩
def res84 : List (ResultVar × TypeId × Bool) := [(.tmp 4, 49, false)]
abbrev LT84_4 : Type 1 := (R : Type) → Int → Int → Int → (Int → Option R) → Option R
def le84_4 (L : LT84_4) : LEnt := ⟨4, [.val 0 (.int .u32), .val 1 (.int .i64), .val 5 (.int .i64)], 0, [(.exit 0, [.val 0 (.int .u32)])], fun R x ke => L R x.1 x.2.1 x.2.2.1 (fun y1 => ke.1 (y1, ()))⟩
def e84 (L4 : LT84_4) (R : Type) : Env R := ⟨TT, EQT, 0, 16, ownOf [], callOf [] R, loopOf [le84_4 L4] R⟩
def p84_4 : (R : Type) → Int → Int → Int → (Int → Int → Int → Option R) → (Int → Option R) → Option R := fun R x1 x2 x3 kc k0 =>
let v4 : Bool := (decide (x3 < x2));
(match v4 with
| true => let v5 : Int := (IntKind.u32.wrap ((2 : Int) * x1));
let v6 : Int := (IntKind.i64.wrap (x3 + (1 : Int)));
kc v5 x2 v6
| false => k0 x1)
theorem q84_4 (L4 : LT84_4) (R : Type) (x : HT (le84_4 L4).H) (kc : HT (le84_4 L4).H → Option R) (ke : KT R (le84_4 L4).exs) :
  exec (e84 L4 R) (lcode 4 (codeOf Try.f84)) (stOf (le84_4 L4).H x 0) (roundK (le84_4 L4).H (le84_4 L4).exs kc ke) =
    p84_4 R x.1 x.2.1 x.2.2.1 (fun x1 x2 x3 => kc (x1, x2, x3, ())) (fun y1 => ke.1 (y1, ())) := by kernel_rfl
noncomputable def G84_4 : Nat → LT84_4
  | 0 => fun _ _ _ _ _ => none
  | n + 1 => fun R x1 x2 x3 k0 => p84_4 R x1 x2 x3 (fun x1 x2 x3 => G84_4 n R x1 x2 x3 k0) k0
def p84 (L4 : LT84_4) : FT84 := fun R a0 a1 k =>
let v1 : Bool := (decide (a1 > (31 : Int)));
(match v1 with
| true => k (0 : Int)
| false => L4 R a0 a1 (0 : Int) (fun x2 =>
k x2))
theorem q84 (L4 : LT84_4) (F : FT84) (R : Type) (x : AT (en84 F).ins) (k : RT (en84 F).outs → PT (en84 F).ins → Option R) :
  xfun (e84 L4 R) (codeOf Try.f84) res84 (avs (en84 F).ins x) (finK (en84 F).outs (en84 F).ins k) = p84 L4 R x.1 x.2.1 (fun y1 => k (y1, ()) ()) := by kernel_rfl
noncomputable def F84 : FT84 := p84 (G84_4 FUEL)
theorem env84 (R : Type) : EnvOK Try.prog (e84 (G84_4 FUEL) R) := ⟨tabOK, eqOK, callOf_ok allE_nil⟩
noncomputable def T84_4 : (R : Type) → HT (le84_4 (G84_4 FUEL)).H → (HT (le84_4 (G84_4 FUEL)).H → Option R) → KT R (le84_4 (G84_4 FUEL)).exs → Option R := fun R x kc ke => p84_4 R x.1 x.2.1 x.2.2.1 (fun x1 x2 x3 => kc (x1, x2, x3, ())) (fun y1 => ke.1 (y1, ()))
theorem it84_4 : ∀ (n : Nat) (R : Type) (x : HT (le84_4 (G84_4 FUEL)).H) (ke : KT R (le84_4 (G84_4 FUEL)).exs), iter T84_4 n R x ke = G84_4 n R x.1 x.2.1 x.2.2.1 (fun y1 => ke.1 (y1, ())) := by
  intro n
  induction n with
  | zero => intro R x ke; rfl
  | succ n ih =>
    intro R x ke
    show T84_4 R x (fun x' => iter T84_4 n R x' ke) ke = _
    rw [show (fun x' => iter T84_4 n R x' ke) = fun x => G84_4 n R x.1 x.2.1 x.2.2.1 (fun y1 => ke.1 (y1, ())) from funext fun x' => ih R x' ke]
    rfl
theorem lok84_4 : (le84_4 (G84_4 FUEL)).OK Try.prog 0 16 (lcode 4 (codeOf Try.f84)) := fun R x ke r h =>
  iter_sound (fun R => e84 (G84_4 FUEL) R) 0 16 (fun _ => rfl) (fun _ => rfl) (fun R => env84 R) mixed (by
    intro R
    rw [show loopsOf (lcode 4 (codeOf Try.f84)) = [] from by kernel_rfl]
    exact allM_nil) (T := T84_4) (fun R x kc ke => q84_4 (G84_4 FUEL) R x kc ke) FUEL R x ke r ((it84_4 FUEL R x ke).trans h)
theorem ok84 : (en84 F84).OK Try.prog :=
  ent_ok (Ef := fun R => e84 (G84_4 FUEL) R) (fun R => env84 R) mixed Try.func84 (body := codeOf Try.f84) (by kernel_rfl) (by kernel_rfl) (np := 0) (nt := 16) (fun _ => rfl) (fun _ => rfl) (by kernel_rfl) (res := res84) (by kernel_rfl) (fun _ => rfl) (fun _ => Nat.le_of_ble_eq_true rfl) (by
    intro R
    rw [show loopsOf (codeOf Try.f84) = [lcode 4 (codeOf Try.f84)] from by kernel_rfl]
    exact (allM_cons (loop_ok2 (e := le84_4 (G84_4 FUEL)) rfl rfl lok84_4) allM_nil)) (fun R x k => q84 (G84_4 FUEL) F84 R x k)
/-! drawlot/drawlotref08.Bytes -/
abbrev FT67 : Type 1 := (R : Type) → Int → Int → ((List Int) → Option R) → Option R
def en67 (F : FT67) : Ent := ⟨67, [(false, (.int .u64)), (false, (.int .i64))], [(false, (.sl (.int .u8)))], fun R x k => F R x.1 x.2.1 (fun y1 => k (y1, ()) ())⟩
def res67 : List (ResultVar × TypeId × Bool) := [(.tmp 4, 46, false)]
abbrev LT67_3 : Type 1 := (R : Type) → Int → Int → Int → (List Int) → ((List Int) → Option R) → Option R
def le67_3 (L : LT67_3) : LEnt := ⟨3, [.val 0 (.int .u64), .val 1 (.int .i64), .fix 5 (.own 0 0), .val 6 (.int .i64), .row 0 (.int .u8) false], 1, [(.exit 0, [.fix 5 (.own 0 0), .row 0 (.int .u8) false])], fun R x ke => L R x.1 x.2.1 x.2.2.1 x.2.2.2.1 (fun y1 => ke.1 (y1, ()))⟩
def e67 (F47 : FT47) (F84 : FT84) (L3 : LT67_3) (R : Type) : Env R := ⟨TT, EQT, 0, 44, ownOf [(1, 0)], callOf [en47 F47, en84 F84] R, loopOf [le67_3 L3] R⟩
def p67_3 (F47 : FT47) (F84 : FT84) : (R : Type) → Int → Int → Int → (List Int) → (Int → Int → Int → (List Int) → Option R) → ((List Int) → Option R) → Option R := fun R x1 x2 x3 x4 kc k0 =>
let v5 : Bool := (decide (x3 < x2));
(match v5 with
| true => let v6 : Int := (Int.tmod x3 (8 : Int));
let v7 : Bool := (v6 == (0 : Int));
(match v7 with
| true => let v8 : (List Int) := ([(0 : Int)] : (List Int));
(match (decide (List.length x4 + List.length v8 ≤ 140737488355328)) with
| true => let v9 : (List Int) := (x4 ++ v8);
let v10 : Int := (Int.tmod x1 (4294967296 : Int));
let v11 : Int := (IntKind.u32.wrap v10);
let v12 : Int := (IntKind.i64.wrap (x2 - (1 : Int)));
let v13 : Int := (IntKind.i64.wrap (v12 - x3));
F47 R v11 v13 fun y14 =>
let v15 : Int := (Int.tmod y14 (2 : Int));
let v16 : Bool := (v15 == (1 : Int));
(match v16 with
| true => let v17 : Int := (IntKind.i64.wrap (Int.tdiv x3 (8 : Int)));
let v18 : Int := (IntKind.i64.wrap (Int.tdiv x3 (8 : Int)));
(match (bnd v18 (List.length v9 : Int)) with
| true => let v19 : Int := (List.getD v9 (Int.toNat v18) (0 : Int));
let v20 : Int := (Int.tmod x3 (8 : Int));
let v21 : Int := (IntKind.i64.wrap ((7 : Int) - v20));
F84 R (1 : Int) v21 fun y22 =>
let v23 : Int := (IntKind.u8.wrap y22);
let v24 : Int := (IntKind.u8.wrap (v19 + v23));
(match (bnd v17 (List.length v9 : Int)) with
| true => let v25 : (List Int) := (List.set v9 (Int.toNat v17) v24);
let v26 : Int := (IntKind.i64.wrap (x3 + (1 : Int)));
kc x1 x2 v26 v25
| false => none)
| false => none)
| false => let v27 : Int := (IntKind.i64.wrap (x3 + (1 : Int)));
kc x1 x2 v27 v9)
| false => none)
| false => let v28 : Int := (Int.tmod x1 (4294967296 : Int));
let v29 : Int := (IntKind.u32.wrap v28);
let v30 : Int := (IntKind.i64.wrap (x2 - (1 : Int)));
let v31 : Int := (IntKind.i64.wrap (v30 - x3));
F47 R v29 v31 fun y32 =>
let v33 : Int := (Int.tmod y32 (2 : Int));
let v34 : Bool := (v33 == (1 : Int));
(match v34 with
| true => let v35 : Int := (IntKind.i64.wrap (Int.tdiv x3 (8 : Int)));
let v36 : Int := (IntKind.i64.wrap (Int.tdiv x3 (8 : Int)));
(match (bnd v36 (List.length x4 : Int)) with
| true => let v37 : Int := (List.getD x4 (Int.toNat v36) (0 : Int));
let v38 : Int := (Int.tmod x3 (8 : Int));
let v39 : Int := (IntKind.i64.wrap ((7 : Int) - v38));
F84 R (1 : Int) v39 fun y40 =>
let v41 : Int := (IntKind.u8.wrap y40);
let v42 : Int := (IntKind.u8.wrap (v37 + v41));
(match (bnd v35 (List.length x4 : Int)) with
| true => let v43 : (List Int) := (List.set x4 (Int.toNat v35) v42);
let v44 : Int := (IntKind.i64.wrap (x3 + (1 : Int)));
kc x1 x2 v44 v43
| false => none)
| false => none)
| false => let v45 : Int := (IntKind.i64.wrap (x3 + (1 : Int)));
kc x1 x2 v45 x4))
| false => k0 x4)
theorem q67_3 (F47 : FT47) (F84 : FT84) (L3 : LT67_3) (R : Type) (x : HT (le67_3 L3).H) (kc : HT (le67_3 L3).H → Option R) (ke : KT R (le67_3 L3).exs) :
  exec (e67 F47 F84 L3 R) (lcode 3 (codeOf Try.f67)) (stOf (le67_3 L3).H x 1) (roundK (le67_3 L3).H (le67_3 L3).exs kc ke) =
    p67_3 F47 F84 R x.1 x.2.1 x.2.2.1 x.2.2.2.1 (fun x1 x2 x3 x4 => kc (x1, x2, x3, x4, ())) (fun y1 => ke.1 (y1, ())) := by kernel_rfl
noncomputable def G67_3 : Nat → LT67_3
  | 0 => fun _ _ _ _ _ _ => none
  | n + 1 => fun R x1 x2 x3 x4 k0 => p67_3 F47 F84 R x1 x2 x3 x4 (fun x1 x2 x3 x4 => G67_3 n R x1 x2 x3 x4 k0) k0
def p67 (L3 : LT67_3) : FT67 := fun R a0 a1 k =>
L3 R a0 a1 (0 : Int) ([] : (List Int)) (fun x1 =>
k x1)
theorem q67 (F47 : FT47) (F84 : FT84) (L3 : LT67_3) (F : FT67) (R : Type) (x : AT (en67 F).ins) (k : RT (en67 F).outs → PT (en67 F).ins → Option R) :
  xfun (e67 F47 F84 L3 R) (codeOf Try.f67) res67 (avs (en67 F).ins x) (finK (en67 F).outs (en67 F).ins k) = p67 L3 R x.1 x.2.1 (fun y1 => k (y1, ()) ()) := by kernel_rfl
noncomputable def F67 : FT67 := p67 (G67_3 FUEL)
theorem env67 (R : Type) : EnvOK Try.prog (e67 F47 F84 (G67_3 FUEL) R) := ⟨tabOK, eqOK, callOf_ok (allE_cons ok47 (allE_cons ok84 allE_nil))⟩
noncomputable def T67_3 : (R : Type) → HT (le67_3 (G67_3 FUEL)).H → (HT (le67_3 (G67_3 FUEL)).H → Option R) → KT R (le67_3 (G67_3 FUEL)).exs → Option R := fun R x kc ke => p67_3 F47 F84 R x.1 x.2.1 x.2.2.1 x.2.2.2.1 (fun x1 x2 x3 x4 => kc (x1, x2, x3, x4, ())) (fun y1 => ke.1 (y1, ()))
theorem it67_3 : ∀ (n : Nat) (R : Type) (x : HT (le67_3 (G67_3 FUEL)).H) (ke : KT R (le67_3 (G67_3 FUEL)).exs), iter T67_3 n R x ke = G67_3 n R x.1 x.2.1 x.2.2.1 x.2.2.2.1 (fun y1 => ke.1 (y1, ())) := by
  intro n
  induction n with
  | zero => intro R x ke; rfl
  | succ n ih =>
    intro R x ke
    show T67_3 R x (fun x' => iter T67_3 n R x' ke) ke = _
    rw [show (fun x' => iter T67_3 n R x' ke) = fun x => G67_3 n R x.1 x.2.1 x.2.2.1 x.2.2.2.1 (fun y1 => ke.1 (y1, ())) from funext fun x' => ih R x' ke]
    rfl
theorem lok67_3 : (le67_3 (G67_3 FUEL)).OK Try.prog 0 44 (lcode 3 (codeOf Try.f67)) := fun R x ke r h =>
  iter_sound (fun R => e67 F47 F84 (G67_3 FUEL) R) 0 44 (fun _ => rfl) (fun _ => rfl) (fun R => env67 R) mixed (by
    intro R
    rw [show loopsOf (lcode 3 (codeOf Try.f67)) = [] from by kernel_rfl]
    exact allM_nil) (T := T67_3) (fun R x kc ke => q67_3 F47 F84 (G67_3 FUEL) R x kc ke) FUEL R x ke r ((it67_3 FUEL R x ke).trans h)
theorem ok67 : (en67 F67).OK Try.prog :=
  ent_ok (Ef := fun R => e67 F47 F84 (G67_3 FUEL) R) (fun R => env67 R) mixed Try.func67 (body := codeOf Try.f67) (by kernel_rfl) (by kernel_rfl) (np := 0) (nt := 44) (fun _ => rfl) (fun _ => rfl) (by kernel_rfl) (res := res67) (by kernel_rfl) (fun _ => rfl) (fun _ => Nat.le_of_ble_eq_true rfl) (by
    intro R
    rw [show loopsOf (codeOf Try.f67) = [lcode 3 (codeOf Try.f67)] from by kernel_rfl]
    exact (allM_cons (loop_ok2 (e := le67_3 (G67_3 FUEL)) rfl rfl lok67_3) allM_nil)) (fun R x k => q67 F47 F84 (G67_3 FUEL) F67 R x k)
/-! drawlot/drawlotlaw08.UniformCounts -/
abbrev FT18 : Type 1 := (R : Type) → Int → Int → (Bool → Option R) → Option R
def en18 (F : FT18) : Ent := ⟨18, [(false, (.int .u8)), (false, (.int .u8))], [(false, .bool)], fun R x k => F R x.1 x.2.1 (fun y1 => k (y1, ()) ())⟩
def res18 : List (ResultVar × TypeId × Bool) := [(.tmp 4, 4, false)]
abbrev LT18_10 : Type 1 := (R : Type) → Int → Int → Int → Int → Int → (List Int) → (Bool → Option R) → (Int → Int → Int → Int → (List Int) → Option R) → Option R
def le18_10 (L : LT18_10) : LEnt := ⟨10, [.val 5 (.int .u64), .val 6 (.int .i64), .val 7 (.int .i64), .fix 8 (.ptr 0 [] (.arr 16 (.int .u64))), .val 9 (.int .u64), .val 10 (.int .u64), .var 0 (.arr 16 (.int .u64)) false], 1, [(.ret, [.val 4 .bool]), (.exit 0, [.val 5 (.int .u64), .val 6 (.int .i64), .val 7 (.int .i64), .fix 8 (.ptr 0 [] (.arr 16 (.int .u64))), .val 9 (.int .u64), .var 0 (.arr 16 (.int .u64)) false])], fun R x ke => L R x.1 x.2.1 x.2.2.1 x.2.2.2.1 x.2.2.2.2.1 x.2.2.2.2.2.1 (fun y1 => ke.1 (y1, ())) (fun y1 y2 y3 y4 y5 => ke.2.1 (y1, y2, y3, y4, y5, ()))⟩
abbrev LT18_23 : Type 1 := (R : Type) → Int → Int → Int → Int → Int → Int → (List Int) → (Bool → Option R) → (Int → Int → Option R) → Option R
def le18_23 (L : LT18_23) : LEnt := ⟨23, [.val 5 (.int .u64), .val 6 (.int .i64), .val 7 (.int .i64), .fix 8 (.ptr 0 [] (.arr 16 (.int .u64))), .val 9 (.int .u64), .val 16 (.int .u64), .val 17 (.int .u64), .var 0 (.arr 16 (.int .u64)) false], 1, [(.ret, [.val 4 .bool]), (.exit 3, [.val 9 (.int .u64), .val 16 (.int .u64)])], fun R x ke => L R x.1 x.2.1 x.2.2.1 x.2.2.2.1 x.2.2.2.2.1 x.2.2.2.2.2.1 x.2.2.2.2.2.2.1 (fun y1 => ke.1 (y1, ())) (fun y1 y2 => ke.2.1 (y1, y2, ()))⟩
def e18 (F59 : FT59) (F61 : FT61) (F62 : FT62) (F64 : FT64) (F66 : FT66) (F67 : FT67) (L10 : LT18_10) (L23 : LT18_23) (R : Type) : Env R := ⟨TT, EQT, 0, 133, ownOf [], callOf [en59 F59, en61 F61, en62 F62, en64 F64, en66 F66, en67 F67] R, loopOf [le18_10 L10, le18_23 L23] R⟩
def p18_10 (F59 : FT59) (F62 : FT62) (F66 : FT66) (F67 : FT67) : (R : Type) → Int → Int → Int → Int → Int → (List Int) → (Int → Int → Int → Int → Int → (List Int) → Option R) → (Bool → Option R) → (Int → Int → Int → Int → (List Int) → Option R) → Option R := fun R x1 x2 x3 x4 x5 x6 kc k0 k1 =>
let v7 : Int := (IntKind.i64.wrap (x3 * x2));
F66 R (2 : Int) v7 fun y8 =>
let v9 : Bool := (decide (x5 < y8));
(match v9 with
| true => let v10 : Int := (IntKind.i64.wrap (x3 * x2));
F67 R x5 v10 fun y11 =>
let v12 : Int := (IntKind.i64.wrap (x3 * x2));
let v13 : Int := (IntKind.u64.wrap v12);
F59 R y11 v13 fun y14 y15 =>
F62 R y14 x1 x2 fun y16 y17 y18 =>
let v19 : Bool := (decide (y17.2.2.2.2.2.1 > y14.2.2.1));
(match v19 with
| true => k0 false
| false => let v20 : Bool := (y18 == (0 : Int));
(match v20 with
| true => let v21 : Bool := (decide (y16 < x1));
(match v21 with
| true => (match (bnd y16 (16 : Int)) with
| true => let v22 : Int := (List.getD x6 (Int.toNat y16) (0 : Int));
let v23 : Int := (IntKind.u64.wrap (v22 + (1 : Int)));
(match (bnd y16 (16 : Int)) with
| true => let v24 : (List Int) := (List.set x6 (Int.toNat y16) v23);
let v25 : Int := (IntKind.u64.wrap (x5 + (1 : Int)));
kc x1 x2 x3 x4 v25 v24
| false => none)
| false => none)
| false => let v26 : Bool := (y18 == (9 : Int));
(match v26 with
| true => let v27 : Bool := (y17.2.2.2.2.2.1 == y14.2.2.1);
(match v27 with
| true => let v28 : Int := (IntKind.u64.wrap (x4 + (1 : Int)));
let v29 : Int := (IntKind.u64.wrap (x5 + (1 : Int)));
kc x1 x2 x3 v28 v29 x6
| false => k0 false)
| false => k0 false))
| false => let v30 : Bool := (y18 == (9 : Int));
(match v30 with
| true => let v31 : Bool := (y17.2.2.2.2.2.1 == y14.2.2.1);
(match v31 with
| true => let v32 : Int := (IntKind.u64.wrap (x4 + (1 : Int)));
let v33 : Int := (IntKind.u64.wrap (x5 + (1 : Int)));
kc x1 x2 x3 v32 v33 x6
| false => k0 false)
| false => k0 false)))
| false => k1 x1 x2 x3 x4 x6)
theorem q18_10 (F59 : FT59) (F61 : FT61) (F62 : FT62) (F64 : FT64) (F66 : FT66) (F67 : FT67) (L10 : LT18_10) (L23 : LT18_23) (R : Type) (x : HT (le18_10 L10).H) (kc : HT (le18_10 L10).H → Option R) (ke : KT R (le18_10 L10).exs) :
  exec (e18 F59 F61 F62 F64 F66 F67 L10 L23 R) (lcode 10 (codeOf Try.f18)) (stOf (le18_10 L10).H x 1) (roundK (le18_10 L10).H (le18_10 L10).exs kc ke) =
    p18_10 F59 F62 F66 F67 R x.1 x.2.1 x.2.2.1 x.2.2.2.1 x.2.2.2.2.1 x.2.2.2.2.2.1 (fun x1 x2 x3 x4 x5 x6 => kc (x1, x2, x3, x4, x5, x6, ())) (fun y1 => ke.1 (y1, ())) (fun y1 y2 y3 y4 y5 => ke.2.1 (y1, y2, y3, y4, y5, ())) := by kernel_rfl
noncomputable def G18_10 : Nat → LT18_10
  | 0 => fun _ _ _ _ _ _ _ _ _ => none
  | n + 1 => fun R x1 x2 x3 x4 x5 x6 k0 k1 => p18_10 F59 F62 F66 F67 R x1 x2 x3 x4 x5 x6 (fun x1 x2 x3 x4 x5 x6 => G18_10 n R x1 x2 x3 x4 x5 x6 k0 k1) k0 k1
def p18_23 (F66 : FT66) : (R : Type) → Int → Int → Int → Int → Int → Int → (List Int) → (Int → Int → Int → Int → Int → Int → (List Int) → Option R) → (Bool → Option R) → (Int → Int → Option R) → Option R := fun R x1 x2 x3 x4 x5 x6 x7 kc k0 k1 =>
let v8 : Bool := (decide (x6 < x1));
(match v8 with
| true => (match (bnd x6 (16 : Int)) with
| true => let v9 : Int := (List.getD x7 (Int.toNat x6) (0 : Int));
let v10 : Int := (IntKind.u64.wrap (v9 * x1));
let v11 : Int := (IntKind.i64.wrap (x3 * x2));
F66 R (2 : Int) v11 fun y12 =>
let v13 : Int := (IntKind.u64.wrap (y12 - x5));
let v14 : Bool := (v10 != v13);
(match v14 with
| true => k0 false
| false => let v15 : Int := (IntKind.u64.wrap (x6 + (1 : Int)));
kc x1 x2 x3 x4 x5 v15 x7)
| false => none)
| false => k1 x4 x5)
theorem q18_23 (F59 : FT59) (F61 : FT61) (F62 : FT62) (F64 : FT64) (F66 : FT66) (F67 : FT67) (L10 : LT18_10) (L23 : LT18_23) (R : Type) (x : HT (le18_23 L23).H) (kc : HT (le18_23 L23).H → Option R) (ke : KT R (le18_23 L23).exs) :
  exec (e18 F59 F61 F62 F64 F66 F67 L10 L23 R) (lcode 23 (codeOf Try.f18)) (stOf (le18_23 L23).H x 1) (roundK (le18_23 L23).H (le18_23 L23).exs kc ke) =
    p18_23 F66 R x.1 x.2.1 x.2.2.1 x.2.2.2.1 x.2.2.2.2.1 x.2.2.2.2.2.1 x.2.2.2.2.2.2.1 (fun x1 x2 x3 x4 x5 x6 x7 => kc (x1, x2, x3, x4, x5, x6, x7, ())) (fun y1 => ke.1 (y1, ())) (fun y1 y2 => ke.2.1 (y1, y2, ())) := by kernel_rfl
noncomputable def G18_23 : Nat → LT18_23
  | 0 => fun _ _ _ _ _ _ _ _ _ _ => none
  | n + 1 => fun R x1 x2 x3 x4 x5 x6 x7 k0 k1 => p18_23 F66 R x1 x2 x3 x4 x5 x6 x7 (fun x1 x2 x3 x4 x5 x6 x7 => G18_23 n R x1 x2 x3 x4 x5 x6 x7 k0 k1) k0 k1
def p18 (F61 : FT61) (F64 : FT64) (F66 : FT66) (L10 : LT18_10) (L23 : LT18_23) : FT18 := fun R a0 a1 k =>
F61 R  fun y1 =>
(match (!y1) with
| true => k false
| false => let v2 : Int := (Int.tmod a0 (16 : Int));
let v3 : Int := (IntKind.u64.wrap v2);
let v4 : Int := (IntKind.u64.wrap ((1 : Int) + v3));
let v5 : Int := (Int.tmod a1 (4 : Int));
let v6 : Int := (IntKind.i64.wrap v5);
let v7 : Int := (IntKind.i64.wrap ((1 : Int) + v6));
F64 R v4 fun y8 =>
let v9 : Bool := (decide (y8 < (0 : Int)));
(match v9 with
| true => let v10 : Bool := (decide (y8 ≥ (0 : Int)));
(match v10 with
| true => let v11 : Bool := (decide (y8 ≤ (4 : Int)));
k v11
| false => k false)
| false => let v12 : Bool := (decide (y8 > (4 : Int)));
(match v12 with
| true => let v13 : Bool := (decide (y8 ≥ (0 : Int)));
(match v13 with
| true => let v14 : Bool := (decide (y8 ≤ (4 : Int)));
k v14
| false => k false)
| false => let v15 : Int := (IntKind.i64.wrap (y8 * v7));
let v16 : Bool := (decide (v15 > (12 : Int)));
(match v16 with
| true => let v17 : Bool := (decide (y8 ≥ (0 : Int)));
(match v17 with
| true => let v18 : Bool := (decide (y8 ≤ (4 : Int)));
k v18
| false => k false)
| false => L10 R v4 v7 y8 (0 : Int) (0 : Int) (List.replicate 16 (0 : Int)) (fun x19 =>
k x19) (fun x20 x21 x22 x23 x24 =>
F66 R (2 : Int) x22 fun y25 =>
let v26 : Int := (IntKind.u64.wrap (y25 - x20));
F66 R v26 x21 fun y27 =>
L23 R x20 x21 x22 x23 y27 (0 : Int) x24 (fun x28 =>
k x28) (fun x29 x30 =>
let v31 : Bool := (x29 == x30);
k v31))))))
theorem q18 (F59 : FT59) (F61 : FT61) (F62 : FT62) (F64 : FT64) (F66 : FT66) (F67 : FT67) (L10 : LT18_10) (L23 : LT18_23) (F : FT18) (R : Type) (x : AT (en18 F).ins) (k : RT (en18 F).outs → PT (en18 F).ins → Option R) :
  xfun (e18 F59 F61 F62 F64 F66 F67 L10 L23 R) (codeOf Try.f18) res18 (avs (en18 F).ins x) (finK (en18 F).outs (en18 F).ins k) = p18 F61 F64 F66 L10 L23 R x.1 x.2.1 (fun y1 => k (y1, ()) ()) := by kernel_rfl
noncomputable def F18 : FT18 := p18 F61 F64 F66 (G18_10 FUEL) (G18_23 FUEL)
theorem env18 (R : Type) : EnvOK Try.prog (e18 F59 F61 F62 F64 F66 F67 (G18_10 FUEL) (G18_23 FUEL) R) := ⟨tabOK, eqOK, callOf_ok (allE_cons ok59 (allE_cons ok61 (allE_cons ok62 (allE_cons ok64 (allE_cons ok66 (allE_cons ok67 allE_nil))))))⟩
noncomputable def T18_10 : (R : Type) → HT (le18_10 (G18_10 FUEL)).H → (HT (le18_10 (G18_10 FUEL)).H → Option R) → KT R (le18_10 (G18_10 FUEL)).exs → Option R := fun R x kc ke => p18_10 F59 F62 F66 F67 R x.1 x.2.1 x.2.2.1 x.2.2.2.1 x.2.2.2.2.1 x.2.2.2.2.2.1 (fun x1 x2 x3 x4 x5 x6 => kc (x1, x2, x3, x4, x5, x6, ())) (fun y1 => ke.1 (y1, ())) (fun y1 y2 y3 y4 y5 => ke.2.1 (y1, y2, y3, y4, y5, ()))
theorem it18_10 : ∀ (n : Nat) (R : Type) (x : HT (le18_10 (G18_10 FUEL)).H) (ke : KT R (le18_10 (G18_10 FUEL)).exs), iter T18_10 n R x ke = G18_10 n R x.1 x.2.1 x.2.2.1 x.2.2.2.1 x.2.2.2.2.1 x.2.2.2.2.2.1 (fun y1 => ke.1 (y1, ())) (fun y1 y2 y3 y4 y5 => ke.2.1 (y1, y2, y3, y4, y5, ())) := by
  intro n
  induction n with
  | zero => intro R x ke; rfl
  | succ n ih =>
    intro R x ke
    show T18_10 R x (fun x' => iter T18_10 n R x' ke) ke = _
    rw [show (fun x' => iter T18_10 n R x' ke) = fun x => G18_10 n R x.1 x.2.1 x.2.2.1 x.2.2.2.1 x.2.2.2.2.1 x.2.2.2.2.2.1 (fun y1 => ke.1 (y1, ())) (fun y1 y2 y3 y4 y5 => ke.2.1 (y1, y2, y3, y4, y5, ())) from funext fun x' => ih R x' ke]
    rfl
theorem lok18_10 : (le18_10 (G18_10 FUEL)).OK Try.prog 0 133 (lcode 10 (codeOf Try.f18)) := fun R x ke r h =>
  iter_sound (fun R => e18 F59 F61 F62 F64 F66 F67 (G18_10 FUEL) (G18_23 FUEL) R) 0 133 (fun _ => rfl) (fun _ => rfl) (fun R => env18 R) mixed (by
    intro R
    rw [show loopsOf (lcode 10 (codeOf Try.f18)) = [] from by kernel_rfl]
    exact allM_nil) (T := T18_10) (fun R x kc ke => q18_10 F59 F61 F62 F64 F66 F67 (G18_10 FUEL) (G18_23 FUEL) R x kc ke) FUEL R x ke r ((it18_10 FUEL R x ke).trans h)
noncomputable def T18_23 : (R : Type) → HT (le18_23 (G18_23 FUEL)).H → (HT (le18_23 (G18_23 FUEL)).H → Option R) → KT R (le18_23 (G18_23 FUEL)).exs → Option R := fun R x kc ke => p18_23 F66 R x.1 x.2.1 x.2.2.1 x.2.2.2.1 x.2.2.2.2.1 x.2.2.2.2.2.1 x.2.2.2.2.2.2.1 (fun x1 x2 x3 x4 x5 x6 x7 => kc (x1, x2, x3, x4, x5, x6, x7, ())) (fun y1 => ke.1 (y1, ())) (fun y1 y2 => ke.2.1 (y1, y2, ()))
theorem it18_23 : ∀ (n : Nat) (R : Type) (x : HT (le18_23 (G18_23 FUEL)).H) (ke : KT R (le18_23 (G18_23 FUEL)).exs), iter T18_23 n R x ke = G18_23 n R x.1 x.2.1 x.2.2.1 x.2.2.2.1 x.2.2.2.2.1 x.2.2.2.2.2.1 x.2.2.2.2.2.2.1 (fun y1 => ke.1 (y1, ())) (fun y1 y2 => ke.2.1 (y1, y2, ())) := by
  intro n
  induction n with
  | zero => intro R x ke; rfl
  | succ n ih =>
    intro R x ke
    show T18_23 R x (fun x' => iter T18_23 n R x' ke) ke = _
    rw [show (fun x' => iter T18_23 n R x' ke) = fun x => G18_23 n R x.1 x.2.1 x.2.2.1 x.2.2.2.1 x.2.2.2.2.1 x.2.2.2.2.2.1 x.2.2.2.2.2.2.1 (fun y1 => ke.1 (y1, ())) (fun y1 y2 => ke.2.1 (y1, y2, ())) from funext fun x' => ih R x' ke]
    rfl
theorem lok18_23 : (le18_23 (G18_23 FUEL)).OK Try.prog 0 133 (lcode 23 (codeOf Try.f18)) := fun R x ke r h =>
  iter_sound (fun R => e18 F59 F61 F62 F64 F66 F67 (G18_10 FUEL) (G18_23 FUEL) R) 0 133 (fun _ => rfl) (fun _ => rfl) (fun R => env18 R) mixed (by
    intro R
    rw [show loopsOf (lcode 23 (codeOf Try.f18)) = [] from by kernel_rfl]
    exact allM_nil) (T := T18_23) (fun R x kc ke => q18_23 F59 F61 F62 F64 F66 F67 (G18_10 FUEL) (G18_23 FUEL) R x kc ke) FUEL R x ke r ((it18_23 FUEL R x ke).trans h)
theorem ok18 : (en18 F18).OK Try.prog :=
  ent_ok (Ef := fun R => e18 F59 F61 F62 F64 F66 F67 (G18_10 FUEL) (G18_23 FUEL) R) (fun R => env18 R) mixed Try.func18 (body := codeOf Try.f18) (by kernel_rfl) (by kernel_rfl) (np := 0) (nt := 133) (fun _ => rfl) (fun _ => rfl) (by kernel_rfl) (res := res18) (by kernel_rfl) (fun _ => rfl) (fun _ => Nat.le_of_ble_eq_true rfl) (by
    intro R
    rw [show loopsOf (codeOf Try.f18) = [lcode 10 (codeOf Try.f18), lcode 23 (codeOf Try.f18)] from by kernel_rfl]
    exact (allM_cons (loop_ok2 (e := le18_10 (G18_10 FUEL)) rfl rfl lok18_10) (allM_cons (loop_ok2 (e := le18_23 (G18_23 FUEL)) rfl rfl lok18_23) allM_nil))) (fun R x k => q18 F59 F61 F62 F64 F66 F67 (G18_10 FUEL) (G18_23 FUEL) F18 R x k)
/-! drawlot/drawlotlaw08.UniformFirst -/
abbrev FT19 : Type 1 := (R : Type) → (Int × ((List Int) × (Int × ((List Int) × (Int × (Int × Unit)))))) → Int → Int → (Bool → Option R) → Option R
def en19 (F : FT19) : Ent := ⟨19, [(false, (.pair (.int .i64) (.pair (.sl (.int .u8)) (.pair (.int .u64) (.pair (.arr 32 (.int .u8)) (.pair (.int .u64) (.pair (.int .u64) .unit))))))), (false, (.int .u64)), (false, (.int .u8))], [(false, .bool)], fun R x k => F R x.1 x.2.1 x.2.2.1 (fun y1 => k (y1, ()) ())⟩
def res19 : List (ResultVar × TypeId × Bool) := [(.tmp 6, 4, false)]
def e19 (F61 : FT61) (F62 : FT62) (F64 : FT64) (R : Type) : Env R := ⟨TT, EQT, 0, 127, ownOf [], callOf [en61 F61, en62 F62, en64 F64] R, loopOf [] R⟩
def p19 (F61 : FT61) (F62 : FT62) (F64 : FT64) : FT19 := fun R a0 a1 a2 k =>
F61 R  fun y1 =>
(match (!y1) with
| true => k false
| false => let v2 : Int := (List.length a0.2.1 : Int);
let v3 : Bool := (decide (v2 > (500 : Int)));
(match v3 with
| true => k true
| false => let v4 : Int := (Int.tmod a2 (64 : Int));
let v5 : Int := (IntKind.i64.wrap v4);
let v6 : Int := (IntKind.i64.wrap ((1 : Int) + v5));
F62 R a0 a1 v6 fun y7 y8 y9 =>
let v10 : Bool := (y9 != (0 : Int));
(match v10 with
| true => let v11 : Bool := (y7 == (0 : Int));
k v11
| false => F64 R a1 fun y12 =>
let v13 : Int := (IntKind.u64.wrap y12);
let v14 : Bool := (decide (y7 ≥ a1));
(match v14 with
| true => k false
| false => let v15 : Bool := (decide (y8.2.2.2.2.2.1 < a0.2.2.2.2.2.1));
(match v15 with
| true => k false
| false => let v16 : Bool := (decide (v13 > (0 : Int)));
(match v16 with
| true => let v17 : Int := (IntKind.u64.wrap (y8.2.2.2.2.2.1 - a0.2.2.2.2.2.1));
(match (!(v13 == 0)) with
| true => let v18 : Int := (Int.tmod v17 v13);
let v19 : Bool := (v18 != (0 : Int));
(match v19 with
| true => k false
| false => let v20 : Int := (IntKind.u64.wrap (y8.2.2.2.2.2.1 - a0.2.2.2.2.2.1));
let v21 : Int := (IntKind.u64.wrap v6);
let v22 : Int := (IntKind.u64.wrap (v13 * v21));
let v23 : Bool := (decide (v20 > v22));
(match v23 with
| true => k false
| false => let v24 : Bool := (v13 == (0 : Int));
(match v24 with
| true => let v25 : Bool := (decide (v13 > (0 : Int)));
(match v25 with
| true => k true
| false => let v26 : Bool := (y8.2.2.2.2.2.1 == a0.2.2.2.2.2.1);
k v26)
| false => let v27 : Int := (IntKind.u64.wrap (y8.2.2.2.2.2.1 - a0.2.2.2.2.2.1));
let v28 : Bool := (v27 == v13);
(match v28 with
| true => let v29 : Bool := (decide (v13 > (0 : Int)));
(match v29 with
| true => k true
| false => let v30 : Bool := (y8.2.2.2.2.2.1 == a0.2.2.2.2.2.1);
k v30)
| false => let v31 : Int := (IntKind.u64.wrap (y8.2.2.2.2.2.1 - a0.2.2.2.2.2.1));
(match (!(v13 == 0)) with
| true => let v32 : Int := (IntKind.u64.wrap (Int.tdiv v31 v13));
let v33 : Int := (IntKind.i64.wrap v32);
let v34 : Int := (IntKind.i64.wrap (v33 - (1 : Int)));
F62 R a0 a1 v34 fun y35 y36 y37 =>
let v38 : Bool := (y37 == (9 : Int));
(match v38 with
| true => let v39 : Bool := (y35 == (0 : Int));
(match v39 with
| true => let v40 : Int := (IntKind.u64.wrap (y8.2.2.2.2.2.1 - v13));
let v41 : Bool := (y36.2.2.2.2.2.1 == v40);
k v41
| false => k false)
| false => k false)
| false => none)))))
| false => none)
| false => let v42 : Int := (IntKind.u64.wrap (y8.2.2.2.2.2.1 - a0.2.2.2.2.2.1));
let v43 : Int := (IntKind.u64.wrap v6);
let v44 : Int := (IntKind.u64.wrap (v13 * v43));
let v45 : Bool := (decide (v42 > v44));
(match v45 with
| true => k false
| false => let v46 : Bool := (v13 == (0 : Int));
(match v46 with
| true => let v47 : Bool := (decide (v13 > (0 : Int)));
(match v47 with
| true => k true
| false => let v48 : Bool := (y8.2.2.2.2.2.1 == a0.2.2.2.2.2.1);
k v48)
| false => let v49 : Int := (IntKind.u64.wrap (y8.2.2.2.2.2.1 - a0.2.2.2.2.2.1));
let v50 : Bool := (v49 == v13);
(match v50 with
| true => let v51 : Bool := (decide (v13 > (0 : Int)));
(match v51 with
| true => k true
| false => let v52 : Bool := (y8.2.2.2.2.2.1 == a0.2.2.2.2.2.1);
k v52)
| false => let v53 : Int := (IntKind.u64.wrap (y8.2.2.2.2.2.1 - a0.2.2.2.2.2.1));
(match (!(v13 == 0)) with
| true => let v54 : Int := (IntKind.u64.wrap (Int.tdiv v53 v13));
let v55 : Int := (IntKind.i64.wrap v54);
let v56 : Int := (IntKind.i64.wrap (v55 - (1 : Int)));
F62 R a0 a1 v56 fun y57 y58 y59 =>
let v60 : Bool := (y59 == (9 : Int));
(match v60 with
| true => let v61 : Bool := (y57 == (0 : Int));
(match v61 with
| true => let v62 : Int := (IntKind.u64.wrap (y8.2.2.2.2.2.1 - v13));
let v63 : Bool := (y58.2.2.2.2.2.1 == v62);
k v63
| false => k false)
| false => k false)
| false => none))))))))))
theorem q19 (F61 : FT61) (F62 : FT62) (F64 : FT64) (F : FT19) (R : Type) (x : AT (en19 F).ins) (k : RT (en19 F).outs → PT (en19 F).ins → Option R) :
  xfun (e19 F61 F62 F64 R) (codeOf Try.f19) res19 (avs (en19 F).ins x) (finK (en19 F).outs (en19 F).ins k) = p19 F61 F62 F64 R x.1 x.2.1 x.2.2.1 (fun y1 => k (y1, ()) ()) := by kernel_rfl
noncomputable def F19 : FT19 := p19 F61 F62 F64
theorem env19 (R : Type) : EnvOK Try.prog (e19 F61 F62 F64 R) := ⟨tabOK, eqOK, callOf_ok (allE_cons ok61 (allE_cons ok62 (allE_cons ok64 allE_nil)))⟩
theorem ok19 : (en19 F19).OK Try.prog :=
  ent_ok (Ef := fun R => e19 F61 F62 F64 R) (fun R => env19 R) mixed Try.func19 (body := codeOf Try.f19) (by kernel_rfl) (by kernel_rfl) (np := 0) (nt := 127) (fun _ => rfl) (fun _ => rfl) (by kernel_rfl) (res := res19) (by kernel_rfl) (fun _ => rfl) (fun _ => Nat.le_of_ble_eq_true rfl) (by
    intro R
    rw [show loopsOf (codeOf Try.f19) = [] from by kernel_rfl]
    exact allM_nil) (fun R x k => q19 F61 F62 F64 F19 R x k)
/-! drawlot/drawlotlaw08.UniformNeeds -/
abbrev FT20 : Type 1 := (R : Type) → Int → (Bool → Option R) → Option R
def en20 (F : FT20) : Ent := ⟨20, [(false, (.int .u64))], [(false, .bool)], fun R x k => F R x.1 (fun y1 => k (y1, ()) ())⟩
def res20 : List (ResultVar × TypeId × Bool) := [(.tmp 2, 4, false)]
def e20 (F61 : FT61) (F64 : FT64) (F66 : FT66) (R : Type) : Env R := ⟨TT, EQT, 0, 33, ownOf [], callOf [en61 F61, en64 F64, en66 F66] R, loopOf [] R⟩
def p20 (F61 : FT61) (F64 : FT64) (F66 : FT66) : FT20 := fun R a0 k =>
F61 R  fun y1 =>
(match (!y1) with
| true => k false
| false => F64 R a0 fun y2 =>
let v3 : Bool := (decide (a0 < (2 : Int)));
(match v3 with
| true => let v4 : Bool := (y2 == (0 : Int));
k v4
| false => let v5 : Bool := (decide (y2 < (1 : Int)));
(match v5 with
| true => k false
| false => let v6 : Bool := (decide (y2 > (64 : Int)));
(match v6 with
| true => k false
| false => let v7 : Int := (IntKind.i64.wrap (y2 - (1 : Int)));
F66 R (2 : Int) v7 fun y8 =>
let v9 : Bool := (decide (y8 < a0));
(match v9 with
| true => let v10 : Bool := (y2 == (64 : Int));
(match v10 with
| true => k true
| false => F66 R (2 : Int) y2 fun y11 =>
let v12 : Bool := (decide (a0 ≤ y11));
k v12)
| false => k false)))))
theorem q20 (F61 : FT61) (F64 : FT64) (F66 : FT66) (F : FT20) (R : Type) (x : AT (en20 F).ins) (k : RT (en20 F).outs → PT (en20 F).ins → Option R) :
  xfun (e20 F61 F64 F66 R) (codeOf Try.f20) res20 (avs (en20 F).ins x) (finK (en20 F).outs (en20 F).ins k) = p20 F61 F64 F66 R x.1 (fun y1 => k (y1, ()) ()) := by kernel_rfl
noncomputable def F20 : FT20 := p20 F61 F64 F66
theorem env20 (R : Type) : EnvOK Try.prog (e20 F61 F64 F66 R) := ⟨tabOK, eqOK, callOf_ok (allE_cons ok61 (allE_cons ok64 (allE_cons ok66 allE_nil)))⟩
theorem ok20 : (en20 F20).OK Try.prog :=
  ent_ok (Ef := fun R => e20 F61 F64 F66 R) (fun R => env20 R) mixed Try.func20 (body := codeOf Try.f20) (by kernel_rfl) (by kernel_rfl) (np := 0) (nt := 33) (fun _ => rfl) (fun _ => rfl) (by kernel_rfl) (res := res20) (by kernel_rfl) (fun _ => rfl) (fun _ => Nat.le_of_ble_eq_true rfl) (by
    intro R
    rw [show loopsOf (codeOf Try.f20) = [] from by kernel_rfl]
    exact allM_nil) (fun R x k => q20 F61 F64 F66 F20 R x k)
end Go.PG
namespace Go.PG
/-! Sources of bits. -/
abbrev Src := Int × (List Int × (Int × (List Int × (Int × (Int × Unit)))))
abbrev Rdr := Src × (List Int × (Int × (Bool × Unit)))
def atS (s : Src) : Int := s.2.2.2.2.2.1
def setAt (s : Src) (n : Int) : Src := (s.1, s.2.1, s.2.2.1, s.2.2.2.1, s.2.2.2.2.1, n, ())
structure SOK (s : Src) : Prop where
  tape : AllU8 s.2.1
  len : s.2.1.length ≤ 1000000
  bits : U64 s.2.2.1
  seed : H32 s.2.2.2.1
  dom : U64 s.2.2.2.2.1
  at_ : U64 s.2.2.2.2.2.1
theorem SOK.set {s : Src} (h : SOK s) {n : Int} (hn : U64 n) : SOK (setAt s n) := ⟨h.tape, h.len, h.bits, h.seed, h.dom, hn⟩
def rightS' (s : Src) : Bool := if s.1 = 1 then decide (s.2.2.1 ≤ 8 * (s.2.1.length : Int) ∧ s.2.2.2.2.2.1 ≤ s.2.2.1) else decide (s.1 = 2 ∧ s.2.2.2.2.2.1 ≤ 4611686018427387904)
def endS (s : Src) : Int := if s.1 = 1 then s.2.2.1 else 4611686018427387904
def leftS (s : Src) : Int := if rightS' s = true then endS s - s.2.2.2.2.2.1 else 0
def bitAt (s : Src) (n : Int) : Int := if s.1 = 1 then s.2.1.getD (n / 8).toNat 0 / 2 ^ (7 - n % 8).toNat % 2 else bitS s.2.2.2.1 s.2.2.2.2.1 n

theorem F78_eq (R : Type) {s : Src} (h : SOK s) (k : Int → Bool → Option R) : F78 R s k = (if s.1 = 1 then k s.2.2.1 (decide (s.2.2.1 ≤ 8 * (s.2.1.length : Int))) else if s.1 = 2 then k 4611686018427387904 true else k 0 false) := by
  have hl := h.len
  simp only [F78, p78]
  rw [wrap_u64 (n := (s.2.1.length : Int)) (by omega) (by omega), wrap_u64 (n := (s.2.1.length : Int) * 8) (by omega) (by omega), Int.mul_comm]
  by_cases h1 : s.1 = 1
  · simp [h1]
  · by_cases h2 : s.1 = 2
    · simp [h2]
    · simp only [beq_eq_false_iff_ne.2 h1, beq_eq_false_iff_ne.2 h2, if_neg h1, if_neg h2]
theorem F53_eq (R : Type) {s : Src} (h : SOK s) (k : Bool → Option R) : F53 R s k = k (rightS' s) := by
  simp only [F53, p53]
  rw [F78_eq R h]
  unfold rightS'
  by_cases h1 : s.1 = 1
  · simp only [h1, if_true]
    by_cases h2 : s.2.2.1 ≤ 8 * (s.2.1.length : Int)
    · simp [h2]
    · simp [h2]
  · simp only [h1, if_false]
    by_cases h2 : s.1 = 2
    · simp [h2]
    · simp [h2]
theorem F54_eq (R : Type) {s : Src} (h : SOK s) (k : Bool → Option R) : F54 R s k = k (rightS' s) := by
  have hl := h.len
  simp only [F54, p54]
  rw [wrap_u64 (n := (s.2.1.length : Int)) (by omega) (by omega), wrap_u64 (n := 8 * (s.2.1.length : Int)) (by omega) (by omega)]
  unfold rightS'
  by_cases h1 : s.1 = 1
  · simp only [h1, if_true]
    by_cases h2 : s.2.2.1 ≤ 8 * (s.2.1.length : Int)
    · simp [h2]
    · simp [h2]
  · simp only [h1, if_false]
    by_cases h2 : s.1 = 2
    · simp [h2]
    · simp only [beq_eq_false_iff_ne.2 h1, beq_eq_false_iff_ne.2 h2]
      simp [h2]
theorem right_spec {s : Src} (h : rightS' s = true) : (s.1 = 1 ∧ s.2.2.1 ≤ 8 * (s.2.1.length : Int) ∧ s.2.2.2.2.2.1 ≤ s.2.2.1 ∧ endS s = s.2.2.1) ∨ (s.1 = 2 ∧ s.2.2.2.2.2.1 ≤ 4611686018427387904 ∧ endS s = 4611686018427387904) := by
  unfold rightS' at h
  unfold endS
  by_cases h1 : s.1 = 1
  · rw [if_pos h1] at h ⊢
    have := of_decide_eq_true h
    exact .inl ⟨h1, this.1, this.2, rfl⟩
  · rw [if_neg h1] at h ⊢
    have := of_decide_eq_true h
    exact .inr ⟨this.1, this.2, rfl⟩
theorem left_ok {s : Src} (hs : SOK s) : 0 ≤ leftS s ∧ leftS s ≤ 4611686018427387904 ∧ (rightS' s = true → s.2.2.2.2.2.1 + leftS s = endS s) := by
  have h1 := hs.at_; have h2 := hs.bits; have h3 := hs.len
  unfold U64 at h1 h2
  unfold leftS
  by_cases h : rightS' s = true
  · rw [if_pos h]
    rcases right_spec h with ⟨_, a2, a3, a4⟩ | ⟨_, a2, a3⟩
    · rw [a4]; omega
    · rw [a3]; omega
  · rw [if_neg h]
    exact ⟨by omega, by omega, fun e => absurd e h⟩
theorem F55_eq (R : Type) {s : Src} (h : SOK s) (k : Int → Option R) : F55 R s k = k (leftS s) := by
  have hl := left_ok h
  simp only [F55, p55]
  rw [F53_eq R h, F78_eq R h]
  unfold leftS at *
  by_cases hr : rightS' s = true
  · have hr' := hr
    simp only [hr, Bool.not_true, if_true] at hl ⊢
    rcases right_spec hr' with ⟨a1, a2, a3, a4⟩ | ⟨a1, a2, a3⟩
    · rw [if_pos a1, a4, wrap_u64 (by rw [a4] at hl; omega) (by rw [a4] at hl; omega)]
    · rw [if_neg (by omega), if_pos a1, a3, wrap_u64 (by rw [a3] at hl; omega) (by rw [a3] at hl; omega)]
  · simp only [Bool.not_eq_true] at hr
    simp [hr]
theorem F56_eq (R : Type) {s : Src} (h : SOK s) (k : Int → Option R) : F56 R s k = k (leftS s) := by
  have hl := left_ok h
  simp only [F56, p56]
  rw [F54_eq R h]
  unfold leftS at *
  by_cases hr : rightS' s = true
  · have hr' := hr
    simp only [hr, Bool.not_true, if_true] at hl ⊢
    rcases right_spec hr' with ⟨a1, a2, a3, a4⟩ | ⟨a1, a2, a3⟩
    · have e1 : (s.1 == 1) = true := by simp [a1]
      rw [e1, a4, wrap_u64 (by rw [a4] at hl; omega) (by rw [a4] at hl; omega)]
    · have e1 : (s.1 == 1) = false := by simp [a1]
      rw [e1, a3]
      simp only []
      rw [wrap_u64 (n := 4611686018427387904 - s.2.2.2.2.2.1) (by rw [a3] at hl; omega) (by rw [a3] at hl; omega)]
  · simp only [Bool.not_eq_true] at hr
    simp [hr]

/-! One bit. -/
theorem bit_range (s : Src) (n : Int) : 0 ≤ bitAt s n ∧ bitAt s n ≤ 1 := by
  unfold bitAt bitS
  split <;> omega
theorem F77_eq (R : Type) {s : Src} (h : SOK s) {n : Int} (hn : U64 n) (hk : (s.1 = 1 ∧ n < 8 * (s.2.1.length : Int)) ∨ s.1 = 2) (k : Int → Option R) : F77 R s n k = k (bitAt s n) := by
  have hl := h.len
  have hn' := hn
  unfold U64 at hn
  simp only [F77, p77]
  unfold bitAt
  rcases hk with ⟨a1, a2⟩ | a1
  · have e1 : (s.1 == 2) = false := by simp [a1]
    rw [e1, if_pos a1, Int.tdiv_eq_ediv_of_nonneg hn.1, wrap_u64 (n := n / 8) (by omega) (by omega)]
    have hb : bnd (n / 8) (s.2.1.length : Int) = true := by unfold bnd; simp; omega
    simp only [hb]
    have hu : U8 (s.2.1.getD (n / 8).toNat 0) := getD_all h.tape u8_0 _
    generalize s.2.1.getD (n / 8).toNat 0 = x at *
    unfold U8 at hu
    rw [wrap_u32 (n := x) (by omega) (by omega), Int.tmod_eq_emod_of_nonneg hn.1, wrap_i64 (n := n % 8) (by omega) (by omega), wrap_i64 (n := 7 - n % 8) (by omega) (by omega),
      F47_lit R (x := x) (by unfold U32; omega) (7 - n % 8).toNat (by omega) (by omega)]
    unfold shrS
    have hq : 0 ≤ x / 2 ^ (7 - n % 8).toNat := Int.ediv_nonneg hu.1 (Int.le_of_lt (Int.pow_pos (by decide)))
    rw [Int.tmod_eq_emod_of_nonneg hq, wrap_u64 (by omega) (by omega)]
  · have e1 : (s.1 == 2) = true := by simp [a1]
    rw [e1, if_neg (by omega)]
    simp only []
    rw [F41_eq R h.seed h.dom hn']

def RI (r : Rdr) : Prop := r.2.2.2.1 = true → r.2.1 = blockS r.1.2.2.2.1 r.1.2.2.2.2.1 r.2.2.1
theorem iand_u8_1 {x : Int} (hx : U8 x) : iand .u8 x 1 = x % 2 := by
  unfold U8 at hx
  obtain ⟨y, rfl⟩ : ∃ y : Nat, x = y := ⟨x.toNat, by omega⟩
  have e : iand .u8 (y : Int) 1 = ((BitVec.ofInt 8 (y : Int) &&& BitVec.ofInt 8 ((1 : Nat) : Int)).toNat : Int) := wrap_bv8 _
  rw [e, BitVec.ofInt_natCast, BitVec.ofInt_natCast, BitVec.toNat_and, BitVec.toNat_ofNat, BitVec.toNat_ofNat, Nat.mod_eq_of_lt (by omega), Nat.mod_eq_of_lt (by omega), show (1 : Nat) = 2 ^ 1 - 1 by rfl, Nat.and_two_pow_sub_one_eq_mod]
  simp
theorem u76_eq (R : Type) (r : Rdr) {y : Int} (hy : U8 y) (hat : 0 ≤ atS r.1 ∧ atS r.1 < 9000000000000000000) (q : List Int × (Int × (Bool × Unit))) (k : Int → Rdr → Option R) :
    u76 R r y q k = k (y / 2 ^ (7 - atS r.1 % 8).toNat % 2) (setAt r.1 (atS r.1 + 1), q) := by
  unfold atS at *
  simp only [u76]
  unfold setAt
  generalize r.1.2.2.2.2.2.1 = n at *
  rw [Int.tmod_eq_emod_of_nonneg hat.1, wrap_u64 (n := 7 - n % 8) (by omega) (by omega), wrap_u64 (n := n + 1) (by omega) (by omega)]
  obtain ⟨m, hm⟩ : ∃ m : Nat, 7 - n % 8 = m := ⟨(7 - n % 8).toNat, by omega⟩
  rw [hm, Int.toNat_natCast]
  have e8 : ishr .u8 y (m : Int) = y / 2 ^ m := by
    unfold ishr
    rw [show IntKind.u8.bits = 8 from rfl, Int.toNat_natCast, Nat.min_eq_left (by omega), Int.fdiv_eq_ediv_of_nonneg _ (by have := two_pow_pos m; omega)]
  unfold U8 at hy
  have hp : (0 : Int) < 2 ^ m := Int.pow_pos (by decide)
  have hq : 0 ≤ y / 2 ^ m ∧ y / 2 ^ m ≤ y := ⟨Int.ediv_nonneg hy.1 (by omega), Int.ediv_le_self _ hy.1⟩
  rw [e8, iand_u8_1 (by unfold U8; omega), wrap_u64 (by omega) (by omega)]
theorem F76_eq (R : Type) {r : Rdr} (h : SOK r.1) (hi : RI r) (hk : (r.1.1 = 1 ∧ atS r.1 < 8 * (r.1.2.1.length : Int)) ∨ r.1.1 = 2) (hat : atS r.1 < 9000000000000000000) (k : Int → Rdr → Option R) :
    ∃ q, RI (setAt r.1 (atS r.1 + 1), q) ∧ F76 R r k = k (bitAt r.1 (atS r.1)) (setAt r.1 (atS r.1 + 1), q) := by
  have hl := h.len
  have ha := h.at_
  have hat' : 0 ≤ atS r.1 ∧ atS r.1 < 9000000000000000000 := ⟨ha.1, hat⟩
  simp only [F76]
  show ∃ q, RI (setAt r.1 (atS r.1 + 1), q) ∧ (F93 R r (IntKind.u64.wrap (Int.tdiv (atS r.1) 8)) fun y2 p3 => match decide (0 ≤ IntKind.u64.wrap (7 - Int.tmod (atS r.1) 8)) with | true => u76 R r y2 p3.2 k | false => none) = _
  have hdc : decide (0 ≤ IntKind.u64.wrap (7 - Int.tmod (atS r.1) 8)) = true := by
    rw [wrap_u64_mod]; exact decide_eq_true (by omega)
  simp only [hdc]
  rw [Int.tdiv_eq_ediv_of_nonneg hat'.1, wrap_u64 (n := atS r.1 / 8) (by omega) (by omega)]
  simp only [F93, p93]
  generalize hn : atS r.1 = n at *
  unfold bitAt
  rcases hk with ⟨a1, a2⟩ | a1
  · have e1 : (r.1.1 == 1) = true := by simp [a1]
    have hb : bnd (n / 8) (r.1.2.1.length : Int) = true := by unfold bnd; simp; omega
    simp only [e1, hb]
    refine ⟨r.2, hi, ?_⟩
    rw [if_pos a1, u76_eq R r (getD_all h.tape u8_0 _) (by rw [hn]; exact hat'), hn]
  · have e1 : (r.1.1 == 1) = false := by simp [a1]
    simp only [e1]
    rw [if_neg (by omega), Int.tdiv_eq_ediv_of_nonneg (by omega), wrap_u64 (n := n / 8 / 32) (by omega) (by omega), Int.tmod_eq_emod_of_nonneg (by omega)]
    have hb : bnd (n / 8 % 32) 32 = true := by unfold bnd; simp; omega
    have hbit : (blockS r.1.2.2.2.1 r.1.2.2.2.2.1 (n / 8 / 32)).getD (n / 8 % 32).toNat 0 / 2 ^ (7 - n % 8).toNat % 2 = bitS r.1.2.2.2.1 r.1.2.2.2.2.1 n := by
      unfold bitS
      rw [show n / 8 / 32 = n / 256 by omega, show n / 8 % 32 = n % 256 / 8 by omega]
    have hu := fun i => getD_all (blockS_ok r.1.2.2.2.1 r.1.2.2.2.2.1 (n / 8 / 32)).2 u8_0 i
    have go : ∀ q, u76 R r ((blockS r.1.2.2.2.1 r.1.2.2.2.2.1 (n / 8 / 32)).getD (n / 8 % 32).toNat 0) q k = k (bitS r.1.2.2.2.1 r.1.2.2.2.2.1 n) (setAt r.1 (n + 1), q) := fun q => by
      rw [u76_eq R r (hu _) (by rw [hn]; exact hat'), hn, hbit]
    have fresh : (F38 R r.1.2.2.2.1 r.1.2.2.2.2.1 (n / 8 / 32) fun y5 => match bnd (n / 8 % 32) 32 with
        | true => u76 R r (y5.getD (n / 8 % 32).toNat 0) (r.1, y5, n / 8 / 32, true, r.2.2.2.2).2 k
        | false => none) = k (bitS r.1.2.2.2.1 r.1.2.2.2.2.1 n) (setAt r.1 (n + 1), (blockS r.1.2.2.2.1 r.1.2.2.2.2.1 (n / 8 / 32), n / 8 / 32, true, ())) := by
      rw [F38_eq R h.seed]
      simp only [hb]
      exact go _
    cases hs : r.2.2.2.1 with
    | false =>
      simp only [Bool.not_false]
      exact ⟨_, fun _ => rfl, fresh⟩
    | true =>
      simp only [Bool.not_true]
      by_cases hne : n / 8 / 32 = r.2.2.1
      · have e2 : (n / 8 / 32 != r.2.2.1) = false := by simp [hne]
        simp only [e2, hb]
        refine ⟨r.2, fun e => hi e, ?_⟩
        have := hi hs
        rw [← hne] at this
        rw [this]
        exact go _
      · have e2 : (n / 8 / 32 != r.2.2.1) = true := by simp [hne]
        simp only [e2]
        exact ⟨_, fun _ => rfl, fresh⟩
end Go.PG
namespace Go.PG
/-! What is taken of a source. -/
def takeV (s : Src) (a : Int) : Nat → Int
  | 0 => 0
  | n + 1 => 2 * takeV s a n + bitAt s (a + n)
theorem takeV_range (s : Src) (a : Int) : ∀ n : Nat, 0 ≤ takeV s a n ∧ takeV s a n < 2 ^ n
  | 0 => by simp [takeV]
  | n + 1 => by
    have ih := takeV_range s a n
    have hb := bit_range s (a + n)
    simp only [takeV]
    rw [Int.pow_succ]
    omega
theorem takeV_set (s : Src) (x a : Int) : ∀ n : Nat, takeV (setAt s x) a n = takeV s a n
  | 0 => rfl
  | n + 1 => by simp only [takeV, takeV_set s x a n]; rfl
theorem takeV_add (s : Src) (a : Int) (m : Nat) : ∀ n : Nat, takeV s a (m + n) = takeV s a m * 2 ^ n + takeV s (a + m) n
  | 0 => by simp [takeV]
  | n + 1 => by
    have ih := takeV_add s a m n
    show 2 * takeV s a (m + n) + bitAt s (a + ((m + n : Nat) : Int)) = takeV s a m * 2 ^ (n + 1) + (2 * takeV s (a + m) n + bitAt s (a + m + n))
    rw [ih, Int.pow_succ, show a + ((m + n : Nat) : Int) = a + m + n by omega]
    generalize bitAt s (a + m + n) = b
    generalize takeV s (a + m) n = c
    generalize takeV s a m = d
    generalize (2 : Int) ^ n = p
    rw [Int.mul_add, ← Int.mul_assoc d p 2, Int.mul_comm (d * p) 2]
    omega
theorem pow_le_64 {n : Nat} (h : n ≤ 64) : (2 : Int) ^ n ≤ 18446744073709551616 := by
  have : (2 : Nat) ^ n ≤ 2 ^ 64 := Nat.pow_le_pow_right (by omega) h
  have e : ((2 ^ n : Nat) : Int) = (2 : Int) ^ n := by simp
  omega
theorem ior_shl1 {x b : Int} (hx : 0 ≤ x ∧ x < 9223372036854775808) (hb : 0 ≤ b ∧ b ≤ 1) : ior .u64 (ishl .u64 x 1) b = 2 * x + b := by
  obtain ⟨n, rfl⟩ : ∃ n : Nat, x = n := ⟨x.toNat, by omega⟩
  obtain ⟨c, rfl⟩ : ∃ c : Nat, b = c := ⟨b.toNat, by omega⟩
  have e2 : ishl .u64 (n : Int) 1 = ((n * 2 : Nat) : Int) := by
    unfold ishl
    rw [show (2 : Int) ^ (min (1 : Int).toNat IntKind.u64.bits) = 2 by decide, wrap_u64 (by omega) (by omega)]
    simp
  rw [e2, ior_u64, BitVec.ofInt_natCast, BitVec.ofInt_natCast, BitVec.toNat_or, BitVec.toNat_ofNat, BitVec.toNat_ofNat, Nat.mod_eq_of_lt (by omega), Nat.mod_eq_of_lt (by omega)]
  have h6 := Nat.shiftLeft_add_eq_or_of_lt (i := 1) (b := c) (by omega) n
  rw [Nat.shiftLeft_eq] at h6
  rw [show n * 2 = n * 2 ^ 1 by rfl, ← h6]
  simp; omega
theorem setAt_self (s : Src) : setAt s (atS s) = s := rfl
theorem setAt_set (s : Src) (x y : Int) : setAt (setAt s x) y = setAt s y := rfl
theorem atS_set (s : Src) (x : Int) : atS (setAt s x) = x := rfl
theorem bitAt_set (s : Src) (x n : Int) : bitAt (setAt s x) n = bitAt s n := rfl
theorem G50_eq (R : Type) {s : Src} (h : SOK s) {K : Nat} (hK : K ≤ 64) (hk : (s.1 = 1 ∧ atS s + K ≤ 8 * (s.2.1.length : Int)) ∨ s.1 = 2) (hat : atS s + K < 9000000000000000000) (x4 : Src) (k0 : Int → Src → Rdr → Option R) :
    ∀ (m i : Nat) (r : Rdr), i ≤ K → K - i < m → r.1 = setAt s (atS s + i) → RI r → ∃ q, G50_7 m R (takeV s (atS s) i) (K : Int) (i : Int) x4 r k0 = k0 (takeV s (atS s) K) x4 (setAt s (atS s + K), q)
  | 0, i, _, _, h, _, _ => by omega
  | m + 1, i, r, h1, h2, hr, hi => by
    simp only [G50_7, p50_7]
    have h0 := h.at_
    unfold U64 at h0
    have h0' : 0 ≤ atS s := h0.1
    by_cases hlt : i < K
    · have hd : decide ((i : Int) < (K : Int)) = true := by simpa using hlt
      simp only [hd]
      have hra : atS r.1 = atS s + i := by rw [hr]; rfl
      have hlen : r.1.2.1 = s.2.1 := by rw [hr]; rfl
      have hknd : r.1.1 = s.1 := by rw [hr]; rfl
      obtain ⟨q, g1, g2⟩ := F76_eq R (r := r) (by rw [hr]; exact h.set (by unfold U64; omega)) hi (by
        rw [hra, hlen, hknd]
        rcases hk with ⟨b1, b2⟩ | b1
        · exact .inl ⟨b1, by omega⟩
        · exact .inr b1) (by rw [hra]; omega) (fun y8 p9 => G50_7 m R (ior .u64 (ishl .u64 (takeV s (atS s) i) 1) y8) (K : Int) (IntKind.i64.wrap ((i : Int) + 1)) x4 p9 k0)
      have hv := takeV_range s (atS s) i
      have hp : (2 : Int) ^ i ≤ 9223372036854775808 := by
        have : (2 : Nat) ^ i ≤ 2 ^ 63 := Nat.pow_le_pow_right (by omega) (by omega)
        have e : ((2 ^ i : Nat) : Int) = (2 : Int) ^ i := by simp
        omega
      have hbt : bitAt r.1 (atS r.1) = bitAt s (atS s + i) := by rw [hra, hr]; rfl
      obtain ⟨q2, g3⟩ := G50_eq R h hK hk hat x4 k0 m (i + 1) (setAt r.1 (atS r.1 + 1), q) (by omega) (by omega) (by
        show setAt r.1 (atS r.1 + 1) = _
        rw [hra, hr, setAt_set]
        congr 1
        omega) g1
      refine ⟨q2, ?_⟩
      rw [g2, ior_shl1 ⟨hv.1, by omega⟩ (bit_range _ _), hbt, wrap_i64 (n := (i : Int) + 1) (by omega) (by omega)]
      exact g3
    · have : i = K := by omega
      subst this
      have hd : decide ((i : Int) < (i : Int)) = false := by simp
      simp only [hd]
      refine ⟨r.2, ?_⟩
      rw [← hr]
def takeR (s : Src) (k : Int) : Int × Src × Int :=
  if rightS' s = true ∧ 0 ≤ k ∧ k ≤ 64 then (if k ≤ leftS s then (takeV s (atS s) k.toNat, setAt s (atS s + k), 0) else (0, s, 8)) else (0, s, 1)
theorem right_room {s : Src} (hs : SOK s) (hr : rightS' s = true) {k : Nat} (hk : (k : Int) ≤ leftS s) : ((s.1 = 1 ∧ atS s + k ≤ 8 * (s.2.1.length : Int)) ∨ s.1 = 2) ∧ atS s + k < 9000000000000000000 := by
  have hl := left_ok hs
  have := hl.2.2 hr
  have hln := hs.len
  unfold atS
  rcases right_spec hr with ⟨a1, a2, a3, a4⟩ | ⟨a1, a2, a3⟩
  · rw [a4] at this
    exact ⟨.inl ⟨a1, by omega⟩, by omega⟩
  · exact ⟨.inr a1, by omega⟩
theorem F50_eq (R : Type) {s : Src} (hs : SOK s) {n : Int} (k : Int → Src → Int → Option R) : F50 R s n k = k (takeR s n).1 (takeR s n).2.1 (takeR s n).2.2 := by
  simp only [F50, p50]
  rw [F53_eq R hs]
  unfold takeR
  by_cases hr : rightS' s = true
  · simp only [hr, Bool.not_true, true_and]
    by_cases h1 : n < 0
    · rw [if_neg (by omega)]
      simp only [decide_eq_true h1]
    · simp only [decide_eq_false h1]
      by_cases h2 : n > 64
      · rw [if_neg (by omega)]
        simp only [decide_eq_true h2]
      · rw [if_pos (by omega)]
        simp only [decide_eq_false h2]
        rw [wrap_u64 (n := n) (by omega) (by omega), F55_eq R hs]
        by_cases h3 : n > leftS s
        · rw [if_neg (by omega)]
          simp only [decide_eq_true h3]
        · rw [if_pos (by omega)]
          simp only [decide_eq_false h3]
          obtain ⟨m, rfl⟩ : ∃ m : Nat, n = m := ⟨n.toNat, by omega⟩
          have hroom := right_room hs hr (k := m) (by omega)
          obtain ⟨q, g⟩ := G50_eq R hs (K := m) (by omega) hroom.1 hroom.2 (0, [], 0, List.replicate 32 0, 0, 0, ()) (fun x7 x8 x9 => k x7 x9.1 0) FUEL 0 (s, List.replicate 32 0, 0, false, ()) (by omega) (by rw [FUEL_eq]; omega) (by simp only [Int.natCast_zero, Int.add_zero]; rfl) (fun e => by cases e)
          refine g.trans ?_
          rw [Int.toNat_natCast]
  · simp only [Bool.not_eq_true] at hr
    simp [hr]
theorem G51_eq (R : Type) {s : Src} (h : SOK s) {K : Nat} (hK : K ≤ 64) (hk : (s.1 = 1 ∧ atS s + K ≤ 8 * (s.2.1.length : Int)) ∨ s.1 = 2) (hat : atS s + K < 9000000000000000000) (x5 : Src) (k0 : Int → Src → Src → Option R) :
    ∀ (m i : Nat), i ≤ K → K - i < m → G51_7 m R (K : Int) (takeV s (atS s) i) (i : Int) (setAt s (atS s + i)) x5 k0 = k0 (takeV s (atS s) K) (setAt s (atS s + K)) x5
  | 0, i, _, h => by omega
  | m + 1, i, h1, h2 => by
    simp only [G51_7, p51_7]
    have h0 := h.at_
    unfold U64 at h0
    have h0' : 0 ≤ atS s := h0.1
    by_cases hlt : i < K
    · have hd : decide ((i : Int) < (K : Int)) = true := by simpa using hlt
      have ih := G51_eq R h hK hk hat x5 k0 m (i + 1) (by omega) (by omega)
      simp only [hd]
      have hsi : SOK (setAt s (atS s + i)) := h.set (by unfold U64; omega)
      show (F77 R (setAt s (atS s + i)) (atS s + i) fun y8 => G51_7 m R (K : Int) (IntKind.u64.wrap (IntKind.u64.wrap (2 * takeV s (atS s) i) + y8)) (IntKind.i64.wrap ((i : Int) + 1)) (setAt (setAt s (atS s + i)) (IntKind.u64.wrap (atS s + i + 1))) x5 k0) = _
      rw [F77_eq R hsi (by unfold U64; omega) (by
        rcases hk with ⟨b1, b2⟩ | b1
        · exact .inl ⟨b1, by
            show atS s + i < 8 * (s.2.1.length : Int)
            omega⟩
        · exact .inr b1), bitAt_set, setAt_set]
      have hv := takeV_range s (atS s) i
      have hp : (2 : Int) ^ i ≤ 9223372036854775808 := by
        have : (2 : Nat) ^ i ≤ 2 ^ 63 := Nat.pow_le_pow_right (by omega) (by omega)
        have e : ((2 ^ i : Nat) : Int) = (2 : Int) ^ i := by simp
        omega
      have hb := bit_range s (atS s + i)
      rw [wrap_u64 (n := 2 * takeV s (atS s) i) (by omega) (by omega), wrap_u64 (n := 2 * takeV s (atS s) i + bitAt s (atS s + i)) (by omega) (by omega), wrap_i64 (n := (i : Int) + 1) (by omega) (by omega), wrap_u64 (n := atS s + i + 1) (by omega) (by omega), show atS s + (i : Int) + 1 = atS s + ((i + 1 : Nat) : Int) by omega]
      exact ih
    · have : i = K := by omega
      subst this
      have hd : decide ((i : Int) < (i : Int)) = false := by simp
      simp only [hd]
theorem F51_eq (R : Type) {s : Src} (hs : SOK s) {n : Int} (k : Int → Src → Int → Option R) : F51 R s n k = k (takeR s n).1 (takeR s n).2.1 (takeR s n).2.2 := by
  simp only [F51, p51]
  rw [F54_eq R hs]
  unfold takeR
  by_cases hr : rightS' s = true
  · simp only [hr, Bool.not_true, true_and]
    by_cases h1 : n < 0
    · rw [if_neg (by omega)]
      simp only [decide_eq_true h1]
    · simp only [decide_eq_false h1]
      by_cases h2 : n > 64
      · rw [if_neg (by omega)]
        simp only [decide_eq_true h2]
      · rw [if_pos (by omega)]
        simp only [decide_eq_false h2]
        rw [wrap_u64 (n := n) (by omega) (by omega), F56_eq R hs]
        by_cases h3 : n > leftS s
        · rw [if_neg (by omega)]
          simp only [decide_eq_true h3]
        · rw [if_pos (by omega)]
          simp only [decide_eq_false h3]
          obtain ⟨m, rfl⟩ : ∃ m : Nat, n = m := ⟨n.toNat, by omega⟩
          have hroom := right_room hs hr (k := m) (by omega)
          have g := G51_eq R hs (K := m) (by omega) hroom.1 hroom.2 (0, [], 0, List.replicate 32 0, 0, 0, ()) (fun x7 x8 x9 => k x7 x8 0) FUEL 0 (by omega) (by rw [FUEL_eq]; omega)
          have e0 : setAt s (atS s + ((0 : Nat) : Int)) = s := by rw [Int.natCast_zero, Int.add_zero]; rfl
          rw [e0] at g
          refine Eq.trans ?_ (g.trans ?_)
          · rfl
          · rw [Int.toNat_natCast]
  · simp only [Bool.not_eq_true] at hr
    simp [hr]
end Go.PG
namespace Go.PG
/-! The laws of tapes. -/
def sameS (a b : Src) : Bool := a.1 == b.1 && ((strOf a.2.1).toList == (strOf b.2.1).toList && (a.2.2.1 == b.2.2.1 && (Kd.eqv (.arr 32 (.int .u8)) a.2.2.2.1 b.2.2.2.1 && (a.2.2.2.2.1 == b.2.2.2.2.1 && a.2.2.2.2.2.1 == b.2.2.2.2.2.1))))
theorem sameS_self (a : Src) : sameS a a = true := by simp [sameS, eqv32]
theorem F52_eq (R : Type) (a b : Src) (k : Bool → Option R) : F52 R a b k = k (sameS a b) := by
  simp only [F52, p52, sameS]
  generalize (a.1 == b.1) = b1
  generalize ((strOf a.2.1).toList == (strOf b.2.1).toList) = b2
  generalize (a.2.2.1 == b.2.2.1) = b3
  generalize Kd.eqv (.arr 32 (.int .u8)) a.2.2.2.1 b.2.2.2.1 = b4
  generalize (a.2.2.2.2.1 == b.2.2.2.2.1) = b5
  cases b1 <;> cases b2 <;> cases b3 <;> cases b4 <;> cases b5 <;> rfl
theorem F57_eq (R : Type) (a b : Src) (k : Bool → Option R) : F57 R a b k = k (sameS a b) := by
  simp only [F57, p57, F79, p79, sameS]
  generalize (a.1 == b.1) = b1
  generalize ((strOf a.2.1).toList == (strOf b.2.1).toList) = b2
  generalize (a.2.2.1 == b.2.2.1) = b3
  generalize Kd.eqv (.arr 32 (.int .u8)) a.2.2.2.1 b.2.2.2.1 = b4
  generalize (a.2.2.2.2.1 == b.2.2.2.2.1) = b5
  cases b1 <;> cases b2 <;> cases b3 <;> cases b4 <;> cases b5 <;> rfl
structure SFit (s : Src) : Prop where
  tape : AllU8 s.2.1
  bits : U64 s.2.2.1
  seed : H32 s.2.2.2.1
  dom : U64 s.2.2.2.2.1
  at_ : U64 s.2.2.2.2.2.1
theorem SFit.ok {s : Src} (h : SFit s) (hl : s.2.1.length ≤ 1000000) : SOK s := ⟨h.tape, hl, h.bits, h.seed, h.dom, h.at_⟩
theorem fit_src {s : Src} (h : Fit (.pair (.int .i64) (.pair (.sl (.int .u8)) (.pair (.int .u64) (.pair (.arr 32 (.int .u8)) (.pair (.int .u64) (.pair (.int .u64) .unit)))))) s) : SFit s := by
  obtain ⟨_, ⟨_, h2⟩, h3, h4, h5, h6, _⟩ := h
  refine ⟨fun y hy => ?_, ?_, fit_h32 h4, ?_, ?_⟩
  · have := fit_u8 (h2 y hy); unfold U8; omega
  · have := fit_u64 h3; unfold U64; omega
  · have := fit_u64 h5; unfold U64; omega
  · have := fit_u64 h6; unfold U64; omega
theorem F49_eq (R : Type) (s : Src) (k : Bool → Option R) : F49 R s k = k (decide ((s.2.1.length : Int) > 500)) := by
  simp only [F49, p49]
def zeroSrc : Src := (0, [], 0, List.replicate 32 0, 0, 0, ())
def tapeSrc (b : List Int) (n : Int) : Src := (1, b, n, List.replicate 32 0, 0, 0, ())
theorem tapeSrc_ok {b : List Int} (hb : AllU8 b) (hl : b.length ≤ 1000000) {n : Int} (hn : U64 n) : SOK (tapeSrc b n) := ⟨hb, hl, hn, zero32_ok, by unfold U64 tapeSrc; simp, by unfold U64 tapeSrc; simp⟩
def tapeR (b : List Int) (n : Int) : Src × Int := if n ≤ 8 * (b.length : Int) then (tapeSrc b n, 0) else (zeroSrc, 1)
theorem F58_eq (R : Type) {b : List Int} (hb : AllU8 b) (hl : b.length ≤ 1000000) {n : Int} (hn : U64 n) (k : Src → Int → Option R) : F58 R b n k = k (tapeR b n).1 (tapeR b n).2 := by
  simp only [F58, p58, F80]
  have hc : decide (List.length ([] : List Int) + b.length ≤ 140737488355328) = true := by simp; omega
  simp only [hc]
  show (F53 R (tapeSrc b n) fun y2 => match (!y2) with | true => k zeroSrc 1 | false => k (tapeSrc b n) 0) = _
  rw [F53_eq R (tapeSrc_ok hb hl hn)]
  have e : rightS' (tapeSrc b n) = decide (n ≤ 8 * (b.length : Int)) := by
    unfold U64 at hn
    simp [rightS', tapeSrc, hn.1]
  show (match (!rightS' (tapeSrc b n)) with | true => k zeroSrc 1 | false => k (tapeSrc b n) 0) = _
  rw [e]
  unfold tapeR
  by_cases h : n ≤ 8 * (b.length : Int)
  · simp [h]
  · simp [h]
theorem F59_eq (R : Type) {b : List Int} (hl : b.length ≤ 1000000) (n : Int) (k : Src → Int → Option R) : F59 R b n k = k (tapeR b n).1 (tapeR b n).2 := by
  simp only [F59, p59]
  have hc : decide (List.length ([] : List Int) + b.length ≤ 140737488355328) = true := by simp; omega
  simp only [hc, List.nil_append]
  rw [wrap_u64 (n := (b.length : Int)) (by omega) (by omega), wrap_u64 (n := 8 * (b.length : Int)) (by omega) (by omega)]
  unfold tapeR
  by_cases h : n ≤ 8 * (b.length : Int)
  · have h' : ¬ n > 8 * (b.length : Int) := by omega
    rw [if_pos h]
    simp only [decide_eq_false h']
    rfl
  · have h' : n > 8 * (b.length : Int) := by omega
    rw [if_neg h]
    simp only [decide_eq_true h']
    rfl
def streamSrc (a : List Int) (d : Int) : Src := (2, [], 0, a, d, 0, ())
theorem streamSrc_ok {a : List Int} (ha : H32 a) {d : Int} (hd : U64 d) : SOK (streamSrc a d) := ⟨fun y hy => by simp [streamSrc] at hy, by simp [streamSrc], by unfold U64 streamSrc; simp, ha, hd, by unfold U64 streamSrc; simp⟩
theorem F60_eq (R : Type) (a : List Int) (d : Int) (k : Src → Option R) : F60 R a d k = k (streamSrc a d) := by
  simp only [F60, p60]; rfl
theorem F48_eq (R : Type) (k : Bool → Option R) : F48 R k = k true := by
  have u176 : AllU8 [176] := by unfold AllU8 U8; decide
  have hv : H32 (List.set (List.replicate 32 (0 : Int)) 0 (1 : Int)) := ⟨rfl, by unfold AllU8 U8; decide⟩
  have n8 : U64 8 := by unfold U64; decide
  have n9 : U64 9 := by unfold U64; decide
  have n7 : U64 7 := by unfold U64; decide
  have z : SOK zeroSrc := ⟨fun y hy => by simp [zeroSrc] at hy, by simp [zeroSrc], by unfold U64 zeroSrc; simp, zero32_ok, by unfold U64 zeroSrc; simp, by unfold U64 zeroSrc; simp⟩
  have s1 := tapeSrc_ok u176 (by simp) n8
  have s2 := s1.set (n := 3) (by unfold U64; decide)
  have w := streamSrc_ok hv n7
  simp only [F48, p48]
  rw [F58_eq R u176 (by simp) n8]
  have t1 : tapeR [176] 8 = (tapeSrc [176] 8, 0) := by kernel_rfl
  have t2 : tapeR [176] 9 = (zeroSrc, 1) := by kernel_rfl
  have t3 : takeR (tapeSrc [176] 8) 3 = (5, setAt (tapeSrc [176] 8) 3, 0) := by kernel_rfl
  have t4 : takeR (setAt (tapeSrc [176] 8) 3) 6 = (0, setAt (tapeSrc [176] 8) 3, 8) := by kernel_rfl
  simp only [t1]
  rw [F50_eq R s1]
  simp only [t3]
  rw [F50_eq R s2]
  simp only [t4]
  rw [F58_eq R u176 (by simp) n9]
  simp only [t2]
  rw [F60_eq]
  generalize (List.set (List.replicate 32 (0 : Int)) 0 (1 : Int)) = v at *
  have t5 : takeR (streamSrc v 7) 65 = (0, streamSrc v 7, 1) := by kernel_rfl
  have t6 : takeR (streamSrc v 7) 64 = (takeV (streamSrc v 7) 0 64, setAt (streamSrc v 7) 64, 0) := by kernel_rfl
  rw [F50_eq R w]
  simp only [t5]
  rw [F50_eq R w]
  simp only [t6]
  have e1 : leftS (setAt (tapeSrc [176] 8) 3) = 5 := by kernel_rfl
  have e2 : sameS (tapeSrc [176] 8) (setAt (tapeSrc [176] 8) 3) = false := by kernel_rfl
  have e3 : leftS (streamSrc v 7) = 4611686018427387904 := by kernel_rfl
  have e4 : rightS' (streamSrc v 7) = true := by kernel_rfl
  have e5 : rightS' zeroSrc = false := by kernel_rfl
  simp only [beq_self_eq_true]
  rw [F55_eq R s2, e1]
  simp only [beq_self_eq_true]
  rw [F57_eq, sameS_self]
  simp only []
  rw [F57_eq, e2]
  simp only [Bool.not_false]
  have e6 : ((setAt (streamSrc v 7) 64).2.2.2.2.2.1 == 64) = true := by kernel_rfl
  simp only [e6]
  rw [F55_eq R w, e3]
  simp only [beq_self_eq_true]
  rw [F53_eq R w, e4]
  simp only []
  show (F53 R zeroSrc fun y36 => k (!y36)) = k true
  rw [F53_eq R z, e5]
  rfl
theorem F13_eq (R : Type) {s t : Src} (hs : SFit s) (n : Int) (k : Bool → Option R) : F13 R s t n k = k true := by
  simp only [F13, p13]
  rw [F48_eq]
  simp only [Bool.not_true]
  rw [F49_eq]
  by_cases h1 : (s.2.1.length : Int) > 500
  · simp only [decide_eq_true h1]
  · simp only [decide_eq_false h1]
    rw [F49_eq]
    by_cases h2 : (t.2.1.length : Int) > 500
    · simp only [decide_eq_true h2]
    · simp only [decide_eq_false h2]
      have ho := hs.ok (by omega)
      have hc : decide (List.length ([] : List Int) + s.2.1.length ≤ 140737488355328) = true := by simp; omega
      simp only [hc, List.nil_append]
      rw [F50_eq R ho, F51_eq R ho]
      simp only [beq_self_eq_true]
      rw [F52_eq, sameS_self]
      simp only []
      rw [F53_eq R ho, F54_eq R ho]
      simp only [beq_self_eq_true]
      rw [F55_eq R ho, F56_eq R ho]
      simp only [beq_self_eq_true]
      rw [F57_eq, F52_eq]
      simp only [beq_self_eq_true]
theorem F14_eq (R : Type) {b a : List Int} (hb : AllU8 b) {n : Int} (hn : U64 n) (k : Bool → Option R) : F14 R b n a k = k true := by
  simp only [F14, p14]
  rw [F48_eq]
  simp only [Bool.not_true]
  by_cases h1 : (b.length : Int) > 500
  · simp only [decide_eq_true h1]
  · simp only [decide_eq_false h1]
    rw [F58_eq R hb (by omega) hn, F59_eq R (by omega), F60_eq, F52_eq, sameS_self]
    simp only [beq_self_eq_true]
    rw [F52_eq]
    have : sameS (streamSrc a n) (2, [], 0, a, n, 0, ()) = true := sameS_self (streamSrc a n)
    rw [this]
theorem takeR_ok {s : Src} {n : Nat} (hr : rightS' s = true) (h1 : n ≤ 64) (h2 : (n : Int) ≤ leftS s) : takeR s n = (takeV s (atS s) n, setAt s (atS s + n), 0) := by
  unfold takeR
  rw [if_pos ⟨hr, by omega, by omega⟩, if_pos h2, Int.toNat_natCast]
theorem right_set {s : Src} (hs : SOK s) (hr : rightS' s = true) {k : Nat} (hk : (k : Int) ≤ leftS s) : rightS' (setAt s (atS s + k)) = true ∧ leftS (setAt s (atS s + k)) = leftS s - k := by
  have hl := (left_ok hs).2.2 hr
  have h0 : 0 ≤ s.2.2.2.2.2.1 := hs.at_.1
  have hR : rightS' (setAt s (atS s + k)) = true := by
    unfold rightS' atS
    rcases right_spec hr with ⟨a1, a2, a3, a4⟩ | ⟨a1, a2, a3⟩
    · rw [if_pos (show (setAt s (s.2.2.2.2.2.1 + k)).1 = 1 from a1)]
      rw [a4] at hl
      exact decide_eq_true ⟨a2, by show s.2.2.2.2.2.1 + k ≤ s.2.2.1; omega⟩
    · rw [if_neg (show ¬ (setAt s (s.2.2.2.2.2.1 + k)).1 = 1 by show ¬ s.1 = 1; omega)]
      rw [a3] at hl
      exact decide_eq_true ⟨a1, by show s.2.2.2.2.2.1 + k ≤ _; omega⟩
  refine ⟨hR, ?_⟩
  have e : leftS (setAt s (atS s + k)) = endS s - (s.2.2.2.2.2.1 + k) := by
    unfold leftS
    rw [if_pos hR]
    rfl
  rw [e]
  omega
theorem G15_eq (R : Type) {s : Src} (hs : SOK s) (hr : rightS' s = true) {n : Nat} (hn : n ≤ 64) (hk : (n : Int) ≤ leftS s) (x2 : Int) (x5 : Src) (k0 : Bool → Option R) (k1 : Int → Int → Src → Src → Option R) :
    ∀ (m i : Nat), i ≤ n → n - i < m → G15_11 m R (n : Int) x2 (takeV s (atS s) i) (i : Int) x5 (setAt s (atS s + i)) k0 k1 = k1 x2 (takeV s (atS s) n) x5 (setAt s (atS s + n))
  | 0, i, _, h => by omega
  | m + 1, i, h1, h2 => by
    simp only [G15_11, p15_11]
    by_cases hi : i < n
    · have hd : decide ((i : Int) < (n : Int)) = true := by simpa using hi
      simp only [hd]
      have hroom := right_room hs hr hk
      have h0 : 0 ≤ atS s := hs.at_.1
      have hsi : SOK (setAt s (atS s + i)) := hs.set (by unfold U64; omega)
      have hri := right_set hs hr (k := i) (by omega)
      rw [F50_eq R hsi]
      have e1 : takeR (setAt s (atS s + i)) 1 = (bitAt s (atS s + i), setAt s (atS s + ((i + 1 : Nat) : Int)), 0) := by
        have := takeR_ok (n := 1) hri.1 (by omega) (by rw [hri.2]; omega)
        refine this.trans ?_
        rw [setAt_set, atS_set]
        have ev : takeV (setAt s (atS s + i)) (atS s + i) 1 = bitAt s (atS s + i) := by
          simp only [takeV, Int.natCast_zero, Int.add_zero, bitAt_set]
          omega
        rw [ev, show atS s + (i : Int) + ((1 : Nat) : Int) = atS s + ((i + 1 : Nat) : Int) by omega]
      have hb := bit_range s (atS s + i)
      have hd1 : decide (bitAt s (atS s + i) > 1) = false := decide_eq_false (by omega)
      have hn0 : ((0 : Int) != 0) = false := rfl
      simp only [e1, hn0, hd1]
      show (match atS s + ((i + 1 : Nat) : Int) != IntKind.u64.wrap (atS s + i + 1) with | true => k0 false | false => _) = _
      rw [wrap_u64 (n := atS s + i + 1) (by omega) (by omega)]
      have e2 : (atS s + ((i + 1 : Nat) : Int) != atS s + i + 1) = false := by
        rw [show atS s + ((i + 1 : Nat) : Int) = atS s + i + 1 by omega]; simp
      simp only [e2]
      have hsi1 : SOK (setAt s (atS s + ((i + 1 : Nat) : Int))) := hs.set (by unfold U64; omega)
      have hri1 := right_set hs hr (k := i + 1) (by omega)
      have hl := left_ok hs
      rw [F55_eq R hsi1, F55_eq R hsi, hri1.2, hri.2, wrap_u64 (n := leftS s - i - 1) (by omega) (by omega)]
      have e3 : (leftS s - ((i + 1 : Nat) : Int) != leftS s - i - 1) = false := by
        rw [show leftS s - ((i + 1 : Nat) : Int) = leftS s - i - 1 by omega]; simp
      simp only [e3]
      have hv := takeV_range s (atS s) i
      have hp : (2 : Int) ^ i ≤ 9223372036854775808 := by
        have : (2 : Nat) ^ i ≤ 2 ^ 63 := Nat.pow_le_pow_right (by omega) (by omega)
        have e : ((2 ^ i : Nat) : Int) = (2 : Int) ^ i := by simp
        omega
      rw [wrap_u64 (n := 2 * takeV s (atS s) i) (by omega) (by omega), wrap_u64 (n := 2 * takeV s (atS s) i + bitAt s (atS s + i)) (by omega) (by omega), wrap_i64 (n := (i : Int) + 1) (by omega) (by omega)]
      exact G15_eq R hs hr hn hk x2 x5 k0 k1 m (i + 1) (by omega) (by omega)
    · have : i = n := by omega
      subst this
      have hd : decide ((i : Int) < (i : Int)) = false := by simp
      simp only [hd]
theorem F15_eq (R : Type) {s : Src} (hs : SFit s) {n : Int} (hn : 0 ≤ n ∧ n ≤ 255) (k : Bool → Option R) : F15 R s n k = k true := by
  simp only [F15, p15]
  rw [F48_eq]
  simp only [Bool.not_true]
  obtain ⟨q, hq, hq2⟩ : ∃ q : Nat, n % 65 = q ∧ q ≤ 64 := ⟨(n % 65).toNat, by omega, by omega⟩
  rw [Int.tmod_eq_emod_of_nonneg hn.1, hq, wrap_i64 (n := (q : Int)) (by omega) (by omega), F49_eq]
  by_cases h1 : (s.2.1.length : Int) > 500
  · simp only [decide_eq_true h1]
  · simp only [decide_eq_false h1]
    have ho := hs.ok (by omega)
    rw [F50_eq R ho]
    by_cases hr : rightS' s = true
    · by_cases hk : (q : Int) ≤ leftS s
      · rw [takeR_ok hr hq2 hk]
        have hn0 : ((0 : Int) != 0) = false := rfl
        simp only [hn0]
        have e0 : setAt s (atS s + ((0 : Nat) : Int)) = s := by rw [Int.natCast_zero, Int.add_zero]; rfl
        have := G15_eq R ho hr hq2 hk (takeV s (atS s) q) (setAt s (atS s + q)) (fun x => k x) (fun x12 x13 x14 x15 => match x12 == x13 with | true => F52 R x14 x15 fun y17 => k y17 | false => k false) FUEL 0 (by omega) (by rw [FUEL_eq]; omega)
        rw [e0] at this
        refine Eq.trans ?_ (this.trans ?_)
        · rfl
        · simp only [beq_self_eq_true]
          rw [F52_eq, sameS_self]
      · have e : takeR s q = (0, s, 8) := by
          unfold takeR
          rw [if_pos ⟨hr, by omega, by omega⟩, if_neg hk]
        have hn0 : ((8 : Int) != 0) = true := rfl
        simp only [e, hn0, beq_self_eq_true]
        rw [F52_eq, sameS_self]
    · have e : takeR s q = (0, s, 1) := by
        unfold takeR
        rw [if_neg (fun h => hr h.1)]
      have hn0 : ((1 : Int) != 0) = true := rfl
      simp only [e, hn0, beq_self_eq_true]
      rw [F52_eq, sameS_self]
theorem G16_eq (R : Type) {n : Nat} (hn : n ≤ 31) (x2 x3 x4 x5 : Int) (x8 x9 : Src) (k0 : Int → Int → Int → Int → Int → Src → Src → Option R) :
    ∀ (m i : Nat), i ≤ n → n - i < m → G16_13 m R (n : Int) x2 x3 x4 x5 (2 ^ i) (i : Int) x8 x9 k0 = k0 x2 x3 x4 x5 (2 ^ n) x8 x9
  | 0, i, _, h => by omega
  | m + 1, i, h1, h2 => by
    simp only [G16_13, p16_13]
    by_cases hi : i < n
    · have hd : decide ((i : Int) < (n : Int)) = true := by simpa using hi
      simp only [hd]
      have hp := pow_le_64 (n := i + 1) (by omega)
      have hq : (0 : Int) < 2 ^ i := Int.pow_pos (by decide)
      rw [Int.pow_succ] at hp
      have hp2 : (2 : Int) ^ i ≤ 2147483648 := by
        have : (2 : Nat) ^ i ≤ 2 ^ 31 := Nat.pow_le_pow_right (by omega) (by omega)
        have e : ((2 ^ i : Nat) : Int) = (2 : Int) ^ i := by simp
        omega
      rw [wrap_u64 (n := 2 * 2 ^ i) (by omega) (by omega), wrap_i64 (n := (i : Int) + 1) (by omega) (by omega), show (2 : Int) * 2 ^ i = 2 ^ (i + 1) by rw [Int.pow_succ, Int.mul_comm]]
      exact G16_eq R hn x2 x3 x4 x5 x8 x9 k0 m (i + 1) (by omega) (by omega)
    · have : i = n := by omega
      subst this
      have hd : decide ((i : Int) < (i : Int)) = false := by simp
      simp only [hd]
theorem F16_eq (R : Type) {s : Src} (hs : SFit s) {a b : Int} (ha : 0 ≤ a ∧ a ≤ 255) (hb : 0 ≤ b ∧ b ≤ 255) (k : Bool → Option R) : F16 R s a b k = k true := by
  simp only [F16, p16]
  rw [F48_eq]
  simp only [Bool.not_true]
  rw [F49_eq]
  by_cases h1 : (s.2.1.length : Int) > 500
  · simp only [decide_eq_true h1]
  simp only [decide_eq_false h1]
  have ho := hs.ok (by omega)
  obtain ⟨p, hp, hp2⟩ : ∃ q : Nat, a % 32 = q ∧ q ≤ 31 := ⟨(a % 32).toNat, by omega, by omega⟩
  obtain ⟨q, hq, hq2⟩ : ∃ q : Nat, b % 32 = q ∧ q ≤ 31 := ⟨(b % 32).toNat, by omega, by omega⟩
  rw [Int.tmod_eq_emod_of_nonneg ha.1, Int.tmod_eq_emod_of_nonneg hb.1, hp, hq, wrap_i64 (n := (p : Int)) (by omega) (by omega), wrap_i64 (n := (q : Int)) (by omega) (by omega), wrap_i64 (n := (p : Int) + q) (by omega) (by omega)]
  rw [F50_eq R ho]
  have n0 : ((0 : Int) != 0) = false := rfl
  have n1 : ((1 : Int) != 0) = true := rfl
  have n8 : ((8 : Int) != 0) = true := rfl
  by_cases hr : rightS' s = true
  · have e8 : ∀ {j : Nat}, j ≤ 64 → ¬ (j : Int) ≤ leftS s → takeR s j = (0, s, 8) := fun {j} hj hk => by
      unfold takeR
      rw [if_pos ⟨hr, by omega, by omega⟩, if_neg hk]
    by_cases hk : (p : Int) ≤ leftS s
    · rw [takeR_ok hr (by omega) hk]
      simp only []
      have hroom := right_room ho hr hk
      have h0 : 0 ≤ atS s := ho.at_.1
      have hsp : SOK (setAt s (atS s + p)) := ho.set (by unfold U64; omega)
      have hrp := right_set ho hr hk
      rw [F50_eq R hsp, F50_eq R ho]
      have eq1 : (p : Int) + q = ((p + q : Nat) : Int) := by omega
      by_cases hk2 : (q : Int) ≤ leftS s - p
      · rw [takeR_ok hrp.1 (by omega) (by rw [hrp.2]; exact hk2), eq1, takeR_ok hr (by omega) (by omega), setAt_set, atS_set]
        simp only [n0]
        have := G16_eq R hq2 (takeV s (atS s) p) (takeV (setAt s (atS s + p)) (atS s + p) q) (takeV s (atS s) (p + q)) 0 (setAt s (atS s + p + q)) (setAt s (atS s + ((p + q : Nat) : Int))) (fun x21 x22 x23 x24 x25 x26 x27 => match x24 == 0 with
          | true => (match x23 == IntKind.u64.wrap (IntKind.u64.wrap (x21 * x25) + x22) with
            | true => F52 R x26 x27 fun y32 => k y32
            | false => k false)
          | false => k false) FUEL 0 (by omega) (by rw [FUEL_eq]; omega)
        refine Eq.trans ?_ (this.trans ?_)
        · rfl
        · simp only [beq_self_eq_true]
          rw [takeV_set]
          have hv1 := takeV_range s (atS s) p
          have hv2 := takeV_range s (atS s + p) q
          have hv3 := takeV_range s (atS s) (p + q)
          have hpw := pow_le_64 (n := p + q) (by omega)
          have hadd := takeV_add s (atS s) p q
          have hm : 0 ≤ takeV s (atS s) p * 2 ^ q := Int.mul_nonneg hv1.1 (Int.le_of_lt (Int.pow_pos (by decide)))
          rw [wrap_u64 (n := takeV s (atS s) p * 2 ^ q) (by omega) (by omega), wrap_u64 (by omega) (by omega), ← hadd]
          simp only [beq_self_eq_true]
          rw [F52_eq, show atS s + ((p + q : Nat) : Int) = atS s + p + q by omega, sameS_self]
      · have e : takeR (setAt s (atS s + p)) q = (0, setAt s (atS s + p), 8) := by
          unfold takeR
          rw [if_pos ⟨hrp.1, by omega, by omega⟩, if_neg (by rw [hrp.2]; exact hk2)]
        rw [e, eq1, e8 (by omega) (by omega)]
        simp only [n0, n8]
    · rw [e8 (by omega) hk]
      simp only []
      rw [F50_eq R ho, F50_eq R ho, show (p : Int) + q = ((p + q : Nat) : Int) by omega, e8 (j := p + q) (by omega) (by omega)]
      simp only [n8]
  · have e1 : ∀ j : Int, takeR s j = (0, s, 1) := fun j => by
      unfold takeR
      rw [if_neg (fun h => hr h.1)]
    rw [e1]
    simp only []
    rw [F50_eq R ho, F50_eq R ho, e1, e1]
    simp only [n1]
end Go.PG
namespace Go.PG
/-! Numbers below a bound. -/
def blenF : Nat → Nat → Nat
  | 0, _ => 0
  | f + 1, x => if x = 0 then 0 else blenF f (x / 2) + 1
theorem blenF_spec : ∀ (f x : Nat), x < 2 ^ f → x < 2 ^ blenF f x ∧ (x ≠ 0 → 2 ^ (blenF f x - 1) ≤ x) ∧ blenF f x ≤ f
  | 0, x, h => by simp at h; subst h; simp [blenF]
  | f + 1, x, h => by
    rw [Nat.pow_succ] at h
    simp only [blenF]
    by_cases h0 : x = 0
    · subst h0; simp
    · rw [if_neg h0]
      obtain ⟨h1, h2, h3⟩ := blenF_spec f (x / 2) (by omega)
      refine ⟨?_, fun _ => ?_, by omega⟩
      · rw [Nat.pow_succ]; omega
      · rw [Nat.add_sub_cancel]
        by_cases hx : x / 2 = 0
        · have e : blenF f (x / 2) = 0 := by
            rw [hx]
            cases f with
            | zero => rfl
            | succ f => simp [blenF]
          rw [e, Nat.pow_zero]; omega
        · have := h2 hx
          have hb : blenF f (x / 2) ≠ 0 := fun e => by rw [e, Nat.pow_zero] at h1; omega
          obtain ⟨b, hb⟩ : ∃ b, blenF f (x / 2) = b + 1 := ⟨blenF f (x / 2) - 1, by omega⟩
          rw [hb, Nat.add_sub_cancel] at this
          rw [hb, Nat.pow_succ]
          omega
theorem G82_eq (R : Type) (k0 : Int → Option R) : ∀ (f m x c : Nat), x < 2 ^ f → f ≤ 64 → f < m → c + f ≤ 1000 → G82_1 m R (x : Int) (c : Int) k0 = k0 ((c + blenF f x : Nat) : Int)
  | _, 0, _, _, _, _, h, _ => by omega
  | 0, m + 1, x, c, h, _, _, _ => by
    simp at h; subst h
    simp only [G82_1, p82_1, blenF]
    rfl
  | f + 1, m + 1, x, c, h, hf, hm, hc => by
    simp only [G82_1, p82_1, blenF]
    rw [Nat.pow_succ] at h
    by_cases h0 : x = 0
    · subst h0
      simp
    · have e : ((x : Int) != 0) = true := by simp [h0]
      have e2 : ishr .u64 (x : Int) 1 = ((x / 2 : Nat) : Int) := by
        have := shr64 (x := (x : Int)) 1 (by omega)
        refine this.trans ?_
        omega
      simp only [e, if_neg h0]
      have ih := G82_eq R k0 f m (x / 2) (c + 1) (by omega) (by omega) (by omega) (by omega)
      rw [wrap_i64 (n := (c : Int) + 1) (by omega) (by omega), e2, show c + (blenF f (x / 2) + 1) = c + 1 + blenF f (x / 2) by omega]
      exact ih
theorem G83_eq (R : Type) (k0 : Int → Option R) : ∀ (f m x c : Nat), x < 2 ^ f → f ≤ 64 → f < m → c + f ≤ 1000 → G83_2 m R (x : Int) (c : Int) k0 = k0 ((c + blenF f x : Nat) : Int)
  | _, 0, _, _, _, _, h, _ => by omega
  | 0, m + 1, x, c, h, _, _, _ => by
    simp at h; subst h
    simp only [G83_2, p83_2, blenF]
    rfl
  | f + 1, m + 1, x, c, h, hf, hm, hc => by
    simp only [G83_2, p83_2, blenF]
    have hx64 : x < 2 ^ 64 := Nat.lt_of_lt_of_le h (Nat.pow_le_pow_right (by omega) hf)
    rw [Nat.pow_succ] at h
    by_cases h0 : x = 0
    · subst h0
      simp
    · have e : decide ((x : Int) > 0) = true := decide_eq_true (by omega)
      have e2 : IntKind.u64.wrap (Int.tdiv (x : Int) 2) = ((x / 2 : Nat) : Int) := by
        rw [Int.tdiv_eq_ediv_of_nonneg (by omega), wrap_u64 (by omega) (by omega)]
        omega
      simp only [e, if_neg h0, e2]
      have ih := G83_eq R k0 f m (x / 2) (c + 1) (by omega) (by omega) (by omega) (by omega)
      rw [wrap_i64 (n := (c : Int) + 1) (by omega) (by omega), show c + (blenF f (x / 2) + 1) = c + 1 + blenF f (x / 2) by omega]
      exact ih
def needS (n : Int) : Nat := blenF 64 (n - 1).toNat
theorem need_spec {n : Int} (hn : U64 n) : needS n ≤ 64 ∧ n ≤ 2 ^ needS n ∧ (2 ≤ n → 1 ≤ needS n ∧ (2 : Int) ^ (needS n - 1) < n) := by
  unfold U64 at hn
  obtain ⟨h1, h2, h3⟩ := blenF_spec 64 (n - 1).toNat (by omega)
  unfold needS
  generalize blenF 64 (n - 1).toNat = b at *
  have e : ∀ j : Nat, ((2 ^ j : Nat) : Int) = (2 : Int) ^ j := fun j => by simp
  refine ⟨h3, ?_, fun h => ⟨?_, ?_⟩⟩
  · rw [← e]; omega
  · cases b with
    | zero => rw [Nat.pow_zero] at h1; omega
    | succ b => omega
  · have := h2 (by omega)
    rw [← e]; omega
theorem F64_eq (R : Type) {n : Int} (hn : U64 n) (k : Int → Option R) : F64 R n k = k (needS n : Int) := by
  have hn' := hn
  unfold U64 at hn
  simp only [F64, p64, F82, p82]
  have e : IntKind.u64.wrap ((if (1 : Int) > n then (1 : Int) else n) - 1) = ((n - 1).toNat : Int) := by
    split
    · rw [wrap_u64 (by omega) (by omega)]; omega
    · rw [wrap_u64 (by omega) (by omega)]; omega
  rw [e]
  have := G82_eq R (fun x1 => k x1) 64 FUEL (n - 1).toNat 0 (by omega) (by omega) (by rw [FUEL_eq]; omega) (by omega)
  rw [Nat.zero_add] at this
  exact this
theorem F65_eq (R : Type) {n : Int} (hn : U64 n) (k : Int → Option R) : F65 R n k = k (needS n : Int) := by
  have hn' := hn
  unfold U64 at hn
  simp only [F65, p65, F83, p83]
  by_cases h0 : n = 0
  · subst h0; rfl
  · have e0 : (n == 0) = false := by simp [h0]
    simp only [e0]
    have e : IntKind.u64.wrap (n - 1) = ((n - 1).toNat : Int) := by
      rw [wrap_u64 (by omega) (by omega)]; omega
    rw [e]
    have := G83_eq R (fun x1 => k x1) 64 FUEL (n - 1).toNat 0 (by omega) (by omega) (by rw [FUEL_eq]; omega) (by omega)
    rw [Nat.zero_add] at this
    exact this
/-! Draws. -/
def drawF (n : Int) : Nat → Src → Int × Src × Int
  | 0, s => (0, s, 9)
  | m + 1, s => if (takeR s (needS n)).2.2 = 0 then (if (takeR s (needS n)).1 < n then ((takeR s (needS n)).1, (takeR s (needS n)).2.1, 0) else drawF n m (takeR s (needS n)).2.1) else (0, s, (takeR s (needS n)).2.2)
theorem takeR_ok1 {s : Src} (hs : SOK s) (k : Int) : SOK (takeR s k).2.1 := by
  unfold takeR
  split
  · rename_i h
    split
    · rename_i h2
      have hl := left_ok hs
      have h0 : 0 ≤ atS s := hs.at_.1
      have := right_room hs h.1 (k := k.toNat) (by omega)
      refine hs.set ?_
      unfold U64
      omega
    · exact hs
  · exact hs
theorem takeR_zero {s : Src} {k : Nat} (h : (takeR s k).2.2 = 0) : rightS' s = true ∧ k ≤ 64 ∧ (k : Int) ≤ leftS s ∧ takeR s k = (takeV s (atS s) k, setAt s (atS s + k), 0) := by
  unfold takeR at h
  split at h
  · rename_i h1
    split at h
    · rename_i h2
      exact ⟨h1.1, by omega, h2, takeR_ok h1.1 (by omega) h2⟩
    · simp at h
  · simp at h
theorem G62_eq (R : Type) {n : Int} (hn : U64 n) (a : Nat) (ha : a ≤ 64) (x5 : Src) (k0 : Int → Int → Src → Option R) (k1 : Src → Src → Option R) :
    ∀ (m i : Nat) (s : Src), i ≤ a → a - i < m → SOK s → (∀ y : Src, k1 y x5 = k0 0 9 y) → G62_4 m R n (a : Int) (i : Int) s x5 k0 k1 = k0 (drawF n (a - i) s).1 (drawF n (a - i) s).2.2 (drawF n (a - i) s).2.1
  | 0, i, _, _, h, _, _ => by omega
  | m + 1, i, s, h1, h2, hs, hk => by
    simp only [G62_4, p62_4]
    by_cases hi : i < a
    · have hd : decide ((i : Int) < (a : Int)) = true := by simpa using hi
      simp only [hd]
      rw [F64_eq R hn, F50_eq R hs, show a - i = (a - (i + 1)) + 1 by omega]
      simp only [drawF]
      have ih := G62_eq R hn a ha x5 k0 k1 m (i + 1) (takeR s (needS n)).2.1 (by omega) (by omega) (takeR_ok1 hs _) hk
      generalize takeR s (needS n) = t at *
      by_cases he : t.2.2 = 0
      · have e1 : (t.2.2 != 0) = false := by simp [he]
        simp only [e1, if_pos he]
        by_cases hx : t.1 < n
        · simp only [decide_eq_true hx, if_pos hx]
        · simp only [decide_eq_false hx, if_neg hx]
          rw [wrap_i64 (n := (i : Int) + 1) (by omega) (by omega)]
          exact ih
      · have e1 : (t.2.2 != 0) = true := by simp [he]
        simp only [e1, if_neg he]
    · have : i = a := by omega
      subst this
      have hd : decide ((i : Int) < (i : Int)) = false := by simp
      simp only [hd, Nat.sub_self, drawF]
      exact hk s
theorem G63_eq (R : Type) {n : Int} (hn : U64 n) (a : Nat) (ha : a ≤ 64) (x5 : Src) (k0 : Int → Int → Src → Option R) (k1 : Src → Src → Option R) :
    ∀ (m i : Nat) (s : Src), i ≤ a → a - i < m → SOK s → (∀ y : Src, k1 y x5 = k0 0 9 y) → G63_4 m R n (a : Int) (i : Int) s x5 k0 k1 = k0 (drawF n (a - i) s).1 (drawF n (a - i) s).2.2 (drawF n (a - i) s).2.1
  | 0, i, _, _, h, _, _ => by omega
  | m + 1, i, s, h1, h2, hs, hk => by
    simp only [G63_4, p63_4]
    by_cases hi : i < a
    · have hd : decide ((i : Int) < (a : Int)) = true := by simpa using hi
      simp only [hd]
      rw [F65_eq R hn, F51_eq R hs, show a - i = (a - (i + 1)) + 1 by omega]
      simp only [drawF]
      have ih := G63_eq R hn a ha x5 k0 k1 m (i + 1) (takeR s (needS n)).2.1 (by omega) (by omega) (takeR_ok1 hs _) hk
      generalize takeR s (needS n) = t at *
      by_cases he : t.2.2 = 0
      · have e1 : (t.2.2 != 0) = false := by simp [he]
        simp only [e1, if_pos he]
        by_cases hx : t.1 < n
        · simp only [decide_eq_true hx, if_pos hx]
        · simp only [decide_eq_false hx, if_neg hx]
          rw [wrap_i64 (n := (i : Int) + 1) (by omega) (by omega)]
          exact ih
      · have e1 : (t.2.2 != 0) = true := by simp [he]
        simp only [e1, if_neg he]
    · have : i = a := by omega
      subst this
      have hd : decide ((i : Int) < (i : Int)) = false := by simp
      simp only [hd, Nat.sub_self, drawF]
      exact hk s
def drawR (s : Src) (n m : Int) : Int × Src × Int := if rightS' s = true ∧ 0 < n ∧ n < 9223372036854775808 ∧ 0 < m ∧ m ≤ 64 then drawF n m.toNat s else (0, s, 1)
theorem F62_eq (R : Type) {s : Src} (hs : SOK s) {n : Int} (hn : U64 n) (m : Int) (k : Int → Src → Int → Option R) : F62 R s n m k = k (drawR s n m).1 (drawR s n m).2.1 (drawR s n m).2.2 := by
  simp only [F62, p62, F81, p81]
  rw [F53_eq R hs]
  unfold drawR
  by_cases hr : rightS' s = true
  · simp only [hr, true_and]
    by_cases h1 : n > 0
    · simp only [decide_eq_true h1]
      by_cases h2 : n < 9223372036854775808
      · simp only [decide_eq_true h2]
        by_cases h3 : m > 0
        · simp only [decide_eq_true h3]
          by_cases h4 : m ≤ 64
          · simp only [decide_eq_true h4, Bool.not_true]
            rw [if_pos ⟨h1, h2, h3, h4⟩]
            obtain ⟨a, rfl⟩ : ∃ a : Nat, m = a := ⟨m.toNat, by omega⟩
            rw [Int.toNat_natCast]
            exact G62_eq R hn a (by omega) (0, [], 0, List.replicate 32 0, 0, 0, ()) (fun x2 x3 x4 => k x2 x4 x3) (fun x5 x6 => k 0 x5 9) FUEL 0 s (by omega) (by rw [FUEL_eq]; omega) hs (fun y => rfl)
          · rw [if_neg (fun h => h4 h.2.2.2)]
            simp only [decide_eq_false h4, Bool.not_false]
        · rw [if_neg (fun h => h3 h.2.2.1)]
          simp only [decide_eq_false h3, Bool.not_false]
      · rw [if_neg (fun h => h2 h.2.1)]
        simp only [decide_eq_false h2, Bool.not_false]
    · rw [if_neg (fun h => h1 h.1)]
      simp only [decide_eq_false h1, Bool.not_false]
  · simp only [Bool.not_eq_true] at hr
    simp [hr]
theorem F63_eq (R : Type) {s : Src} (hs : SOK s) {n : Int} (hn : U64 n) (m : Int) (k : Int → Src → Int → Option R) : F63 R s n m k = k (drawR s n m).1 (drawR s n m).2.1 (drawR s n m).2.2 := by
  simp only [F63, p63]
  rw [F54_eq R hs]
  unfold drawR
  by_cases hr : rightS' s = true
  · simp only [hr, true_and, Bool.not_true]
    by_cases h1 : n < 1
    · rw [if_neg (by omega)]
      simp only [decide_eq_true h1]
    · simp only [decide_eq_false h1]
      by_cases h2 : n ≥ 9223372036854775808
      · rw [if_neg (by omega)]
        simp only [decide_eq_true h2]
      · simp only [decide_eq_false h2]
        by_cases h3 : m < 1
        · rw [if_neg (by omega)]
          simp only [decide_eq_true h3]
        · simp only [decide_eq_false h3]
          by_cases h4 : m > 64
          · rw [if_neg (by omega)]
            simp only [decide_eq_true h4]
          · rw [if_pos (by omega)]
            simp only [decide_eq_false h4]
            obtain ⟨a, rfl⟩ : ∃ a : Nat, m = a := ⟨m.toNat, by omega⟩
            rw [Int.toNat_natCast]
            exact G63_eq R hn a (by omega) (0, [], 0, List.replicate 32 0, 0, 0, ()) (fun x2 x3 x4 => k x2 x4 x3) (fun x5 x6 => k 0 x5 9) FUEL 0 s (by omega) (by rw [FUEL_eq]; omega) hs (fun y => rfl)
  · simp only [Bool.not_eq_true] at hr
    simp [hr]
end Go.PG
namespace Go.PG
/-! The laws of uniform numbers. -/
theorem F61_eq (R : Type) (k : Bool → Option R) : F61 R k = k true := by
  have l1 : ([255, 255] : List Int).length ≤ 1000000 := by simp
  have l2 : ([252, 0] : List Int).length ≤ 1000000 := by simp
  have a1 : AllU8 [255, 255] := by unfold AllU8 U8; decide
  have a2 : AllU8 [252, 0] := by unfold AllU8 U8; decide
  have n9 : U64 9 := by unfold U64; decide
  have n5 : U64 5 := by unfold U64; decide
  have n1 : U64 1 := by unfold U64; decide
  have n0 : U64 0 := by unfold U64; decide
  have n8 : U64 8 := by unfold U64; decide
  have s1 := tapeSrc_ok a1 l1 n9
  have s2 := tapeSrc_ok a2 l2 n9
  have s3 := s2.set (n := 9) n9
  simp only [F61, p61]
  rw [F59_eq R l1]
  have t1 : tapeR [255, 255] 9 = (tapeSrc [255, 255] 9, 0) := by kernel_rfl
  have t2 : tapeR [252, 0] 9 = (tapeSrc [252, 0] 9, 0) := by kernel_rfl
  have d1 : drawR (tapeSrc [255, 255] 9) 5 3 = (0, setAt (tapeSrc [255, 255] 9) 9, 9) := by kernel_rfl
  have d2 : drawR (tapeSrc [252, 0] 9) 5 3 = (0, setAt (tapeSrc [252, 0] 9) 9, 0) := by kernel_rfl
  have d3 : drawR (tapeSrc [252, 0] 9) 5 2 = (0, setAt (tapeSrc [252, 0] 9) 6, 9) := by kernel_rfl
  have d4 : drawR (setAt (tapeSrc [252, 0] 9) 9) 5 1 = (0, setAt (tapeSrc [252, 0] 9) 9, 8) := by kernel_rfl
  have d5 : drawR (tapeSrc [255, 255] 9) 1 1 = (0, setAt (tapeSrc [255, 255] 9) 0, 0) := by kernel_rfl
  have d6 : drawR (tapeSrc [255, 255] 9) 0 1 = (0, tapeSrc [255, 255] 9, 1) := by kernel_rfl
  simp only [t1]
  rw [F62_eq R s1 n5]
  simp only [d1]
  rw [F59_eq R l2]
  simp only [t2]
  rw [F62_eq R s2 n5]
  simp only [d2]
  rw [F62_eq R s2 n5]
  simp only [d3]
  rw [F62_eq R s3 n5]
  simp only [d4]
  rw [F62_eq R s1 n1]
  simp only [d5]
  rw [F62_eq R s1 n0]
  simp only [d6]
  have m5 : needS 5 = 3 := by kernel_rfl
  have m1 : needS 1 = 0 := by kernel_rfl
  have m0 : needS 0 = 0 := by kernel_rfl
  have m8 : needS 8 = 3 := by kernel_rfl
  rw [F64_eq R n5, m5, F64_eq R n1, m1, F64_eq R n0, m0, F64_eq R n8, m8]
  rfl
theorem F17_eq (R : Type) {s : Src} (hs : SFit s) {n : Int} (hn : U64 n) (m : Int) (k : Bool → Option R) : F17 R s n m k = k true := by
  simp only [F17, p17]
  rw [F61_eq]
  simp only [Bool.not_true]
  by_cases h1 : (s.2.1.length : Int) > 500
  · simp only [decide_eq_true h1]
  · simp only [decide_eq_false h1]
    have ho := hs.ok (by omega)
    have hc : decide (List.length ([] : List Int) + s.2.1.length ≤ 140737488355328) = true := by simp; omega
    simp only [hc, List.nil_append]
    rw [F62_eq R ho hn, F63_eq R ho hn]
    simp only [beq_self_eq_true]
    rw [F52_eq, sameS_self]
    simp only []
    rw [F64_eq R hn, F65_eq R hn]
    simp only [beq_self_eq_true]
theorem G66_eq (R : Type) {x : Int} {n : Nat} (hn : n ≤ 1000) (hx : ∀ i ≤ n, 0 ≤ x ^ i ∧ x ^ i < 18446744073709551616) (k0 : Int → Option R) : ∀ (m i : Nat), i ≤ n → n - i < m → G66_3 m R x (n : Int) (x ^ i) (i : Int) k0 = k0 (x ^ n)
  | 0, i, _, h => by omega
  | m + 1, i, h1, h2 => by
    simp only [G66_3, p66_3]
    by_cases hi : i < n
    · have hd : decide ((i : Int) < (n : Int)) = true := by simpa using hi
      simp only [hd]
      have h3 := hx (i + 1) (by omega)
      have e : x ^ i * x = x ^ (i + 1) := (Int.pow_succ _ _).symm
      rw [e, wrap_u64 (n := x ^ (i + 1)) (by omega) (by omega), wrap_i64 (n := (i : Int) + 1) (by omega) (by omega)]
      exact G66_eq R hn hx k0 m (i + 1) (by omega) (by omega)
    · have : i = n := by omega
      subst this
      have hd : decide ((i : Int) < (i : Int)) = false := by simp
      simp only [hd]
theorem F66_eq (R : Type) {x : Int} {n : Nat} (hn : n ≤ 1000) (hx : ∀ i ≤ n, 0 ≤ x ^ i ∧ x ^ i < 18446744073709551616) (k : Int → Option R) : F66 R x (n : Int) k = k (x ^ n) := by
  simp only [F66, p66]
  have := G66_eq R hn hx (fun x1 => k x1) FUEL 0 (by omega) (by rw [FUEL_eq]; omega)
  rw [Int.pow_zero] at this
  exact this
theorem two_pow_ok {n : Nat} (hn : n ≤ 63) : ∀ i ≤ n, 0 ≤ (2 : Int) ^ i ∧ (2 : Int) ^ i < 18446744073709551616 := fun i hi => by
  have : (2 : Nat) ^ i ≤ 2 ^ 63 := Nat.pow_le_pow_right (by omega) (by omega)
  have e : ((2 ^ i : Nat) : Int) = (2 : Int) ^ i := by simp
  exact ⟨Int.le_of_lt (Int.pow_pos (by decide)), by omega⟩
theorem F20_eq (R : Type) {n : Int} (hn : U64 n) (k : Bool → Option R) : F20 R n k = k true := by
  simp only [F20, p20]
  rw [F61_eq]
  simp only [Bool.not_true]
  rw [F64_eq R hn]
  obtain ⟨h1, h2, h3⟩ := need_spec hn
  by_cases h : n < 2
  · simp only [decide_eq_true h]
    have : needS n = 0 := by
      unfold needS
      rw [show (n - 1).toNat = 0 by omega]
      rfl
    rw [this]
    rfl
  · simp only [decide_eq_false h]
    obtain ⟨h4, h5⟩ := h3 (by omega)
    generalize needS n = b at *
    have d1 : decide ((b : Int) < 1) = false := decide_eq_false (by omega)
    have d2 : decide ((b : Int) > 64) = false := decide_eq_false (by omega)
    simp only [d1, d2]
    rw [wrap_i64 (n := (b : Int) - 1) (by omega) (by omega), show (b : Int) - 1 = ((b - 1 : Nat) : Int) by omega, F66_eq R (by omega) (two_pow_ok (by omega))]
    simp only [decide_eq_true h5]
    by_cases hb : b = 64
    · subst hb; rfl
    · have e : ((b : Int) == 64) = false := by simp; omega
      simp only [e]
      rw [F66_eq R (by omega) (two_pow_ok (by omega))]
      simp only [decide_eq_true h2]
theorem drawF_err {n : Int} : ∀ (m : Nat) (s : Src), (drawF n m s).2.2 ≠ 0 → (drawF n m s).1 = 0
  | 0, s, _ => rfl
  | m + 1, s, h => by
    simp only [drawF] at h ⊢
    split at h
    · rename_i h1
      rw [if_pos h1]
      split at h
      · exact absurd rfl h
      · rename_i h2
        rw [if_neg h2]
        exact drawF_err m _ h
    · rename_i h1
      rw [if_neg h1]
theorem drawF_ok {n : Int} : ∀ (m : Nat) (s : Src), (drawF n m s).2.2 = 0 → ∃ j, 1 ≤ j ∧ j ≤ m ∧ (drawF n m s).1 < n ∧ (drawF n m s).2.1 = setAt s (atS s + needS n * j) ∧ (needS n * j : Int) ≤ leftS s ∧ ∀ i < j, drawF n i s = (0, setAt s (atS s + needS n * i), 9)
  | 0, s, h => by simp [drawF] at h
  | m + 1, s, h => by
    simp only [drawF] at h ⊢
    split at h
    · rename_i h1
      obtain ⟨g1, g2, g3, g4⟩ := takeR_zero h1
      rw [if_pos h1]
      split at h
      · rename_i h2
        rw [if_pos h2]
        refine ⟨1, by omega, by omega, h2, ?_, by omega, fun i hi => ?_⟩
        · rw [g4]
          show setAt s (atS s + needS n) = setAt s (atS s + needS n * ((1 : Nat) : Int))
          rw [Int.natCast_one, Int.mul_one]
        · have : i = 0 := by omega
          subst this
          simp only [drawF, Int.natCast_zero, Int.mul_zero, Int.add_zero]
          rfl
      · rename_i h2
        rw [if_neg h2]
        have hmul : ∀ i : Nat, ((needS n : Nat) : Int) * ((i + 1 : Nat) : Int) = needS n + needS n * i := fun i => by
          rw [show ((i + 1 : Nat) : Int) = (i : Int) + 1 by omega, Int.mul_add, Int.mul_one, Int.add_comm]
        obtain ⟨j, j1, j2, j3, j4, j5, j6⟩ := drawF_ok m _ h
        refine ⟨j + 1, by omega, by omega, j3, ?_, ?_, fun i hi => ?_⟩
        · rw [j4, g4]
          show setAt (setAt s (atS s + needS n)) (atS s + needS n + needS n * j) = _
          rw [setAt_set, hmul, Int.add_assoc]
        · rw [g4] at j5
          have hle : leftS (setAt s (atS s + needS n)) ≤ leftS s - needS n := by
            unfold leftS at g3 ⊢
            rw [if_pos g1] at g3 ⊢
            split
            · show endS s - (atS s + needS n) ≤ endS s - atS s - needS n
              omega
            · show 0 ≤ endS s - atS s - needS n
              have : endS s - s.2.2.2.2.2.1 = endS s - atS s := rfl
              omega
          rw [hmul]
          have j5' : (needS n : Int) * j ≤ leftS (setAt s (atS s + needS n)) := j5
          omega
        · cases i with
          | zero =>
            simp only [drawF, Int.natCast_zero, Int.mul_zero, Int.add_zero]
            rfl
          | succ i =>
            have := j6 i (by omega)
            simp only [drawF]
            rw [if_pos h1, if_neg h2, this, g4]
            show (0, setAt (setAt s (atS s + needS n)) (atS s + needS n + needS n * i), 9) = _
            rw [setAt_set, hmul, Int.add_assoc]
    · rename_i h1
      exact absurd h h1
theorem F19_eq (R : Type) {s : Src} (hs : SFit s) {n : Int} (hn : U64 n) {a : Int} (ha : 0 ≤ a ∧ a ≤ 255) (k : Bool → Option R) : F19 R s n a k = k true := by
  simp only [F19, p19]
  rw [F61_eq]
  simp only [Bool.not_true]
  by_cases h1 : (s.2.1.length : Int) > 500
  · simp only [decide_eq_true h1]
  simp only [decide_eq_false h1]
  have ho := hs.ok (by omega)
  obtain ⟨m, hm, hm2⟩ : ∃ q : Nat, 1 + a % 64 = q ∧ q ≤ 64 := ⟨(1 + a % 64).toNat, by omega, by omega⟩
  rw [Int.tmod_eq_emod_of_nonneg ha.1, wrap_i64 (n := a % 64) (by omega) (by omega), hm, wrap_i64 (n := (m : Int)) (by omega) (by omega)]
  rw [F62_eq R ho hn]
  by_cases hc : rightS' s = true ∧ 0 < n ∧ n < 9223372036854775808 ∧ 0 < (m : Int) ∧ (m : Int) ≤ 64
  · have e0 : drawR s n m = drawF n m s := by unfold drawR; rw [if_pos hc, Int.toNat_natCast]
    rw [e0]
    by_cases he : (drawF n m s).2.2 = 0
    · obtain ⟨j, j1, j2, j3, j4, j5, j6⟩ := drawF_ok m s he
      have e1 : ((drawF n m s).2.2 != 0) = false := by simp [he]
      simp only [e1, j4]
      rw [F64_eq R hn]
      have hneed := need_spec hn
      have hl := left_ok ho
      have h0 : 0 ≤ atS s := ho.at_.1
      have heq := hl.2.2 hc.1
      have hjn : j ≤ 64 := by omega
      have hroom := (right_room ho hc.1 (k := 0) (by omega)).2
      show (match decide ((drawF n m s).1 ≥ n) with | true => k false | false => match decide (atS s + (needS n : Int) * j < atS s) with | true => k false | false => _) = k true
      have e2 : decide ((drawF n m s).1 ≥ n) = false := decide_eq_false (by omega)
      generalize hb : needS n = b at *
      have hmul0 : 0 ≤ (b : Int) * j := Int.mul_nonneg (by omega) (by omega)
      have e3 : decide (atS s + (b : Int) * j < atS s) = false := decide_eq_false (by omega)
      rw [wrap_u64 (n := (b : Int)) (by omega) (by omega)]
      simp only [e2, e3]
      have es : atS s + (b : Int) * j - atS s = (b : Int) * j := by omega
      have hw : IntKind.u64.wrap (atS s + (b : Int) * j - atS s) = (b : Int) * j := by
        rw [es, wrap_u64 (by omega) (by omega)]
      have hmm : (b : Int) * j ≤ (b : Int) * m := Int.mul_le_mul_of_nonneg_left (by omega) (by omega)
      have hbm : (b : Int) * m ≤ 64 * 64 := Int.mul_le_mul (by omega) (by omega) (by omega) (by omega)
      show (match decide ((b : Int) > 0) with
        | true => match (!((b : Int) == 0)) with
          | true => match (Int.tmod (IntKind.u64.wrap (atS s + (b : Int) * j - atS s)) b != 0) with
            | true => k false
            | false => match decide (IntKind.u64.wrap (atS s + (b : Int) * j - atS s) > IntKind.u64.wrap ((b : Int) * IntKind.u64.wrap (m : Int))) with
              | true => k false
              | false => match ((b : Int) == 0) with
                | true => match decide ((b : Int) > 0) with | true => k true | false => k (atS s + (b : Int) * j == atS s)
                | false => match (IntKind.u64.wrap (atS s + (b : Int) * j - atS s) == (b : Int)) with
                  | true => match decide ((b : Int) > 0) with | true => k true | false => k (atS s + (b : Int) * j == atS s)
                  | false => match (!((b : Int) == 0)) with
                    | true => F62 R s n (IntKind.i64.wrap (IntKind.i64.wrap (IntKind.u64.wrap (Int.tdiv (IntKind.u64.wrap (atS s + (b : Int) * j - atS s)) b)) - 1)) fun y35 y36 y37 => match (y37 == 9) with
                      | true => match (y35 == 0) with | true => k (atS y36 == IntKind.u64.wrap (atS s + (b : Int) * j - b)) | false => k false
                      | false => k false
                    | false => none
          | false => none
        | false => match decide (IntKind.u64.wrap (atS s + (b : Int) * j - atS s) > IntKind.u64.wrap ((b : Int) * IntKind.u64.wrap (m : Int))) with
          | true => k false
          | false => match ((b : Int) == 0) with
            | true => match decide ((b : Int) > 0) with | true => k true | false => k (atS s + (b : Int) * j == atS s)
            | false => _) = k true
      rw [wrap_u64 (n := (m : Int)) (by omega) (by omega), wrap_u64 (n := (b : Int) * m) (by omega) (by omega), hw]
      have e4 : decide ((b : Int) * j > (b : Int) * m) = false := decide_eq_false (by omega)
      simp only [e4]
      by_cases hb0 : b = 0
      · subst hb0
        simp
      · have e5 : decide ((b : Int) > 0) = true := decide_eq_true (by omega)
        have e6 : ((b : Int) == 0) = false := by simp [hb0]
        have e7 : (Int.tmod ((b : Int) * j) b != 0) = false := by
          rw [Int.mul_tmod_right]; rfl
        simp only [e5, e6, e7, Bool.not_false]
        by_cases hj : j = 1
        · subst hj
          have e8 : ((b : Int) * ((1 : Nat) : Int) == (b : Int)) = true := by simp
          simp only [e8]
        · have e8 : ((b : Int) * (j : Int) == (b : Int)) = false := by
            have : (b : Int) * 2 ≤ (b : Int) * j := Int.mul_le_mul_of_nonneg_left (by omega) (by omega)
            exact beq_eq_false_iff_ne.2 (by omega)
          simp only [e8]
          have e9 : Int.tdiv ((b : Int) * j) b = j := Int.mul_tdiv_cancel_left _ (by omega)
          rw [e9, wrap_u64 (n := (j : Int)) (by omega) (by omega), wrap_i64 (n := (j : Int)) (by omega) (by omega), wrap_i64 (n := (j : Int) - 1) (by omega) (by omega), F62_eq R ho hn]
          have e10 : drawR s n ((j : Int) - 1) = (0, setAt s (atS s + (b : Int) * ((j - 1 : Nat) : Int)), 9) := by
            unfold drawR
            rw [if_pos ⟨hc.1, hc.2.1, hc.2.2.1, by omega, by omega⟩, show ((j : Int) - 1).toNat = j - 1 by omega, j6 (j - 1) (by omega)]
          have e11 : (b : Int) * ((j - 1 : Nat) : Int) = (b : Int) * j - b := by
            rw [show ((j - 1 : Nat) : Int) = (j : Int) - 1 by omega, Int.mul_sub, Int.mul_one]
          have hbj : (b : Int) * 1 ≤ (b : Int) * j := Int.mul_le_mul_of_nonneg_left (by omega) (by omega)
          simp only [e10, beq_self_eq_true]
          rw [atS_set, e11, wrap_u64 (n := atS s + (b : Int) * j - b) (by omega) (by omega)]
          have : (atS s + ((b : Int) * j - b) == atS s + (b : Int) * j - b) = true := by
            rw [show atS s + ((b : Int) * j - b) = atS s + (b : Int) * j - b by omega]; simp
          rw [this]
    · have e1 : ((drawF n m s).2.2 != 0) = true := by simp [he]
      simp only [e1, drawF_err m s he]
      rfl
  · have e0 : drawR s n m = (0, s, 1) := by unfold drawR; rw [if_neg hc]
    rw [e0]
    rfl
end Go.PG
namespace Go.PG
/-! All tapes: how many draw what. -/
def outO (b B : Nat) : Nat → Nat → Option Nat
  | 0, _ => none
  | t + 1, y => if y / B ^ t < b then some (y / B ^ t) else outO b B t (y % B ^ t)
def cnt (p : Nat → Bool) (n : Nat) : Nat := (List.range n).countP p
theorem cnt_add (p : Nat → Bool) (a m : Nat) : cnt p (a + m) = cnt p a + cnt (fun r => p (a + r)) m := by
  unfold cnt
  rw [List.range_add, List.countP_append, List.countP_map]
  rfl
theorem cnt_congr {p q : Nat → Bool} {n : Nat} (h : ∀ r, r < n → p r = q r) : cnt p n = cnt q n := by
  unfold cnt
  refine List.countP_congr (fun x hx => ?_)
  rw [h x (by simpa using hx)]
theorem cnt_const (c : Bool) (n : Nat) : cnt (fun _ => c) n = if c then n else 0 := by
  unfold cnt
  cases c
  · simp
  · simp
theorem cnt_succ (p : Nat → Bool) (n : Nat) : cnt p (n + 1) = cnt p n + (if p n then 1 else 0) := by
  unfold cnt
  rw [List.range_succ, List.countP_append]
  simp [List.countP_cons]
theorem out_block {b B t A r : Nat} (hB : 0 < B) (hr : r < B ^ t) : outO b B (t + 1) (A * B ^ t + r) = if A < b then some A else outO b B t r := by
  simp only [outO]
  have hp : 0 < B ^ t := Nat.pow_pos hB
  have e1 : (A * B ^ t + r) / B ^ t = A := by
    rw [Nat.mul_comm, Nat.mul_add_div hp, Nat.div_eq_of_lt hr, Nat.add_zero]
  have e2 : (A * B ^ t + r) % B ^ t = r := by
    rw [Nat.mul_comm, Nat.mul_add_mod, Nat.mod_eq_of_lt hr]
  rw [e1, e2]
theorem cnt_some {b B t v : Nat} (hB : 0 < B) (hv : v < b) : ∀ A : Nat, cnt (fun y => outO b B (t + 1) y == some v) (A * B ^ t) = (if v < A then B ^ t else 0) + (A - b) * cnt (fun y => outO b B t y == some v) (B ^ t)
  | 0 => by simp [cnt]
  | A + 1 => by
    rw [Nat.add_mul, Nat.one_mul, cnt_add, cnt_some hB hv A]
    by_cases hA : A < b
    · have e : cnt (fun r => outO b B (t + 1) (A * B ^ t + r) == some v) (B ^ t) = if A = v then B ^ t else 0 := by
        rw [cnt_congr (q := fun _ => decide (A = v)) (fun r hr => by rw [out_block hB hr, if_pos hA]; by_cases h : A = v <;> simp [h])]
        rw [cnt_const]
        simp
      rw [e, show A - b = 0 by omega, show A + 1 - b = 0 by omega, Nat.zero_mul, Nat.add_zero, Nat.add_zero]
      by_cases h : v < A
      · rw [if_pos h, if_neg (by omega), if_pos (by omega), Nat.add_zero]
      · rw [if_neg h, Nat.zero_add]
        by_cases h2 : A = v
        · rw [if_pos h2, if_pos (by omega)]
        · rw [if_neg h2, if_neg (by omega)]
    · have e : cnt (fun r => outO b B (t + 1) (A * B ^ t + r) == some v) (B ^ t) = cnt (fun y => outO b B t y == some v) (B ^ t) :=
        cnt_congr (fun r hr => by rw [out_block hB hr, if_neg hA])
      rw [e, if_pos (show v < A by omega), if_pos (show v < A + 1 by omega), show A + 1 - b = (A - b) + 1 by omega, Nat.add_mul, Nat.one_mul, Nat.add_assoc]
theorem cnt_none {b B t : Nat} (hB : 0 < B) : ∀ A : Nat, cnt (fun y => outO b B (t + 1) y == none) (A * B ^ t) = (A - b) * cnt (fun y => outO b B t y == none) (B ^ t)
  | 0 => by simp [cnt]
  | A + 1 => by
    rw [Nat.add_mul, Nat.one_mul, cnt_add, cnt_none hB A]
    by_cases hA : A < b
    · have e : cnt (fun r => outO b B (t + 1) (A * B ^ t + r) == none) (B ^ t) = 0 := by
        rw [cnt_congr (q := fun _ => false) (fun r hr => by rw [out_block hB hr, if_pos hA]; rfl)]
        rw [cnt_const]
        simp
      rw [e, show A - b = 0 by omega, show A + 1 - b = 0 by omega]
      simp
    · have e : cnt (fun r => outO b B (t + 1) (A * B ^ t + r) == none) (B ^ t) = cnt (fun y => outO b B t y == none) (B ^ t) :=
        cnt_congr (fun r hr => by rw [out_block hB hr, if_neg hA])
      rw [e, show A + 1 - b = (A - b) + 1 by omega, Nat.add_mul, Nat.one_mul]
theorem count_none {b B : Nat} (hB : 0 < B) : ∀ t : Nat, cnt (fun y => outO b B t y == none) (B ^ t) = (B - b) ^ t
  | 0 => by simp [cnt, outO]
  | t + 1 => by
    rw [Nat.pow_succ, Nat.mul_comm, cnt_none hB B, count_none hB t, Nat.pow_succ, Nat.mul_comm]
theorem count_some {b B v : Nat} (hB : 0 < B) (hb : b ≤ B) (hv : v < b) : ∀ t : Nat, cnt (fun y => outO b B t y == some v) (B ^ t) * b + (B - b) ^ t = B ^ t
  | 0 => by simp [cnt, outO]
  | t + 1 => by
    have ih := count_some hB hb hv t
    have e := cnt_some (t := t) hB hv B
    rw [if_pos (by omega)] at e
    have e2 : cnt (fun y => outO b B (t + 1) y == some v) (B ^ (t + 1)) = B ^ t + (B - b) * cnt (fun y => outO b B t y == some v) (B ^ t) := by
      rw [Nat.pow_succ, Nat.mul_comm (B ^ t) B]; exact e
    rw [e2]
    have h1 : (B - b) * (cnt (fun y => outO b B t y == some v) (B ^ t) * b + (B - b) ^ t) = (B - b) * B ^ t := by rw [ih]
    generalize cnt (fun y => outO b B t y == some v) (B ^ t) = c at *
    rw [Nat.mul_add, ← Nat.mul_assoc] at h1
    rw [Nat.add_mul, Nat.pow_succ (n := B - b), Nat.mul_comm ((B - b) ^ t) (B - b), Nat.add_assoc, h1, Nat.pow_succ, Nat.mul_comm (B ^ t) b, ← Nat.add_mul, Nat.mul_comm (B ^ t) B]
    congr 1
    omega

/-! The bytes of a number, as a tape. -/
def byteX (x T i q : Nat) : Nat := x / 2 ^ (T - 8 * q - min 8 (i - 8 * q)) % 2 ^ (min 8 (i - 8 * q)) * 2 ^ (8 - min 8 (i - 8 * q))
def bytesX (x T i : Nat) : List Int := (List.range ((i + 7) / 8)).map fun q => (byteX x T i q : Int)
theorem byteX_full {x T i q : Nat} (h : 8 * q + 8 ≤ i) : byteX x T (i + 1) q = byteX x T i q := by
  unfold byteX
  rw [show min 8 (i + 1 - 8 * q) = 8 by omega, show min 8 (i - 8 * q) = 8 by omega]
theorem byteX_step {x T i : Nat} (h : i < T) : byteX x T (i + 1) (i / 8) = byteX x T i (i / 8) + (x / 2 ^ (T - 1 - i) % 2) * 2 ^ (7 - i % 8) := by
  unfold byteX
  rw [show min 8 (i + 1 - 8 * (i / 8)) = i % 8 + 1 by omega, show min 8 (i - 8 * (i / 8)) = i % 8 by omega,
    show T - 8 * (i / 8) - (i % 8 + 1) = T - 1 - i by omega, show T - 8 * (i / 8) - i % 8 = (T - 1 - i) + 1 by omega, show 2 ^ (T - 1 - i + 1) = 2 ^ (T - 1 - i) * 2 by rw [Nat.pow_succ], ← Nat.div_div_eq_div_mul]
  generalize x / 2 ^ (T - 1 - i) = z
  have hc : i % 8 < 8 := Nat.mod_lt _ (by omega)
  generalize i % 8 = c at *
  have : c = 0 ∨ c = 1 ∨ c = 2 ∨ c = 3 ∨ c = 4 ∨ c = 5 ∨ c = 6 ∨ c = 7 := by omega
  rcases this with rfl | rfl | rfl | rfl | rfl | rfl | rfl | rfl <;> simp only [Nat.reduceAdd, Nat.reduceSub, Nat.reducePow] <;> omega
theorem byteX_zero {x T i : Nat} (h : i % 8 = 0) : byteX x T i (i / 8) = 0 := by
  unfold byteX
  rw [show min 8 (i - 8 * (i / 8)) = 0 by omega, Nat.pow_zero, Nat.mod_one, Nat.zero_mul]
theorem byteX_lt (x T i q : Nat) : byteX x T i q < 256 := by
  unfold byteX
  have hc : min 8 (i - 8 * q) ≤ 8 := by omega
  generalize min 8 (i - 8 * q) = c at *
  have h1 : x / 2 ^ (T - 8 * q - c) % 2 ^ c < 2 ^ c := Nat.mod_lt _ (Nat.pow_pos (by omega))
  generalize x / 2 ^ (T - 8 * q - c) % 2 ^ c = z at *
  have : z * 2 ^ (8 - c) < 2 ^ c * 2 ^ (8 - c) := Nat.mul_lt_mul_of_pos_right h1 (Nat.pow_pos (by omega))
  rw [← Nat.pow_add, show c + (8 - c) = 8 by omega] at this
  exact this
def rowX (x T i : Nat) : List Int := (List.range (i / 8 + 1)).map fun q => (byteX x T i q : Int)
theorem rowX_eq (x T i : Nat) : rowX x T i = if i % 8 = 0 then bytesX x T i ++ [0] else bytesX x T i := by
  unfold rowX bytesX
  by_cases h : i % 8 = 0
  · rw [if_pos h, show (i + 7) / 8 = i / 8 by omega, List.range_succ, List.map_append]
    simp [byteX_zero h]
  · rw [if_neg h, show (i + 7) / 8 = i / 8 + 1 by omega]
theorem bytesX_succ {x T i : Nat} (h : i < T) : bytesX x T (i + 1) = (rowX x T i).set (i / 8) (((byteX x T i (i / 8) + (x / 2 ^ (T - 1 - i) % 2) * 2 ^ (7 - i % 8) : Nat)) : Int) := by
  unfold bytesX rowX
  rw [show (i + 1 + 7) / 8 = i / 8 + 1 by omega]
  apply List.ext_getElem?
  intro q
  rw [List.getElem?_set, List.getElem?_map, List.getElem?_map]
  simp only [List.length_map, List.length_range]
  by_cases hq : q < i / 8 + 1
  · rw [List.getElem?_range hq]
    by_cases e : i / 8 = q
    · subst e
      rw [if_pos rfl, if_pos hq, ← byteX_step h]
      rfl
    · rw [if_neg e]
      simp only [Option.map_some]
      rw [byteX_full (by omega)]
  · rw [List.getElem?_eq_none (by simp; omega), if_neg (by omega)]
    rfl
theorem F84_eq (R : Type) {n : Nat} (hn : n ≤ 7) (k : Int → Option R) : F84 R 1 (n : Int) k = k ((2 ^ n : Nat) : Int) := by
  have go : ∀ (m i : Nat), i ≤ n → n - i < m → G84_4 m R ((2 ^ i : Nat) : Int) (n : Int) (i : Int) k = k ((2 ^ n : Nat) : Int) := by
    intro m
    induction m with
    | zero => intro i _ h; omega
    | succ m ih =>
      intro i h1 h2
      simp only [G84_4, p84_4]
      by_cases hi : i < n
      · have hd : decide ((i : Int) < (n : Int)) = true := by simpa using hi
        have hp : 2 ^ i ≤ 2 ^ 7 := Nat.pow_le_pow_right (by omega) (by omega)
        have hp0 : 0 < 2 ^ i := Nat.pow_pos (by omega)
        simp only [hd]
        have := ih (i + 1) (by omega) (by omega)
        rw [wrap_u32 (n := 2 * ((2 ^ i : Nat) : Int)) (by omega) (by omega), wrap_i64 (n := (i : Int) + 1) (by omega) (by omega), show (2 : Int) * ((2 ^ i : Nat) : Int) = ((2 ^ (i + 1) : Nat) : Int) by rw [Nat.pow_succ]; omega]
        exact this
      · have : i = n := by omega
        subst this
        have hd : decide ((i : Int) < (i : Int)) = false := by simp
        simp only [hd]
  simp only [F84, p84]
  have hd : decide ((n : Int) > 31) = false := decide_eq_false (by omega)
  simp only [hd]
  exact go FUEL 0 (by omega) (by rw [FUEL_eq]; omega)
end Go.PG
namespace Go.PG
theorem G67_eq (R : Type) {x T : Nat} (hT : T ≤ 12) (hx : x < 2 ^ T) (k0 : List Int → Option R) : ∀ (m i : Nat), i ≤ T → T - i < m → G67_3 m R (x : Int) (T : Int) (i : Int) (bytesX x T i) k0 = k0 (bytesX x T T)
  | 0, i, _, h => by omega
  | m + 1, i, h1, h2 => by
    simp only [G67_3, p67_3]
    by_cases hi : i < T
    · have hd : decide ((i : Int) < (T : Int)) = true := by simpa using hi
      simp only [hd]
      have h12 : 2 ^ T ≤ 2 ^ 12 := Nat.pow_le_pow_right (by omega) hT
      have ih := G67_eq R hT hx k0 m (i + 1) (by omega) (by omega)
      have em : Int.tmod (i : Int) 8 = ((i % 8 : Nat) : Int) := by rw [Int.tmod_eq_emod_of_nonneg (by omega)]; omega
      have ex : IntKind.u32.wrap (Int.tmod (x : Int) 4294967296) = (x : Int) := by rw [Int.tmod_eq_emod_of_nonneg (by omega), wrap_u32 (by omega) (by omega)]; omega
      have et : IntKind.i64.wrap (IntKind.i64.wrap ((T : Int) - 1) - i) = ((T - 1 - i : Nat) : Int) := by rw [wrap_i64 (n := (T : Int) - 1) (by omega) (by omega), wrap_i64 (by omega) (by omega)]; omega
      have eq : IntKind.i64.wrap (Int.tdiv (i : Int) 8) = ((i / 8 : Nat) : Int) := by rw [Int.tdiv_eq_ediv_of_nonneg (by omega), wrap_i64 (by omega) (by omega)]; omega
      have e7 : IntKind.i64.wrap (7 - ((i % 8 : Nat) : Int)) = ((7 - i % 8 : Nat) : Int) := by rw [wrap_i64 (by omega) (by omega)]; omega
      have ei : IntKind.i64.wrap ((i : Int) + 1) = ((i + 1 : Nat) : Int) := by rw [wrap_i64 (by omega) (by omega)]; omega
      have es : shrS (x : Int) (T - 1 - i) = ((x / 2 ^ (T - 1 - i) : Nat) : Int) := by
        unfold shrS
        rw [Int.natCast_ediv]
        simp
      have e2 : Int.tmod ((x / 2 ^ (T - 1 - i) : Nat) : Int) 2 = ((x / 2 ^ (T - 1 - i) % 2 : Nat) : Int) := by
        have : ∀ z : Nat, Int.tmod (z : Int) 2 = ((z % 2 : Nat) : Int) := fun z => by rw [Int.tmod_eq_emod_of_nonneg (by omega)]; omega
        exact this _
      simp only [em, ex, et, eq, e7, ei]
      have hrl : (rowX x T i).length = i / 8 + 1 := by simp [rowX]
      have hrg : (rowX x T i).getD (i / 8) 0 = (byteX x T i (i / 8) : Int) := by simp [rowX]
      have tail : (F47 R (x : Int) ((T - 1 - i : Nat) : Int) fun y14 =>
          match Int.tmod y14 2 == 1 with
          | true => match bnd ((i / 8 : Nat) : Int) ((rowX x T i).length : Int) with
            | true => F84 R 1 ((7 - i % 8 : Nat) : Int) fun y22 => match bnd ((i / 8 : Nat) : Int) ((rowX x T i).length : Int) with
              | true => G67_3 m R (x : Int) (T : Int) ((i + 1 : Nat) : Int) (List.set (rowX x T i) (Int.toNat ((i / 8 : Nat) : Int)) (IntKind.u8.wrap (List.getD (rowX x T i) (Int.toNat ((i / 8 : Nat) : Int)) 0 + IntKind.u8.wrap y22))) k0
              | false => none
            | false => none
          | false => G67_3 m R (x : Int) (T : Int) ((i + 1 : Nat) : Int) (rowX x T i) k0) = k0 (bytesX x T T) := by
        rw [F47_eq R (x := (x : Int)) (by unfold U32; omega) (by omega), es, e2]
        have hset := bytesX_succ (x := x) hi
        have hstep := byteX_step (x := x) hi
        have hlt := byteX_lt x T (i + 1) (i / 8)
        rw [hset] at ih
        have hb : x / 2 ^ (T - 1 - i) % 2 = 0 ∨ x / 2 ^ (T - 1 - i) % 2 = 1 := by omega
        rcases hb with hb | hb
        · rw [hb] at ih ⊢
          have e0 : (((0 : Nat) : Int) == 1) = false := rfl
          simp only [e0]
          have : (rowX x T i).set (i / 8) ((byteX x T i (i / 8) + 0 * 2 ^ (7 - i % 8) : Nat) : Int) = rowX x T i := by
            rw [Nat.zero_mul, Nat.add_zero, ← hrg]
            apply List.ext_getElem?
            intro q
            rw [List.getElem?_set]
            by_cases e : i / 8 = q
            · subst e
              rw [if_pos rfl, if_pos (by omega)]
              simp [hrl]
            · rw [if_neg e]
          rw [this] at ih
          exact ih
        · rw [hb] at ih hstep ⊢
          have e0 : (((1 : Nat) : Int) == 1) = true := rfl
          have hbn : bnd ((i / 8 : Nat) : Int) ((rowX x T i).length : Int) = true := by rw [hrl]; unfold bnd; simp; omega
          simp only [e0, hbn, Int.toNat_natCast, hrg]
          rw [F84_eq R (by omega)]
          rw [Nat.one_mul] at hstep ih
          have hpp : 0 < 2 ^ (7 - i % 8) := Nat.pow_pos (by omega)
          rw [wrap_u8 (n := ((2 ^ (7 - i % 8) : Nat) : Int)) (by omega) (by omega), wrap_u8 (by omega) (by omega), ← Int.natCast_add]
          exact ih
      by_cases h0 : i % 8 = 0
      · have e0 : (((i % 8 : Nat) : Int) == 0) = true := by rw [h0]; rfl
        have hc : decide (List.length (bytesX x T i) + List.length [(0 : Int)] ≤ 140737488355328) = true := by simp [bytesX]; omega
        have hr : bytesX x T i ++ [0] = rowX x T i := by rw [rowX_eq, if_pos h0]
        simp only [e0, hc, hr]
        exact tail
      · have e0 : (((i % 8 : Nat) : Int) == 0) = false := beq_eq_false_iff_ne.2 (by omega)
        have hr : bytesX x T i = rowX x T i := by rw [rowX_eq, if_neg h0]
        simp only [e0, hr]
        exact tail
    · have : i = T := by omega
      subst this
      have hd : decide ((i : Int) < (i : Int)) = false := by simp
      simp only [hd]
theorem F67_eq (R : Type) {x T : Nat} (hT : T ≤ 12) (hx : x < 2 ^ T) (k : List Int → Option R) : F67 R (x : Int) (T : Int) k = k (bytesX x T T) := by
  simp only [F67, p67]
  exact G67_eq R hT hx (fun x1 => k x1) FUEL 0 (by omega) (by rw [FUEL_eq]; omega)
theorem bytesX_u8 (x T i : Nat) : AllU8 (bytesX x T i) := fun y hy => by
  unfold bytesX at hy
  obtain ⟨q, _, rfl⟩ := List.mem_map.1 hy
  have := byteX_lt x T i q
  unfold U8
  omega
def tapeX (x T : Nat) : Src := tapeSrc (bytesX x T T) (T : Int)
theorem bit_tape {x T n : Nat} (hn : n < T) : bitAt (tapeX x T) (n : Int) = ((x / 2 ^ (T - 1 - n) % 2 : Nat) : Int) := by
  unfold bitAt
  rw [if_pos (show (tapeX x T).1 = 1 from rfl)]
  have e1 : ((n : Int) / 8).toNat = n / 8 := by omega
  have e2 : (7 - (n : Int) % 8).toNat = 7 - n % 8 := by omega
  have e3 : (tapeX x T).2.1.getD (n / 8) 0 = (byteX x T T (n / 8) : Int) := by
    show (bytesX x T T).getD (n / 8) 0 = _
    unfold bytesX
    simp [show n / 8 < (T + 7) / 8 by omega]
  rw [e1, e2, e3]
  have key : byteX x T T (n / 8) / 2 ^ (7 - n % 8) % 2 = x / 2 ^ (T - 1 - n) % 2 := by
    unfold byteX
    have hc : n % 8 < min 8 (T - 8 * (n / 8)) := by omega
    have hc8 : min 8 (T - 8 * (n / 8)) ≤ 8 := by omega
    have he : T - 1 - n = (T - 8 * (n / 8) - min 8 (T - 8 * (n / 8))) + (min 8 (T - 8 * (n / 8)) - 1 - n % 8) := by omega
    rw [he, Nat.pow_add, ← Nat.div_div_eq_div_mul]
    generalize min 8 (T - 8 * (n / 8)) = c at *
    generalize x / 2 ^ (T - 8 * (n / 8) - c) = z
    generalize n % 8 = r at *
    have : c = 1 ∨ c = 2 ∨ c = 3 ∨ c = 4 ∨ c = 5 ∨ c = 6 ∨ c = 7 ∨ c = 8 := by omega
    have : r = 0 ∨ r = 1 ∨ r = 2 ∨ r = 3 ∨ r = 4 ∨ r = 5 ∨ r = 6 ∨ r = 7 := by omega
    rcases ‹c = 1 ∨ _› with rfl | rfl | rfl | rfl | rfl | rfl | rfl | rfl <;> rcases ‹r = 0 ∨ _› with rfl | rfl | rfl | rfl | rfl | rfl | rfl | rfl <;> simp only [Nat.reduceAdd, Nat.reduceSub, Nat.reducePow] <;> omega
  rw [← key, Int.natCast_emod, Int.natCast_ediv]
  simp
theorem take_tape {x T : Nat} : ∀ (n a : Nat), a + n ≤ T → takeV (tapeX x T) (a : Int) n = ((x / 2 ^ (T - a - n) % 2 ^ n : Nat) : Int)
  | 0, a, _ => by simp [takeV, Nat.mod_one]
  | n + 1, a, h => by
    simp only [takeV]
    rw [take_tape n a (by omega), ← Int.natCast_add, bit_tape (n := a + n) (by omega)]
    rw [show T - a - n = (T - 1 - (a + n)) + 1 by omega, show T - a - (n + 1) = T - 1 - (a + n) by omega]
    rw [show 2 ^ (T - 1 - (a + n) + 1) = 2 ^ (T - 1 - (a + n)) * 2 by rw [Nat.pow_succ], ← Nat.div_div_eq_div_mul]
    generalize x / 2 ^ (T - 1 - (a + n)) = z
    have : z % 2 ^ (n + 1) = 2 * (z / 2 % 2 ^ n) + z % 2 := by
      rw [show 2 ^ (n + 1) = 2 * 2 ^ n by rw [Nat.pow_succ, Nat.mul_comm], Nat.mod_mul]
      omega
    rw [this]
    omega
end Go.PG
